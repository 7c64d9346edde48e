/- Several texts, one behind the other. -/
import Derived.Test.YtbaifcnfdljhlaaGreatDoorMOpentoMPo
import Derived.RangeFuncBox
import Derived.RangeFuncFrom
import Derived.RangeFuncNested
import Derived.RangeFuncBound
import Derived.RangeFuncCalls
import Derived.RangeFuncLeaves
import Derived.Shelf.Abstract
import Derived.Shelf.RegionOpen
import Derived.WalkKit
import Derived.OwnWalkIn
import Derived.TacticsInMore
import Derived.LoopNIn
import Derived.LoopIn
import Derived.Test.YtbaifcnfdljhlaaGreatDoorProg
import Derived.Shelf.Strings.Builder1
import Derived.Shelf.Strings.Builder2
import Derived.Shelf.Strings.OnBuilder
import Derived.Shelf.Strings.BuilderF
import Derived.Shelf.Strings.BuilderK
import Derived.Shelf.Strings.Builder2Cap
import Derived.Shelf.Strconv.Itoa0
import Derived.Shelf.Strconv.Itoa1
import Derived.Shelf.LaysM
import Derived.Shelf.Strconv.Itoa2
import Derived.Shelf.Strconv.Itoa3
import Derived.Shelf.Strings.BuilderCap
import Derived.Ground.Names2Prog
import Derived.Shelf.Slices.Clone
import Derived.Ground.SlgnProg
import Derived.Shelf.SlicesE.Clone
import Derived.Test.YtbaifcnfdljhlaaGreatDoorMQ2toMV1
set_option linter.all false
namespace Go.Sx
open Go
set_option maxRecDepth 100000
set_option linter.unusedVariables false
set_option linter.unusedSimpArgs false
set_option maxHeartbeats 2000000
def cIn : Ctr := ⟨34, [.val false TI pF, .val false TI pF, .val false TI pF], fun x => True, fun x => (sBool (inV x.1 x.2.1 x.2.2.1), [])⟩
theorem cIn_ok : CtrOk Proofs.Tryz.prog cIn := by
 have hP := (Prg.none ttok mtok)
 refine ctr_of_body hP cIn (fn := Proofs.Tryz.f34) (rts := [.tmp 6]) Proofs.Tryz.func34 rfl (by kernel_rfl) rfl rfl ?_
 rintro ⟨(n : Int), (lo : Int), (hi : Int), ⟨⟩⟩ _ _
 try dsimp only [Ty.den, Mode.den, mdens] at _
 refine ⟨rfl, ?_⟩
 refine sw_seq (xr hP 1 rfl (sw_seq ?_))
 refine sw_dec hP 2 [] 3 rfl (fun g1_3 => ?_) (fun g1_3 => ?_)
 ·refine xd hP 2 [(3, true)] rfl (sw_ret ⟨.inl rfl, _, rfl, ?_⟩)
  simp [conj] at *
  simp [inV, *]
  try omega
 ·refine xd hP 2 [(3, false)] rfl (sw_ret ⟨.inl rfl, _, rfl, ?_⟩)
  simp [conj] at *
  simp [inV, *]
  try omega
def cDisks : Ctr := ⟨18, [.val false TI pF], fun x => True, fun x => (sBool (poolV x.1), [])⟩
theorem cDisks_ok : CtrOk Proofs.Tryz.prog cDisks := by
 have hP := ((Prg.none ttok mtok).and cIn_ok)
 refine ctr_of_body hP cDisks (fn := Proofs.Tryz.f18) (rts := [.tmp 2]) Proofs.Tryz.func18 rfl (by kernel_rfl) rfl rfl ?_
 rintro ⟨(n : Int), ⟨⟩⟩ _ _
 try dsimp only [Ty.den, Mode.den, mdens] at _
 refine ⟨rfl, ?_⟩
 refine sw_seq (xr hP 1 rfl (sw_seq (xg hP 2 [] rfl ?_ ?_)))
 ·simp only [cj, cl]
  try dsimp only [Ty.den, Ty.dflt]
  repeat' apply And.intro
  all_goals first | trivial | assumption | omega | exact decide_eq_true ‹_› | exact decide_eq_false ‹_› | (simp [*]; done)
 refine sw_ret ⟨.inl rfl, _, rfl, ?_⟩
 simp [conj, poolV]
def cName : Ctr := ⟨81, [.val false .str pF], fun x => True, fun x => (sBool (nameV x.1), [])⟩
theorem cName_ok : CtrOk Proofs.Tryz.prog cName := by
 have hP := ((Prg.none ttok mtok).and cIn_ok)
 refine ctr_of_body hP cName (fn := Proofs.Tryz.f81) (rts := [.tmp 2]) Proofs.Tryz.func81 rfl (by kernel_rfl) rfl rfl ?_
 rintro ⟨(s : Str), ⟨⟩⟩ ⟨hds, _⟩ hpre
 try dsimp only [Ty.den, Mode.den, mdens] at hpre
 refine ⟨rfl, ?_⟩
 have hml : s.length ≤ 140737488355328 := hds
 refine sw_seq (xr hP 1 rfl (sw_seq (sw_seq (xg hP 2 [] rfl ?_ ?_))))
 ·exact trivial
 refine sw_cond rfl (fun c1 => ?_) (fun c1 => ?_)
 ·refine sw_seq (xr hP 3 rfl (sw_ret ⟨.inl rfl, _, rfl, ?_⟩))
  first | (simp at c1; simp [conj, nameV, c1]; done) | (simp [gE hlt] at g6_4; simp only [conj, nameV, hin, all_hit hlt hgo (lower_l g6_4)]; rfl) | (simp [gE hlt] at c6; simp only [conj, nameV, hin, all_hit hlt hgo (lower_h c6)]; rfl) | (simp only [conj, nameV, hin, all_end hgo]; rfl)
 ·refine sw_skip (sw_seq (sw_seq (xr hP 3 rfl (sw_block (sw_loop (ι := Nat) (fun i => ⟨[.v false [.d .str pF s], .j, .j, sInt .i64 (i : Int), .j, .j, .j, .j, .j, .j, .j, .j, .j, .j, .j, .j, .j, .j, .j, .j, .j, .j, .j, .j], [], 3, []⟩) (fun i => s.length - i) (fun i => i ≤ s.length ∧ (inV s.length 1 3 = true) ∧ (s.drop i).all lower = s.all lower) 0 ⟨?_, ?_⟩ ?_)))))
  ·refine ⟨Nat.zero_le _, ?_, rfl⟩
   simpa using c1
  ·refine ent_ok rfl ?_
   first | trivial | (simp [conj]; done) | (simp [conj] at *; (try dsimp only [Ty.den, Ty.dflt] at *); omega)
  ·rintro i ⟨hi, hin, hgo⟩
   refine sw_seq (sw_seq (xr hP 4 rfl (sw_cond rfl (fun c4 => ?_) (fun c4 => ?_))))
   ·have hlt : i < s.length := by simpa using c4
    refine sw_skip (sw_seq (sw_block (sw_seq ?_)))
    refine sw_dec hP 5 [] 4 rfl (fun g6_4 => ?_) (fun g6_4 => ?_)
    ·refine xd hP 5 [(4, true)] rfl (sw_condT rfl (sw_seq (xr hP 6 rfl (sw_ret ⟨.inl rfl, _, rfl, ?_⟩))))
     first | (simp at c1; simp [conj, nameV, c1]; done) | (simp [gE hlt] at g6_4; simp only [conj, nameV, hin, all_hit hlt hgo (lower_l g6_4)]; rfl) | (simp [gE hlt] at c6; simp only [conj, nameV, hin, all_hit hlt hgo (lower_h c6)]; rfl) | (simp only [conj, nameV, hin, all_end hgo]; rfl)
    ·refine xd hP 5 [(4, false)] rfl (sw_cond rfl (fun c6 => ?_) (fun c6 => ?_))
     ·refine sw_seq (xr hP 6 rfl (sw_ret ⟨.inl rfl, _, rfl, ?_⟩))
      first | (simp at c1; simp [conj, nameV, c1]; done) | (simp [gE hlt] at g6_4; simp only [conj, nameV, hin, all_hit hlt hgo (lower_l g6_4)]; rfl) | (simp [gE hlt] at c6; simp only [conj, nameV, hin, all_hit hlt hgo (lower_h c6)]; rfl) | (simp only [conj, nameV, hin, all_end hgo]; rfl)
     ·refine sw_skip (xr hP 6 rfl (⟨i + 1, ?_, ?_, ent_ok rfl ?_⟩))
      ·simp [gE hlt] at g6_4 c6
       exact ⟨hlt, hin, all_next hlt hgo (lower_t g6_4 c6)⟩
      ·omega
      ·simp [conj]
   ·obtain rfl : i = s.length := by simp at c4; omega
    refine sw_exit (sw_seq (xr hP 5 rfl (sw_ret ⟨.inl rfl, _, rfl, ?_⟩)))
    first | (simp at c1; simp [conj, nameV, c1]; done) | (simp [gE hlt] at g6_4; simp only [conj, nameV, hin, all_hit hlt hgo (lower_l g6_4)]; rfl) | (simp [gE hlt] at c6; simp only [conj, nameV, hin, all_hit hlt hgo (lower_h c6)]; rfl) | (simp only [conj, nameV, hin, all_end hgo]; rfl)
def cColsS : Ctr := ⟨93, [.val false TI pF], fun x => 0 ≤ x.1 ∧ x.1 ≤ 1000000, fun x => (sInt .i64 (colsV x.1), [])⟩
theorem cColsS_ok : CtrOk Proofs.Tryz.prog cColsS := by
 have hP := (Prg.none ttok mtok)
 refine ctr_of_body hP cColsS (fn := Proofs.Tryz.f93) (rts := [.tmp 2]) Proofs.Tryz.func93 rfl (by kernel_rfl) rfl rfl ?_
 rintro ⟨(n : Int), ⟨⟩⟩ _ ⟨h0, h1⟩
 try dsimp only [Ty.den, Mode.den, mdens] at h0
 try dsimp only [Ty.den, Mode.den, mdens] at h1
 refine ⟨rfl, ?_⟩
 have hq := colsV_bd h0 h1
 unfold colsV at hq
 refine sw_seq (xr hP 1 rfl (sw_seq (xg hP 2 [] rfl ?_ ?_)))
 ·simp only [cj, cl]
  try dsimp only [Ty.den, Ty.dflt]
  repeat' apply And.intro
  all_goals first | rfl | omega | assumption | trivial
 refine sw_ret ⟨.inl rfl, _, rfl, ?_⟩
 simp [conj, colsV]
def cPtrS : Ctr := ⟨83, [.val false TI pF, .val true T_Ptr (.all .b)], fun x => poolV x.1 = true, fun x => (sBool (ptrW x.1 x.2.1), [])⟩
theorem cPtrS_ok : CtrOk Proofs.Tryz.prog cPtrS := by
 have hP := (((Prg.none ttok mtok).and cIn_ok).and cColsS_ok)
 refine ctr_of_body hP cPtrS (fn := Proofs.Tryz.f83) (rts := [.tmp 4]) Proofs.Tryz.func83 rfl (by kernel_rfl) rfl rfl ?_
 rintro ⟨(d : Int), ⟨(sz : Int), (sm : Int), (pl : List Plc)⟩, ⟨⟩⟩ ⟨_, ⟨_, _, hpl0⟩, _⟩ hpre
 try dsimp only [Ty.den, Mode.den, mdens] at hpre
 refine ⟨rfl, ?_⟩
 replace hpre : poolV d = true := hpre
 have hml : pl.length ≤ 140737488355328 := hpl0.1
 have hb : 3 ≤ d ∧ d ≤ 4 := by simpa [poolV, inV] using hpre
 have hmm := sMin_bd d hb
 have hmv : mostV d = 3 * (d - 1) := by unfold mostV; rw [hmm]
 refine sw_seq (xr hP 1 rfl (sw_seq (sw_seq (xr hP 2 rfl (sw_cond rfl (fun c1 => ?_) (fun c1 => ?_))))))
 ·replace c1 : sz = 0 := of_decide_eq_true c1
  refine sw_seq ?_
  refine sw_dec hP 3 [] 3 rfl (fun g2_3 => ?_) (fun g2_3 => ?_)
  ·replace g2_3 : sm = 0 := of_decide_eq_true g2_3
   refine xg hP 3 [(3, true)] rfl ?_ ?_
   ·simp only [cj, cl]
    try dsimp only [Ty.den, Ty.dflt]
    repeat' apply And.intro
    all_goals first | trivial | assumption | omega | exact decide_eq_true ‹_› | exact decide_eq_false ‹_› | (simp [*]; done)
   refine sw_ret ⟨.inl rfl, _, rfl, ?_⟩
   simp [conj, ptrW, c1, *]
   try omega
  ·replace g2_3 : ¬ sm = 0 := of_decide_eq_false g2_3
   refine xg hP 3 [(3, false)] rfl ?_ ?_
   ·simp only [cj, cl]
    try dsimp only [Ty.den, Ty.dflt]
    repeat' apply And.intro
    all_goals first | trivial | assumption | omega | exact decide_eq_true ‹_› | exact decide_eq_false ‹_› | (simp [*]; done)
   refine sw_ret ⟨.inl rfl, _, rfl, ?_⟩
   simp [conj, ptrW, c1, *]
   try omega
 ·replace c1 : ¬ sz = 0 := of_decide_eq_false c1
  refine sw_skip (sw_seq (sw_seq ?_))
  refine sw_dec hP 3 [] 8 rfl (fun g3_8 => ?_) (fun g3_8 => ?_)
  ·have k8 : inV sz 1 (mostV d) = false := by have h : (!inV sz 1 (mostV d)) = true := g3_8; simpa using h
   have hsz : sizeV d ((sz, sm, pl) : Ptr_) = false := by simp [sizeV, k8]
   refine xg hP 3 [(8, true)] rfl ?_ ?_
   ·simp only [cj, cl]
    try dsimp only [Ty.den, Ty.dflt]
    repeat' apply And.intro
    all_goals first | trivial | assumption | omega | (show 0 ≤ sz; omega) | (show sz ≤ 1000000; omega) | (show _ ≤ mostV d; omega) | (show mostV d ≤ _; omega) | exact g3_8 | exact g3_14
   refine sw_condT rfl (sw_seq (xr hP 4 rfl (sw_ret ⟨.inl rfl, _, rfl, ?_⟩)))
   simp [conj, ptrW, c1, hsz]
  ·have k8 : inV sz 1 (mostV d) = true := by have h : (!inV sz 1 (mostV d)) = false := g3_8; simpa using h
   have hs1 : 1 ≤ sz ∧ sz ≤ mostV d := by simpa [inV] using k8
   have hcb := colsV_bd (n := sz) (by omega) (by omega)
   refine sw_dec hP 3 [(8, false)] 14 rfl (fun g3_14 => ?_) (fun g3_14 => ?_)
   ·have k14 : inV sm 0 1000000000 = false := by have h : (!inV sm 0 1000000000) = true := g3_14; simpa using h
    have hsz : sizeV d ((sz, sm, pl) : Ptr_) = false := by simp [sizeV, k14]
    refine xg hP 3 [(8, false), (14, true)] rfl ?_ ?_
    ·simp only [cj, cl]
     try dsimp only [Ty.den, Ty.dflt]
     repeat' apply And.intro
     all_goals first | trivial | assumption | omega | (show 0 ≤ sz; omega) | (show sz ≤ 1000000; omega) | (show _ ≤ mostV d; omega) | (show mostV d ≤ _; omega) | exact g3_8 | exact g3_14
    refine sw_condT rfl (sw_seq (xr hP 4 rfl (sw_ret ⟨.inl rfl, _, rfl, ?_⟩)))
    simp [conj, ptrW, c1, hsz]
   ·have k14 : inV sm 0 1000000000 = true := by have h : (!inV sm 0 1000000000) = false := g3_14; simpa using h
    refine xg hP 3 [(8, false), (14, false)] rfl ?_ ?_
    ·simp only [cj, cl]
     try dsimp only [Ty.den, Ty.dflt]
     repeat' apply And.intro
     all_goals first | trivial | assumption | omega | (show 0 ≤ sz; omega) | (show sz ≤ 1000000; omega) | (show _ ≤ mostV d; omega) | (show mostV d ≤ _; omega) | exact g3_8 | exact g3_14
    refine sw_cond rfl (fun c3 => ?_) (fun c3 => ?_)
    ·have hsz : sizeV d ((sz, sm, pl) : Ptr_) = false := by
       have h : (!decide ((pl.length : Int) = colsV sz + 1)) = true := c3
       simp [sizeV] at h ⊢; intros; omega
     refine sw_seq (xr hP 4 rfl (sw_ret ⟨.inl rfl, _, rfl, ?_⟩))
     simp [conj, ptrW, c1, hsz]
    ·have hsz : sizeV d ((sz, sm, pl) : Ptr_) = true := by
       have h : (!decide ((pl.length : Int) = colsV sz + 1)) = false := c3
       simp [sizeV, k8, k14] at h ⊢; omega
     refine sw_skip (sw_seq (sw_seq (xr hP 4 rfl (sw_block (sw_loop (ι := Nat) (fun i => ⟨[sInt .i64 d, .j, .j, .v false [.ptr ⟨1, 0, 0⟩ 0], .j, sInt .i64 (i : Int), .j, .j, .j, .j, .j, .j, .j, .j, .j, .j, .j, .j, .j, .j, .j, .j, .j, .j, .j, .j, .j, .j, .j, .j, .j, .j, .j, .j, .j, .j, .j, .j, .j, .j, .j, .j, .j, .j, .j, .j, .j, .j, .j, .j, .j, .j, .j, .j, .j, .j, .j, .j, .j, .j, .j, .j, .j, .j, .j, .j, .j, .j, .j, .j, .j, .j, .j, .j, .j, .j, .j, .j, .j, .j, .j, .j, .j, .j, .j, .j, .j, .j], [(⟨1, 0, 0⟩, .var [.d TI pF sz, .d TI pF sm, .d (.sl T_Place) (.all .b) pl])], 4, []⟩) (fun i => pl.length - i) (fun i => i ≤ pl.length ∧ chkGo (placeF d) (pl.take i) (pl.drop i) = chk (placeF d) pl) 0 ⟨?_, ?_⟩ ?_)))))
     ·exact ⟨Nat.zero_le _, rfl⟩
     ·refine ent_ok rfl ?_
      simp [conj]
     ·rintro i ⟨hi, hgo⟩
      refine sw_seq (sw_seq (xr hP 5 rfl (sw_cond rfl (fun c6 => ?_) (fun c6 => ?_))))
      ·have hlt : i < pl.length := by simpa using c6
       refine sw_skip (sw_seq (sw_block (sw_seq (sw_seq ?_))))
       refine sw_dec hP 6 [] 10 rfl (fun g8_10 => ?_) (fun g8_10 => ?_)
       ·replace g8_10 : inV pl[i].1 0 (d - 1) = false := by simpa [gE hlt] using g8_10
        have hf : placeF d (pl.take i) pl[i] = false := by simp [placeF, placeV_no1 g8_10]
        refine xg hP 6 [(10, true)] rfl ?_ ?_
        ·simp [conj, gE hlt]
         repeat' apply And.intro
         all_goals first | omega | assumption | (simp [*]; done) | trivial
        refine sw_condT rfl (sw_seq (xr hP 7 rfl (sw_ret ⟨.inl rfl, _, rfl, ?_⟩)))
        have hv := chk_hit hlt hgo hf
        simp [conj, ptrW, c1, hsz, hv]
       ·replace g8_10 : inV pl[i].1 0 (d - 1) = true := by simpa [gE hlt] using g8_10
        refine xg hP 6 [(10, false)] rfl ?_ ?_
        ·simp [conj, gE hlt]
         repeat' apply And.intro
         all_goals first | omega | assumption | (simp [*]; done) | trivial
        refine sw_cond rfl (fun c8 => ?_) (fun c8 => ?_)
        ·replace c8 : inV pl[i].2 0 11 = false := by simpa [gE hlt] using c8
         have hf : placeF d (pl.take i) pl[i] = false := by simp [placeF, placeV_no2 c8]
         refine sw_seq (xr hP 7 rfl (sw_ret ⟨.inl rfl, _, rfl, ?_⟩))
         have hv := chk_hit hlt hgo hf
         simp [conj, ptrW, c1, hsz, hv]
        ·replace c8 : inV pl[i].2 0 11 = true := by simpa [gE hlt] using c8
         have hpv : placeV d pl[i] = true := placeV_yes g8_10 c8
         refine sw_skip (sw_seq (xr hP 7 rfl (sw_block (sw_loop (ι := Nat) (fun k => ⟨[sInt .i64 d, .j, .j, .v false [.ptr ⟨1, 0, 0⟩ 0], .j, sInt .i64 (i : Int), sInt .i64 (k : Int), .j, .j, .j, .j, .j, .j, .j, .j, .j, .j, .j, .j, .j, .j, .j, .j, .j, .j, .j, .j, .j, .j, .j, .j, .j, .j, .j, .j, .j, .j, .j, .j, .j, .j, .j, .j, .j, .j, .j, .j, .j, .j, .j, .j, .j, .j, .j, .j, .j, .j, .j, .j, .j, .j, .j, .j, .j, .j, .j, .j, .j, .j, .j, .j, .j, .j, .j, .j, .j, .j, .j, .j, .j, .j, .j, .j, .j, .j, .j, .j, .j], [(⟨1, 0, 0⟩, .var [.d TI pF sz, .d TI pF sm, .d (.sl T_Place) (.all .b) pl])], 7, []⟩) (fun k => i - k) (fun k => k ≤ i ∧ (pl.take k).any (fun q : Plc => decide (q.1 = pl[i].1)) = false) 0 ⟨?_, ?_⟩ ?_))))
         ·exact ⟨Nat.zero_le _, rfl⟩
         ·refine ent_ok rfl ?_
          simp [conj]
         ·rintro k ⟨hk, hgk⟩
          refine sw_seq (sw_seq (xr hP 8 rfl (sw_cond rfl (fun c11 => ?_) (fun c11 => ?_))))
          ·have hki : k < i := by simpa using c11
           have hlk : k < pl.length := by omega
           refine sw_skip (sw_seq (sw_block (sw_seq (xg hP 9 [] rfl ?_ ?_))))
           ·simp [conj, gE hlt, gE hlk]
            repeat' apply And.intro
            all_goals first | omega | trivial
           refine sw_cond rfl (fun c13 => ?_) (fun c13 => ?_)
           ·replace c13 : (fun q : Plc => decide (q.1 = pl[i].1)) pl[k] = true := by simpa [gE hlt, gE hlk] using c13
            have hf : placeF d (pl.take i) pl[i] = false := by unfold placeF; rw [any_hit hki hlk c13]; simp
            refine sw_seq (xr hP 10 rfl (sw_ret ⟨.inl rfl, _, rfl, ?_⟩))
            have hv := chk_hit hlt hgo hf
            simp [conj, ptrW, c1, hsz, hv]
           ·replace c13 : (fun q : Plc => decide (q.1 = pl[i].1)) pl[k] = false := by simpa [gE hlt, gE hlk] using c13
            refine sw_skip (xr hP 10 rfl (⟨k + 1, ?_, ?_, ent_ok rfl ?_⟩))
            ·exact ⟨hki, any_next hlk hgk c13⟩
            ·omega
            ·simp [conj]
          ·obtain rfl : k = i := by simp at c11; omega
           have hf : placeF d (pl.take k) pl[k] = true := by unfold placeF; rw [hpv, hgk]; rfl
           refine sw_exit (xr hP 9 rfl (⟨k + 1, ?_, ?_, ent_ok rfl ?_⟩))
           ·exact ⟨hlt, chk_next hlt hgo hf⟩
           ·omega
           ·simp [conj]
      ·obtain rfl : i = pl.length := by simp at c6; omega
       refine sw_exit (sw_seq (xr hP 6 rfl (sw_ret ⟨.inl rfl, _, rfl, ?_⟩)))
       have hv := chk_end hgo
       simp [conj, ptrW, c1, hsz, hv]
def cMeet : Ctr := ⟨84, [.val true T_Ptr (.all .b), .val true T_Ptr (.all .b)], fun x => True, fun x => (sBool (meetV x.1 x.2.1), [])⟩
theorem cMeet_ok : CtrOk Proofs.Tryz.prog cMeet := by
 have hP := (Prg.none ttok mtok)
 refine ctr_of_body hP cMeet (fn := Proofs.Tryz.f84) (rts := [.tmp 4]) Proofs.Tryz.func84 rfl (by kernel_rfl) rfl rfl ?_
 rintro ⟨⟨(sz : Int), (sm : Int), (pl : List Plc)⟩, ⟨(sz2 : Int), (sm2 : Int), (pl2 : List Plc)⟩, ⟨⟩⟩ ⟨⟨_, _, h1⟩, ⟨_, _, h2⟩, _⟩ _
 try dsimp only [Ty.den, Mode.den, mdens] at _
 refine ⟨rfl, ?_⟩
 have hm1 : pl.length ≤ 140737488355328 := h1.1
 have hm2 : pl2.length ≤ 140737488355328 := h2.1
 refine sw_seq (xr hP 1 rfl (sw_seq (sw_seq (xr hP 2 rfl (sw_block (sw_loop (ι := Nat) (fun i => ⟨[.j, .j, .v false [.ptr ⟨1, 0, 0⟩ 0], .v false [.ptr ⟨1, 1, 0⟩ 0], .j, sInt .i64 (i : Int), .j, .j, .j, .j, .j, .j, .j, .j, .j, .j, .j, .j, .j, .j, .j, .j, .j, .j, .j, .j, .j, .j, .j, .j, .j, .j], [(⟨1, 0, 0⟩, .var [.d TI pF sz, .d TI pF sm, .d (.sl T_Place) (.all .b) pl]), (⟨1, 1, 0⟩, .var [.d TI pF sz2, .d TI pF sm2, .d (.sl T_Place) (.all .b) pl2])], 2, []⟩) (fun i => pl.length - i) (fun i => i ≤ pl.length ∧ (pl.take i).any (fun a : Plc => pl2.any fun b => decide (a = b)) = false) 0 ⟨?_, ?_⟩ ?_))))))
 ·exact ⟨Nat.zero_le _, rfl⟩
 ·refine ent_ok rfl ?_
  simp [conj]
 ·rintro i ⟨hi, hgo⟩
  refine sw_seq (sw_seq (xr hP 3 rfl (sw_cond rfl (fun c2 => ?_) (fun c2 => ?_))))
  ·have hlt : i < pl.length := by simpa using c2
   refine sw_skip (sw_seq (sw_block (sw_seq (xr hP 4 rfl (sw_block (sw_loop (ι := Nat) (fun k => ⟨[.j, .j, .v false [.ptr ⟨1, 0, 0⟩ 0], .v false [.ptr ⟨1, 1, 0⟩ 0], .j, sInt .i64 (i : Int), sInt .i64 (k : Int), .j, .j, .j, .j, .j, .j, .j, .j, .j, .j, .j, .j, .j, .j, .j, .j, .j, .j, .j, .j, .j, .j, .j, .j, .j], [(⟨1, 0, 0⟩, .var [.d TI pF sz, .d TI pF sm, .d (.sl T_Place) (.all .b) pl]), (⟨1, 1, 0⟩, .var [.d TI pF sz2, .d TI pF sm2, .d (.sl T_Place) (.all .b) pl2])], 4, []⟩) (fun k => pl2.length - k) (fun k => k ≤ pl2.length ∧ (pl2.take k).any (fun b : Plc => decide (pl[i] = b)) = false) 0 ⟨?_, ?_⟩ ?_))))))
   ·exact ⟨Nat.zero_le _, rfl⟩
   ·refine ent_ok rfl ?_
    simp [conj]
   ·rintro k ⟨hk, hgk⟩
    refine sw_seq (sw_seq (xr hP 5 rfl (sw_cond rfl (fun c5 => ?_) (fun c5 => ?_))))
    ·have hlk : k < pl2.length := by simpa using c5
     refine sw_skip (sw_seq (sw_block (sw_seq (xg hP 6 [] rfl ?_ ?_))))
     ·simp [conj, gE hlt, gE hlk]
      repeat' apply And.intro
      all_goals first | omega | trivial
     refine sw_cond rfl (fun c7 => ?_) (fun c7 => ?_)
     ·have he : (fun b : Plc => decide (pl[i] = b)) pl2[k] = true := by
        have h := c7
        simp [gE hlt, gE hlk] at h
        simp only [decide_eq_true_eq]
        exact Prod.ext h.1 h.2
      have hv : meetV ((sz, sm, pl) : Ptr_) (sz2, sm2, pl2) = true := any_hit' (p := (fun a : Plc => pl2.any fun b => decide (a = b))) hlt (any_hit' (p := (fun b : Plc => decide (pl[i] = b))) hlk he)
      refine sw_seq (xr hP 7 rfl (sw_ret ⟨.inl rfl, _, rfl, ?_⟩))
      simp [conj, hv]
     ·have he : (fun b : Plc => decide (pl[i] = b)) pl2[k] = false := by
        simp only [decide_eq_false_iff_not]
        intro e
        simp [gE hlt, gE hlk, e] at c7
      refine sw_skip (xr hP 7 rfl (⟨k + 1, ?_, ?_, ent_ok rfl ?_⟩))
      ·exact ⟨hlk, any_next hlk hgk he⟩
      ·omega
      ·simp [conj]
    ·obtain rfl : k = pl2.length := by simp at c5; omega
     have hf := any_end hgk
     refine sw_exit (xr hP 6 rfl (⟨i + 1, ?_, ?_, ent_ok rfl ?_⟩))
     ·exact ⟨hlt, any_next hlt hgo hf⟩
     ·omega
     ·simp [conj]
  ·obtain rfl : i = pl.length := by simp at c2; omega
   refine sw_exit (sw_seq (xr hP 4 rfl (sw_ret ⟨.inl rfl, _, rfl, ?_⟩)))
   have hv : meetV ((sz, sm, pl) : Ptr_) (sz2, sm2, pl2) = false := any_end hgo
   simp [conj, hv]
def cSameS : Ctr := ⟨85, [.val true T_Ptr (.all .b), .val true T_Ptr (.all .b)], fun x => True, fun x => (sBool (decide ((x.1 : Ptr_) = x.2.1)), [])⟩
theorem cSameS_ok : CtrOk Proofs.Tryz.prog cSameS := by
 have hP := (Prg.none ttok mtok)
 refine ctr_of_body hP cSameS (fn := Proofs.Tryz.f85) (rts := [.tmp 4]) Proofs.Tryz.func85 rfl (by kernel_rfl) rfl rfl ?_
 rintro ⟨⟨(sz : Int), (sm : Int), (pl : List Plc)⟩, ⟨(sz2 : Int), (sm2 : Int), (pl2 : List Plc)⟩, ⟨⟩⟩ ⟨⟨_, _, h1⟩, ⟨_, _, h2⟩, _⟩ _
 try dsimp only [Ty.den, Mode.den, mdens] at _
 refine ⟨rfl, ?_⟩
 have hm1 : pl.length ≤ 140737488355328 := h1.1
 have hm2 : pl2.length ≤ 140737488355328 := h2.1
 refine sw_seq (xr hP 1 rfl (sw_seq (sw_seq ?_)))
 refine sw_dec hP 2 [] 5 rfl (fun g1_5 => ?_) (fun g1_5 => ?_)
 ·have k5 : ¬ sz = sz2 := by simpa using g1_5
  refine xg hP 2 [(5, true)] rfl ?_ ?_
  ·simp only [cj, cl]
   try dsimp only [Ty.den, Ty.dflt]
   repeat' apply And.intro
   all_goals first | trivial | exact g1_5 | exact g1_12 | assumption
  refine sw_condT rfl (sw_seq (xr hP 3 rfl (sw_ret ⟨.inl rfl, _, rfl, ?_⟩)))
  simp [conj, Prod.ext_iff, k5]
 ·have k5 : sz = sz2 := by simpa using g1_5
  refine sw_dec hP 2 [(5, false)] 12 rfl (fun g1_12 => ?_) (fun g1_12 => ?_)
  ·have k12 : ¬ sm = sm2 := by simpa using g1_12
   refine xg hP 2 [(5, false), (12, true)] rfl ?_ ?_
   ·simp only [cj, cl]
    try dsimp only [Ty.den, Ty.dflt]
    repeat' apply And.intro
    all_goals first | trivial | exact g1_5 | exact g1_12 | assumption
   refine sw_condT rfl (sw_seq (xr hP 3 rfl (sw_ret ⟨.inl rfl, _, rfl, ?_⟩)))
   simp [conj, Prod.ext_iff, k12]
  ·have k12 : sm = sm2 := by simpa using g1_12
   refine xg hP 2 [(5, false), (12, false)] rfl ?_ ?_
   ·simp only [cj, cl]
    try dsimp only [Ty.den, Ty.dflt]
    repeat' apply And.intro
    all_goals first | trivial | exact g1_5 | exact g1_12 | assumption
   refine sw_cond rfl (fun c1 => ?_) (fun c1 => ?_)
   ·replace c1 : ¬ pl.length = pl2.length := by simp at c1; omega
    refine sw_seq (xr hP 3 rfl (sw_ret ⟨.inl rfl, _, rfl, ?_⟩))
    have hv := eqL_len c1
    replace hv : ¬ pl = pl2 := of_decide_eq_false hv
    simp [conj, Prod.ext_iff, hv]
   ·replace c1 : pl.length = pl2.length := by simp at c1; omega
    refine sw_skip (sw_seq (sw_seq (xr hP 3 rfl (sw_block (sw_loop (ι := Nat) (fun i => ⟨[.j, .j, .v false [.ptr ⟨1, 0, 0⟩ 0], .v false [.ptr ⟨1, 1, 0⟩ 0], .j, sInt .i64 (i : Int), .j, .j, .j, .j, .j, .j, .j, .j, .j, .j, .j, .j, .j, .j, .j, .j, .j, .j, .j, .j, .j, .j, .j, .j, .j, .j, .j, .j, .j, .j, .j, .j, .j, .j, .j, .j, .j, .j, .j], [(⟨1, 0, 0⟩, .var [.d TI pF sz, .d TI pF sm, .d (.sl T_Place) (.all .b) pl]), (⟨1, 1, 0⟩, .var [.d TI pF sz2, .d TI pF sm2, .d (.sl T_Place) (.all .b) pl2])], 3, []⟩) (fun i => pl.length - i) (fun i => i ≤ pl.length ∧ decide (pl.drop i = pl2.drop i) = decide (pl = pl2)) 0 ⟨?_, ?_⟩ ?_)))))
    ·exact ⟨Nat.zero_le _, rfl⟩
    ·refine ent_ok rfl ?_
     simp [conj]
    ·rintro i ⟨hi, hgo⟩
     refine sw_seq (sw_seq (xr hP 4 rfl (sw_cond rfl (fun c4 => ?_) (fun c4 => ?_))))
     ·have hlt : i < pl.length := by simpa using c4
      have hlt2 : i < pl2.length := by omega
      refine sw_skip (sw_seq (sw_block (sw_seq (xg hP 5 [] rfl ?_ ?_))))
      ·simp [conj, gE hlt, gE hlt2]
       repeat' apply And.intro
       all_goals first | omega | trivial
      refine sw_cond rfl (fun c6 => ?_) (fun c6 => ?_)
      ·replace c6 : ¬ pl[i] = pl2[i] := by intro e; simp [gE hlt, gE hlt2, e] at c6
       refine sw_seq (xr hP 6 rfl (sw_ret ⟨.inl rfl, _, rfl, ?_⟩))
       have hv := eqL_hit hlt hlt2 hgo c6
       replace hv : ¬ pl = pl2 := of_decide_eq_false hv
       simp [conj, Prod.ext_iff, hv]
      ·replace c6 : pl[i] = pl2[i] := by have h := c6; simp [gE hlt, gE hlt2] at h; exact Prod.ext h.1 h.2
       refine sw_skip (xr hP 6 rfl (⟨i + 1, ?_, ?_, ent_ok rfl ?_⟩))
       ·exact ⟨hlt, eqL_next hlt hlt2 hgo c6⟩
       ·omega
       ·simp [conj]
     ·obtain rfl : i = pl.length := by simp at c4; omega
      refine sw_exit (sw_seq (xr hP 5 rfl (sw_ret ⟨.inl rfl, _, rfl, ?_⟩)))
      have hv := eqL_end c1 hgo
      replace hv : pl = pl2 := of_decide_eq_true hv
      simp [conj, k5, k12, hv]
def cAll : Ctr := ⟨82, [.val true T_Root (.all .b)], fun x => SmallV x.1.2, fun x => (.v false [.own ⟨1, 0, 0⟩], [(⟨1, 0, 0⟩, .sl T_Ptr (.all .b) (blksOf x.1.2))])⟩
theorem cAll_ok : CtrOk Proofs.Tryz.prog cAll := by
 have hP := (Prg.none ttok mtok)
 refine ctr_of_body hP cAll (fn := Proofs.Tryz.f82) (rts := [.tmp 2]) Proofs.Tryz.func82 rfl (by kernel_rfl) rfl rfl ?_
 rintro ⟨⟨(tg : Int), (l : List Vol_)⟩, ⟨⟩⟩ _ hpre
 try dsimp only [Ty.den, Mode.den, mdens] at hpre
 refine ⟨rfl, ?_⟩
 replace hpre : SmallV l := hpre
 have hml : l.length ≤ 100 := hpre.1
 refine sw_seq (xr hP 1 rfl (sw_seq (xr hP 2 rfl (sw_seq (sw_seq (xr hP 3 rfl (sw_block (sw_loop (ι := Nat) (fun i => ⟨[.j, .v false [.ptr ⟨1, 0, 0⟩ 0], .j, .v false [.own ⟨0, 9, 0⟩], sInt .i64 (i : Int), .j, .j, .j, .j, .j, .j, .j, .j, .j, .j, .j, .j, .j, .j, .j, .j, .j], [(⟨1, 0, 0⟩, .var [.d TI pF tg, .d (.sl T_Vol) (.all .b) l]), (⟨0, 9, 0⟩, .sl T_Ptr (.all .b) (blksOf (l.take i)))], 3, []⟩) (fun i => l.length - i) (fun i => i ≤ l.length) 0 ⟨?_, ?_⟩ ?_))))))))
 ·exact Nat.zero_le _
 ·refine ent_ok rfl ?_
  simp [conj, blksOf]
 ·rintro i hi
  refine sw_seq (sw_seq (xr hP 4 rfl (sw_cond rfl (fun c3 => ?_) (fun c3 => ?_))))
  ·have hlt : i < l.length := by simpa using c3
   have hb1 := blks_len hpre (i := i)
   have hb2 := hpre.2 _ (List.getElem_mem hlt)
   refine sw_skip (sw_seq (sw_block (xg hP 5 [] rfl ?_ ?_)))
   ·simp [conj, maxL, gE hlt]
    omega
   refine xr hP 6 rfl (⟨i + 1, ?_, ?_, ent_ok rfl ?_⟩)
   ·exact hlt
   ·omega
   ·simp [conj, gE hlt]
    exact flat_next hlt
  ·obtain rfl : i = l.length := by simp at c3; omega
   refine sw_exit (sw_seq (xr hP 5 rfl (sw_ret ⟨.inl rfl, _, rfl, ?_⟩)))
   simp [conj]
end Go.Sx

namespace Go.Sx
open Go
set_option maxRecDepth 100000
set_option linter.unusedVariables false
set_option linter.unusedSimpArgs false
set_option maxHeartbeats 2000000
def cVolsS : Ctr := ⟨70, [.val false TI pF, .val true T_Root (.all .b)], fun x => poolV x.1 = true ∧ List.length x.2.1.2 ≤ 4, fun x => (sBool (volsS x.1 x.2.1.2), [])⟩
theorem cVolsS_ok : CtrOk Proofs.Tryz.prog cVolsS := by
 have hP := ((((((Prg.none ttok mtok).and cName_ok).and cAll_ok).and cPtrS_ok).and cMeet_ok).and cSameS_ok)
 refine ctr_of_body hP cVolsS (fn := Proofs.Tryz.f70) (rts := [.tmp 4]) Proofs.Tryz.func70 rfl (by kernel_rfl) rfl rfl ?_
 rintro ⟨(d : Int), ⟨(tg : Int), (l : List Vol_)⟩, ⟨⟩⟩ ⟨_, ⟨_, hl0⟩, _⟩ ⟨hd1, h4⟩
 try dsimp only [Ty.den, Mode.den, mdens] at hd1
 try dsimp only [Ty.den, Mode.den, mdens] at h4
 refine ⟨rfl, ?_⟩
 replace hd1 : poolV d = true := hd1
 replace h4 : l.length ≤ 4 := h4
 refine sw_seq (xr hP 1 rfl (sw_seq (sw_seq (xr hP 2 rfl (sw_block (sw_loop (ι := Nat) (fun i => ⟨[sInt .i64 d, .j, .j, .v false [.ptr ⟨1, 0, 0⟩ 0], .j, sInt .i64 (i : Int), .j, .j, .j, .j, .j, .j, .j, .j, .j, .j, .j, .j, .j, .j, .j, .j, .j, .j, .j, .j, .j, .j, .j, .j, .j, .j, .j, .j, .j, .j, .j, .j, .j, .j, .j, .j, .j, .j, .j, .j, .j, .j, .j, .j, .j, .j, .j, .j, .j, .j, .j, .j, .j, .j, .j, .j, .j, .j, .j, .j, .j, .j, .j, .j, .j, .j, .j, .j, .j, .j, .j, .j, .j, .j, .j, .j, .j, .j, .j, .j, .j, .j, .j, .j, .j, .j, .j, .j], [(⟨1, 0, 0⟩, .var [.d TI pF tg, .d (.sl T_Vol) (.all .b) l])], 2, []⟩) (fun i => l.length - i) (fun i => i ≤ l.length ∧ chkGo volG (l.take i) (l.drop i) = chk volG l) 0 ⟨?_, ?_⟩ ?_))))))
 ·exact ⟨Nat.zero_le _, rfl⟩
 ·refine ent_ok rfl ?_
  simp [conj]
 ·rintro i ⟨hi, hgo⟩
  refine sw_seq (sw_seq (xr hP 3 rfl (sw_cond rfl (fun c2 => ?_) (fun c2 => ?_))))
  ·have hlt : i < l.length := by simpa using c2
   have hml2 : l[i].2.length ≤ 140737488355328 := (hl0.2 _ (List.getElem_mem hlt)).2.1
   refine sw_skip (sw_seq (sw_block (sw_seq (sw_seq ?_))))
   refine sw_dec hP 4 [] 8 rfl (fun g4_8 => ?_) (fun g4_8 => ?_)
   ·have k8 : nameV l[i].1 = false := by simpa [gE hlt] using g4_8
    have hf : volG (l.take i) l[i] = false := by simp [volG, k8]
    refine xg hP 4 [(8, true)] rfl ?_ ?_
    ·simp [conj, gE hlt]
     repeat' apply And.intro
     all_goals first | omega | assumption | (simp [*]; done) | trivial
    refine sw_condT rfl (sw_seq (xr hP 5 rfl (sw_ret ⟨.inl rfl, _, rfl, ?_⟩)))
    have hv := chk_hit hlt hgo hf
    simp [conj, volsS, hv]
   ·have k8 : nameV l[i].1 = true := by simpa [gE hlt] using g4_8
    refine xg hP 4 [(8, false)] rfl ?_ ?_
    ·simp [conj, gE hlt]
     repeat' apply And.intro
     all_goals first | omega | assumption | (simp [*]; done) | trivial
    refine sw_cond rfl (fun c4 => ?_) (fun c4 => ?_)
    ·replace c4 : ¬ l[i].2.length = 3 := by
       have h := c4
       simp [gE hlt] at h
       omega
     have hf : volG (l.take i) l[i] = false := by simp [volG, c4]
     refine sw_seq (xr hP 5 rfl (sw_ret ⟨.inl rfl, _, rfl, ?_⟩))
     have hv := chk_hit hlt hgo hf
     simp [conj, volsS, hv]
    ·replace c4 : l[i].2.length = 3 := by
       have h := c4
       simp [gE hlt] at h
       omega
     refine sw_skip (sw_seq (xr hP 5 rfl (sw_block (sw_loop (ι := Nat) (fun k => ⟨[sInt .i64 d, .j, .j, .v false [.ptr ⟨1, 0, 0⟩ 0], .j, sInt .i64 (i : Int), sInt .i64 (k : Int), .j, .j, .j, .j, .j, .j, .j, .j, .j, .j, .j, .j, .j, .j, .j, .j, .j, .j, .j, .j, .j, .j, .j, .j, .j, .j, .j, .j, .j, .j, .j, .j, .j, .j, .j, .j, .j, .j, .j, .j, .j, .j, .j, .j, .j, .j, .j, .j, .j, .j, .j, .j, .j, .j, .j, .j, .j, .j, .j, .j, .j, .j, .j, .j, .j, .j, .j, .j, .j, .j, .j, .j, .j, .j, .j, .j, .j, .j, .j, .j, .j, .j, .j, .j, .j, .j, .j], [(⟨1, 0, 0⟩, .var [.d TI pF tg, .d (.sl T_Vol) (.all .b) l])], 5, []⟩) (fun k => i - k) (fun k => k ≤ i ∧ (l.take k).any (fun w : Vol_ => decide (w.1 = l[i].1)) = false) 0 ⟨?_, ?_⟩ ?_))))
     ·exact ⟨Nat.zero_le _, rfl⟩
     ·refine ent_ok rfl ?_
      simp [conj]
     ·rintro k ⟨hk, hgk⟩
      refine sw_seq (sw_seq (xr hP 6 rfl (sw_cond rfl (fun c7 => ?_) (fun c7 => ?_))))
      ·have hki : k < i := by simpa using c7
       have hlk : k < l.length := by omega
       refine sw_skip (sw_seq (sw_block (sw_seq (xg hP 7 [] rfl ?_ ?_))))
       ·simp [conj, gE hlt, gE hlk]
        repeat' apply And.intro
        all_goals first | omega | trivial
       refine sw_cond rfl (fun c9 => ?_) (fun c9 => ?_)
       ·replace c9 : (fun w : Vol_ => decide (w.1 = l[i].1)) l[k] = true := by simpa [gE hlt, gE hlk] using c9
        have hf : volG (l.take i) l[i] = false := by unfold volG; rw [any_hit hki hlk c9]; simp
        refine sw_seq (xr hP 8 rfl (sw_ret ⟨.inl rfl, _, rfl, ?_⟩))
        have hv := chk_hit hlt hgo hf
        simp [conj, volsS, hv]
       ·replace c9 : (fun w : Vol_ => decide (w.1 = l[i].1)) l[k] = false := by simpa [gE hlt, gE hlk] using c9
        refine sw_skip (xr hP 8 rfl (⟨k + 1, ?_, ?_, ent_ok rfl ?_⟩))
        ·exact ⟨hki, any_next hlk hgk c9⟩
        ·omega
        ·simp [conj]
      ·obtain rfl : k = i := by simp at c7; omega
       have hf : volG (l.take k) l[k] = true := by unfold volG; rw [k8, hgk, c4]; rfl
       refine sw_exit (xr hP 7 rfl (⟨k + 1, ?_, ?_, ent_ok rfl ?_⟩))
       ·exact ⟨hlt, chk_next hlt hgo hf⟩
       ·omega
       ·simp [conj]
  ·obtain rfl : i = l.length := by simp at c2; omega
   have hvg : chk volG l = true := chk_end hgo
   have hsv := volG_small hvg h4
   have hbl := blks_all hsv
   refine sw_exit (sw_seq (xg hP 4 [] rfl ?_ ?_))
   ·simp [conj, maxL]
    try dsimp only [Ty.den, Ty.dflt]
    try simp only [rd_eta]
    exact hsv
   refine sw_seq (sw_seq (xr hP 5 rfl (sw_block (sw_loop (ι := Nat) (fun n => ⟨[sInt .i64 d, .j, .j, .v false [.ptr ⟨1, 0, 0⟩ 0], .j, .j, .j, .v false [.own ⟨0, 9, 0⟩], sInt .i64 (n : Int), .j, .j, .j, .j, .j, .j, .j, .j, .j, .j, .j, .j, .j, .j, .j, .j, .j, .j, .j, .j, .j, .j, .j, .j, .j, .j, .j, .j, .j, .j, .j, .j, .j, .j, .j, .j, .j, .j, .j, .j, .j, .j, .j, .j, .j, .j, .j, .j, .j, .j, .j, .j, .j, .j, .j, .j, .j, .j, .j, .j, .j, .j, .j, .j, .j, .j, .j, .j, .j, .j, .j, .j, .j, .j, .j, .j, .j, .j, .j, .j, .j, .j, .j, .j, .j], [(⟨1, 0, 0⟩, .var [.d TI pF tg, .d (.sl T_Vol) (.all .b) l]), (⟨0, 9, 0⟩, .sl T_Ptr (.all .b) (blksOf l))], 5, []⟩) (fun n => (blksOf l).length - n) (fun n => n ≤ (blksOf l).length ∧ chkGo (ptrG d) ((blksOf l).take n) ((blksOf l).drop n) = chk (ptrG d) (blksOf l)) 0 ⟨?_, ?_⟩ ?_))))
   ·exact ⟨Nat.zero_le _, rfl⟩
   ·refine ent_ok rfl ?_
    simp [conj]
   ·rintro n ⟨hn, hgn⟩
    refine sw_seq (sw_seq (xr hP 6 rfl (sw_cond rfl (fun c13 => ?_) (fun c13 => ?_))))
    ·have hln : n < (blksOf l).length := by simpa using c13
     refine sw_skip (sw_seq (sw_block (sw_seq (sw_seq (xg hP 7 [] rfl ?_ ?_)))))
     ·simp [conj, gE hln]
      repeat' apply And.intro
      all_goals first | omega | exact hd1 | trivial
     refine sw_cond rfl (fun c15 => ?_) (fun c15 => ?_)
     ·replace c15 : ptrW d (blksOf l)[n] = false := by simpa [gE hln] using c15
      have hf : ptrG d ((blksOf l).take n) (blksOf l)[n] = false := by simp [ptrG, c15]
      refine sw_seq (xr hP 8 rfl (sw_ret ⟨.inl rfl, _, rfl, ?_⟩))
      have hv := chk_hit hln hgn hf
      simp [conj, volsS, hvg, hv]
     ·replace c15 : ptrW d (blksOf l)[n] = true := by simpa [gE hln] using c15
      refine sw_skip (sw_seq (xr hP 8 rfl (sw_block (sw_loop (ι := Nat) (fun m => ⟨[sInt .i64 d, .j, .j, .v false [.ptr ⟨1, 0, 0⟩ 0], .j, .j, .j, .v false [.own ⟨0, 9, 0⟩], sInt .i64 (n : Int), sInt .i64 (m : Int), .j, .j, .j, .j, .j, .j, .j, .j, .j, .j, .j, .j, .j, .j, .j, .j, .j, .j, .j, .j, .j, .j, .j, .j, .j, .j, .j, .j, .j, .j, .j, .j, .j, .j, .j, .j, .j, .j, .j, .j, .j, .j, .j, .j, .j, .j, .j, .j, .j, .j, .j, .j, .j, .j, .j, .j, .j, .j, .j, .j, .j, .j, .j, .j, .j, .j, .j, .j, .j, .j, .j, .j, .j, .j, .j, .j, .j, .j, .j, .j, .j, .j, .j, .j], [(⟨1, 0, 0⟩, .var [.d TI pF tg, .d (.sl T_Vol) (.all .b) l]), (⟨0, 9, 0⟩, .sl T_Ptr (.all .b) (blksOf l))], 8, []⟩) (fun m => n - m) (fun m => m ≤ n ∧ ((blksOf l).take m).any (fun q : Ptr_ => meetV (blksOf l)[n] q && !decide ((blksOf l)[n] = q)) = false) 0 ⟨?_, ?_⟩ ?_))))
      ·exact ⟨Nat.zero_le _, rfl⟩
      ·refine ent_ok rfl ?_
       simp [conj]
      ·rintro m ⟨hm, hgm⟩
       refine sw_seq (sw_seq (xr hP 9 rfl (sw_cond rfl (fun c18 => ?_) (fun c18 => ?_))))
       ·have hmn : m < n := by simpa using c18
        have hlm : m < (blksOf l).length := by omega
        refine sw_skip (sw_seq (sw_block (sw_seq ?_)))
        refine sw_dec hP 10 [] 9 rfl (fun g20_9 => ?_) (fun g20_9 => ?_)
        ·have k9 : meetV (blksOf l)[n] (blksOf l)[m] = true := by simpa [gE hln, gE hlm] using g20_9
         refine xg hP 10 [(9, true)] rfl ?_ ?_
         ·simp [conj, gE hln, gE hlm]
          repeat' apply And.intro
          all_goals first | omega | assumption | exact k9 | trivial
         refine sw_cond rfl (fun c20 => ?_) (fun c20 => ?_)
         ·replace c20 : ¬ (blksOf l)[n] = (blksOf l)[m] := by
            intro e
            simp [gE hln, gE hlm, e] at c20
          have hq : (fun q : Ptr_ => meetV (blksOf l)[n] q && !decide ((blksOf l)[n] = q)) (blksOf l)[m] = true := by simp only [k9]; simp [c20]
          have hf : ptrG d ((blksOf l).take n) (blksOf l)[n] = false := by unfold ptrG; rw [any_hit hmn hlm hq]; simp
          refine sw_seq (xr hP 11 rfl (sw_ret ⟨.inl rfl, _, rfl, ?_⟩))
          have hv := chk_hit hln hgn hf
          simp [conj, volsS, hvg, hv]
         ·replace c20 : (blksOf l)[n] = (blksOf l)[m] := by
            have h := c20
            simp [gE hln, gE hlm] at h
            exact Prod.ext h.1 (Prod.ext h.2.1 h.2.2)
          have hq : (fun q : Ptr_ => meetV (blksOf l)[n] q && !decide ((blksOf l)[n] = q)) (blksOf l)[m] = false := by simp only [c20]; simp
          refine sw_skip (xr hP 11 rfl (⟨m + 1, ?_, ?_, ent_ok rfl ?_⟩))
          ·exact ⟨hmn, any_next hlm hgm hq⟩
          ·omega
          ·simp [conj]
        ·have k9 : meetV (blksOf l)[n] (blksOf l)[m] = false := by simpa [gE hln, gE hlm] using g20_9
         have hq : (fun q : Ptr_ => meetV (blksOf l)[n] q && !decide ((blksOf l)[n] = q)) (blksOf l)[m] = false := by simp only [k9]; rfl
         refine xg hP 10 [(9, false)] rfl ?_ ?_
         ·simp [conj, gE hln, gE hlm]
          repeat' apply And.intro
          all_goals first | omega | assumption | exact k9 | trivial
         refine sw_condF rfl (sw_skip (xr hP 11 rfl (⟨m + 1, ?_, ?_, ent_ok rfl ?_⟩)))
         ·exact ⟨hmn, any_next hlm hgm hq⟩
         ·omega
         ·simp [conj]
       ·obtain rfl : m = n := by simp at c18; omega
        have hf : ptrG d ((blksOf l).take m) (blksOf l)[m] = true := by unfold ptrG; rw [c15, hgm]; rfl
        refine sw_exit (xr hP 10 rfl (⟨m + 1, ?_, ?_, ent_ok rfl ?_⟩))
        ·exact ⟨hln, chk_next hln hgn hf⟩
        ·omega
        ·simp [conj]
    ·obtain rfl : n = (blksOf l).length := by simp at c13; omega
     refine sw_exit (sw_seq (xr hP 7 rfl (sw_ret ⟨.inl rfl, _, rfl, ?_⟩)))
     have hv := chk_end hgn
     simp [conj, volsS, hvg, hv]
def cRootOkS : Ctr := ⟨53, [.val false TI pF, .val true T_Root (.all .b)], fun x => True, fun x => (sBool (rootS x.1 x.2.1), [])⟩
theorem cRootOkS_ok : CtrOk Proofs.Tryz.prog cRootOkS := by
 have hP := ((((Prg.none ttok mtok).and cDisks_ok).and cIn_ok).and cVolsS_ok)
 refine ctr_of_body hP cRootOkS (fn := Proofs.Tryz.f53) (rts := [.tmp 4]) Proofs.Tryz.func53 rfl (by kernel_rfl) rfl rfl ?_
 rintro ⟨(d : Int), ⟨(tg : Int), (l : List Vol_)⟩, ⟨⟩⟩ _ _
 try dsimp only [Ty.den, Mode.den, mdens] at _
 refine ⟨rfl, ?_⟩
 refine sw_seq (xr hP 1 rfl (sw_seq ?_))
 refine sw_dec hP 2 [] 2 rfl (fun g1_2 => ?_) (fun g1_2 => ?_)
 ·have k2 : poolV d = true := g1_2
  refine sw_dec hP 2 [(2, true)] 7 rfl (fun g1_7 => ?_) (fun g1_7 => ?_)
  ·have k7 : inV tg 0 100000 = true := g1_7
   refine sw_dec hP 2 [(2, true), (7, true)] 13 rfl (fun g1_13 => ?_) (fun g1_13 => ?_)
   ·have k13 : l.length ≤ 4 := by have h := g1_13; simp at h; omega
    refine xg hP 2 [(2, true), (7, true), (13, true)] rfl ?_ ?_
    ·simp only [cj, cl]
     try dsimp only [Ty.den, Ty.dflt]
     repeat' apply And.intro
     all_goals first | trivial | exact g1_2 | exact g1_7 | exact g1_13 | assumption | exact k2 | exact k13
    refine sw_ret ⟨.inl rfl, _, rfl, ?_⟩
    simp [conj, rootS, *]
   ·have k13 : ¬ l.length ≤ 4 := by have h := g1_13; simp at h; omega
    refine xg hP 2 [(2, true), (7, true), (13, false)] rfl ?_ ?_
    ·simp only [cj, cl]
     try dsimp only [Ty.den, Ty.dflt]
     repeat' apply And.intro
     all_goals first | trivial | exact g1_2 | exact g1_7 | exact g1_13 | assumption | exact k2 | exact k13
    refine sw_ret ⟨.inl rfl, _, rfl, ?_⟩
    simp [conj, rootS, *]
  ·have k7 : inV tg 0 100000 = false := g1_7
   refine xg hP 2 [(2, true), (7, false)] rfl ?_ ?_
   ·simp only [cj, cl]
    try dsimp only [Ty.den, Ty.dflt]
    repeat' apply And.intro
    all_goals first | trivial | exact g1_2 | exact g1_7 | exact g1_13 | assumption | exact k2 | exact k13
   refine sw_ret ⟨.inl rfl, _, rfl, ?_⟩
   simp [conj, rootS, *]
 ·have k2 : poolV d = false := g1_2
  refine xg hP 2 [(2, false)] rfl ?_ ?_
  ·simp only [cj, cl]
   try dsimp only [Ty.den, Ty.dflt]
   repeat' apply And.intro
   all_goals first | trivial | exact g1_2 | exact g1_7 | exact g1_13 | assumption | exact k2 | exact k13
  refine sw_ret ⟨.inl rfl, _, rfl, ?_⟩
  simp [conj, rootS, *]
def cDecK (k : Nat) : Ctr := ⟨55, [.val false TI pF], fun x => 0 ≤ x.1 ∧ 1 ≤ k ∧ x.1 < 10 ^ k, fun x => (sStr (itoaV x.1), [])⟩
theorem cDecK_ok : ∀ k, CtrOk Proofs.Tryz.prog (cDecK k) := by
  intro k
  induction k with
  | zero =>
    rintro G w args ⟨(n : Int), ⟨⟩⟩ _ _ _ ⟨_, h1, _⟩
    exact absurd h1 (by decide)
  | succ k ih =>
   have hP := ((Prg.none ttok mtok).and ih)
   refine ctr_of_body hP (cDecK (k + 1)) (fn := Proofs.Tryz.f55) (rts := [.tmp 2]) Proofs.Tryz.func55 rfl (by kernel_rfl) rfl rfl ?_
   rintro ⟨(n : Int), ⟨⟩⟩ ⟨hn0, _⟩ ⟨h0, _, h1⟩
   try dsimp only [Ty.den, Mode.den, mdens] at h0
   try dsimp only [Ty.den, Mode.den, mdens] at _
   try dsimp only [Ty.den, Mode.den, mdens] at h1
   refine ⟨rfl, ?_⟩
   replace hn0 : inR .i64 n := hn0
   rw [inR_i64] at hn0
   replace h0 : 0 ≤ n := h0
   replace h1 : n < 10 ^ (k + 1) := h1
   rw [Int.pow_succ] at h1
   have hq : n.tdiv 10 = n / 10 := Int.tdiv_eq_ediv_of_nonneg h0
   have hr : n.tmod 10 = n % 10 := Int.tmod_eq_emod_of_nonneg h0
   have hlq : (itoaV (n.tdiv 10)).length ≤ 21 := itoaV_len (by rw [inR_i64]; omega)
   refine sw_seq (xr hP 1 rfl (sw_seq (sw_seq (xr hP 2 rfl (sw_cond rfl (fun c1 => ?_) (fun c1 => ?_))))))
   ·have h : n < -9223372036854775807 := of_decide_eq_true c1
    omega
   ·refine sw_skip (sw_seq (sw_seq (xr hP 3 rfl (sw_cond rfl (fun c3 => ?_) (fun c3 => ?_)))))
    ·have h : n < 0 := of_decide_eq_true c3
     omega
    ·refine sw_skip (sw_seq (sw_seq (xr hP 4 rfl (sw_cond rfl (fun c5 => ?_) (fun c5 => ?_)))))
     ·replace c5 : n < 10 := of_decide_eq_true c5
      refine sw_seq (xg hP 5 [] rfl ?_ ?_)
      ·simp only [cj, inR_u8, cl]
       try dsimp only [Ty.den, Ty.dflt]
       repeat' apply And.intro
       all_goals first | omega | trivial
      refine sw_ret ⟨.inl rfl, _, rfl, ?_⟩
      simp [conj, ofBytes]
      exact (itoaV_small h0 c5).symm
     ·replace c5 : ¬ n < 10 := of_decide_eq_false c5
      have hk : 1 ≤ k := by
        rcases k with _ | k
        · simp at h1; omega
        · omega
      refine sw_skip (sw_seq (xg hP 5 [] rfl ?_ ?_))
      ·simp only [cj, inR_u8, cl]
       try dsimp only [Ty.den, Ty.dflt]
       repeat' apply And.intro
       all_goals first | omega | (show 0 ≤ n.tdiv 10; omega) | (show n.tdiv 10 < 10 ^ k; omega) | (show _ ≤ n.tdiv 10; omega) | (show n.tdiv 10 ≤ _; omega) | (show _ ≤ 48 + n.tmod 10; omega) | (show 48 + n.tmod 10 ≤ _; omega) | trivial | exact hk | (show (itoaV (n.tdiv 10)).length + 1 ≤ 140737488355328; omega) | trace_state
      refine sw_ret ⟨.inl rfl, _, rfl, ?_⟩
      simp [conj, ofBytes]
      rw [itoaV_big h0 c5, hq, hr]
def cDec : Ctr := ⟨(cDecK 0).f, [.val false TI pF], fun x => 0 ≤ x.1, fun x => (sStr (itoaV x.1), [])⟩
theorem cDec_ok : CtrOk Proofs.Tryz.prog cDec := by
  rintro G w args ⟨(n : Int), ⟨⟩⟩ hb ha hargs h0
  have hn : inR .i64 n := by
    obtain ⟨v, vs, _, ⟨_, cs, _, _, ⟨_, hn⟩⟩, _⟩ := hargs
    exact hn
  rw [inR_i64] at hn
  exact cDecK_ok 19 G w args (n, ()) hb ha hargs ⟨h0, by decide, by show n < (10 : Int) ^ 19; rw [show (10 : Int) ^ 19 = 10000000000000000000 by decide]; omega⟩
def cLineS : Ctr := ⟨71, [.val true T_Ptr (.all .b)], fun x => ∃ d, ptrV d x.1 = true, fun x => (sStr (lineV x.1), [])⟩
theorem cLineS_ok : CtrOk Proofs.Tryz.prog cLineS := by
 have hP := ((Prg.none ttok mtok).and cDec_ok)
 refine ctr_of_body hP cLineS (fn := Proofs.Tryz.f71) (rts := [.tmp 2]) Proofs.Tryz.func71 rfl (by kernel_rfl) rfl rfl ?_
 rintro ⟨⟨(sz : Int), (sm : Int), (pl : List Plc)⟩, ⟨⟩⟩ ⟨⟨hz0, hm0, hpl0⟩, _⟩ ⟨d, hpre⟩
 try dsimp only [Ty.den, Mode.den, mdens] at d
 try dsimp only [Ty.den, Mode.den, mdens] at hpre
 refine ⟨rfl, ?_⟩
 replace hpre : ptrV d ((sz, sm, pl) : Ptr_) = true := hpre
 have hl4 : pl.length ≤ 4 := ptrV_len hpre
 have hi1 : (itoaV sz).length ≤ 21 := itoaV_len hz0
 have hi2 : (itoaV sm).length ≤ 21 := itoaV_len hm0
 refine sw_seq (xr hP 1 rfl (sw_seq (sw_seq (xr hP 2 rfl (sw_cond rfl (fun c1 => ?_) (fun c1 => ?_))))))
 ·replace c1 : sz = 0 := of_decide_eq_true c1
  have hnn : noneV ((sz, sm, pl) : Ptr_) = true := ptrV_none hpre c1
  refine sw_seq (xr hP 3 rfl (sw_ret ⟨.inl rfl, _, rfl, ?_⟩))
  simp [conj, lineV, hnn, bytesL]
  rfl
 ·replace c1 : ¬ sz = 0 := of_decide_eq_false c1
  have hnn : noneV ((sz, sm, pl) : Ptr_) = false := by simp [noneV, c1]
  obtain ⟨hp1, hp2, hp3⟩ := ptrV_pos hpre c1
  refine sw_skip (sw_seq (xg hP 3 [] rfl ?_ ?_))
  ·simp [conj, maxL, bytesL]
   repeat' apply And.intro
   all_goals first | omega | exact hp1 | exact hp2 | trivial
  refine sw_seq (sw_seq (xr hP 4 rfl (sw_block (sw_loop (ι := Nat × Str) (fun ⟨i, o⟩ => ⟨[.j, .v false [.ptr ⟨1, 0, 0⟩ 0], .j, sStr o, sInt .i64 (i : Int), .j, .j, .j, .j, .j, .j, .j, .j, .j, .j, .j, .j, .j, .j, .j, .j, .j, .j, .j, .j, .j, .j, .j, .j, .j, .j, .j, .j, .j, .j, .j, .j, .j, .j, .j, .j, .j, .j, .j, .j], [(⟨1, 0, 0⟩, .var [.d TI pF sz, .d TI pF sm, .d (.sl T_Place) (.all .b) pl])], 4, []⟩) (fun ⟨i, o⟩ => pl.length - i) (fun ⟨i, o⟩ => i ≤ pl.length ∧ o ++ catGo wordS (pl.drop i) = (Lib.join (wordsV ((sz, sm, pl) : Ptr_)) [32]) ∧ o.length ≤ 50 + i * 50) (0, tPtr ++ [32] ++ itoaV sz ++ [32] ++ itoaV sm) ⟨?_, ?_⟩ ?_))))
  ·exact ⟨Nat.zero_le _, words_join.symm, by simp [tPtr]; omega⟩
  ·refine ent_ok rfl ?_
   simp [conj, bytesL]
   rfl
  ·rintro ⟨i, o⟩ ⟨hi, hgo, hol⟩
   refine sw_seq (sw_seq (xr hP 5 rfl (sw_cond rfl (fun c5 => ?_) (fun c5 => ?_))))
   ·have hlt : i < pl.length := by simpa using c5
    have hin := hpl0.2 _ (List.getElem_mem hlt)
    have hpp := hp3 _ (List.getElem_mem hlt)
    have hi3 : (itoaV pl[i].1).length ≤ 21 := itoaV_len hin.1
    have hi4 : (itoaV pl[i].2).length ≤ 21 := itoaV_len hin.2
    refine sw_skip (sw_seq (sw_block (xg hP 6 [] rfl ?_ ?_)))
    ·simp [conj, maxL, bytesL, gE hlt]
     repeat' apply And.intro
     all_goals first | omega | exact hpp.1 | exact hpp.2 | trivial
    refine xr hP 7 rfl (⟨(i + 1, o ++ wordS pl[i]), ?_, ?_, ent_ok rfl ?_⟩)
    ·exact ⟨hlt, cat_next hlt hgo, by simp [wordS, wordV]; omega⟩
    ·show pl.length - (i + 1) < pl.length - i
     omega
    ·simp [conj, bytesL, wordS, wordV, gE hlt]
   ·obtain rfl : i = pl.length := by simp at c5; omega
    have hv := cat_end hgo
    subst hv
    refine sw_exit (sw_seq (xg hP 6 [] rfl ?_ ?_))
    ·simp [conj, maxL, bytesL]
     repeat' apply And.intro
     all_goals first | omega | trivial
    refine sw_ret ⟨.inl rfl, _, rfl, ?_⟩
    simp [conj, lineV, hnn, bytesL]
def cTextS : Ctr := ⟨54, [.val true T_Root (.all .b)], fun x => ∃ d, rootV d x.1 = true, fun x => (sStr (bodyV x.1), [])⟩
theorem cTextS_ok : CtrOk Proofs.Tryz.prog cTextS := by
 have hP := (((Prg.none ttok mtok).and cDec_ok).and cLineS_ok)
 refine ctr_of_body hP cTextS (fn := Proofs.Tryz.f54) (rts := [.tmp 2]) Proofs.Tryz.func54 rfl (by kernel_rfl) rfl rfl ?_
 rintro ⟨⟨(tg : Int), (l : List Vol_)⟩, ⟨⟩⟩ ⟨⟨ht0, hl0⟩, _⟩ ⟨d, hpre⟩
 try dsimp only [Ty.den, Mode.den, mdens] at d
 try dsimp only [Ty.den, Mode.den, mdens] at hpre
 refine ⟨rfl, ?_⟩
 replace hpre : rootV d ((tg, l) : Root_) = true := hpre
 have hs := rootV_small hpre
 have ht1 : 0 ≤ tg := rootV_txg hpre
 have hi1 : (itoaV tg).length ≤ 21 := itoaV_len ht0
 have hml : l.length ≤ 4 := hs.1
 refine sw_seq (xr hP 1 rfl (sw_seq (xg hP 2 [] rfl ?_ ?_)))
 ·simp [conj, maxL, bytesL]
  repeat' apply And.intro
  all_goals first | omega | exact ht1 | trivial
 refine sw_seq (sw_seq (xr hP 3 rfl (sw_block (sw_loop (ι := Nat × Str) (fun ⟨i, o⟩ => ⟨[.j, .v false [.ptr ⟨1, 0, 0⟩ 0], .j, sStr o, sInt .i64 (i : Int), .j, .j, .j, .j, .j, .j, .j, .j, .j, .j, .j, .j, .j, .j, .j, .j, .j, .j, .j, .j, .j, .j, .j, .j, .j, .j, .j, .j, .j, .j, .j, .j, .j, .j, .j, .j, .j, .j, .j, .j, .j, .j, .j, .j, .j, .j, .j], [(⟨1, 0, 0⟩, .var [.d TI pF tg, .d (.sl T_Vol) (.all .b) l])], 3, []⟩) (fun ⟨i, o⟩ => l.length - i) (fun ⟨i, o⟩ => i ≤ l.length ∧ o ++ catGo volT (l.drop i) = bodyV ((tg, l) : Root_) ∧ o.length ≤ 27 + i * 1000) (0, tRoot ++ itoaV tg ++ [10]) ⟨?_, ?_⟩ ?_))))
 ·exact ⟨Nat.zero_le _, rfl, by simp [tRoot]; omega⟩
 ·refine ent_ok rfl ?_
  simp [conj, bytesL]
  try rfl
 ·rintro ⟨i, o⟩ ⟨hi, hgo, hol⟩
  refine sw_seq (sw_seq (xr hP 4 rfl (sw_cond rfl (fun c3 => ?_) (fun c3 => ?_))))
  ·have hlt : i < l.length := by simpa using c3
   obtain ⟨hn3, hb3, hpv⟩ := hs.2 _ (List.getElem_mem hlt)
   refine sw_skip (sw_seq (sw_block (sw_seq (xg hP 5 [] rfl ?_ ?_))))
   ·simp [conj, maxL, bytesL, gE hlt]
    repeat' apply And.intro
    all_goals first | omega | trivial
   refine sw_seq (xr hP 6 rfl (sw_block (sw_loop (ι := Nat × Str) (fun ⟨j, o⟩ => ⟨[.j, .v false [.ptr ⟨1, 0, 0⟩ 0], .j, sStr o, sInt .i64 (i : Int), sInt .i64 (j : Int), .j, .j, .j, .j, .j, .j, .j, .j, .j, .j, .j, .j, .j, .j, .j, .j, .j, .j, .j, .j, .j, .j, .j, .j, .j, .j, .j, .j, .j, .j, .j, .j, .j, .j, .j, .j, .j, .j, .j, .j, .j, .j, .j, .j, .j, .j], [(⟨1, 0, 0⟩, .var [.d TI pF tg, .d (.sl T_Vol) (.all .b) l])], 6, []⟩) (fun ⟨j, o⟩ => l[i].2.length - j) (fun ⟨j, o⟩ => j ≤ l[i].2.length ∧ (o ++ catGo lineV (l[i].2.drop j)) ++ catGo volT (l.drop (i + 1)) = bodyV ((tg, l) : Root_) ∧ o.length ≤ 27 + i * 1000 + 8 + j * 300) (0, o ++ (tVol ++ l[i].1 ++ [10])) ⟨?_, ?_⟩ ?_)))
   ·exact ⟨Nat.zero_le _, vol_in hlt hgo, by simp [tVol]; omega⟩
   ·refine ent_ok rfl ?_
    simp [conj, bytesL, gE hlt]
    try rfl
   ·rintro ⟨j, o⟩ ⟨hj, hgo2, hol2⟩
    refine sw_seq (sw_seq (xg hP 7 [] rfl ?_ ?_))
    ·simp [conj, gE hlt]
     repeat' apply And.intro
     all_goals first | omega | trivial
    refine sw_cond rfl (fun c7 => ?_) (fun c7 => ?_)
    ·have hlj : j < l[i].2.length := by
       have h := c7
       simp [gE hlt] at h
       omega
     have hpj := hpv _ (List.getElem_mem hlj)
     obtain ⟨dd, hpd⟩ := hpj
     have hok := (hl0.2 _ (List.getElem_mem hlt)).2.2 _ (List.getElem_mem hlj)
     have hll := lineV_len' hok.1 hok.2.1 hok.2.2.2 hpd
     refine sw_skip (sw_seq (sw_block (xg hP 8 [] rfl ?_ ?_)))
     ·simp [conj, maxL, gE hlt, gE hlj]
      repeat' apply And.intro
      all_goals first | omega | exact ⟨dd, hpd⟩ | (have h : List.length (lineV l[i].2[j]) ≤ 300 := hll; show o.length + List.length (lineV l[i].2[j]) ≤ 140737488355328; omega) | trivial
     refine xr hP 9 rfl (⟨(j + 1, o ++ lineV l[i].2[j]), ?_, ?_, ent_ok rfl ?_⟩)
     ·exact ⟨hlj, vol_line hlj hgo2, by simp; omega⟩
     ·show l[i].2.length - (j + 1) < l[i].2.length - j
      omega
     ·simp [conj, gE hlt, gE hlj]
    ·obtain rfl : j = l[i].2.length := by
       have h := c7
       simp [gE hlt] at h
       omega
     refine sw_exit (xr hP 8 rfl (⟨(i + 1, o), ?_, ?_, ent_ok rfl ?_⟩))
     ·exact ⟨hlt, vol_out hgo2, by show o.length ≤ 27 + (i + 1) * 1000; omega⟩
     ·show l.length - (i + 1) < l.length - i
      omega
     ·simp [conj]
  ·obtain rfl : i = l.length := by simp at c3; omega
   have hv := cat_end hgo
   subst hv
   refine sw_exit (sw_seq (xr hP 5 rfl (sw_ret ⟨.inl rfl, _, rfl, ?_⟩)))
   simp [conj]
def cCheck : Ctr := ⟨56, [.val false .str pF], fun x => List.length x.1 ≤ 1000000, fun x => (sInt .i64 (weighV x.1), [])⟩
theorem cCheck_ok : CtrOk Proofs.Tryz.prog cCheck := by
 have hP := (Prg.none ttok mtok)
 refine ctr_of_body hP cCheck (fn := Proofs.Tryz.f56) (rts := [.tmp 2]) Proofs.Tryz.func56 rfl (by kernel_rfl) rfl rfl ?_
 rintro ⟨(s : Str), ⟨⟩⟩ _ hpre
 try dsimp only [Ty.den, Mode.den, mdens] at hpre
 refine ⟨rfl, ?_⟩
 replace hpre : s.length ≤ 1000000 := hpre
 refine sw_seq (xr hP 1 rfl (sw_seq (xr hP 2 rfl (sw_seq (sw_seq (xr hP 3 rfl (sw_block (sw_loop (ι := Nat × Int) (fun ⟨i, n⟩ => ⟨[sStr s, .j, .j, sInt .i64 n, sInt .i64 (i : Int), .j, .j, .j, .j, .j, .j, .j, .j, .j, .j, .j, .j, .j, .j, .j, .j, .j], [], 3, []⟩) (fun ⟨i, n⟩ => s.length - i) (fun ⟨i, n⟩ => i ≤ s.length ∧ n + weighGo (s.drop i) i = weighV s ∧ 0 ≤ n ∧ n ≤ (i : Int) * 300000000) (0, 0) ⟨?_, ?_⟩ ?_))))))))
 ·exact ⟨Nat.zero_le _, by simp [weighV], by decide, by decide⟩
 ·refine ent_ok rfl ?_
  simp [conj]
 ·rintro ⟨i, n⟩ ⟨hi, hgo, hn0, hn1⟩
  refine sw_seq (sw_seq (xr hP 4 rfl (sw_cond rfl (fun c3 => ?_) (fun c3 => ?_))))
  ·have hlt : i < s.length := by simpa using c3
   have hone := weigh_one (c := s[i]) (i := i) (by omega)
   refine sw_skip (sw_seq (sw_block (xg hP 5 [] rfl ?_ ?_)))
   ·simp [conj, gE hlt]
    have hu : s[i].toNat < 256 := s[i].toNat_lt
    repeat' apply And.intro
    all_goals omega
   refine xr hP 6 rfl (⟨(i + 1, n + (s[i].toNat : Int) * (65536 + (i : Int) + 1)), ?_, ?_, ent_ok rfl ?_⟩)
   ·exact ⟨hlt, weigh_next hlt hgo, by show 0 ≤ n + (s[i].toNat : Int) * (65536 + (i : Int) + 1); omega, by show n + (s[i].toNat : Int) * (65536 + (i : Int) + 1) ≤ ((i + 1 : Nat) : Int) * 300000000; omega⟩
   ·show s.length - (i + 1) < s.length - i
    omega
   ·simp [conj, gE hlt]
  ·obtain rfl : i = s.length := by simp at c3; omega
   have hv := weigh_end hgo
   refine sw_exit (sw_seq (xr hP 5 rfl (sw_ret ⟨.inl rfl, _, rfl, ?_⟩)))
   simp [conj, hv]
end Go.Sx

namespace Go.Sx
open Go
def rd0 (code : List Int) : Rd := (code.take 2000, 0)
theorem rd0_ok {code : List Int} (h : ∀ v ∈ code, inR .u8 v) : ROk (rd0 code) 3000 := by
 refine ⟨fun v hv => ?_, ?_, by show (0 : Int) ≤ 0; decide, by show (0 : Int) + 3000 ≤ 1099511627776; decide⟩
 ·have := h v (List.mem_of_mem_take hv); rwa [inR_u8] at this
 ·exact List.length_take_le _ _
def plcGo (d fr : Int) : Nat → Nat → Rd → List Plc → List Plc × Rd
 | 0, _, R, out => (out, R)
 | n + 1, i, R, out => plcGo d fr n (i + 1) (nx R) (out ++ [((fr + (i : Int)).tmod d, pk R 12)])
def plcD (R : Rd) (d c : Int) : List Plc × Rd := plcGo d (pk R d) c.toNat 0 (nx R) []
theorem plcGo_rd : ∀ (n i : Nat) (d fr : Int) (R : Rd) (out : List Plc), (plcGo d fr n i R out).2 = (R.1, R.2 + n) ∧ (plcGo d fr n i R out).1.length = out.length + n := by
 intro n
 induction n with
 | zero => intro i d fr R out; simp [plcGo]
 | succ n ih =>
  intro i d fr R out
  simp only [plcGo]
  obtain ⟨h1, h2⟩ := ih (i + 1) d fr (nx R) (out ++ [((fr + (i : Int)).tmod d, pk R 12)])
  rw [h1, h2]
  simp [nx]
  omega
def ptrT (R : Rd) (d : Int) : Str := textV R (3 * sMin 3 (d - 1) - 1) ++ [107]
def ptrD (R : Rd) (d : Int) : Ptr_ × Rd := ((((ptrT R d).length : Int), weighV ((ptrT R d).take 9), (plcD (textR R (3 * sMin 3 (d - 1) - 1)) d (colsV ((ptrT R d).length : Int) + 1)).1), (plcD (textR R (3 * sMin 3 (d - 1) - 1)) d (colsV ((ptrT R d).length : Int) + 1)).2)
theorem sMin_bd' {d : Int} (h : 3 ≤ d ∧ d ≤ 4) : 3 * sMin 3 (d - 1) - 1 = 3 * (d - 1) - 1 := by rw [sMin_bd d h]
theorem ptrT_len {R : Rd} {d : Int} (h : ROk R 30) (hd : 3 ≤ d ∧ d ≤ 4) : 1 ≤ (ptrT R d).length ∧ (ptrT R d).length ≤ 9 := by
 unfold ptrT
 rw [sMin_bd' hd]
 have := textV_len h (by decide) (most := 3 * (d - 1) - 1) (by omega)
 rw [List.length_append]
 simp only [List.length_cons, List.length_nil]
 omega
theorem colsV_le {n : Int} (h0 : 1 ≤ n) (h1 : n ≤ 9) : 1 ≤ colsV n ∧ colsV n ≤ 3 := by
 have : colsV n = (n + 3 - 1) / 3 := Int.tdiv_eq_ediv_of_nonneg (by omega)
 omega
theorem ptrD_len {R : Rd} {d : Int} (h : ROk R 30) (hd : 3 ≤ d ∧ d ≤ 4) : 2 ≤ (ptrD R d).1.2.2.length ∧ (ptrD R d).1.2.2.length ≤ 4 := by
 have h1 := ptrT_len h hd
 have h2 := colsV_le (n := ((ptrT R d).length : Int)) (by omega) (by omega)
 simp only [ptrD, plcD]
 rw [(plcGo_rd _ _ _ _ _ _).2]
 simp only [List.length_nil]
 omega
theorem ptrD_ok {R : Rd} {d m : Int} (hm : 0 ≤ m) (h : ROk R (m + 30)) (hd : 3 ≤ d ∧ d ≤ 4) : ROk (ptrD R d).2 m := by
 have h1 := ptrT_len (h.le (by omega)) hd
 have h2 := colsV_le (n := ((ptrT R d).length : Int)) (by omega) (by omega)
 have ht : ROk (textR R (3 * sMin 3 (d - 1) - 1)) (m + 5) := textR_ok h (by omega) (by rw [sMin_bd' hd]; omega) (by rw [sMin_bd' hd]; omega)
 simp only [ptrD, plcD]
 rw [(plcGo_rd _ _ _ _ _ _).1]
 have hp := ht.p1
 have hp0 := ht.p0
 refine ⟨ht.b, ht.len, ?_, ?_⟩ <;> simp only [nx] <;> omega
def zP : Ptr_ := (0, 0, [])
def aS : List Int := [-1, 1000000000, 1000000001]
def aT : List Int := [-1, 12]
def aX : List Int := [-1, 100000, 100001]
def someD (R : Rd) (d : Int) : Ptr_ × Rd :=
 if pk R 5 = 0 then (zP, nx R) else
 let q := ptrD (nx R) d
 let p := q.1
 let R2 := nx q.2
 if pk q.2 20 = 0 then ((pk R2 14 - 1, p.2.1, p.2.2), nx R2)
 else if pk q.2 20 = 1 then ((p.1, aS.getD (pk R2 3).toNat 0, p.2.2), nx R2)
 else if pk q.2 20 = 2 then ((p.1, p.2.1, p.2.2.set 0 ((p.2.2.getD 0 (0, 0)).1, aT.getD (pk R2 2).toNat 0)), nx R2)
 else if pk q.2 20 = 3 then ((p.1, p.2.1, p.2.2.set 0 (p.2.2.getD 1 (0, 0))), R2)
 else if pk q.2 20 = 4 then ((p.1, p.2.1, p.2.2.drop 1), R2)
 else (p, R2)
def meetsNo (p : Ptr_) (l : List Ptr_) : Bool := l.all fun x => !meetV p x
def clrB (R : Rd) (d : Int) (all : List Ptr_) (k : Nat) (bl : List Ptr_) : Bool := (decide (0 < pk (ptrD R d).2 3) && meetsNo (ptrD R d).1 all) && meetsNo (ptrD R d).1 (bl.take k)
def blkStep (d : Int) (all : List Ptr_) (k : Nat) (bl : List Ptr_) (R : Rd) : List Ptr_ × Rd :=
 let q := ptrD R d
 let R2 := nx q.2
 if clrB R d all k bl = true then (bl.set k q.1, R2)
 else if 0 < all.length then (if pk R2 2 = 0 then (bl.set k (all.getD (pk (nx R2) all.length).toNat zP), nx (nx R2)) else (bl, nx R2))
 else (bl, R2)
def blkGo (d : Int) (all : List Ptr_) : Nat → Nat → List Ptr_ → Rd → List Ptr_ × Rd
 | 0, _, bl, R => (bl, R)
 | n + 1, k, bl, R => blkGo d all n (k + 1) (blkStep d all k bl R).1 (blkStep d all k bl R).2
def nms : List Str := [[97], [98], [99, 100], [120, 121, 122], [113], [122, 122]]
def nmD (R : Rd) : Str := nms.getD (pk R 6).toNat []
def hasN_ (vs : List Vol_) (nm : Str) : Bool := vs.any fun v => decide (v.1 = nm)
def volGo (d : Int) : Nat → List Vol_ → Rd → List Vol_ × Rd
 | 0, vs, R => (vs, R)
 | n + 1, vs, R => if hasN_ vs (nmD R) = true then volGo d n vs (nx R) else
  volGo d n (vs ++ [(nmD R, (blkGo d (blksOf vs) 3 0 [zP, zP, zP] (nx R)).1)]) (blkGo d (blksOf vs) 3 0 [zP, zP, zP] (nx R)).2
def rootD (R : Rd) (d : Int) : Root_ × Rd := ((pk R 9, (volGo d (pk (nx R) 5).toNat [] (nx (nx R))).1), (volGo d (pk (nx R) 5).toNat [] (nx (nx R))).2)
def fillGo : Nat → List Vol_ → List Vol_
 | 0, vs => vs
 | n + 1, vs => fillGo n (vs ++ [([UInt8.ofNat (107 + vs.length)], [zP, zP, zP])])
def v0 (vs : List Vol_) : Vol_ := vs.getD 0 ([], [])
def offD (R : Rd) (d : Int) : Root_ × Rd :=
 let q := rootD R d
 let r := q.1
 let R1 := nx q.2
 let R2 := nx R1
 if 0 < pk q.2 12 then (r, R1)
 else if pk R1 6 = 0 then ((aX.getD (pk R2 3).toNat 0, r.2), nx R2)
 else if pk R1 6 = 1 then ((r.1, r.2 ++ [([65], [zP, zP, zP])]), R2)
 else if pk R1 6 = 2 then (if 0 < r.2.length then (r.1, r.2.set 0 ((v0 r.2).1, (v0 r.2).2.drop 1)) else r, R2)
 else if pk R1 6 = 3 then (if 0 < r.2.length then ((r.1, r.2.set 0 ((v0 r.2).1, (v0 r.2).2.set 0 (someD R2 d).1)), (someD R2 d).2) else (r, R2))
 else if pk R1 6 = 4 then (if 0 < r.2.length then (r.1, r.2 ++ [v0 r.2]) else r, R2)
 else ((r.1, fillGo (5 - r.2.length) r.2), R2)
theorem blkStep_ok {d m : Int} {all bl : List Ptr_} {k : Nat} {R : Rd} (hm : 0 ≤ m) (h : ROk R (m + 40)) (hd : 3 ≤ d ∧ d ≤ 4) : ROk (blkStep d all k bl R).2 m ∧ (blkStep d all k bl R).1.length = bl.length := by
 have h1 : ROk (ptrD R d).2 (m + 3) := ptrD_ok (m := m + 3) (by omega) (h.le (by omega)) hd
 have h2 : ROk (nx (ptrD R d).2) (m + 2) := h1.nx (by omega)
 have h3 : ROk (nx (nx (ptrD R d).2)) (m + 1) := h2.nx (by omega)
 have h4 : ROk (nx (nx (nx (ptrD R d).2))) m := h3.nx (by omega)
 unfold blkStep
 simp only
 split
 ·exact ⟨h2.le (by omega), by simp⟩
 ·split
  ·split
   ·exact ⟨h4, by simp⟩
   ·exact ⟨h3.le (by omega), rfl⟩
  ·exact ⟨h2.le (by omega), rfl⟩
theorem blkGo_ok {d : Int} {all : List Ptr_} (hd : 3 ≤ d ∧ d ≤ 4) : ∀ (n k : Nat) (bl : List Ptr_) (R : Rd) (m : Int), 0 ≤ m → ROk R (m + 40 * n) → ROk (blkGo d all n k bl R).2 m ∧ (blkGo d all n k bl R).1.length = bl.length := by
 intro n
 induction n with
 | zero => intro k bl R m _ h; exact ⟨h.le (by omega), rfl⟩
 | succ n ih =>
  intro k bl R m hm h
  simp only [blkGo]
  obtain ⟨h1, h2⟩ := blkStep_ok (m := m + 40 * n) (all := all) (bl := bl) (k := k) (by omega) (h.le (by push_cast; omega)) hd
  obtain ⟨h3, h4⟩ := ih (k + 1) (blkStep d all k bl R).1 (blkStep d all k bl R).2 m hm h1
  exact ⟨h3, by rw [h4, h2]⟩
theorem volGo_ok {d : Int} (hd : 3 ≤ d ∧ d ≤ 4) : ∀ (n : Nat) (vs : List Vol_) (R : Rd) (m : Int), 0 ≤ m → ROk R (m + 130 * n) → (∀ v ∈ vs, v.2.length = 3) → ROk (volGo d n vs R).2 m ∧ (volGo d n vs R).1.length ≤ vs.length + n ∧ ∀ v ∈ (volGo d n vs R).1, v.2.length = 3 := by
 intro n
 induction n with
 | zero => intro vs R m _ h hv; exact ⟨h.le (by omega), by simp [volGo], hv⟩
 | succ n ih =>
  intro vs R m hm h hv
  simp only [volGo]
  split
  ·obtain ⟨a, b, c⟩ := ih vs (nx R) m hm (h.nx (by push_cast; omega)) hv
   exact ⟨a, by omega, c⟩
  ·have hR : ROk (nx R) (m + 130 * n + 120) := h.nx (by push_cast; omega)
   obtain ⟨h1, h2⟩ := blkGo_ok (all := blksOf vs) hd 3 0 [zP, zP, zP] (nx R) (m + 130 * n) (by omega) (hR.le (by omega))
   obtain ⟨a, b, c⟩ := ih (vs ++ [(nmD R, (blkGo d (blksOf vs) 3 0 [zP, zP, zP] (nx R)).1)]) _ m hm h1 (fun v hv' => by
    rcases List.mem_append.1 hv' with hv' | hv'
    ·exact hv v hv'
    ·rw [List.mem_singleton.1 hv']; exact h2)
   exact ⟨a, by rw [List.length_append] at b; simp only [List.length_cons, List.length_nil] at b; omega, c⟩
theorem rootD_ok {R : Rd} {d m : Int} (hm : 0 ≤ m) (h : ROk R (m + 600)) (hd : 3 ≤ d ∧ d ≤ 4) : ROk (rootD R d).2 m ∧ (rootD R d).1.2.length ≤ 4 ∧ ∀ v ∈ (rootD R d).1.2, v.2.length = 3 := by
 have h1 : ROk (nx R) (m + 599) := h.nx (by omega)
 have h2 : ROk (nx (nx R)) (m + 598) := h1.nx (by omega)
 have hb := pk_bd h1 (by omega) (n := 5) (by omega)
 obtain ⟨a, b, c⟩ := volGo_ok hd (pk (nx R) 5).toNat [] (nx (nx R)) m hm (h2.le (by omega)) (fun v hv => by cases hv)
 exact ⟨a, by simp only [rootD]; simp only [List.length_nil] at b; omega, c⟩
end Go.Sx

namespace Go.Sx
open Go
theorem idxFGo_bd {α : Type} {p : α → Bool} : ∀ {l : List α} {i : Nat}, -1 ≤ idxFGo p l i ∧ idxFGo p l i ≤ ((i + l.length : Nat) : Int) := by
 intro l
 induction l with
 | nil => intro i; simp only [idxFGo]; omega
 | cons a l ih =>
  intro i
  simp only [idxFGo]
  have h := ih (i := i + 1)
  rw [List.length_cons]
  split
  ·omega
  ·omega
theorem hasN_idx {vs : List Vol_} {nm : Str} : hasN_ vs nm = decide (0 ≤ idxF (fun v : Vol_ => decide (v.1 = nm)) vs) := idxF_any.symm
theorem mN_next {c : Bool} {p : Ptr_} {l : List Ptr_} {i : Nat} (hlt : i < l.length) : (c && meetsNo p (l.take (i + 1))) = ((c && meetsNo p (l.take i)) && !meetV p l[i]) := by
 unfold meetsNo
 rw [List.take_succ_eq_append_getElem hlt, List.all_append]
 simp [Bool.and_assoc]
theorem mN_zero {p : Ptr_} {l : List Ptr_} : meetsNo p (l.take 0) = true := rfl
theorem mN_end {p : Ptr_} {l : List Ptr_} : meetsNo p (l.take l.length) = meetsNo p l := by rw [List.take_length]
theorem vols_small {vs : List Vol_} (h1 : vs.length ≤ 4) (h2 : ∀ v ∈ vs, v.2.length = 3) : SmallV vs := ⟨by omega, fun v hv => by have := h2 v hv; omega⟩
theorem blksOf_len {vs : List Vol_} (h1 : vs.length ≤ 4) (h2 : ∀ v ∈ vs, v.2.length = 3) : (blksOf vs).length ≤ 12 := by
 have : ∀ (vs : List Vol_), (∀ v ∈ vs, v.2.length = 3) → (blksOf vs).length = vs.length * 3 := by
  intro vs
  induction vs with
  | nil => intro _; rfl
  | cons v vs ih =>
   intro h
   have h3 := ih (fun w hw => h w (List.mem_cons_of_mem _ hw))
   have h4 := h v List.mem_cons_self
   simp only [blksOf, List.flatMap_cons, List.length_append, List.length_cons] at h3 ⊢
   omega
 have := this vs h2
 omega
end Go.Sx

namespace Go.Sx
open Go
theorem keyPK (x y : Plc) : keyEq PK x y = decide (x = y) := by
 simp only [keyEq]
 refine Bool.eq_iff_iff.2 ?_
 simp only [Bool.and_eq_true, decide_eq_true_eq]
 exact ⟨fun h => Prod.ext h.1 h.2, fun h => by rw [h]; exact ⟨rfl, rfl⟩⟩
theorem mget_mset {m : List (Plc × Ptr_)} {a b : Plc} {p : Ptr_} : mget PK (mset PK m a p) b = if b = a then some p else mget PK m b := by
 induction m with
 | nil =>
  simp only [mset, mget]
  rw [keyPK]
  by_cases h : b = a <;> simp [h]
 | cons e m ih =>
  simp only [mset]
  rw [keyPK]
  by_cases h : a = e.1
  ·simp only [h, decide_true, cond_true, mget]
   rw [keyPK]
   by_cases h2 : b = e.1 <;> simp [h2]
  ·simp only [h, decide_false, cond_false, mget]
   rw [keyPK, ih]
   by_cases h2 : b = e.1
   ·have h3 : ¬ b = a := fun e2 => h (e2.symm.trans h2)
    simp [h2, h3]
    intro e2
    exact absurd e2.symm h
   ·simp [h2]
theorem own_iff : ∀ {l m : List (Plc × Ptr_)}, ownGo m l = true ↔ (∀ e ∈ l, ∀ q, mget PK m e.1 = some q → e.2 = q) ∧ ∀ e ∈ l, ∀ f ∈ l, e.1 = f.1 → e.2 = f.2 := by
 intro l
 induction l with
 | nil => intro m; simp [ownGo]
 | cons c r ih =>
  intro m
  obtain ⟨a, p⟩ := c
  simp only [ownGo, Bool.and_eq_true]
  rw [ih]
  constructor
  ·rintro ⟨h1, h2, h3⟩
   have ha : ∀ q, mget PK m a = some q → p = q := fun q hq => by rw [hq] at h1; simpa using h1
   have hp : ∀ e ∈ r, e.1 = a → e.2 = p := fun e he hea => h2 e he p (by rw [mget_mset, if_pos hea])
   refine ⟨fun e he q hq => ?_, fun e he f hf hef => ?_⟩
   ·rcases List.mem_cons.1 he with rfl | he
    ·exact ha q hq
    ·by_cases hea : e.1 = a
     ·rw [hp e he hea]; exact ha q (by rw [← hea]; exact hq)
     ·exact h2 e he q (by rw [mget_mset, if_neg hea]; exact hq)
   ·rcases List.mem_cons.1 he with rfl | he <;> rcases List.mem_cons.1 hf with rfl | hf
    ·rfl
    ·exact (hp f hf hef.symm).symm
    ·exact hp e he hef
    ·exact h3 e he f hf hef
  ·rintro ⟨h1, h2⟩
   refine ⟨?_, fun e he q hq => ?_, fun e he f hf => h2 e (List.mem_cons_of_mem _ he) f (List.mem_cons_of_mem _ hf)⟩
   ·cases hq : mget PK m a with
    | none => rfl
    | some q => have := h1 (a, p) List.mem_cons_self q hq; simpa using this
   ·rw [mget_mset] at hq
    by_cases hea : e.1 = a
    ·rw [if_pos hea] at hq
     cases hq
     exact h2 e (List.mem_cons_of_mem _ he) (a, p) List.mem_cons_self hea
    ·rw [if_neg hea] at hq
     exact h1 e (List.mem_cons_of_mem _ he) q hq
theorem mem_pairs {ps : List Ptr_} {e : Plc × Ptr_} : e ∈ pairsOf ps ↔ e.2 ∈ ps ∧ e.1 ∈ e.2.2.2 := by
 obtain ⟨a, p⟩ := e
 simp only [pairsOf, List.mem_flatMap, List.mem_map, Prod.mk.injEq]
 constructor
 ·rintro ⟨q, hq, b, hb, rfl, rfl⟩
  exact ⟨hq, hb⟩
 ·rintro ⟨h1, h2⟩
  exact ⟨p, h1, a, h2, rfl, rfl⟩
theorem meet_iff {p q : Ptr_} : meetV p q = true ↔ ∃ a, a ∈ p.2.2 ∧ a ∈ q.2.2 := by
 simp only [meetV, List.any_eq_true, decide_eq_true_eq]
 constructor
 ·rintro ⟨a, ha, b, hb, rfl⟩; exact ⟨a, ha, hb⟩
 ·rintro ⟨a, ha, hb⟩; exact ⟨a, ha, a, hb, rfl⟩
theorem own_meet {ps : List Ptr_} : ownGo [] (pairsOf ps) = true ↔ ∀ i (h : i < ps.length), ∀ q ∈ ps.take i, meetV ps[i] q = true → ps[i] = q := by
 rw [own_iff]
 constructor
 ·rintro ⟨_, h2⟩ i hi q hq hm
  obtain ⟨a, ha, hb⟩ := meet_iff.1 hm
  exact h2 (a, ps[i]) (mem_pairs.2 ⟨List.getElem_mem hi, ha⟩) (a, q) (mem_pairs.2 ⟨List.mem_of_mem_take hq, hb⟩) rfl
 ·intro h
  refine ⟨fun e _ q hq => by simp [mget] at hq, fun e he f hf hef => ?_⟩
  obtain ⟨e1, e2⟩ := mem_pairs.1 he
  obtain ⟨f1, f2⟩ := mem_pairs.1 hf
  obtain ⟨i, hi, hie⟩ := List.getElem_of_mem e1
  obtain ⟨k, hk, hkf⟩ := List.getElem_of_mem f1
  rw [← hie] at e2 ⊢
  rw [← hkf] at f2 ⊢
  rcases Nat.lt_trichotomy i k with hlt | rfl | hlt
  ·refine (h k hk ps[i] (List.mem_take_iff_getElem.2 ⟨i, by omega, rfl⟩) (meet_iff.2 ⟨f.1, f2, ?_⟩)).symm
   rw [← hef]; exact e2
  ·rfl
  ·refine h i hi ps[k] (List.mem_take_iff_getElem.2 ⟨k, by omega, rfl⟩) (meet_iff.2 ⟨e.1, e2, ?_⟩)
   rw [hef]; exact f2
theorem ptrV_W {d : Int} {p : Ptr_} (h : poolV d = true) : ptrV d p = ptrW d p := by
 unfold ptrV ptrW
 rw [h, Bool.true_and]
 by_cases h0 : p.1 = 0
 ·rw [if_pos h0]
  have h1 : sizeV d p = false := by simp [sizeV, inV, h0]
  rw [h1]
  simp [noneV, h0]
 ·rw [if_neg h0]
  simp [noneV, h0]
theorem volF_G {d : Int} {pre : List Vol_} {v : Vol_} : volF d pre v = (volG pre v && v.2.all (ptrV d)) := by
 simp only [volF, volG, Bool.and_assoc]
theorem chk_volF {d : Int} {l : List Vol_} : chk (volF d) l = true ↔ chk volG l = true ∧ ∀ p ∈ blksOf l, ptrV d p = true := by
 simp only [chk_iff, volF_G, Bool.and_eq_true, List.all_eq_true]
 constructor
 ·intro h
  refine ⟨fun i hi => (h i hi).1, fun p hp => ?_⟩
  obtain ⟨v, hv, hp⟩ := List.mem_flatMap.1 hp
  obtain ⟨i, hi, rfl⟩ := List.getElem_of_mem hv
  exact (h i hi).2 p hp
 ·rintro ⟨h1, h2⟩ i hi
  exact ⟨h1 i hi, fun p hp => h2 p (List.mem_flatMap.2 ⟨l[i], List.getElem_mem hi, hp⟩)⟩
theorem chk_ptrG {d : Int} {ps : List Ptr_} : chk (ptrG d) ps = true ↔ (∀ p ∈ ps, ptrW d p = true) ∧ ∀ i (h : i < ps.length), ∀ q ∈ ps.take i, meetV ps[i] q = true → ps[i] = q := by
 simp only [chk_iff, ptrG, Bool.and_eq_true]
 constructor
 ·intro h
  refine ⟨fun p hp => ?_, fun i hi q hq hm => ?_⟩
  ·obtain ⟨i, hi, rfl⟩ := List.getElem_of_mem hp
   exact (h i hi).1
  ·have h2 := (h i hi).2
   simp only [Bool.not_eq_true', List.any_eq_false, Bool.and_eq_true, not_and] at h2
   have := h2 q hq hm
   simpa using this
 ·rintro ⟨h1, h2⟩ i hi
  refine ⟨h1 _ (List.getElem_mem hi), ?_⟩
  simp only [Bool.not_eq_true', List.any_eq_false, Bool.and_eq_true, not_and]
  intro q hq hm
  have := h2 i hi q hq hm
  simpa using this
theorem rootV_S {d : Int} {r : Root_} : rootV d r = rootS d r := by
 unfold rootV rootS
 cases hp : poolV d with
 | false => rfl
 | true =>
  simp only [Bool.true_and]
  congr 1
  refine Bool.eq_iff_iff.2 ?_
  simp only [volsV, volsS, Bool.and_eq_true, chk_volF, chk_ptrG, own_meet, decide_eq_true_eq]
  have hw : (∀ p ∈ blksOf r.2, ptrV d p = true) ↔ ∀ p ∈ blksOf r.2, ptrW d p = true := by simp only [ptrV_W hp]
  rw [hw]
  constructor
  ·rintro ⟨⟨⟨a, b⟩, c⟩, e⟩; exact ⟨c, a, b, e⟩
  ·rintro ⟨c, a, b, e⟩; exact ⟨⟨⟨a, b⟩, c⟩, e⟩
theorem line_all {l : List Vol_} (h : ∀ v ∈ l, ∀ p ∈ v.2, inR .i64 p.1 ∧ inR .i64 p.2.1 ∧ ∀ a ∈ p.2.2, inR .i64 a.1 ∧ inR .i64 a.2) (hs : SmallR l) : ∀ v ∈ l, (volT v).length ≤ 1000 := by
 intro v hv
 obtain ⟨h1, h2, h3⟩ := hs.2 v hv
 have h4 := cat_len (f := lineV) (m := 300) (l := v.2) fun p hp => by
  obtain ⟨d, hd⟩ := h3 p hp
  obtain ⟨a, b, c⟩ := h v hv p hp
  exact lineV_len' a b c hd
 unfold volT
 simp only [List.length_append, List.length_cons, List.length_nil, tVol]
 rw [h2] at h4
 omega
theorem body_len {d tg : Int} {l : List Vol_} (h0 : inR .i64 tg) (h : ∀ v ∈ l, ∀ p ∈ v.2, inR .i64 p.1 ∧ inR .i64 p.2.1 ∧ ∀ a ∈ p.2.2, inR .i64 a.1 ∧ inR .i64 a.2) (hr : rootV d ((tg, l) : Root_) = true) : (bodyV ((tg, l) : Root_)).length ≤ 5000 := by
 have hs := rootV_small hr
 have h4 := cat_len (f := volT) (m := 1000) (l := l) (line_all h hs)
 have h5 : l.length ≤ 4 := hs.1
 have h6 := itoaV_len h0
 unfold bodyV
 simp only [List.length_append, List.length_cons, List.length_nil, tRoot]
 omega
end Go.Sx

namespace Go.Sx
open Go
def drN (code : List Int) : Int := 3 + pk (rd0 code) 2
def drR (code : List Int) : Root_ := (offD (nx (rd0 code)) (drN code)).1
def drP (code : List Int) : Ptr_ := (someD (nx (rd0 code)) (drN code)).1
def drQ (code : List Int) : Rd := (someD (nx (rd0 code)) (drN code)).2
def aN : List Int := [2, 5, 0]
def drM (code : List Int) : Int := if pk (drQ code) 12 = 0 then aN.getD (pk (nx (drQ code)) 3).toNat 0 else drN code
theorem drN_bd {code : List Int} (h : ROk (rd0 code) 3000) : 3 ≤ drN code ∧ drN code ≤ 4 := by
 have := pk_bd h (by omega) (n := 2) (by omega)
 unfold drN; omega
theorem someD_ok {R : Rd} {d m : Int} (hm : 0 ≤ m) (h : ROk R (m + 40)) (hd : 3 ≤ d ∧ d ≤ 4) : ROk (someD R d).2 m := by
 have h0 : ROk (nx R) (m + 39) := h.nx (by omega)
 have h1 : ROk (ptrD (nx R) d).2 (m + 9) := ptrD_ok (m := m + 9) (by omega) (h0.le (by omega)) hd
 have h2 : ROk (nx (ptrD (nx R) d).2) (m + 8) := h1.nx (by omega)
 have h3 : ROk (nx (nx (ptrD (nx R) d).2)) (m + 7) := h2.nx (by omega)
 unfold someD
 simp only
 split
 ·exact h0.le (by omega)
 ·split
  ·exact h3.le (by omega)
  ·split
   ·exact h3.le (by omega)
   ·split
    ·exact h3.le (by omega)
    ·split
     ·exact h2.le (by omega)
     ·split <;> exact h2.le (by omega)
theorem chk_mono {α : Type} {f g : List α → α → Bool} (h : ∀ pre a, f pre a = true → g pre a = true) {l : List α} (hl : chk f l = true) : chk g l = true := by
 rw [chk_iff] at hl ⊢
 exact fun i hi => h _ _ (hl i hi)
theorem poolV_iff {d : Int} : poolV d = true ↔ 3 ≤ d ∧ d ≤ 4 := by simp [poolV, inV]
theorem placeF_wide {d : Int} (hd : d ≤ 4) (pre : List Plc) (a : Plc) (h : placeF d pre a = true) : placeF 4 pre a = true := by
 simp only [placeF, placeV, Bool.and_eq_true, decide_eq_true_eq] at h ⊢
 exact ⟨⟨h.1.1, by omega, h.1.2.2⟩, h.2⟩
theorem mostV_wide {d : Int} (h : 3 ≤ d ∧ d ≤ 4) : mostV d ≤ mostV 4 := by
 obtain rfl | rfl : d = 3 ∨ d = 4 := by omega
 ·decide
 ·decide
theorem sizeV_wide {d : Int} {p : Ptr_} (hd : 3 ≤ d ∧ d ≤ 4) (h : sizeV d p = true) : sizeV 4 p = true := by
 have hm := mostV_wide hd
 simp only [sizeV, inV, Bool.and_eq_true, decide_eq_true_eq] at h ⊢
 exact ⟨⟨h.1.1, by omega⟩, h.2⟩
theorem ptrV_wide {d : Int} {p : Ptr_} (h : ptrV d p = true) : ptrV 4 p = true := by
 simp only [ptrV, Bool.and_eq_true, Bool.or_eq_true] at h ⊢
 obtain ⟨hd, h⟩ := h
 have hd2 := poolV_iff.1 hd
 refine ⟨rfl, h.imp id fun h => ⟨sizeV_wide hd2 h.1, chk_mono (placeF_wide hd2.2) h.2⟩⟩
theorem volF_wide {d : Int} (pre : List Vol_) (v : Vol_) (h : volF d pre v = true) : volF 4 pre v = true := by
 simp only [volF, Bool.and_eq_true, List.all_eq_true] at h ⊢
 exact ⟨h.1, h.2.1, h.2.2.1, fun p hp => ptrV_wide (h.2.2.2 p hp)⟩
theorem rootV_wide {d : Int} {r : Root_} (h : rootV d r = true) : rootV 4 r = true := by
 simp only [rootV, volsV, Bool.and_eq_true] at h ⊢
 exact ⟨rfl, h.2.1, ⟨chk_mono volF_wide h.2.2.1.1, h.2.2.1.2⟩, h.2.2.2⟩
theorem rootT_wide {d : Int} {r : Root_} (h : rootV d r = true) : rootT 4 r = rootT d r := by
 unfold rootT; rw [if_pos h, if_pos (rootV_wide h)]
theorem ptrV_P {d : Int} {p : Ptr_} : ptrV d p = (poolV d && ptrW d p) := by
 cases h : poolV d with
 | true => rw [ptrV_W h, Bool.true_and]
 | false => simp [ptrV, h]
end Go.Sx

namespace Go.Sx
open Go
def lineO (p : Ptr_) : Str := if p.1 = 0 then tNone else Lib.join (wordsV p) [32] ++ [10]
def volTO (v : Vol_) : Str := (tVol ++ v.1 ++ [10]) ++ catGo lineO v.2
def bodyO (r : Root_) : Str := (tRoot ++ itoaV r.1 ++ [10]) ++ catGo volTO r.2
def SmO (l : List Vol_) : Prop := l.length ≤ 6 ∧ ∀ v ∈ l, v.1.length ≤ 3 ∧ v.2.length ≤ 3 ∧ ∀ p ∈ v.2, p.2.2.length ≤ 4
theorem lineO_V {d : Int} {p : Ptr_} (h : ptrV d p = true) : lineO p = lineV p := by
 unfold lineO lineV
 by_cases h0 : p.1 = 0
 ·rw [if_pos h0, if_pos (ptrV_none h h0)]
 ·rw [if_neg h0, if_neg (by simp only [noneV, Bool.and_eq_true, decide_eq_true_eq]; exact fun h => h0 h.1)]
theorem catGo_congr {α : Type} {f g : α → Str} : ∀ {l : List α}, (∀ x ∈ l, f x = g x) → catGo f l = catGo g l := by
 intro l
 induction l with
 | nil => intro _; rfl
 | cons x l ih => intro h; simp only [catGo]; rw [h x List.mem_cons_self, ih fun y hy => h y (List.mem_cons_of_mem _ hy)]
theorem bodyO_V {d : Int} {r : Root_} (h : rootV d r = true) : bodyO r = bodyV r := by
 have hs := rootV_small h
 unfold bodyO bodyV
 rw [catGo_congr fun v hv => ?_]
 unfold volTO volT
 rw [catGo_congr fun p hp => ?_]
 obtain ⟨d2, h2⟩ := (hs.2 v hv).2.2 p hp
 exact lineO_V h2
theorem SmallR.smO {l : List Vol_} (h : SmallR l) : SmO l := ⟨Nat.le_trans h.1 (by decide), fun v hv => ⟨(h.2 v hv).1, Nat.le_of_eq (h.2 v hv).2.1, fun p hp => by
 obtain ⟨d, hd⟩ := (h.2 v hv).2.2 p hp
 exact ptrV_len hd⟩⟩
theorem itoaV_neg {n : Int} (h : n < 0) : itoaV n = 45 :: itoaV (-n) := by
 obtain ⟨u, rfl⟩ : ∃ u : Nat, n = -(u : Int) := ⟨n.natAbs, by omega⟩
 unfold itoaV
 rw [Lib.itoa_neg u (by omega), Int.neg_neg, Lib.itoa_nonneg]
theorem itoaV_min : itoaV (-9223372036854775808) = [45, 57, 50, 50, 51, 51, 55, 50, 48, 51, 54, 56, 53, 52, 55, 55, 53, 56, 48, 56] := by decide +kernel
theorem lineO_len {p : Ptr_} (h1 : inR .i64 p.1) (h2 : inR .i64 p.2.1) (h3 : ∀ a ∈ p.2.2, inR .i64 a.1 ∧ inR .i64 a.2) (h : p.2.2.length ≤ 4) : (lineO p).length ≤ 300 := by
 unfold lineO
 split
 ·simp [tNone]
 ·rw [List.length_append]
  have : (Lib.join (wordsV p) [32]).length ≤ 290 := join_len h1 h2 h3 h
  simp only [List.length_cons, List.length_nil]
  omega
theorem volO_in {l : List Vol_} {i : Nat} {o v : Str} (hlt : i < l.length) (h : o ++ catGo volTO (l.drop i) = v) : ((o ++ (tVol ++ l[i].1 ++ [10])) ++ catGo lineO (l[i].2.drop 0)) ++ catGo volTO (l.drop (i + 1)) = v := by
 rw [drop_at hlt] at h
 rw [List.drop_zero]
 simp only [catGo, volTO] at h
 simpa only [List.append_assoc] using h
theorem volO_line {l : List Ptr_} {j : Nat} {o r v : Str} (hlj : j < l.length) (h : (o ++ catGo lineO (l.drop j)) ++ r = v) : ((o ++ lineO l[j]) ++ catGo lineO (l.drop (j + 1))) ++ r = v := by
 rw [drop_at hlj] at h
 simp only [catGo] at h
 simpa only [List.append_assoc] using h
theorem volO_out {l : List Ptr_} {o r v : Str} (h : (o ++ catGo lineO (l.drop l.length)) ++ r = v) : o ++ r = v := by
 rw [List.drop_length] at h
 simpa [catGo] using h
theorem bodyO_len {r : Root_} (h0 : inR .i64 r.1) (h : ∀ v ∈ r.2, ∀ p ∈ v.2, inR .i64 p.1 ∧ inR .i64 p.2.1 ∧ ∀ a ∈ p.2.2, inR .i64 a.1 ∧ inR .i64 a.2) (hs : SmO r.2) : (bodyO r).length ≤ 7000 := by
 have h4 := cat_len (f := volTO) (m := 1000) (l := r.2) fun v hv => by
  obtain ⟨h1, h2, h3⟩ := hs.2 v hv
  have h4 := cat_len (f := lineO) (m := 300) (l := v.2) fun p hp => by
   obtain ⟨a, b, c⟩ := h v hv p hp
   exact lineO_len a b c (h3 p hp)
  unfold volTO
  simp only [List.length_append, List.length_cons, List.length_nil, tVol]
  omega
 have h5 : r.2.length ≤ 6 := hs.1
 have h6 := itoaV_len h0
 unfold bodyO
 simp only [List.length_append, List.length_cons, List.length_nil, tRoot]
 omega
def bodyL (r : Root_) : Str := if (bodyO r).length ≤ 7000 then bodyO r else []
theorem bodyL_of {r : Root_} (h : (bodyO r).length ≤ 7000) : bodyL r = bodyO r := if_pos h
theorem bodyL_len (r : Root_) : (bodyL r).length ≤ 7000 := by
 unfold bodyL
 split
 ·assumption
 ·exact Nat.zero_le _
def P4 (p : Ptr_) : Prop := p.2.2.length ≤ 4
theorem P4_z : P4 zP := Nat.zero_le _
theorem P4_ptrD {R : Rd} {d : Int} (h : ROk R 30) (hd : 3 ≤ d ∧ d ≤ 4) : P4 (ptrD R d).1 := (ptrD_len h hd).2
theorem P4_some {R : Rd} {d : Int} (h : ROk R 40) (hd : 3 ≤ d ∧ d ≤ 4) : P4 (someD R d).1 := by
 have h4 := P4_ptrD (R := nx R) (h.nx (by omega)) hd
 unfold P4 at h4
 unfold someD
 simp only
 split
 ·exact P4_z
 ·split
  ·exact h4
  ·split
   ·exact h4
   ·split
    ·show (List.set _ _ _).length ≤ 4; rw [List.length_set]; exact h4
    ·split
     ·show (List.set _ _ _).length ≤ 4; rw [List.length_set]; exact h4
     ·split
      ·show (List.drop _ _).length ≤ 4; rw [List.length_drop]; omega
      ·exact h4
theorem P4_set {l : List Ptr_} {k : Nat} {p : Ptr_} (h : ∀ q ∈ l, P4 q) (hp : P4 p) : ∀ q ∈ l.set k p, P4 q := by
 intro q hq
 rcases List.mem_or_eq_of_mem_set hq with h1 | rfl
 ·exact h q h1
 ·exact hp
theorem P4_getD {l : List Ptr_} {k : Nat} (h : ∀ q ∈ l, P4 q) : P4 (l.getD k zP) := by
 rw [List.getD_eq_getElem?_getD]
 cases hk : l[k]? with
 | none => exact P4_z
 | some q => exact h q (List.mem_of_getElem? hk)
theorem P4_step {d : Int} {all bl : List Ptr_} {k : Nat} {R : Rd} (h : ROk R 40) (hd : 3 ≤ d ∧ d ≤ 4) (ha : ∀ q ∈ all, P4 q) (hb : ∀ q ∈ bl, P4 q) : ∀ q ∈ (blkStep d all k bl R).1, P4 q := by
 have h4 := P4_ptrD (R := R) (h.le (by omega)) hd
 unfold blkStep
 simp only
 split
 ·exact P4_set hb h4
 ·split
  ·split
   ·exact P4_set hb (P4_getD ha)
   ·exact hb
  ·exact hb
theorem P4_go {d : Int} {all : List Ptr_} (hd : 3 ≤ d ∧ d ≤ 4) (ha : ∀ q ∈ all, P4 q) : ∀ (n k : Nat) (bl : List Ptr_) (R : Rd), ROk R (40 * n) → (∀ q ∈ bl, P4 q) → ∀ q ∈ (blkGo d all n k bl R).1, P4 q := by
 intro n
 induction n with
 | zero => intro k bl R _ hb; exact hb
 | succ n ih =>
  intro k bl R h hb
  simp only [blkGo]
  have h1 := (blkStep_ok (m := 40 * n) (all := all) (bl := bl) (k := k) (by omega) (h.le (by push_cast; omega)) hd).1
  exact ih _ _ _ h1 (P4_step (h.le (by push_cast; omega)) hd ha hb)
theorem nmD_len (R : Rd) : (nmD R).length ≤ 3 := by
 unfold nmD
 rw [List.getD_eq_getElem?_getD]
 cases hk : nms[(pk R 6).toNat]? with
 | none => exact Nat.zero_le _
 | some s =>
  have h : ∀ s ∈ nms, s.length ≤ 3 := by decide
  exact h s (List.mem_of_getElem? hk)
def VO (v : Vol_) : Prop := v.1.length ≤ 3 ∧ v.2.length ≤ 3 ∧ ∀ p ∈ v.2, P4 p
theorem VO_go {d : Int} (hd : 3 ≤ d ∧ d ≤ 4) : ∀ (n : Nat) (vs : List Vol_) (R : Rd), ROk R (130 * n) → (∀ v ∈ vs, VO v) → ∀ v ∈ (volGo d n vs R).1, VO v := by
 intro n
 induction n with
 | zero => intro vs R _ h; exact h
 | succ n ih =>
  intro vs R h hv
  simp only [volGo]
  split
  ·exact ih vs (nx R) (h.nx (by push_cast; omega)) hv
  ·have hR : ROk (nx R) (130 * n + 120) := h.nx (by push_cast; omega)
   have ha : ∀ q ∈ blksOf vs, P4 q := fun q hq => by
    obtain ⟨v, h1, h2⟩ := List.mem_flatMap.1 hq
    exact (hv v h1).2.2 q h2
   have hz : ∀ q ∈ [zP, zP, zP], P4 q := fun q hq => by
    simp only [List.mem_cons, List.not_mem_nil, or_false, or_self] at hq
    rw [hq]; exact P4_z
   obtain ⟨h1, h2⟩ := blkGo_ok (all := blksOf vs) hd 3 0 [zP, zP, zP] (nx R) (130 * n) (by omega) (hR.le (by omega))
   refine ih _ _ h1 fun v hm => ?_
   rcases List.mem_append.1 hm with hm | hm
   ·exact hv v hm
   ·rw [List.mem_singleton.1 hm]
    have h5 := P4_go hd ha 3 0 [zP, zP, zP] (nx R) (hR.le (by omega)) hz
    generalize (blkGo d (blksOf vs) 3 0 [zP, zP, zP] (nx R)).1 = B at h2 h5
    exact ⟨nmD_len R, Nat.le_of_eq h2, h5⟩
theorem rootD_smO {R : Rd} {d : Int} (h : ROk R 600) (hd : 3 ≤ d ∧ d ≤ 4) : (rootD R d).1.2.length ≤ 4 ∧ ∀ v ∈ (rootD R d).1.2, VO v := by
 have h1 : ROk (nx R) 599 := h.nx (by omega)
 have h2 : ROk (nx (nx R)) 598 := h1.nx (by omega)
 have hb := pk_bd h1 (by omega) (n := 5) (by omega)
 exact ⟨(rootD_ok (m := 0) (by decide) (h.le (by omega)) hd).2.1, VO_go hd (pk (nx R) 5).toNat [] (nx (nx R)) (h2.le (by omega)) fun v hv => by cases hv⟩
theorem smO_of {l : List Vol_} (h1 : l.length ≤ 6) (h2 : ∀ v ∈ l, VO v) : SmO l := ⟨h1, h2⟩
theorem VO_z {s : Str} (h : s.length ≤ 3) : VO (s, [zP, zP, zP]) := ⟨h, Nat.le_refl _, fun q hq => by
 simp only [List.mem_cons, List.not_mem_nil, or_false, or_self] at hq
 rw [hq]; exact P4_z⟩
theorem VO_v0 {l : List Vol_} (h : ∀ v ∈ l, VO v) : VO (v0 l) := by
 unfold v0
 rw [List.getD_eq_getElem?_getD]
 cases hk : l[0]? with
 | none => exact ⟨Nat.zero_le _, Nat.zero_le _, fun q hq => by cases hq⟩
 | some q => exact h q (List.mem_of_getElem? hk)
theorem VO_set {l : List Vol_} {k : Nat} {v : Vol_} (h : ∀ q ∈ l, VO q) (hp : VO v) : ∀ q ∈ l.set k v, VO q := by
 intro q hq
 rcases List.mem_or_eq_of_mem_set hq with h1 | rfl
 ·exact h q h1
 ·exact hp
theorem VO_snoc {l : List Vol_} {v : Vol_} (h : ∀ q ∈ l, VO q) (hp : VO v) : ∀ q ∈ l ++ [v], VO q := by
 intro q hq
 rcases List.mem_append.1 hq with h1 | h1
 ·exact h q h1
 ·rw [List.mem_singleton.1 h1]; exact hp
theorem fill_VO : ∀ (n : Nat) (l : List Vol_), (∀ v ∈ l, VO v) → (∀ v ∈ fillGo n l, VO v) ∧ (fillGo n l).length = l.length + n := by
 intro n
 induction n with
 | zero => intro l h; exact ⟨h, rfl⟩
 | succ n ih =>
  intro l h
  simp only [fillGo]
  obtain ⟨a, b⟩ := ih (l ++ [([UInt8.ofNat (107 + l.length)], [zP, zP, zP])]) (VO_snoc h (VO_z (by show 1 ≤ 3; decide)))
  exact ⟨a, by rw [b, List.length_append, List.length_singleton]; omega⟩
theorem offD_smO {R : Rd} {d : Int} (h : ROk R 700) (hd : 3 ≤ d ∧ d ≤ 4) : SmO (offD R d).1.2 := by
 obtain ⟨h4, hv⟩ := rootD_smO (h.le (by omega)) hd
 have hq : ROk (rootD R d).2 100 := (rootD_ok (m := 100) (by decide) (h.le (by omega)) hd).1
 have hR2 : ROk (nx (nx (rootD R d).2)) 40 := (hq.nx (m' := 99) (by omega)).nx (by omega)
 have h6 : (rootD R d).1.2.length ≤ 6 := by omega
 unfold offD
 simp only
 split
 ·exact smO_of h6 hv
 ·split
  ·exact smO_of h6 hv
  ·split
   ·exact smO_of (by show (_ ++ _ : List Vol_).length ≤ 6; rw [List.length_append, List.length_singleton]; omega) (VO_snoc hv (VO_z (by show 1 ≤ 3; decide)))
   ·split
    ·split
     ·obtain ⟨a, b, c⟩ := VO_v0 hv
      exact smO_of (by show (List.set _ _ _ : List Vol_).length ≤ 6; rw [List.length_set]; omega) (VO_set hv ⟨a, by show (List.drop _ _).length ≤ 3; rw [List.length_drop]; omega, fun p hp => c p (List.mem_of_mem_drop hp)⟩)
     ·exact smO_of h6 hv
    ·split
     ·split
      ·obtain ⟨a, b, c⟩ := VO_v0 hv
       exact smO_of (by show (List.set _ _ _ : List Vol_).length ≤ 6; rw [List.length_set]; omega) (VO_set hv ⟨a, by show (List.set _ _ _).length ≤ 3; rw [List.length_set]; exact b, P4_set c (P4_some hR2 hd)⟩)
      ·exact smO_of h6 hv
     ·split
      ·split
       ·exact smO_of (by show (_ ++ _ : List Vol_).length ≤ 6; rw [List.length_append, List.length_singleton]; omega) (VO_snoc hv (VO_v0 hv))
       ·exact smO_of h6 hv
      ·obtain ⟨a, b⟩ := fill_VO (5 - (rootD R d).1.2.length) (rootD R d).1.2 hv
       exact smO_of (by show (fillGo _ _).length ≤ 6; rw [b]; omega) a
def drR2 (code : List Int) : Root_ × Rd := rootD (nx (rd0 code)) (drN code)
def drS (code : List Int) : Str := rootT (drN code) (drR2 code).1
def drAt (code : List Int) : Int := pk (drR2 code).2 ((drS code).length + 1 : Int)
def drQ1 (code : List Int) : Rd := nx (drR2 code).2
def ofs : List Str := [[48], [32], [10], [49], [118, 111, 108, 32, 113, 10], [110, 111, 110, 101, 10]]
def drText (code : List Int) : Int × Str :=
 let s := drS code
 let a := (drAt code).toNat
 let q := drQ1 code
 if pk q 8 = 0 then (drN code, s.take a)
 else if pk q 8 = 1 then (drN code, s.take a ++ ofs.getD (pk (nx q) 6).toNat [] ++ s.drop a)
 else if pk q 8 = 2 then (7 - drN code, s)
 else if pk q 8 = 3 then (drN code, bodyL (offD (nx q) (drN code)).1 ++ tSum ++ itoaV (weighV (bodyL (offD (nx q) (drN code)).1)) ++ [10])
 else (drN code, s)
end Go.Sx

namespace Go.Sx
open Go
set_option maxRecDepth 100000
set_option linter.unusedVariables false
set_option linter.unusedSimpArgs false
set_option maxHeartbeats 2000000
def cDecA : Ctr := ⟨55, [.val false TI pF], fun _ => True, fun x => (sStr (itoaV x.1), [])⟩
theorem cDecA_ok : CtrOk Proofs.Tryz.prog cDecA := by
 have hP := ((Prg.none ttok mtok).and cDec_ok)
 refine ctr_of_body hP cDecA (fn := Proofs.Tryz.f55) (rts := [.tmp 2]) Proofs.Tryz.func55 rfl (by kernel_rfl) rfl rfl ?_
 rintro ⟨(n : Int), ⟨⟩⟩ ⟨hn0, _⟩ _
 try dsimp only [Ty.den, Mode.den, mdens] at _
 refine ⟨rfl, ?_⟩
 replace hn0 : inR .i64 n := hn0
 have hln := itoaV_len hn0
 rw [inR_i64] at hn0
 refine sw_seq (xr hP 1 rfl (sw_seq (sw_seq (xr hP 2 rfl (sw_cond rfl (fun c1 => ?_) (fun c1 => ?_))))))
 ·obtain rfl : n = -9223372036854775808 := by have h : n < -9223372036854775807 := of_decide_eq_true c1; omega
  refine sw_seq (xr hP 3 rfl (sw_ret ⟨.inl rfl, _, rfl, ?_⟩))
  simp [conj, bytesL]
  exact itoaV_min.symm
 ·have hg : ¬ n < -9223372036854775807 := of_decide_eq_false c1
  refine sw_skip (sw_seq (sw_seq (xr hP 3 rfl (sw_cond rfl (fun c3 => ?_) (fun c3 => ?_)))))
  ·replace c3 : n < 0 := of_decide_eq_true c3
   have hv := itoaV_neg c3
   have hl2 : (itoaV (-n)).length ≤ 21 := itoaV_len (by rw [inR_i64]; omega)
   refine sw_seq (xg hP 4 [] rfl ?_ ?_)
   ·simp [conj, maxL, bytesL]
    repeat' apply And.intro
    all_goals first | omega | (show 0 ≤ -n; omega) | (show (itoaV (-n)).length + 1 ≤ 140737488355328; omega) | (show 1 + (itoaV (-n)).length ≤ 140737488355328; omega)
   refine sw_ret ⟨.inl rfl, _, rfl, ?_⟩
   simp [conj, bytesL]
   exact hv.symm
  ·have h0 : 0 ≤ n := by have h : ¬ n < 0 := of_decide_eq_false c3; omega
   have hq : n.tdiv 10 = n / 10 := Int.tdiv_eq_ediv_of_nonneg h0
   have hr : n.tmod 10 = n % 10 := Int.tmod_eq_emod_of_nonneg h0
   have hlq : (itoaV (n.tdiv 10)).length ≤ 21 := itoaV_len (by rw [inR_i64]; omega)
   refine sw_skip (sw_seq (sw_seq (xr hP 4 rfl (sw_cond rfl (fun c5 => ?_) (fun c5 => ?_)))))
   ·replace c5 : n < 10 := of_decide_eq_true c5
    refine sw_seq (xg hP 5 [] rfl ?_ ?_)
    ·simp only [cj, inR_u8, cl]
     try dsimp only [Ty.den, Ty.dflt]
     repeat' apply And.intro
     all_goals first | omega | trivial
    refine sw_ret ⟨.inl rfl, _, rfl, ?_⟩
    simp [conj, ofBytes]
    exact (itoaV_small h0 c5).symm
   ·replace c5 : ¬ n < 10 := of_decide_eq_false c5
    refine sw_skip (sw_seq (xg hP 5 [] rfl ?_ ?_))
    ·simp only [cj, inR_u8, cl]
     try dsimp only [Ty.den, Ty.dflt]
     repeat' apply And.intro
     all_goals first | omega | (show 0 ≤ n.tdiv 10; omega) | (show _ ≤ n.tdiv 10; omega) | (show n.tdiv 10 ≤ _; omega) | (show _ ≤ 48 + n.tmod 10; omega) | (show 48 + n.tmod 10 ≤ _; omega) | trivial | (show (itoaV (n.tdiv 10)).length + 1 ≤ 140737488355328; omega)
    refine sw_ret ⟨.inl rfl, _, rfl, ?_⟩
    simp [conj, ofBytes]
    rw [itoaV_big h0 c5, hq, hr]
def cLineO : Ctr := ⟨71, [.val true T_Ptr (.all .b)], fun x => List.length x.1.2.2 ≤ 4, fun x => (sStr (lineO x.1), [])⟩
theorem cLineO_ok : CtrOk Proofs.Tryz.prog cLineO := by
 have hP := ((Prg.none ttok mtok).and cDecA_ok)
 refine ctr_of_body hP cLineO (fn := Proofs.Tryz.f71) (rts := [.tmp 2]) Proofs.Tryz.func71 rfl (by kernel_rfl) rfl rfl ?_
 rintro ⟨⟨(sz : Int), (sm : Int), (pl : List Plc)⟩, ⟨⟩⟩ ⟨⟨hz0, hm0, hpl0⟩, _⟩ hpre
 try dsimp only [Ty.den, Mode.den, mdens] at hpre
 refine ⟨rfl, ?_⟩
 replace hpre : pl.length ≤ 4 := hpre
 have hi1 : (itoaV sz).length ≤ 21 := itoaV_len hz0
 have hi2 : (itoaV sm).length ≤ 21 := itoaV_len hm0
 refine sw_seq (xr hP 1 rfl (sw_seq (sw_seq (xr hP 2 rfl (sw_cond rfl (fun c1 => ?_) (fun c1 => ?_))))))
 ·replace c1 : sz = 0 := of_decide_eq_true c1
  have hnn : lineO ((sz, sm, pl) : Ptr_) = tNone := if_pos c1
  refine sw_seq (xr hP 3 rfl (sw_ret ⟨.inl rfl, _, rfl, ?_⟩))
  simp [conj, hnn, bytesL]
  rfl
 ·replace c1 : ¬ sz = 0 := of_decide_eq_false c1
  have hnn : lineO ((sz, sm, pl) : Ptr_) = (Lib.join (wordsV ((sz, sm, pl) : Ptr_)) [32]) ++ [10] := if_neg c1
  refine sw_skip (sw_seq (xg hP 3 [] rfl ?_ ?_))
  ·simp [conj, maxL, bytesL]
   repeat' apply And.intro
   all_goals first | omega | trivial
  refine sw_seq (sw_seq (xr hP 4 rfl (sw_block (sw_loop (ι := Nat × Str) (fun ⟨i, o⟩ => ⟨[.j, .v false [.ptr ⟨1, 0, 0⟩ 0], .j, sStr o, sInt .i64 (i : Int), .j, .j, .j, .j, .j, .j, .j, .j, .j, .j, .j, .j, .j, .j, .j, .j, .j, .j, .j, .j, .j, .j, .j, .j, .j, .j, .j, .j, .j, .j, .j, .j, .j, .j, .j, .j, .j, .j, .j, .j], [(⟨1, 0, 0⟩, .var [.d TI pF sz, .d TI pF sm, .d (.sl T_Place) (.all .b) pl])], 4, []⟩) (fun ⟨i, o⟩ => pl.length - i) (fun ⟨i, o⟩ => i ≤ pl.length ∧ o ++ catGo wordS (pl.drop i) = (Lib.join (wordsV ((sz, sm, pl) : Ptr_)) [32]) ∧ o.length ≤ 50 + i * 50) (0, tPtr ++ [32] ++ itoaV sz ++ [32] ++ itoaV sm) ⟨?_, ?_⟩ ?_))))
  ·exact ⟨Nat.zero_le _, words_join.symm, by simp [tPtr]; omega⟩
  ·refine ent_ok rfl ?_
   simp [conj, bytesL]
   rfl
  ·rintro ⟨i, o⟩ ⟨hi, hgo, hol⟩
   refine sw_seq (sw_seq (xr hP 5 rfl (sw_cond rfl (fun c5 => ?_) (fun c5 => ?_))))
   ·have hlt : i < pl.length := by simpa using c5
    have hin := hpl0.2 _ (List.getElem_mem hlt)
    have hi3 : (itoaV pl[i].1).length ≤ 21 := itoaV_len hin.1
    have hi4 : (itoaV pl[i].2).length ≤ 21 := itoaV_len hin.2
    refine sw_skip (sw_seq (sw_block (xg hP 6 [] rfl ?_ ?_)))
    ·simp [conj, maxL, bytesL, gE hlt]
     repeat' apply And.intro
     all_goals first | omega | trivial
    refine xr hP 7 rfl (⟨(i + 1, o ++ wordS pl[i]), ?_, ?_, ent_ok rfl ?_⟩)
    ·exact ⟨hlt, cat_next hlt hgo, by simp [wordS, wordV]; omega⟩
    ·show pl.length - (i + 1) < pl.length - i
     omega
    ·simp [conj, bytesL, wordS, wordV, gE hlt]
   ·obtain rfl : i = pl.length := by simp at c5; omega
    have hv := cat_end hgo
    subst hv
    refine sw_exit (sw_seq (xg hP 6 [] rfl ?_ ?_))
    ·simp [conj, maxL, bytesL]
     repeat' apply And.intro
     all_goals first | omega | trivial
    refine sw_ret ⟨.inl rfl, _, rfl, ?_⟩
    simp [conj, hnn, bytesL]
def cTextO : Ctr := ⟨54, [.val true T_Root (.all .b)], fun x => SmO x.1.2, fun x => (sStr (bodyL x.1), [])⟩
theorem cTextO_ok : CtrOk Proofs.Tryz.prog cTextO := by
 have hP := (((Prg.none ttok mtok).and cDecA_ok).and cLineO_ok)
 refine ctr_of_body hP cTextO (fn := Proofs.Tryz.f54) (rts := [.tmp 2]) Proofs.Tryz.func54 rfl (by kernel_rfl) rfl rfl ?_
 rintro ⟨⟨(tg : Int), (l : List Vol_)⟩, ⟨⟩⟩ ⟨⟨ht0, hl0⟩, _⟩ hpre
 try dsimp only [Ty.den, Mode.den, mdens] at hpre
 refine ⟨rfl, ?_⟩
 replace hpre : SmO l := hpre
 have hi1 : (itoaV tg).length ≤ 21 := itoaV_len ht0
 have hml : l.length ≤ 6 := hpre.1
 refine sw_seq (xr hP 1 rfl (sw_seq (xg hP 2 [] rfl ?_ ?_)))
 ·simp [conj, maxL, bytesL]
  repeat' apply And.intro
  all_goals first | omega | trivial
 refine sw_seq (sw_seq (xr hP 3 rfl (sw_block (sw_loop (ι := Nat × Str) (fun ⟨i, o⟩ => ⟨[.j, .v false [.ptr ⟨1, 0, 0⟩ 0], .j, sStr o, sInt .i64 (i : Int), .j, .j, .j, .j, .j, .j, .j, .j, .j, .j, .j, .j, .j, .j, .j, .j, .j, .j, .j, .j, .j, .j, .j, .j, .j, .j, .j, .j, .j, .j, .j, .j, .j, .j, .j, .j, .j, .j, .j, .j, .j, .j, .j, .j, .j, .j, .j], [(⟨1, 0, 0⟩, .var [.d TI pF tg, .d (.sl T_Vol) (.all .b) l])], 3, []⟩) (fun ⟨i, o⟩ => l.length - i) (fun ⟨i, o⟩ => i ≤ l.length ∧ o ++ catGo volTO (l.drop i) = bodyO ((tg, l) : Root_) ∧ o.length ≤ 27 + i * 1000) (0, tRoot ++ itoaV tg ++ [10]) ⟨?_, ?_⟩ ?_))))
 ·exact ⟨Nat.zero_le _, rfl, by simp [tRoot]; omega⟩
 ·refine ent_ok rfl ?_
  simp [conj, bytesL]
  try rfl
 ·rintro ⟨i, o⟩ ⟨hi, hgo, hol⟩
  refine sw_seq (sw_seq (xr hP 4 rfl (sw_cond rfl (fun c3 => ?_) (fun c3 => ?_))))
  ·have hlt : i < l.length := by simpa using c3
   obtain ⟨hn3, hb3, hpv⟩ := hpre.2 _ (List.getElem_mem hlt)
   refine sw_skip (sw_seq (sw_block (sw_seq (xg hP 5 [] rfl ?_ ?_))))
   ·simp [conj, maxL, bytesL, gE hlt]
    repeat' apply And.intro
    all_goals first | omega | trivial
   refine sw_seq (xr hP 6 rfl (sw_block (sw_loop (ι := Nat × Str) (fun ⟨j, o⟩ => ⟨[.j, .v false [.ptr ⟨1, 0, 0⟩ 0], .j, sStr o, sInt .i64 (i : Int), sInt .i64 (j : Int), .j, .j, .j, .j, .j, .j, .j, .j, .j, .j, .j, .j, .j, .j, .j, .j, .j, .j, .j, .j, .j, .j, .j, .j, .j, .j, .j, .j, .j, .j, .j, .j, .j, .j, .j, .j, .j, .j, .j, .j, .j, .j, .j, .j, .j, .j], [(⟨1, 0, 0⟩, .var [.d TI pF tg, .d (.sl T_Vol) (.all .b) l])], 6, []⟩) (fun ⟨j, o⟩ => l[i].2.length - j) (fun ⟨j, o⟩ => j ≤ l[i].2.length ∧ (o ++ catGo lineO (l[i].2.drop j)) ++ catGo volTO (l.drop (i + 1)) = bodyO ((tg, l) : Root_) ∧ o.length ≤ 27 + i * 1000 + 8 + j * 300) (0, o ++ (tVol ++ l[i].1 ++ [10])) ⟨?_, ?_⟩ ?_)))
   ·exact ⟨Nat.zero_le _, volO_in hlt hgo, by simp [tVol]; omega⟩
   ·refine ent_ok rfl ?_
    simp [conj, bytesL, gE hlt]
    try rfl
   ·rintro ⟨j, o⟩ ⟨hj, hgo2, hol2⟩
    refine sw_seq (sw_seq (xg hP 7 [] rfl ?_ ?_))
    ·simp [conj, gE hlt]
     repeat' apply And.intro
     all_goals first | omega | trivial
    refine sw_cond rfl (fun c7 => ?_) (fun c7 => ?_)
    ·have hlj : j < l[i].2.length := by
       have h := c7
       simp [gE hlt] at h
       omega
     have hpj := hpv _ (List.getElem_mem hlj)
     have hok := (hl0.2 _ (List.getElem_mem hlt)).2.2 _ (List.getElem_mem hlj)
     have hll := lineO_len hok.1 hok.2.1 hok.2.2.2 hpj
     refine sw_skip (sw_seq (sw_block (xg hP 8 [] rfl ?_ ?_)))
     ·simp [conj, maxL, gE hlt, gE hlj]
      repeat' apply And.intro
      all_goals first | omega | exact hpj | (have h : List.length (lineO l[i].2[j]) ≤ 300 := hll; show o.length + List.length (lineO l[i].2[j]) ≤ 140737488355328; omega) | trivial
     refine xr hP 9 rfl (⟨(j + 1, o ++ lineO l[i].2[j]), ?_, ?_, ent_ok rfl ?_⟩)
     ·exact ⟨hlj, volO_line hlj hgo2, by simp; omega⟩
     ·show l[i].2.length - (j + 1) < l[i].2.length - j
      omega
     ·simp [conj, gE hlt, gE hlj]
    ·obtain rfl : j = l[i].2.length := by
       have h := c7
       simp [gE hlt] at h
       omega
     refine sw_exit (xr hP 8 rfl (⟨(i + 1, o), ?_, ?_, ent_ok rfl ?_⟩))
     ·exact ⟨hlt, volO_out hgo2, by show o.length ≤ 27 + (i + 1) * 1000; omega⟩
     ·show l.length - (i + 1) < l.length - i
      omega
     ·simp [conj]
  ·obtain rfl : i = l.length := by simp at c3; omega
   have hv := cat_end hgo
   subst hv
   refine sw_exit (sw_seq (xr hP 5 rfl (sw_ret ⟨.inl rfl, _, rfl, ?_⟩)))
   have hbl := bodyO_len (r := ((tg, l) : Root_)) ht0 (fun v hv p hp => by have h := (hl0.2 v hv).2.2 p hp; exact ⟨h.1, h.2.1, h.2.2.2⟩) hpre
   simp [conj, bodyL_of hbl]
end Go.Sx

namespace Go.Proofs
open Go.RowKit Go.Shelf
attribute [local go_sem] Oper.semAt_some
def volUp {α : Type} (f : Nat → α) (k : Nat) : List α := (List.range k).map f
theorem volUp_succ {α : Type} (f : Nat → α) (k : Nat) : volUp f (k + 1) = volUp f k ++ [f k] := by simp [volUp, List.range_succ]
theorem volUp_length {α : Type} (f : Nat → α) (k : Nat) : (volUp f k).length = k := by simp [volUp]
theorem vol_new (W : World) (v : Value) (t : TypeId) : (W.alloc (.cells #[v] t)).cell? ⟨W.heap.size, 0, none⟩ = some v ∧ (W.alloc (.cells #[v] t)).frozen? ⟨W.heap.size, 0, none⟩ = false := by
 have h : (W.alloc (.cells #[v] t)).heap[W.heap.size]? = some (.cells #[v] t (0, 0)) := World.alloc_heap_new W (.cells #[v] t)
 constructor
 ·rw [World.cell?, h]; rfl
 ·rw [World.frozen?, h]; rfl
theorem vol_cell {W : World} {a : Addr} {v : Value} (o : Obj) (h : W.cell? a = some v) : (W.alloc o).cell? a = some v := cell_kept h (World.grownBy_alloc W o none) (fun r e => by cases e)
theorem vol_frozen {W : World} {a : Addr} {v : Value} (o : Obj) (h : W.cell? a = some v) (hf : W.frozen? a = false) : (W.alloc o).frozen? a = false := (frozen_kept h (World.grownBy_alloc W o none) (fun r e => by cases e)).trans hf
abbrev volE (x : Nat × UInt8) : Array Value := #[.int .i64 ((x.1 : Int) + 1), .int .u8 (x.2.toNat : Int)]
set_option maxRecDepth 100000 in
set_option maxHeartbeats 1000000 in
theorem vol76_in (F : Fence) (n : Nat) (h8 : F.fn 76) (hro : F.round = none) (hn : 1 ≤ n) (l Bs n₀ : Nat) (s : ByteArray) (hreach : s.size ≤ 140737488355328) (hb : Bs < n₀) (J Jx : List (Nat × UInt8) → World → Prop)
  (hY : ∀ pre x W, J pre W → pre.length < s.size → YieldAt F (n - 1) Tryz.prog l (volE x) W fun e W' =>
   (e = .returned (.bool true) ∧ J (pre ++ [x]) W' ∧ Below n₀ W W') ∨ (e = .returned (.bool false) ∧ Jx (pre ++ [x]) W'))
  (W : World) (hBs : W.cell? ⟨Bs, 0, none⟩ = some (.string s)) (h0 : J [] W) :
  CallsIn F n Tryz.prog 76 #[.func (.yield l) #[] #[], .pointer (some ⟨Bs, 0, none⟩)] W fun e W' => (∃ v, e = .returned v) ∧
   ((∃ ys, ys = volUp (fun j => (j, s.data[j]?.getD 0)) s.size ∧ J ys W') ∨ (∃ pre, (∃ k, k ≤ s.size ∧ pre = volUp (fun j => (j, s.data[j]?.getD 0)) k) ∧ Jx pre W')) := by
 refine callsIn_of_wp Tryz.func76 rfl h8 ?_ hro
 simp only [Tryz.ntmps76, List.size_toArray, List.length_cons, List.length_nil, Nat.reduceAdd, Nat.reduceSub, Array.replicate_succ, Array.replicate_zero, List.push_toArray, List.append_toArray, List.nil_append, List.cons_append]
 gi_wp2
 gi_loopw [6] (fun i wr => ∃ k : Nat, k ≤ s.size ∧ i = .int .i64 k ∧ J (volUp (fun j => (j, s.data[j]?.getD 0)) k) wr ∧ Below n₀ W wr)
  (fun i _ => s.size - (intOf i).toNat)
 case atStart => exact ⟨0, Nat.zero_le _, rfl, h0, Below.refl _ _⟩
 case round =>
  obtain ⟨k, hk, rfl, hJs, hnx⟩ := hrel
  have hcx : wr.cell? ⟨Bs, 0, none⟩ = some (.string s) := (hnx.cell (p := ⟨Bs, 0, none⟩) hb).trans hBs
  by_cases hlt : k < s.size
  ·obtain ⟨fn, tmps, assign, body, hy, hR⟩ := hY _ (k, s.data[k]?.getD 0) wr hJs (by rw [volUp_length]; exact hlt)
   dsimp only [volE] at hy
   have e : s.data[k]?.getD 0 = s[k]'hlt := by
    have h : k < s.data.size := hlt
    rw [Array.getElem?_eq_getElem h]
    rfl
   rw [e] at hy
   gi_wp2
   refine hR.mono ?_
   rintro e W3 (⟨rfl, hJ3, hk3⟩ | ⟨rfl, hJx3⟩)
   ·gi_wp2
    go_roundw
    case rel => exact ⟨k + 1, by omega, by simp, by rw [volUp_succ]; exact hJ3, hnx.trans hk3⟩
    case measure => simp [intOf]; omega
   ·gi_wp2
    refine bodyPost_ret (results_none rfl _ _ _) rfl ?_
    exact ⟨⟨_, rfl⟩, .inr ⟨_, ⟨k + 1, by omega, (volUp_succ _ _).symm⟩, hJx3⟩⟩
  ·obtain rfl : k = s.size := by omega
   gi_wp2
   go_end0
   exact ⟨⟨_, rfl⟩, .inl ⟨_, rfl, hJs⟩⟩
theorem vol_stops (F : Fence) (n : Nat) (h8 : F.fn 76) (hro : F.round = none) (hn : 1 ≤ n) (Bs n₀ : Nat) (s : ByteArray) (hreach : s.size ≤ 140737488355328) (w : World) (hn₀ : n₀ ≤ w.heap.size) (hb : Bs < n₀) (hc : w.cell? ⟨Bs, 0, none⟩ = some (.string s)) :
  SeqStopsK F n Tryz.prog 76 #[.pointer (some ⟨Bs, 0, none⟩)] volE (Below n₀) (fun xs => xs = volUp (fun j => (j, s.data[j]?.getD 0)) s.size)
   (fun pre => ∃ k, k ≤ s.size ∧ pre = volUp (fun j => (j, s.data[j]?.getD 0)) k) s.size w := fun l J Jx W hW _ _ hY h0 =>
 vol76_in F n h8 hro hn l Bs n₀ s hreach hb J Jx hY W ((hW.cell (p := ⟨Bs, 0, none⟩) (Nat.lt_of_lt_of_le hb hn₀)).trans hc) h0
set_option maxRecDepth 100000 in
set_option maxHeartbeats 2000000 in
theorem vol63_in (F : Fence) (n : Nat) (h : F.fn 63) (hro : F.round = none) (s : ByteArray) (w : World) :
  CallsIn F n Tryz.prog 63 #[.string s] w fun e W' => e = .returned (.func (.func 76) #[] #[.pointer (some ⟨w.heap.size, 0, none⟩)]) ∧ W' = w.alloc (.cells #[.string s] 9) := by
 refine callsIn_of_wp Tryz.func63 rfl h ?_ hro
 simp only [Tryz.ntmps63, List.size_toArray, List.length_cons, List.length_nil, Nat.reduceAdd, Nat.reduceSub, Array.replicate_succ, Array.replicate_zero, List.push_toArray, List.append_toArray, List.nil_append, List.cons_append]
 gi_wp2
 go_ret
 exact ⟨rfl, rfl⟩
def volOk (s : ByteArray) : Bool := !(s.size == 0) && decide (s.size ≤ 3) && s.data.toList.all (fun c => decide (97 ≤ c.toNat) && decide (c.toNat ≤ 122))
def volP (c : UInt8) : Bool := decide (97 ≤ c.toNat) && decide (c.toNat ≤ 122)
def volA (pre : List (Nat × UInt8)) : Bool := pre.all (fun y => volP y.2)
theorem vol_take (s : ByteArray) (k : Nat) (hk : k ≤ s.size) : volA (volUp (fun j => (j, s.data[j]?.getD 0)) k) = (s.data.toList.take k).all volP := by
 have h : (volUp (fun j => (j, s.data[j]?.getD 0)) k).map (·.2) = s.data.toList.take k := by
  apply List.ext_getElem
  ·have : k ≤ s.data.size := hk
   simp [volUp]; omega
  ·intro i h1 h2
   have h3 : i < s.data.size := by rw [List.length_take, Array.length_toList] at h2; omega
   simp [volUp]
   rw [Array.getElem?_eq_getElem h3]; rfl
 rw [← h, List.all_map]; rfl
theorem vol_good {pre : List (Nat × UInt8)} {x : Nat × UInt8} (h : volA pre = true) (h1 : 97 ≤ (x.2.toNat : Int)) (h2 : (x.2.toNat : Int) ≤ 122) : volA (pre ++ [x]) = true := by
 unfold volA at *; rw [List.all_append, h]; simp [volP]; omega
theorem vol_bad {pre : List (Nat × UInt8)} {x : Nat × UInt8} (h : (x.2.toNat : Int) < 97 ∨ 122 < (x.2.toNat : Int)) : volA (pre ++ [x]) = false := by
 unfold volA; rw [List.all_append]; simp [volP]; omega
theorem vol_yes {s : ByteArray} (h0 : s.size ≠ 0) (h3 : s.size ≤ 3) (h : volA (volUp (fun j => (j, s.data[j]?.getD 0)) s.size) = true) : volOk s = true := by
 rw [vol_take s s.size (Nat.le_refl _)] at h
 rw [List.take_of_length_le (by simp)] at h
 unfold volOk
 rw [show (fun c : UInt8 => decide (97 ≤ c.toNat) && decide (c.toNat ≤ 122)) = volP from rfl, h]
 simp [h0, h3]
theorem vol_no {s : ByteArray} {pre : List (Nat × UInt8)} (hp : ∃ k, k ≤ s.size ∧ pre = volUp (fun j => (j, s.data[j]?.getD 0)) k) (h : volA pre = false) : volOk s = false := by
 obtain ⟨k, hk, rfl⟩ := hp
 rw [vol_take s k hk] at h
 unfold volOk
 rw [show (fun c : UInt8 => decide (97 ≤ c.toNat) && decide (c.toNat ≤ 122)) = volP from rfl]
 have : s.data.toList.all volP = false := by
  rw [← List.take_append_drop k s.data.toList, List.all_append, h]; rfl
 rw [this]; simp
end Go.Proofs

namespace Go.Proofs
open Go.RowKit Go.Shelf
attribute [local go_sem] Oper.semAt_some
abbrev WX := { x : Nat × UInt8 // x.1 < 1000000 }
abbrev weiE (x : WX) : Array Value := volE x.val
def weiF (s : ByteArray) (j : Nat) : WX := ⟨(min j 999999, s.data[j]?.getD 0), by show min j 999999 < 1000000; omega⟩
set_option maxRecDepth 100000 in
set_option maxHeartbeats 1000000 in
theorem weiB_in (F : Fence) (n : Nat) (h8 : F.fn 76) (hro : F.round = none) (hn : 1 ≤ n) (l Bs : Nat) (s : ByteArray) (hreach : s.size ≤ 1000000) (J Jx : List WX → World → Prop)
  (hY : ∀ pre x W, J pre W → pre.length < s.size → YieldAt F (n - 1) Tryz.prog l (weiE x) W fun e W' =>
   (e = .returned (.bool true) ∧ J (pre ++ [x]) W' ∧ W'.heap[Bs]? = W.heap[Bs]?) ∨ (e = .returned (.bool false) ∧ Jx (pre ++ [x]) W'))
  (W : World) (hBs : W.cell? ⟨Bs, 0, none⟩ = some (.string s)) (h0 : J [] W) :
  CallsIn F n Tryz.prog 76 #[.func (.yield l) #[] #[], .pointer (some ⟨Bs, 0, none⟩)] W fun e W' => (∃ v, e = .returned v) ∧
   ((∃ ys, ys = volUp (weiF s) s.size ∧ J ys W') ∨ (∃ pre, (∃ k, k ≤ s.size ∧ pre = volUp (weiF s) k) ∧ Jx pre W')) := by
 refine callsIn_of_wp Tryz.func76 rfl h8 ?_ hro
 simp only [Tryz.ntmps76, List.size_toArray, List.length_cons, List.length_nil, Nat.reduceAdd, Nat.reduceSub, Array.replicate_succ, Array.replicate_zero, List.push_toArray, List.append_toArray, List.nil_append, List.cons_append]
 gi_wp2
 gi_loopw [6] (fun i wr => ∃ k : Nat, k ≤ s.size ∧ i = .int .i64 k ∧ J (volUp (weiF s) k) wr ∧ wr.heap[Bs]? = W.heap[Bs]?)
  (fun i _ => s.size - (intOf i).toNat)
 case atStart => exact ⟨0, Nat.zero_le _, rfl, h0, rfl⟩
 case round =>
  obtain ⟨k, hk, rfl, hJs, hnx⟩ := hrel
  have hcx : wr.cell? ⟨Bs, 0, none⟩ = some (.string s) := by
   have : wr.cell? ⟨Bs, 0, none⟩ = W.cell? ⟨Bs, 0, none⟩ := by simp only [World.cell?, hnx]
   exact this.trans hBs
  by_cases hlt : k < s.size
  ·obtain ⟨fn, tmps, assign, body, hy, hR⟩ := hY _ (weiF s k) wr hJs (by rw [volUp_length]; exact hlt)
   dsimp only [weiE, volE, weiF] at hy
   rw [show min k 999999 = k by omega] at hy
   have e : s.data[k]?.getD 0 = s[k]'hlt := by
    have h : k < s.data.size := hlt
    rw [Array.getElem?_eq_getElem h]
    rfl
   rw [e] at hy
   gi_wp2
   refine hR.mono ?_
   rintro e W3 (⟨rfl, hJ3, hk3⟩ | ⟨rfl, hJx3⟩)
   ·gi_wp2
    go_roundw
    case rel => exact ⟨k + 1, by omega, by simp, by rw [volUp_succ]; exact hJ3, hk3.trans hnx⟩
    case measure => simp [intOf]; omega
   ·gi_wp2
    refine bodyPost_ret (results_none rfl _ _ _) rfl ?_
    exact ⟨⟨_, rfl⟩, .inr ⟨_, ⟨k + 1, by omega, (volUp_succ _ _).symm⟩, hJx3⟩⟩
  ·obtain rfl : k = s.size := by omega
   gi_wp2
   go_end0
   exact ⟨⟨_, rfl⟩, .inl ⟨_, rfl, hJs⟩⟩
theorem wei_stops (F : Fence) (n : Nat) (h8 : F.fn 76) (hro : F.round = none) (hn : 1 ≤ n) (Bs : Nat) (s : ByteArray) (hreach : s.size ≤ 1000000) (w : World) (hb : Bs < w.heap.size) (hc : w.cell? ⟨Bs, 0, none⟩ = some (.string s)) :
  SeqStopsK F n Tryz.prog 76 #[.pointer (some ⟨Bs, 0, none⟩)] weiE (fun W W' => W'.heap[Bs]? = W.heap[Bs]?) (fun xs => xs = volUp (weiF s) s.size)
   (fun pre => ∃ k, k ≤ s.size ∧ pre = volUp (weiF s) k) s.size w := fun l J Jx W hW _ _ hY h0 =>
 weiB_in F n h8 hro hn l Bs s hreach J Jx hY W ((hW.cell (p := ⟨Bs, 0, none⟩) hb).trans hc) h0
def weiS (pre : List WX) : Int := pre.foldl (fun a x => a + (x.val.2.toNat : Int) * (65536 + ((x.val.1 : Int) + 1))) 0
theorem weiS_add (pre : List WX) (x : WX) : weiS (pre ++ [x]) = weiS pre + (x.val.2.toNat : Int) * (65536 + ((x.val.1 : Int) + 1)) := by simp [weiS]
theorem wei_one (x : WX) : 0 ≤ (x.val.2.toNat : Int) * (65536 + ((x.val.1 : Int) + 1)) ∧ (x.val.2.toNat : Int) * (65536 + ((x.val.1 : Int) + 1)) ≤ 300000000 := by
 have h1 : x.val.2.toNat < 256 := x.val.2.toNat_lt
 have h2 := x.property
 refine ⟨Int.mul_nonneg (by omega) (by omega), ?_⟩
 have := Int.mul_le_mul (a := (x.val.2.toNat : Int)) (b := 65536 + ((x.val.1 : Int) + 1)) (c := 255) (d := 1065536) (by omega) (by omega) (by omega) (by omega)
 omega
theorem weiS_bd : ∀ (n : Nat) (pre : List WX), pre.length = n → 0 ≤ weiS pre ∧ weiS pre ≤ (pre.length : Int) * 300000000 := by
 intro n
 induction n with
 | zero => intro pre h; rw [List.eq_nil_of_length_eq_zero h]; simp [weiS]
 | succ n ih =>
  intro pre h
  have hne : pre ≠ [] := by rintro rfl; cases h
  obtain ⟨q, x, rfl⟩ : ∃ q x, pre = q ++ [x] := ⟨pre.dropLast, pre.getLast hne, (List.dropLast_concat_getLast hne).symm⟩
  have h1 := ih q (by simpa using h)
  have h2 := wei_one x
  rw [weiS_add]
  simp only [List.length_append, List.length_cons, List.length_nil]
  push_cast
  omega
def weiUp (s : ByteArray) (k : Nat) : List WX := volUp (weiF s) k
set_option maxRecDepth 100000 in
set_option maxHeartbeats 2000000 in
theorem wei_in (F : Fence) (n : Nat) (h41 : F.fn 40) (h53 : F.fn 63) (h55 : F.fn 76) (hro : F.round = none) (hn : 3 ≤ n) (s : ByteArray) (hreach : s.size ≤ 1000000) (w : World) :
  CallsIn F n Tryz.prog 40 #[.string s] w fun e W' => e = .returned (.int .i64 (weiS (weiUp s s.size))) ∧ Below w.heap.size w W' := by
 have h1 : 1 ≤ n := by omega
 refine callsIn_of_wp_marks Tryz.func40 rfl h41 ?_ hro
 simp only [Tryz.ntmps40, List.size_toArray, List.length_cons, List.length_nil, Nat.reduceAdd, Nat.reduceSub, Array.replicate_succ, Array.replicate_zero, List.push_toArray, List.append_toArray, List.nil_append, List.cons_append]
 gi_wp2_with (gi_at_call 63; refine (vol63_in F (n - 1) h53 hro _ _).mono ?_; rintro e w' ⟨rfl, rfl⟩)
 have c1 := vol_new w (.int .i64 0) 3
 have c2 := vol_new (w.alloc (.cells #[.int .i64 0] 3)) (.string s) 9
 simp only [World.size_alloc] at c2
 have hB0 : Below w.heap.size w ((w.alloc (.cells #[.int .i64 0] 3)).alloc (.cells #[.string s] 9)) := ((Below.refl _ w).alloc (Nat.le_refl _) _).alloc (by simp) _
 refine wpIn_rangeFunc_ownF hro h1 (gf := 76) (lb := #[.pointer (some ⟨w.heap.size + 1, 0, none⟩)]) rfl h55 (enters_of Tryz.func76 (by kernel_rfl) rfl)
  (wei_stops F (n - 1) h55 hro (by omega) (w.heap.size + 1) s hreach _ (by simp) c2.1) (fun h k => k.trans h) (fun W l o o' hl _ _ _ => World.putObj_heap_other (by simp at hl; omega)) (Below.refl _ _) (fun _ => rfl)
  (fun pre W => (W.cell? ⟨w.heap.size, 0, none⟩ = some (.int .i64 (weiS pre)) ∧ W.frozen? ⟨w.heap.size, 0, none⟩ = false) ∧ Below w.heap.size w W)
  (fun _ _ _ => False)
  (OwnFrom.and (Own.from (fun s A B row hs hg hr => ⟨cell_kept hs.1 hg hr, (frozen_kept hs.1 hg hr).trans hs.2⟩) _) (ownFrom_below (Nat.le_refl _) (by simp; omega)))
  (fun c => Own.from (fun s A B row hs hg hr => hs) _)
  ⟨⟨vol_cell _ c1.1, vol_frozen _ c1.1 c1.2⟩, hB0⟩
  (fun x => { tmps := #[.string s, undef, .int .i64 0, .pointer (some ⟨w.heap.size, 0, none⟩), .int .i64 ((x.val.1 : Int) + 1), .int .u8 (x.val.2.toNat : Int), .string s, .func (.func 76) #[] #[.pointer (some ⟨w.heap.size + 1, 0, none⟩)], .int .i64 ((x.val.1 : Int) + 1), .int .u8 (x.val.2.toNat : Int), undef, undef, undef, undef, undef, undef, undef, undef], defers := [] }) ?assign ?body ?done ?stop
 case assign =>
  intro l x W K hK
  gi_wp2
  exact hK
 case body =>
  rintro l pre x W ⟨⟨hcr, hfr⟩, hB⟩ hlt
  have hb := weiS_bd _ pre rfl
  have hb1 := wei_one x
  have hu : x.val.2.toNat < 256 := x.val.2.toNat_lt
  have hp := x.property
  gi_wp2
  exact ⟨KeepsOthers.setCell _ _ _, Below.heap_setCell _ _ _ _ (by show w.heap.size + 1 ≠ w.heap.size; omega), ⟨by rw [weiS_add]; exact World.cell?_setCell_same' _ _ _ (by rw [hcr]; rfl), by rw [World.frozen?_setCell]; exact hfr⟩, hB.setCell (p := ⟨w.heap.size, 0, none⟩) (by simp) _⟩
 case done =>
  rintro D ys W hD rfl ⟨⟨hcr, hfr⟩, hB⟩ hK
  gi_wp2
  refine ⟨by simp, .inl ⟨_, _, rfl, run_takeDeferred hK, ?_⟩⟩
  refine ⟨.int .i64 (weiS (weiUp s s.size)), ?_, rfl, hB.trans (belowK_b (w := w) (Nat.le_refl _) _ D _ _ (by simp at hD; omega) hK rfl rfl)⟩
  simp [results, Tryz.f40, go_sem, weiUp]
 case stop =>
  rintro D c pre W hD hpre h hK
  exact h.elim
end Go.Proofs

namespace Go.Proofs
def Tryz.lays156_ren : Go.Shelf.Ren := ⟨fun | 156 => 62 | 165 => 73 | 166 => 74 | 169 => 75 | 240 => 90 | 241 => 91 | 276 => 99 | 277 => 100 | n => n, fun | 31 => 45 | 9 => 9 | 3 => 3 | 4 => 4 | 0 => 0 | 20 => 20 | 72 => 115 | 76 => 119 | 70 => 113 | 37 => 108 | 75 => 118 | 127 => 135 | 164 => 143 | 5 => 5 | 80 => 57 | n => n, fun | n => n⟩
theorem Tryz.lays156 : Go.Proofs.Lays.n156 Tryz.prog Tryz.lays156_ren := {
 mixed := by kernel_rfl
 f156 := Tryz.func62.trans (congrArg some (by kernel_rfl))
 f165 := Tryz.func73.trans (congrArg some (by kernel_rfl))
 f166 := Tryz.func74.trans (congrArg some (by kernel_rfl))
 f169 := Tryz.func75.trans (congrArg some (by kernel_rfl))
 f240 := Tryz.func90.trans (congrArg some (by kernel_rfl))
 f241 := Tryz.func91.trans (congrArg some (by kernel_rfl))
 f276 := Tryz.func99.trans (congrArg some (by kernel_rfl))
 f277 := Tryz.func100.trans (congrArg some (by kernel_rfl))
 t0 := Tryz.underlying0
 a0 := Tryz.isAgg0
 z0 := Tryz.sizeOf0
 v0 := Tryz.zeroValue0
 t3 := Tryz.underlying3
 a3 := Tryz.isAgg3
 z3 := Tryz.sizeOf3
 v3 := Tryz.zeroValue3
 t4 := Tryz.underlying4
 a4 := Tryz.isAgg4
 z4 := Tryz.sizeOf4
 v4 := Tryz.zeroValue4
 t9 := Tryz.underlying9
 a9 := Tryz.isAgg9
 z9 := Tryz.sizeOf9
 v9 := Tryz.zeroValue9
 t20 := Tryz.underlying20
 a20 := Tryz.isAgg20
 z20 := Tryz.sizeOf20
 v20 := Tryz.zeroValue20
 t31 := Tryz.underlying45
 a31 := Tryz.isAgg45
 z31 := Tryz.sizeOf45
 v31 := Tryz.zeroValue45
 t37 := Tryz.underlying108
 a37 := Tryz.isAgg108
 z37 := Tryz.sizeOf108
 v37 := Tryz.zeroValue108
 t70 := Tryz.underlying113
 a70 := Tryz.isAgg113
 z70 := Tryz.sizeOf113
 v70 := Tryz.zeroValue113
 t72 := Tryz.underlying115
 a72 := Tryz.isAgg115
 z72 := Tryz.sizeOf115
 v72 := Tryz.zeroValue115
 t75 := Tryz.underlying118
 a75 := Tryz.isAgg118
 z75 := Tryz.sizeOf118
 v75 := Tryz.zeroValue118
 t76 := Tryz.underlying119
 a76 := Tryz.isAgg119
 z76 := Tryz.sizeOf119
 v76 := Tryz.zeroValue119
 t127 := Tryz.underlying135
 a127 := Tryz.isAgg135
 z127 := Tryz.sizeOf135
 v127 := Tryz.zeroValue135
 t164 := Tryz.underlying143
 a164 := Tryz.isAgg143
 z164 := Tryz.sizeOf143
 v164 := Tryz.zeroValue143 }
theorem Tryz.Builder_Extra_156 : Builder.Extra Tryz.prog Tryz.lays156_ren := {
 sizeBuilder := by kernel_rfl
 liesBuilder := by kernel_rfl
 t5 := Tryz.underlying5
 a5 := Tryz.isAgg5
 z5 := Tryz.sizeOf5
 v5 := Tryz.zeroValue5
 infoByte := by kernel_rfl
 cellsByte := by kernel_rfl
 sizeByte := by kernel_rfl
 neB5 := by decide }
open Go.RowKit in
theorem Tryz.strings_Join_none (a : Option Addr) (c : Nat) (sep : ByteArray) (w : World) :
  Calls Tryz.prog 62 #[.slice a 0 c, .string sep] w fun e w' => e = .returned (.string ⟨#[]⟩) ∧ w' = w := Any.strings_Join_none Tryz.lays156 Tryz.Builder_Extra_156 a c sep w
open Go.RowKit in
theorem Tryz.strings_Join (bk o c : Nat) (xs : List ByteArray) (sep : ByteArray) (w : World) (hcells : ∀ (j : Nat) x, xs[j]? = some x → w.cell? ⟨bk, o + j, none⟩ = some (.string x)) (hbk : bk < w.heap.size) (hN : xs.length ≤ 140737488355328) (hcap : xs.length ≤ c) (hlen : (Lib.join (xs.map (·.data.toList)) sep.data.toList).length ≤ 140737488355328) :
  Calls Tryz.prog 62 #[.slice (some ⟨bk, o, none⟩) xs.length c, .string sep] w fun e w' => e = .returned (.string ⟨(Lib.join (xs.map (·.data.toList)) sep.data.toList).toArray⟩) ∧ Below w.heap.size w w' := Any.strings_Join Tryz.lays156 Tryz.Builder_Extra_156 bk o c xs sep w hcells hbk hN hcap hlen
def Tryz.laysM171_ren : Go.Shelf.Ren := ⟨fun | 171 => 38 | 243 => 60 | 246 => 72 | 283 => 86 | 284 => 87 | 285 => 88 | 286 => 89 | 129 => 95 | 317 => 94 | 318 => 96 | 319 => 97 | 320 => 98 | 337 => 102 | 338 => 103 | n => n, fun | 3 => 3 | 9 => 9 | 2 => 2 | 4 => 4 | 171 => 129 | 0 => 0 | 53 => 130 | 37 => 108 | 5 => 5 | 173 => 133 | 212 => 138 | 51 => 139 | 20 => 20 | 213 => 140 | 46 => 141 | 232 => 149 | 233 => 150 | n => n, fun | 17 => 0 | 18 => 2 | 19 => 3 | n => n⟩
theorem Tryz.laysM171 : Go.Proofs.LaysM.n171 Tryz.prog Tryz.laysM171_ren := {
 mixed := by kernel_rfl
 f129 := Tryz.func95.trans (congrArg some (by kernel_rfl))
 f171 := Tryz.func38.trans (congrArg some (by kernel_rfl))
 f243 := Tryz.func60.trans (congrArg some (by kernel_rfl))
 f246 := Tryz.func72.trans (congrArg some (by kernel_rfl))
 f283 := Tryz.func86.trans (congrArg some (by kernel_rfl))
 f284 := Tryz.func87.trans (congrArg some (by kernel_rfl))
 f285 := Tryz.func88.trans (congrArg some (by kernel_rfl))
 f286 := Tryz.func89.trans (congrArg some (by kernel_rfl))
 f317 := Tryz.func94.trans (congrArg some (by kernel_rfl))
 f318 := Tryz.func96.trans (congrArg some (by kernel_rfl))
 f319 := Tryz.func97.trans (congrArg some (by kernel_rfl))
 f320 := Tryz.func98.trans (congrArg some (by kernel_rfl))
 f337 := Tryz.func102.trans (congrArg some (by kernel_rfl))
 f338 := Tryz.func103.trans (congrArg some (by kernel_rfl))
 t0 := Tryz.underlying0
 a0 := Tryz.isAgg0
 z0 := Tryz.sizeOf0
 v0 := Tryz.zeroValue0
 t2 := Tryz.underlying2
 a2 := Tryz.isAgg2
 z2 := Tryz.sizeOf2
 v2 := Tryz.zeroValue2
 t3 := Tryz.underlying3
 a3 := Tryz.isAgg3
 z3 := Tryz.sizeOf3
 v3 := Tryz.zeroValue3
 t4 := Tryz.underlying4
 a4 := Tryz.isAgg4
 z4 := Tryz.sizeOf4
 v4 := Tryz.zeroValue4
 t5 := Tryz.underlying5
 a5 := Tryz.isAgg5
 z5 := Tryz.sizeOf5
 v5 := Tryz.zeroValue5
 t9 := Tryz.underlying9
 a9 := Tryz.isAgg9
 z9 := Tryz.sizeOf9
 v9 := Tryz.zeroValue9
 t20 := Tryz.underlying20
 a20 := Tryz.isAgg20
 z20 := Tryz.sizeOf20
 v20 := Tryz.zeroValue20
 t37 := Tryz.underlying108
 a37 := Tryz.isAgg108
 z37 := Tryz.sizeOf108
 v37 := Tryz.zeroValue108
 t46 := Tryz.underlying141
 a46 := Tryz.isAgg141
 z46 := Tryz.sizeOf141
 v46 := Tryz.zeroValue141
 t51 := Tryz.underlying139
 a51 := Tryz.isAgg139
 z51 := Tryz.sizeOf139
 v51 := Tryz.zeroValue139
 t53 := Tryz.underlying130
 a53 := Tryz.isAgg130
 z53 := Tryz.sizeOf130
 v53 := Tryz.zeroValue130
 t171 := Tryz.underlying129
 a171 := Tryz.isAgg129
 z171 := Tryz.sizeOf129
 v171 := Tryz.zeroValue129
 t173 := Tryz.underlying133
 a173 := Tryz.isAgg133
 z173 := Tryz.sizeOf133
 v173 := Tryz.zeroValue133
 t212 := Tryz.underlying138
 a212 := Tryz.isAgg138
 z212 := Tryz.sizeOf138
 v212 := Tryz.zeroValue138
 t213 := Tryz.underlying140
 a213 := Tryz.isAgg140
 z213 := Tryz.sizeOf140
 t232 := Tryz.underlying149
 a232 := Tryz.isAgg149
 z232 := Tryz.sizeOf149
 v232 := Tryz.zeroValue149
 t233 := Tryz.underlying150
 a233 := Tryz.isAgg150
 z233 := Tryz.sizeOf150
 v233 := Tryz.zeroValue150
 g17 := by kernel_rfl
 g18 := by kernel_rfl
 g19 := by kernel_rfl
 i0 := by kernel_rfl
 i2 := by kernel_rfl
 i3 := by kernel_rfl
 i4 := by kernel_rfl
 i5 := by kernel_rfl
 i9 := by kernel_rfl
 i20 := by kernel_rfl
 i37 := by kernel_rfl
 i46 := by kernel_rfl
 i51 := by kernel_rfl
 i53 := by kernel_rfl
 i171 := by kernel_rfl
 i173 := by kernel_rfl
 i212 := by kernel_rfl
 i232 := by kernel_rfl
 i233 := by kernel_rfl
 m17 := by kernel_rfl
 m18 := by kernel_rfl
 m19 := by kernel_rfl }
open Go.RowKit Go.Sort Go.Lib in
theorem Tryz.strconv_Itoa (n : Int) (h0 : -9223372036854775808 ≤ n) (h1 : n ≤ 9223372036854775807) (w : World) (htab : Lib.TabIs Tryz.prog w "internal/strconv.uint64pow10" .u64 Lib.pow10Tab) :
  Calls Tryz.prog 38 #[.int .i64 n] w fun e w' => e = .returned (.string ⟨(Lib.itoa n).toArray⟩) ∧ ∃ k os, w' = grow (w.drewN k) os := Any.strconv_Itoa Tryz.laysM171 n h0 h1 w htab
end Go.Proofs

namespace Go.Sx
open Go
set_option maxRecDepth 100000
set_option linter.unusedVariables false
set_option linter.unusedSimpArgs false
set_option maxHeartbeats 2000000
def cPool : Ctr := ⟨22, [.val false TI pF], fun x => True, fun x => (sBool (poolV x.1), [])⟩
theorem cPool_ok : CtrOk Proofs.Tryz.prog cPool := by
 have hP := (Prg.none ttok mtok)
 refine ctr_of_body hP cPool (fn := Proofs.Tryz.f22) (rts := [.tmp 2]) Proofs.Tryz.func22 rfl (by kernel_rfl) rfl rfl ?_
 rintro ⟨(n : Int), ⟨⟩⟩ _ hpre
 try dsimp only [Ty.den, Mode.den, mdens] at hpre
 refine ⟨rfl, ?_⟩
 refine sw_seq (xr hP 1 rfl (sw_seq ?_))
 refine sw_dec hP 2 [] 2 rfl (fun g1_2 => ?_) (fun g1_2 => ?_)
 ·refine xd hP 2 [(2, true)] rfl (sw_ret ⟨.inl rfl, _, rfl, ?_⟩)
  simp [conj, poolV, inV] at *
  try omega
 ·refine xd hP 2 [(2, false)] rfl (sw_ret ⟨.inl rfl, _, rfl, ?_⟩)
  simp [conj, poolV, inV] at *
  try omega
def cNone : Ctr := ⟨61, [.val true T_Ptr (.all .b)], fun x => True, fun x => (sBool (noneV x.1), [])⟩
theorem cNone_ok : CtrOk Proofs.Tryz.prog cNone := by
 have hP := (Prg.none ttok mtok)
 refine ctr_of_body hP cNone (fn := Proofs.Tryz.f61) (rts := [.tmp 2]) Proofs.Tryz.func61 rfl (by kernel_rfl) rfl rfl ?_
 rintro ⟨⟨(sz : Int), (sm : Int), (pl : List Plc)⟩, ⟨⟩⟩ _ hpre
 try dsimp only [Ty.den, Mode.den, mdens] at hpre
 refine ⟨rfl, ?_⟩
 refine sw_seq (xr hP 1 rfl (sw_seq ?_))
 refine sw_dec hP 2 [] 3 rfl (fun g1_3 => ?_) (fun g1_3 => ?_)
 ·refine sw_dec hP 2 [(3, true)] 8 rfl (fun g1_8 => ?_) (fun g1_8 => ?_)
  ·refine xd hP 2 [(3, true), (8, true)] rfl (sw_ret ⟨.inl rfl, _, rfl, ?_⟩)
   simp [conj, noneV, *]
  ·refine xd hP 2 [(3, true), (8, false)] rfl (sw_ret ⟨.inl rfl, _, rfl, ?_⟩)
   simp [conj, noneV, *]
 ·refine xd hP 2 [(3, false)] rfl (sw_ret ⟨.inl rfl, _, rfl, ?_⟩)
  simp [conj, noneV, *]
end Go.Sx

namespace Go.Sx
open Go Go.RowKit
theorem ctr_of_below {P : Program} {c : Ctr} {fn : Func} {body : Code} (hf : P.funcs[c.f]? = some fn) (hb : fn.body = some body) (hn : (fn.name == "runtime.NumGoroutine") = false) (href : noRefs c.ins = true)
  (h : ∀ G w args x, (∀ b, G.g b ≠ .no → b < w.heap.size) → Amb P G.g w → ArgsOk G w 0 c.ins x args → c.pre x → Calls P c.f args.toArray w fun e w' => ∃ v, e = .returned v ∧ Below w.heap.size w w' ∧ (∀ G', MtS G' w' (c.post x).1 v) ∧ (c.post x).2 = []) : CtrOk P c := by
 intro G w args x hbnd ham hargs hpre
 have hrun : (callFunc c.f args.toArray).run P w = .ok (.enter c.f args.toArray) w := by
  have hn' : ¬ fn.name = "runtime.NumGoroutine" := by simpa using hn
  simp [callFunc, hf, hn', hb]
 refine ⟨_, _, hrun, .inr (.inl ⟨rfl, ?_⟩)⟩
 intro cs
 obtain ⟨e, w', fr, ⟨v, rfl, hB, hm, hp⟩, h1, h2, h3⟩ := h G w args x hbnd ham hargs hpre cs
 refine ⟨_, w', fr, ?_, h1, h2, h3⟩
 let G' : Gh := ⟨fun _ => .bool false, G.g⟩
 have hk : ∀ b, G.g b ≠ .no → w'.heap[b]? = w.heap[b]? := fun b hb => hB.block b (hbnd b hb)
 refine ⟨G', ⟨fun _ h => h.elim, ⟨fun b hb => ⟨hb, hk b (by rw [hb]; simp)⟩, fun b hb => ⟨hb, hk b (by rw [hb]; simp)⟩⟩, fun b j q hg _ => ⟨hg, hk b (by rw [hg]; simp)⟩, fun b hlt hb => ⟨hB.block b hlt, hb⟩, fun b hb => Nat.lt_of_lt_of_le (hbnd b hb) hB.size, fun _ _ => rfl, hB.os, hB.tape, hB.output, hB.size⟩, fun _ => rfl, ?_, hm G', ?_⟩
 ·rw [noRefs_ptr href]; intro p hp; cases hp
 ·rw [hp]; intro i R hi; cases hi
end Go.Sx

namespace Go.Sx
open Go Go.RowKit
theorem weighGo_app : ∀ (l : Str) (i : Nat) (c : UInt8), weighGo (l ++ [c]) i = weighGo l i + (c.toNat : Int) * (65536 + ((i + l.length : Nat) : Int) + 1) := by
 intro l
 induction l with
 | nil => intro i c; simp [weighGo]
 | cons a l ih =>
  intro i c
  simp only [List.cons_append, weighGo, ih, List.length_cons]
  rw [show i + 1 + l.length = i + (l.length + 1) by omega]
  omega
theorem weiS_weigh (l : Str) (hl : l.length ≤ 1000000) : ∀ k, k ≤ l.length → Proofs.weiS (Proofs.weiUp (mkS l) k) = weighGo (l.take k) 0 := by
 intro k
 induction k with
 | zero => intro _; rfl
 | succ k ih =>
  intro hk
  have hlt : k < l.length := hk
  rw [Proofs.weiUp, Proofs.volUp_succ, Proofs.weiS_add, List.take_succ_eq_append_getElem hlt, weighGo_app, ← ih (by omega)]
  have e1 : (Proofs.weiF (mkS l) k).val = (k, l[k]) := by
   show (min k 999999, (mkS l).data[k]?.getD 0) = _
   have : (mkS l).data[k]? = some l[k] := by simp [mkS, hlt]
   rw [this]
   simp
   omega
  rw [e1, List.length_take]
  simp only
  rw [show ((0 + min k l.length : Nat) : Int) = (k : Int) by omega]
  rw [Proofs.weiUp]
  congr 1
def cWeigh : Ctr := ⟨40, [.val false .str pF], fun x => List.length x.1 ≤ 1000000, fun x => (sInt .i64 (weighV x.1), [])⟩
theorem weighV_bd {s : Str} (h : s.length ≤ 1000000) : 0 ≤ weighV s ∧ weighV s ≤ (s.length : Int) * 300000000 := by
 have h1 := weiS_weigh s h s.length (Nat.le_refl _)
 rw [List.take_length] at h1
 have h2 := Proofs.weiS_bd _ (Proofs.weiUp (mkS s) s.length) rfl
 rw [h1] at h2
 rw [show (Proofs.weiUp (mkS s) s.length).length = s.length from Proofs.volUp_length _ _] at h2
 exact h2
theorem cWeigh_ok : CtrOk Proofs.Tryz.prog cWeigh := by
 refine ctr_of_below (fn := Proofs.Tryz.f40) Proofs.Tryz.func40 rfl rfl rfl ?_
 rintro G w args ⟨(s : Str), ⟨⟩⟩ _ _ ⟨v, vs, rfl, ⟨_, cs, rfl, _, ⟨rfl, hl⟩⟩, rfl⟩ hpre
 replace hpre : s.length ≤ 1000000 := hpre
 have h := Proofs.wei_in Fence.wide 3 trivial trivial trivial rfl (Nat.le_refl _) (mkS s) (by exact hpre) w
 refine (callsIn_wide.1 h).mono ?_
 rintro e w' ⟨rfl, hB⟩
 refine ⟨_, rfl, hB, fun G' => ?_, rfl⟩
 rw [show (mkS s).size = s.length from rfl, weiS_weigh s hpre _ (Nat.le_refl _), List.take_length]
 have := weighV_bd hpre
 show MtS G' w' (sInt .i64 (weighV s)) (.int .i64 (weighV s))
 exact .ofInt (by rw [inR_i64]; omega)
theorem grown_below (w : World) (k : Nat) (os : Array Obj) : Below w.heap.size w (Sort.grow (w.drewN k) os) :=
 ⟨rfl, rfl, rfl, by show w.heap.size ≤ (w.heap ++ os).size; rw [Array.size_append]; omega, fun j hj => by
  show (w.heap ++ os)[j]? = w.heap[j]?
  exact Array.getElem?_append_left hj⟩
def cItoa : Ctr := ⟨38, [.val false TI pF], fun _ => True, fun x => (sStr (itoaV x.1), [])⟩
theorem cItoa_ok : CtrOk Proofs.Tryz.prog cItoa := by
 refine ctr_of_below (fn := Proofs.Tryz.f38) Proofs.Tryz.func38 rfl rfl rfl ?_
 rintro G w args ⟨(n : Int), ⟨⟩⟩ _ ham ⟨v, vs, rfl, ⟨_, cs, rfl, _, ⟨rfl, hn⟩⟩, rfl⟩ _
 rw [inR_i64] at hn
 have htab : Lib.TabIs Proofs.Tryz.prog w "internal/strconv.uint64pow10" .u64 Lib.pow10Tab := by
  unfold Lib.TabIs World.var?
  cases hg : Proofs.Tryz.prog.globalNamed "internal/strconv.uint64pow10" with
  | none =>
   have h0 : (Proofs.Tryz.prog.globalNamed "internal/strconv.uint64pow10").isSome = true := by kernel_rfl
   rw [hg] at h0
   cases h0
  | some b =>
   obtain ⟨_, C, t, fz, h2, h3⟩ := ham.1 _ _ (List.mem_cons_self ..) b hg
   simp only [Option.bind_some, h2, Option.some.injEq]
   apply Array.ext'
   rw [h3]
   rfl
 refine (Proofs.Tryz.strconv_Itoa n hn.1 hn.2 w htab).mono ?_
 rintro e w' ⟨rfl, k, os, rfl⟩
 refine ⟨_, rfl, grown_below w k os, fun G' => ?_, rfl⟩
 refine .of1 rfl ⟨rfl, rfl, ?_⟩
 have := Lib.itoa_length_le n hn.1 hn.2
 show (Lib.itoa n).length ≤ maxL
 unfold maxL; omega
def cJoin : Ctr := ⟨62, [.val false (.sl .str) (.all .b), .val false .str pF], fun x => List.length (Lib.join x.1 x.2.1) ≤ 1000000, fun x => (sStr (Lib.join x.1 x.2.1), [])⟩
theorem join_mk (l : List Str) (s : Str) : (⟨(Lib.join ((l.map mkS).map (·.data.toList)) (mkS s).data.toList).toArray⟩ : ByteArray) = mkS (Lib.join l s) := by
 have h : (l.map mkS).map (·.data.toList) = l := by
  rw [List.map_map]
  exact (List.map_congr_left (fun x _ => rfl)).trans (List.map_id l)
 rw [h]
 rfl
theorem cJoin_ok : CtrOk Proofs.Tryz.prog cJoin := by
 refine ctr_of_below (fn := Proofs.Tryz.f62) Proofs.Tryz.func62 rfl rfl rfl ?_
 rintro G w args ⟨(l : List Str), (s : Str), ⟨⟩⟩ hbnd ham ⟨v, vs, rfl, ⟨_, cs, rfl, _, ⟨A, n, c, rfl, hn, hc, hm, _, hblk⟩⟩, v2, vs2, rfl, ⟨_, cs2, rfl, _, ⟨rfl, hl2⟩⟩, rfl⟩ hpre
 replace hpre : (Lib.join l s).length ≤ 1000000 := hpre
 replace hn : n = l.length := hn
 subst hn
 have fin : ∀ G' w', MtS G' w' (sStr (Lib.join l s)) (.string (mkS (Lib.join l s))) := fun G' w' => .of1 rfl ⟨rfl, rfl, by show (Lib.join l s).length ≤ maxL; unfold maxL; omega⟩
 rcases hblk with ⟨_, hz⟩ | ⟨b, off, C, t, fz, rfl, hlab, hh, hs, _, hj⟩
 ·have h0 : l = [] := List.eq_nil_of_length_eq_zero (by omega)
  subst h0
  refine (Proofs.Tryz.strings_Join_none A c (mkS s) w).mono ?_
  rintro e w' ⟨rfl, rfl⟩
  exact ⟨_, rfl, Below.refl _ _, fun G' => fin G' _, rfl⟩
 ·have hb : b < w.heap.size := hbnd b (by rcases hlab with h | h <;> (rw [h]; simp))
  have := Proofs.Tryz.strings_Join b off c (l.map mkS) (mkS s) w (fun j x hx => by
   rw [List.getElem?_map, Option.map_eq_some_iff] at hx
   obtain ⟨y, hy, rfl⟩ := hx
   have h1 := (hj j y hy).1
   have h2 : (cellsAt C (off + j * 1) 1)[0]? = some (.string (mkS y)) := by
    rw [show (Ty.str).size = 1 from rfl] at h1
    rw [h1]; rfl
   have h3 := cellsAt_get h2
   rw [cell_of_heap hh (o := off) j]
   rw [show off + j * 1 + 0 = off + j by omega] at h3
   exact h3) hb (by rw [List.length_map]; exact hm) (by rw [List.length_map]; exact hc) (by
   have h := congrArg (fun b : ByteArray => b.data.toList.length) (join_mk l s)
   simp only [mkS] at h
   refine Nat.le_trans (Nat.le_of_eq ?_) (Nat.le_trans hpre (by omega))
   simpa [mkS] using h)
  rw [List.length_map] at this
  refine this.mono ?_
  rintro e w' ⟨rfl, hB⟩
  exact ⟨_, rfl, hB, fun G' => by rw [join_mk]; exact fin G' _, rfl⟩
end Go.Sx

namespace Go.Sx
open Go
set_option maxRecDepth 100000
set_option linter.unusedVariables false
set_option linter.unusedSimpArgs false
set_option maxHeartbeats 2000000
def cRootTextS : Ctr := ⟨35, [.val false TI pF, .val true T_Root (.all .b)], fun x => True, fun x => (sStr (rootT x.1 x.2.1), [])⟩
theorem cRootTextS_ok : CtrOk Proofs.Tryz.prog cRootTextS := by
 have hP := (((((Prg.none ttok mtok).and cRootOkS_ok).and cTextO_ok).and cCheck_ok).and cDecA_ok)
 refine ctr_of_body hP cRootTextS (fn := Proofs.Tryz.f35) (rts := [.tmp 4]) Proofs.Tryz.func35 rfl (by kernel_rfl) rfl rfl ?_
 rintro ⟨(d : Int), ⟨(tg : Int), (l : List Vol_)⟩, ⟨⟩⟩ ⟨_, ⟨ht0, hl0⟩, _⟩ _
 try dsimp only [Ty.den, Mode.den, mdens] at _
 refine ⟨rfl, ?_⟩
 refine sw_seq (xr hP 1 rfl (sw_seq (sw_seq (xg hP 2 [] rfl ?_ ?_))))
 ·simp only [cj, cl]
  try dsimp only [Ty.den, Ty.dflt]
  repeat' apply And.intro
  all_goals first | trivial | assumption | omega | exact decide_eq_true ‹_› | exact decide_eq_false ‹_› | (simp [*]; done)
 refine sw_cond rfl (fun c1 => ?_) (fun c1 => ?_)
 ·replace c1 : rootV d ((tg, l) : Root_) = false := by have h : (!rootS d ((tg, l) : Root_)) = true := c1; rw [← rootV_S] at h; simpa using h
  refine sw_seq (xr hP 3 rfl (sw_ret ⟨.inl rfl, _, rfl, ?_⟩))
  simp [conj, rootT, c1, bytesL]
  try (rw [hbe, hbo]; simp [sealV]; rfl)
 ·replace c1 : rootV d ((tg, l) : Root_) = true := by have h : (!rootS d ((tg, l) : Root_)) = false := c1; rw [← rootV_S] at h; simpa using h
  have hso : SmO l := (rootV_small c1).smO
  have hbo := bodyO_V c1
  have hbq : (bodyO ((tg, l) : Root_)).length ≤ 7000 := bodyO_len ht0 (fun v hv p hp => by have h := (hl0.2 v hv).2.2 p hp; exact ⟨h.1, h.2.1, h.2.2.2⟩) hso
  have hbe := bodyL_of hbq
  have hbl := bodyL_len ((tg, l) : Root_)
  have hw := weighV_bd (s := (bodyL ((tg, l) : Root_))) (by omega)
  have hi2 : (itoaV (weighV (bodyL ((tg, l) : Root_)))).length ≤ 21 := itoaV_len (by rw [inR_i64]; omega)
  refine sw_skip (sw_seq (xg hP 3 [] rfl ?_ ?_))
  ·simp [conj]
   exact hso
  refine sw_seq (xg hP 4 [] rfl ?_ ?_)
  ·simp [conj, maxL, bytesL]
   repeat' apply And.intro
   all_goals first | omega | (show List.length (bodyL ((tg, l) : Root_)) ≤ 1000000; omega) | trivial
  refine sw_ret ⟨.inl rfl, _, rfl, ?_⟩
  simp [conj, rootT, c1, bytesL]
  try (rw [hbe, hbo]; simp [sealV]; rfl)
end Go.Sx

namespace Go.Sx
open Go
set_option maxRecDepth 100000
set_option linter.unusedVariables false
set_option linter.unusedSimpArgs false
set_option maxHeartbeats 2000000
def cLine : Ctr := ⟨39, [.val true T_Ptr (.all .b)], fun x => ∃ d, ptrV d x.1 = true, fun x => (sStr (lineV x.1), [])⟩
theorem cLine_ok : CtrOk Proofs.Tryz.prog cLine := by
 have hP := ((((Prg.none ttok mtok).and cNone_ok).and cItoa_ok).and cJoin_ok)
 refine ctr_of_body hP cLine (fn := Proofs.Tryz.f39) (rts := [.tmp 2]) Proofs.Tryz.func39 rfl (by kernel_rfl) rfl rfl ?_
 rintro ⟨⟨(sz : Int), (sm : Int), (pl : List Plc)⟩, ⟨⟩⟩ ⟨⟨hz0, hm0, hpl0⟩, _⟩ ⟨d, hpre⟩
 try dsimp only [Ty.den, Mode.den, mdens] at d
 try dsimp only [Ty.den, Mode.den, mdens] at hpre
 refine ⟨rfl, ?_⟩
 replace hpre : ptrV d ((sz, sm, pl) : Ptr_) = true := hpre
 have hl4 : pl.length ≤ 4 := ptrV_len hpre
 have hi1 : (itoaV sz).length ≤ 21 := itoaV_len hz0
 have hi2 : (itoaV sm).length ≤ 21 := itoaV_len hm0
 refine sw_seq (xr hP 1 rfl (sw_seq (sw_seq (xg hP 2 [] rfl ?_ ?_))))
 ·simp only [cj, cl]
  try dsimp only [Ty.den, Ty.dflt]
  repeat' apply And.intro
  all_goals first | trivial | assumption | omega | exact decide_eq_true ‹_› | exact decide_eq_false ‹_› | (simp [*]; done)
 refine sw_cond rfl (fun c1 => ?_) (fun c1 => ?_)
 ·replace c1 : noneV ((sz, sm, pl) : Ptr_) = true := c1
  refine sw_seq (xr hP 3 rfl (sw_ret ⟨.inl rfl, _, rfl, ?_⟩))
  simp [conj, lineV, c1]
  try rfl
 ·replace c1 : noneV ((sz, sm, pl) : Ptr_) = false := c1
  have hjl : (Lib.join (wordsV ((sz, sm, pl) : Ptr_)) [32]).length ≤ 290 := join_len hz0 hm0 hpl0.2 hl4
  refine sw_skip (sw_seq (xg hP 3 [] rfl ?_ ?_))
  ·simp only [cj, cl]
   try dsimp only [Ty.den, Ty.dflt]
   repeat' apply And.intro
   all_goals first | trivial | assumption | omega | exact decide_eq_true ‹_› | exact decide_eq_false ‹_› | (simp [*]; done)
  refine sw_seq (sw_seq (xr hP 4 rfl (sw_block (sw_loop (ι := Nat) (fun i => ⟨[.j, .v false [.ptr ⟨1, 0, 0⟩ 0], .j, .v false [.own ⟨0, 9, 0⟩], .j, .j, .j, .j, .j, .j, .j, .j, .j, .j, .j, .j, .v false [.d (.sl T_Place) (.all .b) pl], sInt .i64 (pl.length : Int), sInt .i64 (i : Int), .j, .j, .j, .j, .j, .j, .j, .j, .j, .j, .j, .j, .j, .j, .j, .j, .j, .j], [(⟨1, 0, 0⟩, .var [.d TI pF sz, .d TI pF sm, .d (.sl T_Place) (.all .b) pl]), (⟨0, 9, 0⟩, .sl .str pF ([tPtr, itoaV sz, itoaV sm] ++ (pl.take i).map wordV))], 4, []⟩) (fun i => pl.length - i) (fun i => i ≤ pl.length) 0 ⟨?_, ?_⟩ ?_))))
  ·exact Nat.zero_le _
  ·refine ent_ok rfl ?_
   simp [conj, bytesL]
   try rfl
  ·rintro i hi
   refine sw_seq (xr hP 5 rfl (sw_seq (sw_cond rfl (fun c5 => ?_) (fun c5 => ?_))))
   ·have hlt : i < pl.length := by simpa using c5
    have hin := hpl0.2 _ (List.getElem_mem hlt)
    have hi3 : (itoaV pl[i].1).length ≤ 21 := itoaV_len hin.1
    have hi4 : (itoaV pl[i].2).length ≤ 21 := itoaV_len hin.2
    refine sw_skip (sw_seq (sw_block (sw_seq (xg hP 6 [] rfl ?_ ?_))))
    ·simp [conj, gE hlt]
     exact hlt
    refine xg hP 7 [] rfl ?_ ?_
    ·simp [conj, maxL, bytesL, gE hlt]
     repeat' apply And.intro
     all_goals first | omega | trivial
    refine xr hP 8 rfl (⟨i + 1, ?_, ?_, ent_ok rfl ?_⟩)
    ·exact hlt
    ·omega
    ·simp [conj, bytesL, gE hlt]
     exact words_next hlt
   ·obtain rfl : i = pl.length := by simp at c5; omega
    refine sw_exit (sw_seq (xg hP 6 [] rfl ?_ ?_))
    ·simp [conj, maxL, bytesL]
     exact ⟨by show (Lib.join (wordsV ((sz, sm, pl) : Ptr_)) [32]).length ≤ 1000000; omega, by show (Lib.join (wordsV ((sz, sm, pl) : Ptr_)) [32]).length ≤ _; omega⟩
    refine sw_ret ⟨.inl rfl, _, rfl, ?_⟩
    simp [conj, lineV, c1]
    try rfl
def cText_ : Ctr := ⟨24, [.val true T_Root (.all .b)], fun x => ∃ d, rootV d x.1 = true, fun x => (sStr (sealV (bodyV x.1)), [])⟩
theorem cText__ok : CtrOk Proofs.Tryz.prog cText_ := by
 have hP := ((((Prg.none ttok mtok).and cItoa_ok).and cLine_ok).and cWeigh_ok)
 refine ctr_of_body hP cText_ (fn := Proofs.Tryz.f24) (rts := [.tmp 2]) Proofs.Tryz.func24 rfl (by kernel_rfl) rfl rfl ?_
 rintro ⟨⟨(tg : Int), (l : List Vol_)⟩, ⟨⟩⟩ ⟨⟨ht0, hl0⟩, _⟩ ⟨d, hpre⟩
 try dsimp only [Ty.den, Mode.den, mdens] at d
 try dsimp only [Ty.den, Mode.den, mdens] at hpre
 refine ⟨rfl, ?_⟩
 replace hpre : rootV d ((tg, l) : Root_) = true := hpre
 have hs := rootV_small hpre
 have hb := hs.1
 have hi1 : (itoaV tg).length ≤ 21 := itoaV_len ht0
 have hml : l.length ≤ 4 := hs.1
 refine sw_seq (xr hP 1 rfl (sw_seq (xg hP 2 [] rfl ?_ ?_)))
 ·simp [conj, maxL, bytesL]
  repeat' apply And.intro
  all_goals first | omega | trivial
 refine sw_seq (sw_seq (xr hP 3 rfl (sw_block (sw_loop (ι := Nat × Str) (fun ⟨i, o⟩ => ⟨[.j, .v false [.ptr ⟨1, 0, 0⟩ 0], .j, sStr o, .j, .j, .j, .j, .j, .j, .j, .j, .j, .j, .v false [.d (.sl T_Vol) (.all .b) l], sInt .i64 (l.length : Int), sInt .i64 (i : Int), .j, .j, .j, .j, .j, .j, .j, .j, .j, .j, .j, .j, .j, .j, .j, .j, .j, .j, .j, .j, .j, .j, .j, .j, .j, .j, .j, .j, .j], [(⟨1, 0, 0⟩, .var [.d TI pF tg, .d (.sl T_Vol) (.all .b) l])], 3, []⟩) (fun ⟨i, o⟩ => l.length - i) (fun ⟨i, o⟩ => i ≤ l.length ∧ o ++ catGo volT (l.drop i) = bodyV ((tg, l) : Root_) ∧ o.length ≤ 27 + i * 1000) (0, tRoot ++ itoaV tg ++ [10]) ⟨?_, ?_⟩ ?_))))
 ·exact ⟨Nat.zero_le _, rfl, by simp [tRoot]; omega⟩
 ·refine ent_ok rfl ?_
  simp [conj, bytesL]
  try rfl
 ·rintro ⟨i, o⟩ ⟨hi, hgo, hol⟩
  refine sw_seq (xr hP 4 rfl (sw_seq (sw_cond rfl (fun c3 => ?_) (fun c3 => ?_))))
  ·have hlt : i < l.length := by simpa using c3
   obtain ⟨hn3, hb3, hpv⟩ := hs.2 _ (List.getElem_mem hlt)
   refine sw_skip (sw_seq (sw_block (sw_seq (xg hP 5 [] rfl ?_ ?_))))
   ·simp [conj, gE hlt]
    exact hlt
   refine sw_seq (xg hP 6 [] rfl ?_ ?_)
   ·simp [conj, maxL, bytesL, gE hlt]
    repeat' apply And.intro
    all_goals first | omega | trivial
   refine sw_seq (xr hP 7 rfl (sw_block (sw_loop (ι := Nat × Str) (fun ⟨j, o⟩ => ⟨[.j, .v false [.ptr ⟨1, 0, 0⟩ 0], .j, sStr o, .j, .v false [.ptr ⟨0, 9, 2⟩ 0], .j, .j, .j, .j, .j, .j, .j, .j, .v false [.d (.sl T_Vol) (.all .b) l], sInt .i64 (l.length : Int), sInt .i64 (i : Int), .j, .j, .j, .j, .j, .j, .j, .j, .j, .j, .v false [.d (.sl T_Ptr) (.all .b) l[i].2], sInt .i64 (l[i].2.length : Int), sInt .i64 (j : Int), .j, .j, .j, .j, .j, .j, .j, .j, .j, .j, .j, .j, .j, .j, .j, .j], [(⟨1, 0, 0⟩, .var [.d TI pF tg, .d (.sl T_Vol) (.all .b) l]), (⟨0, 9, 2⟩, .var [.d .str pF l[i].1, .d (.sl T_Ptr) (.all .b) l[i].2])], 7, []⟩) (fun ⟨j, o⟩ => l[i].2.length - j) (fun ⟨j, o⟩ => j ≤ l[i].2.length ∧ (o ++ catGo lineV (l[i].2.drop j)) ++ catGo volT (l.drop (i + 1)) = bodyV ((tg, l) : Root_) ∧ o.length ≤ 27 + i * 1000 + 8 + j * 300) (0, o ++ (tVol ++ l[i].1 ++ [10])) ⟨?_, ?_⟩ ?_)))
   ·exact ⟨Nat.zero_le _, vol_in hlt hgo, by simp [tVol]; omega⟩
   ·refine ent_ok rfl ?_
    simp [conj, bytesL, gE hlt]
    try rfl
   ·rintro ⟨j, o⟩ ⟨hj, hgo2, hol2⟩
    refine sw_seq (xr hP 8 rfl (sw_seq (sw_cond rfl (fun c7 => ?_) (fun c7 => ?_))))
    ·have hlj : j < l[i].2.length := by simpa using c7
     have hpj := hpv _ (List.getElem_mem hlj)
     obtain ⟨dd, hpd⟩ := hpj
     have hok := (hl0.2 _ (List.getElem_mem hlt)).2.2 _ (List.getElem_mem hlj)
     have hll := lineV_len' hok.1 hok.2.1 hok.2.2.2 hpd
     refine sw_skip (sw_seq (sw_block (sw_seq (xg hP 9 [] rfl ?_ ?_))))
     ·simp [conj, gE hlj]
      exact hlj
     refine xg hP 10 [] rfl ?_ ?_
     ·simp [conj, maxL, gE hlj]
      exact ⟨⟨dd, hpd⟩, by have h : List.length (lineV l[i].2[j]) ≤ 300 := hll; show o.length + List.length (lineV l[i].2[j]) ≤ 140737488355328; omega⟩
     refine xr hP 11 rfl (⟨(j + 1, o ++ lineV l[i].2[j]), ?_, ?_, ent_ok rfl ?_⟩)
     ·exact ⟨hlj, vol_line hlj hgo2, by simp; omega⟩
     ·show l[i].2.length - (j + 1) < l[i].2.length - j
      omega
     ·simp [conj, gE hlj]
    ·obtain rfl : j = l[i].2.length := by simp at c7; omega
     refine sw_exit (xr hP 9 rfl (⟨(i + 1, o), ?_, ?_, ent_ok rfl ?_⟩))
     ·exact ⟨hlt, vol_out hgo2, by show o.length ≤ 27 + (i + 1) * 1000; omega⟩
     ·show l.length - (i + 1) < l.length - i
      omega
     ·simp [conj]
  ·obtain rfl : i = l.length := by simp at c3; omega
   have hv := cat_end hgo
   subst hv
   have hw := weighV_bd (s := bodyV ((tg, l) : Root_)) (by omega)
   have hi2 : (itoaV (weighV (bodyV ((tg, l) : Root_)))).length ≤ 21 := itoaV_len (by rw [inR_i64]; omega)
   refine sw_exit (sw_seq (xg hP 5 [] rfl ?_ ?_))
   ·simp [conj, maxL, bytesL]
    repeat' apply And.intro
    all_goals first | omega | (show List.length (bodyV ((tg, l) : Root_)) ≤ 1000000; omega) | trivial
   refine sw_ret ⟨.inl rfl, _, rfl, ?_⟩
   simp [conj, sealV, bytesL]
   rfl
end Go.Sx

namespace Go.Sx
open Go
set_option maxRecDepth 100000
set_option linter.unusedVariables false
set_option linter.unusedSimpArgs false
set_option maxHeartbeats 2000000
def cWaits0 (st : Int) (t : Drv) (d : Id) : Xctr := ⟨59, [], [(d, ⟨0, 0, 0⟩, .lvar (drv st t .nilp))], [.v false [.ptr ⟨0, 0, 0⟩ 0]],
  (.v false [.own ⟨1, 0, 0⟩], [(⟨1, 0, 0⟩, .sl T_Put (.all .w) [])])⟩
theorem cWaits0_ok {st : Int} {t : Drv} {d : Id} : XOk Proofs.Tryz.prog (cWaits0 st t d) := by
 have hP := (Prg.none ttok mtok)
 refine xctr_of_body hP (cWaits0 st t d) (fn := Proofs.Tryz.f59) (rts := [.tmp 2]) Proofs.Tryz.func59 rfl (by kernel_rfl) rfl rfl ?_
 refine ⟨rfl, ?_⟩
 refine sw_seq (xr hP 1 rfl (sw_seq (xr hP 2 rfl (sw_seq (sw_seq (xr hP 3 rfl (sw_block (sw_loop (ι := Unit) (fun i => ⟨[.j, .j, .j, .v false [.own ⟨0, 9, 0⟩], .v false [.nilp], .j, .j, .j, .j, .j, .j, .j, .j, .j, .j, .j, .j, .j, .j, .j, .j, .j, .j], [(⟨0, 0, 0⟩, .lvar (drv st t .nilp)), (⟨0, 9, 0⟩, .sl T_Put (.all .w) [])], 3, [[.v false [.ptr ⟨0, 0, 0⟩ 0]]]⟩) (fun i => 0) (fun i => True) () ⟨?_, ?_⟩ ?_))))))))
 ·trivial
 ·refine ent_ok rfl ?_
  first | trivial | (simp [conj]; done) | (simp [conj] at *; (try dsimp only [Ty.den, Ty.dflt] at *); omega)
 ·rintro i hi
  refine sw_seq (sw_seq (xr hP 4 rfl (sw_cond rfl (fun c3 => ?_) (fun c3 => ?_))))
  ·exact absurd c3 (by simp)
  ·refine sw_exit (sw_seq (xr hP 5 rfl (sw_ret ⟨.inl rfl, _, rfl, ?_⟩)))
   simp [conj]
def cDisk0 (st : Int) (t : Drv) (d : Id) : Xctr := ⟨37, [], [(d, ⟨0, 0, 0⟩, .lvar (drv st t .nilp))], [.v false [.ptr ⟨0, 0, 0⟩ 0]],
  (.v true [.d TI pF st, .own ⟨1, 0, 0⟩, .own ⟨1, 1, 0⟩, .own ⟨1, 2, 0⟩, .own ⟨1, 3, 0⟩], [(⟨1, 0, 0⟩, .sl .str (.all .w) t.1), (⟨1, 1, 0⟩, .sl .str (.all .w) t.2.1), (⟨1, 2, 0⟩, .sl .bool (.all .w) t.2.2), (⟨1, 3, 0⟩, .sl T_Put (.all .w) [])])⟩
theorem cDisk0_ok {st : Int} {t : Drv} {d : Id} (ht : t.ok) : XOk Proofs.Tryz.prog (cDisk0 st t d) := by
 have hP := ((((Prg.none ttok mtok).and cCloneO_ok).and cCloneB_ok).andX (cWaits0_ok (st := st) (t := t) (d := ⟨0, 0, 0⟩)))
 refine xctr_of_body hP (cDisk0 st t d) (fn := Proofs.Tryz.f37) (rts := [.cell 2 49]) Proofs.Tryz.func37 rfl (by kernel_rfl) rfl rfl ?_
 refine ⟨rfl, ?_⟩
 obtain ⟨h1, h2, h3⟩ := ht
 refine sw_seq (xr hP 1 rfl (sw_seq (xg hP 2 [] rfl ?_ ?_)))
 ·simp only [cj, cl]
  try dsimp only [Ty.den, Ty.dflt]
  repeat' apply And.intro
  all_goals first | rfl | (show List.length t.1 ≤ 1099511627776; omega) | (show List.length t.2.1 ≤ 1099511627776; omega) | (show List.length t.2.2 ≤ 1099511627776; omega) | omega | assumption | trivial
 refine sw_ret ⟨.inl rfl, _, rfl, ?_⟩
 simp [conj]
def cNewI : Ctr := ⟨23, [.val false TI pF], fun x => 0 ≤ x.1 ∧ x.1 ≤ 2, fun x => (.v true [.d TI pF (newD x.1).1, .own ⟨1, 0, 0⟩, .own ⟨1, 1, 0⟩, .own ⟨1, 2, 0⟩, .own ⟨1, 3, 0⟩], [(⟨1, 0, 0⟩, .sl .str (.all .w) (newD x.1).2.1), (⟨1, 1, 0⟩, .sl .str (.all .w) (newD x.1).2.2.1), (⟨1, 2, 0⟩, .sl .bool (.all .w) (newD x.1).2.2.2.1), (⟨1, 3, 0⟩, .sl T_Put (.all .w) (newD x.1).2.2.2.2)])⟩
theorem cNewI_ok : CtrOk Proofs.Tryz.prog cNewI := by
 have hP := ((Prg.none ttok mtok).and cState_ok)
 refine ctr_of_body hP cNewI (fn := Proofs.Tryz.f23) (rts := [.cell 2 49]) Proofs.Tryz.func23 rfl (by kernel_rfl) rfl rfl ?_
 rintro ⟨(n : Int), ⟨⟩⟩ _ ⟨h0, h1⟩
 try dsimp only [Ty.den, Mode.den, mdens] at h0
 try dsimp only [Ty.den, Mode.den, mdens] at h1
 refine ⟨rfl, ?_⟩
 refine sw_seq (xr hP 1 rfl (sw_seq (sw_seq (xg hP 2 [] rfl ?_ ?_))))
 ·simp [conj, maxL]
  try dsimp only [Ty.den, Ty.dflt]
  try simp only [rd_eta]
  try trivial
 refine sw_cond rfl (fun c1 => ?_) (fun c1 => ?_)
 ·have h : (!stV n) = true := c1
  simp [stV] at h
  omega
 ·refine sw_skip (sw_seq ?_)
  replace hP := hP.andX (cDisk0_ok (st := n) (t := drvOf (newD n)) (d := ⟨3, 3, 0⟩) (newD_ok (n := n)).1)
  refine xg hP 3 [] rfl ?_ ?_
  ·simp [conj]
   repeat' apply And.intro
   all_goals first | rfl | trivial | decide
  refine sw_ret ⟨.inl rfl, _, rfl, ?_⟩
  simp [conj, newD, drvOf]
def cNewS : Ctr := ⟨19, [.val false TI pF], fun x => 0 ≤ x.1 ∧ x.1 ≤ 2, fun x => (.v true [.d TI pF (newD x.1).1, .own ⟨1, 0, 0⟩, .own ⟨1, 1, 0⟩, .own ⟨1, 2, 0⟩, .own ⟨1, 3, 0⟩], [(⟨1, 0, 0⟩, .sl .str (.all .w) (newD x.1).2.1), (⟨1, 1, 0⟩, .sl .str (.all .w) (newD x.1).2.2.1), (⟨1, 2, 0⟩, .sl .bool (.all .w) (newD x.1).2.2.2.1), (⟨1, 3, 0⟩, .sl T_Put (.all .w) (newD x.1).2.2.2.2)])⟩
theorem cNewS_ok : CtrOk Proofs.Tryz.prog cNewS := by
 have hP := ((Prg.none ttok mtok).and cIn_ok)
 refine ctr_of_body hP cNewS (fn := Proofs.Tryz.f19) (rts := [.cell 2 49]) Proofs.Tryz.func19 rfl (by kernel_rfl) rfl rfl ?_
 rintro ⟨(n : Int), ⟨⟩⟩ _ ⟨h0, h1⟩
 try dsimp only [Ty.den, Mode.den, mdens] at h0
 try dsimp only [Ty.den, Mode.den, mdens] at h1
 refine ⟨rfl, ?_⟩
 refine sw_seq (xr hP 1 rfl (sw_seq (sw_seq (xg hP 2 [] rfl ?_ ?_))))
 ·simp [conj, maxL]
  try dsimp only [Ty.den, Ty.dflt]
  try simp only [rd_eta]
  try trivial
 refine sw_cond rfl (fun c1 => ?_) (fun c1 => ?_)
 ·have h : (!inV n 0 2) = true := c1
  simp [inV] at h
  omega
 ·refine sw_skip (sw_seq (xg hP 3 [] rfl ?_ ?_))
  ·simp only [conj, List.nil_append, List.cons_append, List.append_nil, List.append_assoc, inR_i64, true_and, and_true, Int.toNat_natCast]
   try dsimp only [Ty.den, Ty.dflt]
   repeat' apply And.intro
   all_goals first | rfl | omega | assumption | trivial
  refine sw_ret ⟨.inl rfl, _, rfl, ?_⟩
  simp [conj, newD]
def cRingS : Ctr := ⟨21, [.val false TI pF, .val true T_Root (.all .b)], fun x => True, fun x => (.v true [.d .bool pF true, .d TI pF (x.2.1.1.tmod 2), .d .str pF (rootT x.1 x.2.1)], [])⟩
theorem cRingS_ok : CtrOk Proofs.Tryz.prog cRingS := by
 have hP := ((Prg.none ttok mtok).and cRootTextS_ok)
 refine ctr_of_body hP cRingS (fn := Proofs.Tryz.f21) (rts := [.cell 4 53]) Proofs.Tryz.func21 rfl (by kernel_rfl) rfl rfl ?_
 rintro ⟨(d : Int), ⟨(tg : Int), (l : List Vol_)⟩, ⟨⟩⟩ _ _
 try dsimp only [Ty.den, Mode.den, mdens] at _
 refine ⟨rfl, ?_⟩
 refine sw_seq (xr hP 1 rfl (sw_seq (xg hP 2 [] rfl ?_ ?_)))
 ·simp [conj, maxL]
  try dsimp only [Ty.den, Ty.dflt]
  try simp only [rd_eta]
  try trivial
 refine sw_ret ⟨.inl rfl, _, rfl, ?_⟩
 simp [conj]
def cPoolI : Ctr := ⟨11, [.val false TI pF], fun x => True, fun x => (.tup [(true, [.own ⟨1, 0, 0⟩, .d .bool pF ((newPo x.1)).2.1, .d TI pF ((newPo x.1)).2.2.1.1, .own ⟨1, 1, 0⟩, .d TI pF ((newPo x.1)).2.2.2.1, .own ⟨1, 2, 0⟩]), (false, [.d .bool pF (poolV x.1)])], [(⟨1, 0, 0⟩, .sl T_Disk (.all .w) ((newPo x.1)).1), (⟨1, 1, 0⟩, .sl T_Vol (.all .w) ((newPo x.1)).2.2.1.2), (⟨1, 2, 0⟩, .sl T_Vol (.all .w) ((newPo x.1)).2.2.2.2)])⟩
theorem cPoolI_ok : CtrOk Proofs.Tryz.prog cPoolI := by
 have hP := ((((Prg.none ttok mtok).and cPool_ok).and cNewI_ok).and cText__ok)
 refine ctr_of_body hP cPoolI (fn := Proofs.Tryz.f11) (rts := [.cell 2 27, .tmp 3]) Proofs.Tryz.func11 rfl (by kernel_rfl) rfl rfl ?_
 rintro ⟨(n : Int), ⟨⟩⟩ _ _
 try dsimp only [Ty.den, Mode.den, mdens] at _
 refine ⟨rfl, ?_⟩
 refine sw_seq (xr hP 1 rfl (sw_seq (sw_seq (xg hP 2 [] rfl ?_ ?_))))
 ·simp [conj, maxL]
  try dsimp only [Ty.den, Ty.dflt]
  try simp only [rd_eta]
  try trivial
 refine sw_cond rfl (fun c1 => ?_) (fun c1 => ?_)
 ·have hs : ¬ poolV n = true := by have h : (!poolV n) = true := c1; simpa using h
  have hb : poolV n = false := by simpa using hs
  have hv : newPo n = ([], false, (0, []), (0, [])) := if_neg hs
  refine sw_seq (xr hP 3 rfl (sw_ret ⟨.inl rfl, _, rfl, ?_⟩))
  rw [hv]
  simp [conj, *]
 ·have hs : poolV n = true := by have h : (!poolV n) = false := c1; simpa using h
  have hv : newPo n = (List.replicate n.toNat newDk, true, (0, []), (0, [])) := if_pos hs
  have hn := new_lt hs
  refine sw_skip (sw_seq (xr hP 3 rfl (sw_seq (sw_seq (xr hP 4 rfl (sw_block (sw_loop (ι := Nat) (fun i => ⟨[.j, .j, .v false [.ptr ⟨1, 0, 0⟩ 0], .j, .v false [.ptr ⟨3, 1, 0⟩ 0], .j, .j, .j, .j, .j, .j, sInt .i64 n, sInt .i64 (i : Int), .j, .j, .j, .j, .j, .j, .j, .j, .j, .j, .j, .j, .j, .j, .j], [(⟨1, 0, 0⟩, .var [.nils, .d .bool pF false, .d TI pF 0, .nils, .d TI pF 0, .nils]), (⟨3, 1, 0⟩, .var [.own ⟨0, 9, 0⟩, .d .bool pF true, .d TI pF 0, .nils, .d TI pF 0, .nils]), (⟨0, 9, 0⟩, .sl T_Disk (.all .w) (List.replicate i newDk))], 4, []⟩) (fun i => n.toNat - i) (fun i => (i : Int) ≤ n) 0 ⟨?_, ?_⟩ ?_)))))))
  ·show (0 : Int) ≤ n; omega
  ·refine ent_ok rfl ?_
   simp [conj]
  ·rintro i hi
   refine sw_seq (xr hP 5 rfl (sw_seq (sw_cond rfl (fun c5 => ?_) (fun c5 => ?_))))
   ·have hlt : (i : Int) < n := of_decide_eq_true c5
    refine sw_skip (sw_seq (sw_block (sw_seq (xg hP 6 [] rfl ?_ ?_))))
    ·simp [conj, maxL]
     try dsimp only [Ty.den, Ty.dflt]
     try simp only [rd_eta]
     exact ⟨by decide, by decide⟩
    refine sw_seq (xg hP 7 [] rfl ?_ ?_)
    ·simp [conj, maxL]
     try dsimp only [Ty.den, Ty.dflt]
     try simp only [rd_eta]
     repeat' apply And.intro
     all_goals first | exact ⟨n, newV hs⟩ | trivial | (simp [newD]; done) | omega
    refine xg hP 8 [] rfl ?_ ?_
    ·simp [conj, maxL]
     repeat' apply And.intro
     all_goals first | omega | trivial
    refine xr hP 9 rfl (⟨i + 1, ?_, ?_, ent_ok rfl ?_⟩)
    ·show ((i + 1 : Nat) : Int) ≤ n; omega
    ·omega
    ·simp [conj]
     exact new_next i
   ·have hge : ¬ (i : Int) < n := of_decide_eq_false c5
    obtain rfl : i = n.toNat := by omega
    refine sw_exit (sw_seq (xr hP 6 rfl (sw_ret ⟨.inl rfl, _, rfl, ?_⟩)))
    rw [hv]
    simp [conj, *]
def cPoolS : Ctr := ⟨9, [.val false TI pF], fun x => True, fun x => (.tup [(true, [.own ⟨1, 0, 0⟩, .d .bool pF ((newPo x.1)).2.1, .d TI pF ((newPo x.1)).2.2.1.1, .own ⟨1, 1, 0⟩, .d TI pF ((newPo x.1)).2.2.2.1, .own ⟨1, 2, 0⟩]), (false, [.d .bool pF (poolV x.1)])], [(⟨1, 0, 0⟩, .sl T_Disk (.all .w) ((newPo x.1)).1), (⟨1, 1, 0⟩, .sl T_Vol (.all .w) ((newPo x.1)).2.2.1.2), (⟨1, 2, 0⟩, .sl T_Vol (.all .w) ((newPo x.1)).2.2.2.2)])⟩
theorem cPoolS_ok : CtrOk Proofs.Tryz.prog cPoolS := by
 have hP := (((((Prg.none ttok mtok).and cDisks_ok).and cNewS_ok).and cRingS_ok).and cComeS_ok)
 refine ctr_of_body hP cPoolS (fn := Proofs.Tryz.f9) (rts := [.cell 2 27, .tmp 3]) Proofs.Tryz.func9 rfl (by kernel_rfl) rfl rfl ?_
 rintro ⟨(n : Int), ⟨⟩⟩ _ _
 try dsimp only [Ty.den, Mode.den, mdens] at _
 refine ⟨rfl, ?_⟩
 refine sw_seq (xr hP 1 rfl (sw_seq (sw_seq (xg hP 2 [] rfl ?_ ?_))))
 ·simp [conj, maxL]
  try dsimp only [Ty.den, Ty.dflt]
  try simp only [rd_eta]
  try trivial
 refine sw_cond rfl (fun c1 => ?_) (fun c1 => ?_)
 ·have hs : ¬ poolV n = true := by have h : (!poolV n) = true := c1; simpa using h
  have hb : poolV n = false := by simpa using hs
  have hv : newPo n = ([], false, (0, []), (0, [])) := if_neg hs
  refine sw_seq (xr hP 3 rfl (sw_ret ⟨.inl rfl, _, rfl, ?_⟩))
  rw [hv]
  simp [conj, *]
 ·have hs : poolV n = true := by have h : (!poolV n) = false := c1; simpa using h
  have hv : newPo n = (List.replicate n.toNat newDk, true, (0, []), (0, [])) := if_pos hs
  have hn := new_lt hs
  have hr := newR hs
  refine sw_skip (sw_seq (xr hP 3 rfl (sw_seq (sw_seq (xr hP 4 rfl (sw_block (sw_loop (ι := Nat) (fun i => ⟨[sInt .i64 n, .j, .v false [.ptr ⟨1, 0, 0⟩ 0], .j, .v false [.ptr ⟨3, 5, 0⟩ 0], sInt .i64 (i : Int), .j, .j, .j, .j, .j, .j, .j, .j, .j, .j, .j, .j, .j, .j, .j, .j, .j, .j, .j, .j, .j, .j, .j, .j, .j, .j, .j, .j], [(⟨1, 0, 0⟩, .var [.nils, .d .bool pF false, .d TI pF 0, .nils, .d TI pF 0, .nils]), (⟨3, 5, 0⟩, .var [.own ⟨0, 9, 0⟩, .d .bool pF true, .d TI pF 0, .own ⟨0, 9, 64⟩, .d TI pF 0, .own ⟨0, 9, 128⟩]), (⟨0, 9, 0⟩, .sl T_Disk (.all .w) (List.replicate i newDk)), (⟨0, 9, 64⟩, .sl T_Vol (.all .w) []), (⟨0, 9, 128⟩, .sl T_Vol (.all .w) [])], 4, []⟩) (fun i => n.toNat - i) (fun i => (i : Int) ≤ n) 0 ⟨?_, ?_⟩ ?_)))))))
  ·show (0 : Int) ≤ n; omega
  ·refine ent_ok rfl ?_
   simp [conj]
  ·rintro i hi
   refine sw_seq (sw_seq (xr hP 5 rfl (sw_cond rfl (fun c5 => ?_) (fun c5 => ?_))))
   ·have hlt : (i : Int) < n := of_decide_eq_true c5
    refine sw_skip (sw_seq (sw_block (sw_seq (xg hP 6 [] rfl ?_ ?_))))
    ·simp [conj, maxL]
     try dsimp only [Ty.den, Ty.dflt]
     try simp only [rd_eta]
     exact ⟨by decide, by decide⟩
    refine xg hP 7 [] rfl ?_ ?_
    ·simp only [conj, hr]
     repeat' apply And.intro
     all_goals first | exact new_put | (show putV (true, Int.tmod 0 2, rootT n (0, [])) = true; rw [hr]; exact new_put) | exact (newD_ok (n := 0)).1 | trivial | (simp [maxL]; done) | (simp [maxL]; omega)
    refine xr hP 8 rfl (⟨i + 1, ?_, ?_, ent_ok rfl ?_⟩)
    ·show ((i + 1 : Nat) : Int) ≤ n; omega
    ·omega
    ·simp [conj]
     rw [hr, ← new_next i]
     first | rfl | (simp [new_come]; done)
   ·have hge : ¬ (i : Int) < n := of_decide_eq_false c5
    obtain rfl : i = n.toNat := by omega
    refine sw_exit (sw_seq (xr hP 6 rfl (sw_ret ⟨.inl rfl, _, rfl, ?_⟩)))
    rw [hv]
    simp [conj, *]
end Go.Sx

namespace Go.Sx
open Go
set_option maxRecDepth 100000
set_option linter.unusedVariables false
set_option linter.unusedSimpArgs false
set_option maxHeartbeats 2000000
def cCpM0 : Ctr := ⟨10, [.val true T_Model (.all .b)], fun x => x.1 = [], fun x => (.v true [.own ⟨1, 0, 0⟩], [(⟨1, 0, 0⟩, .sl T_Shelf (.all .w) [])])⟩
theorem cCpM0_ok : CtrOk Proofs.Tryz.prog cCpM0 := by
 have hP := (Prg.none ttok mtok)
 refine ctr_of_body hP cCpM0 (fn := Proofs.Tryz.f10) (rts := [.cell 2 30]) Proofs.Tryz.func10 rfl (by kernel_rfl) rfl rfl ?_
 rintro ⟨(m : Mdl), ⟨⟩⟩ _ hpre
 try dsimp only [Ty.den, Mode.den, mdens] at hpre
 refine ⟨rfl, ?_⟩
 replace hpre : m = [] := hpre
 subst hpre
 refine sw_seq (xr hP 1 rfl (sw_seq (xr hP 2 rfl (sw_seq (sw_seq (xr hP 3 rfl (sw_block (sw_loop (ι := Unit) (fun i => ⟨[.j, .v false [.ptr ⟨1, 0, 0⟩ 0], .v false [.ptr ⟨1, 1, 0⟩ 0], .v false [.ptr ⟨2, 2, 0⟩ 0], sInt .i64 0, .j, .j, .j, .j, .j, .j, .j, .j, .j, .j, .j, .j, .j, .j, .j, .j, .j, .j, .j, .j, .j, .j, .j, .j, .j, .j, .j, .j, .j, .j], [(⟨1, 0, 0⟩, .var [.d T_Model (.all .b) []]), (⟨1, 1, 0⟩, .var [.nils]), (⟨2, 2, 0⟩, .var [.own ⟨0, 9, 0⟩]), (⟨0, 9, 0⟩, .sl T_Shelf (.all .w) [])], 3, []⟩) (fun i => 0) (fun i => True) () ⟨?_, ?_⟩ ?_))))))))
 ·trivial
 ·refine ent_ok rfl ?_
  simp [conj]
 ·rintro i hi
  refine sw_seq (sw_seq (xr hP 4 rfl (sw_cond rfl (fun c3 => ?_) (fun c3 => ?_))))
  ·simp at c3
  ·refine sw_exit (sw_seq (xr hP 5 rfl (sw_ret ⟨.inl rfl, _, rfl, ?_⟩)))
   simp [conj]
def cWorldI : Ctr := ⟨5, [.val false TI pF], fun x => True, fun x => (.tup [(true, [.own ⟨1, 0, 0⟩, .d .bool pF ((newWo x.1)).1.2.1, .d TI pF ((newWo x.1)).1.2.2.1.1, .own ⟨1, 1, 0⟩, .d TI pF ((newWo x.1)).1.2.2.2.1, .own ⟨1, 2, 0⟩, .own ⟨1, 3, 0⟩, .own ⟨1, 4, 0⟩, .own ⟨1, 5, 0⟩, .d .bool pF ((newWo x.1)).2.2.2.2]), (false, [.d .bool pF (poolV x.1)])], [(⟨1, 0, 0⟩, .sl T_Disk (.all .w) ((newWo x.1)).1.1), (⟨1, 1, 0⟩, .sl T_Vol (.all .w) ((newWo x.1)).1.2.2.1.2), (⟨1, 2, 0⟩, .sl T_Vol (.all .w) ((newWo x.1)).1.2.2.2.2), (⟨1, 3, 0⟩, .sl T_Shelf (.all .w) ((newWo x.1)).2.1), (⟨1, 4, 0⟩, .sl T_Shelf (.all .w) ((newWo x.1)).2.2.1), (⟨1, 5, 0⟩, .sl T_Shelf (.all .w) ((newWo x.1)).2.2.2.1)])⟩
theorem cWorldI_ok : CtrOk Proofs.Tryz.prog cWorldI := by
 have hP := ((Prg.none ttok mtok).and cPoolI_ok)
 refine ctr_of_body hP cWorldI (fn := Proofs.Tryz.f5) (rts := [.cell 2 32, .tmp 3]) Proofs.Tryz.func5 rfl (by kernel_rfl) rfl rfl ?_
 rintro ⟨(n : Int), ⟨⟩⟩ _ _
 try dsimp only [Ty.den, Mode.den, mdens] at _
 refine ⟨rfl, ?_⟩
 refine sw_seq (xr hP 1 rfl (sw_seq (xg hP 2 [] rfl ?_ ?_)))
 ·simp [conj, maxL]
  try dsimp only [Ty.den, Ty.dflt]
  try simp only [rd_eta]
  try trivial
 refine sw_seq (xr hP 3 rfl (sw_ret ⟨.inl rfl, _, rfl, ?_⟩))
 simp [conj, newWo]
def cWorldS : Ctr := ⟨4, [.val false TI pF], fun x => True, fun x => (.tup [(true, [.own ⟨1, 0, 0⟩, .d .bool pF ((newWo x.1)).1.2.1, .d TI pF ((newWo x.1)).1.2.2.1.1, .own ⟨1, 1, 0⟩, .d TI pF ((newWo x.1)).1.2.2.2.1, .own ⟨1, 2, 0⟩, .own ⟨1, 3, 0⟩, .own ⟨1, 4, 0⟩, .own ⟨1, 5, 0⟩, .d .bool pF ((newWo x.1)).2.2.2.2]), (false, [.d .bool pF (poolV x.1)])], [(⟨1, 0, 0⟩, .sl T_Disk (.all .w) ((newWo x.1)).1.1), (⟨1, 1, 0⟩, .sl T_Vol (.all .w) ((newWo x.1)).1.2.2.1.2), (⟨1, 2, 0⟩, .sl T_Vol (.all .w) ((newWo x.1)).1.2.2.2.2), (⟨1, 3, 0⟩, .sl T_Shelf (.all .w) ((newWo x.1)).2.1), (⟨1, 4, 0⟩, .sl T_Shelf (.all .w) ((newWo x.1)).2.2.1), (⟨1, 5, 0⟩, .sl T_Shelf (.all .w) ((newWo x.1)).2.2.2.1)])⟩
theorem cWorldS_ok : CtrOk Proofs.Tryz.prog cWorldS := by
 have hP := (((Prg.none ttok mtok).and cPoolS_ok).and cCpM0_ok)
 refine ctr_of_body hP cWorldS (fn := Proofs.Tryz.f4) (rts := [.cell 2 32, .tmp 3]) Proofs.Tryz.func4 rfl (by kernel_rfl) rfl rfl ?_
 rintro ⟨(n : Int), ⟨⟩⟩ _ _
 try dsimp only [Ty.den, Mode.den, mdens] at _
 refine ⟨rfl, ?_⟩
 refine sw_seq (xr hP 1 rfl (sw_seq (xg hP 2 [] rfl ?_ ?_)))
 ·simp [conj, maxL]
  try dsimp only [Ty.den, Ty.dflt]
  try simp only [rd_eta]
  try trivial
 refine sw_seq (sw_seq (xr hP 3 rfl (sw_cond rfl (fun c2 => ?_) (fun c2 => ?_))))
 ·have hs : ¬ poolV n = true := by have h : (!poolV n) = true := c2; simpa using h
  have hb : poolV n = false := by simpa using hs
  have hv : newPo n = ([], false, (0, []), (0, [])) := if_neg hs
  refine sw_seq (xr hP 4 rfl (sw_ret ⟨.inl rfl, _, rfl, ?_⟩))
  simp [conj, newWo, hv, hb]
 ·have hs : poolV n = true := by have h : (!poolV n) = false := c2; simpa using h
  refine sw_skip (sw_seq (xr hP 4 rfl (sw_seq (xg hP 5 [] rfl ?_ ?_))))
  ·simp [conj]
   rfl
  refine sw_ret ⟨.inl rfl, _, rfl, ?_⟩
  simp [conj, newWo, hs]
end Go.Sx
