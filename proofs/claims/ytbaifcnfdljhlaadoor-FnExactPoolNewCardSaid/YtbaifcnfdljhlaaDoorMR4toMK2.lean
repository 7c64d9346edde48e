/- Several texts, one behind the other. -/
import Derived.Test.YtbaifcnfdljhlaaDoorMOpentoMPn
import Derived.RangeFuncBox
import Derived.RangeFuncFrom
import Derived.RangeFuncNested
import Derived.RangeFuncBound
import Derived.RangeFuncCalls
import Derived.RangeFuncLeaves
import Derived.Shelf.Abstract
import Derived.Shelf.RegionOpen
import Derived.WalkKit
import Derived.OwnWalkIn
import Derived.TacticsInMore
import Derived.LoopNIn
import Derived.LoopIn
import Derived.Test.YtbaifcnfdljhlaaDoorProg
import Derived.Shelf.Strings.Builder1
import Derived.Shelf.Strings.Builder2
import Derived.Shelf.Strings.OnBuilder
import Derived.Shelf.Strings.BuilderF
import Derived.Shelf.Strings.BuilderK
import Derived.Shelf.Strings.Builder2Cap
import Derived.Shelf.Strconv.Itoa0
import Derived.Shelf.Strconv.Itoa1
import Derived.Shelf.LaysM
import Derived.Shelf.Strconv.Itoa2
import Derived.Shelf.Strconv.Itoa3
import Derived.Shelf.Strings.BuilderCap
import Derived.Ground.Names2Prog
import Derived.Shelf.Slices.Clone
import Derived.Ground.SlgnProg
import Derived.Shelf.SlicesE.Clone
set_option linter.all false
namespace Go.Sx
open Go
set_option maxRecDepth 100000
set_option linter.unusedVariables false
set_option linter.unusedSimpArgs false
set_option maxHeartbeats 2000000
def cIn : Ctr := ⟨22, [.val false TI pF, .val false TI pF, .val false TI pF], fun x => True, fun x => (sBool (inV x.1 x.2.1 x.2.2.1), [])⟩
theorem cIn_ok : CtrOk Proofs.Tryd.prog cIn := by
 have hP := (Prg.none ttok mtok)
 refine ctr_of_body hP cIn (fn := Proofs.Tryd.f22) (rts := [.tmp 6]) Proofs.Tryd.func22 rfl (by kernel_rfl) rfl rfl ?_
 rintro ⟨(n : Int), (lo : Int), (hi : Int), ⟨⟩⟩ _ _
 try dsimp only [Ty.den, Mode.den, mdens] at _
 refine ⟨rfl, ?_⟩
 refine sw_seq (xr hP 1 rfl (sw_seq ?_))
 refine sw_dec hP 2 [] 3 rfl (fun g1_3 => ?_) (fun g1_3 => ?_)
 ·refine xd hP 2 [(3, true)] rfl (sw_ret ⟨.inl rfl, _, rfl, ?_⟩)
  simp [conj] at *
  simp [inV, *]
  try omega
 ·refine xd hP 2 [(3, false)] rfl (sw_ret ⟨.inl rfl, _, rfl, ?_⟩)
  simp [conj] at *
  simp [inV, *]
  try omega
def cDisks : Ctr := ⟨9, [.val false TI pF], fun x => True, fun x => (sBool (poolV x.1), [])⟩
theorem cDisks_ok : CtrOk Proofs.Tryd.prog cDisks := by
 have hP := ((Prg.none ttok mtok).and cIn_ok)
 refine ctr_of_body hP cDisks (fn := Proofs.Tryd.f9) (rts := [.tmp 2]) Proofs.Tryd.func9 rfl (by kernel_rfl) rfl rfl ?_
 rintro ⟨(n : Int), ⟨⟩⟩ _ _
 try dsimp only [Ty.den, Mode.den, mdens] at _
 refine ⟨rfl, ?_⟩
 refine sw_seq (xr hP 1 rfl (sw_seq (xg hP 2 [] rfl ?_ ?_)))
 ·simp only [cj, cl]
  try dsimp only [Ty.den, Ty.dflt]
  repeat' apply And.intro
  all_goals first | trivial | assumption | omega | exact decide_eq_true ‹_› | exact decide_eq_false ‹_› | (simp [*]; done)
 refine sw_ret ⟨.inl rfl, _, rfl, ?_⟩
 simp [conj, poolV]
def cName : Ctr := ⟨68, [.val false .str pF], fun x => True, fun x => (sBool (nameV x.1), [])⟩
theorem cName_ok : CtrOk Proofs.Tryd.prog cName := by
 have hP := ((Prg.none ttok mtok).and cIn_ok)
 refine ctr_of_body hP cName (fn := Proofs.Tryd.f68) (rts := [.tmp 2]) Proofs.Tryd.func68 rfl (by kernel_rfl) rfl rfl ?_
 rintro ⟨(s : Str), ⟨⟩⟩ ⟨hds, _⟩ hpre
 try dsimp only [Ty.den, Mode.den, mdens] at hpre
 refine ⟨rfl, ?_⟩
 have hml : s.length ≤ 140737488355328 := hds
 refine sw_seq (xr hP 1 rfl (sw_seq (sw_seq (xg hP 2 [] rfl ?_ ?_))))
 ·exact trivial
 refine sw_cond rfl (fun c1 => ?_) (fun c1 => ?_)
 ·refine sw_seq (xr hP 3 rfl (sw_ret ⟨.inl rfl, _, rfl, ?_⟩))
  first | (simp at c1; simp [conj, nameV, c1]; done) | (simp [gE hlt] at g6_4; simp only [conj, nameV, hin, all_hit hlt hgo (lower_l g6_4)]; rfl) | (simp [gE hlt] at c6; simp only [conj, nameV, hin, all_hit hlt hgo (lower_h c6)]; rfl) | (simp only [conj, nameV, hin, all_end hgo]; rfl)
 ·refine sw_skip (sw_seq (sw_seq (xr hP 3 rfl (sw_block (sw_loop (ι := Nat) (fun i => ⟨[.v false [.d .str pF s], .j, .j, sInt .i64 (i : Int), .j, .j, .j, .j, .j, .j, .j, .j, .j, .j, .j, .j, .j, .j, .j, .j, .j, .j, .j, .j], [], 3, []⟩) (fun i => s.length - i) (fun i => i ≤ s.length ∧ (inV s.length 1 3 = true) ∧ (s.drop i).all lower = s.all lower) 0 ⟨?_, ?_⟩ ?_)))))
  ·refine ⟨Nat.zero_le _, ?_, rfl⟩
   simpa using c1
  ·refine ent_ok rfl ?_
   first | trivial | (simp [conj]; done) | (simp [conj] at *; (try dsimp only [Ty.den, Ty.dflt] at *); omega)
  ·rintro i ⟨hi, hin, hgo⟩
   refine sw_seq (sw_seq (xr hP 4 rfl (sw_cond rfl (fun c4 => ?_) (fun c4 => ?_))))
   ·have hlt : i < s.length := by simpa using c4
    refine sw_skip (sw_seq (sw_block (sw_seq ?_)))
    refine sw_dec hP 5 [] 4 rfl (fun g6_4 => ?_) (fun g6_4 => ?_)
    ·refine xd hP 5 [(4, true)] rfl (sw_condT rfl (sw_seq (xr hP 6 rfl (sw_ret ⟨.inl rfl, _, rfl, ?_⟩))))
     first | (simp at c1; simp [conj, nameV, c1]; done) | (simp [gE hlt] at g6_4; simp only [conj, nameV, hin, all_hit hlt hgo (lower_l g6_4)]; rfl) | (simp [gE hlt] at c6; simp only [conj, nameV, hin, all_hit hlt hgo (lower_h c6)]; rfl) | (simp only [conj, nameV, hin, all_end hgo]; rfl)
    ·refine xd hP 5 [(4, false)] rfl (sw_cond rfl (fun c6 => ?_) (fun c6 => ?_))
     ·refine sw_seq (xr hP 6 rfl (sw_ret ⟨.inl rfl, _, rfl, ?_⟩))
      first | (simp at c1; simp [conj, nameV, c1]; done) | (simp [gE hlt] at g6_4; simp only [conj, nameV, hin, all_hit hlt hgo (lower_l g6_4)]; rfl) | (simp [gE hlt] at c6; simp only [conj, nameV, hin, all_hit hlt hgo (lower_h c6)]; rfl) | (simp only [conj, nameV, hin, all_end hgo]; rfl)
     ·refine sw_skip (xr hP 6 rfl (⟨i + 1, ?_, ?_, ent_ok rfl ?_⟩))
      ·simp [gE hlt] at g6_4 c6
       exact ⟨hlt, hin, all_next hlt hgo (lower_t g6_4 c6)⟩
      ·omega
      ·simp [conj]
   ·obtain rfl : i = s.length := by simp at c4; omega
    refine sw_exit (sw_seq (xr hP 5 rfl (sw_ret ⟨.inl rfl, _, rfl, ?_⟩)))
    first | (simp at c1; simp [conj, nameV, c1]; done) | (simp [gE hlt] at g6_4; simp only [conj, nameV, hin, all_hit hlt hgo (lower_l g6_4)]; rfl) | (simp [gE hlt] at c6; simp only [conj, nameV, hin, all_hit hlt hgo (lower_h c6)]; rfl) | (simp only [conj, nameV, hin, all_end hgo]; rfl)
def cColsS : Ctr := ⟨80, [.val false TI pF], fun x => 0 ≤ x.1 ∧ x.1 ≤ 1000000, fun x => (sInt .i64 (colsV x.1), [])⟩
theorem cColsS_ok : CtrOk Proofs.Tryd.prog cColsS := by
 have hP := (Prg.none ttok mtok)
 refine ctr_of_body hP cColsS (fn := Proofs.Tryd.f80) (rts := [.tmp 2]) Proofs.Tryd.func80 rfl (by kernel_rfl) rfl rfl ?_
 rintro ⟨(n : Int), ⟨⟩⟩ _ ⟨h0, h1⟩
 try dsimp only [Ty.den, Mode.den, mdens] at h0
 try dsimp only [Ty.den, Mode.den, mdens] at h1
 refine ⟨rfl, ?_⟩
 have hq := colsV_bd h0 h1
 unfold colsV at hq
 refine sw_seq (xr hP 1 rfl (sw_seq (xg hP 2 [] rfl ?_ ?_)))
 ·simp only [cj, cl]
  try dsimp only [Ty.den, Ty.dflt]
  repeat' apply And.intro
  all_goals first | rfl | omega | assumption | trivial
 refine sw_ret ⟨.inl rfl, _, rfl, ?_⟩
 simp [conj, colsV]
def cPtrS : Ctr := ⟨70, [.val false TI pF, .val true T_Ptr (.all .b)], fun x => poolV x.1 = true, fun x => (sBool (ptrW x.1 x.2.1), [])⟩
theorem cPtrS_ok : CtrOk Proofs.Tryd.prog cPtrS := by
 have hP := (((Prg.none ttok mtok).and cIn_ok).and cColsS_ok)
 refine ctr_of_body hP cPtrS (fn := Proofs.Tryd.f70) (rts := [.tmp 4]) Proofs.Tryd.func70 rfl (by kernel_rfl) rfl rfl ?_
 rintro ⟨(d : Int), ⟨(sz : Int), (sm : Int), (pl : List Plc)⟩, ⟨⟩⟩ ⟨_, ⟨_, _, hpl0⟩, _⟩ hpre
 try dsimp only [Ty.den, Mode.den, mdens] at hpre
 refine ⟨rfl, ?_⟩
 replace hpre : poolV d = true := hpre
 have hml : pl.length ≤ 140737488355328 := hpl0.1
 have hb : 3 ≤ d ∧ d ≤ 4 := by simpa [poolV, inV] using hpre
 have hmm := sMin_bd d hb
 have hmv : mostV d = 3 * (d - 1) := by unfold mostV; rw [hmm]
 refine sw_seq (xr hP 1 rfl (sw_seq (sw_seq (xr hP 2 rfl (sw_cond rfl (fun c1 => ?_) (fun c1 => ?_))))))
 ·replace c1 : sz = 0 := of_decide_eq_true c1
  refine sw_seq ?_
  refine sw_dec hP 3 [] 3 rfl (fun g2_3 => ?_) (fun g2_3 => ?_)
  ·replace g2_3 : sm = 0 := of_decide_eq_true g2_3
   refine xg hP 3 [(3, true)] rfl ?_ ?_
   ·simp only [cj, cl]
    try dsimp only [Ty.den, Ty.dflt]
    repeat' apply And.intro
    all_goals first | trivial | assumption | omega | exact decide_eq_true ‹_› | exact decide_eq_false ‹_› | (simp [*]; done)
   refine sw_ret ⟨.inl rfl, _, rfl, ?_⟩
   simp [conj, ptrW, c1, *]
   try omega
  ·replace g2_3 : ¬ sm = 0 := of_decide_eq_false g2_3
   refine xg hP 3 [(3, false)] rfl ?_ ?_
   ·simp only [cj, cl]
    try dsimp only [Ty.den, Ty.dflt]
    repeat' apply And.intro
    all_goals first | trivial | assumption | omega | exact decide_eq_true ‹_› | exact decide_eq_false ‹_› | (simp [*]; done)
   refine sw_ret ⟨.inl rfl, _, rfl, ?_⟩
   simp [conj, ptrW, c1, *]
   try omega
 ·replace c1 : ¬ sz = 0 := of_decide_eq_false c1
  refine sw_skip (sw_seq (sw_seq ?_))
  refine sw_dec hP 3 [] 8 rfl (fun g3_8 => ?_) (fun g3_8 => ?_)
  ·have k8 : inV sz 1 (mostV d) = false := by have h : (!inV sz 1 (mostV d)) = true := g3_8; simpa using h
   have hsz : sizeV d ((sz, sm, pl) : Ptr_) = false := by simp [sizeV, k8]
   refine xg hP 3 [(8, true)] rfl ?_ ?_
   ·simp only [cj, cl]
    try dsimp only [Ty.den, Ty.dflt]
    repeat' apply And.intro
    all_goals first | trivial | assumption | omega | (show 0 ≤ sz; omega) | (show sz ≤ 1000000; omega) | (show _ ≤ mostV d; omega) | (show mostV d ≤ _; omega) | exact g3_8 | exact g3_14
   refine sw_condT rfl (sw_seq (xr hP 4 rfl (sw_ret ⟨.inl rfl, _, rfl, ?_⟩)))
   simp [conj, ptrW, c1, hsz]
  ·have k8 : inV sz 1 (mostV d) = true := by have h : (!inV sz 1 (mostV d)) = false := g3_8; simpa using h
   have hs1 : 1 ≤ sz ∧ sz ≤ mostV d := by simpa [inV] using k8
   have hcb := colsV_bd (n := sz) (by omega) (by omega)
   refine sw_dec hP 3 [(8, false)] 14 rfl (fun g3_14 => ?_) (fun g3_14 => ?_)
   ·have k14 : inV sm 0 1000000000 = false := by have h : (!inV sm 0 1000000000) = true := g3_14; simpa using h
    have hsz : sizeV d ((sz, sm, pl) : Ptr_) = false := by simp [sizeV, k14]
    refine xg hP 3 [(8, false), (14, true)] rfl ?_ ?_
    ·simp only [cj, cl]
     try dsimp only [Ty.den, Ty.dflt]
     repeat' apply And.intro
     all_goals first | trivial | assumption | omega | (show 0 ≤ sz; omega) | (show sz ≤ 1000000; omega) | (show _ ≤ mostV d; omega) | (show mostV d ≤ _; omega) | exact g3_8 | exact g3_14
    refine sw_condT rfl (sw_seq (xr hP 4 rfl (sw_ret ⟨.inl rfl, _, rfl, ?_⟩)))
    simp [conj, ptrW, c1, hsz]
   ·have k14 : inV sm 0 1000000000 = true := by have h : (!inV sm 0 1000000000) = false := g3_14; simpa using h
    refine xg hP 3 [(8, false), (14, false)] rfl ?_ ?_
    ·simp only [cj, cl]
     try dsimp only [Ty.den, Ty.dflt]
     repeat' apply And.intro
     all_goals first | trivial | assumption | omega | (show 0 ≤ sz; omega) | (show sz ≤ 1000000; omega) | (show _ ≤ mostV d; omega) | (show mostV d ≤ _; omega) | exact g3_8 | exact g3_14
    refine sw_cond rfl (fun c3 => ?_) (fun c3 => ?_)
    ·have hsz : sizeV d ((sz, sm, pl) : Ptr_) = false := by
       have h : (!decide ((pl.length : Int) = colsV sz + 1)) = true := c3
       simp [sizeV] at h ⊢; intros; omega
     refine sw_seq (xr hP 4 rfl (sw_ret ⟨.inl rfl, _, rfl, ?_⟩))
     simp [conj, ptrW, c1, hsz]
    ·have hsz : sizeV d ((sz, sm, pl) : Ptr_) = true := by
       have h : (!decide ((pl.length : Int) = colsV sz + 1)) = false := c3
       simp [sizeV, k8, k14] at h ⊢; omega
     refine sw_skip (sw_seq (sw_seq (xr hP 4 rfl (sw_block (sw_loop (ι := Nat) (fun i => ⟨[sInt .i64 d, .j, .j, .v false [.ptr ⟨1, 0, 0⟩ 0], .j, sInt .i64 (i : Int), .j, .j, .j, .j, .j, .j, .j, .j, .j, .j, .j, .j, .j, .j, .j, .j, .j, .j, .j, .j, .j, .j, .j, .j, .j, .j, .j, .j, .j, .j, .j, .j, .j, .j, .j, .j, .j, .j, .j, .j, .j, .j, .j, .j, .j, .j, .j, .j, .j, .j, .j, .j, .j, .j, .j, .j, .j, .j, .j, .j, .j, .j, .j, .j, .j, .j, .j, .j, .j, .j, .j, .j, .j, .j, .j, .j, .j, .j, .j, .j, .j, .j], [(⟨1, 0, 0⟩, .var [.d TI pF sz, .d TI pF sm, .d (.sl T_Place) (.all .b) pl])], 4, []⟩) (fun i => pl.length - i) (fun i => i ≤ pl.length ∧ chkGo (placeF d) (pl.take i) (pl.drop i) = chk (placeF d) pl) 0 ⟨?_, ?_⟩ ?_)))))
     ·exact ⟨Nat.zero_le _, rfl⟩
     ·refine ent_ok rfl ?_
      simp [conj]
     ·rintro i ⟨hi, hgo⟩
      refine sw_seq (sw_seq (xr hP 5 rfl (sw_cond rfl (fun c6 => ?_) (fun c6 => ?_))))
      ·have hlt : i < pl.length := by simpa using c6
       refine sw_skip (sw_seq (sw_block (sw_seq (sw_seq ?_))))
       refine sw_dec hP 6 [] 10 rfl (fun g8_10 => ?_) (fun g8_10 => ?_)
       ·replace g8_10 : inV pl[i].1 0 (d - 1) = false := by simpa [gE hlt] using g8_10
        have hf : placeF d (pl.take i) pl[i] = false := by simp [placeF, placeV_no1 g8_10]
        refine xg hP 6 [(10, true)] rfl ?_ ?_
        ·simp [conj, gE hlt]
         repeat' apply And.intro
         all_goals first | omega | assumption | (simp [*]; done) | trivial
        refine sw_condT rfl (sw_seq (xr hP 7 rfl (sw_ret ⟨.inl rfl, _, rfl, ?_⟩)))
        have hv := chk_hit hlt hgo hf
        simp [conj, ptrW, c1, hsz, hv]
       ·replace g8_10 : inV pl[i].1 0 (d - 1) = true := by simpa [gE hlt] using g8_10
        refine xg hP 6 [(10, false)] rfl ?_ ?_
        ·simp [conj, gE hlt]
         repeat' apply And.intro
         all_goals first | omega | assumption | (simp [*]; done) | trivial
        refine sw_cond rfl (fun c8 => ?_) (fun c8 => ?_)
        ·replace c8 : inV pl[i].2 0 11 = false := by simpa [gE hlt] using c8
         have hf : placeF d (pl.take i) pl[i] = false := by simp [placeF, placeV_no2 c8]
         refine sw_seq (xr hP 7 rfl (sw_ret ⟨.inl rfl, _, rfl, ?_⟩))
         have hv := chk_hit hlt hgo hf
         simp [conj, ptrW, c1, hsz, hv]
        ·replace c8 : inV pl[i].2 0 11 = true := by simpa [gE hlt] using c8
         have hpv : placeV d pl[i] = true := placeV_yes g8_10 c8
         refine sw_skip (sw_seq (xr hP 7 rfl (sw_block (sw_loop (ι := Nat) (fun k => ⟨[sInt .i64 d, .j, .j, .v false [.ptr ⟨1, 0, 0⟩ 0], .j, sInt .i64 (i : Int), sInt .i64 (k : Int), .j, .j, .j, .j, .j, .j, .j, .j, .j, .j, .j, .j, .j, .j, .j, .j, .j, .j, .j, .j, .j, .j, .j, .j, .j, .j, .j, .j, .j, .j, .j, .j, .j, .j, .j, .j, .j, .j, .j, .j, .j, .j, .j, .j, .j, .j, .j, .j, .j, .j, .j, .j, .j, .j, .j, .j, .j, .j, .j, .j, .j, .j, .j, .j, .j, .j, .j, .j, .j, .j, .j, .j, .j, .j, .j, .j, .j, .j, .j, .j, .j], [(⟨1, 0, 0⟩, .var [.d TI pF sz, .d TI pF sm, .d (.sl T_Place) (.all .b) pl])], 7, []⟩) (fun k => i - k) (fun k => k ≤ i ∧ (pl.take k).any (fun q : Plc => decide (q.1 = pl[i].1)) = false) 0 ⟨?_, ?_⟩ ?_))))
         ·exact ⟨Nat.zero_le _, rfl⟩
         ·refine ent_ok rfl ?_
          simp [conj]
         ·rintro k ⟨hk, hgk⟩
          refine sw_seq (sw_seq (xr hP 8 rfl (sw_cond rfl (fun c11 => ?_) (fun c11 => ?_))))
          ·have hki : k < i := by simpa using c11
           have hlk : k < pl.length := by omega
           refine sw_skip (sw_seq (sw_block (sw_seq (xg hP 9 [] rfl ?_ ?_))))
           ·simp [conj, gE hlt, gE hlk]
            repeat' apply And.intro
            all_goals first | omega | trivial
           refine sw_cond rfl (fun c13 => ?_) (fun c13 => ?_)
           ·replace c13 : (fun q : Plc => decide (q.1 = pl[i].1)) pl[k] = true := by simpa [gE hlt, gE hlk] using c13
            have hf : placeF d (pl.take i) pl[i] = false := by unfold placeF; rw [any_hit hki hlk c13]; simp
            refine sw_seq (xr hP 10 rfl (sw_ret ⟨.inl rfl, _, rfl, ?_⟩))
            have hv := chk_hit hlt hgo hf
            simp [conj, ptrW, c1, hsz, hv]
           ·replace c13 : (fun q : Plc => decide (q.1 = pl[i].1)) pl[k] = false := by simpa [gE hlt, gE hlk] using c13
            refine sw_skip (xr hP 10 rfl (⟨k + 1, ?_, ?_, ent_ok rfl ?_⟩))
            ·exact ⟨hki, any_next hlk hgk c13⟩
            ·omega
            ·simp [conj]
          ·obtain rfl : k = i := by simp at c11; omega
           have hf : placeF d (pl.take k) pl[k] = true := by unfold placeF; rw [hpv, hgk]; rfl
           refine sw_exit (xr hP 9 rfl (⟨k + 1, ?_, ?_, ent_ok rfl ?_⟩))
           ·exact ⟨hlt, chk_next hlt hgo hf⟩
           ·omega
           ·simp [conj]
      ·obtain rfl : i = pl.length := by simp at c6; omega
       refine sw_exit (sw_seq (xr hP 6 rfl (sw_ret ⟨.inl rfl, _, rfl, ?_⟩)))
       have hv := chk_end hgo
       simp [conj, ptrW, c1, hsz, hv]
def cMeet : Ctr := ⟨71, [.val true T_Ptr (.all .b), .val true T_Ptr (.all .b)], fun x => True, fun x => (sBool (meetV x.1 x.2.1), [])⟩
theorem cMeet_ok : CtrOk Proofs.Tryd.prog cMeet := by
 have hP := (Prg.none ttok mtok)
 refine ctr_of_body hP cMeet (fn := Proofs.Tryd.f71) (rts := [.tmp 4]) Proofs.Tryd.func71 rfl (by kernel_rfl) rfl rfl ?_
 rintro ⟨⟨(sz : Int), (sm : Int), (pl : List Plc)⟩, ⟨(sz2 : Int), (sm2 : Int), (pl2 : List Plc)⟩, ⟨⟩⟩ ⟨⟨_, _, h1⟩, ⟨_, _, h2⟩, _⟩ _
 try dsimp only [Ty.den, Mode.den, mdens] at _
 refine ⟨rfl, ?_⟩
 have hm1 : pl.length ≤ 140737488355328 := h1.1
 have hm2 : pl2.length ≤ 140737488355328 := h2.1
 refine sw_seq (xr hP 1 rfl (sw_seq (sw_seq (xr hP 2 rfl (sw_block (sw_loop (ι := Nat) (fun i => ⟨[.j, .j, .v false [.ptr ⟨1, 0, 0⟩ 0], .v false [.ptr ⟨1, 1, 0⟩ 0], .j, sInt .i64 (i : Int), .j, .j, .j, .j, .j, .j, .j, .j, .j, .j, .j, .j, .j, .j, .j, .j, .j, .j, .j, .j, .j, .j, .j, .j, .j, .j], [(⟨1, 0, 0⟩, .var [.d TI pF sz, .d TI pF sm, .d (.sl T_Place) (.all .b) pl]), (⟨1, 1, 0⟩, .var [.d TI pF sz2, .d TI pF sm2, .d (.sl T_Place) (.all .b) pl2])], 2, []⟩) (fun i => pl.length - i) (fun i => i ≤ pl.length ∧ (pl.take i).any (fun a : Plc => pl2.any fun b => decide (a = b)) = false) 0 ⟨?_, ?_⟩ ?_))))))
 ·exact ⟨Nat.zero_le _, rfl⟩
 ·refine ent_ok rfl ?_
  simp [conj]
 ·rintro i ⟨hi, hgo⟩
  refine sw_seq (sw_seq (xr hP 3 rfl (sw_cond rfl (fun c2 => ?_) (fun c2 => ?_))))
  ·have hlt : i < pl.length := by simpa using c2
   refine sw_skip (sw_seq (sw_block (sw_seq (xr hP 4 rfl (sw_block (sw_loop (ι := Nat) (fun k => ⟨[.j, .j, .v false [.ptr ⟨1, 0, 0⟩ 0], .v false [.ptr ⟨1, 1, 0⟩ 0], .j, sInt .i64 (i : Int), sInt .i64 (k : Int), .j, .j, .j, .j, .j, .j, .j, .j, .j, .j, .j, .j, .j, .j, .j, .j, .j, .j, .j, .j, .j, .j, .j, .j, .j], [(⟨1, 0, 0⟩, .var [.d TI pF sz, .d TI pF sm, .d (.sl T_Place) (.all .b) pl]), (⟨1, 1, 0⟩, .var [.d TI pF sz2, .d TI pF sm2, .d (.sl T_Place) (.all .b) pl2])], 4, []⟩) (fun k => pl2.length - k) (fun k => k ≤ pl2.length ∧ (pl2.take k).any (fun b : Plc => decide (pl[i] = b)) = false) 0 ⟨?_, ?_⟩ ?_))))))
   ·exact ⟨Nat.zero_le _, rfl⟩
   ·refine ent_ok rfl ?_
    simp [conj]
   ·rintro k ⟨hk, hgk⟩
    refine sw_seq (sw_seq (xr hP 5 rfl (sw_cond rfl (fun c5 => ?_) (fun c5 => ?_))))
    ·have hlk : k < pl2.length := by simpa using c5
     refine sw_skip (sw_seq (sw_block (sw_seq (xg hP 6 [] rfl ?_ ?_))))
     ·simp [conj, gE hlt, gE hlk]
      repeat' apply And.intro
      all_goals first | omega | trivial
     refine sw_cond rfl (fun c7 => ?_) (fun c7 => ?_)
     ·have he : (fun b : Plc => decide (pl[i] = b)) pl2[k] = true := by
        have h := c7
        simp [gE hlt, gE hlk] at h
        simp only [decide_eq_true_eq]
        exact Prod.ext h.1 h.2
      have hv : meetV ((sz, sm, pl) : Ptr_) (sz2, sm2, pl2) = true := any_hit' (p := (fun a : Plc => pl2.any fun b => decide (a = b))) hlt (any_hit' (p := (fun b : Plc => decide (pl[i] = b))) hlk he)
      refine sw_seq (xr hP 7 rfl (sw_ret ⟨.inl rfl, _, rfl, ?_⟩))
      simp [conj, hv]
     ·have he : (fun b : Plc => decide (pl[i] = b)) pl2[k] = false := by
        simp only [decide_eq_false_iff_not]
        intro e
        simp [gE hlt, gE hlk, e] at c7
      refine sw_skip (xr hP 7 rfl (⟨k + 1, ?_, ?_, ent_ok rfl ?_⟩))
      ·exact ⟨hlk, any_next hlk hgk he⟩
      ·omega
      ·simp [conj]
    ·obtain rfl : k = pl2.length := by simp at c5; omega
     have hf := any_end hgk
     refine sw_exit (xr hP 6 rfl (⟨i + 1, ?_, ?_, ent_ok rfl ?_⟩))
     ·exact ⟨hlt, any_next hlt hgo hf⟩
     ·omega
     ·simp [conj]
  ·obtain rfl : i = pl.length := by simp at c2; omega
   refine sw_exit (sw_seq (xr hP 4 rfl (sw_ret ⟨.inl rfl, _, rfl, ?_⟩)))
   have hv : meetV ((sz, sm, pl) : Ptr_) (sz2, sm2, pl2) = false := any_end hgo
   simp [conj, hv]
def cSameS : Ctr := ⟨72, [.val true T_Ptr (.all .b), .val true T_Ptr (.all .b)], fun x => True, fun x => (sBool (decide ((x.1 : Ptr_) = x.2.1)), [])⟩
theorem cSameS_ok : CtrOk Proofs.Tryd.prog cSameS := by
 have hP := (Prg.none ttok mtok)
 refine ctr_of_body hP cSameS (fn := Proofs.Tryd.f72) (rts := [.tmp 4]) Proofs.Tryd.func72 rfl (by kernel_rfl) rfl rfl ?_
 rintro ⟨⟨(sz : Int), (sm : Int), (pl : List Plc)⟩, ⟨(sz2 : Int), (sm2 : Int), (pl2 : List Plc)⟩, ⟨⟩⟩ ⟨⟨_, _, h1⟩, ⟨_, _, h2⟩, _⟩ _
 try dsimp only [Ty.den, Mode.den, mdens] at _
 refine ⟨rfl, ?_⟩
 have hm1 : pl.length ≤ 140737488355328 := h1.1
 have hm2 : pl2.length ≤ 140737488355328 := h2.1
 refine sw_seq (xr hP 1 rfl (sw_seq (sw_seq ?_)))
 refine sw_dec hP 2 [] 5 rfl (fun g1_5 => ?_) (fun g1_5 => ?_)
 ·have k5 : ¬ sz = sz2 := by simpa using g1_5
  refine xg hP 2 [(5, true)] rfl ?_ ?_
  ·simp only [cj, cl]
   try dsimp only [Ty.den, Ty.dflt]
   repeat' apply And.intro
   all_goals first | trivial | exact g1_5 | exact g1_12 | assumption
  refine sw_condT rfl (sw_seq (xr hP 3 rfl (sw_ret ⟨.inl rfl, _, rfl, ?_⟩)))
  simp [conj, Prod.ext_iff, k5]
 ·have k5 : sz = sz2 := by simpa using g1_5
  refine sw_dec hP 2 [(5, false)] 12 rfl (fun g1_12 => ?_) (fun g1_12 => ?_)
  ·have k12 : ¬ sm = sm2 := by simpa using g1_12
   refine xg hP 2 [(5, false), (12, true)] rfl ?_ ?_
   ·simp only [cj, cl]
    try dsimp only [Ty.den, Ty.dflt]
    repeat' apply And.intro
    all_goals first | trivial | exact g1_5 | exact g1_12 | assumption
   refine sw_condT rfl (sw_seq (xr hP 3 rfl (sw_ret ⟨.inl rfl, _, rfl, ?_⟩)))
   simp [conj, Prod.ext_iff, k12]
  ·have k12 : sm = sm2 := by simpa using g1_12
   refine xg hP 2 [(5, false), (12, false)] rfl ?_ ?_
   ·simp only [cj, cl]
    try dsimp only [Ty.den, Ty.dflt]
    repeat' apply And.intro
    all_goals first | trivial | exact g1_5 | exact g1_12 | assumption
   refine sw_cond rfl (fun c1 => ?_) (fun c1 => ?_)
   ·replace c1 : ¬ pl.length = pl2.length := by simp at c1; omega
    refine sw_seq (xr hP 3 rfl (sw_ret ⟨.inl rfl, _, rfl, ?_⟩))
    have hv := eqL_len c1
    replace hv : ¬ pl = pl2 := of_decide_eq_false hv
    simp [conj, Prod.ext_iff, hv]
   ·replace c1 : pl.length = pl2.length := by simp at c1; omega
    refine sw_skip (sw_seq (sw_seq (xr hP 3 rfl (sw_block (sw_loop (ι := Nat) (fun i => ⟨[.j, .j, .v false [.ptr ⟨1, 0, 0⟩ 0], .v false [.ptr ⟨1, 1, 0⟩ 0], .j, sInt .i64 (i : Int), .j, .j, .j, .j, .j, .j, .j, .j, .j, .j, .j, .j, .j, .j, .j, .j, .j, .j, .j, .j, .j, .j, .j, .j, .j, .j, .j, .j, .j, .j, .j, .j, .j, .j, .j, .j, .j, .j, .j], [(⟨1, 0, 0⟩, .var [.d TI pF sz, .d TI pF sm, .d (.sl T_Place) (.all .b) pl]), (⟨1, 1, 0⟩, .var [.d TI pF sz2, .d TI pF sm2, .d (.sl T_Place) (.all .b) pl2])], 3, []⟩) (fun i => pl.length - i) (fun i => i ≤ pl.length ∧ decide (pl.drop i = pl2.drop i) = decide (pl = pl2)) 0 ⟨?_, ?_⟩ ?_)))))
    ·exact ⟨Nat.zero_le _, rfl⟩
    ·refine ent_ok rfl ?_
     simp [conj]
    ·rintro i ⟨hi, hgo⟩
     refine sw_seq (sw_seq (xr hP 4 rfl (sw_cond rfl (fun c4 => ?_) (fun c4 => ?_))))
     ·have hlt : i < pl.length := by simpa using c4
      have hlt2 : i < pl2.length := by omega
      refine sw_skip (sw_seq (sw_block (sw_seq (xg hP 5 [] rfl ?_ ?_))))
      ·simp [conj, gE hlt, gE hlt2]
       repeat' apply And.intro
       all_goals first | omega | trivial
      refine sw_cond rfl (fun c6 => ?_) (fun c6 => ?_)
      ·replace c6 : ¬ pl[i] = pl2[i] := by intro e; simp [gE hlt, gE hlt2, e] at c6
       refine sw_seq (xr hP 6 rfl (sw_ret ⟨.inl rfl, _, rfl, ?_⟩))
       have hv := eqL_hit hlt hlt2 hgo c6
       replace hv : ¬ pl = pl2 := of_decide_eq_false hv
       simp [conj, Prod.ext_iff, hv]
      ·replace c6 : pl[i] = pl2[i] := by have h := c6; simp [gE hlt, gE hlt2] at h; exact Prod.ext h.1 h.2
       refine sw_skip (xr hP 6 rfl (⟨i + 1, ?_, ?_, ent_ok rfl ?_⟩))
       ·exact ⟨hlt, eqL_next hlt hlt2 hgo c6⟩
       ·omega
       ·simp [conj]
     ·obtain rfl : i = pl.length := by simp at c4; omega
      refine sw_exit (sw_seq (xr hP 5 rfl (sw_ret ⟨.inl rfl, _, rfl, ?_⟩)))
      have hv := eqL_end c1 hgo
      replace hv : pl = pl2 := of_decide_eq_true hv
      simp [conj, k5, k12, hv]
def cAll : Ctr := ⟨69, [.val true T_Root (.all .b)], fun x => SmallV x.1.2, fun x => (.v false [.own ⟨1, 0, 0⟩], [(⟨1, 0, 0⟩, .sl T_Ptr (.all .b) (blksOf x.1.2))])⟩
theorem cAll_ok : CtrOk Proofs.Tryd.prog cAll := by
 have hP := (Prg.none ttok mtok)
 refine ctr_of_body hP cAll (fn := Proofs.Tryd.f69) (rts := [.tmp 2]) Proofs.Tryd.func69 rfl (by kernel_rfl) rfl rfl ?_
 rintro ⟨⟨(tg : Int), (l : List Vol_)⟩, ⟨⟩⟩ _ hpre
 try dsimp only [Ty.den, Mode.den, mdens] at hpre
 refine ⟨rfl, ?_⟩
 replace hpre : SmallV l := hpre
 have hml : l.length ≤ 100 := hpre.1
 refine sw_seq (xr hP 1 rfl (sw_seq (xr hP 2 rfl (sw_seq (sw_seq (xr hP 3 rfl (sw_block (sw_loop (ι := Nat) (fun i => ⟨[.j, .v false [.ptr ⟨1, 0, 0⟩ 0], .j, .v false [.own ⟨0, 9, 0⟩], sInt .i64 (i : Int), .j, .j, .j, .j, .j, .j, .j, .j, .j, .j, .j, .j, .j, .j, .j, .j, .j], [(⟨1, 0, 0⟩, .var [.d TI pF tg, .d (.sl T_Vol) (.all .b) l]), (⟨0, 9, 0⟩, .sl T_Ptr (.all .b) (blksOf (l.take i)))], 3, []⟩) (fun i => l.length - i) (fun i => i ≤ l.length) 0 ⟨?_, ?_⟩ ?_))))))))
 ·exact Nat.zero_le _
 ·refine ent_ok rfl ?_
  simp [conj, blksOf]
 ·rintro i hi
  refine sw_seq (sw_seq (xr hP 4 rfl (sw_cond rfl (fun c3 => ?_) (fun c3 => ?_))))
  ·have hlt : i < l.length := by simpa using c3
   have hb1 := blks_len hpre (i := i)
   have hb2 := hpre.2 _ (List.getElem_mem hlt)
   refine sw_skip (sw_seq (sw_block (xg hP 5 [] rfl ?_ ?_)))
   ·simp [conj, maxL, gE hlt]
    omega
   refine xr hP 6 rfl (⟨i + 1, ?_, ?_, ent_ok rfl ?_⟩)
   ·exact hlt
   ·omega
   ·simp [conj, gE hlt]
    exact flat_next hlt
  ·obtain rfl : i = l.length := by simp at c3; omega
   refine sw_exit (sw_seq (xr hP 5 rfl (sw_ret ⟨.inl rfl, _, rfl, ?_⟩)))
   simp [conj]
end Go.Sx

namespace Go.Sx
open Go
set_option maxRecDepth 100000
set_option linter.unusedVariables false
set_option linter.unusedSimpArgs false
set_option maxHeartbeats 2000000
def cVolsS : Ctr := ⟨57, [.val false TI pF, .val true T_Root (.all .b)], fun x => poolV x.1 = true ∧ List.length x.2.1.2 ≤ 4, fun x => (sBool (volsS x.1 x.2.1.2), [])⟩
theorem cVolsS_ok : CtrOk Proofs.Tryd.prog cVolsS := by
 have hP := ((((((Prg.none ttok mtok).and cName_ok).and cAll_ok).and cPtrS_ok).and cMeet_ok).and cSameS_ok)
 refine ctr_of_body hP cVolsS (fn := Proofs.Tryd.f57) (rts := [.tmp 4]) Proofs.Tryd.func57 rfl (by kernel_rfl) rfl rfl ?_
 rintro ⟨(d : Int), ⟨(tg : Int), (l : List Vol_)⟩, ⟨⟩⟩ ⟨_, ⟨_, hl0⟩, _⟩ ⟨hd1, h4⟩
 try dsimp only [Ty.den, Mode.den, mdens] at hd1
 try dsimp only [Ty.den, Mode.den, mdens] at h4
 refine ⟨rfl, ?_⟩
 replace hd1 : poolV d = true := hd1
 replace h4 : l.length ≤ 4 := h4
 refine sw_seq (xr hP 1 rfl (sw_seq (sw_seq (xr hP 2 rfl (sw_block (sw_loop (ι := Nat) (fun i => ⟨[sInt .i64 d, .j, .j, .v false [.ptr ⟨1, 0, 0⟩ 0], .j, sInt .i64 (i : Int), .j, .j, .j, .j, .j, .j, .j, .j, .j, .j, .j, .j, .j, .j, .j, .j, .j, .j, .j, .j, .j, .j, .j, .j, .j, .j, .j, .j, .j, .j, .j, .j, .j, .j, .j, .j, .j, .j, .j, .j, .j, .j, .j, .j, .j, .j, .j, .j, .j, .j, .j, .j, .j, .j, .j, .j, .j, .j, .j, .j, .j, .j, .j, .j, .j, .j, .j, .j, .j, .j, .j, .j, .j, .j, .j, .j, .j, .j, .j, .j, .j, .j, .j, .j, .j, .j, .j, .j], [(⟨1, 0, 0⟩, .var [.d TI pF tg, .d (.sl T_Vol) (.all .b) l])], 2, []⟩) (fun i => l.length - i) (fun i => i ≤ l.length ∧ chkGo volG (l.take i) (l.drop i) = chk volG l) 0 ⟨?_, ?_⟩ ?_))))))
 ·exact ⟨Nat.zero_le _, rfl⟩
 ·refine ent_ok rfl ?_
  simp [conj]
 ·rintro i ⟨hi, hgo⟩
  refine sw_seq (sw_seq (xr hP 3 rfl (sw_cond rfl (fun c2 => ?_) (fun c2 => ?_))))
  ·have hlt : i < l.length := by simpa using c2
   have hml2 : l[i].2.length ≤ 140737488355328 := (hl0.2 _ (List.getElem_mem hlt)).2.1
   refine sw_skip (sw_seq (sw_block (sw_seq (sw_seq ?_))))
   refine sw_dec hP 4 [] 8 rfl (fun g4_8 => ?_) (fun g4_8 => ?_)
   ·have k8 : nameV l[i].1 = false := by simpa [gE hlt] using g4_8
    have hf : volG (l.take i) l[i] = false := by simp [volG, k8]
    refine xg hP 4 [(8, true)] rfl ?_ ?_
    ·simp [conj, gE hlt]
     repeat' apply And.intro
     all_goals first | omega | assumption | (simp [*]; done) | trivial
    refine sw_condT rfl (sw_seq (xr hP 5 rfl (sw_ret ⟨.inl rfl, _, rfl, ?_⟩)))
    have hv := chk_hit hlt hgo hf
    simp [conj, volsS, hv]
   ·have k8 : nameV l[i].1 = true := by simpa [gE hlt] using g4_8
    refine xg hP 4 [(8, false)] rfl ?_ ?_
    ·simp [conj, gE hlt]
     repeat' apply And.intro
     all_goals first | omega | assumption | (simp [*]; done) | trivial
    refine sw_cond rfl (fun c4 => ?_) (fun c4 => ?_)
    ·replace c4 : ¬ l[i].2.length = 3 := by
       have h := c4
       simp [gE hlt] at h
       omega
     have hf : volG (l.take i) l[i] = false := by simp [volG, c4]
     refine sw_seq (xr hP 5 rfl (sw_ret ⟨.inl rfl, _, rfl, ?_⟩))
     have hv := chk_hit hlt hgo hf
     simp [conj, volsS, hv]
    ·replace c4 : l[i].2.length = 3 := by
       have h := c4
       simp [gE hlt] at h
       omega
     refine sw_skip (sw_seq (xr hP 5 rfl (sw_block (sw_loop (ι := Nat) (fun k => ⟨[sInt .i64 d, .j, .j, .v false [.ptr ⟨1, 0, 0⟩ 0], .j, sInt .i64 (i : Int), sInt .i64 (k : Int), .j, .j, .j, .j, .j, .j, .j, .j, .j, .j, .j, .j, .j, .j, .j, .j, .j, .j, .j, .j, .j, .j, .j, .j, .j, .j, .j, .j, .j, .j, .j, .j, .j, .j, .j, .j, .j, .j, .j, .j, .j, .j, .j, .j, .j, .j, .j, .j, .j, .j, .j, .j, .j, .j, .j, .j, .j, .j, .j, .j, .j, .j, .j, .j, .j, .j, .j, .j, .j, .j, .j, .j, .j, .j, .j, .j, .j, .j, .j, .j, .j, .j, .j, .j, .j, .j, .j], [(⟨1, 0, 0⟩, .var [.d TI pF tg, .d (.sl T_Vol) (.all .b) l])], 5, []⟩) (fun k => i - k) (fun k => k ≤ i ∧ (l.take k).any (fun w : Vol_ => decide (w.1 = l[i].1)) = false) 0 ⟨?_, ?_⟩ ?_))))
     ·exact ⟨Nat.zero_le _, rfl⟩
     ·refine ent_ok rfl ?_
      simp [conj]
     ·rintro k ⟨hk, hgk⟩
      refine sw_seq (sw_seq (xr hP 6 rfl (sw_cond rfl (fun c7 => ?_) (fun c7 => ?_))))
      ·have hki : k < i := by simpa using c7
       have hlk : k < l.length := by omega
       refine sw_skip (sw_seq (sw_block (sw_seq (xg hP 7 [] rfl ?_ ?_))))
       ·simp [conj, gE hlt, gE hlk]
        repeat' apply And.intro
        all_goals first | omega | trivial
       refine sw_cond rfl (fun c9 => ?_) (fun c9 => ?_)
       ·replace c9 : (fun w : Vol_ => decide (w.1 = l[i].1)) l[k] = true := by simpa [gE hlt, gE hlk] using c9
        have hf : volG (l.take i) l[i] = false := by unfold volG; rw [any_hit hki hlk c9]; simp
        refine sw_seq (xr hP 8 rfl (sw_ret ⟨.inl rfl, _, rfl, ?_⟩))
        have hv := chk_hit hlt hgo hf
        simp [conj, volsS, hv]
       ·replace c9 : (fun w : Vol_ => decide (w.1 = l[i].1)) l[k] = false := by simpa [gE hlt, gE hlk] using c9
        refine sw_skip (xr hP 8 rfl (⟨k + 1, ?_, ?_, ent_ok rfl ?_⟩))
        ·exact ⟨hki, any_next hlk hgk c9⟩
        ·omega
        ·simp [conj]
      ·obtain rfl : k = i := by simp at c7; omega
       have hf : volG (l.take k) l[k] = true := by unfold volG; rw [k8, hgk, c4]; rfl
       refine sw_exit (xr hP 7 rfl (⟨k + 1, ?_, ?_, ent_ok rfl ?_⟩))
       ·exact ⟨hlt, chk_next hlt hgo hf⟩
       ·omega
       ·simp [conj]
  ·obtain rfl : i = l.length := by simp at c2; omega
   have hvg : chk volG l = true := chk_end hgo
   have hsv := volG_small hvg h4
   have hbl := blks_all hsv
   refine sw_exit (sw_seq (xg hP 4 [] rfl ?_ ?_))
   ·simp [conj, maxL]
    try dsimp only [Ty.den, Ty.dflt]
    try simp only [rd_eta]
    exact hsv
   refine sw_seq (sw_seq (xr hP 5 rfl (sw_block (sw_loop (ι := Nat) (fun n => ⟨[sInt .i64 d, .j, .j, .v false [.ptr ⟨1, 0, 0⟩ 0], .j, .j, .j, .v false [.own ⟨0, 9, 0⟩], sInt .i64 (n : Int), .j, .j, .j, .j, .j, .j, .j, .j, .j, .j, .j, .j, .j, .j, .j, .j, .j, .j, .j, .j, .j, .j, .j, .j, .j, .j, .j, .j, .j, .j, .j, .j, .j, .j, .j, .j, .j, .j, .j, .j, .j, .j, .j, .j, .j, .j, .j, .j, .j, .j, .j, .j, .j, .j, .j, .j, .j, .j, .j, .j, .j, .j, .j, .j, .j, .j, .j, .j, .j, .j, .j, .j, .j, .j, .j, .j, .j, .j, .j, .j, .j, .j, .j, .j, .j], [(⟨1, 0, 0⟩, .var [.d TI pF tg, .d (.sl T_Vol) (.all .b) l]), (⟨0, 9, 0⟩, .sl T_Ptr (.all .b) (blksOf l))], 5, []⟩) (fun n => (blksOf l).length - n) (fun n => n ≤ (blksOf l).length ∧ chkGo (ptrG d) ((blksOf l).take n) ((blksOf l).drop n) = chk (ptrG d) (blksOf l)) 0 ⟨?_, ?_⟩ ?_))))
   ·exact ⟨Nat.zero_le _, rfl⟩
   ·refine ent_ok rfl ?_
    simp [conj]
   ·rintro n ⟨hn, hgn⟩
    refine sw_seq (sw_seq (xr hP 6 rfl (sw_cond rfl (fun c13 => ?_) (fun c13 => ?_))))
    ·have hln : n < (blksOf l).length := by simpa using c13
     refine sw_skip (sw_seq (sw_block (sw_seq (sw_seq (xg hP 7 [] rfl ?_ ?_)))))
     ·simp [conj, gE hln]
      repeat' apply And.intro
      all_goals first | omega | exact hd1 | trivial
     refine sw_cond rfl (fun c15 => ?_) (fun c15 => ?_)
     ·replace c15 : ptrW d (blksOf l)[n] = false := by simpa [gE hln] using c15
      have hf : ptrG d ((blksOf l).take n) (blksOf l)[n] = false := by simp [ptrG, c15]
      refine sw_seq (xr hP 8 rfl (sw_ret ⟨.inl rfl, _, rfl, ?_⟩))
      have hv := chk_hit hln hgn hf
      simp [conj, volsS, hvg, hv]
     ·replace c15 : ptrW d (blksOf l)[n] = true := by simpa [gE hln] using c15
      refine sw_skip (sw_seq (xr hP 8 rfl (sw_block (sw_loop (ι := Nat) (fun m => ⟨[sInt .i64 d, .j, .j, .v false [.ptr ⟨1, 0, 0⟩ 0], .j, .j, .j, .v false [.own ⟨0, 9, 0⟩], sInt .i64 (n : Int), sInt .i64 (m : Int), .j, .j, .j, .j, .j, .j, .j, .j, .j, .j, .j, .j, .j, .j, .j, .j, .j, .j, .j, .j, .j, .j, .j, .j, .j, .j, .j, .j, .j, .j, .j, .j, .j, .j, .j, .j, .j, .j, .j, .j, .j, .j, .j, .j, .j, .j, .j, .j, .j, .j, .j, .j, .j, .j, .j, .j, .j, .j, .j, .j, .j, .j, .j, .j, .j, .j, .j, .j, .j, .j, .j, .j, .j, .j, .j, .j, .j, .j, .j, .j, .j, .j, .j, .j], [(⟨1, 0, 0⟩, .var [.d TI pF tg, .d (.sl T_Vol) (.all .b) l]), (⟨0, 9, 0⟩, .sl T_Ptr (.all .b) (blksOf l))], 8, []⟩) (fun m => n - m) (fun m => m ≤ n ∧ ((blksOf l).take m).any (fun q : Ptr_ => meetV (blksOf l)[n] q && !decide ((blksOf l)[n] = q)) = false) 0 ⟨?_, ?_⟩ ?_))))
      ·exact ⟨Nat.zero_le _, rfl⟩
      ·refine ent_ok rfl ?_
       simp [conj]
      ·rintro m ⟨hm, hgm⟩
       refine sw_seq (sw_seq (xr hP 9 rfl (sw_cond rfl (fun c18 => ?_) (fun c18 => ?_))))
       ·have hmn : m < n := by simpa using c18
        have hlm : m < (blksOf l).length := by omega
        refine sw_skip (sw_seq (sw_block (sw_seq ?_)))
        refine sw_dec hP 10 [] 9 rfl (fun g20_9 => ?_) (fun g20_9 => ?_)
        ·have k9 : meetV (blksOf l)[n] (blksOf l)[m] = true := by simpa [gE hln, gE hlm] using g20_9
         refine xg hP 10 [(9, true)] rfl ?_ ?_
         ·simp [conj, gE hln, gE hlm]
          repeat' apply And.intro
          all_goals first | omega | assumption | exact k9 | trivial
         refine sw_cond rfl (fun c20 => ?_) (fun c20 => ?_)
         ·replace c20 : ¬ (blksOf l)[n] = (blksOf l)[m] := by
            intro e
            simp [gE hln, gE hlm, e] at c20
          have hq : (fun q : Ptr_ => meetV (blksOf l)[n] q && !decide ((blksOf l)[n] = q)) (blksOf l)[m] = true := by simp only [k9]; simp [c20]
          have hf : ptrG d ((blksOf l).take n) (blksOf l)[n] = false := by unfold ptrG; rw [any_hit hmn hlm hq]; simp
          refine sw_seq (xr hP 11 rfl (sw_ret ⟨.inl rfl, _, rfl, ?_⟩))
          have hv := chk_hit hln hgn hf
          simp [conj, volsS, hvg, hv]
         ·replace c20 : (blksOf l)[n] = (blksOf l)[m] := by
            have h := c20
            simp [gE hln, gE hlm] at h
            exact Prod.ext h.1 (Prod.ext h.2.1 h.2.2)
          have hq : (fun q : Ptr_ => meetV (blksOf l)[n] q && !decide ((blksOf l)[n] = q)) (blksOf l)[m] = false := by simp only [c20]; simp
          refine sw_skip (xr hP 11 rfl (⟨m + 1, ?_, ?_, ent_ok rfl ?_⟩))
          ·exact ⟨hmn, any_next hlm hgm hq⟩
          ·omega
          ·simp [conj]
        ·have k9 : meetV (blksOf l)[n] (blksOf l)[m] = false := by simpa [gE hln, gE hlm] using g20_9
         have hq : (fun q : Ptr_ => meetV (blksOf l)[n] q && !decide ((blksOf l)[n] = q)) (blksOf l)[m] = false := by simp only [k9]; rfl
         refine xg hP 10 [(9, false)] rfl ?_ ?_
         ·simp [conj, gE hln, gE hlm]
          repeat' apply And.intro
          all_goals first | omega | assumption | exact k9 | trivial
         refine sw_condF rfl (sw_skip (xr hP 11 rfl (⟨m + 1, ?_, ?_, ent_ok rfl ?_⟩)))
         ·exact ⟨hmn, any_next hlm hgm hq⟩
         ·omega
         ·simp [conj]
       ·obtain rfl : m = n := by simp at c18; omega
        have hf : ptrG d ((blksOf l).take m) (blksOf l)[m] = true := by unfold ptrG; rw [c15, hgm]; rfl
        refine sw_exit (xr hP 10 rfl (⟨m + 1, ?_, ?_, ent_ok rfl ?_⟩))
        ·exact ⟨hln, chk_next hln hgn hf⟩
        ·omega
        ·simp [conj]
    ·obtain rfl : n = (blksOf l).length := by simp at c13; omega
     refine sw_exit (sw_seq (xr hP 7 rfl (sw_ret ⟨.inl rfl, _, rfl, ?_⟩)))
     have hv := chk_end hgn
     simp [conj, volsS, hvg, hv]
def cRootOkS : Ctr := ⟨39, [.val false TI pF, .val true T_Root (.all .b)], fun x => True, fun x => (sBool (rootS x.1 x.2.1), [])⟩
theorem cRootOkS_ok : CtrOk Proofs.Tryd.prog cRootOkS := by
 have hP := ((((Prg.none ttok mtok).and cDisks_ok).and cIn_ok).and cVolsS_ok)
 refine ctr_of_body hP cRootOkS (fn := Proofs.Tryd.f39) (rts := [.tmp 4]) Proofs.Tryd.func39 rfl (by kernel_rfl) rfl rfl ?_
 rintro ⟨(d : Int), ⟨(tg : Int), (l : List Vol_)⟩, ⟨⟩⟩ _ _
 try dsimp only [Ty.den, Mode.den, mdens] at _
 refine ⟨rfl, ?_⟩
 refine sw_seq (xr hP 1 rfl (sw_seq ?_))
 refine sw_dec hP 2 [] 2 rfl (fun g1_2 => ?_) (fun g1_2 => ?_)
 ·have k2 : poolV d = true := g1_2
  refine sw_dec hP 2 [(2, true)] 7 rfl (fun g1_7 => ?_) (fun g1_7 => ?_)
  ·have k7 : inV tg 0 100000 = true := g1_7
   refine sw_dec hP 2 [(2, true), (7, true)] 13 rfl (fun g1_13 => ?_) (fun g1_13 => ?_)
   ·have k13 : l.length ≤ 4 := by have h := g1_13; simp at h; omega
    refine xg hP 2 [(2, true), (7, true), (13, true)] rfl ?_ ?_
    ·simp only [cj, cl]
     try dsimp only [Ty.den, Ty.dflt]
     repeat' apply And.intro
     all_goals first | trivial | exact g1_2 | exact g1_7 | exact g1_13 | assumption | exact k2 | exact k13
    refine sw_ret ⟨.inl rfl, _, rfl, ?_⟩
    simp [conj, rootS, *]
   ·have k13 : ¬ l.length ≤ 4 := by have h := g1_13; simp at h; omega
    refine xg hP 2 [(2, true), (7, true), (13, false)] rfl ?_ ?_
    ·simp only [cj, cl]
     try dsimp only [Ty.den, Ty.dflt]
     repeat' apply And.intro
     all_goals first | trivial | exact g1_2 | exact g1_7 | exact g1_13 | assumption | exact k2 | exact k13
    refine sw_ret ⟨.inl rfl, _, rfl, ?_⟩
    simp [conj, rootS, *]
  ·have k7 : inV tg 0 100000 = false := g1_7
   refine xg hP 2 [(2, true), (7, false)] rfl ?_ ?_
   ·simp only [cj, cl]
    try dsimp only [Ty.den, Ty.dflt]
    repeat' apply And.intro
    all_goals first | trivial | exact g1_2 | exact g1_7 | exact g1_13 | assumption | exact k2 | exact k13
   refine sw_ret ⟨.inl rfl, _, rfl, ?_⟩
   simp [conj, rootS, *]
 ·have k2 : poolV d = false := g1_2
  refine xg hP 2 [(2, false)] rfl ?_ ?_
  ·simp only [cj, cl]
   try dsimp only [Ty.den, Ty.dflt]
   repeat' apply And.intro
   all_goals first | trivial | exact g1_2 | exact g1_7 | exact g1_13 | assumption | exact k2 | exact k13
  refine sw_ret ⟨.inl rfl, _, rfl, ?_⟩
  simp [conj, rootS, *]
def cDecK (k : Nat) : Ctr := ⟨41, [.val false TI pF], fun x => 0 ≤ x.1 ∧ 1 ≤ k ∧ x.1 < 10 ^ k, fun x => (sStr (itoaV x.1), [])⟩
theorem cDecK_ok : ∀ k, CtrOk Proofs.Tryd.prog (cDecK k) := by
  intro k
  induction k with
  | zero =>
    rintro G w args ⟨(n : Int), ⟨⟩⟩ _ _ _ ⟨_, h1, _⟩
    exact absurd h1 (by decide)
  | succ k ih =>
   have hP := ((Prg.none ttok mtok).and ih)
   refine ctr_of_body hP (cDecK (k + 1)) (fn := Proofs.Tryd.f41) (rts := [.tmp 2]) Proofs.Tryd.func41 rfl (by kernel_rfl) rfl rfl ?_
   rintro ⟨(n : Int), ⟨⟩⟩ ⟨hn0, _⟩ ⟨h0, _, h1⟩
   try dsimp only [Ty.den, Mode.den, mdens] at h0
   try dsimp only [Ty.den, Mode.den, mdens] at _
   try dsimp only [Ty.den, Mode.den, mdens] at h1
   refine ⟨rfl, ?_⟩
   replace hn0 : inR .i64 n := hn0
   rw [inR_i64] at hn0
   replace h0 : 0 ≤ n := h0
   replace h1 : n < 10 ^ (k + 1) := h1
   rw [Int.pow_succ] at h1
   have hq : n.tdiv 10 = n / 10 := Int.tdiv_eq_ediv_of_nonneg h0
   have hr : n.tmod 10 = n % 10 := Int.tmod_eq_emod_of_nonneg h0
   have hlq : (itoaV (n.tdiv 10)).length ≤ 21 := itoaV_len (by rw [inR_i64]; omega)
   refine sw_seq (xr hP 1 rfl (sw_seq (sw_seq (xr hP 2 rfl (sw_cond rfl (fun c1 => ?_) (fun c1 => ?_))))))
   ·have h : n < -9223372036854775807 := of_decide_eq_true c1
    omega
   ·refine sw_skip (sw_seq (sw_seq (xr hP 3 rfl (sw_cond rfl (fun c3 => ?_) (fun c3 => ?_)))))
    ·have h : n < 0 := of_decide_eq_true c3
     omega
    ·refine sw_skip (sw_seq (sw_seq (xr hP 4 rfl (sw_cond rfl (fun c5 => ?_) (fun c5 => ?_)))))
     ·replace c5 : n < 10 := of_decide_eq_true c5
      refine sw_seq (xg hP 5 [] rfl ?_ ?_)
      ·simp only [cj, inR_u8, cl]
       try dsimp only [Ty.den, Ty.dflt]
       repeat' apply And.intro
       all_goals first | omega | trivial
      refine sw_ret ⟨.inl rfl, _, rfl, ?_⟩
      simp [conj, ofBytes]
      exact (itoaV_small h0 c5).symm
     ·replace c5 : ¬ n < 10 := of_decide_eq_false c5
      have hk : 1 ≤ k := by
        rcases k with _ | k
        · simp at h1; omega
        · omega
      refine sw_skip (sw_seq (xg hP 5 [] rfl ?_ ?_))
      ·simp only [cj, inR_u8, cl]
       try dsimp only [Ty.den, Ty.dflt]
       repeat' apply And.intro
       all_goals first | omega | (show 0 ≤ n.tdiv 10; omega) | (show n.tdiv 10 < 10 ^ k; omega) | (show _ ≤ n.tdiv 10; omega) | (show n.tdiv 10 ≤ _; omega) | (show _ ≤ 48 + n.tmod 10; omega) | (show 48 + n.tmod 10 ≤ _; omega) | trivial | exact hk | (show (itoaV (n.tdiv 10)).length + 1 ≤ 140737488355328; omega) | trace_state
      refine sw_ret ⟨.inl rfl, _, rfl, ?_⟩
      simp [conj, ofBytes]
      rw [itoaV_big h0 c5, hq, hr]
def cDec : Ctr := ⟨(cDecK 0).f, [.val false TI pF], fun x => 0 ≤ x.1, fun x => (sStr (itoaV x.1), [])⟩
theorem cDec_ok : CtrOk Proofs.Tryd.prog cDec := by
  rintro G w args ⟨(n : Int), ⟨⟩⟩ hb ha hargs h0
  have hn : inR .i64 n := by
    obtain ⟨v, vs, _, ⟨_, cs, _, _, ⟨_, hn⟩⟩, _⟩ := hargs
    exact hn
  rw [inR_i64] at hn
  exact cDecK_ok 19 G w args (n, ()) hb ha hargs ⟨h0, by decide, by show n < (10 : Int) ^ 19; rw [show (10 : Int) ^ 19 = 10000000000000000000 by decide]; omega⟩
def cLineS : Ctr := ⟨58, [.val true T_Ptr (.all .b)], fun x => ∃ d, ptrV d x.1 = true, fun x => (sStr (lineV x.1), [])⟩
theorem cLineS_ok : CtrOk Proofs.Tryd.prog cLineS := by
 have hP := ((Prg.none ttok mtok).and cDec_ok)
 refine ctr_of_body hP cLineS (fn := Proofs.Tryd.f58) (rts := [.tmp 2]) Proofs.Tryd.func58 rfl (by kernel_rfl) rfl rfl ?_
 rintro ⟨⟨(sz : Int), (sm : Int), (pl : List Plc)⟩, ⟨⟩⟩ ⟨⟨hz0, hm0, hpl0⟩, _⟩ ⟨d, hpre⟩
 try dsimp only [Ty.den, Mode.den, mdens] at d
 try dsimp only [Ty.den, Mode.den, mdens] at hpre
 refine ⟨rfl, ?_⟩
 replace hpre : ptrV d ((sz, sm, pl) : Ptr_) = true := hpre
 have hl4 : pl.length ≤ 4 := ptrV_len hpre
 have hi1 : (itoaV sz).length ≤ 21 := itoaV_len hz0
 have hi2 : (itoaV sm).length ≤ 21 := itoaV_len hm0
 refine sw_seq (xr hP 1 rfl (sw_seq (sw_seq (xr hP 2 rfl (sw_cond rfl (fun c1 => ?_) (fun c1 => ?_))))))
 ·replace c1 : sz = 0 := of_decide_eq_true c1
  have hnn : noneV ((sz, sm, pl) : Ptr_) = true := ptrV_none hpre c1
  refine sw_seq (xr hP 3 rfl (sw_ret ⟨.inl rfl, _, rfl, ?_⟩))
  simp [conj, lineV, hnn, bytesL]
  rfl
 ·replace c1 : ¬ sz = 0 := of_decide_eq_false c1
  have hnn : noneV ((sz, sm, pl) : Ptr_) = false := by simp [noneV, c1]
  obtain ⟨hp1, hp2, hp3⟩ := ptrV_pos hpre c1
  refine sw_skip (sw_seq (xg hP 3 [] rfl ?_ ?_))
  ·simp [conj, maxL, bytesL]
   repeat' apply And.intro
   all_goals first | omega | exact hp1 | exact hp2 | trivial
  refine sw_seq (sw_seq (xr hP 4 rfl (sw_block (sw_loop (ι := Nat × Str) (fun ⟨i, o⟩ => ⟨[.j, .v false [.ptr ⟨1, 0, 0⟩ 0], .j, sStr o, sInt .i64 (i : Int), .j, .j, .j, .j, .j, .j, .j, .j, .j, .j, .j, .j, .j, .j, .j, .j, .j, .j, .j, .j, .j, .j, .j, .j, .j, .j, .j, .j, .j, .j, .j, .j, .j, .j, .j, .j, .j, .j, .j, .j], [(⟨1, 0, 0⟩, .var [.d TI pF sz, .d TI pF sm, .d (.sl T_Place) (.all .b) pl])], 4, []⟩) (fun ⟨i, o⟩ => pl.length - i) (fun ⟨i, o⟩ => i ≤ pl.length ∧ o ++ catGo wordS (pl.drop i) = (Lib.join (wordsV ((sz, sm, pl) : Ptr_)) [32]) ∧ o.length ≤ 50 + i * 50) (0, tPtr ++ [32] ++ itoaV sz ++ [32] ++ itoaV sm) ⟨?_, ?_⟩ ?_))))
  ·exact ⟨Nat.zero_le _, words_join.symm, by simp [tPtr]; omega⟩
  ·refine ent_ok rfl ?_
   simp [conj, bytesL]
   rfl
  ·rintro ⟨i, o⟩ ⟨hi, hgo, hol⟩
   refine sw_seq (sw_seq (xr hP 5 rfl (sw_cond rfl (fun c5 => ?_) (fun c5 => ?_))))
   ·have hlt : i < pl.length := by simpa using c5
    have hin := hpl0.2 _ (List.getElem_mem hlt)
    have hpp := hp3 _ (List.getElem_mem hlt)
    have hi3 : (itoaV pl[i].1).length ≤ 21 := itoaV_len hin.1
    have hi4 : (itoaV pl[i].2).length ≤ 21 := itoaV_len hin.2
    refine sw_skip (sw_seq (sw_block (xg hP 6 [] rfl ?_ ?_)))
    ·simp [conj, maxL, bytesL, gE hlt]
     repeat' apply And.intro
     all_goals first | omega | exact hpp.1 | exact hpp.2 | trivial
    refine xr hP 7 rfl (⟨(i + 1, o ++ wordS pl[i]), ?_, ?_, ent_ok rfl ?_⟩)
    ·exact ⟨hlt, cat_next hlt hgo, by simp [wordS, wordV]; omega⟩
    ·show pl.length - (i + 1) < pl.length - i
     omega
    ·simp [conj, bytesL, wordS, wordV, gE hlt]
   ·obtain rfl : i = pl.length := by simp at c5; omega
    have hv := cat_end hgo
    subst hv
    refine sw_exit (sw_seq (xg hP 6 [] rfl ?_ ?_))
    ·simp [conj, maxL, bytesL]
     repeat' apply And.intro
     all_goals first | omega | trivial
    refine sw_ret ⟨.inl rfl, _, rfl, ?_⟩
    simp [conj, lineV, hnn, bytesL]
def cTextS : Ctr := ⟨40, [.val true T_Root (.all .b)], fun x => ∃ d, rootV d x.1 = true, fun x => (sStr (bodyV x.1), [])⟩
theorem cTextS_ok : CtrOk Proofs.Tryd.prog cTextS := by
 have hP := (((Prg.none ttok mtok).and cDec_ok).and cLineS_ok)
 refine ctr_of_body hP cTextS (fn := Proofs.Tryd.f40) (rts := [.tmp 2]) Proofs.Tryd.func40 rfl (by kernel_rfl) rfl rfl ?_
 rintro ⟨⟨(tg : Int), (l : List Vol_)⟩, ⟨⟩⟩ ⟨⟨ht0, hl0⟩, _⟩ ⟨d, hpre⟩
 try dsimp only [Ty.den, Mode.den, mdens] at d
 try dsimp only [Ty.den, Mode.den, mdens] at hpre
 refine ⟨rfl, ?_⟩
 replace hpre : rootV d ((tg, l) : Root_) = true := hpre
 have hs := rootV_small hpre
 have ht1 : 0 ≤ tg := rootV_txg hpre
 have hi1 : (itoaV tg).length ≤ 21 := itoaV_len ht0
 have hml : l.length ≤ 4 := hs.1
 refine sw_seq (xr hP 1 rfl (sw_seq (xg hP 2 [] rfl ?_ ?_)))
 ·simp [conj, maxL, bytesL]
  repeat' apply And.intro
  all_goals first | omega | exact ht1 | trivial
 refine sw_seq (sw_seq (xr hP 3 rfl (sw_block (sw_loop (ι := Nat × Str) (fun ⟨i, o⟩ => ⟨[.j, .v false [.ptr ⟨1, 0, 0⟩ 0], .j, sStr o, sInt .i64 (i : Int), .j, .j, .j, .j, .j, .j, .j, .j, .j, .j, .j, .j, .j, .j, .j, .j, .j, .j, .j, .j, .j, .j, .j, .j, .j, .j, .j, .j, .j, .j, .j, .j, .j, .j, .j, .j, .j, .j, .j, .j, .j, .j, .j, .j, .j, .j, .j], [(⟨1, 0, 0⟩, .var [.d TI pF tg, .d (.sl T_Vol) (.all .b) l])], 3, []⟩) (fun ⟨i, o⟩ => l.length - i) (fun ⟨i, o⟩ => i ≤ l.length ∧ o ++ catGo volT (l.drop i) = bodyV ((tg, l) : Root_) ∧ o.length ≤ 27 + i * 1000) (0, tRoot ++ itoaV tg ++ [10]) ⟨?_, ?_⟩ ?_))))
 ·exact ⟨Nat.zero_le _, rfl, by simp [tRoot]; omega⟩
 ·refine ent_ok rfl ?_
  simp [conj, bytesL]
  try rfl
 ·rintro ⟨i, o⟩ ⟨hi, hgo, hol⟩
  refine sw_seq (sw_seq (xr hP 4 rfl (sw_cond rfl (fun c3 => ?_) (fun c3 => ?_))))
  ·have hlt : i < l.length := by simpa using c3
   obtain ⟨hn3, hb3, hpv⟩ := hs.2 _ (List.getElem_mem hlt)
   refine sw_skip (sw_seq (sw_block (sw_seq (xg hP 5 [] rfl ?_ ?_))))
   ·simp [conj, maxL, bytesL, gE hlt]
    repeat' apply And.intro
    all_goals first | omega | trivial
   refine sw_seq (xr hP 6 rfl (sw_block (sw_loop (ι := Nat × Str) (fun ⟨j, o⟩ => ⟨[.j, .v false [.ptr ⟨1, 0, 0⟩ 0], .j, sStr o, sInt .i64 (i : Int), sInt .i64 (j : Int), .j, .j, .j, .j, .j, .j, .j, .j, .j, .j, .j, .j, .j, .j, .j, .j, .j, .j, .j, .j, .j, .j, .j, .j, .j, .j, .j, .j, .j, .j, .j, .j, .j, .j, .j, .j, .j, .j, .j, .j, .j, .j, .j, .j, .j, .j], [(⟨1, 0, 0⟩, .var [.d TI pF tg, .d (.sl T_Vol) (.all .b) l])], 6, []⟩) (fun ⟨j, o⟩ => l[i].2.length - j) (fun ⟨j, o⟩ => j ≤ l[i].2.length ∧ (o ++ catGo lineV (l[i].2.drop j)) ++ catGo volT (l.drop (i + 1)) = bodyV ((tg, l) : Root_) ∧ o.length ≤ 27 + i * 1000 + 8 + j * 300) (0, o ++ (tVol ++ l[i].1 ++ [10])) ⟨?_, ?_⟩ ?_)))
   ·exact ⟨Nat.zero_le _, vol_in hlt hgo, by simp [tVol]; omega⟩
   ·refine ent_ok rfl ?_
    simp [conj, bytesL, gE hlt]
    try rfl
   ·rintro ⟨j, o⟩ ⟨hj, hgo2, hol2⟩
    refine sw_seq (sw_seq (xg hP 7 [] rfl ?_ ?_))
    ·simp [conj, gE hlt]
     repeat' apply And.intro
     all_goals first | omega | trivial
    refine sw_cond rfl (fun c7 => ?_) (fun c7 => ?_)
    ·have hlj : j < l[i].2.length := by
       have h := c7
       simp [gE hlt] at h
       omega
     have hpj := hpv _ (List.getElem_mem hlj)
     obtain ⟨dd, hpd⟩ := hpj
     have hok := (hl0.2 _ (List.getElem_mem hlt)).2.2 _ (List.getElem_mem hlj)
     have hll := lineV_len' hok.1 hok.2.1 hok.2.2.2 hpd
     refine sw_skip (sw_seq (sw_block (xg hP 8 [] rfl ?_ ?_)))
     ·simp [conj, maxL, gE hlt, gE hlj]
      repeat' apply And.intro
      all_goals first | omega | exact ⟨dd, hpd⟩ | (have h : List.length (lineV l[i].2[j]) ≤ 300 := hll; show o.length + List.length (lineV l[i].2[j]) ≤ 140737488355328; omega) | trivial
     refine xr hP 9 rfl (⟨(j + 1, o ++ lineV l[i].2[j]), ?_, ?_, ent_ok rfl ?_⟩)
     ·exact ⟨hlj, vol_line hlj hgo2, by simp; omega⟩
     ·show l[i].2.length - (j + 1) < l[i].2.length - j
      omega
     ·simp [conj, gE hlt, gE hlj]
    ·obtain rfl : j = l[i].2.length := by
       have h := c7
       simp [gE hlt] at h
       omega
     refine sw_exit (xr hP 8 rfl (⟨(i + 1, o), ?_, ?_, ent_ok rfl ?_⟩))
     ·exact ⟨hlt, vol_out hgo2, by show o.length ≤ 27 + (i + 1) * 1000; omega⟩
     ·show l.length - (i + 1) < l.length - i
      omega
     ·simp [conj]
  ·obtain rfl : i = l.length := by simp at c3; omega
   have hv := cat_end hgo
   subst hv
   refine sw_exit (sw_seq (xr hP 5 rfl (sw_ret ⟨.inl rfl, _, rfl, ?_⟩)))
   simp [conj]
def cCheck : Ctr := ⟨42, [.val false .str pF], fun x => List.length x.1 ≤ 1000000, fun x => (sInt .i64 (weighV x.1), [])⟩
theorem cCheck_ok : CtrOk Proofs.Tryd.prog cCheck := by
 have hP := (Prg.none ttok mtok)
 refine ctr_of_body hP cCheck (fn := Proofs.Tryd.f42) (rts := [.tmp 2]) Proofs.Tryd.func42 rfl (by kernel_rfl) rfl rfl ?_
 rintro ⟨(s : Str), ⟨⟩⟩ _ hpre
 try dsimp only [Ty.den, Mode.den, mdens] at hpre
 refine ⟨rfl, ?_⟩
 replace hpre : s.length ≤ 1000000 := hpre
 refine sw_seq (xr hP 1 rfl (sw_seq (xr hP 2 rfl (sw_seq (sw_seq (xr hP 3 rfl (sw_block (sw_loop (ι := Nat × Int) (fun ⟨i, n⟩ => ⟨[sStr s, .j, .j, sInt .i64 n, sInt .i64 (i : Int), .j, .j, .j, .j, .j, .j, .j, .j, .j, .j, .j, .j, .j, .j, .j, .j, .j], [], 3, []⟩) (fun ⟨i, n⟩ => s.length - i) (fun ⟨i, n⟩ => i ≤ s.length ∧ n + weighGo (s.drop i) i = weighV s ∧ 0 ≤ n ∧ n ≤ (i : Int) * 300000000) (0, 0) ⟨?_, ?_⟩ ?_))))))))
 ·exact ⟨Nat.zero_le _, by simp [weighV], by decide, by decide⟩
 ·refine ent_ok rfl ?_
  simp [conj]
 ·rintro ⟨i, n⟩ ⟨hi, hgo, hn0, hn1⟩
  refine sw_seq (sw_seq (xr hP 4 rfl (sw_cond rfl (fun c3 => ?_) (fun c3 => ?_))))
  ·have hlt : i < s.length := by simpa using c3
   have hone := weigh_one (c := s[i]) (i := i) (by omega)
   refine sw_skip (sw_seq (sw_block (xg hP 5 [] rfl ?_ ?_)))
   ·simp [conj, gE hlt]
    have hu : s[i].toNat < 256 := s[i].toNat_lt
    repeat' apply And.intro
    all_goals omega
   refine xr hP 6 rfl (⟨(i + 1, n + (s[i].toNat : Int) * (65536 + (i : Int) + 1)), ?_, ?_, ent_ok rfl ?_⟩)
   ·exact ⟨hlt, weigh_next hlt hgo, by show 0 ≤ n + (s[i].toNat : Int) * (65536 + (i : Int) + 1); omega, by show n + (s[i].toNat : Int) * (65536 + (i : Int) + 1) ≤ ((i + 1 : Nat) : Int) * 300000000; omega⟩
   ·show s.length - (i + 1) < s.length - i
    omega
   ·simp [conj, gE hlt]
  ·obtain rfl : i = s.length := by simp at c3; omega
   have hv := weigh_end hgo
   refine sw_exit (sw_seq (xr hP 5 rfl (sw_ret ⟨.inl rfl, _, rfl, ?_⟩)))
   simp [conj, hv]
end Go.Sx

namespace Go.Sx
open Go
theorem keyPK (x y : Plc) : keyEq PK x y = decide (x = y) := by
 simp only [keyEq]
 refine Bool.eq_iff_iff.2 ?_
 simp only [Bool.and_eq_true, decide_eq_true_eq]
 exact ⟨fun h => Prod.ext h.1 h.2, fun h => by rw [h]; exact ⟨rfl, rfl⟩⟩
theorem mget_mset {m : List (Plc × Ptr_)} {a b : Plc} {p : Ptr_} : mget PK (mset PK m a p) b = if b = a then some p else mget PK m b := by
 induction m with
 | nil =>
  simp only [mset, mget]
  rw [keyPK]
  by_cases h : b = a <;> simp [h]
 | cons e m ih =>
  simp only [mset]
  rw [keyPK]
  by_cases h : a = e.1
  ·simp only [h, decide_true, cond_true, mget]
   rw [keyPK]
   by_cases h2 : b = e.1 <;> simp [h2]
  ·simp only [h, decide_false, cond_false, mget]
   rw [keyPK, ih]
   by_cases h2 : b = e.1
   ·have h3 : ¬ b = a := fun e2 => h (e2.symm.trans h2)
    simp [h2, h3]
    intro e2
    exact absurd e2.symm h
   ·simp [h2]
theorem own_iff : ∀ {l m : List (Plc × Ptr_)}, ownGo m l = true ↔ (∀ e ∈ l, ∀ q, mget PK m e.1 = some q → e.2 = q) ∧ ∀ e ∈ l, ∀ f ∈ l, e.1 = f.1 → e.2 = f.2 := by
 intro l
 induction l with
 | nil => intro m; simp [ownGo]
 | cons c r ih =>
  intro m
  obtain ⟨a, p⟩ := c
  simp only [ownGo, Bool.and_eq_true]
  rw [ih]
  constructor
  ·rintro ⟨h1, h2, h3⟩
   have ha : ∀ q, mget PK m a = some q → p = q := fun q hq => by rw [hq] at h1; simpa using h1
   have hp : ∀ e ∈ r, e.1 = a → e.2 = p := fun e he hea => h2 e he p (by rw [mget_mset, if_pos hea])
   refine ⟨fun e he q hq => ?_, fun e he f hf hef => ?_⟩
   ·rcases List.mem_cons.1 he with rfl | he
    ·exact ha q hq
    ·by_cases hea : e.1 = a
     ·rw [hp e he hea]; exact ha q (by rw [← hea]; exact hq)
     ·exact h2 e he q (by rw [mget_mset, if_neg hea]; exact hq)
   ·rcases List.mem_cons.1 he with rfl | he <;> rcases List.mem_cons.1 hf with rfl | hf
    ·rfl
    ·exact (hp f hf hef.symm).symm
    ·exact hp e he hef
    ·exact h3 e he f hf hef
  ·rintro ⟨h1, h2⟩
   refine ⟨?_, fun e he q hq => ?_, fun e he f hf => h2 e (List.mem_cons_of_mem _ he) f (List.mem_cons_of_mem _ hf)⟩
   ·cases hq : mget PK m a with
    | none => rfl
    | some q => have := h1 (a, p) List.mem_cons_self q hq; simpa using this
   ·rw [mget_mset] at hq
    by_cases hea : e.1 = a
    ·rw [if_pos hea] at hq
     cases hq
     exact h2 e (List.mem_cons_of_mem _ he) (a, p) List.mem_cons_self hea
    ·rw [if_neg hea] at hq
     exact h1 e (List.mem_cons_of_mem _ he) q hq
theorem mem_pairs {ps : List Ptr_} {e : Plc × Ptr_} : e ∈ pairsOf ps ↔ e.2 ∈ ps ∧ e.1 ∈ e.2.2.2 := by
 obtain ⟨a, p⟩ := e
 simp only [pairsOf, List.mem_flatMap, List.mem_map, Prod.mk.injEq]
 constructor
 ·rintro ⟨q, hq, b, hb, rfl, rfl⟩
  exact ⟨hq, hb⟩
 ·rintro ⟨h1, h2⟩
  exact ⟨p, h1, a, h2, rfl, rfl⟩
theorem meet_iff {p q : Ptr_} : meetV p q = true ↔ ∃ a, a ∈ p.2.2 ∧ a ∈ q.2.2 := by
 simp only [meetV, List.any_eq_true, decide_eq_true_eq]
 constructor
 ·rintro ⟨a, ha, b, hb, rfl⟩; exact ⟨a, ha, hb⟩
 ·rintro ⟨a, ha, hb⟩; exact ⟨a, ha, a, hb, rfl⟩
theorem own_meet {ps : List Ptr_} : ownGo [] (pairsOf ps) = true ↔ ∀ i (h : i < ps.length), ∀ q ∈ ps.take i, meetV ps[i] q = true → ps[i] = q := by
 rw [own_iff]
 constructor
 ·rintro ⟨_, h2⟩ i hi q hq hm
  obtain ⟨a, ha, hb⟩ := meet_iff.1 hm
  exact h2 (a, ps[i]) (mem_pairs.2 ⟨List.getElem_mem hi, ha⟩) (a, q) (mem_pairs.2 ⟨List.mem_of_mem_take hq, hb⟩) rfl
 ·intro h
  refine ⟨fun e _ q hq => by simp [mget] at hq, fun e he f hf hef => ?_⟩
  obtain ⟨e1, e2⟩ := mem_pairs.1 he
  obtain ⟨f1, f2⟩ := mem_pairs.1 hf
  obtain ⟨i, hi, hie⟩ := List.getElem_of_mem e1
  obtain ⟨k, hk, hkf⟩ := List.getElem_of_mem f1
  rw [← hie] at e2 ⊢
  rw [← hkf] at f2 ⊢
  rcases Nat.lt_trichotomy i k with hlt | rfl | hlt
  ·refine (h k hk ps[i] (List.mem_take_iff_getElem.2 ⟨i, by omega, rfl⟩) (meet_iff.2 ⟨f.1, f2, ?_⟩)).symm
   rw [← hef]; exact e2
  ·rfl
  ·refine h i hi ps[k] (List.mem_take_iff_getElem.2 ⟨k, by omega, rfl⟩) (meet_iff.2 ⟨e.1, e2, ?_⟩)
   rw [hef]; exact f2
theorem ptrV_W {d : Int} {p : Ptr_} (h : poolV d = true) : ptrV d p = ptrW d p := by
 unfold ptrV ptrW
 rw [h, Bool.true_and]
 by_cases h0 : p.1 = 0
 ·rw [if_pos h0]
  have h1 : sizeV d p = false := by simp [sizeV, inV, h0]
  rw [h1]
  simp [noneV, h0]
 ·rw [if_neg h0]
  simp [noneV, h0]
theorem volF_G {d : Int} {pre : List Vol_} {v : Vol_} : volF d pre v = (volG pre v && v.2.all (ptrV d)) := by
 simp only [volF, volG, Bool.and_assoc]
theorem chk_volF {d : Int} {l : List Vol_} : chk (volF d) l = true ↔ chk volG l = true ∧ ∀ p ∈ blksOf l, ptrV d p = true := by
 simp only [chk_iff, volF_G, Bool.and_eq_true, List.all_eq_true]
 constructor
 ·intro h
  refine ⟨fun i hi => (h i hi).1, fun p hp => ?_⟩
  obtain ⟨v, hv, hp⟩ := List.mem_flatMap.1 hp
  obtain ⟨i, hi, rfl⟩ := List.getElem_of_mem hv
  exact (h i hi).2 p hp
 ·rintro ⟨h1, h2⟩ i hi
  exact ⟨h1 i hi, fun p hp => h2 p (List.mem_flatMap.2 ⟨l[i], List.getElem_mem hi, hp⟩)⟩
theorem chk_ptrG {d : Int} {ps : List Ptr_} : chk (ptrG d) ps = true ↔ (∀ p ∈ ps, ptrW d p = true) ∧ ∀ i (h : i < ps.length), ∀ q ∈ ps.take i, meetV ps[i] q = true → ps[i] = q := by
 simp only [chk_iff, ptrG, Bool.and_eq_true]
 constructor
 ·intro h
  refine ⟨fun p hp => ?_, fun i hi q hq hm => ?_⟩
  ·obtain ⟨i, hi, rfl⟩ := List.getElem_of_mem hp
   exact (h i hi).1
  ·have h2 := (h i hi).2
   simp only [Bool.not_eq_true', List.any_eq_false, Bool.and_eq_true, not_and] at h2
   have := h2 q hq hm
   simpa using this
 ·rintro ⟨h1, h2⟩ i hi
  refine ⟨h1 _ (List.getElem_mem hi), ?_⟩
  simp only [Bool.not_eq_true', List.any_eq_false, Bool.and_eq_true, not_and]
  intro q hq hm
  have := h2 i hi q hq hm
  simpa using this
theorem rootV_S {d : Int} {r : Root_} : rootV d r = rootS d r := by
 unfold rootV rootS
 cases hp : poolV d with
 | false => rfl
 | true =>
  simp only [Bool.true_and]
  congr 1
  refine Bool.eq_iff_iff.2 ?_
  simp only [volsV, volsS, Bool.and_eq_true, chk_volF, chk_ptrG, own_meet, decide_eq_true_eq]
  have hw : (∀ p ∈ blksOf r.2, ptrV d p = true) ↔ ∀ p ∈ blksOf r.2, ptrW d p = true := by simp only [ptrV_W hp]
  rw [hw]
  constructor
  ·rintro ⟨⟨⟨a, b⟩, c⟩, e⟩; exact ⟨c, a, b, e⟩
  ·rintro ⟨c, a, b, e⟩; exact ⟨⟨⟨a, b⟩, c⟩, e⟩
theorem line_all {l : List Vol_} (h : ∀ v ∈ l, ∀ p ∈ v.2, inR .i64 p.1 ∧ inR .i64 p.2.1 ∧ ∀ a ∈ p.2.2, inR .i64 a.1 ∧ inR .i64 a.2) (hs : SmallR l) : ∀ v ∈ l, (volT v).length ≤ 1000 := by
 intro v hv
 obtain ⟨h1, h2, h3⟩ := hs.2 v hv
 have h4 := cat_len (f := lineV) (m := 300) (l := v.2) fun p hp => by
  obtain ⟨d, hd⟩ := h3 p hp
  obtain ⟨a, b, c⟩ := h v hv p hp
  exact lineV_len' a b c hd
 unfold volT
 simp only [List.length_append, List.length_cons, List.length_nil, tVol]
 rw [h2] at h4
 omega
theorem body_len {d tg : Int} {l : List Vol_} (h0 : inR .i64 tg) (h : ∀ v ∈ l, ∀ p ∈ v.2, inR .i64 p.1 ∧ inR .i64 p.2.1 ∧ ∀ a ∈ p.2.2, inR .i64 a.1 ∧ inR .i64 a.2) (hr : rootV d ((tg, l) : Root_) = true) : (bodyV ((tg, l) : Root_)).length ≤ 5000 := by
 have hs := rootV_small hr
 have h4 := cat_len (f := volT) (m := 1000) (l := l) (line_all h hs)
 have h5 : l.length ≤ 4 := hs.1
 have h6 := itoaV_len h0
 unfold bodyV
 simp only [List.length_append, List.length_cons, List.length_nil, tRoot]
 omega
end Go.Sx

namespace Go.Proofs
open Go.RowKit Go.Shelf
attribute [local go_sem] Oper.semAt_some
def volUp {α : Type} (f : Nat → α) (k : Nat) : List α := (List.range k).map f
theorem volUp_succ {α : Type} (f : Nat → α) (k : Nat) : volUp f (k + 1) = volUp f k ++ [f k] := by simp [volUp, List.range_succ]
theorem volUp_length {α : Type} (f : Nat → α) (k : Nat) : (volUp f k).length = k := by simp [volUp]
theorem vol_new (W : World) (v : Value) (t : TypeId) : (W.alloc (.cells #[v] t)).cell? ⟨W.heap.size, 0, none⟩ = some v ∧ (W.alloc (.cells #[v] t)).frozen? ⟨W.heap.size, 0, none⟩ = false := by
 have h : (W.alloc (.cells #[v] t)).heap[W.heap.size]? = some (.cells #[v] t (0, 0)) := World.alloc_heap_new W (.cells #[v] t)
 constructor
 ·rw [World.cell?, h]; rfl
 ·rw [World.frozen?, h]; rfl
theorem vol_cell {W : World} {a : Addr} {v : Value} (o : Obj) (h : W.cell? a = some v) : (W.alloc o).cell? a = some v := cell_kept h (World.grownBy_alloc W o none) (fun r e => by cases e)
theorem vol_frozen {W : World} {a : Addr} {v : Value} (o : Obj) (h : W.cell? a = some v) (hf : W.frozen? a = false) : (W.alloc o).frozen? a = false := (frozen_kept h (World.grownBy_alloc W o none) (fun r e => by cases e)).trans hf
abbrev volE (x : Nat × UInt8) : Array Value := #[.int .i64 ((x.1 : Int) + 1), .int .u8 (x.2.toNat : Int)]
set_option maxRecDepth 100000 in
set_option maxHeartbeats 1000000 in
theorem vol63_in (F : Fence) (n : Nat) (h8 : F.fn 63) (hro : F.round = none) (hn : 1 ≤ n) (l Bs n₀ : Nat) (s : ByteArray) (hreach : s.size ≤ 140737488355328) (hb : Bs < n₀) (J Jx : List (Nat × UInt8) → World → Prop)
  (hY : ∀ pre x W, J pre W → pre.length < s.size → YieldAt F (n - 1) Tryd.prog l (volE x) W fun e W' =>
   (e = .returned (.bool true) ∧ J (pre ++ [x]) W' ∧ Below n₀ W W') ∨ (e = .returned (.bool false) ∧ Jx (pre ++ [x]) W'))
  (W : World) (hBs : W.cell? ⟨Bs, 0, none⟩ = some (.string s)) (h0 : J [] W) :
  CallsIn F n Tryd.prog 63 #[.func (.yield l) #[] #[], .pointer (some ⟨Bs, 0, none⟩)] W fun e W' => (∃ v, e = .returned v) ∧
   ((∃ ys, ys = volUp (fun j => (j, s.data[j]?.getD 0)) s.size ∧ J ys W') ∨ (∃ pre, (∃ k, k ≤ s.size ∧ pre = volUp (fun j => (j, s.data[j]?.getD 0)) k) ∧ Jx pre W')) := by
 refine callsIn_of_wp Tryd.func63 rfl h8 ?_ hro
 simp only [Tryd.ntmps63, List.size_toArray, List.length_cons, List.length_nil, Nat.reduceAdd, Nat.reduceSub, Array.replicate_succ, Array.replicate_zero, List.push_toArray, List.append_toArray, List.nil_append, List.cons_append]
 gi_wp2
 gi_loopw [6] (fun i wr => ∃ k : Nat, k ≤ s.size ∧ i = .int .i64 k ∧ J (volUp (fun j => (j, s.data[j]?.getD 0)) k) wr ∧ Below n₀ W wr)
  (fun i _ => s.size - (intOf i).toNat)
 case atStart => exact ⟨0, Nat.zero_le _, rfl, h0, Below.refl _ _⟩
 case round =>
  obtain ⟨k, hk, rfl, hJs, hnx⟩ := hrel
  have hcx : wr.cell? ⟨Bs, 0, none⟩ = some (.string s) := (hnx.cell (p := ⟨Bs, 0, none⟩) hb).trans hBs
  by_cases hlt : k < s.size
  ·obtain ⟨fn, tmps, assign, body, hy, hR⟩ := hY _ (k, s.data[k]?.getD 0) wr hJs (by rw [volUp_length]; exact hlt)
   dsimp only [volE] at hy
   have e : s.data[k]?.getD 0 = s[k]'hlt := by
    have h : k < s.data.size := hlt
    rw [Array.getElem?_eq_getElem h]
    rfl
   rw [e] at hy
   gi_wp2
   refine hR.mono ?_
   rintro e W3 (⟨rfl, hJ3, hk3⟩ | ⟨rfl, hJx3⟩)
   ·gi_wp2
    go_roundw
    case rel => exact ⟨k + 1, by omega, by simp, by rw [volUp_succ]; exact hJ3, hnx.trans hk3⟩
    case measure => simp [intOf]; omega
   ·gi_wp2
    refine bodyPost_ret (results_none rfl _ _ _) rfl ?_
    exact ⟨⟨_, rfl⟩, .inr ⟨_, ⟨k + 1, by omega, (volUp_succ _ _).symm⟩, hJx3⟩⟩
  ·obtain rfl : k = s.size := by omega
   gi_wp2
   go_end0
   exact ⟨⟨_, rfl⟩, .inl ⟨_, rfl, hJs⟩⟩
theorem vol_stops (F : Fence) (n : Nat) (h8 : F.fn 63) (hro : F.round = none) (hn : 1 ≤ n) (Bs n₀ : Nat) (s : ByteArray) (hreach : s.size ≤ 140737488355328) (w : World) (hn₀ : n₀ ≤ w.heap.size) (hb : Bs < n₀) (hc : w.cell? ⟨Bs, 0, none⟩ = some (.string s)) :
  SeqStopsK F n Tryd.prog 63 #[.pointer (some ⟨Bs, 0, none⟩)] volE (Below n₀) (fun xs => xs = volUp (fun j => (j, s.data[j]?.getD 0)) s.size)
   (fun pre => ∃ k, k ≤ s.size ∧ pre = volUp (fun j => (j, s.data[j]?.getD 0)) k) s.size w := fun l J Jx W hW _ _ hY h0 =>
 vol63_in F n h8 hro hn l Bs n₀ s hreach hb J Jx hY W ((hW.cell (p := ⟨Bs, 0, none⟩) (Nat.lt_of_lt_of_le hb hn₀)).trans hc) h0
set_option maxRecDepth 100000 in
set_option maxHeartbeats 2000000 in
theorem vol49_in (F : Fence) (n : Nat) (h : F.fn 49) (hro : F.round = none) (s : ByteArray) (w : World) :
  CallsIn F n Tryd.prog 49 #[.string s] w fun e W' => e = .returned (.func (.func 63) #[] #[.pointer (some ⟨w.heap.size, 0, none⟩)]) ∧ W' = w.alloc (.cells #[.string s] 9) := by
 refine callsIn_of_wp Tryd.func49 rfl h ?_ hro
 simp only [Tryd.ntmps49, List.size_toArray, List.length_cons, List.length_nil, Nat.reduceAdd, Nat.reduceSub, Array.replicate_succ, Array.replicate_zero, List.push_toArray, List.append_toArray, List.nil_append, List.cons_append]
 gi_wp2
 go_ret
 exact ⟨rfl, rfl⟩
def volOk (s : ByteArray) : Bool := !(s.size == 0) && decide (s.size ≤ 3) && s.data.toList.all (fun c => decide (97 ≤ c.toNat) && decide (c.toNat ≤ 122))
def volP (c : UInt8) : Bool := decide (97 ≤ c.toNat) && decide (c.toNat ≤ 122)
def volA (pre : List (Nat × UInt8)) : Bool := pre.all (fun y => volP y.2)
theorem vol_take (s : ByteArray) (k : Nat) (hk : k ≤ s.size) : volA (volUp (fun j => (j, s.data[j]?.getD 0)) k) = (s.data.toList.take k).all volP := by
 have h : (volUp (fun j => (j, s.data[j]?.getD 0)) k).map (·.2) = s.data.toList.take k := by
  apply List.ext_getElem
  ·have : k ≤ s.data.size := hk
   simp [volUp]; omega
  ·intro i h1 h2
   have h3 : i < s.data.size := by rw [List.length_take, Array.length_toList] at h2; omega
   simp [volUp]
   rw [Array.getElem?_eq_getElem h3]; rfl
 rw [← h, List.all_map]; rfl
theorem vol_good {pre : List (Nat × UInt8)} {x : Nat × UInt8} (h : volA pre = true) (h1 : 97 ≤ (x.2.toNat : Int)) (h2 : (x.2.toNat : Int) ≤ 122) : volA (pre ++ [x]) = true := by
 unfold volA at *; rw [List.all_append, h]; simp [volP]; omega
theorem vol_bad {pre : List (Nat × UInt8)} {x : Nat × UInt8} (h : (x.2.toNat : Int) < 97 ∨ 122 < (x.2.toNat : Int)) : volA (pre ++ [x]) = false := by
 unfold volA; rw [List.all_append]; simp [volP]; omega
theorem vol_yes {s : ByteArray} (h0 : s.size ≠ 0) (h3 : s.size ≤ 3) (h : volA (volUp (fun j => (j, s.data[j]?.getD 0)) s.size) = true) : volOk s = true := by
 rw [vol_take s s.size (Nat.le_refl _)] at h
 rw [List.take_of_length_le (by simp)] at h
 unfold volOk
 rw [show (fun c : UInt8 => decide (97 ≤ c.toNat) && decide (c.toNat ≤ 122)) = volP from rfl, h]
 simp [h0, h3]
theorem vol_no {s : ByteArray} {pre : List (Nat × UInt8)} (hp : ∃ k, k ≤ s.size ∧ pre = volUp (fun j => (j, s.data[j]?.getD 0)) k) (h : volA pre = false) : volOk s = false := by
 obtain ⟨k, hk, rfl⟩ := hp
 rw [vol_take s k hk] at h
 unfold volOk
 rw [show (fun c : UInt8 => decide (97 ≤ c.toNat) && decide (c.toNat ≤ 122)) = volP from rfl]
 have : s.data.toList.all volP = false := by
  rw [← List.take_append_drop k s.data.toList, List.all_append, h]; rfl
 rw [this]; simp
end Go.Proofs

namespace Go.Proofs
open Go.RowKit Go.Shelf
attribute [local go_sem] Oper.semAt_some
abbrev WX := { x : Nat × UInt8 // x.1 < 1000000 }
abbrev weiE (x : WX) : Array Value := volE x.val
def weiF (s : ByteArray) (j : Nat) : WX := ⟨(min j 999999, s.data[j]?.getD 0), by show min j 999999 < 1000000; omega⟩
set_option maxRecDepth 100000 in
set_option maxHeartbeats 1000000 in
theorem weiB_in (F : Fence) (n : Nat) (h8 : F.fn 63) (hro : F.round = none) (hn : 1 ≤ n) (l Bs : Nat) (s : ByteArray) (hreach : s.size ≤ 1000000) (J Jx : List WX → World → Prop)
  (hY : ∀ pre x W, J pre W → pre.length < s.size → YieldAt F (n - 1) Tryd.prog l (weiE x) W fun e W' =>
   (e = .returned (.bool true) ∧ J (pre ++ [x]) W' ∧ W'.heap[Bs]? = W.heap[Bs]?) ∨ (e = .returned (.bool false) ∧ Jx (pre ++ [x]) W'))
  (W : World) (hBs : W.cell? ⟨Bs, 0, none⟩ = some (.string s)) (h0 : J [] W) :
  CallsIn F n Tryd.prog 63 #[.func (.yield l) #[] #[], .pointer (some ⟨Bs, 0, none⟩)] W fun e W' => (∃ v, e = .returned v) ∧
   ((∃ ys, ys = volUp (weiF s) s.size ∧ J ys W') ∨ (∃ pre, (∃ k, k ≤ s.size ∧ pre = volUp (weiF s) k) ∧ Jx pre W')) := by
 refine callsIn_of_wp Tryd.func63 rfl h8 ?_ hro
 simp only [Tryd.ntmps63, List.size_toArray, List.length_cons, List.length_nil, Nat.reduceAdd, Nat.reduceSub, Array.replicate_succ, Array.replicate_zero, List.push_toArray, List.append_toArray, List.nil_append, List.cons_append]
 gi_wp2
 gi_loopw [6] (fun i wr => ∃ k : Nat, k ≤ s.size ∧ i = .int .i64 k ∧ J (volUp (weiF s) k) wr ∧ wr.heap[Bs]? = W.heap[Bs]?)
  (fun i _ => s.size - (intOf i).toNat)
 case atStart => exact ⟨0, Nat.zero_le _, rfl, h0, rfl⟩
 case round =>
  obtain ⟨k, hk, rfl, hJs, hnx⟩ := hrel
  have hcx : wr.cell? ⟨Bs, 0, none⟩ = some (.string s) := by
   have : wr.cell? ⟨Bs, 0, none⟩ = W.cell? ⟨Bs, 0, none⟩ := by simp only [World.cell?, hnx]
   exact this.trans hBs
  by_cases hlt : k < s.size
  ·obtain ⟨fn, tmps, assign, body, hy, hR⟩ := hY _ (weiF s k) wr hJs (by rw [volUp_length]; exact hlt)
   dsimp only [weiE, volE, weiF] at hy
   rw [show min k 999999 = k by omega] at hy
   have e : s.data[k]?.getD 0 = s[k]'hlt := by
    have h : k < s.data.size := hlt
    rw [Array.getElem?_eq_getElem h]
    rfl
   rw [e] at hy
   gi_wp2
   refine hR.mono ?_
   rintro e W3 (⟨rfl, hJ3, hk3⟩ | ⟨rfl, hJx3⟩)
   ·gi_wp2
    go_roundw
    case rel => exact ⟨k + 1, by omega, by simp, by rw [volUp_succ]; exact hJ3, hk3.trans hnx⟩
    case measure => simp [intOf]; omega
   ·gi_wp2
    refine bodyPost_ret (results_none rfl _ _ _) rfl ?_
    exact ⟨⟨_, rfl⟩, .inr ⟨_, ⟨k + 1, by omega, (volUp_succ _ _).symm⟩, hJx3⟩⟩
  ·obtain rfl : k = s.size := by omega
   gi_wp2
   go_end0
   exact ⟨⟨_, rfl⟩, .inl ⟨_, rfl, hJs⟩⟩
theorem wei_stops (F : Fence) (n : Nat) (h8 : F.fn 63) (hro : F.round = none) (hn : 1 ≤ n) (Bs : Nat) (s : ByteArray) (hreach : s.size ≤ 1000000) (w : World) (hb : Bs < w.heap.size) (hc : w.cell? ⟨Bs, 0, none⟩ = some (.string s)) :
  SeqStopsK F n Tryd.prog 63 #[.pointer (some ⟨Bs, 0, none⟩)] weiE (fun W W' => W'.heap[Bs]? = W.heap[Bs]?) (fun xs => xs = volUp (weiF s) s.size)
   (fun pre => ∃ k, k ≤ s.size ∧ pre = volUp (weiF s) k) s.size w := fun l J Jx W hW _ _ hY h0 =>
 weiB_in F n h8 hro hn l Bs s hreach J Jx hY W ((hW.cell (p := ⟨Bs, 0, none⟩) hb).trans hc) h0
def weiS (pre : List WX) : Int := pre.foldl (fun a x => a + (x.val.2.toNat : Int) * (65536 + ((x.val.1 : Int) + 1))) 0
theorem weiS_add (pre : List WX) (x : WX) : weiS (pre ++ [x]) = weiS pre + (x.val.2.toNat : Int) * (65536 + ((x.val.1 : Int) + 1)) := by simp [weiS]
theorem wei_one (x : WX) : 0 ≤ (x.val.2.toNat : Int) * (65536 + ((x.val.1 : Int) + 1)) ∧ (x.val.2.toNat : Int) * (65536 + ((x.val.1 : Int) + 1)) ≤ 300000000 := by
 have h1 : x.val.2.toNat < 256 := x.val.2.toNat_lt
 have h2 := x.property
 refine ⟨Int.mul_nonneg (by omega) (by omega), ?_⟩
 have := Int.mul_le_mul (a := (x.val.2.toNat : Int)) (b := 65536 + ((x.val.1 : Int) + 1)) (c := 255) (d := 1065536) (by omega) (by omega) (by omega) (by omega)
 omega
theorem weiS_bd : ∀ (n : Nat) (pre : List WX), pre.length = n → 0 ≤ weiS pre ∧ weiS pre ≤ (pre.length : Int) * 300000000 := by
 intro n
 induction n with
 | zero => intro pre h; rw [List.eq_nil_of_length_eq_zero h]; simp [weiS]
 | succ n ih =>
  intro pre h
  have hne : pre ≠ [] := by rintro rfl; cases h
  obtain ⟨q, x, rfl⟩ : ∃ q x, pre = q ++ [x] := ⟨pre.dropLast, pre.getLast hne, (List.dropLast_concat_getLast hne).symm⟩
  have h1 := ih q (by simpa using h)
  have h2 := wei_one x
  rw [weiS_add]
  simp only [List.length_append, List.length_cons, List.length_nil]
  push_cast
  omega
def weiUp (s : ByteArray) (k : Nat) : List WX := volUp (weiF s) k
set_option maxRecDepth 100000 in
set_option maxHeartbeats 2000000 in
theorem wei_in (F : Fence) (n : Nat) (h41 : F.fn 28) (h53 : F.fn 49) (h55 : F.fn 63) (hro : F.round = none) (hn : 3 ≤ n) (s : ByteArray) (hreach : s.size ≤ 1000000) (w : World) :
  CallsIn F n Tryd.prog 28 #[.string s] w fun e W' => e = .returned (.int .i64 (weiS (weiUp s s.size))) ∧ Below w.heap.size w W' := by
 have h1 : 1 ≤ n := by omega
 refine callsIn_of_wp_marks Tryd.func28 rfl h41 ?_ hro
 simp only [Tryd.ntmps28, List.size_toArray, List.length_cons, List.length_nil, Nat.reduceAdd, Nat.reduceSub, Array.replicate_succ, Array.replicate_zero, List.push_toArray, List.append_toArray, List.nil_append, List.cons_append]
 gi_wp2_with (gi_at_call 49; refine (vol49_in F (n - 1) h53 hro _ _).mono ?_; rintro e w' ⟨rfl, rfl⟩)
 have c1 := vol_new w (.int .i64 0) 3
 have c2 := vol_new (w.alloc (.cells #[.int .i64 0] 3)) (.string s) 9
 simp only [World.size_alloc] at c2
 have hB0 : Below w.heap.size w ((w.alloc (.cells #[.int .i64 0] 3)).alloc (.cells #[.string s] 9)) := ((Below.refl _ w).alloc (Nat.le_refl _) _).alloc (by simp) _
 refine wpIn_rangeFunc_ownF hro h1 (gf := 63) (lb := #[.pointer (some ⟨w.heap.size + 1, 0, none⟩)]) rfl h55 (enters_of Tryd.func63 (by kernel_rfl) rfl)
  (wei_stops F (n - 1) h55 hro (by omega) (w.heap.size + 1) s hreach _ (by simp) c2.1) (fun h k => k.trans h) (fun W l o o' hl _ _ _ => World.putObj_heap_other (by simp at hl; omega)) (Below.refl _ _) (fun _ => rfl)
  (fun pre W => (W.cell? ⟨w.heap.size, 0, none⟩ = some (.int .i64 (weiS pre)) ∧ W.frozen? ⟨w.heap.size, 0, none⟩ = false) ∧ Below w.heap.size w W)
  (fun _ _ _ => False)
  (OwnFrom.and (Own.from (fun s A B row hs hg hr => ⟨cell_kept hs.1 hg hr, (frozen_kept hs.1 hg hr).trans hs.2⟩) _) (ownFrom_below (Nat.le_refl _) (by simp; omega)))
  (fun c => Own.from (fun s A B row hs hg hr => hs) _)
  ⟨⟨vol_cell _ c1.1, vol_frozen _ c1.1 c1.2⟩, hB0⟩
  (fun x => { tmps := #[.string s, undef, .int .i64 0, .pointer (some ⟨w.heap.size, 0, none⟩), .int .i64 ((x.val.1 : Int) + 1), .int .u8 (x.val.2.toNat : Int), .string s, .func (.func 63) #[] #[.pointer (some ⟨w.heap.size + 1, 0, none⟩)], .int .i64 ((x.val.1 : Int) + 1), .int .u8 (x.val.2.toNat : Int), undef, undef, undef, undef, undef, undef, undef, undef], defers := [] }) ?assign ?body ?done ?stop
 case assign =>
  intro l x W K hK
  gi_wp2
  exact hK
 case body =>
  rintro l pre x W ⟨⟨hcr, hfr⟩, hB⟩ hlt
  have hb := weiS_bd _ pre rfl
  have hb1 := wei_one x
  have hu : x.val.2.toNat < 256 := x.val.2.toNat_lt
  have hp := x.property
  gi_wp2
  exact ⟨KeepsOthers.setCell _ _ _, Below.heap_setCell _ _ _ _ (by show w.heap.size + 1 ≠ w.heap.size; omega), ⟨by rw [weiS_add]; exact World.cell?_setCell_same' _ _ _ (by rw [hcr]; rfl), by rw [World.frozen?_setCell]; exact hfr⟩, hB.setCell (p := ⟨w.heap.size, 0, none⟩) (by simp) _⟩
 case done =>
  rintro D ys W hD rfl ⟨⟨hcr, hfr⟩, hB⟩ hK
  gi_wp2
  refine ⟨by simp, .inl ⟨_, _, rfl, run_takeDeferred hK, ?_⟩⟩
  refine ⟨.int .i64 (weiS (weiUp s s.size)), ?_, rfl, hB.trans (belowK_b (w := w) (Nat.le_refl _) _ D _ _ (by simp at hD; omega) hK rfl rfl)⟩
  simp [results, Tryd.f28, go_sem, weiUp]
 case stop =>
  rintro D c pre W hD hpre h hK
  exact h.elim
end Go.Proofs

namespace Go.Proofs
def Tryd.lays156_ren : Go.Shelf.Ren := ⟨fun | 156 => 48 | 165 => 60 | 166 => 61 | 169 => 62 | 240 => 77 | 241 => 78 | 276 => 86 | 277 => 87 | n => n, fun | 31 => 33 | 9 => 9 | 3 => 3 | 4 => 4 | 0 => 0 | 20 => 20 | 72 => 98 | 76 => 102 | 70 => 96 | 37 => 92 | 75 => 101 | 127 => 118 | 164 => 126 | 5 => 5 | 80 => 43 | n => n, fun | n => n⟩
theorem Tryd.lays156 : Go.Proofs.Lays.n156 Tryd.prog Tryd.lays156_ren := {
 mixed := by kernel_rfl
 f156 := Tryd.func48.trans (congrArg some (by kernel_rfl))
 f165 := Tryd.func60.trans (congrArg some (by kernel_rfl))
 f166 := Tryd.func61.trans (congrArg some (by kernel_rfl))
 f169 := Tryd.func62.trans (congrArg some (by kernel_rfl))
 f240 := Tryd.func77.trans (congrArg some (by kernel_rfl))
 f241 := Tryd.func78.trans (congrArg some (by kernel_rfl))
 f276 := Tryd.func86.trans (congrArg some (by kernel_rfl))
 f277 := Tryd.func87.trans (congrArg some (by kernel_rfl))
 t0 := Tryd.underlying0
 a0 := Tryd.isAgg0
 z0 := Tryd.sizeOf0
 v0 := Tryd.zeroValue0
 t3 := Tryd.underlying3
 a3 := Tryd.isAgg3
 z3 := Tryd.sizeOf3
 v3 := Tryd.zeroValue3
 t4 := Tryd.underlying4
 a4 := Tryd.isAgg4
 z4 := Tryd.sizeOf4
 v4 := Tryd.zeroValue4
 t9 := Tryd.underlying9
 a9 := Tryd.isAgg9
 z9 := Tryd.sizeOf9
 v9 := Tryd.zeroValue9
 t20 := Tryd.underlying20
 a20 := Tryd.isAgg20
 z20 := Tryd.sizeOf20
 v20 := Tryd.zeroValue20
 t31 := Tryd.underlying33
 a31 := Tryd.isAgg33
 z31 := Tryd.sizeOf33
 v31 := Tryd.zeroValue33
 t37 := Tryd.underlying92
 a37 := Tryd.isAgg92
 z37 := Tryd.sizeOf92
 v37 := Tryd.zeroValue92
 t70 := Tryd.underlying96
 a70 := Tryd.isAgg96
 z70 := Tryd.sizeOf96
 v70 := Tryd.zeroValue96
 t72 := Tryd.underlying98
 a72 := Tryd.isAgg98
 z72 := Tryd.sizeOf98
 v72 := Tryd.zeroValue98
 t75 := Tryd.underlying101
 a75 := Tryd.isAgg101
 z75 := Tryd.sizeOf101
 v75 := Tryd.zeroValue101
 t76 := Tryd.underlying102
 a76 := Tryd.isAgg102
 z76 := Tryd.sizeOf102
 v76 := Tryd.zeroValue102
 t127 := Tryd.underlying118
 a127 := Tryd.isAgg118
 z127 := Tryd.sizeOf118
 v127 := Tryd.zeroValue118
 t164 := Tryd.underlying126
 a164 := Tryd.isAgg126
 z164 := Tryd.sizeOf126
 v164 := Tryd.zeroValue126 }
theorem Tryd.Builder_Extra_156 : Builder.Extra Tryd.prog Tryd.lays156_ren := {
 sizeBuilder := by kernel_rfl
 liesBuilder := by kernel_rfl
 t5 := Tryd.underlying5
 a5 := Tryd.isAgg5
 z5 := Tryd.sizeOf5
 v5 := Tryd.zeroValue5
 infoByte := by kernel_rfl
 cellsByte := by kernel_rfl
 sizeByte := by kernel_rfl
 neB5 := by decide }
open Go.RowKit in
theorem Tryd.strings_Join_none (a : Option Addr) (c : Nat) (sep : ByteArray) (w : World) :
  Calls Tryd.prog 48 #[.slice a 0 c, .string sep] w fun e w' => e = .returned (.string ⟨#[]⟩) ∧ w' = w := Any.strings_Join_none Tryd.lays156 Tryd.Builder_Extra_156 a c sep w
open Go.RowKit in
theorem Tryd.strings_Join (bk o c : Nat) (xs : List ByteArray) (sep : ByteArray) (w : World) (hcells : ∀ (j : Nat) x, xs[j]? = some x → w.cell? ⟨bk, o + j, none⟩ = some (.string x)) (hbk : bk < w.heap.size) (hN : xs.length ≤ 140737488355328) (hcap : xs.length ≤ c) (hlen : (Lib.join (xs.map (·.data.toList)) sep.data.toList).length ≤ 140737488355328) :
  Calls Tryd.prog 48 #[.slice (some ⟨bk, o, none⟩) xs.length c, .string sep] w fun e w' => e = .returned (.string ⟨(Lib.join (xs.map (·.data.toList)) sep.data.toList).toArray⟩) ∧ Below w.heap.size w w' := Any.strings_Join Tryd.lays156 Tryd.Builder_Extra_156 bk o c xs sep w hcells hbk hN hcap hlen
def Tryd.laysM171_ren : Go.Shelf.Ren := ⟨fun | 171 => 26 | 243 => 46 | 246 => 59 | 283 => 73 | 284 => 74 | 285 => 75 | 286 => 76 | 129 => 82 | 317 => 81 | 318 => 83 | 319 => 84 | 320 => 85 | 337 => 89 | 338 => 90 | n => n, fun | 3 => 3 | 9 => 9 | 2 => 2 | 4 => 4 | 171 => 112 | 0 => 0 | 53 => 113 | 37 => 92 | 5 => 5 | 173 => 116 | 212 => 121 | 51 => 122 | 20 => 20 | 213 => 123 | 46 => 124 | 232 => 132 | 233 => 133 | n => n, fun | 17 => 0 | 18 => 2 | 19 => 3 | n => n⟩
theorem Tryd.laysM171 : Go.Proofs.LaysM.n171 Tryd.prog Tryd.laysM171_ren := {
 mixed := by kernel_rfl
 f129 := Tryd.func82.trans (congrArg some (by kernel_rfl))
 f171 := Tryd.func26.trans (congrArg some (by kernel_rfl))
 f243 := Tryd.func46.trans (congrArg some (by kernel_rfl))
 f246 := Tryd.func59.trans (congrArg some (by kernel_rfl))
 f283 := Tryd.func73.trans (congrArg some (by kernel_rfl))
 f284 := Tryd.func74.trans (congrArg some (by kernel_rfl))
 f285 := Tryd.func75.trans (congrArg some (by kernel_rfl))
 f286 := Tryd.func76.trans (congrArg some (by kernel_rfl))
 f317 := Tryd.func81.trans (congrArg some (by kernel_rfl))
 f318 := Tryd.func83.trans (congrArg some (by kernel_rfl))
 f319 := Tryd.func84.trans (congrArg some (by kernel_rfl))
 f320 := Tryd.func85.trans (congrArg some (by kernel_rfl))
 f337 := Tryd.func89.trans (congrArg some (by kernel_rfl))
 f338 := Tryd.func90.trans (congrArg some (by kernel_rfl))
 t0 := Tryd.underlying0
 a0 := Tryd.isAgg0
 z0 := Tryd.sizeOf0
 v0 := Tryd.zeroValue0
 t2 := Tryd.underlying2
 a2 := Tryd.isAgg2
 z2 := Tryd.sizeOf2
 v2 := Tryd.zeroValue2
 t3 := Tryd.underlying3
 a3 := Tryd.isAgg3
 z3 := Tryd.sizeOf3
 v3 := Tryd.zeroValue3
 t4 := Tryd.underlying4
 a4 := Tryd.isAgg4
 z4 := Tryd.sizeOf4
 v4 := Tryd.zeroValue4
 t5 := Tryd.underlying5
 a5 := Tryd.isAgg5
 z5 := Tryd.sizeOf5
 v5 := Tryd.zeroValue5
 t9 := Tryd.underlying9
 a9 := Tryd.isAgg9
 z9 := Tryd.sizeOf9
 v9 := Tryd.zeroValue9
 t20 := Tryd.underlying20
 a20 := Tryd.isAgg20
 z20 := Tryd.sizeOf20
 v20 := Tryd.zeroValue20
 t37 := Tryd.underlying92
 a37 := Tryd.isAgg92
 z37 := Tryd.sizeOf92
 v37 := Tryd.zeroValue92
 t46 := Tryd.underlying124
 a46 := Tryd.isAgg124
 z46 := Tryd.sizeOf124
 v46 := Tryd.zeroValue124
 t51 := Tryd.underlying122
 a51 := Tryd.isAgg122
 z51 := Tryd.sizeOf122
 v51 := Tryd.zeroValue122
 t53 := Tryd.underlying113
 a53 := Tryd.isAgg113
 z53 := Tryd.sizeOf113
 v53 := Tryd.zeroValue113
 t171 := Tryd.underlying112
 a171 := Tryd.isAgg112
 z171 := Tryd.sizeOf112
 v171 := Tryd.zeroValue112
 t173 := Tryd.underlying116
 a173 := Tryd.isAgg116
 z173 := Tryd.sizeOf116
 v173 := Tryd.zeroValue116
 t212 := Tryd.underlying121
 a212 := Tryd.isAgg121
 z212 := Tryd.sizeOf121
 v212 := Tryd.zeroValue121
 t213 := Tryd.underlying123
 a213 := Tryd.isAgg123
 z213 := Tryd.sizeOf123
 t232 := Tryd.underlying132
 a232 := Tryd.isAgg132
 z232 := Tryd.sizeOf132
 v232 := Tryd.zeroValue132
 t233 := Tryd.underlying133
 a233 := Tryd.isAgg133
 z233 := Tryd.sizeOf133
 v233 := Tryd.zeroValue133
 g17 := by kernel_rfl
 g18 := by kernel_rfl
 g19 := by kernel_rfl
 i0 := by kernel_rfl
 i2 := by kernel_rfl
 i3 := by kernel_rfl
 i4 := by kernel_rfl
 i5 := by kernel_rfl
 i9 := by kernel_rfl
 i20 := by kernel_rfl
 i37 := by kernel_rfl
 i46 := by kernel_rfl
 i51 := by kernel_rfl
 i53 := by kernel_rfl
 i171 := by kernel_rfl
 i173 := by kernel_rfl
 i212 := by kernel_rfl
 i232 := by kernel_rfl
 i233 := by kernel_rfl
 m17 := by kernel_rfl
 m18 := by kernel_rfl
 m19 := by kernel_rfl }
open Go.RowKit Go.Sort Go.Lib in
theorem Tryd.strconv_Itoa (n : Int) (h0 : -9223372036854775808 ≤ n) (h1 : n ≤ 9223372036854775807) (w : World) (htab : Lib.TabIs Tryd.prog w "internal/strconv.uint64pow10" .u64 Lib.pow10Tab) :
  Calls Tryd.prog 26 #[.int .i64 n] w fun e w' => e = .returned (.string ⟨(Lib.itoa n).toArray⟩) ∧ ∃ k os, w' = grow (w.drewN k) os := Any.strconv_Itoa Tryd.laysM171 n h0 h1 w htab
end Go.Proofs

namespace Go.Sx
open Go
set_option maxRecDepth 100000
set_option linter.unusedVariables false
set_option linter.unusedSimpArgs false
set_option maxHeartbeats 2000000
def cPool : Ctr := ⟨13, [.val false TI pF], fun x => True, fun x => (sBool (poolV x.1), [])⟩
theorem cPool_ok : CtrOk Proofs.Tryd.prog cPool := by
 have hP := (Prg.none ttok mtok)
 refine ctr_of_body hP cPool (fn := Proofs.Tryd.f13) (rts := [.tmp 2]) Proofs.Tryd.func13 rfl (by kernel_rfl) rfl rfl ?_
 rintro ⟨(n : Int), ⟨⟩⟩ _ hpre
 try dsimp only [Ty.den, Mode.den, mdens] at hpre
 refine ⟨rfl, ?_⟩
 refine sw_seq (xr hP 1 rfl (sw_seq ?_))
 refine sw_dec hP 2 [] 2 rfl (fun g1_2 => ?_) (fun g1_2 => ?_)
 ·refine xd hP 2 [(2, true)] rfl (sw_ret ⟨.inl rfl, _, rfl, ?_⟩)
  simp [conj, poolV, inV] at *
  try omega
 ·refine xd hP 2 [(2, false)] rfl (sw_ret ⟨.inl rfl, _, rfl, ?_⟩)
  simp [conj, poolV, inV] at *
  try omega
def cNone : Ctr := ⟨47, [.val true T_Ptr (.all .b)], fun x => True, fun x => (sBool (noneV x.1), [])⟩
theorem cNone_ok : CtrOk Proofs.Tryd.prog cNone := by
 have hP := (Prg.none ttok mtok)
 refine ctr_of_body hP cNone (fn := Proofs.Tryd.f47) (rts := [.tmp 2]) Proofs.Tryd.func47 rfl (by kernel_rfl) rfl rfl ?_
 rintro ⟨⟨(sz : Int), (sm : Int), (pl : List Plc)⟩, ⟨⟩⟩ _ hpre
 try dsimp only [Ty.den, Mode.den, mdens] at hpre
 refine ⟨rfl, ?_⟩
 refine sw_seq (xr hP 1 rfl (sw_seq ?_))
 refine sw_dec hP 2 [] 3 rfl (fun g1_3 => ?_) (fun g1_3 => ?_)
 ·refine sw_dec hP 2 [(3, true)] 8 rfl (fun g1_8 => ?_) (fun g1_8 => ?_)
  ·refine xd hP 2 [(3, true), (8, true)] rfl (sw_ret ⟨.inl rfl, _, rfl, ?_⟩)
   simp [conj, noneV, *]
  ·refine xd hP 2 [(3, true), (8, false)] rfl (sw_ret ⟨.inl rfl, _, rfl, ?_⟩)
   simp [conj, noneV, *]
 ·refine xd hP 2 [(3, false)] rfl (sw_ret ⟨.inl rfl, _, rfl, ?_⟩)
  simp [conj, noneV, *]
end Go.Sx

namespace Go.Sx
open Go Go.RowKit
theorem ctr_of_below {P : Program} {c : Ctr} {fn : Func} {body : Code} (hf : P.funcs[c.f]? = some fn) (hb : fn.body = some body) (hn : (fn.name == "runtime.NumGoroutine") = false) (href : noRefs c.ins = true)
  (h : ∀ G w args x, (∀ b, G.g b ≠ .no → b < w.heap.size) → Amb P G.g w → ArgsOk G w 0 c.ins x args → c.pre x → Calls P c.f args.toArray w fun e w' => ∃ v, e = .returned v ∧ Below w.heap.size w w' ∧ (∀ G', MtS G' w' (c.post x).1 v) ∧ (c.post x).2 = []) : CtrOk P c := by
 intro G w args x hbnd ham hargs hpre
 have hrun : (callFunc c.f args.toArray).run P w = .ok (.enter c.f args.toArray) w := by
  have hn' : ¬ fn.name = "runtime.NumGoroutine" := by simpa using hn
  simp [callFunc, hf, hn', hb]
 refine ⟨_, _, hrun, .inr (.inl ⟨rfl, ?_⟩)⟩
 intro cs
 obtain ⟨e, w', fr, ⟨v, rfl, hB, hm, hp⟩, h1, h2, h3⟩ := h G w args x hbnd ham hargs hpre cs
 refine ⟨_, w', fr, ?_, h1, h2, h3⟩
 let G' : Gh := ⟨fun _ => .bool false, G.g⟩
 have hk : ∀ b, G.g b ≠ .no → w'.heap[b]? = w.heap[b]? := fun b hb => hB.block b (hbnd b hb)
 refine ⟨G', ⟨fun _ h => h.elim, ⟨fun b hb => ⟨hb, hk b (by rw [hb]; simp)⟩, fun b hb => ⟨hb, hk b (by rw [hb]; simp)⟩⟩, fun b j q hg _ => ⟨hg, hk b (by rw [hg]; simp)⟩, fun b hlt hb => ⟨hB.block b hlt, hb⟩, fun b hb => Nat.lt_of_lt_of_le (hbnd b hb) hB.size, fun _ _ => rfl, hB.os, hB.tape, hB.output, hB.size⟩, fun _ => rfl, ?_, hm G', ?_⟩
 ·rw [noRefs_ptr href]; intro p hp; cases hp
 ·rw [hp]; intro i R hi; cases hi
end Go.Sx

namespace Go.Sx
open Go Go.RowKit
theorem weighGo_app : ∀ (l : Str) (i : Nat) (c : UInt8), weighGo (l ++ [c]) i = weighGo l i + (c.toNat : Int) * (65536 + ((i + l.length : Nat) : Int) + 1) := by
 intro l
 induction l with
 | nil => intro i c; simp [weighGo]
 | cons a l ih =>
  intro i c
  simp only [List.cons_append, weighGo, ih, List.length_cons]
  rw [show i + 1 + l.length = i + (l.length + 1) by omega]
  omega
theorem weiS_weigh (l : Str) (hl : l.length ≤ 1000000) : ∀ k, k ≤ l.length → Proofs.weiS (Proofs.weiUp (mkS l) k) = weighGo (l.take k) 0 := by
 intro k
 induction k with
 | zero => intro _; rfl
 | succ k ih =>
  intro hk
  have hlt : k < l.length := hk
  rw [Proofs.weiUp, Proofs.volUp_succ, Proofs.weiS_add, List.take_succ_eq_append_getElem hlt, weighGo_app, ← ih (by omega)]
  have e1 : (Proofs.weiF (mkS l) k).val = (k, l[k]) := by
   show (min k 999999, (mkS l).data[k]?.getD 0) = _
   have : (mkS l).data[k]? = some l[k] := by simp [mkS, hlt]
   rw [this]
   simp
   omega
  rw [e1, List.length_take]
  simp only
  rw [show ((0 + min k l.length : Nat) : Int) = (k : Int) by omega]
  rw [Proofs.weiUp]
  congr 1
def cWeigh : Ctr := ⟨28, [.val false .str pF], fun x => List.length x.1 ≤ 1000000, fun x => (sInt .i64 (weighV x.1), [])⟩
theorem weighV_bd {s : Str} (h : s.length ≤ 1000000) : 0 ≤ weighV s ∧ weighV s ≤ (s.length : Int) * 300000000 := by
 have h1 := weiS_weigh s h s.length (Nat.le_refl _)
 rw [List.take_length] at h1
 have h2 := Proofs.weiS_bd _ (Proofs.weiUp (mkS s) s.length) rfl
 rw [h1] at h2
 rw [show (Proofs.weiUp (mkS s) s.length).length = s.length from Proofs.volUp_length _ _] at h2
 exact h2
theorem cWeigh_ok : CtrOk Proofs.Tryd.prog cWeigh := by
 refine ctr_of_below (fn := Proofs.Tryd.f28) Proofs.Tryd.func28 rfl rfl rfl ?_
 rintro G w args ⟨(s : Str), ⟨⟩⟩ _ _ ⟨v, vs, rfl, ⟨_, cs, rfl, _, ⟨rfl, hl⟩⟩, rfl⟩ hpre
 replace hpre : s.length ≤ 1000000 := hpre
 have h := Proofs.wei_in Fence.wide 3 trivial trivial trivial rfl (Nat.le_refl _) (mkS s) (by exact hpre) w
 refine (callsIn_wide.1 h).mono ?_
 rintro e w' ⟨rfl, hB⟩
 refine ⟨_, rfl, hB, fun G' => ?_, rfl⟩
 rw [show (mkS s).size = s.length from rfl, weiS_weigh s hpre _ (Nat.le_refl _), List.take_length]
 have := weighV_bd hpre
 show MtS G' w' (sInt .i64 (weighV s)) (.int .i64 (weighV s))
 exact .ofInt (by rw [inR_i64]; omega)
theorem grown_below (w : World) (k : Nat) (os : Array Obj) : Below w.heap.size w (Sort.grow (w.drewN k) os) :=
 ⟨rfl, rfl, rfl, by show w.heap.size ≤ (w.heap ++ os).size; rw [Array.size_append]; omega, fun j hj => by
  show (w.heap ++ os)[j]? = w.heap[j]?
  exact Array.getElem?_append_left hj⟩
def cItoa : Ctr := ⟨26, [.val false TI pF], fun _ => True, fun x => (sStr (itoaV x.1), [])⟩
theorem cItoa_ok : CtrOk Proofs.Tryd.prog cItoa := by
 refine ctr_of_below (fn := Proofs.Tryd.f26) Proofs.Tryd.func26 rfl rfl rfl ?_
 rintro G w args ⟨(n : Int), ⟨⟩⟩ _ ham ⟨v, vs, rfl, ⟨_, cs, rfl, _, ⟨rfl, hn⟩⟩, rfl⟩ _
 rw [inR_i64] at hn
 have htab : Lib.TabIs Proofs.Tryd.prog w "internal/strconv.uint64pow10" .u64 Lib.pow10Tab := by
  unfold Lib.TabIs World.var?
  cases hg : Proofs.Tryd.prog.globalNamed "internal/strconv.uint64pow10" with
  | none =>
   have h0 : (Proofs.Tryd.prog.globalNamed "internal/strconv.uint64pow10").isSome = true := by kernel_rfl
   rw [hg] at h0
   cases h0
  | some b =>
   obtain ⟨_, C, t, fz, h2, h3⟩ := ham.1 _ _ (List.mem_cons_self ..) b hg
   simp only [Option.bind_some, h2, Option.some.injEq]
   apply Array.ext'
   rw [h3]
   rfl
 refine (Proofs.Tryd.strconv_Itoa n hn.1 hn.2 w htab).mono ?_
 rintro e w' ⟨rfl, k, os, rfl⟩
 refine ⟨_, rfl, grown_below w k os, fun G' => ?_, rfl⟩
 refine .of1 rfl ⟨rfl, rfl, ?_⟩
 have := Lib.itoa_length_le n hn.1 hn.2
 show (Lib.itoa n).length ≤ maxL
 unfold maxL; omega
def cJoin : Ctr := ⟨48, [.val false (.sl .str) (.all .b), .val false .str pF], fun x => List.length (Lib.join x.1 x.2.1) ≤ 1000000, fun x => (sStr (Lib.join x.1 x.2.1), [])⟩
theorem join_mk (l : List Str) (s : Str) : (⟨(Lib.join ((l.map mkS).map (·.data.toList)) (mkS s).data.toList).toArray⟩ : ByteArray) = mkS (Lib.join l s) := by
 have h : (l.map mkS).map (·.data.toList) = l := by
  rw [List.map_map]
  exact (List.map_congr_left (fun x _ => rfl)).trans (List.map_id l)
 rw [h]
 rfl
theorem cJoin_ok : CtrOk Proofs.Tryd.prog cJoin := by
 refine ctr_of_below (fn := Proofs.Tryd.f48) Proofs.Tryd.func48 rfl rfl rfl ?_
 rintro G w args ⟨(l : List Str), (s : Str), ⟨⟩⟩ hbnd ham ⟨v, vs, rfl, ⟨_, cs, rfl, _, ⟨A, n, c, rfl, hn, hc, hm, _, hblk⟩⟩, v2, vs2, rfl, ⟨_, cs2, rfl, _, ⟨rfl, hl2⟩⟩, rfl⟩ hpre
 replace hpre : (Lib.join l s).length ≤ 1000000 := hpre
 replace hn : n = l.length := hn
 subst hn
 have fin : ∀ G' w', MtS G' w' (sStr (Lib.join l s)) (.string (mkS (Lib.join l s))) := fun G' w' => .of1 rfl ⟨rfl, rfl, by show (Lib.join l s).length ≤ maxL; unfold maxL; omega⟩
 rcases hblk with ⟨_, hz⟩ | ⟨b, off, C, t, fz, rfl, hlab, hh, hs, _, hj⟩
 ·have h0 : l = [] := List.eq_nil_of_length_eq_zero (by omega)
  subst h0
  refine (Proofs.Tryd.strings_Join_none A c (mkS s) w).mono ?_
  rintro e w' ⟨rfl, rfl⟩
  exact ⟨_, rfl, Below.refl _ _, fun G' => fin G' _, rfl⟩
 ·have hb : b < w.heap.size := hbnd b (by rcases hlab with h | h <;> (rw [h]; simp))
  have := Proofs.Tryd.strings_Join b off c (l.map mkS) (mkS s) w (fun j x hx => by
   rw [List.getElem?_map, Option.map_eq_some_iff] at hx
   obtain ⟨y, hy, rfl⟩ := hx
   have h1 := (hj j y hy).1
   have h2 : (cellsAt C (off + j * 1) 1)[0]? = some (.string (mkS y)) := by
    rw [show (Ty.str).size = 1 from rfl] at h1
    rw [h1]; rfl
   have h3 := cellsAt_get h2
   rw [cell_of_heap hh (o := off) j]
   rw [show off + j * 1 + 0 = off + j by omega] at h3
   exact h3) hb (by rw [List.length_map]; exact hm) (by rw [List.length_map]; exact hc) (by
   have h := congrArg (fun b : ByteArray => b.data.toList.length) (join_mk l s)
   simp only [mkS] at h
   refine Nat.le_trans (Nat.le_of_eq ?_) (Nat.le_trans hpre (by omega))
   simpa [mkS] using h)
  rw [List.length_map] at this
  refine this.mono ?_
  rintro e w' ⟨rfl, hB⟩
  exact ⟨_, rfl, hB, fun G' => by rw [join_mk]; exact fin G' _, rfl⟩
end Go.Sx

namespace Go.Sx
open Go
set_option maxRecDepth 100000
set_option linter.unusedVariables false
set_option linter.unusedSimpArgs false
set_option maxHeartbeats 2000000
def cRootTextS : Ctr := ⟨23, [.val false TI pF, .val true T_Root (.all .b)], fun x => True, fun x => (sStr (rootT x.1 x.2.1), [])⟩
theorem cRootTextS_ok : CtrOk Proofs.Tryd.prog cRootTextS := by
 have hP := (((((Prg.none ttok mtok).and cRootOkS_ok).and cTextS_ok).and cCheck_ok).and cDec_ok)
 refine ctr_of_body hP cRootTextS (fn := Proofs.Tryd.f23) (rts := [.tmp 4]) Proofs.Tryd.func23 rfl (by kernel_rfl) rfl rfl ?_
 rintro ⟨(d : Int), ⟨(tg : Int), (l : List Vol_)⟩, ⟨⟩⟩ ⟨_, ⟨ht0, hl0⟩, _⟩ _
 try dsimp only [Ty.den, Mode.den, mdens] at _
 refine ⟨rfl, ?_⟩
 refine sw_seq (xr hP 1 rfl (sw_seq (sw_seq (xg hP 2 [] rfl ?_ ?_))))
 ·simp only [cj, cl]
  try dsimp only [Ty.den, Ty.dflt]
  repeat' apply And.intro
  all_goals first | trivial | assumption | omega | exact decide_eq_true ‹_› | exact decide_eq_false ‹_› | (simp [*]; done)
 refine sw_cond rfl (fun c1 => ?_) (fun c1 => ?_)
 ·replace c1 : rootV d ((tg, l) : Root_) = false := by have h : (!rootS d ((tg, l) : Root_)) = true := c1; rw [← rootV_S] at h; simpa using h
  refine sw_seq (xr hP 3 rfl (sw_ret ⟨.inl rfl, _, rfl, ?_⟩))
  simp [conj, rootT, c1, bytesL]
  try (simp [sealV]; rfl)
 ·replace c1 : rootV d ((tg, l) : Root_) = true := by have h : (!rootS d ((tg, l) : Root_)) = false := c1; rw [← rootV_S] at h; simpa using h
  have hbl : (bodyV ((tg, l) : Root_)).length ≤ 5000 := body_len ht0 (fun v hv p hp => by have h := (hl0.2 v hv).2.2 p hp; exact ⟨h.1, h.2.1, h.2.2.2⟩) c1
  have hw := weighV_bd (s := (bodyV ((tg, l) : Root_))) (by omega)
  have hi2 : (itoaV (weighV (bodyV ((tg, l) : Root_)))).length ≤ 21 := itoaV_len (by rw [inR_i64]; omega)
  refine sw_skip (sw_seq (xg hP 3 [] rfl ?_ ?_))
  ·simp [conj]
   exact ⟨d, c1⟩
  refine sw_seq (xg hP 4 [] rfl ?_ ?_)
  ·simp [conj, maxL, bytesL]
   repeat' apply And.intro
   all_goals first | omega | exact hw.1 | (show List.length (bodyV ((tg, l) : Root_)) ≤ 1000000; omega) | trivial
  refine sw_ret ⟨.inl rfl, _, rfl, ?_⟩
  simp [conj, rootT, c1, bytesL]
  try (simp [sealV]; rfl)
end Go.Sx

namespace Go.Sx
open Go
set_option maxRecDepth 100000
set_option linter.unusedVariables false
set_option linter.unusedSimpArgs false
set_option maxHeartbeats 2000000
def cLine : Ctr := ⟨27, [.val true T_Ptr (.all .b)], fun x => ∃ d, ptrV d x.1 = true, fun x => (sStr (lineV x.1), [])⟩
theorem cLine_ok : CtrOk Proofs.Tryd.prog cLine := by
 have hP := ((((Prg.none ttok mtok).and cNone_ok).and cItoa_ok).and cJoin_ok)
 refine ctr_of_body hP cLine (fn := Proofs.Tryd.f27) (rts := [.tmp 2]) Proofs.Tryd.func27 rfl (by kernel_rfl) rfl rfl ?_
 rintro ⟨⟨(sz : Int), (sm : Int), (pl : List Plc)⟩, ⟨⟩⟩ ⟨⟨hz0, hm0, hpl0⟩, _⟩ ⟨d, hpre⟩
 try dsimp only [Ty.den, Mode.den, mdens] at d
 try dsimp only [Ty.den, Mode.den, mdens] at hpre
 refine ⟨rfl, ?_⟩
 replace hpre : ptrV d ((sz, sm, pl) : Ptr_) = true := hpre
 have hl4 : pl.length ≤ 4 := ptrV_len hpre
 have hi1 : (itoaV sz).length ≤ 21 := itoaV_len hz0
 have hi2 : (itoaV sm).length ≤ 21 := itoaV_len hm0
 refine sw_seq (xr hP 1 rfl (sw_seq (sw_seq (xg hP 2 [] rfl ?_ ?_))))
 ·simp only [cj, cl]
  try dsimp only [Ty.den, Ty.dflt]
  repeat' apply And.intro
  all_goals first | trivial | assumption | omega | exact decide_eq_true ‹_› | exact decide_eq_false ‹_› | (simp [*]; done)
 refine sw_cond rfl (fun c1 => ?_) (fun c1 => ?_)
 ·replace c1 : noneV ((sz, sm, pl) : Ptr_) = true := c1
  refine sw_seq (xr hP 3 rfl (sw_ret ⟨.inl rfl, _, rfl, ?_⟩))
  simp [conj, lineV, c1]
  try rfl
 ·replace c1 : noneV ((sz, sm, pl) : Ptr_) = false := c1
  have hjl : (Lib.join (wordsV ((sz, sm, pl) : Ptr_)) [32]).length ≤ 290 := join_len hz0 hm0 hpl0.2 hl4
  refine sw_skip (sw_seq (xg hP 3 [] rfl ?_ ?_))
  ·simp only [cj, cl]
   try dsimp only [Ty.den, Ty.dflt]
   repeat' apply And.intro
   all_goals first | trivial | assumption | omega | exact decide_eq_true ‹_› | exact decide_eq_false ‹_› | (simp [*]; done)
  refine sw_seq (sw_seq (xr hP 4 rfl (sw_block (sw_loop (ι := Nat) (fun i => ⟨[.j, .v false [.ptr ⟨1, 0, 0⟩ 0], .j, .v false [.own ⟨0, 9, 0⟩], .j, .j, .j, .j, .j, .j, .j, .j, .j, .j, .j, .j, .v false [.d (.sl T_Place) (.all .b) pl], sInt .i64 (pl.length : Int), sInt .i64 (i : Int), .j, .j, .j, .j, .j, .j, .j, .j, .j, .j, .j, .j, .j, .j, .j, .j, .j, .j], [(⟨1, 0, 0⟩, .var [.d TI pF sz, .d TI pF sm, .d (.sl T_Place) (.all .b) pl]), (⟨0, 9, 0⟩, .sl .str pF ([tPtr, itoaV sz, itoaV sm] ++ (pl.take i).map wordV))], 4, []⟩) (fun i => pl.length - i) (fun i => i ≤ pl.length) 0 ⟨?_, ?_⟩ ?_))))
  ·exact Nat.zero_le _
  ·refine ent_ok rfl ?_
   simp [conj, bytesL]
   try rfl
  ·rintro i hi
   refine sw_seq (xr hP 5 rfl (sw_seq (sw_cond rfl (fun c5 => ?_) (fun c5 => ?_))))
   ·have hlt : i < pl.length := by simpa using c5
    have hin := hpl0.2 _ (List.getElem_mem hlt)
    have hi3 : (itoaV pl[i].1).length ≤ 21 := itoaV_len hin.1
    have hi4 : (itoaV pl[i].2).length ≤ 21 := itoaV_len hin.2
    refine sw_skip (sw_seq (sw_block (sw_seq (xg hP 6 [] rfl ?_ ?_))))
    ·simp [conj, gE hlt]
     exact hlt
    refine xg hP 7 [] rfl ?_ ?_
    ·simp [conj, maxL, bytesL, gE hlt]
     repeat' apply And.intro
     all_goals first | omega | trivial
    refine xr hP 8 rfl (⟨i + 1, ?_, ?_, ent_ok rfl ?_⟩)
    ·exact hlt
    ·omega
    ·simp [conj, bytesL, gE hlt]
     exact words_next hlt
   ·obtain rfl : i = pl.length := by simp at c5; omega
    refine sw_exit (sw_seq (xg hP 6 [] rfl ?_ ?_))
    ·simp [conj, maxL, bytesL]
     exact ⟨by show (Lib.join (wordsV ((sz, sm, pl) : Ptr_)) [32]).length ≤ 1000000; omega, by show (Lib.join (wordsV ((sz, sm, pl) : Ptr_)) [32]).length ≤ _; omega⟩
    refine sw_ret ⟨.inl rfl, _, rfl, ?_⟩
    simp [conj, lineV, c1]
    try rfl
def cText_ : Ctr := ⟨15, [.val true T_Root (.all .b)], fun x => ∃ d, rootV d x.1 = true, fun x => (sStr (sealV (bodyV x.1)), [])⟩
theorem cText__ok : CtrOk Proofs.Tryd.prog cText_ := by
 have hP := ((((Prg.none ttok mtok).and cItoa_ok).and cLine_ok).and cWeigh_ok)
 refine ctr_of_body hP cText_ (fn := Proofs.Tryd.f15) (rts := [.tmp 2]) Proofs.Tryd.func15 rfl (by kernel_rfl) rfl rfl ?_
 rintro ⟨⟨(tg : Int), (l : List Vol_)⟩, ⟨⟩⟩ ⟨⟨ht0, hl0⟩, _⟩ ⟨d, hpre⟩
 try dsimp only [Ty.den, Mode.den, mdens] at d
 try dsimp only [Ty.den, Mode.den, mdens] at hpre
 refine ⟨rfl, ?_⟩
 replace hpre : rootV d ((tg, l) : Root_) = true := hpre
 have hs := rootV_small hpre
 have hb := hs.1
 have hi1 : (itoaV tg).length ≤ 21 := itoaV_len ht0
 have hml : l.length ≤ 4 := hs.1
 refine sw_seq (xr hP 1 rfl (sw_seq (xg hP 2 [] rfl ?_ ?_)))
 ·simp [conj, maxL, bytesL]
  repeat' apply And.intro
  all_goals first | omega | trivial
 refine sw_seq (sw_seq (xr hP 3 rfl (sw_block (sw_loop (ι := Nat × Str) (fun ⟨i, o⟩ => ⟨[.j, .v false [.ptr ⟨1, 0, 0⟩ 0], .j, sStr o, .j, .j, .j, .j, .j, .j, .j, .j, .j, .j, .v false [.d (.sl T_Vol) (.all .b) l], sInt .i64 (l.length : Int), sInt .i64 (i : Int), .j, .j, .j, .j, .j, .j, .j, .j, .j, .j, .j, .j, .j, .j, .j, .j, .j, .j, .j, .j, .j, .j, .j, .j, .j, .j, .j, .j, .j], [(⟨1, 0, 0⟩, .var [.d TI pF tg, .d (.sl T_Vol) (.all .b) l])], 3, []⟩) (fun ⟨i, o⟩ => l.length - i) (fun ⟨i, o⟩ => i ≤ l.length ∧ o ++ catGo volT (l.drop i) = bodyV ((tg, l) : Root_) ∧ o.length ≤ 27 + i * 1000) (0, tRoot ++ itoaV tg ++ [10]) ⟨?_, ?_⟩ ?_))))
 ·exact ⟨Nat.zero_le _, rfl, by simp [tRoot]; omega⟩
 ·refine ent_ok rfl ?_
  simp [conj, bytesL]
  try rfl
 ·rintro ⟨i, o⟩ ⟨hi, hgo, hol⟩
  refine sw_seq (xr hP 4 rfl (sw_seq (sw_cond rfl (fun c3 => ?_) (fun c3 => ?_))))
  ·have hlt : i < l.length := by simpa using c3
   obtain ⟨hn3, hb3, hpv⟩ := hs.2 _ (List.getElem_mem hlt)
   refine sw_skip (sw_seq (sw_block (sw_seq (xg hP 5 [] rfl ?_ ?_))))
   ·simp [conj, gE hlt]
    exact hlt
   refine sw_seq (xg hP 6 [] rfl ?_ ?_)
   ·simp [conj, maxL, bytesL, gE hlt]
    repeat' apply And.intro
    all_goals first | omega | trivial
   refine sw_seq (xr hP 7 rfl (sw_block (sw_loop (ι := Nat × Str) (fun ⟨j, o⟩ => ⟨[.j, .v false [.ptr ⟨1, 0, 0⟩ 0], .j, sStr o, .j, .v false [.ptr ⟨0, 9, 2⟩ 0], .j, .j, .j, .j, .j, .j, .j, .j, .v false [.d (.sl T_Vol) (.all .b) l], sInt .i64 (l.length : Int), sInt .i64 (i : Int), .j, .j, .j, .j, .j, .j, .j, .j, .j, .j, .v false [.d (.sl T_Ptr) (.all .b) l[i].2], sInt .i64 (l[i].2.length : Int), sInt .i64 (j : Int), .j, .j, .j, .j, .j, .j, .j, .j, .j, .j, .j, .j, .j, .j, .j, .j], [(⟨1, 0, 0⟩, .var [.d TI pF tg, .d (.sl T_Vol) (.all .b) l]), (⟨0, 9, 2⟩, .var [.d .str pF l[i].1, .d (.sl T_Ptr) (.all .b) l[i].2])], 7, []⟩) (fun ⟨j, o⟩ => l[i].2.length - j) (fun ⟨j, o⟩ => j ≤ l[i].2.length ∧ (o ++ catGo lineV (l[i].2.drop j)) ++ catGo volT (l.drop (i + 1)) = bodyV ((tg, l) : Root_) ∧ o.length ≤ 27 + i * 1000 + 8 + j * 300) (0, o ++ (tVol ++ l[i].1 ++ [10])) ⟨?_, ?_⟩ ?_)))
   ·exact ⟨Nat.zero_le _, vol_in hlt hgo, by simp [tVol]; omega⟩
   ·refine ent_ok rfl ?_
    simp [conj, bytesL, gE hlt]
    try rfl
   ·rintro ⟨j, o⟩ ⟨hj, hgo2, hol2⟩
    refine sw_seq (xr hP 8 rfl (sw_seq (sw_cond rfl (fun c7 => ?_) (fun c7 => ?_))))
    ·have hlj : j < l[i].2.length := by simpa using c7
     have hpj := hpv _ (List.getElem_mem hlj)
     obtain ⟨dd, hpd⟩ := hpj
     have hok := (hl0.2 _ (List.getElem_mem hlt)).2.2 _ (List.getElem_mem hlj)
     have hll := lineV_len' hok.1 hok.2.1 hok.2.2.2 hpd
     refine sw_skip (sw_seq (sw_block (sw_seq (xg hP 9 [] rfl ?_ ?_))))
     ·simp [conj, gE hlj]
      exact hlj
     refine xg hP 10 [] rfl ?_ ?_
     ·simp [conj, maxL, gE hlj]
      exact ⟨⟨dd, hpd⟩, by have h : List.length (lineV l[i].2[j]) ≤ 300 := hll; show o.length + List.length (lineV l[i].2[j]) ≤ 140737488355328; omega⟩
     refine xr hP 11 rfl (⟨(j + 1, o ++ lineV l[i].2[j]), ?_, ?_, ent_ok rfl ?_⟩)
     ·exact ⟨hlj, vol_line hlj hgo2, by simp; omega⟩
     ·show l[i].2.length - (j + 1) < l[i].2.length - j
      omega
     ·simp [conj, gE hlj]
    ·obtain rfl : j = l[i].2.length := by simp at c7; omega
     refine sw_exit (xr hP 9 rfl (⟨(i + 1, o), ?_, ?_, ent_ok rfl ?_⟩))
     ·exact ⟨hlt, vol_out hgo2, by show o.length ≤ 27 + (i + 1) * 1000; omega⟩
     ·show l.length - (i + 1) < l.length - i
      omega
     ·simp [conj]
  ·obtain rfl : i = l.length := by simp at c3; omega
   have hv := cat_end hgo
   subst hv
   have hw := weighV_bd (s := bodyV ((tg, l) : Root_)) (by omega)
   have hi2 : (itoaV (weighV (bodyV ((tg, l) : Root_)))).length ≤ 21 := itoaV_len (by rw [inR_i64]; omega)
   refine sw_exit (sw_seq (xg hP 5 [] rfl ?_ ?_))
   ·simp [conj, maxL, bytesL]
    repeat' apply And.intro
    all_goals first | omega | (show List.length (bodyV ((tg, l) : Root_)) ≤ 1000000; omega) | trivial
   refine sw_ret ⟨.inl rfl, _, rfl, ?_⟩
   simp [conj, sealV, bytesL]
   rfl
end Go.Sx

namespace Go.Sx
open Go
set_option maxRecDepth 100000
set_option linter.unusedVariables false
set_option linter.unusedSimpArgs false
set_option maxHeartbeats 2000000
def cWaits0 (st : Int) (t : Drv) (d : Id) : Xctr := ⟨45, [], [(d, ⟨0, 0, 0⟩, .lvar (drv st t .nilp))], [.v false [.ptr ⟨0, 0, 0⟩ 0]],
  (.v false [.own ⟨1, 0, 0⟩], [(⟨1, 0, 0⟩, .sl T_Put (.all .w) [])])⟩
theorem cWaits0_ok {st : Int} {t : Drv} {d : Id} : XOk Proofs.Tryd.prog (cWaits0 st t d) := by
 have hP := (Prg.none ttok mtok)
 refine xctr_of_body hP (cWaits0 st t d) (fn := Proofs.Tryd.f45) (rts := [.tmp 2]) Proofs.Tryd.func45 rfl (by kernel_rfl) rfl rfl ?_
 refine ⟨rfl, ?_⟩
 refine sw_seq (xr hP 1 rfl (sw_seq (xr hP 2 rfl (sw_seq (sw_seq (xr hP 3 rfl (sw_block (sw_loop (ι := Unit) (fun i => ⟨[.j, .j, .j, .v false [.own ⟨0, 9, 0⟩], .v false [.nilp], .j, .j, .j, .j, .j, .j, .j, .j, .j, .j, .j, .j, .j, .j, .j, .j, .j, .j], [(⟨0, 0, 0⟩, .lvar (drv st t .nilp)), (⟨0, 9, 0⟩, .sl T_Put (.all .w) [])], 3, [[.v false [.ptr ⟨0, 0, 0⟩ 0]]]⟩) (fun i => 0) (fun i => True) () ⟨?_, ?_⟩ ?_))))))))
 ·trivial
 ·refine ent_ok rfl ?_
  first | trivial | (simp [conj]; done) | (simp [conj] at *; (try dsimp only [Ty.den, Ty.dflt] at *); omega)
 ·rintro i hi
  refine sw_seq (sw_seq (xr hP 4 rfl (sw_cond rfl (fun c3 => ?_) (fun c3 => ?_))))
  ·exact absurd c3 (by simp)
  ·refine sw_exit (sw_seq (xr hP 5 rfl (sw_ret ⟨.inl rfl, _, rfl, ?_⟩)))
   simp [conj]
def cDisk0 (st : Int) (t : Drv) (d : Id) : Xctr := ⟨25, [], [(d, ⟨0, 0, 0⟩, .lvar (drv st t .nilp))], [.v false [.ptr ⟨0, 0, 0⟩ 0]],
  (.v true [.d TI pF st, .own ⟨1, 0, 0⟩, .own ⟨1, 1, 0⟩, .own ⟨1, 2, 0⟩, .own ⟨1, 3, 0⟩], [(⟨1, 0, 0⟩, .sl .str (.all .w) t.1), (⟨1, 1, 0⟩, .sl .str (.all .w) t.2.1), (⟨1, 2, 0⟩, .sl .bool (.all .w) t.2.2), (⟨1, 3, 0⟩, .sl T_Put (.all .w) [])])⟩
theorem cDisk0_ok {st : Int} {t : Drv} {d : Id} (ht : t.ok) : XOk Proofs.Tryd.prog (cDisk0 st t d) := by
 have hP := ((((Prg.none ttok mtok).and cCloneO_ok).and cCloneB_ok).andX (cWaits0_ok (st := st) (t := t) (d := ⟨0, 0, 0⟩)))
 refine xctr_of_body hP (cDisk0 st t d) (fn := Proofs.Tryd.f25) (rts := [.cell 2 37]) Proofs.Tryd.func25 rfl (by kernel_rfl) rfl rfl ?_
 refine ⟨rfl, ?_⟩
 obtain ⟨h1, h2, h3⟩ := ht
 refine sw_seq (xr hP 1 rfl (sw_seq (xg hP 2 [] rfl ?_ ?_)))
 ·simp only [cj, cl]
  try dsimp only [Ty.den, Ty.dflt]
  repeat' apply And.intro
  all_goals first | rfl | (show List.length t.1 ≤ 1099511627776; omega) | (show List.length t.2.1 ≤ 1099511627776; omega) | (show List.length t.2.2 ≤ 1099511627776; omega) | omega | assumption | trivial
 refine sw_ret ⟨.inl rfl, _, rfl, ?_⟩
 simp [conj]
def cNewI : Ctr := ⟨14, [.val false TI pF], fun x => 0 ≤ x.1 ∧ x.1 ≤ 2, fun x => (.v true [.d TI pF (newD x.1).1, .own ⟨1, 0, 0⟩, .own ⟨1, 1, 0⟩, .own ⟨1, 2, 0⟩, .own ⟨1, 3, 0⟩], [(⟨1, 0, 0⟩, .sl .str (.all .w) (newD x.1).2.1), (⟨1, 1, 0⟩, .sl .str (.all .w) (newD x.1).2.2.1), (⟨1, 2, 0⟩, .sl .bool (.all .w) (newD x.1).2.2.2.1), (⟨1, 3, 0⟩, .sl T_Put (.all .w) (newD x.1).2.2.2.2)])⟩
theorem cNewI_ok : CtrOk Proofs.Tryd.prog cNewI := by
 have hP := ((Prg.none ttok mtok).and cState_ok)
 refine ctr_of_body hP cNewI (fn := Proofs.Tryd.f14) (rts := [.cell 2 37]) Proofs.Tryd.func14 rfl (by kernel_rfl) rfl rfl ?_
 rintro ⟨(n : Int), ⟨⟩⟩ _ ⟨h0, h1⟩
 try dsimp only [Ty.den, Mode.den, mdens] at h0
 try dsimp only [Ty.den, Mode.den, mdens] at h1
 refine ⟨rfl, ?_⟩
 refine sw_seq (xr hP 1 rfl (sw_seq (sw_seq (xg hP 2 [] rfl ?_ ?_))))
 ·simp [conj, maxL]
  try dsimp only [Ty.den, Ty.dflt]
  try simp only [rd_eta]
  try trivial
 refine sw_cond rfl (fun c1 => ?_) (fun c1 => ?_)
 ·have h : (!stV n) = true := c1
  simp [stV] at h
  omega
 ·refine sw_skip (sw_seq ?_)
  replace hP := hP.andX (cDisk0_ok (st := n) (t := drvOf (newD n)) (d := ⟨3, 3, 0⟩) (newD_ok (n := n)).1)
  refine xg hP 3 [] rfl ?_ ?_
  ·simp [conj]
   repeat' apply And.intro
   all_goals first | rfl | trivial | decide
  refine sw_ret ⟨.inl rfl, _, rfl, ?_⟩
  simp [conj, newD, drvOf]
def cNewS : Ctr := ⟨10, [.val false TI pF], fun x => 0 ≤ x.1 ∧ x.1 ≤ 2, fun x => (.v true [.d TI pF (newD x.1).1, .own ⟨1, 0, 0⟩, .own ⟨1, 1, 0⟩, .own ⟨1, 2, 0⟩, .own ⟨1, 3, 0⟩], [(⟨1, 0, 0⟩, .sl .str (.all .w) (newD x.1).2.1), (⟨1, 1, 0⟩, .sl .str (.all .w) (newD x.1).2.2.1), (⟨1, 2, 0⟩, .sl .bool (.all .w) (newD x.1).2.2.2.1), (⟨1, 3, 0⟩, .sl T_Put (.all .w) (newD x.1).2.2.2.2)])⟩
theorem cNewS_ok : CtrOk Proofs.Tryd.prog cNewS := by
 have hP := ((Prg.none ttok mtok).and cIn_ok)
 refine ctr_of_body hP cNewS (fn := Proofs.Tryd.f10) (rts := [.cell 2 37]) Proofs.Tryd.func10 rfl (by kernel_rfl) rfl rfl ?_
 rintro ⟨(n : Int), ⟨⟩⟩ _ ⟨h0, h1⟩
 try dsimp only [Ty.den, Mode.den, mdens] at h0
 try dsimp only [Ty.den, Mode.den, mdens] at h1
 refine ⟨rfl, ?_⟩
 refine sw_seq (xr hP 1 rfl (sw_seq (sw_seq (xg hP 2 [] rfl ?_ ?_))))
 ·simp [conj, maxL]
  try dsimp only [Ty.den, Ty.dflt]
  try simp only [rd_eta]
  try trivial
 refine sw_cond rfl (fun c1 => ?_) (fun c1 => ?_)
 ·have h : (!inV n 0 2) = true := c1
  simp [inV] at h
  omega
 ·refine sw_skip (sw_seq (xg hP 3 [] rfl ?_ ?_))
  ·simp only [conj, List.nil_append, List.cons_append, List.append_nil, List.append_assoc, inR_i64, true_and, and_true, Int.toNat_natCast]
   try dsimp only [Ty.den, Ty.dflt]
   repeat' apply And.intro
   all_goals first | rfl | omega | assumption | trivial
  refine sw_ret ⟨.inl rfl, _, rfl, ?_⟩
  simp [conj, newD]
def cRingS : Ctr := ⟨12, [.val false TI pF, .val true T_Root (.all .b)], fun x => True, fun x => (.v true [.d .bool pF true, .d TI pF (x.2.1.1.tmod 2), .d .str pF (rootT x.1 x.2.1)], [])⟩
theorem cRingS_ok : CtrOk Proofs.Tryd.prog cRingS := by
 have hP := ((Prg.none ttok mtok).and cRootTextS_ok)
 refine ctr_of_body hP cRingS (fn := Proofs.Tryd.f12) (rts := [.cell 4 41]) Proofs.Tryd.func12 rfl (by kernel_rfl) rfl rfl ?_
 rintro ⟨(d : Int), ⟨(tg : Int), (l : List Vol_)⟩, ⟨⟩⟩ _ _
 try dsimp only [Ty.den, Mode.den, mdens] at _
 refine ⟨rfl, ?_⟩
 refine sw_seq (xr hP 1 rfl (sw_seq (xg hP 2 [] rfl ?_ ?_)))
 ·simp [conj, maxL]
  try dsimp only [Ty.den, Ty.dflt]
  try simp only [rd_eta]
  try trivial
 refine sw_ret ⟨.inl rfl, _, rfl, ?_⟩
 simp [conj]
def cPoolI : Ctr := ⟨5, [.val false TI pF], fun x => True, fun x => (.tup [(true, [.own ⟨1, 0, 0⟩, .d .bool pF ((newPo x.1)).2.1, .d TI pF ((newPo x.1)).2.2.1.1, .own ⟨1, 1, 0⟩, .d TI pF ((newPo x.1)).2.2.2.1, .own ⟨1, 2, 0⟩]), (false, [.d .bool pF (poolV x.1)])], [(⟨1, 0, 0⟩, .sl T_Disk (.all .w) ((newPo x.1)).1), (⟨1, 1, 0⟩, .sl T_Vol (.all .w) ((newPo x.1)).2.2.1.2), (⟨1, 2, 0⟩, .sl T_Vol (.all .w) ((newPo x.1)).2.2.2.2)])⟩
theorem cPoolI_ok : CtrOk Proofs.Tryd.prog cPoolI := by
 have hP := ((((Prg.none ttok mtok).and cPool_ok).and cNewI_ok).and cText__ok)
 refine ctr_of_body hP cPoolI (fn := Proofs.Tryd.f5) (rts := [.cell 2 27, .tmp 3]) Proofs.Tryd.func5 rfl (by kernel_rfl) rfl rfl ?_
 rintro ⟨(n : Int), ⟨⟩⟩ _ _
 try dsimp only [Ty.den, Mode.den, mdens] at _
 refine ⟨rfl, ?_⟩
 refine sw_seq (xr hP 1 rfl (sw_seq (sw_seq (xg hP 2 [] rfl ?_ ?_))))
 ·simp [conj, maxL]
  try dsimp only [Ty.den, Ty.dflt]
  try simp only [rd_eta]
  try trivial
 refine sw_cond rfl (fun c1 => ?_) (fun c1 => ?_)
 ·have hs : ¬ poolV n = true := by have h : (!poolV n) = true := c1; simpa using h
  have hb : poolV n = false := by simpa using hs
  have hv : newPo n = ([], false, (0, []), (0, [])) := if_neg hs
  refine sw_seq (xr hP 3 rfl (sw_ret ⟨.inl rfl, _, rfl, ?_⟩))
  rw [hv]
  simp [conj, *]
 ·have hs : poolV n = true := by have h : (!poolV n) = false := c1; simpa using h
  have hv : newPo n = (List.replicate n.toNat newDk, true, (0, []), (0, [])) := if_pos hs
  have hn := new_lt hs
  refine sw_skip (sw_seq (xr hP 3 rfl (sw_seq (sw_seq (xr hP 4 rfl (sw_block (sw_loop (ι := Nat) (fun i => ⟨[.j, .j, .v false [.ptr ⟨1, 0, 0⟩ 0], .j, .v false [.ptr ⟨3, 1, 0⟩ 0], .j, .j, .j, .j, .j, .j, sInt .i64 n, sInt .i64 (i : Int), .j, .j, .j, .j, .j, .j, .j, .j, .j, .j, .j, .j, .j, .j, .j], [(⟨1, 0, 0⟩, .var [.nils, .d .bool pF false, .d TI pF 0, .nils, .d TI pF 0, .nils]), (⟨3, 1, 0⟩, .var [.own ⟨0, 9, 0⟩, .d .bool pF true, .d TI pF 0, .nils, .d TI pF 0, .nils]), (⟨0, 9, 0⟩, .sl T_Disk (.all .w) (List.replicate i newDk))], 4, []⟩) (fun i => n.toNat - i) (fun i => (i : Int) ≤ n) 0 ⟨?_, ?_⟩ ?_)))))))
  ·show (0 : Int) ≤ n; omega
  ·refine ent_ok rfl ?_
   simp [conj]
  ·rintro i hi
   refine sw_seq (xr hP 5 rfl (sw_seq (sw_cond rfl (fun c5 => ?_) (fun c5 => ?_))))
   ·have hlt : (i : Int) < n := of_decide_eq_true c5
    refine sw_skip (sw_seq (sw_block (sw_seq (xg hP 6 [] rfl ?_ ?_))))
    ·simp [conj, maxL]
     try dsimp only [Ty.den, Ty.dflt]
     try simp only [rd_eta]
     exact ⟨by decide, by decide⟩
    refine sw_seq (xg hP 7 [] rfl ?_ ?_)
    ·simp [conj, maxL]
     try dsimp only [Ty.den, Ty.dflt]
     try simp only [rd_eta]
     repeat' apply And.intro
     all_goals first | exact ⟨n, newV hs⟩ | trivial | (simp [newD]; done) | omega
    refine xg hP 8 [] rfl ?_ ?_
    ·simp [conj, maxL]
     repeat' apply And.intro
     all_goals first | omega | trivial
    refine xr hP 9 rfl (⟨i + 1, ?_, ?_, ent_ok rfl ?_⟩)
    ·show ((i + 1 : Nat) : Int) ≤ n; omega
    ·omega
    ·simp [conj]
     exact new_next i
   ·have hge : ¬ (i : Int) < n := of_decide_eq_false c5
    obtain rfl : i = n.toNat := by omega
    refine sw_exit (sw_seq (xr hP 6 rfl (sw_ret ⟨.inl rfl, _, rfl, ?_⟩)))
    rw [hv]
    simp [conj, *]
def cPoolS : Ctr := ⟨4, [.val false TI pF], fun x => True, fun x => (.tup [(true, [.own ⟨1, 0, 0⟩, .d .bool pF ((newPo x.1)).2.1, .d TI pF ((newPo x.1)).2.2.1.1, .own ⟨1, 1, 0⟩, .d TI pF ((newPo x.1)).2.2.2.1, .own ⟨1, 2, 0⟩]), (false, [.d .bool pF (poolV x.1)])], [(⟨1, 0, 0⟩, .sl T_Disk (.all .w) ((newPo x.1)).1), (⟨1, 1, 0⟩, .sl T_Vol (.all .w) ((newPo x.1)).2.2.1.2), (⟨1, 2, 0⟩, .sl T_Vol (.all .w) ((newPo x.1)).2.2.2.2)])⟩
theorem cPoolS_ok : CtrOk Proofs.Tryd.prog cPoolS := by
 have hP := (((((Prg.none ttok mtok).and cDisks_ok).and cNewS_ok).and cRingS_ok).and cComeS_ok)
 refine ctr_of_body hP cPoolS (fn := Proofs.Tryd.f4) (rts := [.cell 2 27, .tmp 3]) Proofs.Tryd.func4 rfl (by kernel_rfl) rfl rfl ?_
 rintro ⟨(n : Int), ⟨⟩⟩ _ _
 try dsimp only [Ty.den, Mode.den, mdens] at _
 refine ⟨rfl, ?_⟩
 refine sw_seq (xr hP 1 rfl (sw_seq (sw_seq (xg hP 2 [] rfl ?_ ?_))))
 ·simp [conj, maxL]
  try dsimp only [Ty.den, Ty.dflt]
  try simp only [rd_eta]
  try trivial
 refine sw_cond rfl (fun c1 => ?_) (fun c1 => ?_)
 ·have hs : ¬ poolV n = true := by have h : (!poolV n) = true := c1; simpa using h
  have hb : poolV n = false := by simpa using hs
  have hv : newPo n = ([], false, (0, []), (0, [])) := if_neg hs
  refine sw_seq (xr hP 3 rfl (sw_ret ⟨.inl rfl, _, rfl, ?_⟩))
  rw [hv]
  simp [conj, *]
 ·have hs : poolV n = true := by have h : (!poolV n) = false := c1; simpa using h
  have hv : newPo n = (List.replicate n.toNat newDk, true, (0, []), (0, [])) := if_pos hs
  have hn := new_lt hs
  have hr := newR hs
  refine sw_skip (sw_seq (xr hP 3 rfl (sw_seq (sw_seq (xr hP 4 rfl (sw_block (sw_loop (ι := Nat) (fun i => ⟨[sInt .i64 n, .j, .v false [.ptr ⟨1, 0, 0⟩ 0], .j, .v false [.ptr ⟨3, 5, 0⟩ 0], sInt .i64 (i : Int), .j, .j, .j, .j, .j, .j, .j, .j, .j, .j, .j, .j, .j, .j, .j, .j, .j, .j, .j, .j, .j, .j, .j, .j, .j, .j, .j, .j], [(⟨1, 0, 0⟩, .var [.nils, .d .bool pF false, .d TI pF 0, .nils, .d TI pF 0, .nils]), (⟨3, 5, 0⟩, .var [.own ⟨0, 9, 0⟩, .d .bool pF true, .d TI pF 0, .own ⟨0, 9, 64⟩, .d TI pF 0, .own ⟨0, 9, 128⟩]), (⟨0, 9, 0⟩, .sl T_Disk (.all .w) (List.replicate i newDk)), (⟨0, 9, 64⟩, .sl T_Vol (.all .w) []), (⟨0, 9, 128⟩, .sl T_Vol (.all .w) [])], 4, []⟩) (fun i => n.toNat - i) (fun i => (i : Int) ≤ n) 0 ⟨?_, ?_⟩ ?_)))))))
  ·show (0 : Int) ≤ n; omega
  ·refine ent_ok rfl ?_
   simp [conj]
  ·rintro i hi
   refine sw_seq (sw_seq (xr hP 5 rfl (sw_cond rfl (fun c5 => ?_) (fun c5 => ?_))))
   ·have hlt : (i : Int) < n := of_decide_eq_true c5
    refine sw_skip (sw_seq (sw_block (sw_seq (xg hP 6 [] rfl ?_ ?_))))
    ·simp [conj, maxL]
     try dsimp only [Ty.den, Ty.dflt]
     try simp only [rd_eta]
     exact ⟨by decide, by decide⟩
    refine xg hP 7 [] rfl ?_ ?_
    ·simp only [conj, hr]
     repeat' apply And.intro
     all_goals first | exact new_put | (show putV (true, Int.tmod 0 2, rootT n (0, [])) = true; rw [hr]; exact new_put) | exact (newD_ok (n := 0)).1 | trivial | (simp [maxL]; done) | (simp [maxL]; omega)
    refine xr hP 8 rfl (⟨i + 1, ?_, ?_, ent_ok rfl ?_⟩)
    ·show ((i + 1 : Nat) : Int) ≤ n; omega
    ·omega
    ·simp [conj]
     rw [hr, ← new_next i]
     first | rfl | (simp [new_come]; done)
   ·have hge : ¬ (i : Int) < n := of_decide_eq_false c5
    obtain rfl : i = n.toNat := by omega
    refine sw_exit (sw_seq (xr hP 6 rfl (sw_ret ⟨.inl rfl, _, rfl, ?_⟩)))
    rw [hv]
    simp [conj, *]
end Go.Sx

namespace Go.Sx
open Go
set_option maxRecDepth 100000
set_option linter.unusedVariables false
set_option linter.unusedSimpArgs false
set_option maxHeartbeats 2000000
def cMkT : Ctr := ⟨54, [.val false TI pF], fun x => x.1 ≤ 1099511627776, fun x => (sStr (mkT x.1), [])⟩
theorem cMkT_ok : CtrOk Proofs.Tryd.prog cMkT := by
 have hP := (Prg.none ttok mtok)
 refine ctr_of_body hP cMkT (fn := Proofs.Tryd.f54) (rts := [.tmp 2]) Proofs.Tryd.func54 rfl (by kernel_rfl) rfl rfl ?_
 rintro ⟨(k : Int), ⟨⟩⟩ _ hpre
 try dsimp only [Ty.den, Mode.den, mdens] at hpre
 refine ⟨rfl, ?_⟩
 replace hpre : k ≤ 1099511627776 := hpre
 refine sw_seq (xr hP 1 rfl (sw_seq (sw_seq (xr hP 2 rfl (sw_cond rfl (fun c1 => ?_) (fun c1 => ?_))))))
 ·replace c1 : k ≤ 0 := of_decide_eq_true c1
  refine sw_seq (xr hP 3 rfl (sw_ret ⟨.inl rfl, _, rfl, ?_⟩))
  simp [conj]
  unfold mkT
  rw [if_pos c1]; rfl
 ·replace c1 : ¬ k ≤ 0 := of_decide_eq_false c1
  refine sw_skip (sw_seq (xr hP 3 rfl (sw_seq (sw_block (sw_loop (ι := Nat × Str) (fun ⟨n, out⟩ => ⟨[sInt .i64 (n : Int), .j, .j, sStr out, .j, .j, .j, .j, .j, .j, .j, .j, .j, .j, .j, .j, .j, .j, .j, .j], [], 3, []⟩) (fun ⟨n, out⟩ => n) (fun ⟨n, out⟩ => out.length + n ≤ 1099511627776 ∧ digX n out = digX k.toNat []) (k.toNat, []) ⟨?_, ?_⟩ ?_)))))
  ·exact ⟨by show 0 + k.toNat ≤ 1099511627776; omega, rfl⟩
  ·refine ent_ok rfl ?_
   simp [conj]
   repeat' apply And.intro
   all_goals first | rfl | exact (Int.max_eq_left (by omega)).symm | omega
  ·rintro ⟨n, out⟩ ⟨hl, hgo⟩
   refine sw_seq (sw_seq (xr hP 4 rfl (sw_cond rfl (fun c4 => ?_) (fun c4 => ?_))))
   ·have hn : n ≠ 0 := by have h : (0 : Int) < (n : Nat) := of_decide_eq_true c4; omega
    have htm : ((n : Nat) : Int).tmod 10 = ((n % 10 : Nat) : Int) := rfl
    have htd : ((n : Nat) : Int).tdiv 10 = ((n / 10 : Nat) : Int) := rfl
    refine sw_skip (sw_block (sw_seq (xg hP 5 [] rfl ?_ ?_)))
    ·simp [conj, maxL, htm, ofBytes]
     repeat' apply And.intro
     all_goals first | assumption | omega
    refine xg hP 6 [] rfl ?_ ?_
    ·simp [conj, htd]
     repeat' apply And.intro
     all_goals first | assumption | omega
    refine ⟨(n / 10, UInt8.ofNat (48 + n % 10) :: out), ?_, ?_, ent_ok rfl ?_⟩
    ·exact ⟨by show (out.length + 1) + n / 10 ≤ 1099511627776; omega, by rw [← hgo, digX_step hn]⟩
    ·show n / 10 < n
     omega
    ·simp only [cj, cl]
     try dsimp only [Ty.den, Ty.dflt]
     repeat' apply And.intro
     all_goals first | trivial | exact htd | rfl
   ·obtain rfl : n = 0 := by have h : ¬ (0 : Int) < (n : Nat) := of_decide_eq_false c4; omega
    refine sw_exit (sw_seq (xg hP 5 [] rfl ?_ ?_))
    ·simp [conj, maxL, bytesL]
     repeat' apply And.intro
     all_goals first | assumption | omega
    refine sw_ret ⟨.inl rfl, _, rfl, ?_⟩
    simp [conj]
    unfold mkT
    rw [if_neg c1, ← hgo, digX_zero]; rfl
def cMkPls : Ctr := ⟨66, [.mu false T_Place (.all .w), .val false TI pF], fun x => 0 ≤ x.2.1 ∧ nxLs mPlc x.2.1 x.1 ≤ 1000000000, fun x => (sInt .i64 (nxLs mPlc x.2.1 x.1), [(⟨0, 0, 0⟩, .sl T_Place (.all .w) (mkLs mPlc x.2.1 x.1))])⟩
theorem cMkPls_ok : CtrOk Proofs.Tryd.prog cMkPls := by
 have hP := (Prg.none ttok mtok)
 refine ctr_of_body hP cMkPls (fn := Proofs.Tryd.f66) (rts := [.tmp 4]) Proofs.Tryd.func66 rfl (by kernel_rfl) rfl rfl ?_
 rintro ⟨(l : List Plc), (k : Int), ⟨⟩⟩ ⟨hdl, _⟩ ⟨h0, h1⟩
 try dsimp only [Ty.den, Mode.den, mdens] at h0
 try dsimp only [Ty.den, Mode.den, mdens] at h1
 refine ⟨rfl, ?_⟩
 have hml : l.length ≤ 140737488355328 := hdl.1
 replace h0 : 0 ≤ k := h0
 replace h1 : nxLs mPlc k l ≤ 1000000000 := h1
 refine sw_seq (xr hP 1 rfl (sw_seq (sw_seq (xr hP 2 rfl (sw_block (sw_loop (ι := Nat) (fun i => ⟨[.v false [.own ⟨0, 0, 0⟩], sInt .i64 (nxLs mPlc k (l.take i)), .j, .j, .j, sInt .i64 (i : Int), .j, .j, .j, .j, .j, .j, .j, .j, .j, .j, .j, .j, .j, .j, .j, .j, .j, .j, .j, .j, .j], [(⟨0, 0, 0⟩, .sl T_Place (.all .w) (mkLs mPlc k (l.take i) ++ l.drop i))], 2, [[.v false [.own ⟨0, 0, 0⟩], .j]]⟩) (fun i => l.length - i) (fun i => i ≤ l.length) 0 ⟨?_, ?_⟩ ?_))))))
 ·exact Nat.zero_le _
 ·refine ent_ok rfl ?_
  simp [conj, mkLs, nxLs]
 ·rintro i hi
  refine sw_seq (sw_seq (xr hP 3 rfl (sw_cond rfl (fun c2 => ?_) (fun c2 => ?_))))
  ·have hcl := mk_clen (m := mPlc) (k := k) hi
   have hlt : i < l.length := by have h : ((i : Nat) : Int) < ((mkLs mPlc k (l.take i) ++ l.drop i).length : Nat) := of_decide_eq_true c2; omega
   have hnx := mk_next (m := mPlc) (k := k) hlt
   have hnn := nx_next (m := mPlc) (k := k) hlt
   obtain ⟨s1, s2, s3⟩ := nx_split mPlc_ok (k := k) hlt
   have hget := mk_get (m := mPlc) (k := k) hlt
   have hgd : ∀ d, (mkLs mPlc k (l.take i) ++ l.drop i)[i]?.getD d = l[i] := fun d => by rw [hget]; rfl
   have hgi : ∀ h, (mkLs mPlc k (l.take i) ++ l.drop i)[i]'h = l[i] := fun h => by have h2 := hget; rw [gE h] at h2; exact Option.some.inj h2
   generalize hQ : (nxLs mPlc k (l.take i)) = Q at *
   replace s2 : Q ≤ Q + 1 + 1 := s2
   replace s3 : Q + 1 + 1 ≤ nxLs mPlc k l := s3
   refine sw_skip (sw_seq (sw_block (sw_seq (xg hP 4 [] rfl ?_ ?_))))
   ·simp [conj, hget, hgd, hgi, hcl, List.getElem?_set, hlt]
    repeat' apply And.intro
    all_goals first | trivial | assumption | omega
   refine sw_seq (xg hP 5 [] rfl ?_ ?_)
   ·simp [conj, hget, hgd, hgi, hcl, List.getElem?_set, hlt]
    repeat' apply And.intro
    all_goals first | trivial | assumption | omega
   refine sw_seq (xg hP 6 [] rfl ?_ ?_)
   ·simp [conj, hget, hgd, hgi, hcl, List.getElem?_set, hlt]
    repeat' apply And.intro
    all_goals first | trivial | assumption | omega
   refine xg hP 7 [] rfl ?_ ?_
   ·simp [conj, hget, hgd, hgi, hcl, List.getElem?_set, hlt]
    repeat' apply And.intro
    all_goals first | trivial | assumption | omega
   refine xg hP 8 [] rfl ?_ ?_
   ·simp only [cj, cl]
    try dsimp only [Ty.den, Ty.dflt]
    repeat' apply And.intro
    all_goals first | rfl | omega | assumption | trivial
   refine ⟨i + 1, ?_, ?_, ent_ok rfl ?_⟩
   ·exact hlt
   ·omega
   ·rw [hnn]
    simp [conj, hget, hgd, hgi, hcl, List.getElem?_set, hlt]
    repeat' apply And.intro
    all_goals first | rfl | exact hnx | omega
  ·have hcl := mk_clen (m := mPlc) (k := k) hi
   obtain rfl : i = l.length := by have h : ¬ ((i : Nat) : Int) < ((mkLs mPlc k (l.take i) ++ l.drop i).length : Nat) := of_decide_eq_false c2; omega
   refine sw_exit (sw_seq (xr hP 4 rfl (sw_ret ⟨.inl rfl, _, rfl, ?_⟩)))
   simp [conj]
def cMkPtrs : Ctr := ⟨55, [.mu false T_Ptr (.all .w), .val false TI pF], fun x => 0 ≤ x.2.1 ∧ nxLs mPtr x.2.1 x.1 ≤ 1000000000, fun x => (sInt .i64 (nxLs mPtr x.2.1 x.1), [(⟨0, 0, 0⟩, .sl T_Ptr (.all .w) (mkLs mPtr x.2.1 x.1))])⟩
theorem cMkPtrs_ok : CtrOk Proofs.Tryd.prog cMkPtrs := by
 have hP := ((Prg.none ttok mtok).and cMkPls_ok)
 refine ctr_of_body hP cMkPtrs (fn := Proofs.Tryd.f55) (rts := [.tmp 4]) Proofs.Tryd.func55 rfl (by kernel_rfl) rfl rfl ?_
 rintro ⟨(l : List Ptr_), (k : Int), ⟨⟩⟩ ⟨hdl, _⟩ ⟨h0, h1⟩
 try dsimp only [Ty.den, Mode.den, mdens] at h0
 try dsimp only [Ty.den, Mode.den, mdens] at h1
 refine ⟨rfl, ?_⟩
 have hml : l.length ≤ 140737488355328 := hdl.1
 replace h0 : 0 ≤ k := h0
 replace h1 : nxLs mPtr k l ≤ 1000000000 := h1
 refine sw_seq (xr hP 1 rfl (sw_seq (sw_seq (xr hP 2 rfl (sw_block (sw_loop (ι := Nat) (fun i => ⟨[.v false [.own ⟨0, 0, 0⟩], sInt .i64 (nxLs mPtr k (l.take i)), .j, .j, .j, sInt .i64 (i : Int), .j, .j, .j, .j, .j, .j, .j, .j, .j, .j, .j, .j, .j, .j, .j, .j, .j, .j, .j, .j, .j, .j, .j, .j, .j, .j, .j, .j], [(⟨0, 0, 0⟩, .sl T_Ptr (.all .w) (mkLs mPtr k (l.take i) ++ l.drop i))], 2, [[.v false [.own ⟨0, 0, 0⟩], .j]]⟩) (fun i => l.length - i) (fun i => i ≤ l.length) 0 ⟨?_, ?_⟩ ?_))))))
 ·exact Nat.zero_le _
 ·refine ent_ok rfl ?_
  simp [conj, mkLs, nxLs]
 ·rintro i hi
  refine sw_seq (sw_seq (xr hP 3 rfl (sw_cond rfl (fun c2 => ?_) (fun c2 => ?_))))
  ·have hcl := mk_clen (m := mPtr) (k := k) hi
   have hlt : i < l.length := by have h : ((i : Nat) : Int) < ((mkLs mPtr k (l.take i) ++ l.drop i).length : Nat) := of_decide_eq_true c2; omega
   have hnx := mk_next (m := mPtr) (k := k) hlt
   have hnn := nx_next (m := mPtr) (k := k) hlt
   obtain ⟨s1, s2, s3⟩ := nx_split mPtr_ok (k := k) hlt
   have hget := mk_get (m := mPtr) (k := k) hlt
   have hgd : ∀ d, (mkLs mPtr k (l.take i) ++ l.drop i)[i]?.getD d = l[i] := fun d => by rw [hget]; rfl
   have hgi : ∀ h, (mkLs mPtr k (l.take i) ++ l.drop i)[i]'h = l[i] := fun h => by have h2 := hget; rw [gE h] at h2; exact Option.some.inj h2
   generalize hQ : (nxLs mPtr k (l.take i)) = Q at *
   have s4 : Q + 1 + 1 ≤ nxLs mPlc (Q + 1 + 1) l[i].2.2 := (mkList_ok mPlc_ok).ge _ _
   replace s3 : nxLs mPlc (Q + 1 + 1) l[i].2.2 ≤ nxLs mPtr k l := s3
   refine sw_skip (sw_seq (sw_block (sw_seq (xg hP 4 [] rfl ?_ ?_))))
   ·simp [conj, hget, hgd, hgi, hcl, List.getElem?_set, hlt]
    repeat' apply And.intro
    all_goals first | trivial | assumption | omega | (show 0 ≤ Q + 1 + 1; omega) | (show nxLs mPlc (Q + 1 + 1) l[i].2.2 ≤ _; omega)
   refine sw_seq (xg hP 5 [] rfl ?_ ?_)
   ·simp [conj, hget, hgd, hgi, hcl, List.getElem?_set, hlt]
    repeat' apply And.intro
    all_goals first | trivial | assumption | omega | (show 0 ≤ Q + 1 + 1; omega) | (show nxLs mPlc (Q + 1 + 1) l[i].2.2 ≤ _; omega)
   refine sw_seq (xg hP 6 [] rfl ?_ ?_)
   ·simp [conj, hget, hgd, hgi, hcl, List.getElem?_set, hlt]
    repeat' apply And.intro
    all_goals first | trivial | assumption | omega | (show 0 ≤ Q + 1 + 1; omega) | (show nxLs mPlc (Q + 1 + 1) l[i].2.2 ≤ _; omega)
   refine sw_seq (xg hP 7 [] rfl ?_ ?_)
   ·simp [conj, hget, hgd, hgi, hcl, List.getElem?_set, hlt]
    repeat' apply And.intro
    all_goals first | trivial | assumption | omega | (show 0 ≤ Q + 1 + 1; omega) | (show nxLs mPlc (Q + 1 + 1) l[i].2.2 ≤ _; omega)
   refine xg hP 8 [] rfl ?_ ?_
   ·simp [conj, hget, hgd, hgi, hcl, List.getElem?_set, hlt]
    repeat' apply And.intro
    all_goals first | trivial | assumption | omega | (show 0 ≤ Q + 1 + 1; omega) | (show nxLs mPlc (Q + 1 + 1) l[i].2.2 ≤ _; omega)
   refine xg hP 9 [] rfl ?_ ?_
   ·simp only [cj, cl]
    try dsimp only [Ty.den, Ty.dflt]
    repeat' apply And.intro
    all_goals first | rfl | omega | assumption | trivial
   refine ⟨i + 1, ?_, ?_, ent_ok rfl ?_⟩
   ·exact hlt
   ·omega
   ·rw [hnn]
    simp [conj, hget, hgd, hgi, hcl, List.getElem?_set, hlt]
    repeat' apply And.intro
    all_goals first | rfl | exact hnx | omega
  ·have hcl := mk_clen (m := mPtr) (k := k) hi
   obtain rfl : i = l.length := by have h : ¬ ((i : Nat) : Int) < ((mkLs mPtr k (l.take i) ++ l.drop i).length : Nat) := of_decide_eq_false c2; omega
   refine sw_exit (sw_seq (xr hP 4 rfl (sw_ret ⟨.inl rfl, _, rfl, ?_⟩)))
   simp [conj]
def cMkVols : Ctr := ⟨34, [.mu false T_Vol (.all .w), .val false TI pF], fun x => 0 ≤ x.2.1 ∧ nxLs mVol x.2.1 x.1 ≤ 1000000000, fun x => (sInt .i64 (nxLs mVol x.2.1 x.1), [(⟨0, 0, 0⟩, .sl T_Vol (.all .w) (mkLs mVol x.2.1 x.1))])⟩
theorem cMkVols_ok : CtrOk Proofs.Tryd.prog cMkVols := by
 have hP := (((Prg.none ttok mtok).and cMkT_ok).and cMkPtrs_ok)
 refine ctr_of_body hP cMkVols (fn := Proofs.Tryd.f34) (rts := [.tmp 4]) Proofs.Tryd.func34 rfl (by kernel_rfl) rfl rfl ?_
 rintro ⟨(l : List Vol_), (k : Int), ⟨⟩⟩ ⟨hdl, _⟩ ⟨h0, h1⟩
 try dsimp only [Ty.den, Mode.den, mdens] at h0
 try dsimp only [Ty.den, Mode.den, mdens] at h1
 refine ⟨rfl, ?_⟩
 have hml : l.length ≤ 140737488355328 := hdl.1
 replace h0 : 0 ≤ k := h0
 replace h1 : nxLs mVol k l ≤ 1000000000 := h1
 refine sw_seq (xr hP 1 rfl (sw_seq (sw_seq (xr hP 2 rfl (sw_block (sw_loop (ι := Nat) (fun i => ⟨[.v false [.own ⟨0, 0, 0⟩], sInt .i64 (nxLs mVol k (l.take i)), .j, .j, .j, sInt .i64 (i : Int), .j, .j, .j, .j, .j, .j, .j, .j, .j, .j, .j, .j, .j, .j, .j, .j, .j, .j, .j, .j, .j, .j], [(⟨0, 0, 0⟩, .sl T_Vol (.all .w) (mkLs mVol k (l.take i) ++ l.drop i))], 2, [[.v false [.own ⟨0, 0, 0⟩], .j]]⟩) (fun i => l.length - i) (fun i => i ≤ l.length) 0 ⟨?_, ?_⟩ ?_))))))
 ·exact Nat.zero_le _
 ·refine ent_ok rfl ?_
  simp [conj, mkLs, nxLs]
 ·rintro i hi
  refine sw_seq (sw_seq (xr hP 3 rfl (sw_cond rfl (fun c2 => ?_) (fun c2 => ?_))))
  ·have hcl := mk_clen (m := mVol) (k := k) hi
   have hlt : i < l.length := by have h : ((i : Nat) : Int) < ((mkLs mVol k (l.take i) ++ l.drop i).length : Nat) := of_decide_eq_true c2; omega
   have hnx := mk_next (m := mVol) (k := k) hlt
   have hnn := nx_next (m := mVol) (k := k) hlt
   obtain ⟨s1, s2, s3⟩ := nx_split mVol_ok (k := k) hlt
   have hget := mk_get (m := mVol) (k := k) hlt
   have hgd : ∀ d, (mkLs mVol k (l.take i) ++ l.drop i)[i]?.getD d = l[i] := fun d => by rw [hget]; rfl
   have hgi : ∀ h, (mkLs mVol k (l.take i) ++ l.drop i)[i]'h = l[i] := fun h => by have h2 := hget; rw [gE h] at h2; exact Option.some.inj h2
   generalize hQ : (nxLs mVol k (l.take i)) = Q at *
   have s4 : Q + 1 ≤ nxLs mPtr (Q + 1) l[i].2 := (mkList_ok mPtr_ok).ge _ _
   replace s3 : nxLs mPtr (Q + 1) l[i].2 ≤ nxLs mVol k l := s3
   refine sw_skip (sw_seq (sw_block (sw_seq (xg hP 4 [] rfl ?_ ?_))))
   ·simp [conj, hget, hgd, hgi, hcl, List.getElem?_set, hlt]
    repeat' apply And.intro
    all_goals first | trivial | assumption | omega | (show Q ≤ 1099511627776; omega) | (show 0 ≤ Q + 1; omega) | (show nxLs mPtr (Q + 1) l[i].2 ≤ _; omega)
   refine sw_seq (xg hP 5 [] rfl ?_ ?_)
   ·simp [conj, hget, hgd, hgi, hcl, List.getElem?_set, hlt]
    repeat' apply And.intro
    all_goals first | trivial | assumption | omega | (show Q ≤ 1099511627776; omega) | (show 0 ≤ Q + 1; omega) | (show nxLs mPtr (Q + 1) l[i].2 ≤ _; omega)
   refine xg hP 6 [] rfl ?_ ?_
   ·simp [conj, hget, hgd, hgi, hcl, List.getElem?_set, hlt]
    repeat' apply And.intro
    all_goals first | trivial | assumption | omega | (show Q ≤ 1099511627776; omega) | (show 0 ≤ Q + 1; omega) | (show nxLs mPtr (Q + 1) l[i].2 ≤ _; omega)
   refine xg hP 7 [] rfl ?_ ?_
   ·simp only [cj, cl]
    try dsimp only [Ty.den, Ty.dflt]
    repeat' apply And.intro
    all_goals first | rfl | omega | assumption | trivial
   refine ⟨i + 1, ?_, ?_, ent_ok rfl ?_⟩
   ·exact hlt
   ·omega
   ·rw [hnn]
    simp [conj, hget, hgd, hgi, hcl, List.getElem?_set, hlt]
    repeat' apply And.intro
    all_goals first | rfl | exact hnx | omega
  ·have hcl := mk_clen (m := mVol) (k := k) hi
   obtain rfl : i = l.length := by have h : ¬ ((i : Nat) : Int) < ((mkLs mVol k (l.take i) ++ l.drop i).length : Nat) := of_decide_eq_false c2; omega
   refine sw_exit (sw_seq (xr hP 4 rfl (sw_ret ⟨.inl rfl, _, rfl, ?_⟩)))
   simp [conj]
def cMkRoot (r : Root_) (k : Int) (a : Id) : Xctr := ⟨19, [(a, ⟨0, 0, 1⟩, .sl T_Vol (.all .w) r.2)], [], [.v true [.d TI pF r.1, .own ⟨0, 0, 1⟩], sInt .i64 k],
  (sInt .i64 (nxLs mVol k r.2), [(⟨0, 0, 1⟩, .sl T_Vol (.all .w) (mkLs mVol k r.2))])⟩
theorem cMkRoot_ok {r : Root_} {k : Int} {a : Id} (h0 : 0 ≤ k) (h1 : nxLs mVol k r.2 ≤ 1000000000) : XOk Proofs.Tryd.prog (cMkRoot r k a) := by
 have hP := ((Prg.none ttok mtok).and cMkVols_ok)
 refine xctr_of_body hP (cMkRoot r k a) (fn := Proofs.Tryd.f19) (rts := [.tmp 4]) Proofs.Tryd.func19 rfl (by kernel_rfl) rfl rfl ?_
 refine ⟨rfl, ?_⟩
 refine sw_seq (xr hP 1 rfl (sw_seq (xg hP 2 [] rfl ?_ ?_)))
 ·simp [conj, maxL]
  try dsimp only [Ty.den, Ty.dflt]
  try simp only [rd_eta]
  exact ⟨h0, h1⟩
 refine sw_seq (xr hP 3 rfl (sw_ret ⟨.inl rfl, _, rfl, ?_⟩))
 simp [conj]
end Go.Sx

namespace Go.Sx
open Go
set_option maxRecDepth 100000
set_option linter.unusedVariables false
set_option linter.unusedSimpArgs false
set_option maxHeartbeats 2000000
def cHdPls : Ctr := ⟨67, [.val false (.sl T_Place) (.all .b), .val false TI pF], fun x => 0 ≤ x.2.1 ∧ nxLs mPlc x.2.1 x.1 ≤ 1000000000, fun x => (sInt .i64 (hdLs mPlc x.2.1 x.1), [])⟩
theorem cHdPls_ok : CtrOk Proofs.Tryd.prog cHdPls := by
 have hP := (Prg.none ttok mtok)
 refine ctr_of_body hP cHdPls (fn := Proofs.Tryd.f67) (rts := [.tmp 4]) Proofs.Tryd.func67 rfl (by kernel_rfl) rfl rfl ?_
 rintro ⟨(l : List Plc), (k : Int), ⟨⟩⟩ ⟨hdl, _⟩ ⟨h0, h1⟩
 try dsimp only [Ty.den, Mode.den, mdens] at h0
 try dsimp only [Ty.den, Mode.den, mdens] at h1
 refine ⟨rfl, ?_⟩
 have hml : l.length ≤ 140737488355328 := hdl.1
 replace h0 : 0 ≤ k := h0
 replace h1 : nxLs mPlc k l ≤ 1000000000 := h1
 refine sw_seq (xr hP 1 rfl (sw_seq (sw_seq (xr hP 2 rfl (sw_block (sw_loop (ι := Nat × Int) (fun ⟨i, q⟩ => ⟨[.v false [.d (.sl T_Place) (.all .b) l], sInt .i64 q, .j, .j, .j, sInt .i64 (i : Int), .j, .j, .j, .j, .j, .j, .j, .j, .j, .j, .j, .j, .j, .j, .j, .j, .j, .j, .j, .j, .j, .j, .j, .j, .j], [], 2, []⟩) (fun ⟨i, q⟩ => l.length - i) (fun ⟨i, q⟩ => i ≤ l.length ∧ 0 ≤ q ∧ hdLs mPlc q (l.drop i) = hdLs mPlc k l ∧ nxLs mPlc q (l.drop i) ≤ 1000000000) (0, k) ⟨?_, ?_⟩ ?_))))))
 ·exact ⟨Nat.zero_le _, h0, rfl, h1⟩
 ·refine ent_ok rfl ?_
  simp [conj]
 ·rintro ⟨i, q⟩ ⟨hi, hq, hgo, hb⟩
  refine sw_seq (sw_seq (xr hP 3 rfl (sw_cond rfl (fun c2 => ?_) (fun c2 => ?_))))
  ·have hlt : i < l.length := by simpa using c2
   obtain ⟨s1, s2, s3⟩ := nx_drop mPlc_ok (q := q) hlt
   rw [s1] at hb
   have hp0 : ¬ q + 1 < 0 := by omega
   replace s2 : q ≤ q + 1 + 1 := s2
   replace s3 : q + 1 + 1 ≤ nxLs mPlc (q + 1 + 1) (l.drop (i + 1)) := s3
   replace hb : nxLs mPlc (q + 1 + 1) (l.drop (i + 1)) ≤ 1000000000 := hb
   refine sw_skip (sw_seq (sw_block (sw_seq (sw_seq (xg hP 4 [] rfl ?_ ?_)))))
   ·simp [conj, gE hlt]
    repeat' apply And.intro
    all_goals first | trivial | assumption | omega
   refine sw_cond rfl (fun c4 => ?_) (fun c4 => ?_)
   ·replace c4 : ¬ l[i].1 = q := by simpa [gE hlt] using c4
    have hn : mPlc.hd q l[i] < 0 := by simp [mPlc, mkPair, mkI, mkStr, mkBool, mkOne, mkList, mkNo, c4, hp0]
    refine sw_seq (xg hP 5 [] rfl ?_ ?_)
    ·simp [conj, gE hlt]
     repeat' apply And.intro
     all_goals first | trivial | assumption | omega
    refine sw_ret ⟨.inl rfl, _, rfl, ?_⟩
    simp [conj]
    exact (hd_hit hlt hgo hn).symm
   ·replace c4 : l[i].1 = q := by simpa [gE hlt] using c4
    refine sw_skip (sw_seq (xg hP 5 [] rfl ?_ ?_))
    ·simp [conj, gE hlt]
     repeat' apply And.intro
     all_goals first | trivial | assumption | omega
    refine sw_seq (sw_seq (xg hP 6 [] rfl ?_ ?_))
    ·simp [conj, gE hlt]
     repeat' apply And.intro
     all_goals first | trivial | assumption | omega
    refine sw_cond rfl (fun c7 => ?_) (fun c7 => ?_)
    ·replace c7 : ¬ l[i].2 = q + 1 := by simpa [gE hlt] using c7
     have hn : mPlc.hd q l[i] < 0 := by simp [mPlc, mkPair, mkI, mkStr, mkBool, mkOne, mkList, mkNo, c4, c7, hp0]
     refine sw_seq (xg hP 7 [] rfl ?_ ?_)
     ·simp [conj, gE hlt]
      repeat' apply And.intro
      all_goals first | trivial | assumption | omega
     refine sw_ret ⟨.inl rfl, _, rfl, ?_⟩
     simp [conj]
     exact (hd_hit hlt hgo hn).symm
    ·replace c7 : l[i].2 = q + 1 := by simpa [gE hlt] using c7
     have hv : mPlc.hd q l[i] = q + 1 + 1 := by simp [mPlc, mkPair, mkI, mkStr, mkBool, mkOne, mkList, mkNo, c4, c7, hp0]
     refine sw_skip (xg hP 7 [] rfl ?_ ?_)
     ·simp [conj, gE hlt]
      repeat' apply And.intro
      all_goals first | trivial | assumption | omega
     refine xg hP 8 [] rfl ?_ ?_
     ·simp only [cj, cl]
      try dsimp only [Ty.den, Ty.dflt]
      repeat' apply And.intro
      all_goals first | rfl | omega | assumption | trivial
     refine ⟨(i + 1, q + 1 + 1), ?_, ?_, ent_ok rfl ?_⟩
     ·have hnn : ¬ mPlc.hd q l[i] < 0 := by rw [hv]; omega
      have hgn := hd_next hlt hgo hnn
      have hpo := hd_pos mPlc_ok hnn
      have hbn : nxLs mPlc (q + 1 + 1) (l.drop (i + 1)) ≤ 1000000000 := by rw [← hv, hpo]; exact hb
      rw [hv] at hgn
      exact ⟨hlt, by show 0 ≤ q + 1 + 1; omega, hgn, hbn⟩
     ·show l.length - (i + 1) < l.length - i
      omega
     ·simp [conj, gE hlt]
  ·obtain rfl : i = l.length := by simp at c2; omega
   refine sw_exit (sw_seq (xr hP 4 rfl (sw_ret ⟨.inl rfl, _, rfl, ?_⟩)))
   simp [conj]
   exact (hd_end hgo).symm
def cHdPtrs : Ctr := ⟨56, [.val false (.sl T_Ptr) (.all .b), .val false TI pF], fun x => 0 ≤ x.2.1 ∧ nxLs mPtr x.2.1 x.1 ≤ 1000000000, fun x => (sInt .i64 (hdLs mPtr x.2.1 x.1), [])⟩
theorem cHdPtrs_ok : CtrOk Proofs.Tryd.prog cHdPtrs := by
 have hP := ((Prg.none ttok mtok).and cHdPls_ok)
 refine ctr_of_body hP cHdPtrs (fn := Proofs.Tryd.f56) (rts := [.tmp 4]) Proofs.Tryd.func56 rfl (by kernel_rfl) rfl rfl ?_
 rintro ⟨(l : List Ptr_), (k : Int), ⟨⟩⟩ ⟨hdl, _⟩ ⟨h0, h1⟩
 try dsimp only [Ty.den, Mode.den, mdens] at h0
 try dsimp only [Ty.den, Mode.den, mdens] at h1
 refine ⟨rfl, ?_⟩
 have hml : l.length ≤ 140737488355328 := hdl.1
 replace h0 : 0 ≤ k := h0
 replace h1 : nxLs mPtr k l ≤ 1000000000 := h1
 refine sw_seq (xr hP 1 rfl (sw_seq (sw_seq (xr hP 2 rfl (sw_block (sw_loop (ι := Nat × Int) (fun ⟨i, q⟩ => ⟨[.v false [.d (.sl T_Ptr) (.all .b) l], sInt .i64 q, .j, .j, .j, sInt .i64 (i : Int), .j, .j, .j, .j, .j, .j, .j, .j, .j, .j, .j, .j, .j, .j, .j, .j, .j, .j, .j, .j, .j, .j, .j, .j, .j, .j, .j, .j, .j, .j, .j, .j, .j, .j], [], 2, []⟩) (fun ⟨i, q⟩ => l.length - i) (fun ⟨i, q⟩ => i ≤ l.length ∧ 0 ≤ q ∧ hdLs mPtr q (l.drop i) = hdLs mPtr k l ∧ nxLs mPtr q (l.drop i) ≤ 1000000000) (0, k) ⟨?_, ?_⟩ ?_))))))
 ·exact ⟨Nat.zero_le _, h0, rfl, h1⟩
 ·refine ent_ok rfl ?_
  simp [conj]
 ·rintro ⟨i, q⟩ ⟨hi, hq, hgo, hb⟩
  refine sw_seq (sw_seq (xr hP 3 rfl (sw_cond rfl (fun c2 => ?_) (fun c2 => ?_))))
  ·have hlt : i < l.length := by simpa using c2
   obtain ⟨s1, s2, s3⟩ := nx_drop mPtr_ok (q := q) hlt
   rw [s1] at hb
   have hp0 : ¬ q + 1 < 0 := by omega
   have hp1 : ¬ q + 1 + 1 < 0 := by omega
   have s4 : q + 1 + 1 ≤ nxLs mPlc (q + 1 + 1) l[i].2.2 := (mkList_ok mPlc_ok).ge _ _
   replace s3 : nxLs mPlc (q + 1 + 1) l[i].2.2 ≤ nxLs mPtr (nxLs mPlc (q + 1 + 1) l[i].2.2) (l.drop (i + 1)) := s3
   have hb2 : nxLs mPtr (nxLs mPlc (q + 1 + 1) l[i].2.2) (l.drop (i + 1)) ≤ 1000000000 := hb
   refine sw_skip (sw_seq (sw_block (sw_seq (sw_seq (xg hP 4 [] rfl ?_ ?_)))))
   ·simp [conj, gE hlt]
    repeat' apply And.intro
    all_goals first | trivial | assumption | omega | (show 0 ≤ q + 1 + 1; omega) | (show nxLs mPlc (q + 1 + 1) l[i].2.2 ≤ _; omega)
   refine sw_cond rfl (fun c4 => ?_) (fun c4 => ?_)
   ·replace c4 : ¬ l[i].1 = q := by simpa [gE hlt] using c4
    have hn : mPtr.hd q l[i] < 0 := by simp [mPtr, mkPair, mkI, mkStr, mkBool, mkOne, mkList, mkNo, c4, hp0, hp1]
    refine sw_seq (xg hP 5 [] rfl ?_ ?_)
    ·simp [conj, gE hlt]
     repeat' apply And.intro
     all_goals first | trivial | assumption | omega | (show 0 ≤ q + 1 + 1; omega) | (show nxLs mPlc (q + 1 + 1) l[i].2.2 ≤ _; omega)
    refine sw_ret ⟨.inl rfl, _, rfl, ?_⟩
    simp [conj]
    exact (hd_hit hlt hgo hn).symm
   ·replace c4 : l[i].1 = q := by simpa [gE hlt] using c4
    refine sw_skip (sw_seq (xg hP 5 [] rfl ?_ ?_))
    ·simp [conj, gE hlt]
     repeat' apply And.intro
     all_goals first | trivial | assumption | omega | (show 0 ≤ q + 1 + 1; omega) | (show nxLs mPlc (q + 1 + 1) l[i].2.2 ≤ _; omega)
    refine sw_seq (sw_seq (xg hP 6 [] rfl ?_ ?_))
    ·simp [conj, gE hlt]
     repeat' apply And.intro
     all_goals first | trivial | assumption | omega | (show 0 ≤ q + 1 + 1; omega) | (show nxLs mPlc (q + 1 + 1) l[i].2.2 ≤ _; omega)
    refine sw_cond rfl (fun c7 => ?_) (fun c7 => ?_)
    ·replace c7 : ¬ l[i].2.1 = q + 1 := by simpa [gE hlt] using c7
     have hn : mPtr.hd q l[i] < 0 := by simp [mPtr, mkPair, mkI, mkStr, mkBool, mkOne, mkList, mkNo, c4, c7, hp0, hp1]
     refine sw_seq (xg hP 7 [] rfl ?_ ?_)
     ·simp [conj, gE hlt]
      repeat' apply And.intro
      all_goals first | trivial | assumption | omega | (show 0 ≤ q + 1 + 1; omega) | (show nxLs mPlc (q + 1 + 1) l[i].2.2 ≤ _; omega)
     refine sw_ret ⟨.inl rfl, _, rfl, ?_⟩
     simp [conj]
     exact (hd_hit hlt hgo hn).symm
    ·replace c7 : l[i].2.1 = q + 1 := by simpa [gE hlt] using c7
     refine sw_skip (sw_seq (xg hP 7 [] rfl ?_ ?_))
     ·simp [conj, gE hlt]
      repeat' apply And.intro
      all_goals first | trivial | assumption | omega | (show 0 ≤ q + 1 + 1; omega) | (show nxLs mPlc (q + 1 + 1) l[i].2.2 ≤ _; omega)
     refine sw_seq (xg hP 8 [] rfl ?_ ?_)
     ·simp [conj, gE hlt]
      repeat' apply And.intro
      all_goals first | trivial | assumption | omega | (show 0 ≤ q + 1 + 1; omega) | (show nxLs mPlc (q + 1 + 1) l[i].2.2 ≤ _; omega)
     refine sw_seq (xg hP 9 [] rfl ?_ ?_)
     ·simp [conj, gE hlt]
      repeat' apply And.intro
      all_goals first | trivial | assumption | omega | (show 0 ≤ q + 1 + 1; omega) | (show nxLs mPlc (q + 1 + 1) l[i].2.2 ≤ _; omega)
     refine sw_cond rfl (fun c11 => ?_) (fun c11 => ?_)
     ·replace c11 : hdLs mPlc (q + 1 + 1) l[i].2.2 < 0 := by simpa [gE hlt] using c11
      have hn : mPtr.hd q l[i] < 0 := by simp [mPtr, mkPair, mkI, mkStr, mkBool, mkOne, mkList, mkNo, c4, c7, c11, hp0, hp1]
      refine sw_seq (xg hP 10 [] rfl ?_ ?_)
      ·simp [conj, gE hlt]
       repeat' apply And.intro
       all_goals first | trivial | assumption | omega | (show 0 ≤ q + 1 + 1; omega) | (show nxLs mPlc (q + 1 + 1) l[i].2.2 ≤ _; omega)
      refine sw_ret ⟨.inl rfl, _, rfl, ?_⟩
      simp [conj]
      exact (hd_hit hlt hgo hn).symm
     ·replace c11 : ¬ hdLs mPlc (q + 1 + 1) l[i].2.2 < 0 := by simpa [gE hlt] using c11
      have e0 := hd_pos (mkList_ok mPlc_ok) c11
      have hv : mPtr.hd q l[i] = hdLs mPlc (q + 1 + 1) l[i].2.2 := by simp [mPtr, mkPair, mkI, mkStr, mkBool, mkOne, mkList, mkNo, c4, c7, c11, hp0, hp1]
      refine sw_skip (xg hP 10 [] rfl ?_ ?_)
      ·simp only [cj, cl]
       try dsimp only [Ty.den, Ty.dflt]
       repeat' apply And.intro
       all_goals first | rfl | omega | assumption | trivial
      refine ⟨(i + 1, hdLs mPlc (q + 1 + 1) l[i].2.2), ?_, ?_, ent_ok rfl ?_⟩
      ·have hnn : ¬ mPtr.hd q l[i] < 0 := by rw [hv]; omega
       have hgn := hd_next hlt hgo hnn
       have hpo := hd_pos mPtr_ok hnn
       have hbn : nxLs mPtr (hdLs mPlc (q + 1 + 1) l[i].2.2) (l.drop (i + 1)) ≤ 1000000000 := by rw [← hv, hpo]; exact hb
       rw [hv] at hgn
       exact ⟨hlt, by show 0 ≤ hdLs mPlc (q + 1 + 1) l[i].2.2; omega, hgn, hbn⟩
      ·show l.length - (i + 1) < l.length - i
       omega
      ·simp [conj, gE hlt]
  ·obtain rfl : i = l.length := by simp at c2; omega
   refine sw_exit (sw_seq (xr hP 4 rfl (sw_ret ⟨.inl rfl, _, rfl, ?_⟩)))
   simp [conj]
   exact (hd_end hgo).symm
def cHdVols : Ctr := ⟨38, [.val false (.sl T_Vol) (.all .b), .val false TI pF], fun x => 0 ≤ x.2.1 ∧ nxLs mVol x.2.1 x.1 ≤ 1000000000, fun x => (sInt .i64 (hdLs mVol x.2.1 x.1), [])⟩
theorem cHdVols_ok : CtrOk Proofs.Tryd.prog cHdVols := by
 have hP := (((Prg.none ttok mtok).and cMkT_ok).and cHdPtrs_ok)
 refine ctr_of_body hP cHdVols (fn := Proofs.Tryd.f38) (rts := [.tmp 4]) Proofs.Tryd.func38 rfl (by kernel_rfl) rfl rfl ?_
 rintro ⟨(l : List Vol_), (k : Int), ⟨⟩⟩ ⟨hdl, _⟩ ⟨h0, h1⟩
 try dsimp only [Ty.den, Mode.den, mdens] at h0
 try dsimp only [Ty.den, Mode.den, mdens] at h1
 refine ⟨rfl, ?_⟩
 have hml : l.length ≤ 140737488355328 := hdl.1
 replace h0 : 0 ≤ k := h0
 replace h1 : nxLs mVol k l ≤ 1000000000 := h1
 refine sw_seq (xr hP 1 rfl (sw_seq (sw_seq (xr hP 2 rfl (sw_block (sw_loop (ι := Nat × Int) (fun ⟨i, q⟩ => ⟨[.v false [.d (.sl T_Vol) (.all .b) l], sInt .i64 q, .j, .j, .j, sInt .i64 (i : Int), .j, .j, .j, .j, .j, .j, .j, .j, .j, .j, .j, .j, .j, .j, .j, .j, .j, .j, .j, .j, .j, .j, .j, .j, .j, .j], [], 2, []⟩) (fun ⟨i, q⟩ => l.length - i) (fun ⟨i, q⟩ => i ≤ l.length ∧ 0 ≤ q ∧ hdLs mVol q (l.drop i) = hdLs mVol k l ∧ nxLs mVol q (l.drop i) ≤ 1000000000) (0, k) ⟨?_, ?_⟩ ?_))))))
 ·exact ⟨Nat.zero_le _, h0, rfl, h1⟩
 ·refine ent_ok rfl ?_
  simp [conj]
 ·rintro ⟨i, q⟩ ⟨hi, hq, hgo, hb⟩
  refine sw_seq (sw_seq (xr hP 3 rfl (sw_cond rfl (fun c2 => ?_) (fun c2 => ?_))))
  ·have hlt : i < l.length := by simpa using c2
   obtain ⟨s1, s2, s3⟩ := nx_drop mVol_ok (q := q) hlt
   rw [s1] at hb
   have hp0 : ¬ q + 1 < 0 := by omega
   have s4 : q + 1 ≤ nxLs mPtr (q + 1) l[i].2 := (mkList_ok mPtr_ok).ge _ _
   replace s3 : nxLs mPtr (q + 1) l[i].2 ≤ nxLs mVol (nxLs mPtr (q + 1) l[i].2) (l.drop (i + 1)) := s3
   have hb2 : nxLs mVol (nxLs mPtr (q + 1) l[i].2) (l.drop (i + 1)) ≤ 1000000000 := hb
   refine sw_skip (sw_seq (sw_block (sw_seq (sw_seq (xg hP 4 [] rfl ?_ ?_)))))
   ·simp [conj, gE hlt]
    repeat' apply And.intro
    all_goals first | trivial | assumption | omega | (show q ≤ 1099511627776; omega) | (show 0 ≤ q + 1; omega) | (show nxLs mPtr (q + 1) l[i].2 ≤ _; omega)
   refine sw_cond rfl (fun c4 => ?_) (fun c4 => ?_)
   ·replace c4 : ¬ l[i].1 = mkT q := by simpa [gE hlt] using c4
    have hn : mVol.hd q l[i] < 0 := by simp [mVol, mkPair, mkI, mkStr, mkBool, mkOne, mkList, mkNo, c4, hp0]
    refine sw_seq (xg hP 5 [] rfl ?_ ?_)
    ·simp [conj, gE hlt]
     repeat' apply And.intro
     all_goals first | trivial | assumption | omega | (show q ≤ 1099511627776; omega) | (show 0 ≤ q + 1; omega) | (show nxLs mPtr (q + 1) l[i].2 ≤ _; omega)
    refine sw_ret ⟨.inl rfl, _, rfl, ?_⟩
    simp [conj]
    exact (hd_hit hlt hgo hn).symm
   ·replace c4 : l[i].1 = mkT q := by simpa [gE hlt] using c4
    refine sw_skip (sw_seq (xg hP 5 [] rfl ?_ ?_))
    ·simp [conj, gE hlt]
     repeat' apply And.intro
     all_goals first | trivial | assumption | omega | (show q ≤ 1099511627776; omega) | (show 0 ≤ q + 1; omega) | (show nxLs mPtr (q + 1) l[i].2 ≤ _; omega)
    refine sw_seq (xg hP 6 [] rfl ?_ ?_)
    ·simp [conj, gE hlt]
     repeat' apply And.intro
     all_goals first | trivial | assumption | omega | (show q ≤ 1099511627776; omega) | (show 0 ≤ q + 1; omega) | (show nxLs mPtr (q + 1) l[i].2 ≤ _; omega)
    refine sw_seq (xg hP 7 [] rfl ?_ ?_)
    ·simp [conj, gE hlt]
     repeat' apply And.intro
     all_goals first | trivial | assumption | omega | (show q ≤ 1099511627776; omega) | (show 0 ≤ q + 1; omega) | (show nxLs mPtr (q + 1) l[i].2 ≤ _; omega)
    refine sw_cond rfl (fun c8 => ?_) (fun c8 => ?_)
    ·replace c8 : hdLs mPtr (q + 1) l[i].2 < 0 := by simpa [gE hlt] using c8
     have hn : mVol.hd q l[i] < 0 := by simp [mVol, mkPair, mkI, mkStr, mkBool, mkOne, mkList, mkNo, c4, c8, hp0]
     refine sw_seq (xg hP 8 [] rfl ?_ ?_)
     ·simp [conj, gE hlt]
      repeat' apply And.intro
      all_goals first | trivial | assumption | omega | (show q ≤ 1099511627776; omega) | (show 0 ≤ q + 1; omega) | (show nxLs mPtr (q + 1) l[i].2 ≤ _; omega)
     refine sw_ret ⟨.inl rfl, _, rfl, ?_⟩
     simp [conj]
     exact (hd_hit hlt hgo hn).symm
    ·replace c8 : ¬ hdLs mPtr (q + 1) l[i].2 < 0 := by simpa [gE hlt] using c8
     have e0 := hd_pos (mkList_ok mPtr_ok) c8
     have hv : mVol.hd q l[i] = hdLs mPtr (q + 1) l[i].2 := by simp [mVol, mkPair, mkI, mkStr, mkBool, mkOne, mkList, mkNo, c4, c8, hp0]
     refine sw_skip (xg hP 8 [] rfl ?_ ?_)
     ·simp only [cj, cl]
      try dsimp only [Ty.den, Ty.dflt]
      repeat' apply And.intro
      all_goals first | rfl | omega | assumption | trivial
     refine ⟨(i + 1, hdLs mPtr (q + 1) l[i].2), ?_, ?_, ent_ok rfl ?_⟩
     ·have hnn : ¬ mVol.hd q l[i] < 0 := by rw [hv]; omega
      have hgn := hd_next hlt hgo hnn
      have hpo := hd_pos mVol_ok hnn
      have hbn : nxLs mVol (hdLs mPtr (q + 1) l[i].2) (l.drop (i + 1)) ≤ 1000000000 := by rw [← hv, hpo]; exact hb
      rw [hv] at hgn
      exact ⟨hlt, by show 0 ≤ hdLs mPtr (q + 1) l[i].2; omega, hgn, hbn⟩
     ·show l.length - (i + 1) < l.length - i
      omega
     ·simp [conj, gE hlt]
  ·obtain rfl : i = l.length := by simp at c2; omega
   refine sw_exit (sw_seq (xr hP 4 rfl (sw_ret ⟨.inl rfl, _, rfl, ?_⟩)))
   simp [conj]
   exact (hd_end hgo).symm
def cHdRoot : Ctr := ⟨21, [.val true T_Root (.all .b), .val false TI pF], fun x => 0 ≤ x.2.1 ∧ nxLs mVol x.2.1 x.1.2 ≤ 1000000000, fun x => (sInt .i64 (hdLs mVol x.2.1 x.1.2), [])⟩
theorem cHdRoot_ok : CtrOk Proofs.Tryd.prog cHdRoot := by
 have hP := ((Prg.none ttok mtok).and cHdVols_ok)
 refine ctr_of_body hP cHdRoot (fn := Proofs.Tryd.f21) (rts := [.tmp 4]) Proofs.Tryd.func21 rfl (by kernel_rfl) rfl rfl ?_
 rintro ⟨⟨(tg : Int), (l : List Vol_)⟩, (k : Int), ⟨⟩⟩ _ ⟨h0, h1⟩
 try dsimp only [Ty.den, Mode.den, mdens] at h0
 try dsimp only [Ty.den, Mode.den, mdens] at h1
 refine ⟨rfl, ?_⟩
 replace h0 : 0 ≤ k := h0
 refine sw_seq (xr hP 1 rfl (sw_seq (xg hP 2 [] rfl ?_ ?_)))
 ·simp [conj, maxL]
  try dsimp only [Ty.den, Ty.dflt]
  try simp only [rd_eta]
  exact ⟨h0, h1⟩
 refine sw_seq (sw_seq (xr hP 3 rfl (sw_cond rfl (fun c2 => ?_) (fun c2 => ?_))))
 ·replace c2 : hdLs mVol k l < 0 := of_decide_eq_true c2
  have hv : hdLs mVol k l = -1 := hd_neg (mkList_ok mVol_ok) h0 c2
  refine sw_seq (xr hP 4 rfl (sw_ret ⟨.inl rfl, _, rfl, ?_⟩))
  simp [conj]
  exact hv.symm
 ·refine sw_skip (sw_seq (xr hP 4 rfl (sw_ret ⟨.inl rfl, _, rfl, ?_⟩)))
  simp [conj]
end Go.Sx
