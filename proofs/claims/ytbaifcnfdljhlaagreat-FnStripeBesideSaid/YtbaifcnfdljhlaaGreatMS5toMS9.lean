/- Several texts, one behind the other. -/
import Derived.Test.YtbaifcnfdljhlaaGreatMD5toMD8
import Derived.Test.YtbaifcnfdljhlaaGreatMPstoMD4
import Derived.Test.YtbaifcnfdljhlaaGreatMOpentoMPr
set_option linter.all false
namespace Go.Sx
open Go
set_option maxRecDepth 100000
set_option linter.unusedVariables false
set_option linter.unusedSimpArgs false
set_option maxHeartbeats 4000000
def cNewS : Ctr := ⟨75, [.val false TI pF], fun x => 0 ≤ x.1 ∧ x.1 ≤ 2, fun x => (.v true [.d TI pF (newD x.1).1, .own ⟨1, 0, 0⟩, .own ⟨1, 1, 0⟩, .own ⟨1, 2, 0⟩, .own ⟨1, 3, 0⟩], [(⟨1, 0, 0⟩, .sl .str (.all .w) (newD x.1).2.1), (⟨1, 1, 0⟩, .sl .str (.all .w) (newD x.1).2.2.1), (⟨1, 2, 0⟩, .sl .bool (.all .w) (newD x.1).2.2.2.1), (⟨1, 3, 0⟩, .sl T_Put (.all .w) (newD x.1).2.2.2.2)])⟩
theorem cNewS_ok : CtrOk Proofs.Tryz.prog cNewS := by
 have hP := ((Prg.none ttok mtok).and cIn_ok)
 refine ctr_of_body hP cNewS (fn := Proofs.Tryz.f75) (rts := [.cell 2 38]) Proofs.Tryz.func75 rfl (by kernel_rfl) rfl rfl ?_
 rintro ⟨(n : Int), ⟨⟩⟩ _ ⟨h0, h1⟩
 try dsimp only [Ty.den, Mode.den, mdens] at h0
 try dsimp only [Ty.den, Mode.den, mdens] at h1
 refine ⟨rfl, ?_⟩
 refine sw_seq (xr hP 1 rfl (sw_seq (sw_seq (xg hP 2 [] rfl ?_ ?_))))
 ·simp [conj, maxL]
  try dsimp only [Ty.den, Ty.dflt]
  try simp only [rd_eta]
  try trivial
 refine sw_cond rfl (fun c1 => ?_) (fun c1 => ?_)
 ·have h : (!inV n 0 2) = true := c1
  simp [inV] at h
  omega
 ·refine sw_skip (sw_seq (xg hP 3 [] rfl ?_ ?_))
  ·simp only [conj, List.nil_append, List.cons_append, List.append_nil, List.append_assoc, inR_i64, true_and, and_true, Int.toNat_natCast]
   try dsimp only [Ty.den, Ty.dflt]
   repeat' apply And.intro
   all_goals first | rfl | omega | assumption | trivial
  refine sw_ret ⟨.inl rfl, _, rfl, ?_⟩
  simp [conj, newD]
def cSpoil : Ctr := ⟨80, [.own true T_Disk (.all .w), .val false TI pF, .val false TI pF, .val false TI pF], fun x => (drvOf x.1).ok ∧ 0 ≤ x.2.1 ∧ x.2.1 < 12 ∧ 0 ≤ x.2.2.1 ∧ x.2.2.1 < 3 ∧ 0 ≤ x.2.2.2.1 ∧ x.2.2.2.1 ≤ 255 ∧ x.1.2.1.all colS = true, fun x => (.v true [.d TI pF (spoilV x.1 x.2.1 x.2.2.1 x.2.2.2.1).1, .own ⟨1, 0, 0⟩, .own ⟨1, 1, 0⟩, .own ⟨1, 2, 0⟩, .own ⟨1, 3, 0⟩], [(⟨1, 0, 0⟩, .sl .str (.all .w) (spoilV x.1 x.2.1 x.2.2.1 x.2.2.2.1).2.1), (⟨1, 1, 0⟩, .sl .str (.all .w) (spoilV x.1 x.2.1 x.2.2.1 x.2.2.2.1).2.2.1), (⟨1, 2, 0⟩, .sl .bool (.all .w) (spoilV x.1 x.2.1 x.2.2.1 x.2.2.2.1).2.2.2.1), (⟨1, 3, 0⟩, .sl T_Put (.all .w) (spoilV x.1 x.2.1 x.2.2.1 x.2.2.2.1).2.2.2.2)])⟩
theorem cSpoil_ok : CtrOk Proofs.Tryz.prog cSpoil := by
 have hP := (Prg.none ttok mtok)
 refine ctr_of_body hP cSpoil (fn := Proofs.Tryz.f80) (rts := [.cell 8 38]) Proofs.Tryz.func80 rfl (by kernel_rfl) rfl rfl ?_
 rintro ⟨⟨(st : Int), (sl : List Str), (rg : List Str), (sp : List Bool), (wt : List Put)⟩, (a : Int), (b : Int), (c : Int), ⟨⟩⟩ _ ⟨ho, a0, a1, b0, b1, c0, c1_, hs⟩
 try dsimp only [Ty.den, Mode.den, mdens] at ho
 try dsimp only [Ty.den, Mode.den, mdens] at a0
 try dsimp only [Ty.den, Mode.den, mdens] at a1
 try dsimp only [Ty.den, Mode.den, mdens] at b0
 try dsimp only [Ty.den, Mode.den, mdens] at b1
 try dsimp only [Ty.den, Mode.den, mdens] at c0
 try dsimp only [Ty.den, Mode.den, mdens] at c1_
 try dsimp only [Ty.den, Mode.den, mdens] at hs
 refine ⟨rfl, ?_⟩
 obtain ⟨ho1, ho2, ho3⟩ := ho
 dsimp only [drvOf] at ho1 ho2 ho3
 refine sw_seq (xr hP 1 rfl (sw_seq (sw_seq ?_)))
 refine sw_dec hP 2 [] 6 rfl (fun g1_6 => ?_) (fun g1_6 => ?_)
 ·replace g1_6 : sl.getD a.toNat [] = [] := of_decide_eq_true g1_6
  have hv := spoil_no (d := ((st, sl, rg, sp, wt) : Dsk)) (a := a) (b := b) (c := c) (.inl g1_6)
  refine xg hP 2 [(6, true)] rfl ?_ ?_
  ·simp only [conj, List.nil_append, List.cons_append, List.append_nil, List.append_assoc, inR_i64, true_and, and_true, Int.toNat_natCast]
   try dsimp only [Ty.den, Ty.dflt]
   repeat' apply And.intro
   all_goals first | rfl | omega | assumption | trivial | exact decide_eq_true g1_6 | exact decide_eq_false g1_6
  refine sw_condT rfl (sw_seq (xr hP 3 rfl (sw_ret ⟨.inl rfl, _, rfl, ?_⟩)))
  simp [conj, hv]
 ·replace g1_6 : ¬ sl.getD a.toNat [] = [] := of_decide_eq_false g1_6
  refine xg hP 2 [(6, false)] rfl ?_ ?_
  ·simp only [conj, List.nil_append, List.cons_append, List.append_nil, List.append_assoc, inR_i64, true_and, and_true, Int.toNat_natCast]
   try dsimp only [Ty.den, Ty.dflt]
   repeat' apply And.intro
   all_goals first | rfl | omega | assumption | trivial | exact decide_eq_true g1_6 | exact decide_eq_false g1_6
  refine sw_cond rfl (fun c1 => ?_) (fun c1 => ?_)
  ·replace c1 : sp.getD a.toNat false = true := c1
   have hv := spoil_no (d := ((st, sl, rg, sp, wt) : Dsk)) (a := a) (b := b) (c := c) (.inr c1)
   refine sw_seq (xr hP 3 rfl (sw_ret ⟨.inl rfl, _, rfl, ?_⟩))
   simp [conj, hv]
  ·replace c1 : ¬ sp.getD a.toNat false = true := by have h : sp.getD a.toNat false = false := c1; rw [h]; decide
   have hv := spoil_yes (d := ((st, sl, rg, sp, wt) : Dsk)) (a := a) (b := b) (c := c) g1_6 c1
   have hla : a.toNat < sl.length := by omega
   have hl3 : (sl.getD a.toNat []).length = 3 := by have h := List.all_eq_true.1 hs (sl.getD a.toNat []) (by rw [List.getD_eq_getElem?_getD, gE hla]; exact List.getElem_mem hla); simp [colS, -List.getD_eq_getElem?_getD] at h; exact h.resolve_left g1_6
   have hlb0 : (toBytes (sl.getD a.toNat [])).length = 3 := by simp only [toBytes, List.length_map]; exact hl3
   rw [List.getD_eq_getElem?_getD] at hlb0
   have hlb : (toBytes (sl[a.toNat]?.getD Ty.str.dflt)).length = 3 := hlb0
   refine sw_skip (sw_seq (xg hP 3 [] rfl ?_ ?_))
   ·simp only [conj, List.nil_append, List.cons_append, List.append_nil, List.append_assoc, inR_i64, true_and, and_true, Int.toNat_natCast]
    try dsimp only [Ty.den, Ty.dflt]
    repeat' apply And.intro
    all_goals first | rfl | omega | assumption | trivial
   refine sw_seq (xg hP 4 [] rfl ?_ ?_)
   ·simp [conj, hlb]
    exact ⟨⟨⟨⟨b0, b1⟩, c0, c1_⟩, b0, b1⟩, b1⟩
   refine sw_seq (xg hP 5 [] rfl ?_ ?_)
   ·simp only [conj, List.nil_append, List.cons_append, List.append_nil, List.append_assoc, inR_i64, true_and, and_true, Int.toNat_natCast]
    try dsimp only [Ty.den, Ty.dflt]
    repeat' apply And.intro
    all_goals first | rfl | omega | assumption | trivial
   refine sw_seq (xg hP 6 [] rfl ?_ ?_)
   ·simp only [conj, List.nil_append, List.cons_append, List.append_nil, List.append_assoc, inR_i64, true_and, and_true, Int.toNat_natCast]
    try dsimp only [Ty.den, Ty.dflt]
    repeat' apply And.intro
    all_goals first | rfl | omega | assumption | trivial
   refine sw_seq (xr hP 7 rfl (sw_ret ⟨.inl rfl, _, rfl, ?_⟩))
   simp [conj, hv]
   rfl
def cDPutG : Ctr := ⟨77, [.ref T_l6Rd pF], fun x => ROk x.1 20, fun x => (.v true [.d .bool pF (putG x.1).1, .d TI pF (putG x.1).2.1, .d .str pF (putG x.1).2.2], [(⟨0, 0, 0⟩, rdA (putQ x.1))])⟩
theorem cDPutG_ok : CtrOk Proofs.Tryz.prog cDPutG := by
 have hP := ((((Prg.none ttok mtok).and cPick_ok).and cText_ok).and cSec_ok)
 refine ctr_of_body hP cDPutG (fn := Proofs.Tryz.f77) (rts := [.cell 2 120]) Proofs.Tryz.func77 rfl (by kernel_rfl) rfl rfl ?_
 rintro ⟨(r : Rd), ⟨⟩⟩ _ hpre
 try dsimp only [Ty.den, Mode.den, mdens] at hpre
 refine ⟨rfl, ?_⟩
 replace hpre : ROk r 20 := hpre
 refine sw_seq (xr hP 1 rfl (sw_seq (sw_seq (xg hP 2 [] rfl ?_ ?_))))
 ·simp [conj]
  exact hpre.le (m' := 1) (by omega)
 refine sw_cond rfl (fun c1 => ?_) (fun c1 => ?_)
 ·replace c1 : pk r 4 = 0 := by have h := c1; simpa using h
  have h1 : ROk (nx r) 19 := hpre.nx (by omega)
  have h2 : ROk (nx (nx r)) 18 := h1.nx (by omega)
  have hg : putG r = (true, pk (nx r) 2, textV (nx (nx r)) 6) := by unfold putG; rw [if_pos c1]
  have hR : putQ r = textR (nx (nx r)) 6 := by unfold putQ; rw [if_pos c1]
  refine sw_seq (xg hP 3 [] rfl ?_ ?_)
  ·simp [conj]
   exact ⟨h1.le (m' := 1) (by omega), h2.le (m' := 2 * 6 + 3) (by omega), by show (0 : Int) ≤ 6; decide, by show (6 : Int) ≤ 1000; decide⟩
  refine sw_ret ⟨.inl rfl, _, rfl, ?_⟩
  rw [hg, hR]
  simp [conj]
 ·replace c1 : ¬ pk r 4 = 0 := by have h := c1; simpa using h
  have h1 : ROk (nx r) 19 := hpre.nx (by omega)
  have h2 : ROk (nx (nx r)) 18 := h1.nx (by omega)
  have hg : putG r = (false, pk (nx r) 12, secT (textV (nx (nx r)) 3)) := by unfold putG; rw [if_neg c1]
  have hR : putQ r = textR (nx (nx r)) 3 := by unfold putQ; rw [if_neg c1]
  refine sw_skip (sw_seq (xg hP 3 [] rfl ?_ ?_))
  ·simp [conj]
   exact ⟨⟨h1.le (m' := 1) (by omega), h2.le (m' := 2 * 3 + 3) (by omega), by show (0 : Int) ≤ 3; decide, by show (3 : Int) ≤ 1000; decide⟩, trivial⟩
  refine sw_ret ⟨.inl rfl, _, rfl, ?_⟩
  rw [hg, hR]
  simp [conj]
def cDraw : Ctr := ⟨39, [.ref T_l6Rd pF], fun x => ROk x.1 3000, fun x => (.v true [.d TI pF (drawD x.1).1, .own ⟨1, 0, 0⟩, .own ⟨1, 1, 0⟩, .own ⟨1, 2, 0⟩, .own ⟨1, 3, 0⟩], [(⟨0, 0, 0⟩, rdA (drawR x.1)), (⟨1, 0, 0⟩, .sl .str (.all .w) (drawD x.1).2.1), (⟨1, 1, 0⟩, .sl .str (.all .w) (drawD x.1).2.2.1), (⟨1, 2, 0⟩, .sl .bool (.all .w) (drawD x.1).2.2.2.1), (⟨1, 3, 0⟩, .sl T_Put (.all .w) (drawD x.1).2.2.2.2)])⟩
theorem cDraw_ok : CtrOk Proofs.Tryz.prog cDraw := by
 have hP := (((((((Prg.none ttok mtok).and cPick_ok).and cDPutG_ok).and cNewS_ok).and cFlushS_ok).and cWriteS_ok).and cSpoil_ok)
 refine ctr_of_body hP cDraw (fn := Proofs.Tryz.f39) (rts := [.cell 2 38]) Proofs.Tryz.func39 rfl (by kernel_rfl) rfl rfl ?_
 rintro ⟨(r : Rd), ⟨⟩⟩ _ hpre
 try dsimp only [Ty.den, Mode.den, mdens] at hpre
 refine ⟨rfl, ?_⟩
 replace hpre : ROk r 3000 := hpre
 have hb0 := pk_bd hpre (by omega) (n := 4) (by omega)
 have hr1 : ROk (nx r) 2999 := hpre.nx (by omega)
 have hr2 : ROk (nx (nx r)) 2998 := hr1.nx (by omega)
 have hb1 := pk_bd hr1 (by omega) (n := 12) (by omega)
 have hsS := drawS_bd (r := r)
 refine sw_seq (xr hP 1 rfl (sw_seq (xg hP 2 [] rfl ?_ ?_)))
 ·simp only [conj, List.nil_append, List.cons_append, List.append_nil, List.append_assoc, inR_i64, true_and, and_true, Int.toNat_natCast]
  try dsimp only [Ty.den, Ty.dflt]
  repeat' apply And.intro
  all_goals first | trivial | omega | exact hpre.le (m' := 1) (by omega) | exact hb0.1 | exact hb0.2 | (show (pk r 4).toNat < 4; omega) | exact hsS.1 | exact hsS.2
 refine sw_seq (sw_seq (xg hP 3 [] rfl ?_ ?_))
 ·simp only [conj, List.nil_append, List.cons_append, List.append_nil, List.append_assoc, inR_i64, true_and, and_true, Int.toNat_natCast]
  try dsimp only [Ty.den, Ty.dflt]
  repeat' apply And.intro
  all_goals first | trivial | omega | exact hr1.le (m' := 1) (by omega)
 refine sw_block (sw_loop (ι := Nat × Dsk × Rd) (fun ⟨k, d, R⟩ => ⟨[.v false [.ptr ⟨0, 0, 0⟩ 0], .j, .v false [.ptr ⟨1, 0, 0⟩ 0], .v false [.ptr ⟨0, 9, 0⟩ 0], sInt .i64 (k : Int), .j, .j, .j, .j, .j, .j, .j, .j, .j, .j, .j, .j, .j, .j, .j, .j, .j, .j, .j, .j, .j, .j, .j, .j, .j, .j, .j, .j, .j, .j, .j, .j, .j, .j, .j, .j, .j, .j, .j, .j, .j, .j, .j, .j, .j, .j, .j, .j, .j, .j, .j, .j, .j, .j, .j, .j, .j, .j, .j, .j, .j, .j, .j, .j, .j, .j, .j, .j, .j, .j, .j, .j, .j, .j, .j, .j, .j, .j, .j, .j, .j, .j, .j, .j, .j, .j, .j, .j], [(⟨0, 0, 0⟩, rdA R), (⟨0, 9, 0⟩, .var [.d TI pF d.1, .own ⟨0, 9, 1⟩, .own ⟨0, 9, 2⟩, .own ⟨0, 9, 3⟩, .own ⟨0, 9, 4⟩]), (⟨0, 9, 1⟩, .sl .str (.all .w) d.2.1), (⟨0, 9, 2⟩, .sl .str (.all .w) d.2.2.1), (⟨0, 9, 3⟩, .sl .bool (.all .w) d.2.2.2.1), (⟨0, 9, 4⟩, .sl T_Put (.all .w) d.2.2.2.2), (⟨1, 0, 0⟩, .var [.d TI pF 0, .nils, .nils, .nils, .nils])], 3, [[.v false [.ptr ⟨0, 0, 0⟩ 0]]]⟩) (fun ⟨k, d, R⟩ => k) (fun ⟨k, d, R⟩ => DrOk d ∧ ROk R (30 * k + 2000) ∧ k ≤ 12 ∧ loopG k d R = drawL r) ((pk (nx r) 12).toNat, newD (drawS r), nx (nx r)) ⟨?_, ?_⟩ ?_)
 ·exact ⟨newD_ok, hr2.le (by omega), by omega, rfl⟩
 ·refine ent_ok rfl ?_
  simp only [conj, List.nil_append, List.cons_append, List.append_nil, List.append_assoc, inR_i64, true_and, and_true, Int.toNat_natCast]
  try dsimp only [Ty.den, Ty.dflt]
  repeat' apply And.intro
  all_goals first | trivial | omega | rfl | exact (Int.toNat_of_nonneg hb1.1).symm | exact Int.toNat_of_nonneg hb1.1
 ·rintro ⟨k, d, R⟩ ⟨hd, hR, hk, hgo⟩
  refine sw_seq (sw_seq (xr hP 4 rfl (sw_cond rfl (fun c3 => ?_) (fun c3 => ?_))))
  ·obtain ⟨k, rfl⟩ : ∃ m, k = m + 1 := ⟨k - 1, by simp at c3; omega⟩
   have hput := putG_ok hR (by omega)
   have hw1 : DrOk (stD1 d R) := write_DrOk hd hput
   have hR1 : ROk (putQ R) (30 * k + 2010) := putQ_ok hR (by omega) (by omega)
   have hR2 : ROk (nx (putQ R)) (30 * k + 2009) := hR1.nx (by omega)
   refine sw_skip (sw_seq (sw_block (sw_seq (xg hP 5 [] rfl ?_ ?_))))
   ·simp only [conj, List.nil_append, List.cons_append, List.append_nil, List.append_assoc, inR_i64, true_and, and_true, Int.toNat_natCast]
    try dsimp only [Ty.den, Ty.dflt]
    repeat' apply And.intro
    all_goals first | trivial | omega | exact hR.le (m' := 20) (by omega) | exact hd.drv.1 | exact hd.drv.2.1 | exact hd.drv.2.2 | exact hd.drv | exact hd.wait | exact hd.len | exact hd.col
   refine sw_seq (sw_seq (xg hP 6 [] rfl ?_ ?_))
   ·simp only [conj, List.nil_append, List.cons_append, List.append_nil, List.append_assoc, inR_i64, true_and, and_true, Int.toNat_natCast]
    try dsimp only [Ty.den, Ty.dflt]
    repeat' apply And.intro
    all_goals first | trivial | omega | exact hR1.le (m' := 1) (by omega)
   refine sw_cond rfl (fun c6 => ?_) (fun c6 => ?_)
   ·replace c6 : pk (putQ R) 3 = 0 := of_decide_eq_true c6
    have hs2 : stD2 (stD1 d R) (putQ R) = dskOf (stD1 d R).1 (comes (stD1 d R).2.2.2.2 (drvOf (stD1 d R))) [] := if_pos c6
    have hw2 := flush_DrOk hw1
    refine xg hP 7 [] rfl ?_ ?_
    ·simp only [conj, List.nil_append, List.cons_append, List.append_nil, List.append_assoc, inR_i64, true_and, and_true, Int.toNat_natCast]
     try dsimp only [Ty.den, Ty.dflt]
     repeat' apply And.intro
     all_goals first | trivial | omega | exact hw1.drv.1 | exact hw1.drv.2.1 | exact hw1.drv.2.2 | exact hw1.drv | exact hw1.wait | exact hw1.len | exact hw1.col
    refine sw_seq (xg hP 8 [] rfl ?_ ?_)
    ·simp only [conj, List.nil_append, List.cons_append, List.append_nil, List.append_assoc, inR_i64, true_and, and_true, Int.toNat_natCast]
     try dsimp only [Ty.den, Ty.dflt]
     repeat' apply And.intro
     all_goals first | trivial | omega | exact hR2.le (m' := 1) (by omega)
    refine sw_cond rfl (fun c8 => ?_) (fun c8 => ?_)
    ·replace c8 : pk (nx (putQ R)) 5 = 0 := of_decide_eq_true c8
     have hS : stD d R = spoilV (stD2 (stD1 d R) (putQ R)) (pk (nx (nx (putQ R))) 12) (pk (nx (nx (nx (putQ R)))) 3) (1 + pk (nx (nx (nx (nx (putQ R))))) 255) := if_pos c8
     rw [hs2] at hS
     have hT : stR R = nx (nx (nx (nx (nx (putQ R))))) := if_pos c8
     have hR3 : ROk (nx (nx (putQ R))) (30 * k + 2008) := hR2.nx (by omega)
     have hR4 : ROk (nx (nx (nx (putQ R)))) (30 * k + 2007) := hR3.nx (by omega)
     have hR5 : ROk (nx (nx (nx (nx (putQ R))))) (30 * k + 2006) := hR4.nx (by omega)
     have hp1 := pk_bd hR3 (by omega) (n := 12) (by omega)
     have hp2 := pk_bd hR4 (by omega) (n := 3) (by omega)
     have hp5 := pk_bd hR5 (by omega) (n := 255) (by omega)
     refine xg hP 9 [] rfl ?_ ?_
     ·simp only [conj, List.nil_append, List.cons_append, List.append_nil, List.append_assoc, inR_i64, true_and, and_true, Int.toNat_natCast]
      try dsimp only [Ty.den, Ty.dflt]
      repeat' apply And.intro
      all_goals first | trivial | omega | exact hR3.le (m' := 1) (by omega) | exact hR4.le (m' := 1) (by omega) | exact hR5.le (m' := 1) (by omega) | exact hp1.1 | exact hp1.2 | exact hp2.1 | exact hp2.2 | (show (0 : Int) ≤ 1 + pk (nx (nx (nx (nx (putQ R))))) 255; omega) | (show 1 + pk (nx (nx (nx (nx (putQ R))))) 255 ≤ 255; omega) | (show -9223372036854775808 ≤ 1 + pk (nx (nx (nx (nx (putQ R))))) 255; omega) | (show 1 + pk (nx (nx (nx (nx (putQ R))))) 255 ≤ 9223372036854775807; omega)| exact hw2.drv.1 | exact hw2.drv.2.1 | exact hw2.drv.2.2 | exact hw2.drv | exact hw2.wait | exact hw2.len | exact hw2.col
     refine xr hP 10 rfl (⟨(k, stD d R, stR R), ?_, ?_, ent_ok rfl ?_⟩)
     ·exact ⟨stD_ok hd hR (by omega), stR_ok hR (by omega) (by omega), by omega, hgo⟩
     ·exact Nat.lt_succ_self k
     ·simp only [conj, List.nil_append, List.cons_append, List.append_nil, List.append_assoc, inR_i64, true_and, and_true, Int.toNat_natCast]
      try dsimp only [Ty.den, Ty.dflt]
      rw [hS, hT]
      repeat' apply And.intro
      all_goals first | rfl | trivial | (push_cast; omega)
    ·replace c8 : ¬ pk (nx (putQ R)) 5 = 0 := of_decide_eq_false c8
     have hS : stD d R = stD2 (stD1 d R) (putQ R) := if_neg c8
     rw [hs2] at hS
     have hT : stR R = nx (nx (putQ R)) := if_neg c8
     refine sw_skip (xr hP 9 rfl (⟨(k, stD d R, stR R), ?_, ?_, ent_ok rfl ?_⟩))
     ·exact ⟨stD_ok hd hR (by omega), stR_ok hR (by omega) (by omega), by omega, hgo⟩
     ·exact Nat.lt_succ_self k
     ·simp only [conj, List.nil_append, List.cons_append, List.append_nil, List.append_assoc, inR_i64, true_and, and_true, Int.toNat_natCast]
      try dsimp only [Ty.den, Ty.dflt]
      rw [hS, hT]
      repeat' apply And.intro
      all_goals first | rfl | trivial | (push_cast; omega)
   ·replace c6 : ¬ pk (putQ R) 3 = 0 := of_decide_eq_false c6
    have hs2 : stD2 (stD1 d R) (putQ R) = stD1 d R := if_neg c6
    have hw2 := hw1
    refine sw_skip (sw_seq (xg hP 7 [] rfl ?_ ?_))
    ·simp only [conj, List.nil_append, List.cons_append, List.append_nil, List.append_assoc, inR_i64, true_and, and_true, Int.toNat_natCast]
     try dsimp only [Ty.den, Ty.dflt]
     repeat' apply And.intro
     all_goals first | trivial | omega | exact hR2.le (m' := 1) (by omega)
    refine sw_cond rfl (fun c8 => ?_) (fun c8 => ?_)
    ·replace c8 : pk (nx (putQ R)) 5 = 0 := of_decide_eq_true c8
     have hS : stD d R = spoilV (stD2 (stD1 d R) (putQ R)) (pk (nx (nx (putQ R))) 12) (pk (nx (nx (nx (putQ R)))) 3) (1 + pk (nx (nx (nx (nx (putQ R))))) 255) := if_pos c8
     rw [hs2] at hS
     have hT : stR R = nx (nx (nx (nx (nx (putQ R))))) := if_pos c8
     have hR3 : ROk (nx (nx (putQ R))) (30 * k + 2008) := hR2.nx (by omega)
     have hR4 : ROk (nx (nx (nx (putQ R)))) (30 * k + 2007) := hR3.nx (by omega)
     have hR5 : ROk (nx (nx (nx (nx (putQ R))))) (30 * k + 2006) := hR4.nx (by omega)
     have hp1 := pk_bd hR3 (by omega) (n := 12) (by omega)
     have hp2 := pk_bd hR4 (by omega) (n := 3) (by omega)
     have hp5 := pk_bd hR5 (by omega) (n := 255) (by omega)
     refine xg hP 8 [] rfl ?_ ?_
     ·simp only [conj, List.nil_append, List.cons_append, List.append_nil, List.append_assoc, inR_i64, true_and, and_true, Int.toNat_natCast]
      try dsimp only [Ty.den, Ty.dflt]
      repeat' apply And.intro
      all_goals first | trivial | omega | exact hR3.le (m' := 1) (by omega) | exact hR4.le (m' := 1) (by omega) | exact hR5.le (m' := 1) (by omega) | exact hp1.1 | exact hp1.2 | exact hp2.1 | exact hp2.2 | (show (0 : Int) ≤ 1 + pk (nx (nx (nx (nx (putQ R))))) 255; omega) | (show 1 + pk (nx (nx (nx (nx (putQ R))))) 255 ≤ 255; omega) | (show -9223372036854775808 ≤ 1 + pk (nx (nx (nx (nx (putQ R))))) 255; omega) | (show 1 + pk (nx (nx (nx (nx (putQ R))))) 255 ≤ 9223372036854775807; omega)| exact hw2.drv.1 | exact hw2.drv.2.1 | exact hw2.drv.2.2 | exact hw2.drv | exact hw2.wait | exact hw2.len | exact hw2.col
     refine xr hP 9 rfl (⟨(k, stD d R, stR R), ?_, ?_, ent_ok rfl ?_⟩)
     ·exact ⟨stD_ok hd hR (by omega), stR_ok hR (by omega) (by omega), by omega, hgo⟩
     ·exact Nat.lt_succ_self k
     ·simp only [conj, List.nil_append, List.cons_append, List.append_nil, List.append_assoc, inR_i64, true_and, and_true, Int.toNat_natCast]
      try dsimp only [Ty.den, Ty.dflt]
      rw [hS, hT]
      repeat' apply And.intro
      all_goals first | rfl | trivial | (push_cast; omega)
    ·replace c8 : ¬ pk (nx (putQ R)) 5 = 0 := of_decide_eq_false c8
     have hS : stD d R = stD2 (stD1 d R) (putQ R) := if_neg c8
     rw [hs2] at hS
     have hT : stR R = nx (nx (putQ R)) := if_neg c8
     refine sw_skip (xr hP 8 rfl (⟨(k, stD d R, stR R), ?_, ?_, ent_ok rfl ?_⟩))
     ·exact ⟨stD_ok hd hR (by omega), stR_ok hR (by omega) (by omega), by omega, hgo⟩
     ·exact Nat.lt_succ_self k
     ·simp only [conj, List.nil_append, List.cons_append, List.append_nil, List.append_assoc, inR_i64, true_and, and_true, Int.toNat_natCast]
      try dsimp only [Ty.den, Ty.dflt]
      rw [hS, hT]
      repeat' apply And.intro
      all_goals first | rfl | trivial | (push_cast; omega)
  ·obtain rfl : k = 0 := by simp at c3; omega
   replace hgo : (d, R) = drawL r := hgo
   have hR1 : ROk (nx R) 1999 := hR.nx (by omega)
   have hR2 : ROk (nx (nx R)) 1998 := hR1.nx (by omega)
   have hp3 := pk_bd hR1 (by omega) (n := 3) (by omega)
   have hp12 := pk_bd hR1 (by omega) (n := 12) (by omega)
   have hq1 : (drawL r).1 = d := by rw [← hgo]
   have hq2 : (drawL r).2 = R := by rw [← hgo]
   have hdd := hd.drv
   obtain ⟨hd1, hd2, hd3⟩ := hdd
   replace hd1 : d.2.1.length = 12 := hd1
   replace hd2 : d.2.2.1.length = 2 := hd2
   replace hd3 : d.2.2.2.1.length = 12 := hd3
   have hd4 := hd.len
   refine sw_exit (sw_seq (sw_seq (xg hP 5 [] rfl ?_ ?_)))
   ·simp only [conj, List.nil_append, List.cons_append, List.append_nil, List.append_assoc, inR_i64, true_and, and_true, Int.toNat_natCast]
    try dsimp only [Ty.den, Ty.dflt]
    repeat' apply And.intro
    all_goals first | trivial | omega | exact hR.le (m' := 1) (by omega)
   refine sw_block (sw_seq (xr hP 6 rfl (sw_cond rfl (fun c11 => ?_) (fun c11 => ?_))))
   ·have z0 : pk R 30 = 0 := of_decide_eq_true c11
    have hD : drawD r = (List.getD [(-1 : Int), 3, 1] (pk (nx R) 3).toNat 0, d.2) := by unfold drawD; rw [hq1, hq2]; unfold harmG; rw [ if_pos z0]
    have hT : drawR r = nx (nx R) := by unfold drawR; rw [hq1, hq2]; unfold harmG; rw [ if_pos z0]
    refine xg hP 7 [] rfl ?_ ?_
    ·simp only [conj, List.nil_append, List.cons_append, List.append_nil, List.append_assoc, inR_i64, true_and, and_true, Int.toNat_natCast]
     try dsimp only [Ty.den, Ty.dflt]
     repeat' apply And.intro
     all_goals first | trivial | omega | exact hR1.le (m' := 1) (by omega) | exact hp3.1 | exact hp3.2 | (show (pk (nx R) 3).toNat < 3; omega)
    refine sw_seq (xr hP 8 rfl (sw_ret ⟨.inl rfl, _, rfl, ?_⟩))
    rw [hD, hT]
    simp [conj]
    try rfl
   ·have z0 : ¬ pk R 30 = 0 := of_decide_eq_false c11
    refine sw_seq (xr hP 7 rfl (sw_cond rfl (fun c13 => ?_) (fun c13 => ?_)))
    ·have z1 : pk R 30 = 1 := of_decide_eq_true c13
     have hD : drawD r = (d.1, d.2.1.set (pk (nx R) 12).toNat abT, d.2.2) := by unfold drawD; rw [hq1, hq2]; unfold harmG; rw [if_neg z0, if_pos z1]
     have hT : drawR r = nx (nx R) := by unfold drawR; rw [hq1, hq2]; unfold harmG; rw [if_neg z0, if_pos z1]
     refine xg hP 8 [] rfl ?_ ?_
     ·simp only [conj, List.nil_append, List.cons_append, List.append_nil, List.append_assoc, inR_i64, true_and, and_true, Int.toNat_natCast]
      try dsimp only [Ty.den, Ty.dflt]
      repeat' apply And.intro
      all_goals first | trivial | omega | exact hR1.le (m' := 1) (by omega) | exact hp12.1 | (show pk (nx R) 12 < ((d.2.1.length : Nat) : Int); omega) | (show (pk (nx R) 12).toNat < d.2.1.length; omega)
     refine sw_seq (xr hP 9 rfl (sw_ret ⟨.inl rfl, _, rfl, ?_⟩))
     rw [hD, hT]
     simp [conj]
     try rfl
    ·have z1 : ¬ pk R 30 = 1 := of_decide_eq_false c13
     refine sw_seq (xr hP 8 rfl (sw_cond rfl (fun c15 => ?_) (fun c15 => ?_)))
     ·have z2 : pk R 30 = 2 := of_decide_eq_true c15
      have hD : drawD r = (d.1, d.2.1, d.2.2.1, d.2.2.2.1.set (pk (nx R) 12).toNat true, d.2.2.2.2) := by unfold drawD; rw [hq1, hq2]; unfold harmG; rw [if_neg z0, if_neg z1, if_pos z2]
      have hT : drawR r = nx (nx R) := by unfold drawR; rw [hq1, hq2]; unfold harmG; rw [if_neg z0, if_neg z1, if_pos z2]
      refine xg hP 9 [] rfl ?_ ?_
      ·simp only [conj, List.nil_append, List.cons_append, List.append_nil, List.append_assoc, inR_i64, true_and, and_true, Int.toNat_natCast]
       try dsimp only [Ty.den, Ty.dflt]
       repeat' apply And.intro
       all_goals first | trivial | omega | exact hR1.le (m' := 1) (by omega) | exact hp12.1 | (show pk (nx R) 12 < ((d.2.2.2.1.length : Nat) : Int); omega) | (show (pk (nx R) 12).toNat < d.2.2.2.1.length; omega)
      refine sw_seq (xr hP 10 rfl (sw_ret ⟨.inl rfl, _, rfl, ?_⟩))
      rw [hD, hT]
      simp [conj]
      try rfl
     ·have z2 : ¬ pk R 30 = 2 := of_decide_eq_false c15
      refine sw_seq (xr hP 9 rfl (sw_cond rfl (fun c17 => ?_) (fun c17 => ?_)))
      ·have z3 : pk R 30 = 3 := of_decide_eq_true c17
       have hD : drawD r = (d.1, d.2.1, d.2.2.1, d.2.2.2.1, d.2.2.2.2 ++ [(false, 12, abcT)]) := by unfold drawD; rw [hq1, hq2]; unfold harmG; rw [if_neg z0, if_neg z1, if_neg z2, if_pos z3]
       have hT : drawR r = nx R := by unfold drawR; rw [hq1, hq2]; unfold harmG; rw [if_neg z0, if_neg z1, if_neg z2, if_pos z3]
       refine xg hP 10 [] rfl ?_ ?_
       ·simp [conj, maxL]
        try omega
       refine sw_seq (xr hP 11 rfl (sw_ret ⟨.inl rfl, _, rfl, ?_⟩))
       rw [hD, hT]
       simp [conj]
       try rfl
      ·have z3 : ¬ pk R 30 = 3 := of_decide_eq_false c17
       refine sw_seq (xr hP 10 rfl (sw_cond rfl (fun c19 => ?_) (fun c19 => ?_)))
       ·have z4 : pk R 30 = 4 := of_decide_eq_true c19
        have hD : drawD r = (d.1, d.2.1, d.2.2.1, d.2.2.2.1, (fillG 50 d.2.2.2.2 (nx R)).1) := by unfold drawD; rw [hq1, hq2]; unfold harmG; rw [if_neg z0, if_neg z1, if_neg z2, if_neg z3, if_pos z4]
        have hT : drawR r = (fillG 50 d.2.2.2.2 (nx R)).2 := by unfold drawR; rw [hq1, hq2]; unfold harmG; rw [if_neg z0, if_neg z1, if_neg z2, if_neg z3, if_pos z4]
        refine sw_block (sw_loop (ι := Nat × List Put × Rd) (fun ⟨j, l, Q⟩ => ⟨[.v false [.ptr ⟨0, 0, 0⟩ 0], .j, .v false [.ptr ⟨1, 0, 0⟩ 0], .v false [.ptr ⟨0, 9, 0⟩ 0], .j, .j, .j, .j, .j, .j, .j, .j, .j, .j, .j, .j, .j, .j, .j, .j, .j, .j, .j, .j, .j, .j, .j, .j, .j, .j, .j, .j, .j, .j, .j, .j, .j, .j, .j, .j, .j, .j, .j, .j, .j, .j, .j, .j, .j, .j, .j, .j, .j, .j, .j, .j, .j, .j, .j, .j, .j, .j, .j, .j, .j, .j, .j, .j, .j, .j, .j, .j, .j, .j, .j, .j, .j, .j, .j, .j, .j, .j, .j, .j, .j, .j, .j, .j, .j, .j, .j, .j, .j], [(⟨0, 0, 0⟩, rdA Q), (⟨0, 9, 0⟩, .var [.d TI pF d.1, .own ⟨0, 9, 1⟩, .own ⟨0, 9, 2⟩, .own ⟨0, 9, 3⟩, .own ⟨0, 9, 4⟩]), (⟨0, 9, 1⟩, .sl .str (.all .w) d.2.1), (⟨0, 9, 2⟩, .sl .str (.all .w) d.2.2.1), (⟨0, 9, 3⟩, .sl .bool (.all .w) d.2.2.2.1), (⟨0, 9, 4⟩, .sl T_Put (.all .w) l), (⟨1, 0, 0⟩, .var [.d TI pF 0, .nils, .nils, .nils, .nils])], 10, [[.v false [.ptr ⟨0, 0, 0⟩ 0]]]⟩) (fun ⟨j, l, Q⟩ => j) (fun ⟨j, l, Q⟩ => ROk Q (21 * j + 10) ∧ 41 < l.length + j ∧ l.length ≤ 41 ∧ fillG j l Q = fillG 50 d.2.2.2.2 (nx R)) (50, d.2.2.2.2, nx R) ⟨?_, ?_⟩ ?_)
        ·exact ⟨hR1.le (by omega), by show 41 < d.2.2.2.2.length + 50; omega, by show d.2.2.2.2.length ≤ 41; omega, rfl⟩
        ·refine ent_ok rfl ?_
         simp [conj]
        ·rintro ⟨j, l, Q⟩ ⟨hQ, hj, hl, hf⟩
         refine sw_seq (sw_seq ?_)
         have hq40 := pk_bd hQ (by omega) (n := 2) (by omega)
         refine xg hP 11 [] rfl ?_ ?_
         ·simp only [conj, List.nil_append, List.cons_append, List.append_nil, List.append_assoc, inR_i64, true_and, and_true, Int.toNat_natCast]
          try dsimp only [Ty.den, Ty.dflt]
          repeat' apply And.intro
          all_goals first | trivial | omega | exact hQ.le (m' := 1) (by omega) | (show -9223372036854775808 ≤ 40 + pk Q 2; omega) | (show 40 + pk Q 2 ≤ 9223372036854775807; omega)
         refine sw_cond rfl (fun c20 => ?_) (fun c20 => ?_)
         ·replace c20 : (l.length : Int) < 40 + pk Q 2 := of_decide_eq_true c20
          obtain ⟨j, rfl⟩ : ∃ m, j = m + 1 := ⟨j - 1, by omega⟩
          rw [fillG_next c20] at hf
          have hQ1 : ROk (nx Q) (21 * j + 30) := hQ.nx (by omega)
          refine sw_skip (sw_block (xg hP 12 [] rfl ?_ ?_))
          ·simp [conj, maxL]
           refine ⟨hQ1.le (m' := 20) (by omega), ?_⟩
           omega
          refine ⟨(j, l ++ [putG (nx Q)], putQ (nx Q)), ?_, ?_, ent_ok rfl ?_⟩
          ·exact ⟨putQ_ok hQ1 (by omega) (by omega), by show 41 < (l ++ [putG (nx Q)]).length + j; simp; omega, by show (l ++ [putG (nx Q)]).length ≤ 41; simp; omega, hf⟩
          ·exact Nat.lt_succ_self j
          ·simp [conj]
         ·replace c20 : ¬ (l.length : Int) < 40 + pk Q 2 := of_decide_eq_false c20
          obtain ⟨j, rfl⟩ : ∃ m, j = m + 1 := ⟨j - 1, by omega⟩
          rw [fillG_end c20] at hf
          rw [← hf] at hD hT
          refine sw_exit (sw_seq (xr hP 12 rfl (sw_ret ⟨.inl rfl, _, rfl, ?_⟩)))
          rw [hD, hT]
          simp [conj]
          try rfl
       ·have z4 : ¬ pk R 30 = 4 := of_decide_eq_false c19
        refine sw_seq (xr hP 11 rfl (sw_cond rfl (fun c22 => ?_) (fun c22 => ?_)))
        ·have z5 : pk R 30 = 5 := of_decide_eq_true c22
         have hD : drawD r = (d.1, d.2.1, d.2.2.1.drop 1, d.2.2.2.1, d.2.2.2.2) := by unfold drawD; rw [hq1, hq2]; unfold harmG; rw [if_neg z0, if_neg z1, if_neg z2, if_neg z3, if_neg z4, if_pos z5]
         have hT : drawR r = nx R := by unfold drawR; rw [hq1, hq2]; unfold harmG; rw [if_neg z0, if_neg z1, if_neg z2, if_neg z3, if_neg z4, if_pos z5]
         refine xg hP 12 [] rfl ?_ ?_
         ·simp [conj]
          show (1 : Int) < ((d.2.2.1.length : Nat) : Int)
          omega
         refine sw_seq (xr hP 13 rfl (sw_ret ⟨.inl rfl, _, rfl, ?_⟩))
         rw [hD, hT]
         simp [conj]
         try rfl
        ·have z5 : ¬ pk R 30 = 5 := of_decide_eq_false c22
         have hD : drawD r = d := by unfold drawD; rw [hq1, hq2]; unfold harmG; rw [if_neg z0, if_neg z1, if_neg z2, if_neg z3, if_neg z4, if_neg z5]
         have hT : drawR r = nx R := by unfold drawR; rw [hq1, hq2]; unfold harmG; rw [if_neg z0, if_neg z1, if_neg z2, if_neg z3, if_neg z4, if_neg z5]
         refine sw_skip (sw_seq (xr hP 12 rfl (sw_ret ⟨.inl rfl, _, rfl, ?_⟩)))
         rw [hD, hT]
         simp [conj]
         try rfl
end Go.Sx

namespace Go.Sx
open Go Go.RowKit
def flD (d : Dsk) : Dsk := dskOf d.1 (comes d.2.2.2.2 (drvOf d)) []
def wrG : Nat → Rd → Dsk → Dsk × Rd
 | 0, r, d => (d, r)
 | n + 1, r, d => wrG n (putQ r) (writeD d (putG r))
def dk0 (r : Rd) : Dsk × Rd := wrG (pk r 4).toNat (nx r) (newD 0)
def dksGo : Nat → Rd → List Dsk → List Dsk × Rd
 | 0, r, o => (o, r)
 | n + 1, r, o => dksGo n (dk0 r).2 (o ++ [(dk0 r).1])
def flGo : Nat → Nat → Rd → List Dsk → List Dsk × Rd
 | 0, _, r, o => (o, r)
 | n + 1, i, r, o => flGo n (i + 1) (nx r) (if 0 < pk r 3 then o.set i (flD (o.getD i zeroD)) else o)
theorem newD_rd : rdV (newD 0) = true := by decide
theorem fl_rd {d : Dsk} (h : rdV d = true) : rdV (flD d) = true := by
 have h1 := (crash_rd (k := 9223372036854775807) h (by decide)).1
 rw [crash_all h, flushV_ok h] at h1
 exact h1
theorem wrG_rd : ∀ {n : Nat} {r : Rd} {d : Dsk}, rdV d = true → ROk r (20 * n) → rdV (wrG n r d).1 = true ∧ ∀ m : Int, 0 ≤ m → ROk r (20 * n + m) → ROk (wrG n r d).2 m := by
 intro n
 induction n with
 | zero => intro r d h _; exact ⟨h, fun m _ hm => by simpa [wrG] using hm⟩
 | succ n ih =>
  intro r d h hr
  have h1 : ROk (putQ r) (20 * (n : Int)) := putQ_ok hr (by push_cast; omega) (by omega)
  have h2 := ih (d := writeD d (putG r)) (put_rd h (putG_ok hr (by push_cast; omega))) h1
  exact ⟨h2.1, fun m h0 hm => h2.2 m h0 (putQ_ok hm (by push_cast; omega) (by omega))⟩
theorem dk0_rd {r : Rd} {m : Int} (h : ROk r (m + 81)) (h0 : 0 ≤ m) : rdV (dk0 r).1 = true ∧ ROk (dk0 r).2 m := by
 have hb := pk_bd h (by omega) (n := 4) (by omega)
 have h1 : ROk (nx r) (m + 80) := h.nx (by omega)
 have h2 := h1.le (m' := 20 * ((pk r 4).toNat : Int)) (by omega)
 obtain ⟨a, b⟩ := wrG_rd (n := (pk r 4).toNat) newD_rd h2
 exact ⟨a, b m h0 (h1.le (by omega))⟩
theorem dksGo_ok : ∀ {n : Nat} {r : Rd} {o : List Dsk} {m : Int}, 0 ≤ m → ROk r (81 * n + m) → (∀ d ∈ o, rdV d = true) →
  (∀ d ∈ (dksGo n r o).1, rdV d = true) ∧ (dksGo n r o).1.length = o.length + n ∧ ROk (dksGo n r o).2 m := by
 intro n
 induction n with
 | zero => intro r o m h0 h ho; exact ⟨ho, rfl, by simpa [dksGo] using h⟩
 | succ n ih =>
  intro r o m h0 h ho
  obtain ⟨a, b⟩ := dk0_rd (r := r) (m := 81 * (n : Int) + m) (by have := h; push_cast at this; exact this.le (by omega)) (by omega)
  have h2 := ih (r := (dk0 r).2) (o := o ++ [(dk0 r).1]) h0 b (fun d hd => by
   rcases List.mem_append.1 hd with hd | hd
   ·exact ho d hd
   ·rw [List.mem_singleton.1 hd]; exact a)
  exact ⟨h2.1, by rw [show dksGo (n + 1) r o = dksGo n (dk0 r).2 (o ++ [(dk0 r).1]) from rfl, h2.2.1]; simp; omega, h2.2.2⟩
theorem flGo_ok : ∀ {n i : Nat} {r : Rd} {o : List Dsk} {m : Int}, 0 ≤ m → ROk r (n + m) → i + n ≤ o.length → (∀ d ∈ o, rdV d = true) →
  (∀ d ∈ (flGo n i r o).1, rdV d = true) ∧ (flGo n i r o).1.length = o.length ∧ ROk (flGo n i r o).2 m := by
 intro n
 induction n with
 | zero => intro i r o m h0 h _ ho; exact ⟨ho, rfl, h.le (by simp)⟩
 | succ n ih =>
  intro i r o m h0 h hi ho
  have h1 : ROk (nx r) ((n : Int) + m) := h.nx (by push_cast; omega)
  have hil : i < o.length := by omega
  have hset : ∀ d ∈ o.set i (flD (o.getD i zeroD)), rdV d = true := by
   intro d hd
   rcases List.mem_or_eq_of_mem_set hd with hd | rfl
   ·exact ho d hd
   ·rw [List.getD_eq_getElem?_getD, gE hil]; exact fl_rd (ho _ (List.getElem_mem hil))
  show (∀ d ∈ (flGo n (i + 1) (nx r) (if 0 < pk r 3 then o.set i (flD (o.getD i zeroD)) else o)).1, rdV d = true) ∧ _
  by_cases hp : 0 < pk r 3
  ·obtain ⟨a, b, c⟩ := ih (i := i + 1) (o := o.set i (flD (o.getD i zeroD))) h0 h1 (by simp; omega) hset
   rw [if_pos hp]
   refine ⟨a, ?_, ?_⟩
   ·simp only [flGo, if_pos hp]; rw [b]; simp
   ·simp only [flGo, if_pos hp]; exact c
  ·obtain ⟨a, b, c⟩ := ih (i := i + 1) (o := o) h0 h1 (by omega) ho
   rw [if_neg hp]
   refine ⟨a, ?_, ?_⟩
   ·simp only [flGo, if_neg hp]; exact b
   ·simp only [flGo, if_neg hp]; exact c
def txtK (c : UInt8) (R : Rd) (d : Int) : Str := textV R (3 * sMin 3 (d - 1) - 1) ++ [c]
def ptrK (c : UInt8) (R : Rd) (d : Int) : Ptr_ × Rd := ((((txtK c R d).length : Int), weighV ((txtK c R d).take 9), (plcD (textR R (3 * sMin 3 (d - 1) - 1)) d (colsV ((txtK c R d).length : Int) + 1)).1), (plcD (textR R (3 * sMin 3 (d - 1) - 1)) d (colsV ((txtK c R d).length : Int) + 1)).2)
theorem txtK_len {c : UInt8} {R : Rd} {d : Int} (h : ROk R 30) (hd : 3 ≤ d ∧ d ≤ 4) : 1 ≤ (txtK c R d).length ∧ (txtK c R d).length ≤ 9 := by
 have := ptrT_len h hd
 simpa [txtK, ptrT] using this
theorem ptrK_len {c : UInt8} {R : Rd} {d : Int} (h : ROk R 30) (hd : 3 ≤ d ∧ d ≤ 4) : (ptrK c R d).1.2.2.length = (stripT (txtK c R d)).length := by
 have h1 := txtK_len (c := c) h hd
 simp only [ptrK, plcD]
 rw [(plcGo_rd _ _ _ _ _ _).2, stripT_len h1, colsV_nat]
 simp only [List.length_nil]
 omega
theorem ptrK_ok {c : UInt8} {R : Rd} {d m : Int} (hm : 0 ≤ m) (h : ROk R (m + 30)) (hd : 3 ≤ d ∧ d ≤ 4) : ROk (ptrK c R d).2 m := by
 have h1 := txtK_len (c := c) (h.le (by omega)) hd
 have h2 := colsV_le (n := ((txtK c R d).length : Int)) (by omega) (by omega)
 have ht : ROk (textR R (3 * sMin 3 (d - 1) - 1)) (m + 5) := textR_ok h (by omega) (by rw [sMin_bd' hd]; omega) (by rw [sMin_bd' hd]; omega)
 simp only [ptrK, plcD]
 rw [(plcGo_rd _ _ _ _ _ _).1]
 have hp := ht.p1
 have hp0 := ht.p0
 refine ⟨ht.b, ht.len, ?_, ?_⟩ <;> simp only [nx] <;> omega
theorem plcGo_pl : ∀ (n i : Nat) {d fr : Int} {R : Rd} {out : List Plc}, 0 < d → 0 ≤ fr → ROk R n → (∀ a ∈ out, placeV d a = true) → ∀ a ∈ (plcGo d fr n i R out).1, placeV d a = true := by
 intro n
 induction n with
 | zero => intro i d fr R out _ _ _ h; exact h
 | succ n ih =>
  intro i d fr R out hd hf hR h
  have hb := pk_bd hR (by omega) (n := 12) (by omega)
  refine ih (i + 1) hd hf (hR.nx (by push_cast; omega)) fun a ha => ?_
  rcases List.mem_append.1 ha with ha | ha
  ·exact h a ha
  ·rw [List.mem_singleton.1 ha]
   have h1 : (fr + (i : Int)).tmod d = (fr + (i : Int)) % d := Int.tmod_eq_emod_of_nonneg (by omega)
   have h2 := Int.emod_nonneg (fr + (i : Int)) (show d ≠ 0 by omega)
   have h3 := Int.emod_lt_of_pos (fr + (i : Int)) hd
   simp [placeV, h1]
   omega
theorem ptrK_pl {c : UInt8} {R : Rd} {d : Int} (h : ROk R 30) (hd : 3 ≤ d ∧ d ≤ 4) : ∀ a ∈ (ptrK c R d).1.2.2, placeV d a = true := by
 have h1 := txtK_len (c := c) h hd
 have h2 := colsV_le (n := ((txtK c R d).length : Int)) (by omega) (by omega)
 have ht : ROk (textR R (3 * sMin 3 (d - 1) - 1)) 6 := textR_ok h (by decide) (by rw [sMin_bd' hd]; omega) (by rw [sMin_bd' hd]; omega)
 have hb := pk_bd ht (by omega) (n := d) (by omega)
 exact plcGo_pl _ _ (by omega) hb.1 (ht.nx (by omega)) (by intro a ha; cases ha)
def l72N (r : Rd) : Int := 3 + pk r 2
def l72A (r : Rd) : List Dsk × Rd := dksGo (l72N r).toNat (nx r) []
def l72P (r : Rd) : Ptr_ × Rd := ptrK 107 (l72A r).2 (l72N r)
def l72T (r : Rd) : Str := txtK 107 (l72A r).2 (l72N r)
def l72W (r : Rd) : List Dsk := wrN (stripT (l72T r)) (l72P r).1.2.2 (l72P r).1.2.2.length (l72A r).1
def l72F (r : Rd) : List Dsk × Rd := flGo (l72N r).toNat 0 (l72P r).2 (l72W r)
theorem l72_N {r : Rd} (h : ROk r 1) : 3 ≤ l72N r ∧ l72N r ≤ 4 := by
 have := pk_bd h (by omega) (n := 2) (by omega)
 unfold l72N; omega
theorem l72_A {r : Rd} {m : Int} (h0 : 0 ≤ m) (h : ROk r (m + 400)) : (∀ d ∈ (l72A r).1, rdV d = true) ∧ ((l72A r).1.length : Int) = l72N r ∧ ROk (l72A r).2 m := by
 have hn := l72_N (h.le (by omega))
 obtain ⟨a, b, c⟩ := dksGo_ok (n := (l72N r).toNat) (r := nx r) (o := []) (m := m) h0 (h.nx (by omega)) (by intro d hd; cases hd)
 refine ⟨a, ?_, c⟩
 show ((dksGo (l72N r).toNat (nx r) []).1.length : Int) = _
 rw [b]
 simp only [List.length_nil]
 omega
theorem l72_str {r : Rd} (h : ROk r 500) : stripeV (l72A r).1 = true := by
 obtain ⟨a, b, _⟩ := l72_A (m := 0) (by omega) (h.le (by omega))
 have hn := l72_N (h.le (by omega))
 simp only [stripeV, Bool.and_eq_true]
 refine ⟨?_, ?_⟩
 case refine_2 =>
  simp only [Bool.not_eq_true', List.any_eq_false, noD]
  intro d hd; rw [a d hd]; simp
 rw [b]
 simp [poolV, inV]
 omega
theorem l72_W {r : Rd} (h : ROk r 500) : (∀ d ∈ l72W r, rdV d = true) ∧ ((l72W r).length : Int) = l72N r := by
 obtain ⟨a, b, c⟩ := l72_A (m := 100) (by omega) (h.le (by omega))
 have hn := l72_N (h.le (by omega))
 have hp := ptrK_pl (c := 107) (c.le (by omega)) hn
 have hl := ptrK_len (c := 107) (c.le (by omega)) hn
 refine ⟨wrN_rd a (fun q hq => ?_) (fun c hc => stripT_3 hc) _ (Nat.le_refl _) (Nat.le_of_eq hl), by unfold l72W; rw [wrN_len]; exact b⟩
 rw [b]; exact hp q hq
theorem l72_F {r : Rd} {m : Int} (h0 : 0 ≤ m) (h : ROk r (m + 500)) : (∀ d ∈ (l72F r).1, rdV d = true) ∧ ((l72F r).1.length : Int) = l72N r ∧ ROk (l72F r).2 m := by
 obtain ⟨a, b, c⟩ := l72_A (m := m + 100) (by omega) (h.le (by omega))
 have hn := l72_N (h.le (by omega))
 obtain ⟨a2, b2⟩ := l72_W (h.le (by omega))
 have hp : ROk (l72P r).2 (m + 10) := ptrK_ok (by omega) (c.le (by omega)) hn
 obtain ⟨x, y, z⟩ := flGo_ok (n := (l72N r).toNat) (i := 0) (r := (l72P r).2) (o := l72W r) (m := m) h0 (hp.le (by omega)) (by omega) a2
 refine ⟨x, ?_, z⟩
 show ((flGo (l72N r).toNat 0 (l72P r).2 (l72W r)).1.length : Int) = _
 rw [y]; exact b2
def spR (c : List Int) : Rd := (l72F (rd0 c)).2
def spN (c : List Int) : Int := l72N (rd0 c)
def spL (c : List Int) : List Dsk := (l72F (rd0 c)).1
def spT (c : List Int) : Str := txtK 109 (spR c) (spN c)
def spP (c : List Int) : Ptr_ × Rd := ptrK 109 (spR c) (spN c)
def spK (c : List Int) : Int := pk (spP c).2 20
def spQ (c : List Int) : Rd := nx (spP c).2
@[irreducible] def spD (c : List Int) : List Dsk × Ptr_ × Str :=
 if spK c = 0 then (spL c, (spP c).1, spT c ++ [120])
 else if spK c = 1 then (spL c, (someD (spQ c) (spN c)).1, spT c)
 else if spK c = 2 then ((spL c).set 0 (drawD (spQ c)), (spP c).1, spT c)
 else (spL c, (spP c).1, spT c)
theorem rd0_big {c : List Int} (h : ∀ v ∈ c, inR .u8 v) : ROk (rd0 c) 9000 := by
 have := rd0_ok h
 refine ⟨this.b, this.len, this.p0, ?_⟩
 show (0 : Int) + 9000 ≤ 1099511627776
 decide
theorem sp_ok {c : List Int} (h : ∀ v ∈ c, inR .u8 v) : (3 ≤ spN c ∧ spN c ≤ 4) ∧ ((spL c).length : Int) = spN c ∧ ROk (spR c) 8400 := by
 have h0 := rd0_big h
 obtain ⟨_, b, d⟩ := l72_F (m := 8400) (by omega) (h0.le (by omega))
 exact ⟨l72_N (h0.le (by omega)), b, d⟩
end Go.Sx

namespace Go.Sx
open Go
set_option maxRecDepth 100000
set_option linter.unusedVariables false
set_option linter.unusedSimpArgs false
set_option maxHeartbeats 4000000
def cL72 : Ctr := ⟨32, [.ref T_l6Rd pF], fun x => ROk x.1 1000, fun x => (.tup [(false, [.own ⟨1, 0, 0⟩]), (true, [.d TI pF (l72P x.1).1.1, .d TI pF (l72P x.1).1.2.1, .own ⟨1, 1, 0⟩]), (false, [.d .str pF (l72T x.1)])], [(⟨0, 0, 0⟩, rdA (l72F x.1).2), (⟨1, 0, 0⟩, .sl T_Disk (.all .w) (l72F x.1).1), (⟨1, 1, 0⟩, .sl T_Place pF (l72P x.1).1.2.2)])⟩
theorem cL72_ok : CtrOk Proofs.Tryz.prog cL72 := by
 have hP := ((((((((((((Prg.none ttok mtok).and cDisksD_ok).and cNewS_ok).and cPick_ok).and cDPutG_ok).and cWriteS_ok).and cText_ok).and cColsS_ok).and cPlaces_ok).and cL11_ok).and cPutA_ok).and cFlushS_ok)
 refine ctr_of_body hP cL72 (fn := Proofs.Tryz.f32) (rts := [.tmp 2, .cell 3 26, .tmp 4]) Proofs.Tryz.func32 rfl (by kernel_rfl) rfl rfl ?_
 rintro ⟨(r : Rd), ⟨⟩⟩ _ hpre
 try dsimp only [Ty.den, Mode.den, mdens] at hpre
 refine ⟨rfl, ?_⟩
 replace hpre : ROk r 1000 := hpre
 have hb0 := pk_bd hpre (by omega) (n := 2) (by omega)
 have hr1 : ROk (nx r) 999 := hpre.nx (by omega)
 obtain ⟨n, hn⟩ : ∃ n : Nat, (n : Int) = 3 + pk r 2 := ⟨(3 + pk r 2).toNat, by omega⟩
 have hN : l72N r = (n : Int) := hn.symm
 have hNn : (l72N r).toNat = n := by rw [hN]; rfl
 have hn3 : 3 ≤ (n : Int) ∧ (n : Int) ≤ 4 := by omega
 have hmm := sMin_bd (n : Int) hn3
 obtain ⟨q1, q2, q3⟩ := l72_A (m := 600) (by omega) (hpre.le (by omega))
 rw [hN] at q2
 have q4 := l72_str (hpre.le (by omega))
 obtain ⟨q5, q6⟩ := l72_W (hpre.le (by omega))
 rw [hN] at q6
 have qR : ROk (l72A r).2 30 := q3.le (by omega)
 have q7 := txtK_len (c := 107) qR hn3
 have q8 := ptrK_pl (c := 107) qR hn3
 have q8b : ∀ a ∈ (ptrK 107 (l72A r).2 (n : Int)).1.2.2, placeV ((l72A r).1.length : Int) a = true := by rw [q2]; exact q8
 have q9 := ptrK_len (c := 107) qR hn3
 have qo : ROk (ptrK 107 (l72A r).2 (n : Int)).2 500 := ptrK_ok (by omega) (q3.le (by omega)) hn3
 have qc := colsV_le (n := (((txtK 107 (l72A r).2 (n : Int)).length : Nat) : Int)) (by omega) (by omega)
 have qt : ROk (textR (l72A r).2 (3 * sMin 3 ((n : Int) - 1) - 1)) 6 := textR_ok qR (by omega) (by omega) (by omega)
 refine sw_seq (xr hP 1 rfl (sw_seq (xr hP 2 rfl (sw_seq (xg hP 3 [] rfl ?_ ?_)))))
 ·simp only [cj, cl]
  try dsimp only [Ty.den, Ty.dflt]
  repeat' apply And.intro
  all_goals first | trivial | omega | exact hpre.le (by omega)
 refine sw_seq (sw_seq (xr hP 4 rfl (sw_block (sw_loop (ι := Nat × List Dsk × Rd) (fun ⟨i, o, R⟩ => ⟨[.v false [.ptr ⟨0, 0, 0⟩ 0], .j, .j, .v false [.ptr ⟨1, 1, 0⟩ 0], .j, .v false [.own ⟨0, 9, 0⟩], sInt .i64 (n : Int), sInt .i64 (i : Int), .j, .j, .j, .j, .j, .j, .j, .j, .j, .j, .j, .j, .j, .j, .j, .j, .j, .j, .j, .j, .j, .j, .j, .j, .j, .j, .j, .j, .j, .j, .j, .j, .j, .j, .j, .j, .j, .j, .j, .j, .j, .j, .j, .j, .j, .j, .j, .j, .j, .j, .j, .j, .j, .j, .j, .j, .j, .j, .j, .j, .j, .j, .j, .j, .j, .j, .j, .j], [(⟨0, 0, 0⟩, rdA R), (⟨0, 9, 0⟩, .sl T_Disk (.all .w) o), (⟨1, 1, 0⟩, .var [.d TI pF 0, .d TI pF 0, .nils])], 4, [[.v false [.ptr ⟨0, 0, 0⟩ 0]]]⟩) (fun ⟨i, o, R⟩ => n - i) (fun ⟨i, o, R⟩ => i ≤ n ∧ o.length = i ∧ (∀ d ∈ o, rdV d = true) ∧ ROk R (81 * ((n - i : Nat) : Int) + 500) ∧ dksGo (n - i) R o = dksGo n (nx r) []) (0, [], nx r) ⟨?_, ?_⟩ ?_))))
 ·exact ⟨Nat.zero_le _, rfl, (by intro d hd; cases hd), hr1.le (by omega), rfl⟩
 ·refine ent_ok rfl ?_
  simp [conj]
  exact hn.symm
 ·rintro ⟨i, o, R⟩ ⟨hi, hol, hod, hR, hgo⟩
  refine sw_seq (sw_seq (xr hP 5 rfl (sw_cond rfl (fun c4 => ?_) (fun c4 => ?_))))
  ·have hlt : i < n := by have h : (i : Int) < (n : Int) := of_decide_eq_true c4; omega
   have hb4 := pk_bd hR (by omega) (n := 4) (by omega)
   have hR1 : ROk (nx R) (20 * (((pk R 4).toNat : Nat) : Int) + (81 * ((n - (i + 1) : Nat) : Int) + 500)) := hR.nx (by omega)
   refine sw_skip (sw_seq (sw_block (sw_seq (xg hP 6 [] rfl ?_ ?_))))
   ·simp only [cj, cl]
    try dsimp only [Ty.den, Ty.dflt]
    exact ⟨by decide, by decide⟩
   refine sw_seq (sw_seq (xg hP 7 [] rfl ?_ ?_))
   ·simp only [cj, cl]
    try dsimp only [Ty.den, Ty.dflt]
    repeat' apply And.intro
    all_goals first | trivial | omega | exact hR.le (by omega) | (show (0 : Int) < 4; decide) | (show (4 : Int) ≤ 255; decide)
   refine sw_block (sw_loop (ι := Nat × Dsk × Rd) (fun ⟨k, d, Q⟩ => ⟨[.v false [.ptr ⟨0, 0, 0⟩ 0], .j, .j, .v false [.ptr ⟨1, 1, 0⟩ 0], .j, .v false [.own ⟨0, 9, 0⟩], sInt .i64 (n : Int), sInt .i64 (i : Int), .v false [.ptr ⟨0, 8, 0⟩ 0], sInt .i64 (k : Int), .j, .j, .j, .j, .j, .j, .j, .j, .j, .j, .j, .j, .j, .j, .j, .j, .j, .j, .j, .j, .j, .j, .j, .j, .j, .j, .j, .j, .j, .j, .j, .j, .j, .j, .j, .j, .j, .j, .j, .j, .j, .j, .j, .j, .j, .j, .j, .j, .j, .j, .j, .j, .j, .j, .j, .j, .j, .j, .j, .j, .j, .j, .j, .j, .j, .j], [(⟨0, 0, 0⟩, rdA Q), (⟨0, 9, 0⟩, .sl T_Disk (.all .w) o), (⟨0, 8, 0⟩, .var [.d TI pF d.1, .own ⟨0, 8, 1⟩, .own ⟨0, 8, 2⟩, .own ⟨0, 8, 3⟩, .own ⟨0, 8, 4⟩]), (⟨0, 8, 1⟩, .sl .str (.all .w) d.2.1), (⟨0, 8, 2⟩, .sl .str (.all .w) d.2.2.1), (⟨0, 8, 3⟩, .sl .bool (.all .w) d.2.2.2.1), (⟨0, 8, 4⟩, .sl T_Put (.all .w) d.2.2.2.2), (⟨1, 1, 0⟩, .var [.d TI pF 0, .d TI pF 0, .nils])], 7, [[.v false [.ptr ⟨0, 0, 0⟩ 0]]]⟩) (fun ⟨k, d, Q⟩ => k) (fun ⟨k, d, Q⟩ => k ≤ 3 ∧ rdV d = true ∧ ROk Q (20 * (k : Int) + (81 * ((n - (i + 1) : Nat) : Int) + 500)) ∧ wrG k Q d = dk0 R) ((pk R 4).toNat, newD 0, nx R) ⟨?_, ?_⟩ ?_)
   ·exact ⟨by omega, newD_rd, hR1, rfl⟩
   ·refine ent_ok rfl ?_
    simp [conj]
    exact (Int.max_eq_left hb4.1).symm
   ·rintro ⟨k, d, Q⟩ ⟨hk, hd, hQ, hw⟩
    refine sw_seq (sw_seq (xr hP 8 rfl (sw_cond rfl (fun c8 => ?_) (fun c8 => ?_))))
    ·have hk0 : 0 < k := by have h : (0 : Int) < (k : Int) := of_decide_eq_true c8; omega
     refine sw_skip (sw_seq (sw_block (xg hP 9 [] rfl ?_ ?_)))
     ·simp only [cj, cl]
      try dsimp only [Ty.den, Ty.dflt]
      repeat' apply And.intro
      all_goals first | trivial | omega | exact hQ.le (by omega) | exact (rd_own hd).1.1 | exact (rd_own hd).1.2.1 | exact (rd_own hd).1.2.2 | exact (rd_own hd).2.1 | exact (rd_own hd).2.2
     refine xr hP 10 rfl (⟨(k - 1, writeD d (putG Q), putQ Q), ?_, ?_, ent_ok rfl ?_⟩)
     ·exact ⟨by show k - 1 ≤ 3; omega, put_rd hd (putG_ok hQ (by omega)), putQ_ok hQ (by omega) (by omega), by rw [← hw]; cases k with | zero => omega | succ k => rfl⟩
     ·show k - 1 < k
      omega
     ·simp [conj]
      show ((k : Int) - 1) = ((k - 1 : Nat) : Int)
      omega
    ·have hk0 : k = 0 := by have h : ¬ (0 : Int) < (k : Int) := of_decide_eq_false c8; omega
     subst hk0
     have hdQ : (d, Q) = dk0 R := hw
     refine sw_exit (xg hP 9 [] rfl ?_ ?_)
     ·simp [conj, maxL]
      try omega
     refine xr hP 10 rfl (⟨(i + 1, o ++ [d], Q), ?_, ?_, ent_ok rfl ?_⟩)
     ·refine ⟨hlt, by simp [hol], fun x hx => ?_, hQ.le (by omega), ?_⟩
      · rcases List.mem_append.1 hx with hx | hx
        · exact hod x hx
        · rw [List.mem_singleton.1 hx]; exact hd
      · rw [← hgo]
        obtain ⟨z, hz⟩ : ∃ z, n - i = z + 1 := ⟨n - i - 1, by omega⟩
        rw [hz, show n - (i + 1) = z by omega]
        show dksGo z Q (o ++ [d]) = dksGo z (dk0 R).2 (o ++ [(dk0 R).1])
        rw [← hdQ]
     ·show n - (i + 1) < n - i
      omega
     ·simp [conj]
  ·obtain rfl : n = i := by have h : ¬ (i : Int) < (n : Int) := of_decide_eq_false c4; omega
   rw [Nat.sub_self] at hgo
   have hA : (o, R) = l72A r := by unfold l72A; rw [hNn]; exact hgo
   have e1 : o = (l72A r).1 := by rw [← hA]
   have e2 : R = (l72A r).2 := by rw [← hA]
   subst e1
   subst e2
   refine sw_exit (sw_seq (xg hP 6 [] rfl ?_ ?_))
   ·simp only [cj, cl]
    try dsimp only [Ty.den, Ty.dflt]
    simp only [maxL, bytesL]
    repeat' apply And.intro
    all_goals first | omega | (show ROk _ (2 * (3 * sMin 3 ((n : Int) - 1) - 1) + 3); exact q3.le (by omega)) | (show _ ≤ (3 * sMin 3 ((n : Int) - 1) - 1); omega) | (show (3 * sMin 3 ((n : Int) - 1) - 1) ≤ _; omega) | (show _ ≤ 3 * sMin 3 ((n : Int) - 1); omega) | (show 3 * sMin 3 ((n : Int) - 1) ≤ _; omega) | (show (textV (l72A r).2 (3 * sMin 3 ((n : Int) - 1) - 1)).length + 1 ≤ 140737488355328; have h := q7; simp only [txtK, List.length_append, List.length_singleton] at h; omega) | trivial
   refine sw_seq (xg hP 7 [] rfl ?_ ?_)
   ·simp only [cj, cl]
    try dsimp only [Ty.den, Ty.dflt]
    repeat' apply And.intro
    all_goals first | omega | exact qt | exact hn3.1 | exact hn3.2 | (show 0 ≤ (((txtK 107 (l72A r).2 (n : Int)).length : Nat) : Int); omega) | (show (((txtK 107 (l72A r).2 (n : Int)).length : Nat) : Int) ≤ 1000000; omega) | (show _ ≤ colsV (((txtK 107 (l72A r).2 (n : Int)).length : Nat) : Int) + 1; omega) | (show colsV (((txtK 107 (l72A r).2 (n : Int)).length : Nat) : Int) + 1 ≤ _; omega) | (show List.length (ptrK 107 (l72A r).2 (n : Int)).1.2.2 ≤ 1000000; rw [q9, stripT_len q7]; omega) | trivial
   refine sw_seq (xg hP 8 [] rfl ?_ ?_)
   ·simp only [cj, cl]
    try dsimp only [Ty.den, Ty.dflt]
    repeat' apply And.intro
    all_goals first | exact q4 | exact q8b | exact q7.1 | exact q7.2 | exact q9 | trivial
   refine sw_seq (sw_seq (xr hP 9 rfl (sw_block (sw_loop (ι := Nat × List Dsk × Rd) (fun ⟨i, o, R⟩ => ⟨[.v false [.ptr ⟨0, 0, 0⟩ 0], .j, .j, .v false [.ptr ⟨1, 1, 0⟩ 0], .j, .v false [.own ⟨0, 9, 0⟩], sInt .i64 (n : Int), .j, .j, .j, sStr (txtK 107 (l72A r).2 (n : Int)), .v false [.ptr ⟨0, 9, 1⟩ 0], sInt .i64 (i : Int), .j, .j, .j, .j, .j, .j, .j, .j, .j, .j, .j, .j, .j, .j, .j, .j, .j, .j, .j, .j, .j, .j, .j, .j, .j, .j, .j, .j, .j, .j, .j, .j, .j, .j, .j, .j, .j, .j, .j, .j, .j, .j, .j, .j, .j, .j, .j, .j, .j, .j, .j, .j, .j, .j, .j, .j, .j, .j, .j, .j, .j, .j, .j], [(⟨0, 0, 0⟩, rdA R), (⟨0, 9, 0⟩, .sl T_Disk (.all .w) o), (⟨1, 1, 0⟩, .var [.d TI pF 0, .d TI pF 0, .nils]), (⟨0, 9, 1⟩, .var [.d TI pF (ptrK 107 (l72A r).2 (n : Int)).1.1, .d TI pF (ptrK 107 (l72A r).2 (n : Int)).1.2.1, .own ⟨0, 9, 2⟩]), (⟨0, 9, 2⟩, .sl T_Place pF (ptrK 107 (l72A r).2 (n : Int)).1.2.2)], 9, [[.v false [.ptr ⟨0, 0, 0⟩ 0]]]⟩) (fun ⟨i, o, R⟩ => n - i) (fun ⟨i, o, R⟩ => i ≤ n ∧ o.length = n ∧ (∀ d ∈ o, rdV d = true) ∧ ROk R (((n - i : Nat) : Int) + 400) ∧ flGo (n - i) i R o = l72F r) (0, l72W r, (ptrK 107 (l72A r).2 (n : Int)).2) ⟨?_, ?_⟩ ?_))))
   ·exact ⟨Nat.zero_le _, by omega, q5, qo.le (by omega), by unfold l72F l72P; rw [hNn, hN]; rfl⟩
   ·refine ent_ok rfl ?_
    simp [conj, l72W, l72T, l72P, hN, txtK, ptrK, bytesL]
   ·rintro ⟨i, o, R⟩ ⟨hi, holn, hod, hR, hgo⟩
    refine sw_seq (sw_seq (xr hP 10 rfl (sw_cond rfl (fun c16 => ?_) (fun c16 => ?_))))
    ·have hlt : i < n := by have h : (i : Int) < (n : Int) := of_decide_eq_true c16; omega
     have hol : i < o.length := by omega
     have hod2 := rd_own (hod _ (List.getElem_mem hol))
     have hb3 := pk_bd hR (by omega) (n := 3) (by omega)
     obtain ⟨z, hz⟩ : ∃ z, n - i = z + 1 := ⟨n - i - 1, by omega⟩
     have hz2 : n - (i + 1) = z := by omega
     rw [hz] at hgo
     simp only [flGo] at hgo
     refine sw_skip (sw_seq (sw_block (sw_seq (xg hP 11 [] rfl ?_ ?_))))
     ·simp only [cj, cl]
      try dsimp only [Ty.den, Ty.dflt]
      repeat' apply And.intro
      all_goals first | trivial | omega | exact hR.le (by omega) | (show (0 : Int) < 3; decide) | (show (3 : Int) ≤ 255; decide)
     refine sw_cond rfl (fun c18 => ?_) (fun c18 => ?_)
     ·have c18v : 0 < pk R 3 := of_decide_eq_true c18
      rw [if_pos c18v] at hgo
      refine xg hP 12 [] rfl ?_ ?_
      ·simp [conj, maxL, (gE hol)]
       repeat' apply And.intro
       all_goals first | exact hod2.1 | exact hod2.2.1 | exact hod2.2.2 | exact hod2.1.1 | exact hod2.1.2.1 | exact hod2.1.2.2 | omega | trivial
      refine xr hP 13 rfl (⟨(i + 1, o.set i (flD o[i]), nx R), ?_, ?_, ent_ok rfl ?_⟩)
      ·refine ⟨hlt, by simp [holn], fun x hx => ?_, hR.nx (by omega), ?_⟩
       · rcases List.mem_or_eq_of_mem_set hx with hx | rfl
         · exact hod x hx
         · exact fl_rd (hod _ (List.getElem_mem hol))
       · rw [← hgo, hz2, List.getD_eq_getElem?_getD, gE hol]; rfl
      ·show n - (i + 1) < n - i
       omega
      ·simp [conj, flD, (gE hol)]
     ·have c18v : ¬ 0 < pk R 3 := of_decide_eq_false c18
      rw [if_neg c18v] at hgo
      refine sw_skip (xr hP 12 rfl (⟨(i + 1, o, nx R), ?_, ?_, ent_ok rfl ?_⟩))
      ·exact ⟨hlt, holn, hod, hR.nx (by omega), by rw [← hgo, hz2]⟩
      ·show n - (i + 1) < n - i
       omega
      ·simp [conj]
    ·obtain rfl : n = i := by have h : ¬ (i : Int) < (n : Int) := of_decide_eq_false c16; omega
     rw [Nat.sub_self] at hgo
     have hF : (o, R) = l72F r := hgo
     have e1 : o = (l72F r).1 := by rw [← hF]
     have e2 : R = (l72F r).2 := by rw [← hF]
     subst e1
     subst e2
     refine sw_exit (sw_seq (xr hP 11 rfl (sw_ret ⟨.inl rfl, _, rfl, ?_⟩)))
     simp [conj, l72T, l72P, hN]
end Go.Sx

namespace Go.Sx
open Go
set_option maxRecDepth 100000
set_option linter.unusedVariables false
set_option linter.unusedSimpArgs false
set_option maxHeartbeats 4000000
def cDrSP : Ctr := ⟨6, [.val false TB pF], fun x => True, fun x => (.tup [(false, [.own ⟨1, 0, 0⟩]), (true, [.d TI pF (spD x.1).2.1.1, .d TI pF (spD x.1).2.1.2.1, .d (.sl T_Place) pF (spD x.1).2.1.2.2]), (false, [.d .str pF (spD x.1).2.2])], [(⟨1, 0, 0⟩, .sl T_Disk (.all .w) (spD x.1).1)])⟩
theorem cDrSP_ok : CtrOk Proofs.Tryz.prog cDrSP := by
 have hP := ((((((((((Prg.none ttok mtok).and cOpen_ok).and cL72_ok).and cText_ok).and cColsS_ok).and cPlaces_ok).and cL11_ok).and cPick_ok).and cSome_ok).and cDraw_ok)
 refine ctr_of_body hP cDrSP (fn := Proofs.Tryz.f6) (rts := [.tmp 2, .cell 3 26, .tmp 4]) Proofs.Tryz.func6 rfl (by kernel_rfl) rfl rfl ?_
 rintro ⟨(code : List Int), ⟨⟩⟩ ⟨hdc, _⟩ _
 try dsimp only [Ty.den, Mode.den, mdens] at _
 refine ⟨rfl, ?_⟩
 have hdc2 : ∀ v ∈ code, inR .u8 v := hdc.2
 have h0 : ROk (rd0 code) 3000 := rd0_ok hdc2
 obtain ⟨hn3, hln, hR⟩ := sp_ok hdc2
 have hmm := sMin_bd (spN code) hn3
 have hR30 : ROk (spR code) 30 := hR.le (by omega)
 have q7 := txtK_len (c := 109) hR30 hn3
 have q7b : 1 ≤ (spT code).length ∧ (spT code).length ≤ 9 := q7
 have q9 := ptrK_len (c := 109) hR30 hn3
 have q9b : (spP code).1.2.2.length ≤ 5 := by rw [show (spP code).1.2.2.length = (stripT (spT code)).length from q9, stripT_len q7b]; omega
 have qo : ROk (spP code).2 8300 := ptrK_ok (by omega) (hR.le (by omega)) hn3
 have qq : ROk (spQ code) 8200 := qo.nx (by omega)
 have qc := colsV_le (n := ((spT code).length : Int)) (by omega) (by omega)
 have qt : ROk (textR (spR code) (3 * sMin 3 (spN code - 1) - 1)) 6 := textR_ok hR30 (by omega) (by omega) (by omega)
 have qb := pk_bd qo (by omega) (n := 20) (by omega)
 have eN : ((l72F (rd0 code)).1.length : Int) = spN code := hln
 refine sw_seq (xr hP 1 rfl (sw_seq (xr hP 2 rfl (sw_seq (xg hP 3 [] rfl ?_ ?_)))))
 ·simp only [cj, cl]
  try dsimp only [Ty.den, Ty.dflt]
  repeat' apply And.intro
  all_goals first | trivial | omega | exact h0.le (by omega)
 refine sw_seq ?_
 refine sw_ent (st' := ⟨[.j, .j, .j, .v false [.ptr ⟨1, 1, 0⟩ 0], .j, .v false [.ptr ⟨2, 1, 0⟩ 0], .v false [.own ⟨3, 1, 0⟩], .v false [.ptr ⟨3, 6, 0⟩ 0], .j, .j, .j, .j, .j, .j, .j, .j, .j, .j, .j, .j, .j, .j, .j, .j, .j, .j, .j, .j, .j, .j, .j, .j, .j, .j, .j, .j, .j, .j, .j, .j, .j, .j, .j, .j, .j, .j, .j, .j, .j, .j, .j, .j, .j, .j, .j, .j, .j, .j, .j], [(⟨2, 1, 0⟩, rdA (spR code)), (⟨3, 1, 0⟩, .sl T_Disk (.all .w) (spL code)), (⟨1, 1, 0⟩, .var [.d TI pF 0, .d TI pF 0, .nils])], 3, []⟩) (ent_ok rfl ?_) ?_
 ·simp [conj, spR, spL, rd0]
 refine xg hP 4 [] rfl ?_ ?_
 ·simp only [cj, cl]
  try dsimp only [Ty.den, Ty.dflt]
  simp only [hln, maxL, bytesL]
  repeat' apply And.intro
  all_goals first | omega | (show ROk _ (2 * (3 * sMin 3 (spN code - 1) - 1) + 3); exact hR.le (by omega)) | (show _ ≤ (3 * sMin 3 (spN code - 1) - 1); omega) | (show (3 * sMin 3 (spN code - 1) - 1) ≤ _; omega) | (show _ ≤ 3 * sMin 3 (spN code - 1); omega) | (show 3 * sMin 3 (spN code - 1) ≤ _; omega) | (show (textV (spR code) (3 * sMin 3 (spN code - 1) - 1)).length + 1 ≤ 140737488355328; have h := q7; simp only [txtK, List.length_append, List.length_singleton] at h; omega) | trivial
 refine sw_seq ?_
 refine sw_ent (st' := ⟨[.j, .j, .j, .v false [.ptr ⟨1, 1, 0⟩ 0], .j, .v false [.ptr ⟨2, 1, 0⟩ 0], .v false [.own ⟨3, 1, 0⟩], .v false [.ptr ⟨3, 6, 0⟩ 0], .j, sStr (spT code), .j, .j, .j, .j, .j, .j, .j, .j, .j, .j, .j, .j, .j, .j, .j, .j, .j, .j, .j, .j, .j, .j, .j, .j, .j, .j, .j, .j, .j, .j, .j, .j, .j, .j, .j, .j, .j, .j, .j, .j, .j, .j, .j, .j, .j, .j, .j, .j, .j], [(⟨2, 1, 0⟩, rdA (textR (spR code) (3 * sMin 3 (spN code - 1) - 1))), (⟨3, 1, 0⟩, .sl T_Disk (.all .w) (spL code)), (⟨1, 1, 0⟩, .var [.d TI pF 0, .d TI pF 0, .nils])], 4, []⟩) (ent_ok rfl ?_) ?_
 ·simp [conj, spT, txtK, bytesL, hln]
 refine xg hP 5 [] rfl ?_ ?_
 ·simp only [cj, cl]
  try dsimp only [Ty.den, Ty.dflt]
  simp only [hln]
  repeat' apply And.intro
  all_goals first | omega | exact qt | exact hn3.1 | exact hn3.2 | (show 0 ≤ (((spT code).length : Nat) : Int); omega) | (show (((spT code).length : Nat) : Int) ≤ 1000000; omega) | (show _ ≤ colsV (((spT code).length : Nat) : Int) + 1; omega) | (show colsV (((spT code).length : Nat) : Int) + 1 ≤ _; omega) | (show List.length (spP code).1.2.2 ≤ 1000000; omega) | trivial
 refine sw_seq (sw_seq ?_)
 refine sw_ent (st' := ⟨[.j, .j, .j, .v false [.ptr ⟨1, 1, 0⟩ 0], .j, .v false [.ptr ⟨2, 1, 0⟩ 0], .v false [.own ⟨3, 1, 0⟩], .v false [.ptr ⟨3, 6, 0⟩ 0], .j, sStr (spT code), .v false [.ptr ⟨5, 10, 0⟩ 0], .j, .j, .j, .j, .j, .j, .j, .j, .j, .j, .j, .j, .j, .j, .j, .j, .j, .j, .j, .j, .j, .j, .j, .j, .j, .j, .j, .j, .j, .j, .j, .j, .j, .j, .j, .j, .j, .j, .j, .j, .j, .j, .j, .j, .j, .j, .j, .j], [(⟨2, 1, 0⟩, rdA (spP code).2), (⟨3, 1, 0⟩, .sl T_Disk (.all .w) (spL code)), (⟨1, 1, 0⟩, .var [.d TI pF 0, .d TI pF 0, .nils]), (⟨5, 10, 0⟩, .var [.d TI pF (spP code).1.1, .d TI pF (spP code).1.2.1, .own ⟨5, 9, 0⟩]), (⟨5, 9, 0⟩, .sl T_Place pF (spP code).1.2.2)], 5, []⟩) (ent_ok rfl ?_) ?_
 ·simp [conj, spP, spT, ptrK, txtK, bytesL, hln]
 refine xg hP 6 [] rfl ?_ ?_
 ·simp only [cj, cl]
  try dsimp only [Ty.den, Ty.dflt]
  repeat' apply And.intro
  all_goals first | trivial | omega | exact qo.le (by omega) | (show (0 : Int) < 20; decide) | (show (20 : Int) ≤ 255; decide)
 refine sw_block (sw_seq ?_)
 refine sw_frz ⟨5, 9, 0⟩ rfl ?_
 refine xr hP 7 rfl (sw_cond rfl (fun c6 => ?_) (fun c6 => ?_))
 ·have k6 : spK code = 0 := of_decide_eq_true c6
  have hv : spD code = (spL code, (spP code).1, spT code ++ [120]) := by unfold spD; rw [if_pos k6]
  refine xg hP 8 [] rfl ?_ ?_
  ·simp [conj, maxL, bytesL]
   omega
  refine sw_seq (xr hP 9 rfl (sw_ret ⟨.inl rfl, _, rfl, ?_⟩))
  rw [hv]
  simp [conj, bytesL, hln]
 ·have k6 : ¬ spK code = 0 := of_decide_eq_false c6
  refine sw_seq (xr hP 8 rfl (sw_cond rfl (fun c8 => ?_) (fun c8 => ?_)))
  ·have k8 : spK code = 1 := of_decide_eq_true c8
   have hv : spD code = (spL code, (someD (spQ code) (spN code)).1, spT code) := by unfold spD; rw [if_neg k6, if_pos k8]
   refine xg hP 9 [] rfl ?_ ?_
   ·simp only [cj, cl]
    try dsimp only [Ty.den, Ty.dflt]
    simp only [hln]
    repeat' apply And.intro
    all_goals first | trivial | omega | exact qq.le (by omega) | exact hn3.1 | exact hn3.2
   refine sw_seq (xr hP 10 rfl (sw_ret ⟨.inl rfl, _, rfl, ?_⟩))
   rw [hv]
   simp [conj, bytesL, hln]
   exact ⟨⟨rfl, rfl⟩, rfl⟩
  ·have k8 : ¬ spK code = 1 := of_decide_eq_false c8
   refine sw_seq (xr hP 9 rfl (sw_cond rfl (fun c10 => ?_) (fun c10 => ?_)))
   ·have k10 : spK code = 2 := of_decide_eq_true c10
    have hv : spD code = ((spL code).set 0 (drawD (spQ code)), (spP code).1, spT code) := by unfold spD; rw [if_neg k6, if_neg k8, if_pos k10]
    refine xg hP 10 [] rfl ?_ ?_
    ·simp [conj, cDraw]
     have hq3 : ROk (spQ code) 3000 := qq.le (by omega)
     repeat' apply And.intro
     all_goals first | exact hq3 | (exact List.length_pos_iff.1 (by omega)) | omega
    refine sw_seq ?_
    refine sw_ent (st' := ⟨[.j, .j, .j, .v false [.ptr ⟨1, 1, 0⟩ 0], .j, .v false [.ptr ⟨2, 1, 0⟩ 0], .v false [.own ⟨3, 1, 0⟩], .v false [.ptr ⟨3, 6, 0⟩ 0], .j, sStr (spT code), .v false [.ptr ⟨5, 10, 0⟩ 0], .j, .j, .j, .j, .j, .j, .j, .j, .j, .j, .j, .j, .j, .j, .j, .j, .j, .j, .j, .j, .j, .j, .j, .j, .j, .j, .j, .j, .j, .j, .j, .j, .j, .j, .j, .j, .j, .j, .j, .j, .j, .j, .j, .j, .j, .j, .j, .j], [(⟨3, 1, 0⟩, .sl T_Disk (.all .w) ((spL code).set 0 (drawD (spQ code)))), (⟨1, 1, 0⟩, .var [.d TI pF 0, .d TI pF 0, .nils]), (⟨5, 10, 0⟩, .var [.d TI pF (spP code).1.1, .d TI pF (spP code).1.2.1, .d (.sl T_Place) pF (spP code).1.2.2])], 10, []⟩) (ent_ok rfl ?_) ?_
    ·simp [conj, spQ]
    refine xr hP 11 rfl (sw_ret ⟨.inl rfl, _, rfl, ?_⟩)
    rw [hv]
    simp [conj, bytesL, hln]
   ·have k10 : ¬ spK code = 2 := of_decide_eq_false c10
    have hv : spD code = (spL code, (spP code).1, spT code) := by unfold spD; rw [if_neg k6, if_neg k8, if_neg k10]
    refine sw_skip (sw_seq (xr hP 10 rfl (sw_ret ⟨.inl rfl, _, rfl, ?_⟩)))
    rw [hv]
    simp [conj, bytesL, hln]
end Go.Sx

namespace Go.Sx
open Go
set_option maxRecDepth 100000
set_option linter.unusedVariables false
set_option linter.unusedSimpArgs false
set_option maxHeartbeats 4000000
def cDRead : Ctr := ⟨10, [.val true T_Disk (.all .b), .val false TI pF], fun _ => True, fun x => (.tup [(false, [.d .str pF (readV x.1 x.2.1)]), (false, [.d .bool pF (decide (readV x.1 x.2.1 ≠ []))])], [])⟩
theorem cDRead_ok : CtrOk Proofs.Tryz.prog cDRead := by
 have hP := (Prg.none ttok mtok)
 refine ctr_of_body hP cDRead (fn := Proofs.Tryz.f10) (rts := [.tmp 4, .tmp 5]) Proofs.Tryz.func10 rfl (by kernel_rfl) rfl rfl ?_
 rintro ⟨⟨(st : Int), (sl : List Str), (rg : List Str), (sp : List Bool), (wt : List Put)⟩, (at_ : Int), ⟨⟩⟩ _ _
 try dsimp only [Ty.den, Mode.den, mdens] at _
 refine ⟨rfl, ?_⟩
 by_cases h1 : rdV ((st, sl, rg, sp, wt) : Dsk) = true
 ·have hP := ((Prg.none ttok mtok).and cRead_ok)
  by_cases h2 : 0 ≤ at_ ∧ at_ < 12
  ·obtain ⟨hsh, hwb, hsb, hrb, hgb⟩ := rd_parts h1
   obtain ⟨hst, h12, h2b, h12b, h40⟩ := shaped_iff hsh
   dsimp only at h40
   have hv : readV ((st, sl, rg, sp, wt) : Dsk) at_ = seenV (sl, rg, sp) wt at_ := readV_ok h1 h2
   replace hP := hP.andX (cSeen_ok (st := st) (t := (sl, rg, sp)) (l := wt) (at_ := at_) (d := ⟨2, 1, 0⟩) (c := ⟨2, 1, 64⟩) h40 h2.1 h2.2)
   refine sw_seq (xr hP 1 rfl (sw_seq (xg hP 2 [] rfl ?_ ?_)))
   ·simp [conj, maxL]
    try dsimp only [Ty.den, Ty.dflt]
    try simp only [rd_eta]
    exact h1
   refine sw_seq (sw_seq ?_)
   refine sw_dec hP 3 [] 2 rfl (fun g2_2 => ?_) (fun g2_2 => ?_)
   ·cases g2_2
   ·refine sw_dec hP 3 [(2, false)] 6 rfl (fun g2_6 => ?_) (fun g2_6 => ?_)
    ·have h : at_ < 0 := of_decide_eq_true g2_6
     omega
    ·replace g2_6 : ¬ at_ < 0 := of_decide_eq_false g2_6
     refine xd hP 3 [(2, false), (6, false)] rfl (sw_cond rfl (fun c2 => ?_) (fun c2 => ?_))
     ·have h : at_ ≥ 12 := of_decide_eq_true c2
      omega
     ·refine sw_skip (sw_seq (xr hP 4 rfl (sw_seq (xr hP 5 rfl (sw_ret ⟨.inl rfl, _, rfl, ?_⟩)))))
      simp [conj, hv]
      try exact Iff.rfl
      try rfl
  ·have hv : readV ((st, sl, rg, sp, wt) : Dsk) at_ = [] := readV_no h2
   refine sw_seq (xr hP 1 rfl (sw_seq (xg hP 2 [] rfl ?_ ?_)))
   ·simp [conj, maxL]
    try dsimp only [Ty.den, Ty.dflt]
    try simp only [rd_eta]
    exact h1
   refine sw_seq (sw_seq ?_)
   refine sw_dec hP 3 [] 2 rfl (fun g2_2 => ?_) (fun g2_2 => ?_)
   ·cases g2_2
   ·refine sw_dec hP 3 [(2, false)] 6 rfl (fun g2_6 => ?_) (fun g2_6 => ?_)
    ·refine xd hP 3 [(2, false), (6, true)] rfl (sw_condT rfl (sw_seq (xr hP 4 rfl (sw_ret ⟨.inl rfl, _, rfl, ?_⟩))))
     simp [conj, hv]
     try exact Iff.rfl
     try rfl
    ·replace g2_6 : ¬ at_ < 0 := of_decide_eq_false g2_6
     refine xd hP 3 [(2, false), (6, false)] rfl (sw_cond rfl (fun c2 => ?_) (fun c2 => ?_))
     ·refine sw_seq (xr hP 4 rfl (sw_ret ⟨.inl rfl, _, rfl, ?_⟩))
      simp [conj, hv]
      try exact Iff.rfl
      try rfl
     ·have h : ¬ at_ ≥ 12 := of_decide_eq_false c2
      omega
 ·have hP := ((Prg.none ttok mtok).and cReadB_ok)
  have h1b : rdV ((st, sl, rg, sp, wt) : Dsk) = false := by simpa using h1
  have hv : readV ((st, sl, rg, sp, wt) : Dsk) at_ = [] := readV_bad h1
  refine sw_seq (xr hP 1 rfl (sw_seq (xg hP 2 [] rfl ?_ ?_)))
  ·simp [conj, maxL]
   try dsimp only [Ty.den, Ty.dflt]
   try simp only [rd_eta]
   exact h1b
  refine sw_seq (sw_seq ?_)
  refine sw_dec hP 3 [] 2 rfl (fun g2_2 => ?_) (fun g2_2 => ?_)
  ·refine xd hP 3 [(2, true)] rfl (sw_condT rfl (sw_seq (xr hP 4 rfl (sw_ret ⟨.inl rfl, _, rfl, ?_⟩))))
   simp [conj, hv]
   try exact Iff.rfl
   try rfl
  ·cases g2_2
def cTexts : Ctr := ⟨91, [.val false (.sl .str) (.all .b), .val false (.sl .str) (.all .b)], fun _ => True, fun x => (sBool (decide ((x.1 : List Str) = x.2.1)), [])⟩
theorem cTexts_ok : CtrOk Proofs.Tryz.prog cTexts := by
 have hP := (Prg.none ttok mtok)
 refine ctr_of_body hP cTexts (fn := Proofs.Tryz.f91) (rts := [.tmp 4]) Proofs.Tryz.func91 rfl (by kernel_rfl) rfl rfl ?_
 rintro ⟨(a : List Str), (b : List Str), ⟨⟩⟩ ⟨hda, hdb, _⟩ hpre
 try dsimp only [Ty.den, Mode.den, mdens] at hpre
 refine ⟨rfl, ?_⟩
 have hml : a.length ≤ 140737488355328 := hda.1
 have hmb : b.length ≤ 140737488355328 := hdb.1
 refine sw_seq (xr hP 1 rfl (sw_seq (sw_seq (xr hP 2 rfl (sw_cond rfl (fun c1 => ?_) (fun c1 => ?_))))))
 ·replace c1 : ¬ a.length = b.length := by simp at c1; omega
  refine sw_seq (xr hP 3 rfl (sw_ret ⟨.inl rfl, _, rfl, ?_⟩))
  exact (eq_len' c1).symm
 ·replace c1 : a.length = b.length := by simp at c1; omega
  refine sw_skip (sw_seq (sw_seq (xr hP 3 rfl (sw_block (sw_loop (ι := Nat) (fun i => ⟨[.v false [.d (.sl .str) (.all .b) a], .v false [.d (.sl .str) (.all .b) b], .j, .j, .j, sInt .i64 (i : Int), .j, .j, .j, .j, .j, .j, .j, .j, .j, .j, .j, .j, .j, .j, .j, .j, .j, .j, .j, .j], [], 3, []⟩) (fun i => a.length - i) (fun i => i ≤ a.length ∧ decide (a.drop i = b.drop i) = decide (a = b)) 0 ⟨?_, ?_⟩ ?_)))))
  ·exact ⟨Nat.zero_le _, rfl⟩
  ·refine ent_ok rfl ?_
   first | trivial | (simp [conj]; done) | (simp [conj] at *; (try dsimp only [Ty.den, Ty.dflt] at *); omega)
  ·rintro i ⟨hi, hgo⟩
   refine sw_seq (sw_seq (xr hP 4 rfl (sw_cond rfl (fun c4 => ?_) (fun c4 => ?_))))
   ·have hlt : i < a.length := by simpa using c4
    have hlt2 : i < b.length := by omega
    refine sw_skip (sw_seq (sw_block (sw_seq (xg hP 5 [] rfl ?_ ?_))))
    ·simp [conj, maxL]
     try dsimp only [Ty.den, Ty.dflt]
     try simp only [rd_eta]
     repeat' apply And.intro
     all_goals first | rfl | assumption | omega | trivial
    refine sw_cond rfl (fun c6 => ?_) (fun c6 => ?_)
    ·replace c6 : ¬ a[i] = b[i] := by have h := c6; simp [gE hlt, gE hlt2] at h; first | exact h | (intro e; rw [e] at h; simp at h) | (intro e; exact h (by rw [e]) )
     refine sw_seq (xr hP 6 rfl (sw_ret ⟨.inl rfl, _, rfl, ?_⟩))
     exact (eq_hit' hlt hlt2 hgo c6).symm
    ·replace c6 : a[i] = b[i] := by have h := c6; simp [gE hlt, gE hlt2] at h; first | exact h | exact Prod.ext h.1 (Prod.ext h.2.1 h.2.2)
     refine sw_skip (xr hP 6 rfl (⟨i + 1, ?_, ?_, ent_ok rfl ?_⟩))
     ·exact ⟨hlt, eq_next' hlt hlt2 hgo c6⟩
     ·omega
     ·simp [conj]
   ·obtain rfl : i = a.length := by simp at c4; omega
    refine sw_exit (sw_seq (xr hP 5 rfl (sw_ret ⟨.inl rfl, _, rfl, ?_⟩)))
    exact (eq_end' c1 hgo).symm
def cLDisk : Ctr := ⟨49, [.val true T_Disk (.all .b), .val true T_Disk (.all .b)], fun _ => True, fun x => (sBool (eqDV x.1 x.2.1), [])⟩
theorem cLDisk_ok : CtrOk Proofs.Tryz.prog cLDisk := by
 have hP := ((Prg.none ttok mtok).and cTexts_ok)
 refine ctr_of_body hP cLDisk (fn := Proofs.Tryz.f49) (rts := [.tmp 4]) Proofs.Tryz.func49 rfl (by kernel_rfl) rfl rfl ?_
 rintro ⟨⟨(st : Int), (sl : List Str), (rg : List Str), (sp : List Bool), (wt : List Put)⟩, ⟨(st2 : Int), (sl2 : List Str), (rg2 : List Str), (sp2 : List Bool), (wt2 : List Put)⟩, ⟨⟩⟩ ⟨⟨_, _, _, hsp0, hwt0⟩, _⟩ _
 try dsimp only [Ty.den, Mode.den, mdens] at _
 refine ⟨rfl, ?_⟩
 have hm1 : sp.length ≤ 140737488355328 := hsp0.1
 have hm2 : wt.length ≤ 140737488355328 := hwt0.1
 refine sw_seq (xr hP 1 rfl (sw_seq (sw_seq ?_)))
 refine sw_dec hP 2 [] 5 rfl (fun g1_5 => ?_) (fun g1_5 => ?_)
 ·replace g1_5 : ¬ st = st2 := by simpa using g1_5
  refine xg hP 2 [(5, true)] rfl ?_ ?_
  ·simp [conj]
   try trivial
   all_goals repeat' apply And.intro
   all_goals first | trivial | assumption | omega | (simp_all; done) | (simp_all; omega)
  refine sw_condT rfl (sw_seq (xr hP 3 rfl (sw_ret ⟨.inl rfl, _, rfl, ?_⟩)))
  simp [conj, eqDV, *]
 ·replace g1_5 : st = st2 := by simpa using g1_5
  refine sw_dec hP 2 [(5, false)] 13 rfl (fun g1_13 => ?_) (fun g1_13 => ?_)
  ·replace g1_13 : ¬ sl = sl2 := by simpa using g1_13
   refine xg hP 2 [(5, false), (13, true)] rfl ?_ ?_
   ·simp [conj]
    try trivial
    all_goals repeat' apply And.intro
    all_goals first | trivial | assumption | omega | (simp_all; done) | (simp_all; omega)
   refine sw_condT rfl (sw_seq (xr hP 3 rfl (sw_ret ⟨.inl rfl, _, rfl, ?_⟩)))
   simp [conj, eqDV, *]
  ·replace g1_13 : sl = sl2 := by simpa using g1_13
   refine sw_dec hP 2 [(5, false), (13, false)] 21 rfl (fun g1_21 => ?_) (fun g1_21 => ?_)
   ·replace g1_21 : ¬ rg = rg2 := by simpa using g1_21
    refine xg hP 2 [(5, false), (13, false), (21, true)] rfl ?_ ?_
    ·simp [conj]
     try trivial
     all_goals repeat' apply And.intro
     all_goals first | trivial | assumption | omega | (simp_all; done) | (simp_all; omega)
    refine sw_condT rfl (sw_seq (xr hP 3 rfl (sw_ret ⟨.inl rfl, _, rfl, ?_⟩)))
    simp [conj, eqDV, *]
   ·replace g1_21 : rg = rg2 := by simpa using g1_21
    refine sw_dec hP 2 [(5, false), (13, false), (21, false)] 30 rfl (fun g1_30 => ?_) (fun g1_30 => ?_)
    ·replace g1_30 : ¬ sp.length = sp2.length := by have h := g1_30; simp at h; omega
     refine xg hP 2 [(5, false), (13, false), (21, false), (30, true)] rfl ?_ ?_
     ·simp [conj]
      try trivial
      all_goals repeat' apply And.intro
      all_goals first | trivial | assumption | omega | (simp_all; done) | (simp_all; omega)
     refine sw_condT rfl (sw_seq (xr hP 3 rfl (sw_ret ⟨.inl rfl, _, rfl, ?_⟩)))
     have hv : ¬ sp = sp2 := fun e => g1_30 (by rw [e])
     simp [conj, eqDV, hv]
    ·replace g1_30 : sp.length = sp2.length := by have h := g1_30; simp at h; omega
     refine xg hP 2 [(5, false), (13, false), (21, false), (30, false)] rfl ?_ ?_
     ·simp [conj]
      try trivial
      all_goals repeat' apply And.intro
      all_goals first | trivial | assumption | omega | (simp_all; done) | (simp_all; omega)
     refine sw_cond rfl (fun c1 => ?_) (fun c1 => ?_)
     ·replace c1 : ¬ wt.length = wt2.length := by have h := c1; simp at h; omega
      refine sw_seq (xr hP 3 rfl (sw_ret ⟨.inl rfl, _, rfl, ?_⟩))
      have hv : ¬ wt = wt2 := fun e => c1 (by rw [e])
      simp [conj, eqDV, hv]
     ·replace c1 : wt.length = wt2.length := by have h := c1; simp at h; omega
      refine sw_skip (sw_seq (sw_seq (xr hP 3 rfl (sw_block (sw_loop (ι := Nat) (fun i => ⟨[.j, .j, .v false [.ptr ⟨1, 0, 0⟩ 0], .v false [.ptr ⟨1, 1, 0⟩ 0], .j, sInt .i64 (i : Int), .j, .j, .j, .j, .j, .j, .j, .j, .j, .j, .j, .j, .j, .j, .j, .j, .j, .j, .j, .j, .j, .j, .j, .j, .j, .j, .j, .j, .j, .j, .j, .j, .j, .j, .j, .j, .j, .j, .j, .j, .j, .j, .j, .j, .j, .j, .j, .j, .j, .j, .j, .j, .j, .j, .j, .j, .j, .j, .j, .j, .j, .j, .j, .j, .j, .j, .j, .j, .j, .j, .j, .j, .j, .j, .j, .j], [(⟨1, 0, 0⟩, .var [.d TI pF st, .d (.sl .str) (.all .b) sl, .d (.sl .str) (.all .b) rg, .d (.sl .bool) (.all .b) sp, .d (.sl T_Put) (.all .b) wt]), (⟨1, 1, 0⟩, .var [.d TI pF st2, .d (.sl .str) (.all .b) sl2, .d (.sl .str) (.all .b) rg2, .d (.sl .bool) (.all .b) sp2, .d (.sl T_Put) (.all .b) wt2])], 3, []⟩) (fun i => sp.length - i) (fun i => i ≤ sp.length ∧ decide (sp.drop i = sp2.drop i) = decide (sp = sp2)) 0 ⟨?_, ?_⟩ ?_)))))
      ·exact ⟨Nat.zero_le _, rfl⟩
      ·refine ent_ok rfl ?_
       first | trivial | (simp [conj]; done) | (simp [conj] at *; (try dsimp only [Ty.den, Ty.dflt] at *); omega)
      ·rintro i ⟨hi, hgo⟩
       refine sw_seq (sw_seq (xr hP 4 rfl (sw_cond rfl (fun c4 => ?_) (fun c4 => ?_))))
       ·have hlt : i < sp.length := by simpa using c4
        have hlt2 : i < sp2.length := by omega
        refine sw_skip (sw_seq (sw_block (sw_seq (xg hP 5 [] rfl ?_ ?_))))
        ·simp [conj, gE hlt, gE hlt2]
         try exact ⟨hlt, hlt2⟩
        refine sw_cond rfl (fun c6 => ?_) (fun c6 => ?_)
        ·replace c6 : ¬ sp[i] = sp2[i] := by simpa [gE hlt, gE hlt2] using c6
         refine sw_seq (xr hP 6 rfl (sw_ret ⟨.inl rfl, _, rfl, ?_⟩))
         have hv := eq_hit' hlt hlt2 hgo c6
         replace hv : ¬ sp = sp2 := of_decide_eq_false hv
         simp [conj, eqDV, hv]
        ·replace c6 : sp[i] = sp2[i] := by simpa [gE hlt, gE hlt2] using c6
         refine sw_skip (xr hP 6 rfl (⟨i + 1, ?_, ?_, ent_ok rfl ?_⟩))
         ·exact ⟨hlt, eq_next' hlt hlt2 hgo c6⟩
         ·omega
         ·simp [conj]
       ·obtain rfl : i = sp.length := by simp at c4; omega
        have hsp : sp = sp2 := of_decide_eq_true (eq_end' g1_30 hgo)
        refine sw_exit (sw_seq (sw_seq (xr hP 5 rfl (sw_block (sw_loop (ι := Nat) (fun i => ⟨[.j, .j, .v false [.ptr ⟨1, 0, 0⟩ 0], .v false [.ptr ⟨1, 1, 0⟩ 0], .j, .j, sInt .i64 (i : Int), .j, .j, .j, .j, .j, .j, .j, .j, .j, .j, .j, .j, .j, .j, .j, .j, .j, .j, .j, .j, .j, .j, .j, .j, .j, .j, .j, .j, .j, .j, .j, .j, .j, .j, .j, .j, .j, .j, .j, .j, .j, .j, .j, .j, .j, .j, .j, .j, .j, .j, .j, .j, .j, .j, .j, .j, .j, .j, .j, .j, .j, .j, .j, .j, .j, .j, .j, .j, .j, .j, .j, .j, .j, .j, .j], [(⟨1, 0, 0⟩, .var [.d TI pF st, .d (.sl .str) (.all .b) sl, .d (.sl .str) (.all .b) rg, .d (.sl .bool) (.all .b) sp, .d (.sl T_Put) (.all .b) wt]), (⟨1, 1, 0⟩, .var [.d TI pF st2, .d (.sl .str) (.all .b) sl2, .d (.sl .str) (.all .b) rg2, .d (.sl .bool) (.all .b) sp2, .d (.sl T_Put) (.all .b) wt2])], 5, []⟩) (fun i => wt.length - i) (fun i => i ≤ wt.length ∧ decide (wt.drop i = wt2.drop i) = decide (wt = wt2)) 0 ⟨?_, ?_⟩ ?_)))))
        ·exact ⟨Nat.zero_le _, rfl⟩
        ·refine ent_ok rfl ?_
         first | trivial | (simp [conj]; done) | (simp [conj] at *; (try dsimp only [Ty.den, Ty.dflt] at *); omega)
        ·rintro i ⟨hi, hgo⟩
         refine sw_seq (sw_seq (xr hP 6 rfl (sw_cond rfl (fun c9 => ?_) (fun c9 => ?_))))
         ·have hlt : i < wt.length := by simpa using c9
          have hlt2 : i < wt2.length := by omega
          refine sw_skip (sw_seq (sw_block (sw_seq (xg hP 7 [] rfl ?_ ?_))))
          ·simp [conj, gE hlt, gE hlt2]
           try exact ⟨hlt, hlt2⟩
          refine sw_cond rfl (fun c11 => ?_) (fun c11 => ?_)
          ·replace c11 : ¬ wt[i] = wt2[i] := by intro e; simp [gE hlt, gE hlt2, e] at c11
           refine sw_seq (xr hP 8 rfl (sw_ret ⟨.inl rfl, _, rfl, ?_⟩))
           have hv := eq_hit' hlt hlt2 hgo c11
           replace hv : ¬ wt = wt2 := of_decide_eq_false hv
           simp [conj, eqDV, hv]
          ·replace c11 : wt[i] = wt2[i] := by have h := c11; simp [gE hlt, gE hlt2] at h; exact Prod.ext h.1 (Prod.ext h.2.1 h.2.2)
           refine sw_skip (xr hP 8 rfl (⟨i + 1, ?_, ?_, ent_ok rfl ?_⟩))
           ·exact ⟨hlt, eq_next' hlt hlt2 hgo c11⟩
           ·omega
           ·simp [conj]
         ·obtain rfl : i = wt.length := by simp at c9; omega
          have hwt : wt = wt2 := of_decide_eq_true (eq_end' c1 hgo)
          refine sw_exit (sw_seq (xr hP 7 rfl (sw_ret ⟨.inl rfl, _, rfl, ?_⟩)))
          simp [conj, eqDV, *]
end Go.Sx

namespace Go.Sx
open Go
set_option maxRecDepth 100000
set_option linter.unusedVariables false
set_option linter.unusedSimpArgs false
set_option maxHeartbeats 2000000
def cSumI : Ctr := ⟨45, [.val false .str pF], fun x => True, fun x => (sInt .i64 (weighV (List.take 9 x.1)), [])⟩
theorem cSumI_ok : CtrOk Proofs.Tryz.prog cSumI := by
 have hP := ((Prg.none ttok mtok).and cWeigh_ok)
 refine ctr_of_body hP cSumI (fn := Proofs.Tryz.f45) (rts := [.tmp 2]) Proofs.Tryz.func45 rfl (by kernel_rfl) rfl rfl ?_
 rintro ⟨(s : Str), ⟨⟩⟩ ⟨hds, _⟩ _
 try dsimp only [Ty.den, Mode.den, mdens] at _
 refine ⟨rfl, ?_⟩
 have hml : s.length ≤ 140737488355328 := hds
 obtain ⟨hv, h0, h1⟩ := sMin9 s
 have hk : (s.take 9).length ≤ 1000000 := by rw [List.length_take]; omega
 refine sw_seq (xr hP 1 rfl (sw_seq (xg hP 2 [] rfl ?_ ?_)))
 ·simp only [conj, List.append_nil]
  refine ⟨⟨h0, h1⟩, ?_⟩
  show (s.take (sMin (s.length : Int) 9).toNat).length ≤ 1000000
  rw [hv]
  exact hk
 refine sw_ret ⟨.inl rfl, _, rfl, ?_⟩
 simp [conj, hv]
def cAllC : Ctr := ⟨143, [.val false (.sl .str) (.all .b), .val false TI pF], fun x => True, fun x => (sBool (allC x.1 x.2.1), [])⟩
theorem cAllC_ok : CtrOk Proofs.Tryz.prog cAllC := by
 have hP := ((Prg.none ttok mtok).and cCol_ok)
 refine ctr_of_body hP cAllC (fn := Proofs.Tryz.f143) (rts := [.tmp 4]) Proofs.Tryz.func143 rfl (by kernel_rfl) rfl rfl ?_
 rintro ⟨(l : List Str), (n : Int), ⟨⟩⟩ ⟨hdl, _⟩ _
 try dsimp only [Ty.den, Mode.den, mdens] at _
 refine ⟨rfl, ?_⟩
 have hml : l.length ≤ 140737488355328 := hdl.1
 refine sw_seq (xr hP 1 rfl (sw_seq (sw_seq (xr hP 2 rfl (sw_block (sw_loop (ι := Nat) (fun i => ⟨[.j, .v false [.d TI pF n], .j, .j, .j, .j, .j, .v false [.d (.sl .str) (.all .b) l], sInt .i64 (l.length : Int), sInt .i64 (i : Int), .j, .j, .j, .j, .j, .j, .j, .j, .j, .j, .j, .j, .j], [], 2, []⟩) (fun i => l.length - i) (fun i => i ≤ l.length ∧ allGo n i (l.drop i) = allC l n) 0 ⟨?_, ?_⟩ ?_))))))
 ·exact ⟨Nat.zero_le _, rfl⟩
 ·refine ent_ok rfl ?_
  simp [conj]
 ·rintro i ⟨hi, hgo⟩
  refine sw_seq (xr hP 3 rfl (sw_seq (sw_cond rfl (fun c2 => ?_) (fun c2 => ?_))))
  ·have hlt : i < l.length := by simpa using c2
   have hgo2 := hgo
   rw [drop_at hlt] at hgo2
   simp only [allGo] at hgo2
   refine sw_skip (sw_seq (sw_block (sw_seq (xg hP 4 [] rfl ?_ ?_))))
   ·simp [conj, gE hlt]
    repeat' apply And.intro
    all_goals first | omega | trivial
   refine sw_seq ?_
   refine sw_dec hP 5 [] 3 rfl (fun g4_3 => ?_) (fun g4_3 => ?_)
   ·have k3 : ¬ (i : Int) = n := by simpa using g4_3
    refine xd hP 5 [(3, true)] rfl (sw_cond rfl (fun c4 => ?_) (fun c4 => ?_))
    ·have k4 : ¬ l[i].length = 3 := by simpa [gE hlt] using c4
     have hv : allC l n = false := by rw [← hgo2]; simp [k3, k4]
     refine sw_seq (xr hP 6 rfl (sw_ret ⟨.inl rfl, _, rfl, ?_⟩))
     simp [conj, hv]
    ·have k4 : l[i].length = 3 := by simpa [gE hlt] using c4
     replace hgo2 : allGo n (i + 1) (l.drop (i + 1)) = allC l n := by simpa [k4] using hgo2
     refine sw_skip (xr hP 6 rfl (⟨i + 1, ?_, ?_, ent_ok rfl ?_⟩))
     ·exact ⟨hlt, hgo2⟩
     ·omega
     ·simp [conj]
   ·have k3 : (i : Int) = n := by simpa using g4_3
    replace hgo2 : allGo n (i + 1) (l.drop (i + 1)) = allC l n := by simpa [k3] using hgo2
    refine xd hP 5 [(3, false)] rfl (sw_condF rfl (sw_skip (xr hP 6 rfl (⟨i + 1, ?_, ?_, ent_ok rfl ?_⟩))))
    ·exact ⟨hlt, hgo2⟩
    ·omega
    ·simp [conj]
  ·obtain rfl : i = l.length := by simp at c2; omega
   rw [List.drop_length] at hgo
   have hv : allC l n = true := hgo.symm
   refine sw_exit (sw_seq (xr hP 4 rfl (sw_ret ⟨.inl rfl, _, rfl, ?_⟩)))
   simp [conj, hv]
def cColsI : Ctr := ⟨89, [.val false .str pF], fun x => 1 ≤ List.length x.1 ∧ List.length x.1 ≤ 9, fun x => (.v false [.own ⟨1, 0, 0⟩], [(⟨1, 0, 0⟩, .sl .str (.all .w) (colT x.1))])⟩
theorem cColsI_ok : CtrOk Proofs.Tryz.prog cColsI := by
 have hP := (((Prg.none ttok mtok).and cCols_ok).and cRep_ok)
 refine ctr_of_body hP cColsI (fn := Proofs.Tryz.f89) (rts := [.tmp 2]) Proofs.Tryz.func89 rfl (by kernel_rfl) rfl rfl ?_
 rintro ⟨(s : Str), ⟨⟩⟩ _ ⟨h1, h9⟩
 try dsimp only [Ty.den, Mode.den, mdens] at h1
 try dsimp only [Ty.den, Mode.den, mdens] at h9
 refine ⟨rfl, ?_⟩
 replace h1 : 1 ≤ s.length := h1
 replace h9 : s.length ≤ 9 := h9
 have hm := colsV_nat s.length
 obtain ⟨m, hmd⟩ : ∃ m, m = (s.length + 2) / 3 := ⟨_, rfl⟩
 rw [← hmd] at hm
 have hcl := colT_len s
 rw [← hmd] at hcl
 have hpl : (s ++ List.replicate (m * 3 - s.length) 0).length = m * 3 := by rw [List.length_append, List.length_replicate]; omega
 have hrp : ((m : Int) * 3 - (s.length : Int)).toNat = m * 3 - s.length := by omega
 have hzr : [0].getD 0 (0 : UInt8) = 0 := rfl
 refine sw_seq (xr hP 1 rfl (sw_seq (sw_seq ?_)))
 refine sw_dec hP 2 [] 2 rfl (fun g1_2 => ?_) (fun g1_2 => ?_)
 ·have h : s = [] := of_decide_eq_true g1_2
  rw [h] at h1
  simp at h1
 ·refine xd hP 2 [(2, false)] rfl (sw_cond rfl (fun c1 => ?_) (fun c1 => ?_))
  ·have h : (9 : Int) < (s.length : Int) := of_decide_eq_true c1
   omega
  ·refine sw_skip (sw_seq (xg hP 3 [] rfl ?_ ?_))
   ·exact ⟨by show (0 : Int) ≤ (s.length : Int); omega, by show (s.length : Int) ≤ 1000000; omega⟩
   refine sw_seq (xg hP 4 [] rfl ?_ ?_)
   ·simp [conj, hm, hrp, maxL]
    repeat' apply And.intro
    all_goals first | omega | trivial | (show (0 : Int) ≤ (m : Int) * 3 - (s.length : Int); omega) | (show (m : Int) * 3 - (s.length : Int) ≤ 2; omega)
   refine sw_seq (xr hP 5 rfl (sw_seq (sw_seq (xr hP 6 rfl (sw_block (sw_loop (ι := Nat) (fun i => ⟨[.j, .j, .j, .j, .v false [.d .str pF (s ++ List.replicate (m * 3 - s.length) 0)], .v false [.own ⟨0, 9, 0⟩], .j, .j, .j, .j, .j, .j, .j, .j, .j, .j, .j, .j, .j, .j, .j, .j, .j, .j, .j, sInt .i64 (m : Int), sInt .i64 (i : Int), .j, .j, .j, .j, .j, .j, .j, .j, .j, .j, .j, .j, .j, .j], [(⟨0, 9, 0⟩, .sl .str (.all .w) ((colT s).take i))], 6, []⟩) (fun i => m - i) (fun i => i ≤ m) 0 ⟨?_, ?_⟩ ?_))))))
   ·exact Nat.zero_le _
   ·refine ent_ok rfl ?_
    simp [conj]
    exact ⟨hm, by rw [hm]; omega, Or.inr rfl⟩
   ·rintro i hi
    refine sw_seq (xr hP 7 rfl (sw_seq (sw_cond rfl (fun c7 => ?_) (fun c7 => ?_))))
    ·have hlt : i < m := by simpa using c7
     have hnx := colT_next hmd hlt h9
     refine sw_skip (sw_seq (sw_block (sw_seq (xr hP 8 rfl (xg hP 9 [] rfl ?_ ?_)))))
     ·simp [conj, hpl, maxL]
      repeat' apply And.intro
      all_goals first | omega | trivial
     refine xr hP 10 rfl (⟨i + 1, ?_, ?_, ent_ok rfl ?_⟩)
     ·exact hlt
     ·omega
     ·simp [conj]
      rw [show ((i : Int) * 3).toNat = i * 3 by omega, show (((i : Int) + 1) * 3).toNat = (i + 1) * 3 by omega]
      exact hnx
    ·obtain rfl : i = m := by have h : ¬ (i : Int) < (m : Int) := of_decide_eq_false c7; omega
     refine sw_exit (sw_seq (xr hP 8 rfl (sw_ret ⟨.inl rfl, _, rfl, ?_⟩)))
     simp [conj, ← hcl]
def cParI : Ctr := ⟨90, [.val false (.sl .str) (.all .b)], fun x => (1 ≤ List.length x.1 ∧ List.length x.1 ≤ 3) ∧ ∀ c ∈ x.1, List.length c = 3, fun x => (sStr (parT x.1), [])⟩
theorem cParI_ok : CtrOk Proofs.Tryz.prog cParI := by
 have hP := (((Prg.none ttok mtok).and cAllC_ok).and cXor_ok)
 refine ctr_of_body hP cParI (fn := Proofs.Tryz.f90) (rts := [.tmp 2]) Proofs.Tryz.func90 rfl (by kernel_rfl) rfl rfl ?_
 rintro ⟨(l : List Str), ⟨⟩⟩ _ ⟨⟨h1, h3⟩, hc⟩
 try dsimp only [Ty.den, Mode.den, mdens] at h1
 try dsimp only [Ty.den, Mode.den, mdens] at h3
 try dsimp only [Ty.den, Mode.den, mdens] at hc
 refine ⟨rfl, ?_⟩
 replace h1 : 1 ≤ l.length := h1
 replace h3 : l.length ≤ 3 := h3
 replace hc : ∀ c ∈ l, List.length c = 3 := hc
 have hal := allGo_neg hc (i := 0)
 have hv : l.foldl xorV [] = parT l := parI_eq hc (fun e => by rw [e] at h1; simp at h1)
 refine sw_seq (xr hP 1 rfl (sw_seq (sw_seq ?_)))
 refine sw_dec hP 2 [] 3 rfl (fun g1_3 => ?_) (fun g1_3 => ?_)
 ·have h : (l.length : Int) < 1 := of_decide_eq_true g1_3
  omega
 ·refine sw_dec hP 2 [(3, false)] 8 rfl (fun g1_8 => ?_) (fun g1_8 => ?_)
  ·have h : (3 : Int) < (l.length : Int) := of_decide_eq_true g1_8
   omega
  ·refine xd hP 2 [(3, false), (8, false)] rfl (sw_cond rfl (fun c1 => ?_) (fun c1 => ?_))
   ·have h : (!allC l (-1)) = true := c1
    unfold allC at h
    rw [hal] at h
    cases h
   ·refine sw_skip (sw_seq (xr hP 3 rfl (sw_seq (sw_seq (xr hP 4 rfl (sw_block (sw_loop (ι := Nat × Str) (fun ⟨i, z⟩ => ⟨[.j, .j, .j, .v false [.d .str pF z], .j, .j, .j, .j, .j, .j, .j, .j, .j, .j, .j, .j, .j, .j, .j, .v false [.d (.sl .str) (.all .b) l], sInt .i64 (l.length : Int), sInt .i64 (i : Int), .j, .j, .j, .j, .j, .j, .j, .j], [], 4, []⟩) (fun ⟨i, z⟩ => l.length - i) (fun ⟨i, z⟩ => i ≤ l.length ∧ (l.drop i).foldl xorV z = parT l ∧ z.length ≤ 3) (0, []) ⟨?_, ?_⟩ ?_)))))))
    ·exact ⟨Nat.zero_le _, hv, by decide⟩
    ·refine ent_ok rfl ?_
     simp [conj]
     rfl
    ·rintro ⟨i, z⟩ ⟨hi, hgo, hz⟩
     refine sw_seq (xr hP 5 rfl (sw_seq (sw_cond rfl (fun c5 => ?_) (fun c5 => ?_))))
     ·have hlt : i < l.length := by simpa using c5
      have hc3 : l[i].length = 3 := hc _ (List.getElem_mem hlt)
      have hgo2 := hgo
      rw [drop_at hlt] at hgo2
      simp only [List.foldl_cons] at hgo2
      refine sw_skip (sw_seq (sw_block (sw_seq (xg hP 6 [] rfl ?_ ?_))))
      ·simp [conj, gE hlt]
       repeat' apply And.intro
       all_goals first | omega | trivial
      refine xg hP 7 [] rfl ?_ ?_
      ·simp [conj, gE hlt]
       exact ⟨by show z.length ≤ 1000; omega, by show l[i].length ≤ 1000; omega⟩
      refine xr hP 8 rfl (⟨(i + 1, xorV z l[i]), ?_, ?_, ent_ok rfl ?_⟩)
      ·exact ⟨hlt, hgo2, by rw [xorV_len]; omega⟩
      ·show l.length - (i + 1) < l.length - i
       omega
      ·simp [conj, gE hlt]
     ·obtain rfl : i = l.length := by simp at c5; omega
      rw [List.drop_length] at hgo
      replace hgo : z = parT l := hgo
      refine sw_exit (sw_seq (xr hP 6 rfl (sw_ret ⟨.inl rfl, _, rfl, ?_⟩)))
      simp [conj, hgo]
def cStrip : Ctr := ⟨47, [.val false .str pF], fun x => 1 ≤ List.length x.1 ∧ List.length x.1 ≤ 9, fun x => (.v false [.own ⟨1, 0, 0⟩], [(⟨1, 0, 0⟩, .sl .str (.all .w) (stripT x.1))])⟩
theorem cStrip_ok : CtrOk Proofs.Tryz.prog cStrip := by
 have hP := (((Prg.none ttok mtok).and cColsI_ok).and cParI_ok)
 refine ctr_of_body hP cStrip (fn := Proofs.Tryz.f47) (rts := [.tmp 2]) Proofs.Tryz.func47 rfl (by kernel_rfl) rfl rfl ?_
 rintro ⟨(s : Str), ⟨⟩⟩ _ ⟨h1, h9⟩
 try dsimp only [Ty.den, Mode.den, mdens] at h1
 try dsimp only [Ty.den, Mode.den, mdens] at h9
 refine ⟨rfl, ?_⟩
 replace h1 : 1 ≤ s.length := h1
 replace h9 : s.length ≤ 9 := h9
 have hcl := colT_len s
 have hct : colsT s = colT s := if_pos ⟨h1, h9⟩
 refine sw_seq (xr hP 1 rfl (sw_seq (xg hP 2 [] rfl ?_ ?_)))
 ·exact ⟨h1, h9⟩
 refine sw_seq (xg hP 3 [] rfl ?_ ?_)
 ·simp [conj, maxL]
  repeat' apply And.intro
  all_goals first | omega | trivial | (show 1 ≤ (colT s).length; omega) | (show (colT s).length ≤ 3; omega) | exact fun c hc => colT_3 hc
 refine sw_ret ⟨.inl rfl, _, rfl, ?_⟩
 simp [conj, stripT, hct]
def cClonePt : Ctr := ⟨165, [.val false (.sl T_Put) (.all .b)], fun x => List.length x.1 ≤ 1099511627776, fun x => (.v false [.own ⟨1, 0, 0⟩], [(⟨1, 0, 0⟩, .sl T_Put (.all .w) x.1)])⟩
theorem cClonePt_ok : CtrOk Proofs.Tryz.prog cClonePt := by
 have hP := (Prg.none ttok mtok)
 refine ctr_of_body hP cClonePt (fn := Proofs.Tryz.f165) (rts := [.tmp 2]) Proofs.Tryz.func165 rfl (by kernel_rfl) rfl rfl ?_
 rintro ⟨(l : List Put), ⟨⟩⟩ ⟨hdl, _⟩ hpre
 try dsimp only [Ty.den, Mode.den, mdens] at hpre
 refine ⟨rfl, ?_⟩
 have hml : l.length ≤ 1099511627776 := hpre
 refine sw_seq (xr hP 1 rfl (sw_seq (sw_seq (xr hP 2 rfl (sw_condA rfl (fun c1 => ?_) ?_)))))
 ·obtain rfl : l = [] := List.eq_nil_of_length_eq_zero c1
  refine sw_seq (xr hP 3 rfl (sw_ret ⟨.inl rfl, _, rfl, ?_⟩))
  first | trivial | (simp [conj]; done) | (simp [conj] at *; (try dsimp only [Ty.den, Ty.dflt] at *); omega)
 ·refine sw_skip (sw_seq (xg hP 3 [] rfl ?_ ?_))
  ·simp [conj, maxL]
   try dsimp only [Ty.den, Ty.dflt]
   try simp only [rd_eta]
   omega
  refine sw_ret ⟨.inl rfl, _, rfl, ?_⟩
  first | trivial | (simp [conj]; done) | (simp [conj] at *; (try dsimp only [Ty.den, Ty.dflt] at *); omega)
def cCopyDI : Ctr := ⟨139, [.val true T_Disk (.all .b)], fun x => SmallD x.1, fun x => (.v true [.d TI pF (x.1).1, .own ⟨1, 0, 0⟩, .own ⟨1, 1, 0⟩, .own ⟨1, 2, 0⟩, .own ⟨1, 3, 0⟩], [(⟨1, 0, 0⟩, .sl .str (.all .w) (x.1).2.1), (⟨1, 1, 0⟩, .sl .str (.all .w) (x.1).2.2.1), (⟨1, 2, 0⟩, .sl .bool (.all .w) (x.1).2.2.2.1), (⟨1, 3, 0⟩, .sl T_Put (.all .w) (x.1).2.2.2.2)])⟩
theorem cCopyDI_ok : CtrOk Proofs.Tryz.prog cCopyDI := by
 have hP := ((((Prg.none ttok mtok).and cCloneO_ok).and cCloneB_ok).and cClonePt_ok)
 refine ctr_of_body hP cCopyDI (fn := Proofs.Tryz.f139) (rts := [.cell 2 38]) Proofs.Tryz.func139 rfl (by kernel_rfl) rfl rfl ?_
 rintro ⟨⟨(st : Int), (sl : List Str), (rg : List Str), (sp : List Bool), (wt : List Put)⟩, ⟨⟩⟩ _ ⟨h1, h2, h3, h4⟩
 try dsimp only [Ty.den, Mode.den, mdens] at h1
 try dsimp only [Ty.den, Mode.den, mdens] at h2
 try dsimp only [Ty.den, Mode.den, mdens] at h3
 try dsimp only [Ty.den, Mode.den, mdens] at h4
 refine ⟨rfl, ?_⟩
 refine sw_seq (xr hP 1 rfl (sw_seq (xg hP 2 [] rfl ?_ ?_)))
 ·simp [conj, maxL]
  repeat' apply And.intro
  all_goals first | omega | trivial | (show sl.length ≤ 1099511627776; omega) | (show rg.length ≤ 1099511627776; omega) | (show sp.length ≤ 1099511627776; omega) | (show wt.length ≤ 1099511627776; omega)
 refine sw_ret ⟨.inl rfl, _, rfl, ?_⟩
 simp [conj]
def cCopyDs : Ctr := ⟨87, [.val false (.sl T_Disk) (.all .b)], fun x => List.length x.1 ≤ 1000 ∧ ∀ d ∈ x.1, SmallD d, fun x => (.v false [.own ⟨1, 0, 0⟩], [(⟨1, 0, 0⟩, .sl T_Disk (.all .w) x.1)])⟩
theorem cCopyDs_ok : CtrOk Proofs.Tryz.prog cCopyDs := by
 have hP := ((Prg.none ttok mtok).and cCopyDI_ok)
 refine ctr_of_body hP cCopyDs (fn := Proofs.Tryz.f87) (rts := [.tmp 2]) Proofs.Tryz.func87 rfl (by kernel_rfl) rfl rfl ?_
 rintro ⟨(ds : List Dsk), ⟨⟩⟩ _ ⟨hml, hsm⟩
 try dsimp only [Ty.den, Mode.den, mdens] at hml
 try dsimp only [Ty.den, Mode.den, mdens] at hsm
 refine ⟨rfl, ?_⟩
 replace hml : ds.length ≤ 1000 := hml
 replace hsm : ∀ d ∈ ds, SmallD d := hsm
 refine sw_seq (xr hP 1 rfl (sw_seq (xr hP 2 rfl (sw_seq (sw_seq (xr hP 3 rfl (sw_block (sw_loop (ι := Nat) (fun i => ⟨[.j, .j, .j, .v false [.own ⟨0, 9, 0⟩], .j, .j, .v false [.d (.sl T_Disk) (.all .b) ds], sInt .i64 (ds.length : Int), sInt .i64 (i : Int), .j, .j, .j, .j, .j, .j, .j, .j, .j, .j], [(⟨0, 9, 0⟩, .sl T_Disk (.all .w) (ds.take i))], 3, []⟩) (fun i => ds.length - i) (fun i => i ≤ ds.length) 0 ⟨?_, ?_⟩ ?_))))))))
 ·exact Nat.zero_le _
 ·refine ent_ok rfl ?_
  simp [conj]
 ·rintro i hi
  refine sw_seq (xr hP 4 rfl (sw_seq (sw_cond rfl (fun c3 => ?_) (fun c3 => ?_))))
  ·have hlt : i < ds.length := by simpa using c3
   have hs1 := hsm _ (List.getElem_mem hlt)
   have hnx := List.take_succ_eq_append_getElem hlt
   refine sw_skip (sw_seq (sw_block (sw_seq (xg hP 5 [] rfl ?_ ?_))))
   ·simp [conj, gE hlt]
    repeat' apply And.intro
    all_goals first | omega | trivial
   refine xg hP 6 [] rfl ?_ ?_
   ·simp [conj, maxL, gE hlt]
    repeat' apply And.intro
    all_goals first | omega | trivial | exact hs1.1 | exact hs1.2.1 | exact hs1.2.2.1 | exact hs1.2.2.2
   refine xr hP 7 rfl (⟨i + 1, ?_, ?_, ent_ok rfl ?_⟩)
   ·exact hlt
   ·omega
   ·simp [conj, gE hlt]
    exact hnx.symm
  ·obtain rfl : i = ds.length := by simp at c3; omega
   refine sw_exit (sw_seq (xr hP 5 rfl (sw_ret ⟨.inl rfl, _, rfl, ?_⟩)))
   simp [conj]
def cPut1 : Ctr := ⟨48, [.val false TI pF], fun x => True, fun x => (sBool true, [])⟩
theorem cPut1_ok : CtrOk Proofs.Tryz.prog cPut1 := by
 have hP := (Prg.none ttok mtok)
 refine ctr_of_body hP cPut1 (fn := Proofs.Tryz.f48) (rts := [.tmp 2]) Proofs.Tryz.func48 rfl (by kernel_rfl) rfl rfl ?_
 rintro ⟨(n : Int), ⟨⟩⟩ _ _
 try dsimp only [Ty.den, Mode.den, mdens] at _
 refine ⟨rfl, ?_⟩
 refine sw_seq (xr hP 1 rfl (sw_seq (xr hP 2 rfl (sw_ret ⟨.inl rfl, _, rfl, ?_⟩))))
 simp [conj]
def cWrI : Ctr := ⟨46, [.val false (.sl T_Disk) (.all .b), .val false (.sl T_Place) (.all .b), .val false (.sl .str) (.all .b), .clo 48 []], fun x => (stripeV x.1 = true ∧ (∀ a ∈ x.2.1, placeV (List.length x.1 : Int) a = true)) ∧ (List.length x.2.1 = List.length x.2.2.1 ∧ List.length x.2.1 ≤ 4) ∧ ∀ c ∈ x.2.2.1, List.length c = 3, fun x => (.v false [.own ⟨1, 0, 0⟩], [(⟨1, 0, 0⟩, .sl T_Disk (.all .w) (wrN x.2.2.1 x.2.1 (List.length x.2.1) x.1))])⟩
theorem cWrI_ok : CtrOk Proofs.Tryz.prog cWrI := by
 have hP := ((((Prg.none ttok mtok).and cCopyDs_ok).and cPut1_ok).and cDPut_ok)
 refine ctr_of_body hP cWrI (fn := Proofs.Tryz.f46) (rts := [.tmp 8]) Proofs.Tryz.func46 rfl (by kernel_rfl) rfl rfl ?_
 rintro ⟨(ds : List Dsk), (pl : List Plc), (cs : List Str), ⟨⟩, ⟨⟩⟩ _ ⟨⟨hs, hpl⟩, ⟨hlen, h4⟩, hcs⟩
 try dsimp only [Ty.den, Mode.den, mdens] at hs
 try dsimp only [Ty.den, Mode.den, mdens] at hpl
 try dsimp only [Ty.den, Mode.den, mdens] at hlen
 try dsimp only [Ty.den, Mode.den, mdens] at h4
 try dsimp only [Ty.den, Mode.den, mdens] at hcs
 refine ⟨rfl, ?_⟩
 replace hs : stripeV ds = true := hs
 replace hpl : ∀ a ∈ pl, placeV (ds.length : Int) a = true := hpl
 replace hlen : pl.length = cs.length := hlen
 replace h4 : pl.length ≤ 4 := h4
 replace hcs : ∀ c ∈ cs, List.length c = 3 := hcs
 have hml := stripe_len hs
 have hsm : ∀ d ∈ ds, SmallD d := fun d hd => rd_small (stripe_all hs d hd)
 refine sw_seq (xr hP 1 rfl (sw_seq (xg hP 2 [] rfl ?_ ?_)))
 ·exact ⟨by show ds.length ≤ 1000; omega, hsm⟩
 refine sw_seq (sw_seq (xr hP 3 rfl (sw_block (sw_loop (ι := Nat) (fun i => ⟨[.j, .j, .v false [.d (.sl .str) (.all .b) cs], .fn 48 [], .j, .j, .j, .j, .j, .v false [.own ⟨0, 9, 0⟩], .j, .j, .j, .j, .v false [.d (.sl T_Place) (.all .b) pl], sInt .i64 (pl.length : Int), sInt .i64 (i : Int), .j, .j, .j, .j, .j, .j, .j, .j, .j, .j, .j, .j, .j, .j, .j, .j, .j, .j, .j, .j, .j, .j, .j, .j, .j, .j], [(⟨0, 9, 0⟩, .sl T_Disk (.all .w) (wrN cs pl i ds))], 3, []⟩) (fun i => pl.length - i) (fun i => i ≤ pl.length) 0 ⟨?_, ?_⟩ ?_))))
 ·exact Nat.zero_le _
 ·refine ent_ok rfl ?_
  simp [conj, wrN]
 ·rintro i hi
  refine sw_seq (xr hP 4 rfl (sw_seq (sw_cond rfl (fun c3 => ?_) (fun c3 => ?_))))
  ·have hlt : i < pl.length := by simpa using c3
   have hlc : i < cs.length := by omega
   obtain ⟨⟨w0, w1, w2⟩, w3, w4, w5, w6, w7⟩ := wr_step hs hpl hlen hcs hlt
   have hwl := wrN_len cs pl ds i
   refine sw_skip (sw_seq (sw_block (sw_seq (xg hP 5 [] rfl ?_ ?_))))
   ·simp [conj, gE hlt]
    repeat' apply And.intro
    all_goals first | omega | trivial
   refine sw_seq (xr hP 6 rfl (sw_cond rfl (fun c5 => ?_) (fun c5 => ?_)))
   ·refine xg hP 7 [] rfl ?_ ?_
    ·simp [conj, maxL, gE hlt, gE hlc]
     repeat' apply And.intro
     all_goals first | omega | trivial
    refine xr hP 8 rfl (⟨i + 1, ?_, ?_, ent_ok rfl ?_⟩)
    ·exact hlt
    ·omega
    ·simp [conj, gE hlt]
     exact w7
   ·cases c5
  ·obtain rfl : i = pl.length := by simp at c3; omega
   refine sw_exit (sw_seq (xr hP 5 rfl (sw_ret ⟨.inl rfl, _, rfl, ?_⟩)))
   simp [conj]
def cUse : Ctr := ⟨44, [.val false (.sl T_Disk) (.all .b), .val true T_Ptr (.all .b)], fun x => True, fun x => (sBool (usableV x.1 x.2.1), [])⟩
theorem cUse_ok : CtrOk Proofs.Tryz.prog cUse := by
 have hP := ((((Prg.none ttok mtok).and cStripeOk_ok).and cNone_ok).and cPtrOk_ok)
 refine ctr_of_body hP cUse (fn := Proofs.Tryz.f44) (rts := [.tmp 4]) Proofs.Tryz.func44 rfl (by kernel_rfl) rfl rfl ?_
 rintro ⟨(ds : List Dsk), ⟨(sz : Int), (sm : Int), (pl : List Plc)⟩, ⟨⟩⟩ _ _
 try dsimp only [Ty.den, Mode.den, mdens] at _
 refine ⟨rfl, ?_⟩
 refine sw_seq (xr hP 1 rfl (sw_seq ?_))
 refine sw_dec hP 2 [] 2 rfl (fun g1_2 => ?_) (fun g1_2 => ?_)
 ·replace g1_2 : stripeV ds = true := g1_2
  refine sw_dec hP 2 [(2, true)] 7 rfl (fun g1_7 => ?_) (fun g1_7 => ?_)
  ·replace g1_7 : noneV ((sz, sm, pl) : Ptr_) = false := by have h : (!noneV ((sz, sm, pl) : Ptr_)) = true := g1_7; simpa using h
   refine xg hP 2 [(2, true), (7, true)] rfl ?_ ?_
   ·simp [conj, maxL]
    try dsimp only [Ty.den, Ty.dflt]
    try simp only [rd_eta]
    repeat' apply And.intro
    all_goals first | trivial | assumption
   refine sw_ret ⟨.inl rfl, _, rfl, ?_⟩
   simp [conj, usableV, *]
  ·replace g1_7 : noneV ((sz, sm, pl) : Ptr_) = true := by have h : (!noneV ((sz, sm, pl) : Ptr_)) = false := g1_7; simpa using h
   refine xg hP 2 [(2, true), (7, false)] rfl ?_ ?_
   ·simp [conj, maxL]
    try dsimp only [Ty.den, Ty.dflt]
    try simp only [rd_eta]
    repeat' apply And.intro
    all_goals first | trivial | assumption
   refine sw_ret ⟨.inl rfl, _, rfl, ?_⟩
   simp [conj, usableV, *]
 ·replace g1_2 : stripeV ds = false := g1_2
  refine xg hP 2 [(2, false)] rfl ?_ ?_
  ·simp [conj, maxL]
   try dsimp only [Ty.den, Ty.dflt]
   try simp only [rd_eta]
   repeat' apply And.intro
   all_goals first | trivial | assumption
  refine sw_ret ⟨.inl rfl, _, rfl, ?_⟩
  simp [conj, usableV, *]
def cSPutI : Ctr := ⟨8, [.val false (.sl T_Disk) (.all .b), .val true T_Ptr (.all .b), .val false .str pF], fun x => True, fun x => (.tup [(false, [.own ⟨1, 0, 0⟩]), (false, [.d .bool pF (sputV x.1 x.2.1 x.2.2.1).2])], [(⟨1, 0, 0⟩, .sl T_Disk (.all .w) (sputV x.1 x.2.1 x.2.2.1).1)])⟩
theorem cSPutI_ok : CtrOk Proofs.Tryz.prog cSPutI := by
 have hP := (((((Prg.none ttok mtok).and cUse_ok).and cSumI_ok).and cStrip_ok).and cWrI_ok)
 refine ctr_of_body hP cSPutI (fn := Proofs.Tryz.f8) (rts := [.tmp 6, .tmp 7]) Proofs.Tryz.func8 rfl (by kernel_rfl) rfl rfl ?_
 rintro ⟨(ds : List Dsk), ⟨(sz : Int), (sm : Int), (pl : List Plc)⟩, (t : Str), ⟨⟩⟩ _ _
 try dsimp only [Ty.den, Mode.den, mdens] at _
 refine ⟨rfl, ?_⟩
 refine sw_seq (xr hP 1 rfl (sw_seq (sw_seq ?_)))
 refine sw_dec hP 2 [] 4 rfl (fun g1_4 => ?_) (fun g1_4 => ?_)
 ·have hu : ¬ usableV ds ((sz, sm, pl) : Ptr_) = true := by have h : (!usableV ds ((sz, sm, pl) : Ptr_)) = true := g1_4; simpa using h
  have hu0 : usableV ds ((sz, sm, pl) : Ptr_) = false := by simpa using hu
  have hv : sputV ds ((sz, sm, pl) : Ptr_) t = ([], false) := if_neg fun h => hu h.1
  refine xg hP 2 [(4, true)] rfl ?_ ?_
  ·simp [conj, maxL]
   try dsimp only [Ty.den, Ty.dflt]
   try simp only [rd_eta]
   repeat' apply And.intro
   all_goals first | trivial | assumption
  refine sw_condT rfl (sw_seq (xr hP 3 rfl (sw_ret ⟨.inl rfl, _, rfl, ?_⟩)))
  rw [hv]
  simp [conj]
 ·have hu : usableV ds ((sz, sm, pl) : Ptr_) = true := by have h : (!usableV ds ((sz, sm, pl) : Ptr_)) = false := g1_4; simpa using h
  refine sw_dec hP 2 [(4, false)] 11 rfl (fun g1_11 => ?_) (fun g1_11 => ?_)
  ·have k1 : ¬ (t.length : Int) = sz := by have h : (!decide ((t.length : Int) = sz)) = true := g1_11; simpa using h
   have hv : sputV ds ((sz, sm, pl) : Ptr_) t = ([], false) := if_neg fun h => k1 h.2.1
   refine xg hP 2 [(4, false), (11, true)] rfl ?_ ?_
   ·simp [conj, maxL]
    try dsimp only [Ty.den, Ty.dflt]
    try simp only [rd_eta]
    repeat' apply And.intro
    all_goals first | trivial | assumption
   refine sw_condT rfl (sw_seq (xr hP 3 rfl (sw_ret ⟨.inl rfl, _, rfl, ?_⟩)))
   rw [hv]
   simp [conj]
  ·have k1 : (t.length : Int) = sz := by have h : (!decide ((t.length : Int) = sz)) = false := g1_11; simpa using h
   refine xg hP 2 [(4, false), (11, false)] rfl ?_ ?_
   ·simp [conj, maxL]
    try dsimp only [Ty.den, Ty.dflt]
    try simp only [rd_eta]
    repeat' apply And.intro
    all_goals first | trivial | assumption
   refine sw_cond rfl (fun c1 => ?_) (fun c1 => ?_)
   ·have k2 : ¬ weighV (t.take 9) = sm := by have h : (!decide (weighV (t.take 9) = sm)) = true := c1; simpa using h
    have hv : sputV ds ((sz, sm, pl) : Ptr_) t = ([], false) := if_neg fun h => k2 h.2.2
    refine sw_seq (xr hP 3 rfl (sw_ret ⟨.inl rfl, _, rfl, ?_⟩))
    rw [hv]
    simp [conj]
   ·have k2 : weighV (t.take 9) = sm := by have h : (!decide (weighV (t.take 9) = sm)) = false := c1; simpa using h
    have hv : sputV ds ((sz, sm, pl) : Ptr_) t = (wrN (stripT t) pl pl.length ds, true) := if_pos ⟨hu, k1, k2⟩
    obtain ⟨u1, u2, u3, u4, u5, u6⟩ := usable_parts hu
    dsimp only at u3 u4 u5 u6
    obtain ⟨y1, y2, y3⟩ := strip_places hu k1
    dsimp only at y1
    have u7 : pl.length ≤ 4 := by omega
    refine sw_skip (sw_seq (xg hP 3 [] rfl ?_ ?_))
    ·simp [conj]
     repeat' apply And.intro
     all_goals first | omega | trivial | exact u1 | exact u6 | (show pl.length = (stripT t).length; omega) | (show 1 ≤ t.length; omega) | (show t.length ≤ 9; omega) | exact fun c hc => stripT_3 hc | exact u7
    refine sw_ret ⟨.inl rfl, _, rfl, ?_⟩
    rw [hv]
    simp [conj]
end Go.Sx

namespace Go.Sx
open Go Go.RowKit
theorem seenGo_app {a : Int} : ∀ {l m : List Put} {s : Str}, seenGo a (l ++ m) s = seenGo a m (seenGo a l s) := by
 intro l
 induction l with
 | nil => intro m s; rfl
 | cons p l ih => intro m s; exact ih
theorem comes_seen {a : Int} (h0 : 0 ≤ a) (h1 : a < 12) : ∀ {l : List Put} {t : Drv}, l.any badP = false → t.ok → (comes l t).1.getD a.toNat [] = seenGo a l (t.1.getD a.toNat []) := by
 intro l
 induction l with
 | nil => intro t _ _; rfl
 | cons p l ih =>
  intro t hb ht
  have hp : putV p = true ∧ l.any badP = false := by
   rw [List.any_cons, Bool.or_eq_false_iff] at hb
   exact ⟨by have := hb.1; simpa [badP] using this, hb.2⟩
  show (comes l (come p t)).1.getD a.toNat [] = seenGo a l _
  rw [ih hp.2 (come_ok ht)]
  congr 1
  cases hr : p.1 with
  | true => simp [come, hr]
  | false =>
   obtain ⟨b0, b1, _⟩ := putV_slot hp.1 hr
   rw [come_slot hr]
   show (t.1.set p.2.1.toNat p.2.2).getD a.toNat [] = _
   by_cases e : p.2.1 = a
   ·rw [if_pos ⟨rfl, e⟩, e, List.getD_eq_getElem?_getD, List.getElem?_set_self (by rw [ht.1]; omega)]; rfl
   ·rw [if_neg (fun h => e h.2), List.getD_eq_getElem?_getD, List.getElem?_set_ne (by omega), ← List.getD_eq_getElem?_getD]
theorem read_write {d : Dsk} {p : Put} {a : Int} (h : rdV d = true) (hp : putV p = true) (h0 : 0 ≤ a) (h1 : a < 12) :
  readV (writeD d p) a = if d.1 ≠ 1 ∧ p.1 = false ∧ p.2.1 = a then p.2.2 else readV d a := by
 have hl := (lv_of h).put hp
 rw [readV_ok h ⟨h0, h1⟩]
 show readV (dskOf d.1 _ _) a = _
 rw [read_dsk hl h0 h1]
 by_cases hs : d.1 = 1
 ·rw [putU_gone hs, putM_gone hs, if_neg (fun h => h.1 hs)]
 ·rw [putU_live hs, putM_live hs]
  by_cases hf : d.2.2.2.2.length = 40
  ·rw [putT_full hf, putW_full hf]
   show seenGo a [p] ((comes _ _).1.getD a.toNat []) = _
   rw [comes_seen h0 h1 (lv_of h).wait (lv_of h).ok]
   simp only [seenGo, hs, not_false_eq_true, true_and, ne_eq]
   rfl
  ·rw [putT_room hf, putW_room hf]
   show seenGo a (_ ++ [p]) _ = _
   rw [seenGo_app]
   simp only [seenGo, hs, not_false_eq_true, true_and, ne_eq]
   rfl
theorem write_sta {d : Dsk} {p : Put} : (writeD d p).1 = d.1 := rfl
theorem wrN_step {cs : List Str} {pl : List Plc} {ds : List Dsk} {k : Nat} (hk : k < pl.length) (hkc : k < cs.length) :
  wrN cs pl (k + 1) ds = (wrN cs pl k ds).set pl[k].1.toNat (writeD ((wrN cs pl k ds).getD pl[k].1.toNat zeroD) (false, pl[k].2, cs[k])) := by
 simp only [wrN, List.getD_eq_getElem?_getD, gE hk, gE hkc, Option.getD_some]
section
variable {cs : List Str} {pl : List Plc} {ds : List Dsk} (hs : stripeV ds = true) (hpl : ∀ a ∈ pl, placeV (ds.length : Int) a = true) (hc : ∀ c ∈ cs, c.length = 3)
include hs hpl hc
omit hs hc in
theorem wrN_sta {k : Nat} (hk : k ≤ pl.length) (hkc : k ≤ cs.length) (i : Nat) : ((wrN cs pl k ds).getD i zeroD).1 = (ds.getD i zeroD).1 := by
 induction k with
 | zero => rfl
 | succ k ih =>
  have hlt : k < pl.length := by omega
  rw [wrN_step hlt (by omega)]
  by_cases e : pl[k].1.toNat = i
  ·have ha : 0 ≤ pl[k].1 ∧ pl[k].1 < (ds.length : Int) ∧ 0 ≤ pl[k].2 ∧ pl[k].2 < 12 := by simpa [placeV] using hpl _ (List.getElem_mem hlt)
   rw [e, List.getD_eq_getElem?_getD, List.getElem?_set_self (by rw [wrN_len]; omega)]
   exact ih (by omega) (by omega)
  ·rw [List.getD_eq_getElem?_getD, List.getElem?_set_ne e, ← List.getD_eq_getElem?_getD]
   exact ih (by omega) (by omega)
theorem wrN_get {k : Nat} (hk : k ≤ pl.length) (hkc : k ≤ cs.length) {i : Nat} (hi : i < ds.length) : rdV ((wrN cs pl k ds).getD i zeroD) = true := by
 have hl : i < (wrN cs pl k ds).length := by rw [wrN_len]; exact hi
 rw [List.getD_eq_getElem?_getD, gE hl]
 exact wrN_rd (stripe_all hs) hpl hc k hk hkc _ (List.getElem_mem hl)
theorem wrN_read {k : Nat} (hk : k < pl.length) (hkc : k < cs.length) {i : Nat} (hi : i < ds.length) {a : Int} (h0 : 0 ≤ a) (h1 : a < 12) :
  readV ((wrN cs pl (k + 1) ds).getD i zeroD) a = if (ds.getD i zeroD).1 ≠ 1 ∧ pl[k] = ((i : Int), a) then cs[k] else readV ((wrN cs pl k ds).getD i zeroD) a := by
 have ha : 0 ≤ pl[k].1 ∧ pl[k].1 < (ds.length : Int) ∧ 0 ≤ pl[k].2 ∧ pl[k].2 < 12 := by simpa [placeV] using hpl _ (List.getElem_mem hk)
 rw [wrN_step hk hkc]
 by_cases e : pl[k].1.toNat = i
 ·have e' : pl[k].1 = (i : Int) := by omega
  rw [e, List.getD_eq_getElem?_getD, List.getElem?_set_self (by rw [wrN_len]; omega), Option.getD_some]
  rw [read_write (wrN_get hs hpl hc (by omega) (by omega) hi) (col_put ha.2.2 (hc _ (List.getElem_mem hkc))) h0 h1, wrN_sta hpl (by omega) (by omega)]
  refine ite_congr (propext ⟨fun h => ⟨h.1, Prod.ext e' h.2.2⟩, fun h => ⟨h.1, rfl, by rw [h.2]⟩⟩) (fun _ => rfl) (fun _ => rfl)
 ·rw [List.getD_eq_getElem?_getD, List.getElem?_set_ne e, ← List.getD_eq_getElem?_getD, if_neg]
  rintro ⟨_, h⟩
  rw [h] at e
  exact e (Int.toNat_natCast i)
theorem wrN_beside {i : Nat} (hi : i < ds.length) {a : Int} (h0 : 0 ≤ a) (h1 : a < 12) (hn : ((i : Int), a) ∉ pl) : ∀ {k : Nat}, k ≤ pl.length → k ≤ cs.length → readV ((wrN cs pl k ds).getD i zeroD) a = readV (ds.getD i zeroD) a := by
 intro k
 induction k with
 | zero => intro _ _; rfl
 | succ k ih =>
  intro hk hkc
  rw [wrN_read hs hpl hc hk hkc hi h0 h1, if_neg]
  ·exact ih (by omega) (by omega)
  ·rintro ⟨_, h⟩
   exact hn (h ▸ List.getElem_mem hk)
end
theorem sput_beside {ds x : List Dsk} {p : Ptr_} {t : Str} (h : sputV ds p t = (x, true)) : (x.length = ds.length ∧ ds.length ≤ 4) ∧ ∀ i, (hi : i < ds.length) → ∀ a : Int, 0 ≤ a → a < 12 → ((i : Int), a) ∉ p.2.2 → readV (x.getD i zeroD) a = readV (ds.getD i zeroD) a := by
 unfold sputV at h
 split at h
 ·rename_i hc
  obtain ⟨hu, ht, _⟩ := hc
  cases h
  obtain ⟨hs, _, _, _, _, hpl⟩ := usable_parts hu
  obtain ⟨hl, _⟩ := strip_places hu ht
  exact ⟨⟨wrN_len _ _ _ _, stripe_len hs⟩, fun i hi a h0 h1 hn => wrN_beside hs hpl (fun c hc => stripT_3 hc) hi h0 h1 hn (Nat.le_refl _) (by omega)⟩
 ·cases h
end Go.Sx

namespace Go.Sx
open Go
set_option maxRecDepth 100000
set_option linter.unusedVariables false
set_option linter.unusedSimpArgs false
set_option maxHeartbeats 4000000
def cLDks : Ctr := ⟨9, [.val false (.sl T_Disk) (.all .b), .val false (.sl T_Disk) (.all .b)], fun x => True, fun x => (sBool (decide ((x.1 : List Dsk) = x.2.1)), [])⟩
theorem cLDks_ok : CtrOk Proofs.Tryz.prog cLDks := by
 have hP := ((Prg.none ttok mtok).and cLDisk_ok)
 refine ctr_of_body hP cLDks (fn := Proofs.Tryz.f9) (rts := [.tmp 4]) Proofs.Tryz.func9 rfl (by kernel_rfl) rfl rfl ?_
 rintro ⟨(a : List Dsk), (b : List Dsk), ⟨⟩⟩ ⟨hda, hdb, _⟩ _
 try dsimp only [Ty.den, Mode.den, mdens] at _
 refine ⟨rfl, ?_⟩
 have hml : a.length ≤ 140737488355328 := hda.1
 have hmb : b.length ≤ 140737488355328 := hdb.1
 refine sw_seq (xr hP 1 rfl (sw_seq (sw_seq (xr hP 2 rfl (sw_cond rfl (fun c1 => ?_) (fun c1 => ?_))))))
 ·replace c1 : ¬ a.length = b.length := by simp at c1; omega
  refine sw_seq (xr hP 3 rfl (sw_ret ⟨.inl rfl, _, rfl, ?_⟩))
  have hv := eqL_len c1
  simp [conj, hv]
 ·replace c1 : a.length = b.length := by simp at c1; omega
  refine sw_skip (sw_seq (sw_seq (xr hP 3 rfl (sw_block (sw_loop (ι := Nat) (fun i => ⟨[.v false [.d (.sl T_Disk) (.all .b) a], .v false [.d (.sl T_Disk) (.all .b) b], .j, .j, .j, sInt .i64 (i : Int), .j, .j, .j, .j, .j, .j, .j, .j, .j, .j, .j, .j, .j, .j, .j, .j, .j, .j, .j, .j, .j], [], 3, []⟩) (fun i => a.length - i) (fun i => i ≤ a.length ∧ decide (a.drop i = b.drop i) = decide (a = b)) 0 ⟨?_, ?_⟩ ?_)))))
  ·exact ⟨Nat.zero_le _, rfl⟩
  ·refine ent_ok rfl ?_
   first | trivial | (simp [conj]; done) | (simp [conj] at *; (try dsimp only [Ty.den, Ty.dflt] at *); omega)
  ·rintro i ⟨hi, hgo⟩
   refine sw_seq (sw_seq (xr hP 4 rfl (sw_cond rfl (fun c4 => ?_) (fun c4 => ?_))))
   ·have hlt : i < a.length := by simpa using c4
    have hlt2 : i < b.length := by omega
    refine sw_skip (sw_seq (sw_block (sw_seq (xg hP 5 [] rfl ?_ ?_))))
    ·simp [conj, gE hlt, gE hlt2]
     repeat' apply And.intro
     all_goals first | omega | trivial
    refine sw_cond rfl (fun c6 => ?_) (fun c6 => ?_)
    ·replace c6 : ¬ a[i] = b[i] := by intro e; simp [gE hlt, gE hlt2, e, eqDV] at c6
     refine sw_seq (xr hP 6 rfl (sw_ret ⟨.inl rfl, _, rfl, ?_⟩))
     have hv := eqL_hit hlt hlt2 hgo c6
     simp [conj, hv]
    ·replace c6 : a[i] = b[i] := by
       have h := c6
       simp [gE hlt, gE hlt2, eqDV] at h
       exact Prod.ext h.1 (Prod.ext h.2.1 (Prod.ext h.2.2.1 (Prod.ext h.2.2.2.1 h.2.2.2.2)))
     refine sw_skip (xr hP 6 rfl (⟨i + 1, ?_, ?_, ent_ok rfl ?_⟩))
     ·exact ⟨hlt, eqL_next hlt hlt2 hgo c6⟩
     ·omega
     ·simp [conj]
   ·obtain rfl : i = a.length := by simp at c4; omega
    refine sw_exit (sw_seq (xr hP 5 rfl (sw_ret ⟨.inl rfl, _, rfl, ?_⟩)))
    have hv := eqL_end c1 hgo
    simp [conj, hv]
def cLIn : Ctr := ⟨11, [.val false (.sl T_Place) (.all .b), .val true T_Place pF], fun x => True, fun x => (sBool (decide ((x.2.1 : Plc) ∈ (x.1 : List Plc))), [])⟩
theorem cLIn_ok : CtrOk Proofs.Tryz.prog cLIn := by
 have hP := (Prg.none ttok mtok)
 refine ctr_of_body hP cLIn (fn := Proofs.Tryz.f11) (rts := [.tmp 4]) Proofs.Tryz.func11 rfl (by kernel_rfl) rfl rfl ?_
 rintro ⟨(l : List Plc), ⟨(pd : Int), (ps : Int)⟩, ⟨⟩⟩ ⟨hdl, _⟩ _
 try dsimp only [Ty.den, Mode.den, mdens] at _
 refine ⟨rfl, ?_⟩
 have hml : l.length ≤ 140737488355328 := hdl.1
 refine sw_seq (xr hP 1 rfl (sw_seq (sw_seq (xr hP 2 rfl (sw_block (sw_loop (ι := Nat) (fun i => ⟨[.v false [.d (.sl T_Place) (.all .b) l], .j, .j, .v false [.ptr ⟨1, 0, 0⟩ 0], .j, sInt .i64 (i : Int), .j, .j, .j, .j, .j, .j, .j, .j, .j, .j, .j, .j], [(⟨1, 0, 0⟩, .var [.d TI pF pd, .d TI pF ps])], 2, []⟩) (fun i => l.length - i) (fun i => i ≤ l.length ∧ ¬ ((pd, ps) : Plc) ∈ l.take i) 0 ⟨?_, ?_⟩ ?_))))))
 ·exact ⟨Nat.zero_le _, by simp⟩
 ·refine ent_ok rfl ?_
  simp [conj]
 ·rintro i ⟨hi, hgo⟩
  refine sw_seq (sw_seq (xr hP 3 rfl (sw_cond rfl (fun c2 => ?_) (fun c2 => ?_))))
  ·have hlt : i < l.length := by simpa using c2
   refine sw_skip (sw_seq (sw_block (sw_seq (xg hP 4 [] rfl ?_ ?_))))
   ·simp [conj, gE hlt]
    try exact hlt
   refine sw_cond rfl (fun c4 => ?_) (fun c4 => ?_)
   ·have k4 : l[i] = (pd, ps) := by have h := c4; simp [gE hlt] at h; exact Prod.ext h.1 h.2
    have hv : decide (((pd, ps) : Plc) ∈ l) = true := decide_eq_true (k4 ▸ List.getElem_mem hlt)
    refine sw_seq (xr hP 5 rfl (sw_ret ⟨.inl rfl, _, rfl, ?_⟩))
    simp [conj, hv]
   ·have k4 : ¬ l[i] = (pd, ps) := by intro e; simp [gE hlt, e] at c4
    refine sw_skip (xr hP 5 rfl (⟨i + 1, ?_, ?_, ent_ok rfl ?_⟩))
    ·refine ⟨hlt, ?_⟩
     rw [List.take_succ_eq_append_getElem hlt]
     intro h
     rcases List.mem_append.1 h with h | h
     · exact hgo h
     · exact k4 (List.mem_singleton.1 h).symm
    ·omega
    ·simp [conj]
  ·obtain rfl : i = l.length := by simp at c2; omega
   rw [List.take_length] at hgo
   have hv : decide (((pd, ps) : Plc) ∈ l) = false := decide_eq_false hgo
   refine sw_exit (sw_seq (xr hP 4 rfl (sw_ret ⟨.inl rfl, _, rfl, ?_⟩)))
   simp [conj, hv]
def cXBes : Ctr := ⟨3, [.val false TB pF], fun x => True, fun x => (sBool true, [])⟩
theorem cXBes_ok : CtrOk Proofs.Tryz.prog cXBes := by
 have hP := (((((((Prg.none ttok mtok).and cDrSP_ok).and cSPutR_ok).and cSPutI_ok).and cLDks_ok).and cDRead_ok).and cLIn_ok)
 refine ctr_of_body hP cXBes (fn := Proofs.Tryz.f3) (rts := [.tmp 2]) Proofs.Tryz.func3 rfl (by kernel_rfl) rfl rfl ?_
 rintro ⟨(code : List Int), ⟨⟩⟩ _ _
 try dsimp only [Ty.den, Mode.den, mdens] at _
 refine ⟨rfl, ?_⟩
 obtain ⟨W, hW⟩ : ∃ W, sputV (spD code).1 (spD code).2.1 (spD code).2.2 = W := ⟨_, rfl⟩
 refine sw_seq (xr hP 1 rfl (sw_seq (sw_seq (xr hP 2 rfl (sw_cond rfl (fun c1 => ?_) (fun c1 => ?_))))))
 ·refine sw_seq (xr hP 3 rfl (sw_ret ⟨.inl rfl, _, rfl, ?_⟩))
  simp [conj]
 ·refine sw_skip (sw_seq (xr hP 3 rfl (sw_seq (xr hP 4 rfl (sw_seq (xr hP 5 rfl (sw_seq (sw_seq ?_))))))))
  refine sw_ent (st' := ⟨[.j, .j, .j, .v false [.own ⟨3, 1, 0⟩], .v false [.ptr ⟨3, 6, 0⟩ 0], sStr (spD code).2.2, .v false [.own ⟨4, 3, 0⟩], sBool W.2, .v false [.own ⟨5, 3, 0⟩], sBool W.2, .j, .j, .j, .j, .j, .j, .j, .j, .j, .j, .j, .j, .j, .j, .j, .j, .j, .j, .j, .j, .j, .j, .j, .j, .j, .j, .j, .j, .j, .j, .j, .j, .j, .j, .j, .j, .j, .j, .j, .j, .j, .j, .j, .j, .j, .j, .j, .j, .j, .j, .j, .j, .j, .j, .j, .j, .j, .j, .j, .j, .j, .j, .j, .j, .j, .j, .j, .j, .j, .j, .j, .j, .j, .j, .j, .j, .j, .j, .j, .j, .j, .j, .j, .j, .j, .j, .j, .j, .j, .j, .j, .j, .j, .j, .j], [(⟨3, 6, 0⟩, .var [.d TI pF (spD code).2.1.1, .d TI pF (spD code).2.1.2.1, .d (.sl T_Place) pF (spD code).2.1.2.2]), (⟨3, 1, 0⟩, .sl T_Disk (.all .w) (spD code).1), (⟨4, 3, 0⟩, .sl T_Disk (.all .w) W.1), (⟨5, 3, 0⟩, .sl T_Disk (.all .w) W.1)], 5, []⟩) (ent_ok rfl ?_) ?_
  ·simp [conj, hW]
  refine sw_dec hP 6 [] 3 rfl (fun g6_3 => ?_) (fun g6_3 => ?_)
  ·have h : (!(W.2 == W.2)) = true := g6_3
   simp at h
  ·refine sw_dec hP 6 [(3, false)] 9 rfl (fun g6_9 => ?_) (fun g6_9 => ?_)
   ·have h : (!decide (W.1 = W.1)) = true := g6_9
    simp at h
   ·refine xd hP 6 [(3, false), (9, false)] rfl (sw_cond rfl (fun c6 => ?_) (fun c6 => ?_))
    ·refine sw_seq ?_
     refine sw_dec hP 7 [] 3 rfl (fun g7_3 => ?_) (fun g7_3 => ?_)
     ·refine xd hP 7 [(3, true)] rfl (sw_ret ⟨.inl rfl, _, rfl, ?_⟩)
      simp [conj]
     ·have h : (W.2 == W.2) = false := g7_3
      simp at h
    ·have hw2 : W.2 = true := by have h : (!W.2) = false := c6; simpa using h
     obtain ⟨⟨hxl, hl9⟩, hbs⟩ := sput_beside (show sputV (spD code).1 (spD code).2.1 (spD code).2.2 = (W.1, true) by rw [hW, ← hw2])
     refine sw_skip (sw_seq (sw_seq (xr hP 7 rfl (sw_block (sw_loop (ι := Nat) (fun i => ⟨[.j, .j, .j, .v false [.own ⟨3, 1, 0⟩], .v false [.ptr ⟨3, 6, 0⟩ 0], sStr (spD code).2.2, .v false [.own ⟨4, 3, 0⟩], sBool W.2, .v false [.own ⟨5, 3, 0⟩], sBool W.2, sInt .i64 (i : Int), .j, .j, .j, .j, .j, .j, .j, .j, .j, .j, .j, .j, .j, .j, .j, .j, .j, .j, .j, .j, .j, .j, .j, .j, .j, .j, .j, .j, .j, .j, .j, .j, .j, .j, .j, .j, .j, .j, .j, .j, .j, .j, .j, .j, .j, .j, .j, .j, .j, .j, .j, .j, .j, .j, .j, .j, .j, .j, .j, .j, .j, .j, .j, .j, .j, .j, .j, .j, .j, .j, .j, .j, .j, .j, .j, .j, .j, .j, .j, .j, .j, .j, .j, .j, .j, .j, .j, .j, .j, .j, .j, .j, .j, .j], [(⟨3, 6, 0⟩, .var [.d TI pF (spD code).2.1.1, .d TI pF (spD code).2.1.2.1, .d (.sl T_Place) pF (spD code).2.1.2.2]), (⟨3, 1, 0⟩, .sl T_Disk (.all .w) (spD code).1), (⟨4, 3, 0⟩, .sl T_Disk (.all .w) W.1), (⟨5, 3, 0⟩, .sl T_Disk (.all .w) W.1)], 7, []⟩) (fun i => (spD code).1.length - i) (fun i => True) 0 ⟨?_, ?_⟩ ?_)))))
     ·trivial
     ·refine ent_ok rfl ?_
      simp [conj]
     ·rintro i _
      refine sw_seq (sw_seq (xr hP 8 rfl (sw_cond rfl (fun c9 => ?_) (fun c9 => ?_))))
      ·have hlt : i < (spD code).1.length := by have h : (i : Int) < ((spD code).1.length : Int) := of_decide_eq_true c9; omega
       have hlx : i < W.1.length := by omega
       refine sw_skip (sw_seq (sw_block (sw_seq (xr hP 9 rfl (sw_block (sw_loop (ι := Nat) (fun j => ⟨[.j, .j, .j, .v false [.own ⟨3, 1, 0⟩], .v false [.ptr ⟨3, 6, 0⟩ 0], sStr (spD code).2.2, .v false [.own ⟨4, 3, 0⟩], sBool W.2, .v false [.own ⟨5, 3, 0⟩], sBool W.2, sInt .i64 (i : Int), sInt .i64 (j : Int), .j, .j, .j, .j, .j, .j, .j, .j, .j, .j, .j, .j, .j, .j, .j, .j, .j, .j, .j, .j, .j, .j, .j, .j, .j, .j, .j, .j, .j, .j, .j, .j, .j, .j, .j, .j, .j, .j, .j, .j, .j, .j, .j, .j, .j, .j, .j, .j, .j, .j, .j, .j, .j, .j, .j, .j, .j, .j, .j, .j, .j, .j, .j, .j, .j, .j, .j, .j, .j, .j, .j, .j, .j, .j, .j, .j, .j, .j, .j, .j, .j, .j, .j, .j, .j, .j, .j, .j, .j, .j, .j, .j, .j], [(⟨3, 6, 0⟩, .var [.d TI pF (spD code).2.1.1, .d TI pF (spD code).2.1.2.1, .d (.sl T_Place) pF (spD code).2.1.2.2]), (⟨3, 1, 0⟩, .sl T_Disk (.all .w) (spD code).1), (⟨4, 3, 0⟩, .sl T_Disk (.all .w) W.1), (⟨5, 3, 0⟩, .sl T_Disk (.all .w) W.1)], 9, []⟩) (fun j => 12 - j) (fun j => True) 0 ⟨?_, ?_⟩ ?_))))))
       ·trivial
       ·refine ent_ok rfl ?_
        simp [conj]
       ·rintro j _
        refine sw_seq (sw_seq (xr hP 10 rfl (sw_cond rfl (fun c12 => ?_) (fun c12 => ?_))))
        ·have hj : j < 12 := by have h : (j : Int) < 12 := of_decide_eq_true c12; omega
         refine sw_skip (sw_seq (sw_block (sw_seq (xg hP 11 [] rfl ?_ ?_))))
         ·simp [conj, gE hlt, gE hlx]
          exact ⟨hlt, trivial⟩
         refine sw_seq (xg hP 12 [] rfl ?_ ?_)
         ·simp [conj, gE hlt, gE hlx]
          exact ⟨hlx, trivial⟩
         refine sw_seq ?_
         refine sw_ent (st' := ⟨[.j, .j, .j, .v false [.own ⟨3, 1, 0⟩], .v false [.ptr ⟨3, 6, 0⟩ 0], sStr (spD code).2.2, .v false [.own ⟨4, 3, 0⟩], sBool W.2, .v false [.own ⟨5, 3, 0⟩], sBool W.2, sInt .i64 (i : Int), sInt .i64 (j : Int), sStr (readV ((spD code).1.getD i zeroD) (j : Int)), sBool (decide (readV ((spD code).1.getD i zeroD) (j : Int) ≠ [])), sStr (readV (W.1.getD i zeroD) (j : Int)), sBool (decide (readV (W.1.getD i zeroD) (j : Int) ≠ [])), .j, .j, .j, .j, .j, .j, .j, .j, .j, .j, .j, .j, .j, .j, .j, .j, .j, .j, .j, .j, .j, .j, .j, .j, .j, .j, .j, .j, .j, .j, .j, .j, .j, .j, .j, .j, .j, .j, .j, .j, .j, .j, .j, .j, .j, .j, .j, .j, .j, .j, .j, .j, .j, .j, .j, .j, .j, .j, .j, .j, .j, .j, .j, .j, .j, .j, .j, .j, .j, .j, .j, .j, .j, .j, .j, .j, .j, .j, .j, .j, .j, .j, .j, .j, .j, .j, .j, .j, .j], [(⟨3, 6, 0⟩, .var [.d TI pF (spD code).2.1.1, .d TI pF (spD code).2.1.2.1, .d (.sl T_Place) pF (spD code).2.1.2.2]), (⟨3, 1, 0⟩, .sl T_Disk (.all .w) (spD code).1), (⟨4, 3, 0⟩, .sl T_Disk (.all .w) W.1), (⟨5, 3, 0⟩, .sl T_Disk (.all .w) W.1)], 12, []⟩) (ent_ok rfl ?_) ?_
         ·simp [conj, gE hlt, gE hlx]
          exact ⟨List.set_getElem_self hlx, List.set_getElem_self hlt⟩
         refine sw_dec hP 13 [] 7 rfl (fun g16_7 => ?_) (fun g16_7 => ?_)
         ·have k7 : ¬ ((i : Int), (j : Int)) ∈ (spD code).2.1.2.2 := by have h : (!decide (((i : Int), (j : Int)) ∈ (spD code).2.1.2.2)) = true := g16_7; simpa using h
          have hrr : readV (W.1.getD i zeroD) (j : Int) = readV ((spD code).1.getD i zeroD) (j : Int) := hbs i hlt j (by omega) (by omega) k7
          refine sw_dec hP 13 [(7, true)] 11 rfl (fun g16_11 => ?_) (fun g16_11 => ?_)
          ·have h : (!decide (readV ((spD code).1.getD i zeroD) (j : Int) = readV (W.1.getD i zeroD) (j : Int))) = true := g16_11
           rw [hrr] at h
           simp at h
          ·refine xg hP 13 [(7, true), (11, false)] rfl ?_ ?_
           ·exact ⟨⟨trivial, g16_7⟩, g16_11⟩
           refine sw_cond rfl (fun c16 => ?_) (fun c16 => ?_)
           ·have h : (!(decide (readV ((spD code).1.getD i zeroD) (j : Int) ≠ []) == decide (readV (W.1.getD i zeroD) (j : Int) ≠ []))) = true := c16
            rw [hrr] at h
            simp at h
           ·refine sw_skip (xg hP 14 [] rfl ?_ ?_)
            ·simp only [conj, List.append_nil, inR_i64]
             exact ⟨by omega, by omega⟩
            refine ⟨j + 1, ?_, ?_, ent_ok rfl ?_⟩
            ·trivial
            ·omega
            ·simp [conj]
         ·refine xg hP 13 [(7, false)] rfl ?_ ?_
          ·exact ⟨trivial, g16_7⟩
          refine sw_condF rfl (sw_skip (xg hP 14 [] rfl ?_ ?_))
          ·simp only [conj, List.append_nil, inR_i64]
           exact ⟨by omega, by omega⟩
          refine ⟨j + 1, ?_, ?_, ent_ok rfl ?_⟩
          ·trivial
          ·omega
          ·simp [conj]
        ·refine sw_exit (xg hP 11 [] rfl ?_ ?_)
         ·simp only [conj, List.append_nil, inR_i64]
          have hl4 : i < 1000 := by omega
          exact ⟨by omega, by omega⟩
         refine ⟨i + 1, ?_, ?_, ent_ok rfl ?_⟩
         ·trivial
         ·omega
         ·simp [conj]
      ·refine sw_exit (sw_seq (xr hP 9 rfl (sw_ret ⟨.inl rfl, _, rfl, ?_⟩)))
       simp [conj]
end Go.Sx
