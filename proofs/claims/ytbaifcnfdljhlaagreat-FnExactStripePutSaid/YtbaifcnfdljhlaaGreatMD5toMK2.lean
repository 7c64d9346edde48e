/- Several texts, one behind the other. -/
import Derived.Test.YtbaifcnfdljhlaaGreatMPstoMD4
import Derived.Test.YtbaifcnfdljhlaaGreatMOpentoMPr
set_option linter.all false
namespace Go.Sx
open Go
set_option maxRecDepth 100000
set_option linter.unusedVariables false
set_option linter.unusedSimpArgs false
def cChgCrash : Ctr := ⟨122, [.val true T_Disk (.all .b), .clo 123 [(false, TI, pF)]], fun _ => True, fun x => (.v true [.d TI pF (crashV x.1 x.2.1.1).1, .own ⟨1, 0, 0⟩, .own ⟨1, 1, 0⟩, .own ⟨1, 2, 0⟩, .own ⟨1, 3, 0⟩], [(⟨1, 0, 0⟩, .sl .str (.all .w) (crashV x.1 x.2.1.1).2.1), (⟨1, 1, 0⟩, .sl .str (.all .w) (crashV x.1 x.2.1.1).2.2.1), (⟨1, 2, 0⟩, .sl .bool (.all .w) (crashV x.1 x.2.1.1).2.2.2.1), (⟨1, 3, 0⟩, .sl T_Put (.all .w) (crashV x.1 x.2.1.1).2.2.2.2)])⟩
theorem cChgCrash_ok : CtrOk Proofs.Tryz.prog cChgCrash := by
 have hP := (Prg.none ttok mtok)
 refine ctr_of_body hP cChgCrash (fn := Proofs.Tryz.f122) (rts := [.cell 4 38]) Proofs.Tryz.func122 rfl (by kernel_rfl) rfl rfl ?_
 rintro ⟨⟨(st : Int), (sl : List Str), (rg : List Str), (sp : List Bool), (wt : List Put)⟩, ⟨(keep : Int), ⟨⟩⟩, ⟨⟩⟩ ⟨_, ⟨hk, _⟩, _⟩ _
 try dsimp only [Ty.den, Mode.den, mdens] at _
 refine ⟨rfl, ?_⟩
 have hkm : keep ≤ 9223372036854775807 := (inR_i64.1 hk).2
 by_cases h1 : rdV ((st, sl, rg, sp, wt) : Dsk) = true
 ·have hP := ((Prg.none ttok mtok).and cRead_ok)
  obtain ⟨hsh, hwb, hsb, hrb, hgb⟩ := rd_parts h1
  dsimp only at hwb hsb hrb
  obtain ⟨hst, h12, h2b, h12b, h40⟩ := shaped_iff hsh
  dsimp only at hst h12 h2b h12b h40
  have hok : Drv.ok (sl, rg, sp) := drv_ok hsh
  by_cases h2 : 0 ≤ keep
  ·replace hP := hP.andX (cClCrash_ok (st := st) (t := (sl, rg, sp)) (l := wt) (d := ⟨2, 1, 0⟩) (c := ⟨2, 1, 64⟩) hwb h40 h2 hkm)
   replace hP := hP.andX (cDisk_ok (st := st) (t := (comes (keepB keep.toNat wt) (sl, rg, sp))) (l := []) (d := ⟨2, 1, 0⟩) (c := ⟨3, 5, 0⟩) (Nat.zero_le _) (comes_ok hok))
   have hv := crashV_ok h1 h2
   refine sw_seq (xr hP 1 rfl (sw_seq (xg hP 2 [] rfl ?_ ?_)))
   ·simp [conj, maxL]
    try dsimp only [Ty.den, Ty.dflt]
    try simp only [rd_eta]
    exact h1
   refine sw_seq (sw_seq (xg hP 3 [] rfl ?_ ?_))
   ·simp only [conj, List.nil_append, List.cons_append, List.append_nil, List.append_assoc, inR_i64, true_and, and_true, Int.toNat_natCast]
    try dsimp only [Ty.den, Ty.dflt]
    repeat' apply And.intro
    all_goals first | rfl | omega | assumption | trivial
   refine sw_cond rfl (fun c2 => ?_) (fun c2 => ?_)
   ·cases c2
   ·refine sw_skip (sw_seq (xg hP 4 [] rfl ?_ ?_))
    ·simp only [conj, List.nil_append, List.cons_append, List.append_nil, List.append_assoc, inR_i64, true_and, and_true, Int.toNat_natCast]
     try dsimp only [Ty.den, Ty.dflt]
     repeat' apply And.intro
     all_goals first | rfl | omega | assumption | trivial
    refine sw_ret ⟨.inl rfl, _, rfl, ?_⟩
    simp [conj, hv, zeroD, dskOf, drvOf]
  ·replace hP := hP.andX (cClCrashN_ok (st := st) (t := (sl, rg, sp)) (l := wt) (d := ⟨2, 1, 0⟩) (c := ⟨2, 1, 64⟩) h2)
   have hv : crashV ((st, sl, rg, sp, wt) : Dsk) keep = zeroD := crashV_neg h2
   refine sw_seq (xr hP 1 rfl (sw_seq (xg hP 2 [] rfl ?_ ?_)))
   ·simp [conj, maxL]
    try dsimp only [Ty.den, Ty.dflt]
    try simp only [rd_eta]
    exact h1
   refine sw_seq (sw_seq (xg hP 3 [] rfl ?_ ?_))
   ·simp only [conj, List.nil_append, List.cons_append, List.append_nil, List.append_assoc, inR_i64, true_and, and_true, Int.toNat_natCast]
    try dsimp only [Ty.den, Ty.dflt]
    repeat' apply And.intro
    all_goals first | rfl | omega | assumption | trivial
   refine sw_cond rfl (fun c2 => ?_) (fun c2 => ?_)
   ·refine sw_seq (xr hP 4 rfl (sw_ret ⟨.inl rfl, _, rfl, ?_⟩))
    simp [conj, hv, zeroD, dskOf, drvOf]
   ·cases c2
 ·have hP := ((Prg.none ttok mtok).and cReadB_ok)
  have h1b : rdV ((st, sl, rg, sp, wt) : Dsk) = false := by simpa using h1
  have hv : crashV ((st, sl, rg, sp, wt) : Dsk) keep = zeroD := crashV_bad h1
  refine sw_seq (xr hP 1 rfl (sw_seq (xg hP 2 [] rfl ?_ ?_)))
  ·simp [conj, maxL]
   try dsimp only [Ty.den, Ty.dflt]
   try simp only [rd_eta]
   exact h1b
  refine sw_seq (sw_seq (xg hP 3 [] rfl ?_ ?_))
  ·simp only [conj, List.nil_append, List.cons_append, List.append_nil, List.append_assoc, inR_i64, true_and, and_true, Int.toNat_natCast]
   try dsimp only [Ty.den, Ty.dflt]
   repeat' apply And.intro
   all_goals first | rfl | omega | assumption | trivial
  refine sw_condT rfl (sw_seq (xr hP 4 rfl (sw_ret ⟨.inl rfl, _, rfl, ?_⟩)))
  simp [conj, hv, zeroD, dskOf, drvOf]
def cDCrash : Ctr := ⟨70, [.val true T_Disk (.all .b), .val false TI pF], fun _ => True, fun x => (.v true [.d TI pF (crashV x.1 x.2.1).1, .own ⟨1, 0, 0⟩, .own ⟨1, 1, 0⟩, .own ⟨1, 2, 0⟩, .own ⟨1, 3, 0⟩], [(⟨1, 0, 0⟩, .sl .str (.all .w) (crashV x.1 x.2.1).2.1), (⟨1, 1, 0⟩, .sl .str (.all .w) (crashV x.1 x.2.1).2.2.1), (⟨1, 2, 0⟩, .sl .bool (.all .w) (crashV x.1 x.2.1).2.2.2.1), (⟨1, 3, 0⟩, .sl T_Put (.all .w) (crashV x.1 x.2.1).2.2.2.2)])⟩
theorem cDCrash_ok : CtrOk Proofs.Tryz.prog cDCrash := by
 have hP := ((Prg.none ttok mtok).and cChgCrash_ok)
 refine ctr_of_body hP cDCrash (fn := Proofs.Tryz.f70) (rts := [.cell 4 38]) Proofs.Tryz.func70 rfl (by kernel_rfl) rfl rfl ?_
 rintro ⟨⟨(st : Int), (sl : List Str), (rg : List Str), (sp : List Bool), (wt : List Put)⟩, (keep : Int), ⟨⟩⟩ _ hpre
 try dsimp only [Ty.den, Mode.den, mdens] at hpre
 refine ⟨rfl, ?_⟩
 refine sw_seq (xr hP 1 rfl (sw_seq (xg hP 2 [] rfl ?_ ?_)))
 ·simp [conj, maxL]
  try dsimp only [Ty.den, Ty.dflt]
  try simp only [rd_eta]
  trivial
 refine sw_ret ⟨.inl rfl, _, rfl, ?_⟩
 simp [conj]
def cChgPut : Ctr := ⟨122, [.val true T_Disk (.all .b), .clo 140 [(false, T_Put, pF)]], fun _ => True, fun x => (.v true [.d TI pF (putD x.1 x.2.1.1).1, .own ⟨1, 0, 0⟩, .own ⟨1, 1, 0⟩, .own ⟨1, 2, 0⟩, .own ⟨1, 3, 0⟩], [(⟨1, 0, 0⟩, .sl .str (.all .w) (putD x.1 x.2.1.1).2.1), (⟨1, 1, 0⟩, .sl .str (.all .w) (putD x.1 x.2.1.1).2.2.1), (⟨1, 2, 0⟩, .sl .bool (.all .w) (putD x.1 x.2.1.1).2.2.2.1), (⟨1, 3, 0⟩, .sl T_Put (.all .w) (putD x.1 x.2.1.1).2.2.2.2)])⟩
theorem cChgPut_ok : CtrOk Proofs.Tryz.prog cChgPut := by
 have hP := (Prg.none ttok mtok)
 refine ctr_of_body hP cChgPut (fn := Proofs.Tryz.f122) (rts := [.cell 4 38]) Proofs.Tryz.func122 rfl (by kernel_rfl) rfl rfl ?_
 rintro ⟨⟨(st : Int), (sl : List Str), (rg : List Str), (sp : List Bool), (wt : List Put)⟩, ⟨(p : Put), ⟨⟩⟩, ⟨⟩⟩ ⟨_, ⟨hk, _⟩, _⟩ _
 try dsimp only [Ty.den, Mode.den, mdens] at _
 refine ⟨rfl, ?_⟩
 by_cases h1 : rdV ((st, sl, rg, sp, wt) : Dsk) = true
 ·have hP := ((Prg.none ttok mtok).and cRead_ok)
  obtain ⟨hsh, hwb, hsb, hrb, hgb⟩ := rd_parts h1
  dsimp only at hwb hsb hrb
  obtain ⟨hst, h12, h2b, h12b, h40⟩ := shaped_iff hsh
  dsimp only at hst h12 h2b h12b h40
  have hok : Drv.ok (sl, rg, sp) := drv_ok hsh
  by_cases h2 : putV p = true
  ·replace hP := hP.andX (cClPut_ok (st := st) (t := (sl, rg, sp)) (l := wt) (d := ⟨2, 1, 0⟩) (c := ⟨2, 1, 64⟩) hwb h40 h2)
   replace hP := hP.andX (cDisk_ok (st := st) (t := (putU st wt (sl, rg, sp))) (l := (putM st wt p)) (d := ⟨2, 1, 0⟩) (c := ⟨3, 5, 0⟩) (Nat.le_trans (putM_len h40) (by decide)) (putU_ok hok))
   have hv := putD_ok h1 h2
   refine sw_seq (xr hP 1 rfl (sw_seq (xg hP 2 [] rfl ?_ ?_)))
   ·simp [conj, maxL]
    try dsimp only [Ty.den, Ty.dflt]
    try simp only [rd_eta]
    exact h1
   refine sw_seq (sw_seq (xg hP 3 [] rfl ?_ ?_))
   ·simp only [conj, List.nil_append, List.cons_append, List.append_nil, List.append_assoc, inR_i64, true_and, and_true, Int.toNat_natCast]
    try dsimp only [Ty.den, Ty.dflt]
    repeat' apply And.intro
    all_goals first | rfl | omega | assumption | trivial
   refine sw_cond rfl (fun c2 => ?_) (fun c2 => ?_)
   ·cases c2
   ·refine sw_skip (sw_seq (xg hP 4 [] rfl ?_ ?_))
    ·simp only [conj, List.nil_append, List.cons_append, List.append_nil, List.append_assoc, inR_i64, true_and, and_true, Int.toNat_natCast]
     try dsimp only [Ty.den, Ty.dflt]
     repeat' apply And.intro
     all_goals first | rfl | omega | assumption | trivial
    refine sw_ret ⟨.inl rfl, _, rfl, ?_⟩
    simp [conj, hv, zeroD, dskOf, drvOf]
  ·replace hP := hP.andX (cClPutN_ok (st := st) (t := (sl, rg, sp)) (l := wt) (d := ⟨2, 1, 0⟩) (c := ⟨2, 1, 64⟩) h2)
   have hv : putD ((st, sl, rg, sp, wt) : Dsk) p = zeroD := putD_no h2
   refine sw_seq (xr hP 1 rfl (sw_seq (xg hP 2 [] rfl ?_ ?_)))
   ·simp [conj, maxL]
    try dsimp only [Ty.den, Ty.dflt]
    try simp only [rd_eta]
    exact h1
   refine sw_seq (sw_seq (xg hP 3 [] rfl ?_ ?_))
   ·simp only [conj, List.nil_append, List.cons_append, List.append_nil, List.append_assoc, inR_i64, true_and, and_true, Int.toNat_natCast]
    try dsimp only [Ty.den, Ty.dflt]
    repeat' apply And.intro
    all_goals first | rfl | omega | assumption | trivial
   refine sw_cond rfl (fun c2 => ?_) (fun c2 => ?_)
   ·refine sw_seq (xr hP 4 rfl (sw_ret ⟨.inl rfl, _, rfl, ?_⟩))
    simp [conj, hv, zeroD, dskOf, drvOf]
   ·cases c2
 ·have hP := ((Prg.none ttok mtok).and cReadB_ok)
  have h1b : rdV ((st, sl, rg, sp, wt) : Dsk) = false := by simpa using h1
  have hv : putD ((st, sl, rg, sp, wt) : Dsk) p = zeroD := putD_bad h1
  refine sw_seq (xr hP 1 rfl (sw_seq (xg hP 2 [] rfl ?_ ?_)))
  ·simp [conj, maxL]
   try dsimp only [Ty.den, Ty.dflt]
   try simp only [rd_eta]
   exact h1b
  refine sw_seq (sw_seq (xg hP 3 [] rfl ?_ ?_))
  ·simp only [conj, List.nil_append, List.cons_append, List.append_nil, List.append_assoc, inR_i64, true_and, and_true, Int.toNat_natCast]
   try dsimp only [Ty.den, Ty.dflt]
   repeat' apply And.intro
   all_goals first | rfl | omega | assumption | trivial
  refine sw_condT rfl (sw_seq (xr hP 4 rfl (sw_ret ⟨.inl rfl, _, rfl, ?_⟩)))
  simp [conj, hv, zeroD, dskOf, drvOf]
def cDPut : Ctr := ⟨88, [.val true T_Disk (.all .b), .val true T_Put pF], fun _ => True, fun x => (.v true [.d TI pF (putD x.1 x.2.1).1, .own ⟨1, 0, 0⟩, .own ⟨1, 1, 0⟩, .own ⟨1, 2, 0⟩, .own ⟨1, 3, 0⟩], [(⟨1, 0, 0⟩, .sl .str (.all .w) (putD x.1 x.2.1).2.1), (⟨1, 1, 0⟩, .sl .str (.all .w) (putD x.1 x.2.1).2.2.1), (⟨1, 2, 0⟩, .sl .bool (.all .w) (putD x.1 x.2.1).2.2.2.1), (⟨1, 3, 0⟩, .sl T_Put (.all .w) (putD x.1 x.2.1).2.2.2.2)])⟩
theorem cDPut_ok : CtrOk Proofs.Tryz.prog cDPut := by
 have hP := ((Prg.none ttok mtok).and cChgPut_ok)
 refine ctr_of_body hP cDPut (fn := Proofs.Tryz.f88) (rts := [.cell 4 38]) Proofs.Tryz.func88 rfl (by kernel_rfl) rfl rfl ?_
 rintro ⟨⟨(st : Int), (sl : List Str), (rg : List Str), (sp : List Bool), (wt : List Put)⟩, ⟨(rn : Bool), (at_ : Int), (tx : Str)⟩, ⟨⟩⟩ _ hpre
 try dsimp only [Ty.den, Mode.den, mdens] at hpre
 refine ⟨rfl, ?_⟩
 refine sw_seq (xr hP 1 rfl (sw_seq (xg hP 2 [] rfl ?_ ?_)))
 ·simp [conj, maxL]
  try dsimp only [Ty.den, Ty.dflt]
  try simp only [rd_eta]
  trivial
 refine sw_ret ⟨.inl rfl, _, rfl, ?_⟩
 simp [conj]
end Go.Sx

namespace Go.Sx
open Go
set_option maxRecDepth 100000
set_option linter.unusedVariables false
set_option linter.unusedSimpArgs false
set_option maxHeartbeats 2000000
def cInD : Ctr := ⟨128, [.val false TI pF, .val false TI pF, .val false TI pF], fun _ => True, fun x => (sBool (inVD x.1 x.2.1 x.2.2.1), [])⟩
theorem cIn_okD : CtrOk Proofs.Tryz.prog cInD := by
 have hP := (Prg.none ttok mtok)
 refine ctr_of_body hP cInD (fn := Proofs.Tryz.f128) (rts := [.tmp 6]) Proofs.Tryz.func128 rfl (by kernel_rfl) rfl rfl ?_
 rintro ⟨(n : Int), (a : Int), (b : Int), ⟨⟩⟩ _ hpre
 try dsimp only [Ty.den, Mode.den, mdens] at hpre
 refine ⟨rfl, ?_⟩
 refine sw_seq (xr hP 1 rfl (sw_seq ?_))
 refine sw_dec hP 2 [] 3 rfl (fun g1_3 => ?_) (fun g1_3 => ?_)
 ·refine xd hP 2 [(3, true)] rfl (sw_ret ⟨.inl rfl, _, rfl, ?_⟩)
  simp [conj, inVD] at *
  first | done | omega | (intros; omega)
 ·refine xd hP 2 [(3, false)] rfl (sw_ret ⟨.inl rfl, _, rfl, ?_⟩)
  simp [conj, inVD] at *
  first | done | omega | (intros; omega)
def cPutS : Ctr := ⟨152, [.val true T_Put pF], fun _ => True, fun x => (sBool (putV x.1), [])⟩
theorem cPutS_ok : CtrOk Proofs.Tryz.prog cPutS := by
 have hP := ((Prg.none ttok mtok).and cIn_okD)
 refine ctr_of_body hP cPutS (fn := Proofs.Tryz.f152) (rts := [.tmp 2]) Proofs.Tryz.func152 rfl (by kernel_rfl) rfl rfl ?_
 rintro ⟨⟨(rn : Bool), (at_ : Int), (tx : Str)⟩, ⟨⟩⟩ _ hpre
 try dsimp only [Ty.den, Mode.den, mdens] at hpre
 refine ⟨rfl, ?_⟩
 refine sw_seq (xr hP 1 rfl (sw_seq (sw_seq (xg hP 2 [] rfl ?_ ?_))))
 ·simp [conj]
  repeat' apply And.intro
  all_goals first | trivial | assumption | omega | (simp_all; done) | (simp_all; omega)
 refine sw_cond rfl (fun c1 => ?_) (fun c1 => ?_)
 ·refine sw_seq ?_
  refine sw_dec hP 3 [] 3 rfl (fun g2_3 => ?_) (fun g2_3 => ?_)
  ·refine xg hP 3 [(3, true)] rfl ?_ ?_
   ·simp [conj]
    repeat' apply And.intro
    all_goals first | trivial | assumption | omega | (simp_all; done) | (simp_all; omega)
   refine sw_ret ⟨.inl rfl, _, rfl, ?_⟩
   simp [conj, putV, inVD] at *
   first | (simp [*]; done) | (simp [*]; intros; have h := g2_3 (by assumption); omega) | (simp [*]; intros; have h := g3_3 (by assumption); omega) | (simp [*]; omega) | (simp [*]; intros; omega) | (simp only [*, if_true, Bool.false_eq_true, if_false]; refine Bool.eq_iff_iff.2 ?_; simp; omega)
  ·refine xg hP 3 [(3, false)] rfl ?_ ?_
   ·simp [conj]
    repeat' apply And.intro
    all_goals first | trivial | assumption | omega | (simp_all; done) | (simp_all; omega)
   refine sw_ret ⟨.inl rfl, _, rfl, ?_⟩
   simp [conj, putV, inVD] at *
   first | (simp [*]; done) | (simp [*]; intros; have h := g2_3 (by assumption); omega) | (simp [*]; intros; have h := g3_3 (by assumption); omega) | (simp [*]; omega) | (simp [*]; intros; omega) | (simp only [*, if_true, Bool.false_eq_true, if_false]; refine Bool.eq_iff_iff.2 ?_; simp; omega)
 ·refine sw_skip (sw_seq ?_)
  refine sw_dec hP 3 [] 3 rfl (fun g3_3 => ?_) (fun g3_3 => ?_)
  ·refine xg hP 3 [(3, true)] rfl ?_ ?_
   ·simp [conj]
    repeat' apply And.intro
    all_goals first | trivial | assumption | omega | (simp_all; done) | (simp_all; omega)
   refine sw_ret ⟨.inl rfl, _, rfl, ?_⟩
   simp [conj, putV, inVD] at *
   first | (simp [*]; done) | (simp [*]; intros; have h := g2_3 (by assumption); omega) | (simp [*]; intros; have h := g3_3 (by assumption); omega) | (simp [*]; omega) | (simp [*]; intros; omega) | (simp only [*, if_true, Bool.false_eq_true, if_false]; refine Bool.eq_iff_iff.2 ?_; simp; omega)
  ·refine xg hP 3 [(3, false)] rfl ?_ ?_
   ·simp [conj]
    repeat' apply And.intro
    all_goals first | trivial | assumption | omega | (simp_all; done) | (simp_all; omega)
   refine sw_ret ⟨.inl rfl, _, rfl, ?_⟩
   simp [conj, putV, inVD] at *
   first | (simp [*]; done) | (simp [*]; intros; have h := g2_3 (by assumption); omega) | (simp [*]; intros; have h := g3_3 (by assumption); omega) | (simp [*]; omega) | (simp [*]; intros; omega) | (simp only [*, if_true, Bool.false_eq_true, if_false]; refine Bool.eq_iff_iff.2 ?_; simp; omega)
def cDok : Ctr := ⟨113, [.val true T_Disk (.all .b)], fun _ => True, fun x => (sBool (rdV x.1), [])⟩
theorem cDok_ok : CtrOk Proofs.Tryz.prog cDok := by
 have hP := (((Prg.none ttok mtok).and cIn_okD).and cPutS_ok)
 refine ctr_of_body hP cDok (fn := Proofs.Tryz.f113) (rts := [.tmp 2]) Proofs.Tryz.func113 rfl (by kernel_rfl) rfl rfl ?_
 rintro ⟨⟨(st : Int), (sl : List Str), (rg : List Str), (sp : List Bool), (wt : List Put)⟩, ⟨⟩⟩ _ hpre
 try dsimp only [Ty.den, Mode.den, mdens] at hpre
 refine ⟨rfl, ?_⟩
 refine sw_seq (xr hP 1 rfl (sw_seq (sw_seq ?_)))
 refine sw_dec hP 2 [] 4 rfl (fun g1_4 => ?_) (fun g1_4 => ?_)
 ·replace g1_4 : stV st = false := by have h := g1_4; simp [inVD] at h; simp [stV]; omega
  refine xg hP 2 [(4, true)] rfl ?_ ?_
  ·simp [conj]
   repeat' apply And.intro
   all_goals first | assumption | omega | trivial | (simp_all [stV]; done) | (simp_all [stV]; omega)
  refine sw_condT rfl (sw_seq (xr hP 3 rfl (sw_ret ⟨.inl rfl, _, rfl, ?_⟩)))
  simp [conj]
  rw [← dok_eq]
  have h : shapedV ((st, sl, rg, sp, wt) : Dsk) = false := by simp [shapedV, *]
  simp [dokV, h]
 ·replace g1_4 : stV st = true := by have h := g1_4; simp [inVD] at h; simp [stV]; omega
  refine sw_dec hP 2 [(4, false)] 10 rfl (fun g1_10 => ?_) (fun g1_10 => ?_)
  ·replace g1_10 : ¬ sl.length = 12 := by have h := g1_10; simp at h; omega
   refine xg hP 2 [(4, false), (10, true)] rfl ?_ ?_
   ·simp [conj]
    repeat' apply And.intro
    all_goals first | assumption | omega | trivial | (simp_all [stV]; done) | (simp_all [stV]; omega)
   refine sw_condT rfl (sw_seq (xr hP 3 rfl (sw_ret ⟨.inl rfl, _, rfl, ?_⟩)))
   simp [conj]
   rw [← dok_eq]
   have h : shapedV ((st, sl, rg, sp, wt) : Dsk) = false := by simp [shapedV, *]
   simp [dokV, h]
  ·replace g1_10 : sl.length = 12 := by have h := g1_10; simp at h; omega
   refine sw_dec hP 2 [(4, false), (10, false)] 16 rfl (fun g1_16 => ?_) (fun g1_16 => ?_)
   ·replace g1_16 : ¬ rg.length = 2 := by have h := g1_16; simp at h; omega
    refine xg hP 2 [(4, false), (10, false), (16, true)] rfl ?_ ?_
    ·simp [conj]
     repeat' apply And.intro
     all_goals first | assumption | omega | trivial | (simp_all [stV]; done) | (simp_all [stV]; omega)
    refine sw_condT rfl (sw_seq (xr hP 3 rfl (sw_ret ⟨.inl rfl, _, rfl, ?_⟩)))
    simp [conj]
    rw [← dok_eq]
    have h : shapedV ((st, sl, rg, sp, wt) : Dsk) = false := by simp [shapedV, *]
    simp [dokV, h]
   ·replace g1_16 : rg.length = 2 := by have h := g1_16; simp at h; omega
    refine sw_dec hP 2 [(4, false), (10, false), (16, false)] 22 rfl (fun g1_22 => ?_) (fun g1_22 => ?_)
    ·replace g1_22 : ¬ sp.length = 12 := by have h := g1_22; simp at h; omega
     refine xg hP 2 [(4, false), (10, false), (16, false), (22, true)] rfl ?_ ?_
     ·simp [conj]
      repeat' apply And.intro
      all_goals first | assumption | omega | trivial | (simp_all [stV]; done) | (simp_all [stV]; omega)
     refine sw_condT rfl (sw_seq (xr hP 3 rfl (sw_ret ⟨.inl rfl, _, rfl, ?_⟩)))
     simp [conj]
     rw [← dok_eq]
     have h : shapedV ((st, sl, rg, sp, wt) : Dsk) = false := by simp [shapedV, *]
     simp [dokV, h]
    ·replace g1_22 : sp.length = 12 := by have h := g1_22; simp at h; omega
     refine xg hP 2 [(4, false), (10, false), (16, false), (22, false)] rfl ?_ ?_
     ·simp [conj]
      repeat' apply And.intro
      all_goals first | assumption | omega | trivial | (simp_all [stV]; done) | (simp_all [stV]; omega)
     refine sw_cond rfl (fun c1 => ?_) (fun c1 => ?_)
     ·replace c1 : ¬ wt.length ≤ 40 := by have h := c1; simp at h; omega
      refine sw_seq (xr hP 3 rfl (sw_ret ⟨.inl rfl, _, rfl, ?_⟩))
      simp [conj]
      rw [← dok_eq]
      have h : shapedV ((st, sl, rg, sp, wt) : Dsk) = false := by simp [shapedV, *]
      simp [dokV, h]
     ·replace c1 : wt.length ≤ 40 := by have h := c1; simp at h; omega
      have hsh : shapedV ((st, sl, rg, sp, wt) : Dsk) = true := by simp [shapedV, *]
      refine sw_skip (sw_seq (sw_seq (xr hP 3 rfl (sw_block (sw_loop (ι := Nat) (fun i => ⟨[.j, .v false [.ptr ⟨1, 0, 0⟩ 0], .j, sInt .i64 (i : Int), .j, .j, .j, .j, .j, .j, .j, .j, .j, .j, .j, .j, .j, .j, .j, .j, .j, .j, .j, .j, .j, .j, .j, .j, .j, .j, .j, .j, .j, .j, .j, .j, .j, .j, .j, .j, .j, .j, .j, .j, .j, .j, .j, .j, .j, .j, .j, .j, .j, .j, .j, .j, .j, .j, .j, .j, .j, .j, .j, .j, .j, .j, .j, .j, .j, .j, .j, .j, .j, .j, .j, .j, .j, .j, .j, .j, .j, .j, .j, .j, .j, .j, .j, .j, .j, .j, .j, .j, .j, .j, .j, .j, .j, .j, .j, .j, .j, .j, .j, .j, .j, .j, .j, .j, .j, .j, .j, .j, .j, .j, .j, .j, .j, .j, .j, .j, .j, .j, .j, .j, .j], [(⟨1, 0, 0⟩, .var [.d TI pF st, .d (.sl .str) (.all .b) sl, .d (.sl .str) (.all .b) rg, .d (.sl .bool) (.all .b) sp, .d (.sl T_Put) (.all .b) wt])], 3, []⟩) (fun i => sl.length - i) (fun i => i ≤ sl.length ∧ slotsS (decide (st = 1)) (sl.drop i) (sp.drop i) = slotsS (decide (st = 1)) sl sp) 0 ⟨?_, ?_⟩ ?_)))))
      ·exact ⟨Nat.zero_le _, rfl⟩
      ·refine ent_ok rfl ?_
       first | trivial | (simp [conj]; done) | (simp [conj] at *; (try dsimp only [Ty.den, Ty.dflt] at *); omega)
      ·rintro i ⟨hi, hgo⟩
       refine sw_seq (sw_seq (xr hP 4 rfl (sw_cond rfl (fun c4 => ?_) (fun c4 => ?_))))
       ·have hlt : i < sl.length := by simpa using c4
        have hlt2 : i < sp.length := by omega
        refine sw_skip (sw_seq (sw_block (sw_seq (xg hP 5 [] rfl ?_ ?_))))
        ·simp [conj, gE hlt, gE hlt2]
         repeat' apply And.intro
         all_goals first | assumption | omega | trivial | (simp_all; done) | (simp_all; omega)
        refine sw_seq ?_
        refine sw_dec hP 6 [] 2 rfl (fun g7_2 => ?_) (fun g7_2 => ?_)
        ·have hne : ¬ sl[i] = [] := by have h := g7_2; simp [gE hlt, gE hlt2] at h; exact h
         replace g7_2 : ¬ sl[i].length = 0 := fun e => hne (List.eq_nil_of_length_eq_zero e)
         refine sw_dec hP 6 [(2, true)] 6 rfl (fun g7_6 => ?_) (fun g7_6 => ?_)
         ·replace g7_6 : ¬ sl[i].length = 3 := by have h := g7_6; simp [gE hlt, gE hlt2] at h; omega
          refine xg hP 6 [(2, true), (6, true)] rfl ?_ ?_
          ·simp [conj, gE hlt, gE hlt2]
           repeat' apply And.intro
           all_goals first | assumption | omega | trivial | (simp_all; done) | (simp_all; omega)
          refine sw_condT rfl (sw_seq (xr hP 7 rfl (sw_ret ⟨.inl rfl, _, rfl, ?_⟩)))
          simp [conj]
          rw [← dok_eq]
          have h := slotsS_hit hlt hlt2 hgo (by simp [slotS, *])
          simp [dokV, h]
         ·replace g7_6 : sl[i].length = 3 := by have h := g7_6; simp [gE hlt, gE hlt2] at h; omega
          refine sw_dec hP 6 [(2, true), (6, false)] 12 rfl (fun g7_12 => ?_) (fun g7_12 => ?_)
          ·replace g7_12 : sp[i] = true := by have h := g7_12; simp [gE hlt, gE hlt2] at h; exact h
           refine sw_dec hP 6 [(2, true), (6, false), (12, true)] 17 rfl (fun g7_17 => ?_) (fun g7_17 => ?_)
           ·exfalso
            have h := g7_17; simp [gE hlt, gE hlt2] at h; exact hne h
           ·refine sw_dec hP 6 [(2, true), (6, false), (12, true), (17, false)] 21 rfl (fun g7_21 => ?_) (fun g7_21 => ?_)
            ·replace g7_21 : st = 1 := of_decide_eq_true g7_21
             refine xg hP 6 [(2, true), (6, false), (12, true), (17, false), (21, true)] rfl ?_ ?_
             ·simp [conj, gE hlt, gE hlt2]
              repeat' apply And.intro
              all_goals first | assumption | omega | trivial | (simp_all; done) | (simp_all; omega)
             refine sw_cond rfl (fun c7 => ?_) (fun c7 => ?_)
             ·refine sw_seq (xr hP 7 rfl (sw_ret ⟨.inl rfl, _, rfl, ?_⟩))
              simp [conj]
              rw [← dok_eq]
              have h := slotsS_hit hlt hlt2 hgo (by simp [slotS, *])
              simp [dokV, h]
             ·exfalso
              have h := c7; simp [gE hlt, gE hlt2] at h; first | omega | exact hne h | exact h hne
            ·replace g7_21 : ¬ st = 1 := of_decide_eq_false g7_21
             refine xg hP 6 [(2, true), (6, false), (12, true), (17, false), (21, false)] rfl ?_ ?_
             ·simp [conj, gE hlt, gE hlt2]
              repeat' apply And.intro
              all_goals first | assumption | omega | trivial | (simp_all; done) | (simp_all; omega)
             refine sw_condF rfl (sw_skip (xr hP 7 rfl (⟨i + 1, ?_, ?_, ent_ok rfl ?_⟩)))
             ·exact ⟨hlt, slotsS_next hlt hlt2 hgo (by simp [slotS, *])⟩
             ·omega
             ·simp [conj]
          ·replace g7_12 : sp[i] = false := by have h := g7_12; simp [gE hlt, gE hlt2] at h; exact h
           refine sw_dec hP 6 [(2, true), (6, false), (12, false)] 21 rfl (fun g7_21 => ?_) (fun g7_21 => ?_)
           ·replace g7_21 : st = 1 := of_decide_eq_true g7_21
            refine xg hP 6 [(2, true), (6, false), (12, false), (21, true)] rfl ?_ ?_
            ·simp [conj, gE hlt, gE hlt2]
             repeat' apply And.intro
             all_goals first | assumption | omega | trivial | (simp_all; done) | (simp_all; omega)
            refine sw_cond rfl (fun c7 => ?_) (fun c7 => ?_)
            ·refine sw_seq (xr hP 7 rfl (sw_ret ⟨.inl rfl, _, rfl, ?_⟩))
             simp [conj]
             rw [← dok_eq]
             have h := slotsS_hit hlt hlt2 hgo (by simp [slotS, *])
             simp [dokV, h]
            ·exfalso
             have h := c7; simp [gE hlt, gE hlt2] at h; first | omega | exact hne h | exact h hne
           ·replace g7_21 : ¬ st = 1 := of_decide_eq_false g7_21
            refine xg hP 6 [(2, true), (6, false), (12, false), (21, false)] rfl ?_ ?_
            ·simp [conj, gE hlt, gE hlt2]
             repeat' apply And.intro
             all_goals first | assumption | omega | trivial | (simp_all; done) | (simp_all; omega)
            refine sw_condF rfl (sw_skip (xr hP 7 rfl (⟨i + 1, ?_, ?_, ent_ok rfl ?_⟩)))
            ·exact ⟨hlt, slotsS_next hlt hlt2 hgo (by simp [slotS, *])⟩
            ·omega
            ·simp [conj]
        ·have hne : sl[i] = [] := by have h := g7_2; simp [gE hlt, gE hlt2] at h; exact h
         replace g7_2 : sl[i].length = 0 := by rw [hne]; rfl
         refine sw_dec hP 6 [(2, false)] 12 rfl (fun g7_12 => ?_) (fun g7_12 => ?_)
         ·replace g7_12 : sp[i] = true := by have h := g7_12; simp [gE hlt, gE hlt2] at h; exact h
          refine sw_dec hP 6 [(2, false), (12, true)] 17 rfl (fun g7_17 => ?_) (fun g7_17 => ?_)
          ·refine xg hP 6 [(2, false), (12, true), (17, true)] rfl ?_ ?_
           ·simp [conj, gE hlt, gE hlt2]
            repeat' apply And.intro
            all_goals first | assumption | omega | trivial | (simp_all; done) | (simp_all; omega)
           refine sw_condT rfl (sw_seq (xr hP 7 rfl (sw_ret ⟨.inl rfl, _, rfl, ?_⟩)))
           simp [conj]
           rw [← dok_eq]
           have h := slotsS_hit hlt hlt2 hgo (by simp [slotS, *])
           simp [dokV, h]
          ·exfalso
           have h := g7_17; simp [gE hlt, gE hlt2] at h; exact h hne
         ·replace g7_12 : sp[i] = false := by have h := g7_12; simp [gE hlt, gE hlt2] at h; exact h
          refine sw_dec hP 6 [(2, false), (12, false)] 21 rfl (fun g7_21 => ?_) (fun g7_21 => ?_)
          ·replace g7_21 : st = 1 := of_decide_eq_true g7_21
           refine xg hP 6 [(2, false), (12, false), (21, true)] rfl ?_ ?_
           ·simp [conj, gE hlt, gE hlt2]
            repeat' apply And.intro
            all_goals first | assumption | omega | trivial | (simp_all; done) | (simp_all; omega)
           refine sw_cond rfl (fun c7 => ?_) (fun c7 => ?_)
           ·exfalso
            have h := c7; simp [gE hlt, gE hlt2] at h; first | omega | exact hne h | exact h hne
           ·refine sw_skip (xr hP 7 rfl (⟨i + 1, ?_, ?_, ent_ok rfl ?_⟩))
            ·exact ⟨hlt, slotsS_next hlt hlt2 hgo (by simp [slotS, *])⟩
            ·omega
            ·simp [conj]
          ·replace g7_21 : ¬ st = 1 := of_decide_eq_false g7_21
           refine xg hP 6 [(2, false), (12, false), (21, false)] rfl ?_ ?_
           ·simp [conj, gE hlt, gE hlt2]
            repeat' apply And.intro
            all_goals first | assumption | omega | trivial | (simp_all; done) | (simp_all; omega)
           refine sw_condF rfl (sw_skip (xr hP 7 rfl (⟨i + 1, ?_, ?_, ent_ok rfl ?_⟩)))
           ·exact ⟨hlt, slotsS_next hlt hlt2 hgo (by simp [slotS, *])⟩
           ·omega
           ·simp [conj]
       ·obtain rfl : i = sl.length := by simp at c4; omega
        have hS := slotsS_end hgo
        refine sw_exit (sw_seq (sw_seq (xr hP 5 rfl (sw_block (sw_loop (ι := Nat) (fun i => ⟨[.j, .v false [.ptr ⟨1, 0, 0⟩ 0], .j, .j, .j, sInt .i64 (i : Int), .j, .j, .j, .j, .j, .j, .j, .j, .j, .j, .j, .j, .j, .j, .j, .j, .j, .j, .j, .j, .j, .j, .j, .j, .j, .j, .j, .j, .j, .j, .j, .j, .j, .j, .j, .j, .j, .j, .j, .j, .j, .j, .j, .j, .j, .j, .j, .j, .j, .j, .j, .j, .j, .j, .j, .j, .j, .j, .j, .j, .j, .j, .j, .j, .j, .j, .j, .j, .j, .j, .j, .j, .j, .j, .j, .j, .j, .j, .j, .j, .j, .j, .j, .j, .j, .j, .j, .j, .j, .j, .j, .j, .j, .j, .j, .j, .j, .j, .j, .j, .j, .j, .j, .j, .j, .j, .j, .j, .j, .j, .j, .j, .j, .j, .j, .j, .j, .j, .j], [(⟨1, 0, 0⟩, .var [.d TI pF st, .d (.sl .str) (.all .b) sl, .d (.sl .str) (.all .b) rg, .d (.sl .bool) (.all .b) sp, .d (.sl T_Put) (.all .b) wt])], 5, []⟩) (fun i => rg.length - i) (fun i => i ≤ rg.length ∧ (rg.drop i).any (ringS (decide (st = 1))) = rg.any (ringS (decide (st = 1)))) 0 ⟨?_, ?_⟩ ?_)))))
        ·exact ⟨Nat.zero_le _, rfl⟩
        ·refine ent_ok rfl ?_
         first | trivial | (simp [conj]; done) | (simp [conj] at *; (try dsimp only [Ty.den, Ty.dflt] at *); omega)
        ·rintro i ⟨hi, hgo⟩
         refine sw_seq (sw_seq (xr hP 6 rfl (sw_cond rfl (fun c10 => ?_) (fun c10 => ?_))))
         ·have hlt : i < rg.length := by simpa using c10
          refine sw_skip (sw_seq (sw_block (sw_seq ?_)))
          refine sw_dec hP 7 [] 7 rfl (fun g12_7 => ?_) (fun g12_7 => ?_)
          ·replace g12_7 : 700 < rg[i].length := by have h := g12_7; simp [gE hlt] at h; omega
           refine xg hP 7 [(7, true)] rfl ?_ ?_
           ·simp [conj, gE hlt]
            repeat' apply And.intro
            all_goals first | assumption | omega | trivial | (simp_all; done) | (simp_all; omega)
           refine sw_condT rfl (sw_seq (xr hP 8 rfl (sw_ret ⟨.inl rfl, _, rfl, ?_⟩)))
           simp [conj]
           rw [← dok_eq]
           have h := any_hitD hlt hgo (by simp [ringS, *])
           simp [dokV, h]
          ·replace g12_7 : ¬ 700 < rg[i].length := by have h := g12_7; simp [gE hlt] at h; omega
           refine sw_dec hP 7 [(7, false)] 11 rfl (fun g12_11 => ?_) (fun g12_11 => ?_)
           ·replace g12_11 : st = 1 := of_decide_eq_true g12_11
            refine xg hP 7 [(7, false), (11, true)] rfl ?_ ?_
            ·simp [conj, gE hlt]
             repeat' apply And.intro
             all_goals first | assumption | omega | trivial | (simp_all; done) | (simp_all; omega)
            refine sw_cond rfl (fun c12 => ?_) (fun c12 => ?_)
            ·replace c12 : 0 < rg[i].length := by have h := c12; simp [gE hlt] at h; first | omega | exact List.length_pos_iff.2 h
             refine sw_seq (xr hP 8 rfl (sw_ret ⟨.inl rfl, _, rfl, ?_⟩))
             simp [conj]
             rw [← dok_eq]
             have h := any_hitD hlt hgo (by simp [ringS, *])
             simp [dokV, h]
            ·replace c12 : ¬ 0 < rg[i].length := by have h := c12; simp [gE hlt] at h; first | omega | (rw [h]; simp)
             refine sw_skip (xr hP 8 rfl (⟨i + 1, ?_, ?_, ent_ok rfl ?_⟩))
             ·exact ⟨hlt, any_nextD hlt hgo (by simp [ringS, *]; try omega)⟩
             ·omega
             ·simp [conj]
           ·replace g12_11 : ¬ st = 1 := of_decide_eq_false g12_11
            refine xg hP 7 [(7, false), (11, false)] rfl ?_ ?_
            ·simp [conj, gE hlt]
             repeat' apply And.intro
             all_goals first | assumption | omega | trivial | (simp_all; done) | (simp_all; omega)
            refine sw_condF rfl (sw_skip (xr hP 8 rfl (⟨i + 1, ?_, ?_, ent_ok rfl ?_⟩)))
            ·exact ⟨hlt, any_nextD hlt hgo (by simp [ringS, *]; try omega)⟩
            ·omega
            ·simp [conj]
         ·obtain rfl : i = rg.length := by simp at c10; omega
          have hR := any_endD hgo
          refine sw_exit (sw_seq (sw_seq (xr hP 7 rfl (sw_block (sw_loop (ι := Nat) (fun i => ⟨[.j, .v false [.ptr ⟨1, 0, 0⟩ 0], .j, .j, .j, .j, sInt .i64 (i : Int), .j, .j, .j, .j, .j, .j, .j, .j, .j, .j, .j, .j, .j, .j, .j, .j, .j, .j, .j, .j, .j, .j, .j, .j, .j, .j, .j, .j, .j, .j, .j, .j, .j, .j, .j, .j, .j, .j, .j, .j, .j, .j, .j, .j, .j, .j, .j, .j, .j, .j, .j, .j, .j, .j, .j, .j, .j, .j, .j, .j, .j, .j, .j, .j, .j, .j, .j, .j, .j, .j, .j, .j, .j, .j, .j, .j, .j, .j, .j, .j, .j, .j, .j, .j, .j, .j, .j, .j, .j, .j, .j, .j, .j, .j, .j, .j, .j, .j, .j, .j, .j, .j, .j, .j, .j, .j, .j, .j, .j, .j, .j, .j, .j, .j, .j, .j, .j, .j], [(⟨1, 0, 0⟩, .var [.d TI pF st, .d (.sl .str) (.all .b) sl, .d (.sl .str) (.all .b) rg, .d (.sl .bool) (.all .b) sp, .d (.sl T_Put) (.all .b) wt])], 7, []⟩) (fun i => wt.length - i) (fun i => i ≤ wt.length ∧ (wt.drop i).any badP = wt.any badP) 0 ⟨?_, ?_⟩ ?_)))))
          ·exact ⟨Nat.zero_le _, rfl⟩
          ·refine ent_ok rfl ?_
           first | trivial | (simp [conj]; done) | (simp [conj] at *; (try dsimp only [Ty.den, Ty.dflt] at *); omega)
          ·rintro i ⟨hi, hgo⟩
           refine sw_seq (sw_seq (xr hP 8 rfl (sw_cond rfl (fun c15 => ?_) (fun c15 => ?_))))
           ·have hlt : i < wt.length := by simpa using c15
            refine sw_skip (sw_seq (sw_block (sw_seq (xg hP 9 [] rfl ?_ ?_))))
            ·simp [conj, gE hlt]
             repeat' apply And.intro
             all_goals first | assumption | omega | trivial | (simp_all; done) | (simp_all; omega)
            refine sw_cond rfl (fun c17 => ?_) (fun c17 => ?_)
            ·replace c17 : badP wt[i] = true := by have h := c17; simp [gE hlt] at h; simpa [badP] using h
             refine sw_seq (xr hP 10 rfl (sw_ret ⟨.inl rfl, _, rfl, ?_⟩))
             simp [conj]
             rw [← dok_eq]
             have h := any_hitD hlt hgo c17
             simp [dokV, h]
            ·replace c17 : badP wt[i] = false := by have h := c17; simp [gE hlt] at h; simpa [badP] using h
             refine sw_skip (xr hP 10 rfl (⟨i + 1, ?_, ?_, ent_ok rfl ?_⟩))
             ·exact ⟨hlt, any_nextD hlt hgo c17⟩
             ·omega
             ·simp [conj]
           ·obtain rfl : i = wt.length := by simp at c15; omega
            have hW := any_endD hgo
            refine sw_exit (sw_seq ?_)
            refine sw_dec hP 9 [] 3 rfl (fun g19_3 => ?_) (fun g19_3 => ?_)
            ·replace g19_3 : ¬ st = 1 := by have h := g19_3; simpa using h
             refine xg hP 9 [(3, true)] rfl ?_ ?_
             ·simp [conj]
              repeat' apply And.intro
              all_goals first | assumption | omega | trivial | (simp_all [stV]; done) | (simp_all [stV]; omega)
             refine sw_ret ⟨.inl rfl, _, rfl, ?_⟩
             simp [conj]
             rw [← dok_eq]
             have h : dokV ((st, sl, rg, sp, wt) : Dsk) = (decide (¬ st = 1) || decide (wt.length = 0)) := by unfold dokV; dsimp only; rw [hsh, hS, hR, hW]; rfl
             rw [h]
             simp [g19_3]
            ·replace g19_3 : st = 1 := by have h := g19_3; simpa using h
             refine xg hP 9 [(3, false)] rfl ?_ ?_
             ·simp [conj]
              repeat' apply And.intro
              all_goals first | assumption | omega | trivial | (simp_all [stV]; done) | (simp_all [stV]; omega)
             refine sw_ret ⟨.inl rfl, _, rfl, ?_⟩
             simp [conj]
             rw [← dok_eq]
             have h : dokV ((st, sl, rg, sp, wt) : Dsk) = (decide (¬ st = 1) || decide (wt.length = 0)) := by unfold dokV; dsimp only; rw [hsh, hS, hR, hW]; rfl
             rw [h]
             simp [g19_3]
end Go.Sx

namespace Go.Sx
open Go
set_option maxRecDepth 100000
set_option linter.unusedVariables false
set_option linter.unusedSimpArgs false
set_option maxHeartbeats 2000000
def cCopyD : Ctr := ⟨83, [.val true T_Disk (.all .b)], fun x => SmallD x.1, fun x => (.v true [.d TI pF (x.1).1, .own ⟨1, 0, 0⟩, .own ⟨1, 1, 0⟩, .own ⟨1, 2, 0⟩, .own ⟨1, 3, 0⟩], [(⟨1, 0, 0⟩, .sl .str (.all .w) (x.1).2.1), (⟨1, 1, 0⟩, .sl .str (.all .w) (x.1).2.2.1), (⟨1, 2, 0⟩, .sl .bool (.all .w) (x.1).2.2.2.1), (⟨1, 3, 0⟩, .sl T_Put (.all .w) (x.1).2.2.2.2)])⟩
theorem cCopyD_ok : CtrOk Proofs.Tryz.prog cCopyD := by
 have hP := (Prg.none ttok mtok)
 refine ctr_of_body hP cCopyD (fn := Proofs.Tryz.f83) (rts := [.cell 2 38]) Proofs.Tryz.func83 rfl (by kernel_rfl) rfl rfl ?_
 rintro ⟨⟨(st : Int), (sl : List Str), (rg : List Str), (sp : List Bool), (wt : List Put)⟩, ⟨⟩⟩ _ ⟨h1, h2, h3, h4⟩
 try dsimp only [Ty.den, Mode.den, mdens] at h1
 try dsimp only [Ty.den, Mode.den, mdens] at h2
 try dsimp only [Ty.den, Mode.den, mdens] at h3
 try dsimp only [Ty.den, Mode.den, mdens] at h4
 refine ⟨rfl, ?_⟩
 refine sw_seq (xr hP 1 rfl (sw_seq (xg hP 2 [] rfl ?_ ?_)))
 ·simp [conj, maxL]
  repeat' apply And.intro
  all_goals omega
 refine sw_ret ⟨.inl rfl, _, rfl, ?_⟩
 simp [conj]
def cComeS : Ctr := ⟨130, [.own true T_Disk (.all .w), .val true T_Put pF], fun x => putV x.2.1 = true ∧ (drvOf x.1).ok, fun x => (.v true [.d TI pF (comeD x.1 x.2.1).1, .own ⟨1, 0, 0⟩, .own ⟨1, 1, 0⟩, .own ⟨1, 2, 0⟩, .own ⟨1, 3, 0⟩], [(⟨1, 0, 0⟩, .sl .str (.all .w) (comeD x.1 x.2.1).2.1), (⟨1, 1, 0⟩, .sl .str (.all .w) (comeD x.1 x.2.1).2.2.1), (⟨1, 2, 0⟩, .sl .bool (.all .w) (comeD x.1 x.2.1).2.2.2.1), (⟨1, 3, 0⟩, .sl T_Put (.all .w) (comeD x.1 x.2.1).2.2.2.2)])⟩
theorem cComeS_ok : CtrOk Proofs.Tryz.prog cComeS := by
 have hP := (Prg.none ttok mtok)
 refine ctr_of_body hP cComeS (fn := Proofs.Tryz.f130) (rts := [.cell 4 38]) Proofs.Tryz.func130 rfl (by kernel_rfl) rfl rfl ?_
 rintro ⟨⟨(st : Int), (sl : List Str), (rg : List Str), (sp : List Bool), (wt : List Put)⟩, ⟨(rn : Bool), (at_ : Int), (tx : Str)⟩, ⟨⟩⟩ _ ⟨hp, ho1, ho2, ho3⟩
 try dsimp only [Ty.den, Mode.den, mdens] at hp
 try dsimp only [Ty.den, Mode.den, mdens] at ho1
 try dsimp only [Ty.den, Mode.den, mdens] at ho2
 try dsimp only [Ty.den, Mode.den, mdens] at ho3
 refine ⟨rfl, ?_⟩
 dsimp only [drvOf] at ho1 ho2 ho3
 refine sw_seq (xr hP 1 rfl (sw_seq (sw_seq (xr hP 2 rfl (sw_cond rfl (fun c1 => ?_) (fun c1 => ?_))))))
 ·replace c1 : rn = true := c1
  obtain ⟨h0, h1, h2⟩ := putV_ring hp c1
  dsimp only at h0 h1 h2
  have hv := come_ring (p := (rn, at_, tx)) (t := (sl, rg, sp)) c1
  refine sw_seq (xg hP 3 [] rfl ?_ ?_)
  ·simp only [conj, List.nil_append, List.cons_append, List.append_nil, List.append_assoc, inR_i64, true_and, and_true, Int.toNat_natCast]
   try dsimp only [Ty.den, Ty.dflt]
   repeat' apply And.intro
   all_goals first | rfl | omega | assumption | trivial
  refine sw_seq (xr hP 4 rfl (sw_ret ⟨.inl rfl, _, rfl, ?_⟩))
  simp [conj, comeD, dskOf, drvOf, hv]
 ·replace c1 : rn = false := c1
  obtain ⟨h0, h1, h2⟩ := putV_slot hp c1
  dsimp only at h0 h1 h2
  have hv := come_slot (p := (rn, at_, tx)) (t := (sl, rg, sp)) c1
  refine sw_skip (sw_seq (xg hP 3 [] rfl ?_ ?_))
  ·simp only [conj, List.nil_append, List.cons_append, List.append_nil, List.append_assoc, inR_i64, true_and, and_true, Int.toNat_natCast]
   try dsimp only [Ty.den, Ty.dflt]
   repeat' apply And.intro
   all_goals first | rfl | omega | assumption | trivial
  refine sw_seq (xg hP 4 [] rfl ?_ ?_)
  ·simp only [conj, List.nil_append, List.cons_append, List.append_nil, List.append_assoc, inR_i64, true_and, and_true, Int.toNat_natCast]
   try dsimp only [Ty.den, Ty.dflt]
   repeat' apply And.intro
   all_goals first | rfl | omega | assumption | trivial
  refine sw_seq (xr hP 5 rfl (sw_ret ⟨.inl rfl, _, rfl, ?_⟩))
  simp [conj, comeD, dskOf, drvOf, hv]
def cCrashS : Ctr := ⟨115, [.own true T_Disk (.all .w), .val false TI pF], fun x => (drvOf x.1).ok ∧ x.1.2.2.2.2.any badP = false ∧ List.length x.1.2.2.2.2 ≤ 40 ∧ 0 ≤ x.2.1, fun x => (.v true [.d TI pF (dskOf x.1.1 (comes (keepB x.2.1.toNat x.1.2.2.2.2) (drvOf x.1)) []).1, .own ⟨1, 0, 0⟩, .own ⟨1, 1, 0⟩, .own ⟨1, 2, 0⟩, .own ⟨1, 3, 0⟩], [(⟨1, 0, 0⟩, .sl .str (.all .w) (dskOf x.1.1 (comes (keepB x.2.1.toNat x.1.2.2.2.2) (drvOf x.1)) []).2.1), (⟨1, 1, 0⟩, .sl .str (.all .w) (dskOf x.1.1 (comes (keepB x.2.1.toNat x.1.2.2.2.2) (drvOf x.1)) []).2.2.1), (⟨1, 2, 0⟩, .sl .bool (.all .w) (dskOf x.1.1 (comes (keepB x.2.1.toNat x.1.2.2.2.2) (drvOf x.1)) []).2.2.2.1), (⟨1, 3, 0⟩, .sl T_Put (.all .w) (dskOf x.1.1 (comes (keepB x.2.1.toNat x.1.2.2.2.2) (drvOf x.1)) []).2.2.2.2)])⟩
theorem cCrashS_ok : CtrOk Proofs.Tryz.prog cCrashS := by
 have hP := ((Prg.none ttok mtok).and cComeS_ok)
 refine ctr_of_body hP cCrashS (fn := Proofs.Tryz.f115) (rts := [.cell 4 38]) Proofs.Tryz.func115 rfl (by kernel_rfl) rfl rfl ?_
 rintro ⟨⟨(st : Int), (sl : List Str), (rg : List Str), (sp : List Bool), (wt : List Put)⟩, (keep : Int), ⟨⟩⟩ ⟨_, hk, _⟩ ⟨ho, hw, h40, h0⟩
 try dsimp only [Ty.den, Mode.den, mdens] at ho
 try dsimp only [Ty.den, Mode.den, mdens] at hw
 try dsimp only [Ty.den, Mode.den, mdens] at h40
 try dsimp only [Ty.den, Mode.den, mdens] at h0
 refine ⟨rfl, ?_⟩
 have hkm : keep ≤ 9223372036854775807 := (inR_i64.1 hk).2
 replace h0 : 0 ≤ keep := h0
 replace h40 : wt.length ≤ 40 := h40
 replace hw : wt.any badP = false := hw
 replace ho : Drv.ok (sl, rg, sp) := ho
 refine sw_seq (xr hP 1 rfl (sw_seq (sw_seq (xr hP 2 rfl (sw_block (sw_loop (ι := Nat × Nat × Drv) (fun ⟨i, n, u⟩ => ⟨[.j, sInt .i64 (n : Int), .v false [.ptr ⟨1, 0, 0⟩ 0], .j, .v false [.ptr ⟨1, 1, 0⟩ 0], sInt .i64 (i : Int), .j, .j, .j, .j, .j, .j, .j, .j, .j, .j, .j, .j, .j, .j, .j, .j, .j, .j, .j, .j, .j, .j], [(⟨1, 0, 0⟩, .var [.d TI pF st, .own ⟨0, 9, 1⟩, .own ⟨0, 9, 2⟩, .own ⟨0, 9, 3⟩, .own ⟨0, 9, 4⟩]), (⟨0, 9, 1⟩, .sl .str (.all .w) u.1), (⟨0, 9, 2⟩, .sl .str (.all .w) u.2.1), (⟨0, 9, 3⟩, .sl .bool (.all .w) u.2.2), (⟨0, 9, 4⟩, .sl T_Put (.all .w) wt), (⟨1, 1, 0⟩, .var [.d TI pF 0, .nils, .nils, .nils, .nils])], 2, []⟩) (fun ⟨i, n, u⟩ => wt.length - i) (fun ⟨i, n, u⟩ => i ≤ wt.length ∧ n ≤ 9223372036854775807 ∧ comes (keepB n (wt.drop i)) u = comes (keepB keep.toNat wt) (sl, rg, sp) ∧ u.ok) (0, keep.toNat, (sl, rg, sp)) ⟨?_, ?_⟩ ?_))))))
 ·exact ⟨Nat.zero_le _, by show keep.toNat ≤ _; omega, rfl, ho⟩
 ·refine ent_ok rfl ?_
  simp [conj]
  try exact (Int.max_eq_left (by omega)).symm
  try omega
 ·rintro ⟨i, n, u⟩ ⟨hi, hn, hgo, hu⟩
  refine sw_seq (sw_seq (xr hP 3 rfl (sw_cond rfl (fun c2 => ?_) (fun c2 => ?_))))
  ·have hlt : i < wt.length := by simpa using c2
   have hg : (List.getD wt i T_Put.dflt : Put) = wt[i] := by rw [List.getD, gE hlt]; rfl
   have hp := wait_at hw hlt
   rw [← hg] at hp
   have htm : ((n : Nat) : Int).tmod 2 = ((n % 2 : Nat) : Int) := rfl
   have htd : ((n : Nat) : Int).tdiv 2 = ((n / 2 : Nat) : Int) := rfl
   have hdl := Nat.div_le_self n 2
   refine sw_skip (sw_seq (sw_block (sw_seq (sw_seq (xg hP 4 [] rfl ?_ ?_)))))
   ·simp only [conj, List.nil_append, List.cons_append, List.append_nil, List.append_assoc, inR_i64, true_and, and_true, Int.toNat_natCast]
    try dsimp only [Ty.den, Ty.dflt]
    repeat' apply And.intro
    all_goals first | rfl | omega | assumption | trivial
   refine sw_cond rfl (fun c4 => ?_) (fun c4 => ?_)
   ·have hb : n % 2 = 1 := by have h : ((n : Nat) : Int).tmod 2 = 1 := of_decide_eq_true c4; omega
    have hnx := keep_hit hlt hb hgo
    rw [← hg] at hnx
    refine xg hP 5 [] rfl ?_ ?_
    ·simp only [conj, List.nil_append, List.cons_append, List.append_nil, List.append_assoc, inR_i64, true_and, and_true, Int.toNat_natCast]
     try dsimp only [Ty.den, Ty.dflt]
     repeat' apply And.intro
     all_goals first | exact hp | exact hu.1 | exact hu.2.1 | exact hu.2.2 | rfl | omega | assumption | trivial
    refine xg hP 6 [] rfl ?_ ?_
    ·simp only [conj, List.nil_append, List.cons_append, List.append_nil, List.append_assoc, inR_i64, true_and, and_true, Int.toNat_natCast]
     try dsimp only [Ty.den, Ty.dflt]
     repeat' apply And.intro
     all_goals first | omega | trivial | (rw [htd]; omega)
    refine xg hP 7 [] rfl ?_ ?_
    ·simp only [conj, List.nil_append, List.cons_append, List.append_nil, List.append_assoc, inR_i64, true_and, and_true, Int.toNat_natCast]
     try dsimp only [Ty.den, Ty.dflt]
     repeat' apply And.intro
     all_goals first | rfl | omega | assumption | trivial
    refine ⟨(i + 1, n / 2, come (List.getD wt i T_Put.dflt) u), ?_, ?_, ent_ok rfl ?_⟩
    ·exact ⟨hlt, by show n / 2 ≤ _; omega, hnx, come_ok hu⟩
    ·show wt.length - (i + 1) < wt.length - i
     omega
    ·simp [conj, comeD, dskOf, drvOf, htd]
   ·have hb : ¬ n % 2 = 1 := by have h : ¬ ((n : Nat) : Int).tmod 2 = 1 := of_decide_eq_false c4; omega
    have hnx := keep_no hlt hb hgo
    refine sw_skip (xg hP 5 [] rfl ?_ ?_)
    ·simp only [conj, List.nil_append, List.cons_append, List.append_nil, List.append_assoc, inR_i64, true_and, and_true, Int.toNat_natCast]
     try dsimp only [Ty.den, Ty.dflt]
     repeat' apply And.intro
     all_goals first | omega | trivial | (rw [htd]; omega)
    refine xg hP 6 [] rfl ?_ ?_
    ·simp only [conj, List.nil_append, List.cons_append, List.append_nil, List.append_assoc, inR_i64, true_and, and_true, Int.toNat_natCast]
     try dsimp only [Ty.den, Ty.dflt]
     repeat' apply And.intro
     all_goals first | rfl | omega | assumption | trivial
    refine ⟨(i + 1, n / 2, u), ?_, ?_, ent_ok rfl ?_⟩
    ·exact ⟨hlt, by show n / 2 ≤ _; omega, hnx, hu⟩
    ·show wt.length - (i + 1) < wt.length - i
     omega
    ·simp [conj, comeD, dskOf, drvOf, htd]
  ·obtain rfl : i = wt.length := by simp at c2; omega
   refine sw_exit (sw_seq (xr hP 4 rfl (sw_seq (xr hP 5 rfl (sw_ret ⟨.inl rfl, _, rfl, ?_⟩)))))
   have hv := keep_end hgo
   subst hv
   simp [conj, dskOf, drvOf]
end Go.Sx

namespace Go.Sx
open Go
set_option maxRecDepth 100000
set_option linter.unusedVariables false
set_option linter.unusedSimpArgs false
set_option maxHeartbeats 2000000
def cDOk : Ctr := ⟨121, [.val true T_Disk (.all .b)], fun _ => True, fun x => (sBool (rdV x.1), [])⟩
theorem cDOk_ok : CtrOk Proofs.Tryz.prog cDOk := by
 have hP := (Prg.none ttok mtok)
 refine ctr_of_body hP cDOk (fn := Proofs.Tryz.f121) (rts := [.tmp 2]) Proofs.Tryz.func121 rfl (by kernel_rfl) rfl rfl ?_
 rintro ⟨⟨(st : Int), (sl : List Str), (rg : List Str), (sp : List Bool), (wt : List Put)⟩, ⟨⟩⟩ _ _
 try dsimp only [Ty.den, Mode.den, mdens] at _
 refine ⟨rfl, ?_⟩
 by_cases h1 : rdV ((st, sl, rg, sp, wt) : Dsk) = true
 ·have hP := ((Prg.none ttok mtok).and cRead_ok)
  refine sw_seq (xr hP 1 rfl (sw_seq (xg hP 2 [] rfl ?_ ?_)))
  ·simp [conj, maxL]
   try dsimp only [Ty.den, Ty.dflt]
   try simp only [rd_eta]
   exact h1
  refine sw_seq (xr hP 3 rfl (sw_ret ⟨.inl rfl, _, rfl, ?_⟩))
  simp [conj, h1]
 ·have hP := ((Prg.none ttok mtok).and cReadB_ok)
  have h1b : rdV ((st, sl, rg, sp, wt) : Dsk) = false := by simpa using h1
  refine sw_seq (xr hP 1 rfl (sw_seq (xg hP 2 [] rfl ?_ ?_)))
  ·simp [conj, maxL]
   try dsimp only [Ty.den, Ty.dflt]
   try simp only [rd_eta]
   exact h1b
  refine sw_seq (xr hP 3 rfl (sw_ret ⟨.inl rfl, _, rfl, ?_⟩))
  simp [conj, h1b]
def cStr1 : Ctr := ⟨120, [.val true T_Disk (.all .b)], fun x => True, fun x => (sBool (noD x.1), [])⟩
theorem cStr1_ok : CtrOk Proofs.Tryz.prog cStr1 := by
 have hP := ((Prg.none ttok mtok).and cDOk_ok)
 refine ctr_of_body hP cStr1 (fn := Proofs.Tryz.f120) (rts := [.tmp 2]) Proofs.Tryz.func120 rfl (by kernel_rfl) rfl rfl ?_
 rintro ⟨⟨(st : Int), (sl : List Str), (rg : List Str), (sp : List Bool), (wt : List Put)⟩, ⟨⟩⟩ _ _
 try dsimp only [Ty.den, Mode.den, mdens] at _
 refine ⟨rfl, ?_⟩
 refine sw_seq (xr hP 1 rfl (sw_seq (xg hP 2 [] rfl ?_ ?_)))
 ·simp [conj, maxL]
  try dsimp only [Ty.den, Ty.dflt]
  try simp only [rd_eta]
  try trivial
 refine sw_ret ⟨.inl rfl, _, rfl, ?_⟩
 simp [conj, noD]
def cIdxD : Ctr := ⟨154, [.val false (.sl T_Disk) (.all .b), .clo 120 []], fun _ => True, fun x => (sInt .i64 (idxF noD x.1), [])⟩
theorem cIdxD_ok : CtrOk Proofs.Tryz.prog cIdxD := by
 have hP := ((Prg.none ttok mtok).and cStr1_ok)
 refine ctr_of_body hP cIdxD (fn := Proofs.Tryz.f154) (rts := [.tmp 4]) Proofs.Tryz.func154 rfl (by kernel_rfl) rfl rfl ?_
 rintro ⟨(l : List Dsk), ⟨⟩, ⟨⟩⟩ ⟨hdl, _⟩ hpre
 try dsimp only [Ty.den, Mode.den, mdens] at hpre
 refine ⟨rfl, ?_⟩
 have hml : l.length ≤ 140737488355328 := hdl.1
 refine sw_seq (xr hP 1 rfl (sw_seq (sw_seq (xr hP 2 rfl (sw_block (sw_loop (ι := Nat) (fun i => ⟨[.v false [.d (.sl T_Disk) (.all .b) l], .fn 120 [], .j, .j, .j, .j, .j, sInt .i64 (l.length : Int), sInt .i64 (i : Int), .j, .j, .j, .j, .j, .j, .j, .j, .j, .j], [], 2, []⟩) (fun i => l.length - i) (fun i => i ≤ l.length ∧ idxFGo noD (l.drop i) i = idxF noD l) 0 ⟨?_, ?_⟩ ?_))))))
 ·exact ⟨Nat.zero_le _, rfl⟩
 ·refine ent_ok rfl ?_
  first | trivial | (simp [conj]; done) | (simp [conj] at *; (try dsimp only [Ty.den, Ty.dflt] at *); omega)
 ·rintro i ⟨hi, hgo⟩
  refine sw_seq (xr hP 3 rfl (sw_seq (sw_cond rfl (fun c2 => ?_) (fun c2 => ?_))))
  ·have hlt : i < l.length := by simpa using c2
   refine sw_skip (sw_seq (sw_block (sw_seq (xr hP 4 rfl (sw_seq (xg hP 5 [] rfl ?_ ?_))))))
   ·simp [conj, maxL]
    try dsimp only [Ty.den, Ty.dflt]
    try simp only [rd_eta]
    repeat' apply And.intro
    all_goals first | assumption | omega | exact trivial
   refine sw_cond rfl (fun c4 => ?_) (fun c4 => ?_)
   ·replace c4 : noD l[i] = true := by simpa [gE hlt] using c4
    refine sw_seq (xr hP 6 rfl (sw_ret ⟨.inl rfl, _, rfl, ?_⟩))
    simp [conj, idxF_hit hlt hgo c4]
   ·replace c4 : noD l[i] = false := by simpa [gE hlt] using c4
    refine sw_skip (xr hP 6 rfl (⟨i + 1, ?_, ?_, ent_ok rfl ?_⟩))
    ·exact ⟨hlt, idxF_next hlt hgo c4⟩
    ·omega
    ·simp [conj, maxL]
     try dsimp only [Ty.den, Ty.dflt]
     try simp only [rd_eta]
     repeat' apply And.intro
     all_goals first | rfl | assumption | omega
  ·obtain rfl : i = l.length := by simp at c2; omega
   refine sw_exit (sw_seq (xr hP 4 rfl (sw_ret ⟨.inl rfl, _, rfl, ?_⟩)))
   simp [conj, idxF_end hgo]
def cContD : Ctr := ⟨119, [.val false (.sl T_Disk) (.all .b), .clo 120 []], fun _ => True, fun x => (sBool (List.any x.1 noD), [])⟩
theorem cContD_ok : CtrOk Proofs.Tryz.prog cContD := by
 have hP := ((Prg.none ttok mtok).and cIdxD_ok)
 refine ctr_of_body hP cContD (fn := Proofs.Tryz.f119) (rts := [.tmp 4]) Proofs.Tryz.func119 rfl (by kernel_rfl) rfl rfl ?_
 rintro ⟨(l : List Dsk), ⟨⟩, ⟨⟩⟩ _ hpre
 try dsimp only [Ty.den, Mode.den, mdens] at hpre
 refine ⟨rfl, ?_⟩
 refine sw_seq (xr hP 1 rfl (sw_seq (xr hP 2 rfl (sw_ret ⟨.inl rfl, _, rfl, ?_⟩))))
 simp [conj]
 exact idxF_any
def cStripeOk : Ctr := ⟨69, [.val false (.sl T_Disk) (.all .b)], fun x => True, fun x => (sBool (stripeV x.1), [])⟩
theorem cStripeOk_ok : CtrOk Proofs.Tryz.prog cStripeOk := by
 have hP := (((Prg.none ttok mtok).and cPool_ok).and cContD_ok)
 refine ctr_of_body hP cStripeOk (fn := Proofs.Tryz.f69) (rts := [.tmp 2]) Proofs.Tryz.func69 rfl (by kernel_rfl) rfl rfl ?_
 rintro ⟨(ds : List Dsk), ⟨⟩⟩ _ _
 try dsimp only [Ty.den, Mode.den, mdens] at _
 refine ⟨rfl, ?_⟩
 refine sw_seq (xr hP 1 rfl (sw_seq ?_))
 refine sw_dec hP 2 [] 3 rfl (fun g1_3 => ?_) (fun g1_3 => ?_)
 ·refine xg hP 2 [(3, true)] rfl ?_ ?_
  ·simp [conj, maxL]
   try dsimp only [Ty.den, Ty.dflt]
   try simp only [rd_eta]
   repeat' apply And.intro
   all_goals first | trivial | assumption
  refine sw_ret ⟨.inl rfl, _, rfl, ?_⟩
  simp [conj, stripeV, *]
 ·refine xg hP 2 [(3, false)] rfl ?_ ?_
  ·simp [conj, maxL]
   try dsimp only [Ty.den, Ty.dflt]
   try simp only [rd_eta]
   repeat' apply And.intro
   all_goals first | trivial | assumption
  refine sw_ret ⟨.inl rfl, _, rfl, ?_⟩
  simp [conj, stripeV, *]
def cStripeOkS : Ctr := ⟨66, [.val false (.sl T_Disk) (.all .b)], fun x => True, fun x => (sBool (stripeV x.1), [])⟩
theorem cStripeOkS_ok : CtrOk Proofs.Tryz.prog cStripeOkS := by
 have hP := (((Prg.none ttok mtok).and cDok_ok).and cDisks_ok)
 refine ctr_of_body hP cStripeOkS (fn := Proofs.Tryz.f66) (rts := [.tmp 2]) Proofs.Tryz.func66 rfl (by kernel_rfl) rfl rfl ?_
 rintro ⟨(ds : List Dsk), ⟨⟩⟩ ⟨hdl, _⟩ _
 try dsimp only [Ty.den, Mode.den, mdens] at _
 refine ⟨rfl, ?_⟩
 have hml : ds.length ≤ 140737488355328 := hdl.1
 refine sw_seq (xr hP 1 rfl (sw_seq (sw_seq (xr hP 2 rfl (sw_block (sw_loop (ι := Nat) (fun i => ⟨[.v false [.d (.sl T_Disk) (.all .b) ds], .j, .j, sInt .i64 (i : Int), .j, .j, .j, .j, .j, .j, .j, .j, .j, .j, .j, .j, .j, .j, .j], [], 2, []⟩) (fun i => ds.length - i) (fun i => i ≤ ds.length ∧ (ds.drop i).all rdV = ds.all rdV) 0 ⟨?_, ?_⟩ ?_))))))
 ·exact ⟨Nat.zero_le _, rfl⟩
 ·refine ent_ok rfl ?_
  simp [conj]
 ·rintro i ⟨hi, hgo⟩
  refine sw_seq (sw_seq (xr hP 3 rfl (sw_cond rfl (fun c2 => ?_) (fun c2 => ?_))))
  ·have hlt : i < ds.length := by simpa using c2
   refine sw_skip (sw_seq (sw_block (sw_seq (xg hP 4 [] rfl ?_ ?_))))
   ·simp [conj, gE hlt]
    repeat' apply And.intro
    all_goals first | omega | trivial
   refine sw_cond rfl (fun c4 => ?_) (fun c4 => ?_)
   ·replace c4 : rdV ds[i] = false := by simpa [gE hlt] using c4
    have hv := all_hit hlt hgo c4
    refine sw_seq (xr hP 5 rfl (sw_ret ⟨.inl rfl, _, rfl, ?_⟩))
    have hs : stripeV ds = false := by
      unfold stripeV
      rw [← all_any, hv]
      simp
    simp [conj, hs]
   ·replace c4 : rdV ds[i] = true := by simpa [gE hlt] using c4
    refine sw_skip (xr hP 5 rfl (⟨i + 1, ?_, ?_, ent_ok rfl ?_⟩))
    ·exact ⟨hlt, all_next hlt hgo c4⟩
    ·omega
    ·simp [conj]
  ·obtain rfl : i = ds.length := by simp at c2; omega
   have hv := all_end hgo
   refine sw_exit (sw_seq (xr hP 4 rfl (sw_ret ⟨.inl rfl, _, rfl, ?_⟩)))
   have hs : stripeV ds = poolV (ds.length : Int) := by
     unfold stripeV
     rw [← all_any, hv]
     simp
   simp [conj, hs]
end Go.Sx

namespace Go.Sx
open Go
set_option maxRecDepth 100000
set_option linter.unusedVariables false
set_option linter.unusedSimpArgs false
set_option maxHeartbeats 2000000
def cSumI : Ctr := ⟨45, [.val false .str pF], fun x => True, fun x => (sInt .i64 (weighV (List.take 9 x.1)), [])⟩
theorem cSumI_ok : CtrOk Proofs.Tryz.prog cSumI := by
 have hP := ((Prg.none ttok mtok).and cWeigh_ok)
 refine ctr_of_body hP cSumI (fn := Proofs.Tryz.f45) (rts := [.tmp 2]) Proofs.Tryz.func45 rfl (by kernel_rfl) rfl rfl ?_
 rintro ⟨(s : Str), ⟨⟩⟩ ⟨hds, _⟩ _
 try dsimp only [Ty.den, Mode.den, mdens] at _
 refine ⟨rfl, ?_⟩
 have hml : s.length ≤ 140737488355328 := hds
 obtain ⟨hv, h0, h1⟩ := sMin9 s
 have hk : (s.take 9).length ≤ 1000000 := by rw [List.length_take]; omega
 refine sw_seq (xr hP 1 rfl (sw_seq (xg hP 2 [] rfl ?_ ?_)))
 ·simp only [conj, List.append_nil]
  refine ⟨⟨h0, h1⟩, ?_⟩
  show (s.take (sMin (s.length : Int) 9).toNat).length ≤ 1000000
  rw [hv]
  exact hk
 refine sw_ret ⟨.inl rfl, _, rfl, ?_⟩
 simp [conj, hv]
def cAllC : Ctr := ⟨143, [.val false (.sl .str) (.all .b), .val false TI pF], fun x => True, fun x => (sBool (allC x.1 x.2.1), [])⟩
theorem cAllC_ok : CtrOk Proofs.Tryz.prog cAllC := by
 have hP := ((Prg.none ttok mtok).and cCol_ok)
 refine ctr_of_body hP cAllC (fn := Proofs.Tryz.f143) (rts := [.tmp 4]) Proofs.Tryz.func143 rfl (by kernel_rfl) rfl rfl ?_
 rintro ⟨(l : List Str), (n : Int), ⟨⟩⟩ ⟨hdl, _⟩ _
 try dsimp only [Ty.den, Mode.den, mdens] at _
 refine ⟨rfl, ?_⟩
 have hml : l.length ≤ 140737488355328 := hdl.1
 refine sw_seq (xr hP 1 rfl (sw_seq (sw_seq (xr hP 2 rfl (sw_block (sw_loop (ι := Nat) (fun i => ⟨[.j, .v false [.d TI pF n], .j, .j, .j, .j, .j, .v false [.d (.sl .str) (.all .b) l], sInt .i64 (l.length : Int), sInt .i64 (i : Int), .j, .j, .j, .j, .j, .j, .j, .j, .j, .j, .j, .j, .j], [], 2, []⟩) (fun i => l.length - i) (fun i => i ≤ l.length ∧ allGo n i (l.drop i) = allC l n) 0 ⟨?_, ?_⟩ ?_))))))
 ·exact ⟨Nat.zero_le _, rfl⟩
 ·refine ent_ok rfl ?_
  simp [conj]
 ·rintro i ⟨hi, hgo⟩
  refine sw_seq (xr hP 3 rfl (sw_seq (sw_cond rfl (fun c2 => ?_) (fun c2 => ?_))))
  ·have hlt : i < l.length := by simpa using c2
   have hgo2 := hgo
   rw [drop_at hlt] at hgo2
   simp only [allGo] at hgo2
   refine sw_skip (sw_seq (sw_block (sw_seq (xg hP 4 [] rfl ?_ ?_))))
   ·simp [conj, gE hlt]
    repeat' apply And.intro
    all_goals first | omega | trivial
   refine sw_seq ?_
   refine sw_dec hP 5 [] 3 rfl (fun g4_3 => ?_) (fun g4_3 => ?_)
   ·have k3 : ¬ (i : Int) = n := by simpa using g4_3
    refine xd hP 5 [(3, true)] rfl (sw_cond rfl (fun c4 => ?_) (fun c4 => ?_))
    ·have k4 : ¬ l[i].length = 3 := by simpa [gE hlt] using c4
     have hv : allC l n = false := by rw [← hgo2]; simp [k3, k4]
     refine sw_seq (xr hP 6 rfl (sw_ret ⟨.inl rfl, _, rfl, ?_⟩))
     simp [conj, hv]
    ·have k4 : l[i].length = 3 := by simpa [gE hlt] using c4
     replace hgo2 : allGo n (i + 1) (l.drop (i + 1)) = allC l n := by simpa [k4] using hgo2
     refine sw_skip (xr hP 6 rfl (⟨i + 1, ?_, ?_, ent_ok rfl ?_⟩))
     ·exact ⟨hlt, hgo2⟩
     ·omega
     ·simp [conj]
   ·have k3 : (i : Int) = n := by simpa using g4_3
    replace hgo2 : allGo n (i + 1) (l.drop (i + 1)) = allC l n := by simpa [k3] using hgo2
    refine xd hP 5 [(3, false)] rfl (sw_condF rfl (sw_skip (xr hP 6 rfl (⟨i + 1, ?_, ?_, ent_ok rfl ?_⟩))))
    ·exact ⟨hlt, hgo2⟩
    ·omega
    ·simp [conj]
  ·obtain rfl : i = l.length := by simp at c2; omega
   rw [List.drop_length] at hgo
   have hv : allC l n = true := hgo.symm
   refine sw_exit (sw_seq (xr hP 4 rfl (sw_ret ⟨.inl rfl, _, rfl, ?_⟩)))
   simp [conj, hv]
def cColsI : Ctr := ⟨89, [.val false .str pF], fun x => 1 ≤ List.length x.1 ∧ List.length x.1 ≤ 9, fun x => (.v false [.own ⟨1, 0, 0⟩], [(⟨1, 0, 0⟩, .sl .str (.all .w) (colT x.1))])⟩
theorem cColsI_ok : CtrOk Proofs.Tryz.prog cColsI := by
 have hP := (((Prg.none ttok mtok).and cCols_ok).and cRep_ok)
 refine ctr_of_body hP cColsI (fn := Proofs.Tryz.f89) (rts := [.tmp 2]) Proofs.Tryz.func89 rfl (by kernel_rfl) rfl rfl ?_
 rintro ⟨(s : Str), ⟨⟩⟩ _ ⟨h1, h9⟩
 try dsimp only [Ty.den, Mode.den, mdens] at h1
 try dsimp only [Ty.den, Mode.den, mdens] at h9
 refine ⟨rfl, ?_⟩
 replace h1 : 1 ≤ s.length := h1
 replace h9 : s.length ≤ 9 := h9
 have hm := colsV_nat s.length
 obtain ⟨m, hmd⟩ : ∃ m, m = (s.length + 2) / 3 := ⟨_, rfl⟩
 rw [← hmd] at hm
 have hcl := colT_len s
 rw [← hmd] at hcl
 have hpl : (s ++ List.replicate (m * 3 - s.length) 0).length = m * 3 := by rw [List.length_append, List.length_replicate]; omega
 have hrp : ((m : Int) * 3 - (s.length : Int)).toNat = m * 3 - s.length := by omega
 have hzr : [0].getD 0 (0 : UInt8) = 0 := rfl
 refine sw_seq (xr hP 1 rfl (sw_seq (sw_seq ?_)))
 refine sw_dec hP 2 [] 2 rfl (fun g1_2 => ?_) (fun g1_2 => ?_)
 ·have h : s = [] := of_decide_eq_true g1_2
  rw [h] at h1
  simp at h1
 ·refine xd hP 2 [(2, false)] rfl (sw_cond rfl (fun c1 => ?_) (fun c1 => ?_))
  ·have h : (9 : Int) < (s.length : Int) := of_decide_eq_true c1
   omega
  ·refine sw_skip (sw_seq (xg hP 3 [] rfl ?_ ?_))
   ·exact ⟨by show (0 : Int) ≤ (s.length : Int); omega, by show (s.length : Int) ≤ 1000000; omega⟩
   refine sw_seq (xg hP 4 [] rfl ?_ ?_)
   ·simp [conj, hm, hrp, maxL]
    repeat' apply And.intro
    all_goals first | omega | trivial | (show (0 : Int) ≤ (m : Int) * 3 - (s.length : Int); omega) | (show (m : Int) * 3 - (s.length : Int) ≤ 2; omega)
   refine sw_seq (xr hP 5 rfl (sw_seq (sw_seq (xr hP 6 rfl (sw_block (sw_loop (ι := Nat) (fun i => ⟨[.j, .j, .j, .j, .v false [.d .str pF (s ++ List.replicate (m * 3 - s.length) 0)], .v false [.own ⟨0, 9, 0⟩], .j, .j, .j, .j, .j, .j, .j, .j, .j, .j, .j, .j, .j, .j, .j, .j, .j, .j, .j, sInt .i64 (m : Int), sInt .i64 (i : Int), .j, .j, .j, .j, .j, .j, .j, .j, .j, .j, .j, .j, .j, .j], [(⟨0, 9, 0⟩, .sl .str (.all .w) ((colT s).take i))], 6, []⟩) (fun i => m - i) (fun i => i ≤ m) 0 ⟨?_, ?_⟩ ?_))))))
   ·exact Nat.zero_le _
   ·refine ent_ok rfl ?_
    simp [conj]
    exact ⟨hm, by rw [hm]; omega, Or.inr rfl⟩
   ·rintro i hi
    refine sw_seq (xr hP 7 rfl (sw_seq (sw_cond rfl (fun c7 => ?_) (fun c7 => ?_))))
    ·have hlt : i < m := by simpa using c7
     have hnx := colT_next hmd hlt h9
     refine sw_skip (sw_seq (sw_block (sw_seq (xr hP 8 rfl (xg hP 9 [] rfl ?_ ?_)))))
     ·simp [conj, hpl, maxL]
      repeat' apply And.intro
      all_goals first | omega | trivial
     refine xr hP 10 rfl (⟨i + 1, ?_, ?_, ent_ok rfl ?_⟩)
     ·exact hlt
     ·omega
     ·simp [conj]
      rw [show ((i : Int) * 3).toNat = i * 3 by omega, show (((i : Int) + 1) * 3).toNat = (i + 1) * 3 by omega]
      exact hnx
    ·obtain rfl : i = m := by have h : ¬ (i : Int) < (m : Int) := of_decide_eq_false c7; omega
     refine sw_exit (sw_seq (xr hP 8 rfl (sw_ret ⟨.inl rfl, _, rfl, ?_⟩)))
     simp [conj, ← hcl]
def cParI : Ctr := ⟨90, [.val false (.sl .str) (.all .b)], fun x => (1 ≤ List.length x.1 ∧ List.length x.1 ≤ 3) ∧ ∀ c ∈ x.1, List.length c = 3, fun x => (sStr (parT x.1), [])⟩
theorem cParI_ok : CtrOk Proofs.Tryz.prog cParI := by
 have hP := (((Prg.none ttok mtok).and cAllC_ok).and cXor_ok)
 refine ctr_of_body hP cParI (fn := Proofs.Tryz.f90) (rts := [.tmp 2]) Proofs.Tryz.func90 rfl (by kernel_rfl) rfl rfl ?_
 rintro ⟨(l : List Str), ⟨⟩⟩ _ ⟨⟨h1, h3⟩, hc⟩
 try dsimp only [Ty.den, Mode.den, mdens] at h1
 try dsimp only [Ty.den, Mode.den, mdens] at h3
 try dsimp only [Ty.den, Mode.den, mdens] at hc
 refine ⟨rfl, ?_⟩
 replace h1 : 1 ≤ l.length := h1
 replace h3 : l.length ≤ 3 := h3
 replace hc : ∀ c ∈ l, List.length c = 3 := hc
 have hal := allGo_neg hc (i := 0)
 have hv : l.foldl xorV [] = parT l := parI_eq hc (fun e => by rw [e] at h1; simp at h1)
 refine sw_seq (xr hP 1 rfl (sw_seq (sw_seq ?_)))
 refine sw_dec hP 2 [] 3 rfl (fun g1_3 => ?_) (fun g1_3 => ?_)
 ·have h : (l.length : Int) < 1 := of_decide_eq_true g1_3
  omega
 ·refine sw_dec hP 2 [(3, false)] 8 rfl (fun g1_8 => ?_) (fun g1_8 => ?_)
  ·have h : (3 : Int) < (l.length : Int) := of_decide_eq_true g1_8
   omega
  ·refine xd hP 2 [(3, false), (8, false)] rfl (sw_cond rfl (fun c1 => ?_) (fun c1 => ?_))
   ·have h : (!allC l (-1)) = true := c1
    unfold allC at h
    rw [hal] at h
    cases h
   ·refine sw_skip (sw_seq (xr hP 3 rfl (sw_seq (sw_seq (xr hP 4 rfl (sw_block (sw_loop (ι := Nat × Str) (fun ⟨i, z⟩ => ⟨[.j, .j, .j, .v false [.d .str pF z], .j, .j, .j, .j, .j, .j, .j, .j, .j, .j, .j, .j, .j, .j, .j, .v false [.d (.sl .str) (.all .b) l], sInt .i64 (l.length : Int), sInt .i64 (i : Int), .j, .j, .j, .j, .j, .j, .j, .j], [], 4, []⟩) (fun ⟨i, z⟩ => l.length - i) (fun ⟨i, z⟩ => i ≤ l.length ∧ (l.drop i).foldl xorV z = parT l ∧ z.length ≤ 3) (0, []) ⟨?_, ?_⟩ ?_)))))))
    ·exact ⟨Nat.zero_le _, hv, by decide⟩
    ·refine ent_ok rfl ?_
     simp [conj]
     rfl
    ·rintro ⟨i, z⟩ ⟨hi, hgo, hz⟩
     refine sw_seq (xr hP 5 rfl (sw_seq (sw_cond rfl (fun c5 => ?_) (fun c5 => ?_))))
     ·have hlt : i < l.length := by simpa using c5
      have hc3 : l[i].length = 3 := hc _ (List.getElem_mem hlt)
      have hgo2 := hgo
      rw [drop_at hlt] at hgo2
      simp only [List.foldl_cons] at hgo2
      refine sw_skip (sw_seq (sw_block (sw_seq (xg hP 6 [] rfl ?_ ?_))))
      ·simp [conj, gE hlt]
       repeat' apply And.intro
       all_goals first | omega | trivial
      refine xg hP 7 [] rfl ?_ ?_
      ·simp [conj, gE hlt]
       exact ⟨by show z.length ≤ 1000; omega, by show l[i].length ≤ 1000; omega⟩
      refine xr hP 8 rfl (⟨(i + 1, xorV z l[i]), ?_, ?_, ent_ok rfl ?_⟩)
      ·exact ⟨hlt, hgo2, by rw [xorV_len]; omega⟩
      ·show l.length - (i + 1) < l.length - i
       omega
      ·simp [conj, gE hlt]
     ·obtain rfl : i = l.length := by simp at c5; omega
      rw [List.drop_length] at hgo
      replace hgo : z = parT l := hgo
      refine sw_exit (sw_seq (xr hP 6 rfl (sw_ret ⟨.inl rfl, _, rfl, ?_⟩)))
      simp [conj, hgo]
def cStrip : Ctr := ⟨47, [.val false .str pF], fun x => 1 ≤ List.length x.1 ∧ List.length x.1 ≤ 9, fun x => (.v false [.own ⟨1, 0, 0⟩], [(⟨1, 0, 0⟩, .sl .str (.all .w) (stripT x.1))])⟩
theorem cStrip_ok : CtrOk Proofs.Tryz.prog cStrip := by
 have hP := (((Prg.none ttok mtok).and cColsI_ok).and cParI_ok)
 refine ctr_of_body hP cStrip (fn := Proofs.Tryz.f47) (rts := [.tmp 2]) Proofs.Tryz.func47 rfl (by kernel_rfl) rfl rfl ?_
 rintro ⟨(s : Str), ⟨⟩⟩ _ ⟨h1, h9⟩
 try dsimp only [Ty.den, Mode.den, mdens] at h1
 try dsimp only [Ty.den, Mode.den, mdens] at h9
 refine ⟨rfl, ?_⟩
 replace h1 : 1 ≤ s.length := h1
 replace h9 : s.length ≤ 9 := h9
 have hcl := colT_len s
 have hct : colsT s = colT s := if_pos ⟨h1, h9⟩
 refine sw_seq (xr hP 1 rfl (sw_seq (xg hP 2 [] rfl ?_ ?_)))
 ·exact ⟨h1, h9⟩
 refine sw_seq (xg hP 3 [] rfl ?_ ?_)
 ·simp [conj, maxL]
  repeat' apply And.intro
  all_goals first | omega | trivial | (show 1 ≤ (colT s).length; omega) | (show (colT s).length ≤ 3; omega) | exact fun c hc => colT_3 hc
 refine sw_ret ⟨.inl rfl, _, rfl, ?_⟩
 simp [conj, stripT, hct]
def cClonePt : Ctr := ⟨165, [.val false (.sl T_Put) (.all .b)], fun x => List.length x.1 ≤ 1099511627776, fun x => (.v false [.own ⟨1, 0, 0⟩], [(⟨1, 0, 0⟩, .sl T_Put (.all .w) x.1)])⟩
theorem cClonePt_ok : CtrOk Proofs.Tryz.prog cClonePt := by
 have hP := (Prg.none ttok mtok)
 refine ctr_of_body hP cClonePt (fn := Proofs.Tryz.f165) (rts := [.tmp 2]) Proofs.Tryz.func165 rfl (by kernel_rfl) rfl rfl ?_
 rintro ⟨(l : List Put), ⟨⟩⟩ ⟨hdl, _⟩ hpre
 try dsimp only [Ty.den, Mode.den, mdens] at hpre
 refine ⟨rfl, ?_⟩
 have hml : l.length ≤ 1099511627776 := hpre
 refine sw_seq (xr hP 1 rfl (sw_seq (sw_seq (xr hP 2 rfl (sw_condA rfl (fun c1 => ?_) ?_)))))
 ·obtain rfl : l = [] := List.eq_nil_of_length_eq_zero c1
  refine sw_seq (xr hP 3 rfl (sw_ret ⟨.inl rfl, _, rfl, ?_⟩))
  first | trivial | (simp [conj]; done) | (simp [conj] at *; (try dsimp only [Ty.den, Ty.dflt] at *); omega)
 ·refine sw_skip (sw_seq (xg hP 3 [] rfl ?_ ?_))
  ·simp [conj, maxL]
   try dsimp only [Ty.den, Ty.dflt]
   try simp only [rd_eta]
   omega
  refine sw_ret ⟨.inl rfl, _, rfl, ?_⟩
  first | trivial | (simp [conj]; done) | (simp [conj] at *; (try dsimp only [Ty.den, Ty.dflt] at *); omega)
def cCopyDI : Ctr := ⟨139, [.val true T_Disk (.all .b)], fun x => SmallD x.1, fun x => (.v true [.d TI pF (x.1).1, .own ⟨1, 0, 0⟩, .own ⟨1, 1, 0⟩, .own ⟨1, 2, 0⟩, .own ⟨1, 3, 0⟩], [(⟨1, 0, 0⟩, .sl .str (.all .w) (x.1).2.1), (⟨1, 1, 0⟩, .sl .str (.all .w) (x.1).2.2.1), (⟨1, 2, 0⟩, .sl .bool (.all .w) (x.1).2.2.2.1), (⟨1, 3, 0⟩, .sl T_Put (.all .w) (x.1).2.2.2.2)])⟩
theorem cCopyDI_ok : CtrOk Proofs.Tryz.prog cCopyDI := by
 have hP := ((((Prg.none ttok mtok).and cCloneO_ok).and cCloneB_ok).and cClonePt_ok)
 refine ctr_of_body hP cCopyDI (fn := Proofs.Tryz.f139) (rts := [.cell 2 38]) Proofs.Tryz.func139 rfl (by kernel_rfl) rfl rfl ?_
 rintro ⟨⟨(st : Int), (sl : List Str), (rg : List Str), (sp : List Bool), (wt : List Put)⟩, ⟨⟩⟩ _ ⟨h1, h2, h3, h4⟩
 try dsimp only [Ty.den, Mode.den, mdens] at h1
 try dsimp only [Ty.den, Mode.den, mdens] at h2
 try dsimp only [Ty.den, Mode.den, mdens] at h3
 try dsimp only [Ty.den, Mode.den, mdens] at h4
 refine ⟨rfl, ?_⟩
 refine sw_seq (xr hP 1 rfl (sw_seq (xg hP 2 [] rfl ?_ ?_)))
 ·simp [conj, maxL]
  repeat' apply And.intro
  all_goals first | omega | trivial | (show sl.length ≤ 1099511627776; omega) | (show rg.length ≤ 1099511627776; omega) | (show sp.length ≤ 1099511627776; omega) | (show wt.length ≤ 1099511627776; omega)
 refine sw_ret ⟨.inl rfl, _, rfl, ?_⟩
 simp [conj]
def cCopyDs : Ctr := ⟨87, [.val false (.sl T_Disk) (.all .b)], fun x => List.length x.1 ≤ 1000 ∧ ∀ d ∈ x.1, SmallD d, fun x => (.v false [.own ⟨1, 0, 0⟩], [(⟨1, 0, 0⟩, .sl T_Disk (.all .w) x.1)])⟩
theorem cCopyDs_ok : CtrOk Proofs.Tryz.prog cCopyDs := by
 have hP := ((Prg.none ttok mtok).and cCopyDI_ok)
 refine ctr_of_body hP cCopyDs (fn := Proofs.Tryz.f87) (rts := [.tmp 2]) Proofs.Tryz.func87 rfl (by kernel_rfl) rfl rfl ?_
 rintro ⟨(ds : List Dsk), ⟨⟩⟩ _ ⟨hml, hsm⟩
 try dsimp only [Ty.den, Mode.den, mdens] at hml
 try dsimp only [Ty.den, Mode.den, mdens] at hsm
 refine ⟨rfl, ?_⟩
 replace hml : ds.length ≤ 1000 := hml
 replace hsm : ∀ d ∈ ds, SmallD d := hsm
 refine sw_seq (xr hP 1 rfl (sw_seq (xr hP 2 rfl (sw_seq (sw_seq (xr hP 3 rfl (sw_block (sw_loop (ι := Nat) (fun i => ⟨[.j, .j, .j, .v false [.own ⟨0, 9, 0⟩], .j, .j, .v false [.d (.sl T_Disk) (.all .b) ds], sInt .i64 (ds.length : Int), sInt .i64 (i : Int), .j, .j, .j, .j, .j, .j, .j, .j, .j, .j], [(⟨0, 9, 0⟩, .sl T_Disk (.all .w) (ds.take i))], 3, []⟩) (fun i => ds.length - i) (fun i => i ≤ ds.length) 0 ⟨?_, ?_⟩ ?_))))))))
 ·exact Nat.zero_le _
 ·refine ent_ok rfl ?_
  simp [conj]
 ·rintro i hi
  refine sw_seq (xr hP 4 rfl (sw_seq (sw_cond rfl (fun c3 => ?_) (fun c3 => ?_))))
  ·have hlt : i < ds.length := by simpa using c3
   have hs1 := hsm _ (List.getElem_mem hlt)
   have hnx := List.take_succ_eq_append_getElem hlt
   refine sw_skip (sw_seq (sw_block (sw_seq (xg hP 5 [] rfl ?_ ?_))))
   ·simp [conj, gE hlt]
    repeat' apply And.intro
    all_goals first | omega | trivial
   refine xg hP 6 [] rfl ?_ ?_
   ·simp [conj, maxL, gE hlt]
    repeat' apply And.intro
    all_goals first | omega | trivial | exact hs1.1 | exact hs1.2.1 | exact hs1.2.2.1 | exact hs1.2.2.2
   refine xr hP 7 rfl (⟨i + 1, ?_, ?_, ent_ok rfl ?_⟩)
   ·exact hlt
   ·omega
   ·simp [conj, gE hlt]
    exact hnx.symm
  ·obtain rfl : i = ds.length := by simp at c3; omega
   refine sw_exit (sw_seq (xr hP 5 rfl (sw_ret ⟨.inl rfl, _, rfl, ?_⟩)))
   simp [conj]
def cPut1 : Ctr := ⟨48, [.val false TI pF], fun x => True, fun x => (sBool true, [])⟩
theorem cPut1_ok : CtrOk Proofs.Tryz.prog cPut1 := by
 have hP := (Prg.none ttok mtok)
 refine ctr_of_body hP cPut1 (fn := Proofs.Tryz.f48) (rts := [.tmp 2]) Proofs.Tryz.func48 rfl (by kernel_rfl) rfl rfl ?_
 rintro ⟨(n : Int), ⟨⟩⟩ _ _
 try dsimp only [Ty.den, Mode.den, mdens] at _
 refine ⟨rfl, ?_⟩
 refine sw_seq (xr hP 1 rfl (sw_seq (xr hP 2 rfl (sw_ret ⟨.inl rfl, _, rfl, ?_⟩))))
 simp [conj]
def cWrI : Ctr := ⟨46, [.val false (.sl T_Disk) (.all .b), .val false (.sl T_Place) (.all .b), .val false (.sl .str) (.all .b), .clo 48 []], fun x => (stripeV x.1 = true ∧ (∀ a ∈ x.2.1, placeV (List.length x.1 : Int) a = true)) ∧ (List.length x.2.1 = List.length x.2.2.1 ∧ List.length x.2.1 ≤ 4) ∧ ∀ c ∈ x.2.2.1, List.length c = 3, fun x => (.v false [.own ⟨1, 0, 0⟩], [(⟨1, 0, 0⟩, .sl T_Disk (.all .w) (wrN x.2.2.1 x.2.1 (List.length x.2.1) x.1))])⟩
theorem cWrI_ok : CtrOk Proofs.Tryz.prog cWrI := by
 have hP := ((((Prg.none ttok mtok).and cCopyDs_ok).and cPut1_ok).and cDPut_ok)
 refine ctr_of_body hP cWrI (fn := Proofs.Tryz.f46) (rts := [.tmp 8]) Proofs.Tryz.func46 rfl (by kernel_rfl) rfl rfl ?_
 rintro ⟨(ds : List Dsk), (pl : List Plc), (cs : List Str), ⟨⟩, ⟨⟩⟩ _ ⟨⟨hs, hpl⟩, ⟨hlen, h4⟩, hcs⟩
 try dsimp only [Ty.den, Mode.den, mdens] at hs
 try dsimp only [Ty.den, Mode.den, mdens] at hpl
 try dsimp only [Ty.den, Mode.den, mdens] at hlen
 try dsimp only [Ty.den, Mode.den, mdens] at h4
 try dsimp only [Ty.den, Mode.den, mdens] at hcs
 refine ⟨rfl, ?_⟩
 replace hs : stripeV ds = true := hs
 replace hpl : ∀ a ∈ pl, placeV (ds.length : Int) a = true := hpl
 replace hlen : pl.length = cs.length := hlen
 replace h4 : pl.length ≤ 4 := h4
 replace hcs : ∀ c ∈ cs, List.length c = 3 := hcs
 have hml := stripe_len hs
 have hsm : ∀ d ∈ ds, SmallD d := fun d hd => rd_small (stripe_all hs d hd)
 refine sw_seq (xr hP 1 rfl (sw_seq (xg hP 2 [] rfl ?_ ?_)))
 ·exact ⟨by show ds.length ≤ 1000; omega, hsm⟩
 refine sw_seq (sw_seq (xr hP 3 rfl (sw_block (sw_loop (ι := Nat) (fun i => ⟨[.j, .j, .v false [.d (.sl .str) (.all .b) cs], .fn 48 [], .j, .j, .j, .j, .j, .v false [.own ⟨0, 9, 0⟩], .j, .j, .j, .j, .v false [.d (.sl T_Place) (.all .b) pl], sInt .i64 (pl.length : Int), sInt .i64 (i : Int), .j, .j, .j, .j, .j, .j, .j, .j, .j, .j, .j, .j, .j, .j, .j, .j, .j, .j, .j, .j, .j, .j, .j, .j, .j, .j], [(⟨0, 9, 0⟩, .sl T_Disk (.all .w) (wrN cs pl i ds))], 3, []⟩) (fun i => pl.length - i) (fun i => i ≤ pl.length) 0 ⟨?_, ?_⟩ ?_))))
 ·exact Nat.zero_le _
 ·refine ent_ok rfl ?_
  simp [conj, wrN]
 ·rintro i hi
  refine sw_seq (xr hP 4 rfl (sw_seq (sw_cond rfl (fun c3 => ?_) (fun c3 => ?_))))
  ·have hlt : i < pl.length := by simpa using c3
   have hlc : i < cs.length := by omega
   obtain ⟨⟨w0, w1, w2⟩, w3, w4, w5, w6, w7⟩ := wr_step hs hpl hlen hcs hlt
   have hwl := wrN_len cs pl ds i
   refine sw_skip (sw_seq (sw_block (sw_seq (xg hP 5 [] rfl ?_ ?_))))
   ·simp [conj, gE hlt]
    repeat' apply And.intro
    all_goals first | omega | trivial
   refine sw_seq (xr hP 6 rfl (sw_cond rfl (fun c5 => ?_) (fun c5 => ?_)))
   ·refine xg hP 7 [] rfl ?_ ?_
    ·simp [conj, maxL, gE hlt, gE hlc]
     repeat' apply And.intro
     all_goals first | omega | trivial
    refine xr hP 8 rfl (⟨i + 1, ?_, ?_, ent_ok rfl ?_⟩)
    ·exact hlt
    ·omega
    ·simp [conj, gE hlt]
     exact w7
   ·cases c5
  ·obtain rfl : i = pl.length := by simp at c3; omega
   refine sw_exit (sw_seq (xr hP 5 rfl (sw_ret ⟨.inl rfl, _, rfl, ?_⟩)))
   simp [conj]
def cUse : Ctr := ⟨44, [.val false (.sl T_Disk) (.all .b), .val true T_Ptr (.all .b)], fun x => True, fun x => (sBool (usableV x.1 x.2.1), [])⟩
theorem cUse_ok : CtrOk Proofs.Tryz.prog cUse := by
 have hP := ((((Prg.none ttok mtok).and cStripeOk_ok).and cNone_ok).and cPtrOk_ok)
 refine ctr_of_body hP cUse (fn := Proofs.Tryz.f44) (rts := [.tmp 4]) Proofs.Tryz.func44 rfl (by kernel_rfl) rfl rfl ?_
 rintro ⟨(ds : List Dsk), ⟨(sz : Int), (sm : Int), (pl : List Plc)⟩, ⟨⟩⟩ _ _
 try dsimp only [Ty.den, Mode.den, mdens] at _
 refine ⟨rfl, ?_⟩
 refine sw_seq (xr hP 1 rfl (sw_seq ?_))
 refine sw_dec hP 2 [] 2 rfl (fun g1_2 => ?_) (fun g1_2 => ?_)
 ·replace g1_2 : stripeV ds = true := g1_2
  refine sw_dec hP 2 [(2, true)] 7 rfl (fun g1_7 => ?_) (fun g1_7 => ?_)
  ·replace g1_7 : noneV ((sz, sm, pl) : Ptr_) = false := by have h : (!noneV ((sz, sm, pl) : Ptr_)) = true := g1_7; simpa using h
   refine xg hP 2 [(2, true), (7, true)] rfl ?_ ?_
   ·simp [conj, maxL]
    try dsimp only [Ty.den, Ty.dflt]
    try simp only [rd_eta]
    repeat' apply And.intro
    all_goals first | trivial | assumption
   refine sw_ret ⟨.inl rfl, _, rfl, ?_⟩
   simp [conj, usableV, *]
  ·replace g1_7 : noneV ((sz, sm, pl) : Ptr_) = true := by have h : (!noneV ((sz, sm, pl) : Ptr_)) = false := g1_7; simpa using h
   refine xg hP 2 [(2, true), (7, false)] rfl ?_ ?_
   ·simp [conj, maxL]
    try dsimp only [Ty.den, Ty.dflt]
    try simp only [rd_eta]
    repeat' apply And.intro
    all_goals first | trivial | assumption
   refine sw_ret ⟨.inl rfl, _, rfl, ?_⟩
   simp [conj, usableV, *]
 ·replace g1_2 : stripeV ds = false := g1_2
  refine xg hP 2 [(2, false)] rfl ?_ ?_
  ·simp [conj, maxL]
   try dsimp only [Ty.den, Ty.dflt]
   try simp only [rd_eta]
   repeat' apply And.intro
   all_goals first | trivial | assumption
  refine sw_ret ⟨.inl rfl, _, rfl, ?_⟩
  simp [conj, usableV, *]
def cSPutI : Ctr := ⟨8, [.val false (.sl T_Disk) (.all .b), .val true T_Ptr (.all .b), .val false .str pF], fun x => True, fun x => (.tup [(false, [.own ⟨1, 0, 0⟩]), (false, [.d .bool pF (sputV x.1 x.2.1 x.2.2.1).2])], [(⟨1, 0, 0⟩, .sl T_Disk (.all .w) (sputV x.1 x.2.1 x.2.2.1).1)])⟩
theorem cSPutI_ok : CtrOk Proofs.Tryz.prog cSPutI := by
 have hP := (((((Prg.none ttok mtok).and cUse_ok).and cSumI_ok).and cStrip_ok).and cWrI_ok)
 refine ctr_of_body hP cSPutI (fn := Proofs.Tryz.f8) (rts := [.tmp 6, .tmp 7]) Proofs.Tryz.func8 rfl (by kernel_rfl) rfl rfl ?_
 rintro ⟨(ds : List Dsk), ⟨(sz : Int), (sm : Int), (pl : List Plc)⟩, (t : Str), ⟨⟩⟩ _ _
 try dsimp only [Ty.den, Mode.den, mdens] at _
 refine ⟨rfl, ?_⟩
 refine sw_seq (xr hP 1 rfl (sw_seq (sw_seq ?_)))
 refine sw_dec hP 2 [] 4 rfl (fun g1_4 => ?_) (fun g1_4 => ?_)
 ·have hu : ¬ usableV ds ((sz, sm, pl) : Ptr_) = true := by have h : (!usableV ds ((sz, sm, pl) : Ptr_)) = true := g1_4; simpa using h
  have hu0 : usableV ds ((sz, sm, pl) : Ptr_) = false := by simpa using hu
  have hv : sputV ds ((sz, sm, pl) : Ptr_) t = ([], false) := if_neg fun h => hu h.1
  refine xg hP 2 [(4, true)] rfl ?_ ?_
  ·simp [conj, maxL]
   try dsimp only [Ty.den, Ty.dflt]
   try simp only [rd_eta]
   repeat' apply And.intro
   all_goals first | trivial | assumption
  refine sw_condT rfl (sw_seq (xr hP 3 rfl (sw_ret ⟨.inl rfl, _, rfl, ?_⟩)))
  rw [hv]
  simp [conj]
 ·have hu : usableV ds ((sz, sm, pl) : Ptr_) = true := by have h : (!usableV ds ((sz, sm, pl) : Ptr_)) = false := g1_4; simpa using h
  refine sw_dec hP 2 [(4, false)] 11 rfl (fun g1_11 => ?_) (fun g1_11 => ?_)
  ·have k1 : ¬ (t.length : Int) = sz := by have h : (!decide ((t.length : Int) = sz)) = true := g1_11; simpa using h
   have hv : sputV ds ((sz, sm, pl) : Ptr_) t = ([], false) := if_neg fun h => k1 h.2.1
   refine xg hP 2 [(4, false), (11, true)] rfl ?_ ?_
   ·simp [conj, maxL]
    try dsimp only [Ty.den, Ty.dflt]
    try simp only [rd_eta]
    repeat' apply And.intro
    all_goals first | trivial | assumption
   refine sw_condT rfl (sw_seq (xr hP 3 rfl (sw_ret ⟨.inl rfl, _, rfl, ?_⟩)))
   rw [hv]
   simp [conj]
  ·have k1 : (t.length : Int) = sz := by have h : (!decide ((t.length : Int) = sz)) = false := g1_11; simpa using h
   refine xg hP 2 [(4, false), (11, false)] rfl ?_ ?_
   ·simp [conj, maxL]
    try dsimp only [Ty.den, Ty.dflt]
    try simp only [rd_eta]
    repeat' apply And.intro
    all_goals first | trivial | assumption
   refine sw_cond rfl (fun c1 => ?_) (fun c1 => ?_)
   ·have k2 : ¬ weighV (t.take 9) = sm := by have h : (!decide (weighV (t.take 9) = sm)) = true := c1; simpa using h
    have hv : sputV ds ((sz, sm, pl) : Ptr_) t = ([], false) := if_neg fun h => k2 h.2.2
    refine sw_seq (xr hP 3 rfl (sw_ret ⟨.inl rfl, _, rfl, ?_⟩))
    rw [hv]
    simp [conj]
   ·have k2 : weighV (t.take 9) = sm := by have h : (!decide (weighV (t.take 9) = sm)) = false := c1; simpa using h
    have hv : sputV ds ((sz, sm, pl) : Ptr_) t = (wrN (stripT t) pl pl.length ds, true) := if_pos ⟨hu, k1, k2⟩
    obtain ⟨u1, u2, u3, u4, u5, u6⟩ := usable_parts hu
    dsimp only at u3 u4 u5 u6
    obtain ⟨y1, y2, y3⟩ := strip_places hu k1
    dsimp only at y1
    have u7 : pl.length ≤ 4 := by omega
    refine sw_skip (sw_seq (xg hP 3 [] rfl ?_ ?_))
    ·simp [conj]
     repeat' apply And.intro
     all_goals first | omega | trivial | exact u1 | exact u6 | (show pl.length = (stripT t).length; omega) | (show 1 ≤ t.length; omega) | (show t.length ≤ 9; omega) | exact fun c hc => stripT_3 hc | exact u7
    refine sw_ret ⟨.inl rfl, _, rfl, ?_⟩
    rw [hv]
    simp [conj]
end Go.Sx

namespace Go.Sx
open Go
set_option maxRecDepth 100000
set_option linter.unusedVariables false
set_option linter.unusedSimpArgs false
set_option maxHeartbeats 2000000
def cSumOf : Ctr := ⟨41, [.val false .str pF], fun x => True, fun x => (sInt .i64 (weighV (List.take 9 x.1)), [])⟩
theorem cSumOf_ok : CtrOk Proofs.Tryz.prog cSumOf := by
 have hP := (Prg.none ttok mtok)
 refine ctr_of_body hP cSumOf (fn := Proofs.Tryz.f41) (rts := [.tmp 2]) Proofs.Tryz.func41 rfl (by kernel_rfl) rfl rfl ?_
 rintro ⟨(s : Str), ⟨⟩⟩ ⟨hds, _⟩ _
 try dsimp only [Ty.den, Mode.den, mdens] at _
 refine ⟨rfl, ?_⟩
 have hml : s.length ≤ 140737488355328 := hds
 have hc9 : (s.take 9).length ≤ 9 := List.length_take_le _ _
 refine sw_seq (xr hP 1 rfl (sw_seq (xr hP 2 rfl (sw_seq (sw_seq (xr hP 3 rfl (sw_block (sw_loop (ι := Nat × Int) (fun ⟨i, n⟩ => ⟨[sStr s, .j, .j, sInt .i64 n, sInt .i64 (i : Int), .j, .j, .j, .j, .j, .j, .j, .j, .j, .j, .j, .j, .j, .j, .j, .j, .j, .j, .j, .j, .j], [], 3, []⟩) (fun ⟨i, n⟩ => 9 - i) (fun ⟨i, n⟩ => i ≤ (s.take 9).length ∧ n + weighGo ((s.take 9).drop i) i = weighV (s.take 9) ∧ 0 ≤ n ∧ n ≤ (i : Int) * 300000000) (0, 0) ⟨?_, ?_⟩ ?_))))))))
 ·exact ⟨Nat.zero_le _, by simp [weighV], by decide, by decide⟩
 ·refine ent_ok rfl ?_
  simp [conj]
 ·rintro ⟨i, n⟩ ⟨hi, hgo, hn0, hn1⟩
  refine sw_seq (sw_seq ?_)
  refine sw_dec hP 4 [] 4 rfl (fun g3_4 => ?_) (fun g3_4 => ?_)
  ·have k4 : i < s.length := by simpa using g3_4
   refine xg hP 4 [(4, true)] rfl ?_ ?_
   ·simp only [cj, cl]
    try dsimp only [Ty.den, Ty.dflt]
    repeat' apply And.intro
    all_goals first | exact g3_4 | omega | trivial
   refine sw_cond rfl (fun c3 => ?_) (fun c3 => ?_)
   ·have h9 : i < 9 := by have h := c3; simp at h; omega
    have hlt : i < s.length := k4
    have hlt9 : i < (s.take 9).length := by rw [List.length_take]; omega
    have hg9 : (s.take 9)[i] = s[i] := by simp
    have hone := weigh_one (c := s[i]) (i := i) (by omega)
    have hnx := weigh_next hlt9 hgo
    rw [hg9] at hnx
    refine sw_skip (sw_seq (sw_block (xg hP 5 [] rfl ?_ ?_)))
    ·simp [conj, gE hlt]
     have hu : s[i].toNat < 256 := s[i].toNat_lt
     repeat' apply And.intro
     all_goals omega
    refine xr hP 6 rfl (⟨(i + 1, n + (s[i].toNat : Int) * (65536 + (i : Int) + 1)), ?_, ?_, ent_ok rfl ?_⟩)
    ·exact ⟨hlt9, hnx, by show 0 ≤ n + (s[i].toNat : Int) * (65536 + (i : Int) + 1); omega, by show n + (s[i].toNat : Int) * (65536 + (i : Int) + 1) ≤ ((i + 1 : Nat) : Int) * 300000000; omega⟩
    ·show 9 - (i + 1) < 9 - i
     omega
    ·simp [conj, gE hlt]
   ·have h9 : ¬ i < 9 := by have h := c3; simp at h; omega
    obtain rfl : i = (s.take 9).length := by rw [List.length_take] at hi ⊢; omega
    have hv := weigh_end hgo
    refine sw_exit (sw_seq (xr hP 5 rfl (sw_ret ⟨.inl rfl, _, rfl, ?_⟩)))
    simp [conj, hv]
  ·have k4 : ¬ i < s.length := by simpa using g3_4
   obtain rfl : i = (s.take 9).length := by rw [List.length_take] at hi ⊢; omega
   have hv := weigh_end hgo
   refine xg hP 4 [(4, false)] rfl ?_ ?_
   ·simp only [cj, cl]
    try dsimp only [Ty.den, Ty.dflt]
    repeat' apply And.intro
    all_goals first | exact g3_4 | omega | trivial
   refine sw_condF rfl (sw_exit (sw_seq (xr hP 5 rfl (sw_ret ⟨.inl rfl, _, rfl, ?_⟩))))
   simp [conj, hv]
def cSec : Ctr := ⟨129, [.val false .str pF], fun _ => True, fun x => (sStr (secT x.1), [])⟩
theorem cSec_ok : CtrOk Proofs.Tryz.prog cSec := by
 have hP := (Prg.none ttok mtok)
 refine ctr_of_body hP cSec (fn := Proofs.Tryz.f129) (rts := [.tmp 2]) Proofs.Tryz.func129 rfl (by kernel_rfl) rfl rfl ?_
 rintro ⟨(s0 : Str), ⟨⟩⟩ ⟨hds, _⟩ _
 try dsimp only [Ty.den, Mode.den, mdens] at _
 refine ⟨rfl, ?_⟩
 have hml : s0.length ≤ 140737488355328 := hds
 refine sw_seq (xr hP 1 rfl (sw_seq (sw_block (sw_loop (ι := Str) (fun s => ⟨[sStr s, .j, .j, .j, .j, .j, .j, .j, .j, .j], [], 1, []⟩) (fun s => 3 - s.length) (fun s => secT s = secT s0 ∧ s.length ≤ 140737488355328) s0 ⟨?_, ?_⟩ ?_))))
 ·exact ⟨rfl, hml⟩
 ·refine ent_ok rfl ?_
  simp [conj]
 ·rintro s ⟨hgo, hl⟩
  refine sw_seq (sw_seq (xr hP 2 rfl (sw_cond rfl (fun c1 => ?_) (fun c1 => ?_))))
  ·have hlt : s.length < 3 := by simp at c1; omega
   refine sw_skip (sw_block (xg hP 3 [] rfl ?_ ?_))
   ·simp [conj, maxL, bytesL]
    omega
   refine ⟨s ++ [0], ?_, ?_, ent_ok rfl ?_⟩
   ·exact ⟨by rw [secT_next hlt, hgo], by simp; omega⟩
   ·show 3 - (s ++ [0]).length < 3 - s.length
    simp; omega
   ·simp [conj, bytesL]
  ·have hge : ¬ s.length < 3 := by simp at c1; omega
   refine sw_exit (sw_seq (xg hP 3 [] rfl ?_ ?_))
   ·simp [conj]
    omega
   refine sw_ret ⟨.inl rfl, _, rfl, ?_⟩
   rw [← hgo, secT_end hge]
   simp [conj]
def cXorS : Ctr := ⟨160, [.val false .str pF, .val false .str pF], fun x => List.length x.1 ≤ 1000 ∧ List.length x.2.1 ≤ 1000, fun x => (sStr (xorV x.1 x.2.1), [])⟩
theorem cXorS_ok : CtrOk Proofs.Tryz.prog cXorS := by
 have hP := (Prg.none ttok mtok)
 refine ctr_of_body hP cXorS (fn := Proofs.Tryz.f160) (rts := [.tmp 4]) Proofs.Tryz.func160 rfl (by kernel_rfl) rfl rfl ?_
 rintro ⟨(a : Str), (b : Str), ⟨⟩⟩ _ ⟨ha, hb⟩
 try dsimp only [Ty.den, Mode.den, mdens] at ha
 try dsimp only [Ty.den, Mode.den, mdens] at hb
 refine ⟨rfl, ?_⟩
 replace ha : a.length ≤ 1000 := ha
 replace hb : b.length ≤ 1000 := hb
 refine sw_seq (xr hP 1 rfl (sw_seq (xr hP 2 rfl (sw_seq (sw_seq (xr hP 3 rfl (sw_block (sw_loop (ι := Nat) (fun i => ⟨[.v false [.d .str pF a], .v false [.d .str pF b], .j, .j, .j, .v false [.own ⟨0, 9, 0⟩], sInt .i64 (i : Int), .j, .j, .j, .j, .j, .j, .j, .j, .j, .j, .j, .j, .j, .j, .j, .j, .j, .j, .j, .j, .j, .j, .j, .j, .j, .j, .j, .j, .j, .j, .j, .j, .j], [(⟨0, 9, 0⟩, .sl (.int .u8) (.all .w) (toI ((xorV a b).take i)))], 3, []⟩) (fun i => max a.length b.length - i) (fun i => i ≤ max a.length b.length) 0 ⟨?_, ?_⟩ ?_))))))))
 ·exact Nat.zero_le _
 ·refine ent_ok rfl ?_
  simp [conj]
 ·rintro i hi
  refine sw_seq (sw_seq (xr hP 4 rfl (sw_cond rfl (fun c3 => ?_) (fun c3 => ?_))))
  ·have hlt : i < max a.length b.length := by have h : (i : Int) < sMax (a.length : Int) (b.length : Int) := of_decide_eq_true c3; rw [sMaxN] at h; omega
   have hnx := xorV_next hlt
   simp only [toI, List.map_take] at hnx
   have hxl := xorV_len a b
   refine sw_skip (sw_seq (sw_block (sw_seq (xg hP 5 [] rfl ?_ ?_))))
   ·simp [conj, maxL]
    try omega
   refine sw_seq (sw_seq (xg hP 6 [] rfl ?_ ?_))
   ·simp [conj, maxL]
    try omega
   refine sw_cond rfl (fun c6 => ?_) (fun c6 => ?_)
   ·have k5 : i < a.length := by simpa using c6
    refine xg hP 7 [] rfl ?_ ?_
    ·simp [conj, maxL]
     try omega
    refine sw_seq (sw_seq (xg hP 8 [] rfl ?_ ?_))
    ·simp [conj, maxL]
     try omega
    refine sw_cond rfl (fun c8 => ?_) (fun c8 => ?_)
    ·have k6 : i < b.length := by simpa using c8
     refine xg hP 9 [] rfl ?_ ?_
     ·simp [conj, maxL]
      try omega
     refine xg hP 10 [] rfl ?_ ?_
     ·simp [conj, maxL]
      try omega
     refine xg hP 11 [] rfl ?_ ?_
     ·simp [conj, maxL]
      try omega
     refine ⟨i + 1, ?_, ?_, ent_ok rfl ?_⟩
     ·exact hlt
     ·omega
     ·simp [conj]
      have hb : bitsOp .xor .u8 ((a.getD i 0).toNat : Int) ((b.getD i 0).toNat : Int) = ((a.getD i 0 ^^^ b.getD i 0).toNat : Int) := bitsX _ _
      rw [← hb] at hnx
      exact hnx
    ·have k6 : ¬ i < b.length := by simpa using c8
     have e6 := getD_out k6
     refine sw_skip (xg hP 9 [] rfl ?_ ?_)
     ·simp [conj, maxL]
      try omega
     refine xg hP 10 [] rfl ?_ ?_
     ·simp [conj, maxL]
      try omega
     refine ⟨i + 1, ?_, ?_, ent_ok rfl ?_⟩
     ·exact hlt
     ·omega
     ·simp [conj]
      have hb : ((a.getD i 0).toNat : Int) = ((a.getD i 0 ^^^ b.getD i 0).toNat : Int) := by rw [e6, UInt8.xor_zero]
      rw [← hb] at hnx
      exact hnx
   ·have k5 : ¬ i < a.length := by simpa using c6
    have e5 := getD_out k5
    refine sw_skip (sw_seq (sw_seq (xg hP 7 [] rfl ?_ ?_)))
    ·simp [conj, maxL]
     try omega
    refine sw_cond rfl (fun c8 => ?_) (fun c8 => ?_)
    ·have k6 : i < b.length := by simpa using c8
     refine xg hP 8 [] rfl ?_ ?_
     ·simp [conj, maxL]
      try omega
     refine xg hP 9 [] rfl ?_ ?_
     ·simp [conj, maxL]
      try omega
     refine xg hP 10 [] rfl ?_ ?_
     ·simp [conj, maxL]
      try omega
     refine ⟨i + 1, ?_, ?_, ent_ok rfl ?_⟩
     ·exact hlt
     ·omega
     ·simp [conj]
      have hb : bitsOp .xor .u8 0 ((b.getD i 0).toNat : Int) = ((a.getD i 0 ^^^ b.getD i 0).toNat : Int) := by rw [e5]; exact bitsX 0 _
      rw [← hb] at hnx
      exact hnx
    ·have k6 : ¬ i < b.length := by simpa using c8
     have e6 := getD_out k6
     refine sw_skip (xg hP 8 [] rfl ?_ ?_)
     ·simp [conj, maxL]
      try omega
     refine xg hP 9 [] rfl ?_ ?_
     ·simp [conj, maxL]
      try omega
     refine ⟨i + 1, ?_, ?_, ent_ok rfl ?_⟩
     ·exact hlt
     ·omega
     ·simp [conj]
      have hb : 0 = ((a.getD i 0 ^^^ b.getD i 0).toNat : Int) := by rw [e5, e6]; rfl
      rw [← hb] at hnx
      exact hnx
  ·have hge : i = max a.length b.length := by have h : ¬ (i : Int) < sMax (a.length : Int) (b.length : Int) := of_decide_eq_false c3; rw [sMaxN] at h; omega
   have hxl := xorV_len a b
   subst hge
   rw [← hxl]
   refine sw_exit (sw_seq (xg hP 5 [] rfl ?_ ?_))
   ·simp [conj, maxL]
    try omega
   refine sw_ret ⟨.inl rfl, _, rfl, ?_⟩
   simp [conj]
   exact ofBytes_toI _
def cColsT : Ctr := ⟨131, [.val false .str pF], fun x => 1 ≤ List.length x.1 ∧ List.length x.1 ≤ 9, fun x => (.v false [.own ⟨1, 0, 0⟩], [(⟨1, 0, 0⟩, .sl .str (.all .w) (colT x.1))])⟩
theorem cColsT_ok : CtrOk Proofs.Tryz.prog cColsT := by
 have hP := (((Prg.none ttok mtok).and cIn_ok).and cSec_ok)
 refine ctr_of_body hP cColsT (fn := Proofs.Tryz.f131) (rts := [.tmp 2]) Proofs.Tryz.func131 rfl (by kernel_rfl) rfl rfl ?_
 rintro ⟨(s : Str), ⟨⟩⟩ _ ⟨h1, h9⟩
 try dsimp only [Ty.den, Mode.den, mdens] at h1
 try dsimp only [Ty.den, Mode.den, mdens] at h9
 refine ⟨rfl, ?_⟩
 replace h1 : 1 ≤ s.length := h1
 replace h9 : s.length ≤ 9 := h9
 have hcl := colT_len s
 refine sw_seq (xr hP 1 rfl (sw_seq (xr hP 2 rfl (sw_seq (sw_seq (xr hP 3 rfl (sw_cond rfl (fun c2 => ?_) (fun c2 => ?_))))))))
 ·have h : (!inV (s.length : Int) 1 9) = true := c2
  unfold inV at h
  simp at h
  omega
 ·refine sw_skip (sw_seq (sw_seq (xr hP 4 rfl (sw_block (sw_loop (ι := Nat) (fun i => ⟨[.v false [.d .str pF s], .j, .j, .v false [.own ⟨0, 9, 0⟩], sInt .i64 (3 * (i : Int)), .j, .j, .j, .j, .j, .j, .j, .j, .j, .j, .j, .j, .j, .j, .j, .j, .j, .j, .j, .j], [(⟨0, 9, 0⟩, .sl .str (.all .w) ((colT s).take i))], 4, []⟩) (fun i => (s.length + 2) / 3 - i) (fun i => i ≤ (s.length + 2) / 3) 0 ⟨?_, ?_⟩ ?_)))))
  ·exact Nat.zero_le _
  ·refine ent_ok rfl ?_
   simp [conj]
  ·rintro i hi
   refine sw_seq (sw_seq (xr hP 5 rfl (sw_cond rfl (fun c5 => ?_) (fun c5 => ?_))))
   ·have hlt : 3 * i < s.length := by have h : (3 * (i : Int)) < (s.length : Int) := of_decide_eq_true c5; omega
    have hnx := colT_nextS hlt
    refine sw_skip (sw_seq (sw_block (xg hP 6 [] rfl ?_ ?_)))
    ·simp [conj, maxL, hcl]
     repeat' apply And.intro
     all_goals first | omega | trivial
    refine xr hP 7 rfl (⟨i + 1, ?_, ?_, ent_ok rfl ?_⟩)
    ·omega
    ·omega
    ·simp [conj]
     exact ⟨by rw [show (3 * (i : Int)).toNat = 3 * i by omega]; exact hnx, by show (3 * (i : Int) + 3 : Int) = 3 * ((i : Int) + 1); omega⟩
   ·have hge : ¬ 3 * i < s.length := by have h : ¬ (3 * (i : Int)) < (s.length : Int) := of_decide_eq_false c5; omega
    have hcd : (colT s).take i = colT s := List.take_of_length_le (by omega)
    refine sw_exit (sw_seq (xr hP 6 rfl (sw_ret ⟨.inl rfl, _, rfl, ?_⟩)))
    simp [conj, hcd]
def cParS : Ctr := ⟨132, [.val false (.sl .str) (.all .b)], fun x => ∀ c ∈ x.1, List.length c = 3, fun x => (sStr (parT x.1), [])⟩
theorem cParS_ok : CtrOk Proofs.Tryz.prog cParS := by
 have hP := (((Prg.none ttok mtok).and cSec_ok).and cXorS_ok)
 refine ctr_of_body hP cParS (fn := Proofs.Tryz.f132) (rts := [.tmp 2]) Proofs.Tryz.func132 rfl (by kernel_rfl) rfl rfl ?_
 rintro ⟨(l : List Str), ⟨⟩⟩ ⟨hdl, _⟩ hc
 try dsimp only [Ty.den, Mode.den, mdens] at hc
 refine ⟨rfl, ?_⟩
 replace hc : ∀ c ∈ l, List.length c = 3 := hc
 have hml : l.length ≤ 140737488355328 := hdl.1
 refine sw_seq (xr hP 1 rfl (sw_seq (xr hP 2 rfl (sw_seq (sw_seq (xr hP 3 rfl (sw_block (sw_loop (ι := Nat × Str) (fun ⟨i, z⟩ => ⟨[.v false [.d (.sl .str) (.all .b) l], .j, .j, .v false [.d .str pF z], sInt .i64 (i : Int), .j, .j, .j, .j, .j, .j, .j, .j, .j, .j, .j, .j, .j, .j], [], 3, []⟩) (fun ⟨i, z⟩ => l.length - i) (fun ⟨i, z⟩ => i ≤ l.length ∧ (l.drop i).foldl xorV z = parT l ∧ z.length ≤ 3) (0, [0, 0, 0]) ⟨?_, ?_⟩ ?_))))))))
 ·exact ⟨Nat.zero_le _, rfl, by decide⟩
 ·refine ent_ok rfl ?_
  simp [conj]
  rfl
 ·rintro ⟨i, z⟩ ⟨hi, hgo, hz⟩
  refine sw_seq (sw_seq (xr hP 4 rfl (sw_cond rfl (fun c3 => ?_) (fun c3 => ?_))))
  ·have hlt : i < l.length := by simpa using c3
   have hc3 : l[i].length = 3 := hc _ (List.getElem_mem hlt)
   have hgo2 := hgo
   rw [drop_at hlt] at hgo2
   simp only [List.foldl_cons] at hgo2
   refine sw_skip (sw_seq (sw_block (xg hP 5 [] rfl ?_ ?_)))
   ·simp [conj, gE hlt]
    repeat' apply And.intro
    all_goals first | omega | trivial | exact ⟨by show z.length ≤ 1000; omega, by show l[i].length ≤ 1000; omega⟩ | (show z.length ≤ 1000; omega) | (show l[i].length ≤ 1000; omega)
   refine xr hP 6 rfl (⟨(i + 1, xorV z l[i]), ?_, ?_, ent_ok rfl ?_⟩)
   ·exact ⟨hlt, hgo2, by rw [xorV_len]; omega⟩
   ·show l.length - (i + 1) < l.length - i
    omega
   ·simp [conj, gE hlt]
  ·obtain rfl : i = l.length := by simp at c3; omega
   rw [List.drop_length] at hgo
   replace hgo : z = parT l := hgo
   refine sw_exit (sw_seq (xr hP 5 rfl (sw_ret ⟨.inl rfl, _, rfl, ?_⟩)))
   simp [conj, hgo]
def cStripS : Ctr := ⟨82, [.val false .str pF], fun x => 1 ≤ List.length x.1 ∧ List.length x.1 ≤ 9, fun x => (.v false [.own ⟨1, 0, 0⟩], [(⟨1, 0, 0⟩, .sl .str (.all .w) (stripT x.1))])⟩
theorem cStripS_ok : CtrOk Proofs.Tryz.prog cStripS := by
 have hP := (((Prg.none ttok mtok).and cColsT_ok).and cParS_ok)
 refine ctr_of_body hP cStripS (fn := Proofs.Tryz.f82) (rts := [.tmp 2]) Proofs.Tryz.func82 rfl (by kernel_rfl) rfl rfl ?_
 rintro ⟨(s : Str), ⟨⟩⟩ _ ⟨h1, h9⟩
 try dsimp only [Ty.den, Mode.den, mdens] at h1
 try dsimp only [Ty.den, Mode.den, mdens] at h9
 refine ⟨rfl, ?_⟩
 replace h1 : 1 ≤ s.length := h1
 replace h9 : s.length ≤ 9 := h9
 have hcl := colT_len s
 have hct : colsT s = colT s := if_pos ⟨h1, h9⟩
 refine sw_seq (xr hP 1 rfl (sw_seq (xg hP 2 [] rfl ?_ ?_)))
 ·exact ⟨h1, h9⟩
 refine sw_seq (xg hP 3 [] rfl ?_ ?_)
 ·simp [conj, maxL]
  repeat' apply And.intro
  all_goals first | omega | trivial | exact fun c hc => colT_3 hc
 refine sw_ret ⟨.inl rfl, _, rfl, ?_⟩
 simp [conj, stripT, hct]
def cCopyDsS : Ctr := ⟨43, [.val false (.sl T_Disk) (.all .b)], fun x => List.length x.1 ≤ 1000 ∧ ∀ d ∈ x.1, SmallD d, fun x => (.v false [.own ⟨1, 0, 0⟩], [(⟨1, 0, 0⟩, .sl T_Disk (.all .w) x.1)])⟩
theorem cCopyDsS_ok : CtrOk Proofs.Tryz.prog cCopyDsS := by
 have hP := ((Prg.none ttok mtok).and cCopyD_ok)
 refine ctr_of_body hP cCopyDsS (fn := Proofs.Tryz.f43) (rts := [.tmp 2]) Proofs.Tryz.func43 rfl (by kernel_rfl) rfl rfl ?_
 rintro ⟨(ds : List Dsk), ⟨⟩⟩ _ ⟨hml, hsm⟩
 try dsimp only [Ty.den, Mode.den, mdens] at hml
 try dsimp only [Ty.den, Mode.den, mdens] at hsm
 refine ⟨rfl, ?_⟩
 replace hml : ds.length ≤ 1000 := hml
 replace hsm : ∀ d ∈ ds, SmallD d := hsm
 refine sw_seq (xr hP 1 rfl (sw_seq (xr hP 2 rfl (sw_seq (sw_seq (xr hP 3 rfl (sw_block (sw_loop (ι := Nat) (fun i => ⟨[.v false [.d (.sl T_Disk) (.all .b) ds], .j, .j, .v false [.own ⟨0, 9, 0⟩], sInt .i64 (i : Int), .j, .j, .j, .j, .j, .j, .j, .j, .j, .j, .j, .j, .j, .j, .j, .j], [(⟨0, 9, 0⟩, .sl T_Disk (.all .w) (ds.take i))], 3, []⟩) (fun i => ds.length - i) (fun i => i ≤ ds.length) 0 ⟨?_, ?_⟩ ?_))))))))
 ·exact Nat.zero_le _
 ·refine ent_ok rfl ?_
  simp [conj]
 ·rintro i hi
  refine sw_seq (sw_seq (xr hP 4 rfl (sw_cond rfl (fun c3 => ?_) (fun c3 => ?_))))
  ·have hlt : i < ds.length := by simpa using c3
   have hs1 := hsm _ (List.getElem_mem hlt)
   have hnx := List.take_succ_eq_append_getElem hlt
   refine sw_skip (sw_seq (sw_block (xg hP 5 [] rfl ?_ ?_)))
   ·simp [conj, maxL, gE hlt]
    repeat' apply And.intro
    all_goals first | omega | trivial | exact hs1.1 | exact hs1.2.1 | exact hs1.2.2.1 | exact hs1.2.2.2
   refine xr hP 6 rfl (⟨i + 1, ?_, ?_, ent_ok rfl ?_⟩)
   ·exact hlt
   ·omega
   ·simp [conj, gE hlt]
    exact hnx.symm
  ·obtain rfl : i = ds.length := by simp at c3; omega
   refine sw_exit (sw_seq (xr hP 5 rfl (sw_ret ⟨.inl rfl, _, rfl, ?_⟩)))
   simp [conj]
def cFlushS : Ctr := ⟨78, [.own true T_Disk (.all .w)], fun x => (drvOf x.1).ok ∧ x.1.2.2.2.2.any badP = false ∧ List.length x.1.2.2.2.2 ≤ 40, fun x => (.v true [.d TI pF (dskOf x.1.1 (comes x.1.2.2.2.2 (drvOf x.1)) []).1, .own ⟨1, 0, 0⟩, .own ⟨1, 1, 0⟩, .own ⟨1, 2, 0⟩, .own ⟨1, 3, 0⟩], [(⟨1, 0, 0⟩, .sl .str (.all .w) (dskOf x.1.1 (comes x.1.2.2.2.2 (drvOf x.1)) []).2.1), (⟨1, 1, 0⟩, .sl .str (.all .w) (dskOf x.1.1 (comes x.1.2.2.2.2 (drvOf x.1)) []).2.2.1), (⟨1, 2, 0⟩, .sl .bool (.all .w) (dskOf x.1.1 (comes x.1.2.2.2.2 (drvOf x.1)) []).2.2.2.1), (⟨1, 3, 0⟩, .sl T_Put (.all .w) (dskOf x.1.1 (comes x.1.2.2.2.2 (drvOf x.1)) []).2.2.2.2)])⟩
theorem cFlushS_ok : CtrOk Proofs.Tryz.prog cFlushS := by
 have hP := ((Prg.none ttok mtok).and cComeS_ok)
 refine ctr_of_body hP cFlushS (fn := Proofs.Tryz.f78) (rts := [.cell 2 38]) Proofs.Tryz.func78 rfl (by kernel_rfl) rfl rfl ?_
 rintro ⟨⟨(st : Int), (sl : List Str), (rg : List Str), (sp : List Bool), (wt : List Put)⟩, ⟨⟩⟩ _ ⟨ho, hw, h40⟩
 try dsimp only [Ty.den, Mode.den, mdens] at ho
 try dsimp only [Ty.den, Mode.den, mdens] at hw
 try dsimp only [Ty.den, Mode.den, mdens] at h40
 refine ⟨rfl, ?_⟩
 replace h40 : wt.length ≤ 40 := h40
 replace hw : wt.any badP = false := hw
 replace ho : Drv.ok (sl, rg, sp) := ho
 refine sw_seq (xr hP 1 rfl (sw_seq (sw_seq (xr hP 2 rfl (sw_block (sw_loop (ι := Nat × Drv) (fun ⟨i, u⟩ => ⟨[.j, .v false [.ptr ⟨1, 0, 0⟩ 0], .v false [.ptr ⟨1, 1, 0⟩ 0], sInt .i64 (i : Int), .j, .j, .j, .j, .j, .j, .j, .j, .j, .j, .j, .j, .j, .j, .j, .j, .j], [(⟨1, 0, 0⟩, .var [.d TI pF st, .own ⟨0, 9, 1⟩, .own ⟨0, 9, 2⟩, .own ⟨0, 9, 3⟩, .own ⟨0, 9, 4⟩]), (⟨0, 9, 1⟩, .sl .str (.all .w) u.1), (⟨0, 9, 2⟩, .sl .str (.all .w) u.2.1), (⟨0, 9, 3⟩, .sl .bool (.all .w) u.2.2), (⟨0, 9, 4⟩, .sl T_Put (.all .w) wt), (⟨1, 1, 0⟩, .var [.d TI pF 0, .nils, .nils, .nils, .nils])], 2, []⟩) (fun ⟨i, u⟩ => wt.length - i) (fun ⟨i, u⟩ => i ≤ wt.length ∧ comes (wt.drop i) u = comes wt (sl, rg, sp) ∧ u.ok) (0, (sl, rg, sp)) ⟨?_, ?_⟩ ?_))))))
 ·exact ⟨Nat.zero_le _, rfl, ho⟩
 ·refine ent_ok rfl ?_
  simp [conj]
 ·rintro ⟨i, u⟩ ⟨hi, hgo, hu⟩
  refine sw_seq (sw_seq (xr hP 3 rfl (sw_cond rfl (fun c2 => ?_) (fun c2 => ?_))))
  ·have hlt : i < wt.length := by simpa using c2
   have hg : (List.getD wt i T_Put.dflt : Put) = wt[i] := by rw [List.getD, gE hlt]; rfl
   have hp := wait_at hw hlt
   rw [← hg] at hp
   have hnx := comes_next hlt hgo
   rw [← hg] at hnx
   refine sw_skip (sw_seq (sw_block (xg hP 4 [] rfl ?_ ?_)))
   ·simp only [conj, List.nil_append, List.cons_append, List.append_nil, List.append_assoc, inR_i64, true_and, and_true, Int.toNat_natCast]
    try dsimp only [Ty.den, Ty.dflt]
    repeat' apply And.intro
    all_goals first | exact hp | exact hu.1 | exact hu.2.1 | exact hu.2.2 | rfl | omega | assumption | trivial
   refine xg hP 5 [] rfl ?_ ?_
   ·simp only [conj, List.nil_append, List.cons_append, List.append_nil, List.append_assoc, inR_i64, true_and, and_true, Int.toNat_natCast]
    try dsimp only [Ty.den, Ty.dflt]
    repeat' apply And.intro
    all_goals first | rfl | omega | assumption | trivial
   refine ⟨(i + 1, come (List.getD wt i T_Put.dflt) u), ?_, ?_, ent_ok rfl ?_⟩
   ·exact ⟨hlt, hnx, come_ok hu⟩
   ·show wt.length - (i + 1) < wt.length - i
    omega
   ·simp [conj, comeD, dskOf, drvOf]
  ·obtain rfl : i = wt.length := by simp at c2; omega
   refine sw_exit (sw_seq (xr hP 4 rfl (sw_seq (xr hP 5 rfl (sw_ret ⟨.inl rfl, _, rfl, ?_⟩)))))
   have hv := comes_end hgo
   subst hv
   simp [conj, dskOf, drvOf]
def cWriteS : Ctr := ⟨76, [.own true T_Disk (.all .w), .val true T_Put pF], fun x => (drvOf x.1).ok ∧ x.1.2.2.2.2.any badP = false ∧ List.length x.1.2.2.2.2 ≤ 40, fun x => (.v true [.d TI pF (writeD x.1 x.2.1).1, .own ⟨1, 0, 0⟩, .own ⟨1, 1, 0⟩, .own ⟨1, 2, 0⟩, .own ⟨1, 3, 0⟩], [(⟨1, 0, 0⟩, .sl .str (.all .w) (writeD x.1 x.2.1).2.1), (⟨1, 1, 0⟩, .sl .str (.all .w) (writeD x.1 x.2.1).2.2.1), (⟨1, 2, 0⟩, .sl .bool (.all .w) (writeD x.1 x.2.1).2.2.2.1), (⟨1, 3, 0⟩, .sl T_Put (.all .w) (writeD x.1 x.2.1).2.2.2.2)])⟩
theorem cWriteS_ok : CtrOk Proofs.Tryz.prog cWriteS := by
 have hP := ((Prg.none ttok mtok).and cFlushS_ok)
 refine ctr_of_body hP cWriteS (fn := Proofs.Tryz.f76) (rts := [.cell 4 38]) Proofs.Tryz.func76 rfl (by kernel_rfl) rfl rfl ?_
 rintro ⟨⟨(st : Int), (sl : List Str), (rg : List Str), (sp : List Bool), (wt : List Put)⟩, ⟨(rn : Bool), (at_ : Int), (tx : Str)⟩, ⟨⟩⟩ _ ⟨ho, hw, h40⟩
 try dsimp only [Ty.den, Mode.den, mdens] at ho
 try dsimp only [Ty.den, Mode.den, mdens] at hw
 try dsimp only [Ty.den, Mode.den, mdens] at h40
 refine ⟨rfl, ?_⟩
 replace h40 : wt.length ≤ 40 := h40
 replace hw : wt.any badP = false := hw
 replace ho : Drv.ok (sl, rg, sp) := ho
 refine sw_seq (xr hP 1 rfl (sw_seq (sw_seq (xr hP 2 rfl (sw_cond rfl (fun c1 => ?_) (fun c1 => ?_))))))
 ·replace c1 : st = 1 := of_decide_eq_true c1
  have hu := putU_gone (l := wt) (t := (sl, rg, sp)) c1
  have hm := putM_gone (l := wt) (p := (rn, at_, tx)) c1
  refine sw_seq (xr hP 3 rfl (sw_ret ⟨.inl rfl, _, rfl, ?_⟩))
  simp [conj, writeD, dskOf, drvOf, hu, hm]
 ·replace c1 : ¬ st = 1 := of_decide_eq_false c1
  have hu := putU_live (l := wt) (t := (sl, rg, sp)) c1
  have hm := putM_live (l := wt) (p := (rn, at_, tx)) c1
  refine sw_skip (sw_seq (sw_seq (xr hP 3 rfl (sw_cond rfl (fun c3 => ?_) (fun c3 => ?_)))))
  ·replace c3 : wt.length = 40 := by have h : ((wt.length : Nat) : Int) = 40 := of_decide_eq_true c3; omega
   rw [putT_full c3] at hu
   rw [putW_full c3] at hm
   refine xg hP 4 [] rfl ?_ ?_
   ·simp only [conj, List.nil_append, List.cons_append, List.append_nil, List.append_assoc, inR_i64, true_and, and_true, Int.toNat_natCast]
    try dsimp only [Ty.den, Ty.dflt]
    repeat' apply And.intro
    all_goals first | exact ho.1 | exact ho.2.1 | exact ho.2.2 | exact hw | exact h40 | rfl | omega | assumption | trivial
   refine sw_seq (xg hP 5 [] rfl ?_ ?_)
   ·simp [conj, maxL, dskOf]
    try omega
   refine sw_seq (xg hP 6 [] rfl ?_ ?_)
   ·simp only [conj, List.nil_append, List.cons_append, List.append_nil, List.append_assoc, inR_i64, true_and, and_true, Int.toNat_natCast]
    try dsimp only [Ty.den, Ty.dflt]
    repeat' apply And.intro
    all_goals first | rfl | omega | assumption | trivial
   refine sw_ret ⟨.inl rfl, _, rfl, ?_⟩
   simp [conj, writeD, dskOf, drvOf, hu, hm]
  ·replace c3 : ¬ wt.length = 40 := by have h : ¬ ((wt.length : Nat) : Int) = 40 := of_decide_eq_false c3; omega
   rw [putT_room c3] at hu
   rw [putW_room c3] at hm
   refine sw_skip (sw_seq (xg hP 4 [] rfl ?_ ?_))
   ·simp [conj, maxL, dskOf]
    try omega
   refine sw_seq (xg hP 5 [] rfl ?_ ?_)
   ·simp only [conj, List.nil_append, List.cons_append, List.append_nil, List.append_assoc, inR_i64, true_and, and_true, Int.toNat_natCast]
    try dsimp only [Ty.den, Ty.dflt]
    repeat' apply And.intro
    all_goals first | rfl | omega | assumption | trivial
   refine sw_ret ⟨.inl rfl, _, rfl, ?_⟩
   simp [conj, writeD, dskOf, drvOf, hu, hm]
def cIsS : Ctr := ⟨40, [.val false (.sl T_Disk) (.all .b), .val true T_Ptr (.all .b)], fun x => True, fun x => (sBool (usableV x.1 x.2.1), [])⟩
theorem cIsS_ok : CtrOk Proofs.Tryz.prog cIsS := by
 have hP := (((Prg.none ttok mtok).and cStripeOkS_ok).and cPtrS_ok)
 refine ctr_of_body hP cIsS (fn := Proofs.Tryz.f40) (rts := [.tmp 4]) Proofs.Tryz.func40 rfl (by kernel_rfl) rfl rfl ?_
 rintro ⟨(ds : List Dsk), ⟨(sz : Int), (sm : Int), (pl : List Plc)⟩, ⟨⟩⟩ _ _
 try dsimp only [Ty.den, Mode.den, mdens] at _
 refine ⟨rfl, ?_⟩
 refine sw_seq (xr hP 1 rfl (sw_seq ?_))
 refine sw_dec hP 2 [] 2 rfl (fun g1_2 => ?_) (fun g1_2 => ?_)
 ·replace g1_2 : stripeV ds = true := g1_2
  have hp : poolV (ds.length : Int) = true := by have h := g1_2; simp only [stripeV, Bool.and_eq_true] at h; exact h.1
  refine sw_dec hP 2 [(2, true)] 8 rfl (fun g1_8 => ?_) (fun g1_8 => ?_)
  ·replace g1_8 : ptrW (ds.length : Int) ((sz, sm, pl) : Ptr_) = true := g1_8
   refine xg hP 2 [(2, true), (8, true)] rfl ?_ ?_
   ·simp [conj, maxL]
    try dsimp only [Ty.den, Ty.dflt]
    try simp only [rd_eta]
    repeat' apply And.intro
    all_goals first | trivial | assumption
   refine sw_ret ⟨.inl rfl, _, rfl, ?_⟩
   rw [usable_S]
   simp [conj, *]
  ·replace g1_8 : ptrW (ds.length : Int) ((sz, sm, pl) : Ptr_) = false := g1_8
   refine xg hP 2 [(2, true), (8, false)] rfl ?_ ?_
   ·simp [conj, maxL]
    try dsimp only [Ty.den, Ty.dflt]
    try simp only [rd_eta]
    repeat' apply And.intro
    all_goals first | trivial | assumption
   refine sw_ret ⟨.inl rfl, _, rfl, ?_⟩
   rw [usable_S]
   simp [conj, *]
 ·replace g1_2 : stripeV ds = false := g1_2
  refine xg hP 2 [(2, false)] rfl ?_ ?_
  ·simp [conj, maxL]
   try dsimp only [Ty.den, Ty.dflt]
   try simp only [rd_eta]
   repeat' apply And.intro
   all_goals first | trivial | assumption
  refine sw_ret ⟨.inl rfl, _, rfl, ?_⟩
  rw [usable_S]
  simp [conj, *]
def cPutA : Ctr := ⟨42, [.own false (.sl T_Disk) (.all .w), .val true T_Ptr (.all .b), .val false .str pF], fun x => (stripeV x.1 = true ∧ (∀ a ∈ x.2.1.2.2, placeV (List.length x.1 : Int) a = true)) ∧ (1 ≤ List.length x.2.2.1 ∧ List.length x.2.2.1 ≤ 9) ∧ List.length x.2.1.2.2 = List.length (stripT x.2.2.1), fun x => (.v false [.own ⟨1, 0, 0⟩], [(⟨1, 0, 0⟩, .sl T_Disk (.all .w) (wrN (stripT x.2.2.1) x.2.1.2.2 (List.length x.2.1.2.2) x.1))])⟩
theorem cPutA_ok : CtrOk Proofs.Tryz.prog cPutA := by
 have hP := (((Prg.none ttok mtok).and cStripS_ok).and cWriteS_ok)
 refine ctr_of_body hP cPutA (fn := Proofs.Tryz.f42) (rts := [.tmp 6]) Proofs.Tryz.func42 rfl (by kernel_rfl) rfl rfl ?_
 rintro ⟨(ds : List Dsk), ⟨(sz : Int), (sm : Int), (pl : List Plc)⟩, (t : Str), ⟨⟩⟩ _ ⟨⟨hs, hpl⟩, ⟨h1, h9⟩, hlen⟩
 try dsimp only [Ty.den, Mode.den, mdens] at hs
 try dsimp only [Ty.den, Mode.den, mdens] at hpl
 try dsimp only [Ty.den, Mode.den, mdens] at h1
 try dsimp only [Ty.den, Mode.den, mdens] at h9
 try dsimp only [Ty.den, Mode.den, mdens] at hlen
 refine ⟨rfl, ?_⟩
 replace hs : stripeV ds = true := hs
 replace hpl : ∀ a ∈ pl, placeV (ds.length : Int) a = true := hpl
 replace h1 : 1 ≤ t.length := h1
 replace h9 : t.length ≤ 9 := h9
 replace hlen : pl.length = (stripT t).length := hlen
 have hsl := stripT_len ⟨h1, h9⟩
 have hcs : ∀ c ∈ stripT t, List.length c = 3 := fun c hc => stripT_3 hc
 have hml := stripe_len hs
 obtain ⟨cs, hcsd⟩ : ∃ cs, cs = stripT t := ⟨_, rfl⟩
 rw [← hcsd] at hlen hsl hcs
 refine sw_seq (xr hP 1 rfl (sw_seq (xg hP 2 [] rfl ?_ ?_)))
 ·exact ⟨h1, h9⟩
 refine sw_seq (sw_seq (xr hP 3 rfl (sw_block (sw_loop (ι := Nat) (fun i => ⟨[.v false [.own ⟨0, 9, 0⟩], .j, .j, .j, .v false [.ptr ⟨1, 0, 0⟩ 0], .j, .j, .v false [.own ⟨0, 8, 0⟩], sInt .i64 (i : Int), .j, .j, .j, .j, .j, .j, .j, .j, .j, .j, .j, .j, .j, .j, .j, .j, .j, .j, .j, .j, .j, .j, .j, .j, .j, .j, .j, .j, .j, .j, .j, .j, .j, .j, .j], [(⟨0, 8, 0⟩, .sl .str (.all .w) cs), (⟨1, 0, 0⟩, .var [.d TI pF sz, .d TI pF sm, .d (.sl T_Place) (.all .b) pl]), (⟨0, 9, 0⟩, .sl T_Disk (.all .w) (wrN cs pl i ds))], 3, []⟩) (fun i => cs.length - i) (fun i => i ≤ cs.length) 0 ⟨?_, ?_⟩ ?_))))
 ·exact Nat.zero_le _
 ·refine ent_ok rfl ?_
  simp [conj, wrN]
  exact hcsd.symm
 ·rintro i hi
  refine sw_seq (sw_seq (xr hP 4 rfl (sw_cond rfl (fun c3 => ?_) (fun c3 => ?_))))
  ·have hlt : i < cs.length := by simpa using c3
   have hlp : i < pl.length := by omega
   obtain ⟨⟨w0, w1, w2⟩, w3, w4, w5, w6, w7⟩ := wr_step hs hpl hlen hcs hlp
   have hod := rd_own w5
   rw [gE hlt] at w4 w6 w7
   simp only [Option.getD_some] at w4 w6 w7
   have hwl := wrN_len cs pl ds i
   refine sw_skip (sw_seq (sw_block (sw_seq (xg hP 5 [] rfl ?_ ?_))))
   ·simp [conj, gE hlp]
    repeat' apply And.intro
    all_goals first | omega | trivial
   refine xg hP 6 [] rfl ?_ ?_
   ·simp [conj, maxL, gE hlt, gE hlp]
    repeat' apply And.intro
    all_goals first | omega | trivial | exact hod.1 | exact hod.2.1 | exact hod.2.2 | exact hod | exact hod.1.1 | exact hod.1.2.1 | exact hod.1.2.2
   refine xr hP 7 rfl (⟨i + 1, ?_, ?_, ent_ok rfl ?_⟩)
   ·exact hlt
   ·omega
   ·simp [conj, gE hlt, gE hlp]
    exact w6
  ·obtain rfl : i = cs.length := by simp at c3; omega
   refine sw_exit (sw_seq (xr hP 5 rfl (sw_ret ⟨.inl rfl, _, rfl, ?_⟩)))
   simp [conj]
   rw [hlen, hcsd]
def cSPutR : Ctr := ⟨7, [.val false (.sl T_Disk) (.all .b), .val true T_Ptr (.all .b), .val false .str pF], fun x => True, fun x => (.tup [(false, [.own ⟨1, 0, 0⟩]), (false, [.d .bool pF (sputV x.1 x.2.1 x.2.2.1).2])], [(⟨1, 0, 0⟩, .sl T_Disk (.all .w) (sputV x.1 x.2.1 x.2.2.1).1)])⟩
theorem cSPutR_ok : CtrOk Proofs.Tryz.prog cSPutR := by
 have hP := (((((Prg.none ttok mtok).and cIsS_ok).and cSumOf_ok).and cCopyDsS_ok).and cPutA_ok)
 refine ctr_of_body hP cSPutR (fn := Proofs.Tryz.f7) (rts := [.tmp 6, .tmp 7]) Proofs.Tryz.func7 rfl (by kernel_rfl) rfl rfl ?_
 rintro ⟨(ds : List Dsk), ⟨(sz : Int), (sm : Int), (pl : List Plc)⟩, (t : Str), ⟨⟩⟩ _ _
 try dsimp only [Ty.den, Mode.den, mdens] at _
 refine ⟨rfl, ?_⟩
 refine sw_seq (xr hP 1 rfl (sw_seq (sw_seq ?_)))
 refine sw_dec hP 2 [] 4 rfl (fun g1_4 => ?_) (fun g1_4 => ?_)
 ·have hu : ¬ usableV ds ((sz, sm, pl) : Ptr_) = true := by have h : (!usableV ds ((sz, sm, pl) : Ptr_)) = true := g1_4; simpa using h
  have hu0 : usableV ds ((sz, sm, pl) : Ptr_) = false := by simpa using hu
  have hv : sputV ds ((sz, sm, pl) : Ptr_) t = ([], false) := if_neg fun h => hu h.1
  refine xg hP 2 [(4, true)] rfl ?_ ?_
  ·simp [conj, maxL]
   try dsimp only [Ty.den, Ty.dflt]
   try simp only [rd_eta]
   repeat' apply And.intro
   all_goals first | trivial | assumption | exact fun e => k1 e.symm | exact k1.symm
  refine sw_condT rfl (sw_seq (xr hP 3 rfl (sw_ret ⟨.inl rfl, _, rfl, ?_⟩)))
  rw [hv]
  simp [conj]
 ·have hu : usableV ds ((sz, sm, pl) : Ptr_) = true := by have h : (!usableV ds ((sz, sm, pl) : Ptr_)) = false := g1_4; simpa using h
  refine sw_dec hP 2 [(4, false)] 11 rfl (fun g1_11 => ?_) (fun g1_11 => ?_)
  ·have k1 : ¬ (t.length : Int) = sz := by have h : (!decide (sz = (t.length : Int))) = true := g1_11; intro e; rw [e] at h; simp at h
   have hv : sputV ds ((sz, sm, pl) : Ptr_) t = ([], false) := if_neg fun h => k1 h.2.1
   refine xg hP 2 [(4, false), (11, true)] rfl ?_ ?_
   ·simp [conj, maxL]
    try dsimp only [Ty.den, Ty.dflt]
    try simp only [rd_eta]
    repeat' apply And.intro
    all_goals first | trivial | assumption | exact fun e => k1 e.symm | exact k1.symm
   refine sw_condT rfl (sw_seq (xr hP 3 rfl (sw_ret ⟨.inl rfl, _, rfl, ?_⟩)))
   rw [hv]
   simp [conj]
  ·have k1 : (t.length : Int) = sz := by
     have h : (!decide (sz = (t.length : Int))) = false := g1_11
     have h2 : sz = (t.length : Int) := by simpa using h
     exact h2.symm
   refine xg hP 2 [(4, false), (11, false)] rfl ?_ ?_
   ·simp [conj, maxL]
    try dsimp only [Ty.den, Ty.dflt]
    try simp only [rd_eta]
    repeat' apply And.intro
    all_goals first | trivial | assumption | exact fun e => k1 e.symm | exact k1.symm
   refine sw_cond rfl (fun c1 => ?_) (fun c1 => ?_)
   ·have k2 : ¬ weighV (t.take 9) = sm := by have h : (!decide (sm = weighV (t.take 9))) = true := c1; intro e; rw [e] at h; simp at h
    have hv : sputV ds ((sz, sm, pl) : Ptr_) t = ([], false) := if_neg fun h => k2 h.2.2
    refine sw_seq (xr hP 3 rfl (sw_ret ⟨.inl rfl, _, rfl, ?_⟩))
    rw [hv]
    simp [conj]
   ·have k2 : weighV (t.take 9) = sm := by
      have h : (!decide (sm = weighV (t.take 9))) = false := c1
      have h2 : sm = weighV (t.take 9) := by simpa using h
      exact h2.symm
    have hv : sputV ds ((sz, sm, pl) : Ptr_) t = (wrN (stripT t) pl pl.length ds, true) := if_pos ⟨hu, k1, k2⟩
    obtain ⟨u1, u2, u3, u4, u5, u6⟩ := usable_parts hu
    dsimp only at u3 u4 u5 u6
    obtain ⟨y1, y2, y3⟩ := strip_places hu k1
    dsimp only at y1
    have u7 : pl.length ≤ 4 := by omega
    have u8 := stripe_len u1
    have hsm : ∀ d ∈ ds, SmallD d := fun d hd => rd_small (stripe_all u1 d hd)
    refine sw_skip (sw_seq (xg hP 3 [] rfl ?_ ?_))
    ·simp [conj]
     repeat' apply And.intro
     all_goals first | omega | trivial | exact u1 | exact u6 | (show pl.length = (stripT t).length; omega) | (show 1 ≤ t.length; omega) | (show t.length ≤ 9; omega) | exact u7 | exact hsm | (show ds.length ≤ 1000; omega)
    refine sw_ret ⟨.inl rfl, _, rfl, ?_⟩
    rw [hv]
    simp [conj]
end Go.Sx

namespace Go.Sx
open Go
set_option maxRecDepth 100000
set_option linter.unusedVariables false
set_option linter.unusedSimpArgs false
set_option maxHeartbeats 2000000
def cMkT : Ctr := ⟨111, [.val false TI pF], fun x => x.1 ≤ 1099511627776, fun x => (sStr (mkT x.1), [])⟩
theorem cMkT_ok : CtrOk Proofs.Tryz.prog cMkT := by
 have hP := (Prg.none ttok mtok)
 refine ctr_of_body hP cMkT (fn := Proofs.Tryz.f111) (rts := [.tmp 2]) Proofs.Tryz.func111 rfl (by kernel_rfl) rfl rfl ?_
 rintro ⟨(k : Int), ⟨⟩⟩ _ hpre
 try dsimp only [Ty.den, Mode.den, mdens] at hpre
 refine ⟨rfl, ?_⟩
 replace hpre : k ≤ 1099511627776 := hpre
 refine sw_seq (xr hP 1 rfl (sw_seq (sw_seq (xr hP 2 rfl (sw_cond rfl (fun c1 => ?_) (fun c1 => ?_))))))
 ·replace c1 : k ≤ 0 := of_decide_eq_true c1
  refine sw_seq (xr hP 3 rfl (sw_ret ⟨.inl rfl, _, rfl, ?_⟩))
  simp [conj]
  unfold mkT
  rw [if_pos c1]; rfl
 ·replace c1 : ¬ k ≤ 0 := of_decide_eq_false c1
  refine sw_skip (sw_seq (xr hP 3 rfl (sw_seq (sw_block (sw_loop (ι := Nat × Str) (fun ⟨n, out⟩ => ⟨[sInt .i64 (n : Int), .j, .j, sStr out, .j, .j, .j, .j, .j, .j, .j, .j, .j, .j, .j, .j, .j, .j, .j, .j], [], 3, []⟩) (fun ⟨n, out⟩ => n) (fun ⟨n, out⟩ => out.length + n ≤ 1099511627776 ∧ digX n out = digX k.toNat []) (k.toNat, []) ⟨?_, ?_⟩ ?_)))))
  ·exact ⟨by show 0 + k.toNat ≤ 1099511627776; omega, rfl⟩
  ·refine ent_ok rfl ?_
   simp [conj]
   repeat' apply And.intro
   all_goals first | rfl | exact (Int.max_eq_left (by omega)).symm | omega
  ·rintro ⟨n, out⟩ ⟨hl, hgo⟩
   refine sw_seq (sw_seq (xr hP 4 rfl (sw_cond rfl (fun c4 => ?_) (fun c4 => ?_))))
   ·have hn : n ≠ 0 := by have h : (0 : Int) < (n : Nat) := of_decide_eq_true c4; omega
    have htm : ((n : Nat) : Int).tmod 10 = ((n % 10 : Nat) : Int) := rfl
    have htd : ((n : Nat) : Int).tdiv 10 = ((n / 10 : Nat) : Int) := rfl
    refine sw_skip (sw_block (sw_seq (xg hP 5 [] rfl ?_ ?_)))
    ·simp [conj, maxL, htm, ofBytes]
     repeat' apply And.intro
     all_goals first | assumption | omega
    refine xg hP 6 [] rfl ?_ ?_
    ·simp [conj, htd]
     repeat' apply And.intro
     all_goals first | assumption | omega
    refine ⟨(n / 10, UInt8.ofNat (48 + n % 10) :: out), ?_, ?_, ent_ok rfl ?_⟩
    ·exact ⟨by show (out.length + 1) + n / 10 ≤ 1099511627776; omega, by rw [← hgo, digX_step hn]⟩
    ·show n / 10 < n
     omega
    ·simp only [cj, cl]
     try dsimp only [Ty.den, Ty.dflt]
     repeat' apply And.intro
     all_goals first | trivial | exact htd | rfl
   ·obtain rfl : n = 0 := by have h : ¬ (0 : Int) < (n : Nat) := of_decide_eq_false c4; omega
    refine sw_exit (sw_seq (xg hP 5 [] rfl ?_ ?_))
    ·simp [conj, maxL, bytesL]
     repeat' apply And.intro
     all_goals first | assumption | omega
    refine sw_ret ⟨.inl rfl, _, rfl, ?_⟩
    simp [conj]
    unfold mkT
    rw [if_neg c1, ← hgo, digX_zero]; rfl
def cMkPls : Ctr := ⟨61, [.mu false T_Place (.all .w), .val false TI pF], fun x => 0 ≤ x.2.1 ∧ nxLs mPlc x.2.1 x.1 ≤ 1000000000, fun x => (sInt .i64 (nxLs mPlc x.2.1 x.1), [(⟨0, 0, 0⟩, .sl T_Place (.all .w) (mkLs mPlc x.2.1 x.1))])⟩
theorem cMkPls_ok : CtrOk Proofs.Tryz.prog cMkPls := by
 have hP := (Prg.none ttok mtok)
 refine ctr_of_body hP cMkPls (fn := Proofs.Tryz.f61) (rts := [.tmp 4]) Proofs.Tryz.func61 rfl (by kernel_rfl) rfl rfl ?_
 rintro ⟨(l : List Plc), (k : Int), ⟨⟩⟩ ⟨hdl, _⟩ ⟨h0, h1⟩
 try dsimp only [Ty.den, Mode.den, mdens] at h0
 try dsimp only [Ty.den, Mode.den, mdens] at h1
 refine ⟨rfl, ?_⟩
 have hml : l.length ≤ 140737488355328 := hdl.1
 replace h0 : 0 ≤ k := h0
 replace h1 : nxLs mPlc k l ≤ 1000000000 := h1
 refine sw_seq (xr hP 1 rfl (sw_seq (sw_seq (xr hP 2 rfl (sw_block (sw_loop (ι := Nat) (fun i => ⟨[.v false [.own ⟨0, 0, 0⟩], sInt .i64 (nxLs mPlc k (l.take i)), .j, .j, .j, sInt .i64 (i : Int), .j, .j, .j, .j, .j, .j, .j, .j, .j, .j, .j, .j, .j, .j, .j, .j, .j, .j, .j, .j, .j], [(⟨0, 0, 0⟩, .sl T_Place (.all .w) (mkLs mPlc k (l.take i) ++ l.drop i))], 2, [[.v false [.own ⟨0, 0, 0⟩], .j]]⟩) (fun i => l.length - i) (fun i => i ≤ l.length) 0 ⟨?_, ?_⟩ ?_))))))
 ·exact Nat.zero_le _
 ·refine ent_ok rfl ?_
  simp [conj, mkLs, nxLs]
 ·rintro i hi
  refine sw_seq (sw_seq (xr hP 3 rfl (sw_cond rfl (fun c2 => ?_) (fun c2 => ?_))))
  ·have hcl := mk_clen (m := mPlc) (k := k) hi
   have hlt : i < l.length := by have h : ((i : Nat) : Int) < ((mkLs mPlc k (l.take i) ++ l.drop i).length : Nat) := of_decide_eq_true c2; omega
   have hnx := mk_next (m := mPlc) (k := k) hlt
   have hnn := nx_next (m := mPlc) (k := k) hlt
   obtain ⟨s1, s2, s3⟩ := nx_split mPlc_ok (k := k) hlt
   have hget := mk_get (m := mPlc) (k := k) hlt
   have hgd : ∀ d, (mkLs mPlc k (l.take i) ++ l.drop i)[i]?.getD d = l[i] := fun d => by rw [hget]; rfl
   have hgi : ∀ h, (mkLs mPlc k (l.take i) ++ l.drop i)[i]'h = l[i] := fun h => by have h2 := hget; rw [gE h] at h2; exact Option.some.inj h2
   generalize hQ : (nxLs mPlc k (l.take i)) = Q at *
   replace s2 : Q ≤ Q + 1 + 1 := s2
   replace s3 : Q + 1 + 1 ≤ nxLs mPlc k l := s3
   refine sw_skip (sw_seq (sw_block (sw_seq (xg hP 4 [] rfl ?_ ?_))))
   ·simp [conj, hget, hgd, hgi, hcl, List.getElem?_set, hlt]
    repeat' apply And.intro
    all_goals first | trivial | assumption | omega
   refine sw_seq (xg hP 5 [] rfl ?_ ?_)
   ·simp [conj, hget, hgd, hgi, hcl, List.getElem?_set, hlt]
    repeat' apply And.intro
    all_goals first | trivial | assumption | omega
   refine sw_seq (xg hP 6 [] rfl ?_ ?_)
   ·simp [conj, hget, hgd, hgi, hcl, List.getElem?_set, hlt]
    repeat' apply And.intro
    all_goals first | trivial | assumption | omega
   refine xg hP 7 [] rfl ?_ ?_
   ·simp [conj, hget, hgd, hgi, hcl, List.getElem?_set, hlt]
    repeat' apply And.intro
    all_goals first | trivial | assumption | omega
   refine xg hP 8 [] rfl ?_ ?_
   ·simp only [cj, cl]
    try dsimp only [Ty.den, Ty.dflt]
    repeat' apply And.intro
    all_goals first | rfl | omega | assumption | trivial
   refine ⟨i + 1, ?_, ?_, ent_ok rfl ?_⟩
   ·exact hlt
   ·omega
   ·rw [hnn]
    simp [conj, hget, hgd, hgi, hcl, List.getElem?_set, hlt]
    repeat' apply And.intro
    all_goals first | rfl | exact hnx | omega
  ·have hcl := mk_clen (m := mPlc) (k := k) hi
   obtain rfl : i = l.length := by have h : ¬ ((i : Nat) : Int) < ((mkLs mPlc k (l.take i) ++ l.drop i).length : Nat) := of_decide_eq_false c2; omega
   refine sw_exit (sw_seq (xr hP 4 rfl (sw_ret ⟨.inl rfl, _, rfl, ?_⟩)))
   simp [conj]
def cMkPtrs : Ctr := ⟨158, [.mu false T_Ptr (.all .w), .val false TI pF], fun x => 0 ≤ x.2.1 ∧ nxLs mPtr x.2.1 x.1 ≤ 1000000000, fun x => (sInt .i64 (nxLs mPtr x.2.1 x.1), [(⟨0, 0, 0⟩, .sl T_Ptr (.all .w) (mkLs mPtr x.2.1 x.1))])⟩
theorem cMkPtrs_ok : CtrOk Proofs.Tryz.prog cMkPtrs := by
 have hP := ((Prg.none ttok mtok).and cMkPls_ok)
 refine ctr_of_body hP cMkPtrs (fn := Proofs.Tryz.f158) (rts := [.tmp 4]) Proofs.Tryz.func158 rfl (by kernel_rfl) rfl rfl ?_
 rintro ⟨(l : List Ptr_), (k : Int), ⟨⟩⟩ ⟨hdl, _⟩ ⟨h0, h1⟩
 try dsimp only [Ty.den, Mode.den, mdens] at h0
 try dsimp only [Ty.den, Mode.den, mdens] at h1
 refine ⟨rfl, ?_⟩
 have hml : l.length ≤ 140737488355328 := hdl.1
 replace h0 : 0 ≤ k := h0
 replace h1 : nxLs mPtr k l ≤ 1000000000 := h1
 refine sw_seq (xr hP 1 rfl (sw_seq (sw_seq (xr hP 2 rfl (sw_block (sw_loop (ι := Nat) (fun i => ⟨[.v false [.own ⟨0, 0, 0⟩], sInt .i64 (nxLs mPtr k (l.take i)), .j, .j, .j, sInt .i64 (i : Int), .j, .j, .j, .j, .j, .j, .j, .j, .j, .j, .j, .j, .j, .j, .j, .j, .j, .j, .j, .j, .j, .j, .j, .j, .j, .j, .j, .j], [(⟨0, 0, 0⟩, .sl T_Ptr (.all .w) (mkLs mPtr k (l.take i) ++ l.drop i))], 2, [[.v false [.own ⟨0, 0, 0⟩], .j]]⟩) (fun i => l.length - i) (fun i => i ≤ l.length) 0 ⟨?_, ?_⟩ ?_))))))
 ·exact Nat.zero_le _
 ·refine ent_ok rfl ?_
  simp [conj, mkLs, nxLs]
 ·rintro i hi
  refine sw_seq (sw_seq (xr hP 3 rfl (sw_cond rfl (fun c2 => ?_) (fun c2 => ?_))))
  ·have hcl := mk_clen (m := mPtr) (k := k) hi
   have hlt : i < l.length := by have h : ((i : Nat) : Int) < ((mkLs mPtr k (l.take i) ++ l.drop i).length : Nat) := of_decide_eq_true c2; omega
   have hnx := mk_next (m := mPtr) (k := k) hlt
   have hnn := nx_next (m := mPtr) (k := k) hlt
   obtain ⟨s1, s2, s3⟩ := nx_split mPtr_ok (k := k) hlt
   have hget := mk_get (m := mPtr) (k := k) hlt
   have hgd : ∀ d, (mkLs mPtr k (l.take i) ++ l.drop i)[i]?.getD d = l[i] := fun d => by rw [hget]; rfl
   have hgi : ∀ h, (mkLs mPtr k (l.take i) ++ l.drop i)[i]'h = l[i] := fun h => by have h2 := hget; rw [gE h] at h2; exact Option.some.inj h2
   generalize hQ : (nxLs mPtr k (l.take i)) = Q at *
   have s4 : Q + 1 + 1 ≤ nxLs mPlc (Q + 1 + 1) l[i].2.2 := (mkList_ok mPlc_ok).ge _ _
   replace s3 : nxLs mPlc (Q + 1 + 1) l[i].2.2 ≤ nxLs mPtr k l := s3
   refine sw_skip (sw_seq (sw_block (sw_seq (xg hP 4 [] rfl ?_ ?_))))
   ·simp [conj, hget, hgd, hgi, hcl, List.getElem?_set, hlt]
    repeat' apply And.intro
    all_goals first | trivial | assumption | omega | (show 0 ≤ Q + 1 + 1; omega) | (show nxLs mPlc (Q + 1 + 1) l[i].2.2 ≤ _; omega)
   refine sw_seq (xg hP 5 [] rfl ?_ ?_)
   ·simp [conj, hget, hgd, hgi, hcl, List.getElem?_set, hlt]
    repeat' apply And.intro
    all_goals first | trivial | assumption | omega | (show 0 ≤ Q + 1 + 1; omega) | (show nxLs mPlc (Q + 1 + 1) l[i].2.2 ≤ _; omega)
   refine sw_seq (xg hP 6 [] rfl ?_ ?_)
   ·simp [conj, hget, hgd, hgi, hcl, List.getElem?_set, hlt]
    repeat' apply And.intro
    all_goals first | trivial | assumption | omega | (show 0 ≤ Q + 1 + 1; omega) | (show nxLs mPlc (Q + 1 + 1) l[i].2.2 ≤ _; omega)
   refine sw_seq (xg hP 7 [] rfl ?_ ?_)
   ·simp [conj, hget, hgd, hgi, hcl, List.getElem?_set, hlt]
    repeat' apply And.intro
    all_goals first | trivial | assumption | omega | (show 0 ≤ Q + 1 + 1; omega) | (show nxLs mPlc (Q + 1 + 1) l[i].2.2 ≤ _; omega)
   refine xg hP 8 [] rfl ?_ ?_
   ·simp [conj, hget, hgd, hgi, hcl, List.getElem?_set, hlt]
    repeat' apply And.intro
    all_goals first | trivial | assumption | omega | (show 0 ≤ Q + 1 + 1; omega) | (show nxLs mPlc (Q + 1 + 1) l[i].2.2 ≤ _; omega)
   refine xg hP 9 [] rfl ?_ ?_
   ·simp only [cj, cl]
    try dsimp only [Ty.den, Ty.dflt]
    repeat' apply And.intro
    all_goals first | rfl | omega | assumption | trivial
   refine ⟨i + 1, ?_, ?_, ent_ok rfl ?_⟩
   ·exact hlt
   ·omega
   ·rw [hnn]
    simp [conj, hget, hgd, hgi, hcl, List.getElem?_set, hlt]
    repeat' apply And.intro
    all_goals first | rfl | exact hnx | omega
  ·have hcl := mk_clen (m := mPtr) (k := k) hi
   obtain rfl : i = l.length := by have h : ¬ ((i : Nat) : Int) < ((mkLs mPtr k (l.take i) ++ l.drop i).length : Nat) := of_decide_eq_false c2; omega
   refine sw_exit (sw_seq (xr hP 4 rfl (sw_ret ⟨.inl rfl, _, rfl, ?_⟩)))
   simp [conj]
def cMkVols : Ctr := ⟨126, [.mu false T_Vol (.all .w), .val false TI pF], fun x => 0 ≤ x.2.1 ∧ nxLs mVol x.2.1 x.1 ≤ 1000000000, fun x => (sInt .i64 (nxLs mVol x.2.1 x.1), [(⟨0, 0, 0⟩, .sl T_Vol (.all .w) (mkLs mVol x.2.1 x.1))])⟩
theorem cMkVols_ok : CtrOk Proofs.Tryz.prog cMkVols := by
 have hP := (((Prg.none ttok mtok).and cMkT_ok).and cMkPtrs_ok)
 refine ctr_of_body hP cMkVols (fn := Proofs.Tryz.f126) (rts := [.tmp 4]) Proofs.Tryz.func126 rfl (by kernel_rfl) rfl rfl ?_
 rintro ⟨(l : List Vol_), (k : Int), ⟨⟩⟩ ⟨hdl, _⟩ ⟨h0, h1⟩
 try dsimp only [Ty.den, Mode.den, mdens] at h0
 try dsimp only [Ty.den, Mode.den, mdens] at h1
 refine ⟨rfl, ?_⟩
 have hml : l.length ≤ 140737488355328 := hdl.1
 replace h0 : 0 ≤ k := h0
 replace h1 : nxLs mVol k l ≤ 1000000000 := h1
 refine sw_seq (xr hP 1 rfl (sw_seq (sw_seq (xr hP 2 rfl (sw_block (sw_loop (ι := Nat) (fun i => ⟨[.v false [.own ⟨0, 0, 0⟩], sInt .i64 (nxLs mVol k (l.take i)), .j, .j, .j, sInt .i64 (i : Int), .j, .j, .j, .j, .j, .j, .j, .j, .j, .j, .j, .j, .j, .j, .j, .j, .j, .j, .j, .j, .j, .j], [(⟨0, 0, 0⟩, .sl T_Vol (.all .w) (mkLs mVol k (l.take i) ++ l.drop i))], 2, [[.v false [.own ⟨0, 0, 0⟩], .j]]⟩) (fun i => l.length - i) (fun i => i ≤ l.length) 0 ⟨?_, ?_⟩ ?_))))))
 ·exact Nat.zero_le _
 ·refine ent_ok rfl ?_
  simp [conj, mkLs, nxLs]
 ·rintro i hi
  refine sw_seq (sw_seq (xr hP 3 rfl (sw_cond rfl (fun c2 => ?_) (fun c2 => ?_))))
  ·have hcl := mk_clen (m := mVol) (k := k) hi
   have hlt : i < l.length := by have h : ((i : Nat) : Int) < ((mkLs mVol k (l.take i) ++ l.drop i).length : Nat) := of_decide_eq_true c2; omega
   have hnx := mk_next (m := mVol) (k := k) hlt
   have hnn := nx_next (m := mVol) (k := k) hlt
   obtain ⟨s1, s2, s3⟩ := nx_split mVol_ok (k := k) hlt
   have hget := mk_get (m := mVol) (k := k) hlt
   have hgd : ∀ d, (mkLs mVol k (l.take i) ++ l.drop i)[i]?.getD d = l[i] := fun d => by rw [hget]; rfl
   have hgi : ∀ h, (mkLs mVol k (l.take i) ++ l.drop i)[i]'h = l[i] := fun h => by have h2 := hget; rw [gE h] at h2; exact Option.some.inj h2
   generalize hQ : (nxLs mVol k (l.take i)) = Q at *
   have s4 : Q + 1 ≤ nxLs mPtr (Q + 1) l[i].2 := (mkList_ok mPtr_ok).ge _ _
   replace s3 : nxLs mPtr (Q + 1) l[i].2 ≤ nxLs mVol k l := s3
   refine sw_skip (sw_seq (sw_block (sw_seq (xg hP 4 [] rfl ?_ ?_))))
   ·simp [conj, hget, hgd, hgi, hcl, List.getElem?_set, hlt]
    repeat' apply And.intro
    all_goals first | trivial | assumption | omega | (show Q ≤ 1099511627776; omega) | (show 0 ≤ Q + 1; omega) | (show nxLs mPtr (Q + 1) l[i].2 ≤ _; omega)
   refine sw_seq (xg hP 5 [] rfl ?_ ?_)
   ·simp [conj, hget, hgd, hgi, hcl, List.getElem?_set, hlt]
    repeat' apply And.intro
    all_goals first | trivial | assumption | omega | (show Q ≤ 1099511627776; omega) | (show 0 ≤ Q + 1; omega) | (show nxLs mPtr (Q + 1) l[i].2 ≤ _; omega)
   refine xg hP 6 [] rfl ?_ ?_
   ·simp [conj, hget, hgd, hgi, hcl, List.getElem?_set, hlt]
    repeat' apply And.intro
    all_goals first | trivial | assumption | omega | (show Q ≤ 1099511627776; omega) | (show 0 ≤ Q + 1; omega) | (show nxLs mPtr (Q + 1) l[i].2 ≤ _; omega)
   refine xg hP 7 [] rfl ?_ ?_
   ·simp only [cj, cl]
    try dsimp only [Ty.den, Ty.dflt]
    repeat' apply And.intro
    all_goals first | rfl | omega | assumption | trivial
   refine ⟨i + 1, ?_, ?_, ent_ok rfl ?_⟩
   ·exact hlt
   ·omega
   ·rw [hnn]
    simp [conj, hget, hgd, hgi, hcl, List.getElem?_set, hlt]
    repeat' apply And.intro
    all_goals first | rfl | exact hnx | omega
  ·have hcl := mk_clen (m := mVol) (k := k) hi
   obtain rfl : i = l.length := by have h : ¬ ((i : Nat) : Int) < ((mkLs mVol k (l.take i) ++ l.drop i).length : Nat) := of_decide_eq_false c2; omega
   refine sw_exit (sw_seq (xr hP 4 rfl (sw_ret ⟨.inl rfl, _, rfl, ?_⟩)))
   simp [conj]
def cMkRoot (r : Root_) (k : Int) (a : Id) : Xctr := ⟨72, [(a, ⟨0, 0, 1⟩, .sl T_Vol (.all .w) r.2)], [], [.v true [.d TI pF r.1, .own ⟨0, 0, 1⟩], sInt .i64 k],
  (sInt .i64 (nxLs mVol k r.2), [(⟨0, 0, 1⟩, .sl T_Vol (.all .w) (mkLs mVol k r.2))])⟩
theorem cMkRoot_ok {r : Root_} {k : Int} {a : Id} (h0 : 0 ≤ k) (h1 : nxLs mVol k r.2 ≤ 1000000000) : XOk Proofs.Tryz.prog (cMkRoot r k a) := by
 have hP := ((Prg.none ttok mtok).and cMkVols_ok)
 refine xctr_of_body hP (cMkRoot r k a) (fn := Proofs.Tryz.f72) (rts := [.tmp 4]) Proofs.Tryz.func72 rfl (by kernel_rfl) rfl rfl ?_
 refine ⟨rfl, ?_⟩
 refine sw_seq (xr hP 1 rfl (sw_seq (xg hP 2 [] rfl ?_ ?_)))
 ·simp [conj, maxL]
  try dsimp only [Ty.den, Ty.dflt]
  try simp only [rd_eta]
  exact ⟨h0, h1⟩
 refine sw_seq (xr hP 3 rfl (sw_ret ⟨.inl rfl, _, rfl, ?_⟩))
 simp [conj]
end Go.Sx

namespace Go.Sx
open Go
set_option maxRecDepth 100000
set_option linter.unusedVariables false
set_option linter.unusedSimpArgs false
set_option maxHeartbeats 2000000
def cHdPls : Ctr := ⟨177, [.val false (.sl T_Place) (.all .b), .val false TI pF], fun x => 0 ≤ x.2.1 ∧ nxLs mPlc x.2.1 x.1 ≤ 1000000000, fun x => (sInt .i64 (hdLs mPlc x.2.1 x.1), [])⟩
theorem cHdPls_ok : CtrOk Proofs.Tryz.prog cHdPls := by
 have hP := (Prg.none ttok mtok)
 refine ctr_of_body hP cHdPls (fn := Proofs.Tryz.f177) (rts := [.tmp 4]) Proofs.Tryz.func177 rfl (by kernel_rfl) rfl rfl ?_
 rintro ⟨(l : List Plc), (k : Int), ⟨⟩⟩ ⟨hdl, _⟩ ⟨h0, h1⟩
 try dsimp only [Ty.den, Mode.den, mdens] at h0
 try dsimp only [Ty.den, Mode.den, mdens] at h1
 refine ⟨rfl, ?_⟩
 have hml : l.length ≤ 140737488355328 := hdl.1
 replace h0 : 0 ≤ k := h0
 replace h1 : nxLs mPlc k l ≤ 1000000000 := h1
 refine sw_seq (xr hP 1 rfl (sw_seq (sw_seq (xr hP 2 rfl (sw_block (sw_loop (ι := Nat × Int) (fun ⟨i, q⟩ => ⟨[.v false [.d (.sl T_Place) (.all .b) l], sInt .i64 q, .j, .j, .j, sInt .i64 (i : Int), .j, .j, .j, .j, .j, .j, .j, .j, .j, .j, .j, .j, .j, .j, .j, .j, .j, .j, .j, .j, .j, .j, .j, .j, .j], [], 2, []⟩) (fun ⟨i, q⟩ => l.length - i) (fun ⟨i, q⟩ => i ≤ l.length ∧ 0 ≤ q ∧ hdLs mPlc q (l.drop i) = hdLs mPlc k l ∧ nxLs mPlc q (l.drop i) ≤ 1000000000) (0, k) ⟨?_, ?_⟩ ?_))))))
 ·exact ⟨Nat.zero_le _, h0, rfl, h1⟩
 ·refine ent_ok rfl ?_
  simp [conj]
 ·rintro ⟨i, q⟩ ⟨hi, hq, hgo, hb⟩
  refine sw_seq (sw_seq (xr hP 3 rfl (sw_cond rfl (fun c2 => ?_) (fun c2 => ?_))))
  ·have hlt : i < l.length := by simpa using c2
   obtain ⟨s1, s2, s3⟩ := nx_drop mPlc_ok (q := q) hlt
   rw [s1] at hb
   have hp0 : ¬ q + 1 < 0 := by omega
   replace s2 : q ≤ q + 1 + 1 := s2
   replace s3 : q + 1 + 1 ≤ nxLs mPlc (q + 1 + 1) (l.drop (i + 1)) := s3
   replace hb : nxLs mPlc (q + 1 + 1) (l.drop (i + 1)) ≤ 1000000000 := hb
   refine sw_skip (sw_seq (sw_block (sw_seq (sw_seq (xg hP 4 [] rfl ?_ ?_)))))
   ·simp [conj, gE hlt]
    repeat' apply And.intro
    all_goals first | trivial | assumption | omega
   refine sw_cond rfl (fun c4 => ?_) (fun c4 => ?_)
   ·replace c4 : ¬ l[i].1 = q := by simpa [gE hlt] using c4
    have hn : mPlc.hd q l[i] < 0 := by simp [mPlc, mkPair, mkI, mkStr, mkBool, mkOne, mkList, mkNo, c4, hp0]
    refine sw_seq (xg hP 5 [] rfl ?_ ?_)
    ·simp [conj, gE hlt]
     repeat' apply And.intro
     all_goals first | trivial | assumption | omega
    refine sw_ret ⟨.inl rfl, _, rfl, ?_⟩
    simp [conj]
    exact (hd_hit hlt hgo hn).symm
   ·replace c4 : l[i].1 = q := by simpa [gE hlt] using c4
    refine sw_skip (sw_seq (xg hP 5 [] rfl ?_ ?_))
    ·simp [conj, gE hlt]
     repeat' apply And.intro
     all_goals first | trivial | assumption | omega
    refine sw_seq (sw_seq (xg hP 6 [] rfl ?_ ?_))
    ·simp [conj, gE hlt]
     repeat' apply And.intro
     all_goals first | trivial | assumption | omega
    refine sw_cond rfl (fun c7 => ?_) (fun c7 => ?_)
    ·replace c7 : ¬ l[i].2 = q + 1 := by simpa [gE hlt] using c7
     have hn : mPlc.hd q l[i] < 0 := by simp [mPlc, mkPair, mkI, mkStr, mkBool, mkOne, mkList, mkNo, c4, c7, hp0]
     refine sw_seq (xg hP 7 [] rfl ?_ ?_)
     ·simp [conj, gE hlt]
      repeat' apply And.intro
      all_goals first | trivial | assumption | omega
     refine sw_ret ⟨.inl rfl, _, rfl, ?_⟩
     simp [conj]
     exact (hd_hit hlt hgo hn).symm
    ·replace c7 : l[i].2 = q + 1 := by simpa [gE hlt] using c7
     have hv : mPlc.hd q l[i] = q + 1 + 1 := by simp [mPlc, mkPair, mkI, mkStr, mkBool, mkOne, mkList, mkNo, c4, c7, hp0]
     refine sw_skip (xg hP 7 [] rfl ?_ ?_)
     ·simp [conj, gE hlt]
      repeat' apply And.intro
      all_goals first | trivial | assumption | omega
     refine xg hP 8 [] rfl ?_ ?_
     ·simp only [cj, cl]
      try dsimp only [Ty.den, Ty.dflt]
      repeat' apply And.intro
      all_goals first | rfl | omega | assumption | trivial
     refine ⟨(i + 1, q + 1 + 1), ?_, ?_, ent_ok rfl ?_⟩
     ·have hnn : ¬ mPlc.hd q l[i] < 0 := by rw [hv]; omega
      have hgn := hd_next hlt hgo hnn
      have hpo := hd_pos mPlc_ok hnn
      have hbn : nxLs mPlc (q + 1 + 1) (l.drop (i + 1)) ≤ 1000000000 := by rw [← hv, hpo]; exact hb
      rw [hv] at hgn
      exact ⟨hlt, by show 0 ≤ q + 1 + 1; omega, hgn, hbn⟩
     ·show l.length - (i + 1) < l.length - i
      omega
     ·simp [conj, gE hlt]
  ·obtain rfl : i = l.length := by simp at c2; omega
   refine sw_exit (sw_seq (xr hP 4 rfl (sw_ret ⟨.inl rfl, _, rfl, ?_⟩)))
   simp [conj]
   exact (hd_end hgo).symm
def cHdPtrs : Ctr := ⟨159, [.val false (.sl T_Ptr) (.all .b), .val false TI pF], fun x => 0 ≤ x.2.1 ∧ nxLs mPtr x.2.1 x.1 ≤ 1000000000, fun x => (sInt .i64 (hdLs mPtr x.2.1 x.1), [])⟩
theorem cHdPtrs_ok : CtrOk Proofs.Tryz.prog cHdPtrs := by
 have hP := ((Prg.none ttok mtok).and cHdPls_ok)
 refine ctr_of_body hP cHdPtrs (fn := Proofs.Tryz.f159) (rts := [.tmp 4]) Proofs.Tryz.func159 rfl (by kernel_rfl) rfl rfl ?_
 rintro ⟨(l : List Ptr_), (k : Int), ⟨⟩⟩ ⟨hdl, _⟩ ⟨h0, h1⟩
 try dsimp only [Ty.den, Mode.den, mdens] at h0
 try dsimp only [Ty.den, Mode.den, mdens] at h1
 refine ⟨rfl, ?_⟩
 have hml : l.length ≤ 140737488355328 := hdl.1
 replace h0 : 0 ≤ k := h0
 replace h1 : nxLs mPtr k l ≤ 1000000000 := h1
 refine sw_seq (xr hP 1 rfl (sw_seq (sw_seq (xr hP 2 rfl (sw_block (sw_loop (ι := Nat × Int) (fun ⟨i, q⟩ => ⟨[.v false [.d (.sl T_Ptr) (.all .b) l], sInt .i64 q, .j, .j, .j, sInt .i64 (i : Int), .j, .j, .j, .j, .j, .j, .j, .j, .j, .j, .j, .j, .j, .j, .j, .j, .j, .j, .j, .j, .j, .j, .j, .j, .j, .j, .j, .j, .j, .j, .j, .j, .j, .j], [], 2, []⟩) (fun ⟨i, q⟩ => l.length - i) (fun ⟨i, q⟩ => i ≤ l.length ∧ 0 ≤ q ∧ hdLs mPtr q (l.drop i) = hdLs mPtr k l ∧ nxLs mPtr q (l.drop i) ≤ 1000000000) (0, k) ⟨?_, ?_⟩ ?_))))))
 ·exact ⟨Nat.zero_le _, h0, rfl, h1⟩
 ·refine ent_ok rfl ?_
  simp [conj]
 ·rintro ⟨i, q⟩ ⟨hi, hq, hgo, hb⟩
  refine sw_seq (sw_seq (xr hP 3 rfl (sw_cond rfl (fun c2 => ?_) (fun c2 => ?_))))
  ·have hlt : i < l.length := by simpa using c2
   obtain ⟨s1, s2, s3⟩ := nx_drop mPtr_ok (q := q) hlt
   rw [s1] at hb
   have hp0 : ¬ q + 1 < 0 := by omega
   have hp1 : ¬ q + 1 + 1 < 0 := by omega
   have s4 : q + 1 + 1 ≤ nxLs mPlc (q + 1 + 1) l[i].2.2 := (mkList_ok mPlc_ok).ge _ _
   replace s3 : nxLs mPlc (q + 1 + 1) l[i].2.2 ≤ nxLs mPtr (nxLs mPlc (q + 1 + 1) l[i].2.2) (l.drop (i + 1)) := s3
   have hb2 : nxLs mPtr (nxLs mPlc (q + 1 + 1) l[i].2.2) (l.drop (i + 1)) ≤ 1000000000 := hb
   refine sw_skip (sw_seq (sw_block (sw_seq (sw_seq (xg hP 4 [] rfl ?_ ?_)))))
   ·simp [conj, gE hlt]
    repeat' apply And.intro
    all_goals first | trivial | assumption | omega | (show 0 ≤ q + 1 + 1; omega) | (show nxLs mPlc (q + 1 + 1) l[i].2.2 ≤ _; omega)
   refine sw_cond rfl (fun c4 => ?_) (fun c4 => ?_)
   ·replace c4 : ¬ l[i].1 = q := by simpa [gE hlt] using c4
    have hn : mPtr.hd q l[i] < 0 := by simp [mPtr, mkPair, mkI, mkStr, mkBool, mkOne, mkList, mkNo, c4, hp0, hp1]
    refine sw_seq (xg hP 5 [] rfl ?_ ?_)
    ·simp [conj, gE hlt]
     repeat' apply And.intro
     all_goals first | trivial | assumption | omega | (show 0 ≤ q + 1 + 1; omega) | (show nxLs mPlc (q + 1 + 1) l[i].2.2 ≤ _; omega)
    refine sw_ret ⟨.inl rfl, _, rfl, ?_⟩
    simp [conj]
    exact (hd_hit hlt hgo hn).symm
   ·replace c4 : l[i].1 = q := by simpa [gE hlt] using c4
    refine sw_skip (sw_seq (xg hP 5 [] rfl ?_ ?_))
    ·simp [conj, gE hlt]
     repeat' apply And.intro
     all_goals first | trivial | assumption | omega | (show 0 ≤ q + 1 + 1; omega) | (show nxLs mPlc (q + 1 + 1) l[i].2.2 ≤ _; omega)
    refine sw_seq (sw_seq (xg hP 6 [] rfl ?_ ?_))
    ·simp [conj, gE hlt]
     repeat' apply And.intro
     all_goals first | trivial | assumption | omega | (show 0 ≤ q + 1 + 1; omega) | (show nxLs mPlc (q + 1 + 1) l[i].2.2 ≤ _; omega)
    refine sw_cond rfl (fun c7 => ?_) (fun c7 => ?_)
    ·replace c7 : ¬ l[i].2.1 = q + 1 := by simpa [gE hlt] using c7
     have hn : mPtr.hd q l[i] < 0 := by simp [mPtr, mkPair, mkI, mkStr, mkBool, mkOne, mkList, mkNo, c4, c7, hp0, hp1]
     refine sw_seq (xg hP 7 [] rfl ?_ ?_)
     ·simp [conj, gE hlt]
      repeat' apply And.intro
      all_goals first | trivial | assumption | omega | (show 0 ≤ q + 1 + 1; omega) | (show nxLs mPlc (q + 1 + 1) l[i].2.2 ≤ _; omega)
     refine sw_ret ⟨.inl rfl, _, rfl, ?_⟩
     simp [conj]
     exact (hd_hit hlt hgo hn).symm
    ·replace c7 : l[i].2.1 = q + 1 := by simpa [gE hlt] using c7
     refine sw_skip (sw_seq (xg hP 7 [] rfl ?_ ?_))
     ·simp [conj, gE hlt]
      repeat' apply And.intro
      all_goals first | trivial | assumption | omega | (show 0 ≤ q + 1 + 1; omega) | (show nxLs mPlc (q + 1 + 1) l[i].2.2 ≤ _; omega)
     refine sw_seq (xg hP 8 [] rfl ?_ ?_)
     ·simp [conj, gE hlt]
      repeat' apply And.intro
      all_goals first | trivial | assumption | omega | (show 0 ≤ q + 1 + 1; omega) | (show nxLs mPlc (q + 1 + 1) l[i].2.2 ≤ _; omega)
     refine sw_seq (xg hP 9 [] rfl ?_ ?_)
     ·simp [conj, gE hlt]
      repeat' apply And.intro
      all_goals first | trivial | assumption | omega | (show 0 ≤ q + 1 + 1; omega) | (show nxLs mPlc (q + 1 + 1) l[i].2.2 ≤ _; omega)
     refine sw_cond rfl (fun c11 => ?_) (fun c11 => ?_)
     ·replace c11 : hdLs mPlc (q + 1 + 1) l[i].2.2 < 0 := by simpa [gE hlt] using c11
      have hn : mPtr.hd q l[i] < 0 := by simp [mPtr, mkPair, mkI, mkStr, mkBool, mkOne, mkList, mkNo, c4, c7, c11, hp0, hp1]
      refine sw_seq (xg hP 10 [] rfl ?_ ?_)
      ·simp [conj, gE hlt]
       repeat' apply And.intro
       all_goals first | trivial | assumption | omega | (show 0 ≤ q + 1 + 1; omega) | (show nxLs mPlc (q + 1 + 1) l[i].2.2 ≤ _; omega)
      refine sw_ret ⟨.inl rfl, _, rfl, ?_⟩
      simp [conj]
      exact (hd_hit hlt hgo hn).symm
     ·replace c11 : ¬ hdLs mPlc (q + 1 + 1) l[i].2.2 < 0 := by simpa [gE hlt] using c11
      have e0 := hd_pos (mkList_ok mPlc_ok) c11
      have hv : mPtr.hd q l[i] = hdLs mPlc (q + 1 + 1) l[i].2.2 := by simp [mPtr, mkPair, mkI, mkStr, mkBool, mkOne, mkList, mkNo, c4, c7, c11, hp0, hp1]
      refine sw_skip (xg hP 10 [] rfl ?_ ?_)
      ·simp only [cj, cl]
       try dsimp only [Ty.den, Ty.dflt]
       repeat' apply And.intro
       all_goals first | rfl | omega | assumption | trivial
      refine ⟨(i + 1, hdLs mPlc (q + 1 + 1) l[i].2.2), ?_, ?_, ent_ok rfl ?_⟩
      ·have hnn : ¬ mPtr.hd q l[i] < 0 := by rw [hv]; omega
       have hgn := hd_next hlt hgo hnn
       have hpo := hd_pos mPtr_ok hnn
       have hbn : nxLs mPtr (hdLs mPlc (q + 1 + 1) l[i].2.2) (l.drop (i + 1)) ≤ 1000000000 := by rw [← hv, hpo]; exact hb
       rw [hv] at hgn
       exact ⟨hlt, by show 0 ≤ hdLs mPlc (q + 1 + 1) l[i].2.2; omega, hgn, hbn⟩
      ·show l.length - (i + 1) < l.length - i
       omega
      ·simp [conj, gE hlt]
  ·obtain rfl : i = l.length := by simp at c2; omega
   refine sw_exit (sw_seq (xr hP 4 rfl (sw_ret ⟨.inl rfl, _, rfl, ?_⟩)))
   simp [conj]
   exact (hd_end hgo).symm
def cHdVols : Ctr := ⟨127, [.val false (.sl T_Vol) (.all .b), .val false TI pF], fun x => 0 ≤ x.2.1 ∧ nxLs mVol x.2.1 x.1 ≤ 1000000000, fun x => (sInt .i64 (hdLs mVol x.2.1 x.1), [])⟩
theorem cHdVols_ok : CtrOk Proofs.Tryz.prog cHdVols := by
 have hP := (((Prg.none ttok mtok).and cMkT_ok).and cHdPtrs_ok)
 refine ctr_of_body hP cHdVols (fn := Proofs.Tryz.f127) (rts := [.tmp 4]) Proofs.Tryz.func127 rfl (by kernel_rfl) rfl rfl ?_
 rintro ⟨(l : List Vol_), (k : Int), ⟨⟩⟩ ⟨hdl, _⟩ ⟨h0, h1⟩
 try dsimp only [Ty.den, Mode.den, mdens] at h0
 try dsimp only [Ty.den, Mode.den, mdens] at h1
 refine ⟨rfl, ?_⟩
 have hml : l.length ≤ 140737488355328 := hdl.1
 replace h0 : 0 ≤ k := h0
 replace h1 : nxLs mVol k l ≤ 1000000000 := h1
 refine sw_seq (xr hP 1 rfl (sw_seq (sw_seq (xr hP 2 rfl (sw_block (sw_loop (ι := Nat × Int) (fun ⟨i, q⟩ => ⟨[.v false [.d (.sl T_Vol) (.all .b) l], sInt .i64 q, .j, .j, .j, sInt .i64 (i : Int), .j, .j, .j, .j, .j, .j, .j, .j, .j, .j, .j, .j, .j, .j, .j, .j, .j, .j, .j, .j, .j, .j, .j, .j, .j, .j], [], 2, []⟩) (fun ⟨i, q⟩ => l.length - i) (fun ⟨i, q⟩ => i ≤ l.length ∧ 0 ≤ q ∧ hdLs mVol q (l.drop i) = hdLs mVol k l ∧ nxLs mVol q (l.drop i) ≤ 1000000000) (0, k) ⟨?_, ?_⟩ ?_))))))
 ·exact ⟨Nat.zero_le _, h0, rfl, h1⟩
 ·refine ent_ok rfl ?_
  simp [conj]
 ·rintro ⟨i, q⟩ ⟨hi, hq, hgo, hb⟩
  refine sw_seq (sw_seq (xr hP 3 rfl (sw_cond rfl (fun c2 => ?_) (fun c2 => ?_))))
  ·have hlt : i < l.length := by simpa using c2
   obtain ⟨s1, s2, s3⟩ := nx_drop mVol_ok (q := q) hlt
   rw [s1] at hb
   have hp0 : ¬ q + 1 < 0 := by omega
   have s4 : q + 1 ≤ nxLs mPtr (q + 1) l[i].2 := (mkList_ok mPtr_ok).ge _ _
   replace s3 : nxLs mPtr (q + 1) l[i].2 ≤ nxLs mVol (nxLs mPtr (q + 1) l[i].2) (l.drop (i + 1)) := s3
   have hb2 : nxLs mVol (nxLs mPtr (q + 1) l[i].2) (l.drop (i + 1)) ≤ 1000000000 := hb
   refine sw_skip (sw_seq (sw_block (sw_seq (sw_seq (xg hP 4 [] rfl ?_ ?_)))))
   ·simp [conj, gE hlt]
    repeat' apply And.intro
    all_goals first | trivial | assumption | omega | (show q ≤ 1099511627776; omega) | (show 0 ≤ q + 1; omega) | (show nxLs mPtr (q + 1) l[i].2 ≤ _; omega)
   refine sw_cond rfl (fun c4 => ?_) (fun c4 => ?_)
   ·replace c4 : ¬ l[i].1 = mkT q := by simpa [gE hlt] using c4
    have hn : mVol.hd q l[i] < 0 := by simp [mVol, mkPair, mkI, mkStr, mkBool, mkOne, mkList, mkNo, c4, hp0]
    refine sw_seq (xg hP 5 [] rfl ?_ ?_)
    ·simp [conj, gE hlt]
     repeat' apply And.intro
     all_goals first | trivial | assumption | omega | (show q ≤ 1099511627776; omega) | (show 0 ≤ q + 1; omega) | (show nxLs mPtr (q + 1) l[i].2 ≤ _; omega)
    refine sw_ret ⟨.inl rfl, _, rfl, ?_⟩
    simp [conj]
    exact (hd_hit hlt hgo hn).symm
   ·replace c4 : l[i].1 = mkT q := by simpa [gE hlt] using c4
    refine sw_skip (sw_seq (xg hP 5 [] rfl ?_ ?_))
    ·simp [conj, gE hlt]
     repeat' apply And.intro
     all_goals first | trivial | assumption | omega | (show q ≤ 1099511627776; omega) | (show 0 ≤ q + 1; omega) | (show nxLs mPtr (q + 1) l[i].2 ≤ _; omega)
    refine sw_seq (xg hP 6 [] rfl ?_ ?_)
    ·simp [conj, gE hlt]
     repeat' apply And.intro
     all_goals first | trivial | assumption | omega | (show q ≤ 1099511627776; omega) | (show 0 ≤ q + 1; omega) | (show nxLs mPtr (q + 1) l[i].2 ≤ _; omega)
    refine sw_seq (xg hP 7 [] rfl ?_ ?_)
    ·simp [conj, gE hlt]
     repeat' apply And.intro
     all_goals first | trivial | assumption | omega | (show q ≤ 1099511627776; omega) | (show 0 ≤ q + 1; omega) | (show nxLs mPtr (q + 1) l[i].2 ≤ _; omega)
    refine sw_cond rfl (fun c8 => ?_) (fun c8 => ?_)
    ·replace c8 : hdLs mPtr (q + 1) l[i].2 < 0 := by simpa [gE hlt] using c8
     have hn : mVol.hd q l[i] < 0 := by simp [mVol, mkPair, mkI, mkStr, mkBool, mkOne, mkList, mkNo, c4, c8, hp0]
     refine sw_seq (xg hP 8 [] rfl ?_ ?_)
     ·simp [conj, gE hlt]
      repeat' apply And.intro
      all_goals first | trivial | assumption | omega | (show q ≤ 1099511627776; omega) | (show 0 ≤ q + 1; omega) | (show nxLs mPtr (q + 1) l[i].2 ≤ _; omega)
     refine sw_ret ⟨.inl rfl, _, rfl, ?_⟩
     simp [conj]
     exact (hd_hit hlt hgo hn).symm
    ·replace c8 : ¬ hdLs mPtr (q + 1) l[i].2 < 0 := by simpa [gE hlt] using c8
     have e0 := hd_pos (mkList_ok mPtr_ok) c8
     have hv : mVol.hd q l[i] = hdLs mPtr (q + 1) l[i].2 := by simp [mVol, mkPair, mkI, mkStr, mkBool, mkOne, mkList, mkNo, c4, c8, hp0]
     refine sw_skip (xg hP 8 [] rfl ?_ ?_)
     ·simp only [cj, cl]
      try dsimp only [Ty.den, Ty.dflt]
      repeat' apply And.intro
      all_goals first | rfl | omega | assumption | trivial
     refine ⟨(i + 1, hdLs mPtr (q + 1) l[i].2), ?_, ?_, ent_ok rfl ?_⟩
     ·have hnn : ¬ mVol.hd q l[i] < 0 := by rw [hv]; omega
      have hgn := hd_next hlt hgo hnn
      have hpo := hd_pos mVol_ok hnn
      have hbn : nxLs mVol (hdLs mPtr (q + 1) l[i].2) (l.drop (i + 1)) ≤ 1000000000 := by rw [← hv, hpo]; exact hb
      rw [hv] at hgn
      exact ⟨hlt, by show 0 ≤ hdLs mPtr (q + 1) l[i].2; omega, hgn, hbn⟩
     ·show l.length - (i + 1) < l.length - i
      omega
     ·simp [conj, gE hlt]
  ·obtain rfl : i = l.length := by simp at c2; omega
   refine sw_exit (sw_seq (xr hP 4 rfl (sw_ret ⟨.inl rfl, _, rfl, ?_⟩)))
   simp [conj]
   exact (hd_end hgo).symm
def cHdRoot : Ctr := ⟨73, [.val true T_Root (.all .b), .val false TI pF], fun x => 0 ≤ x.2.1 ∧ nxLs mVol x.2.1 x.1.2 ≤ 1000000000, fun x => (sInt .i64 (hdLs mVol x.2.1 x.1.2), [])⟩
theorem cHdRoot_ok : CtrOk Proofs.Tryz.prog cHdRoot := by
 have hP := ((Prg.none ttok mtok).and cHdVols_ok)
 refine ctr_of_body hP cHdRoot (fn := Proofs.Tryz.f73) (rts := [.tmp 4]) Proofs.Tryz.func73 rfl (by kernel_rfl) rfl rfl ?_
 rintro ⟨⟨(tg : Int), (l : List Vol_)⟩, (k : Int), ⟨⟩⟩ _ ⟨h0, h1⟩
 try dsimp only [Ty.den, Mode.den, mdens] at h0
 try dsimp only [Ty.den, Mode.den, mdens] at h1
 refine ⟨rfl, ?_⟩
 replace h0 : 0 ≤ k := h0
 refine sw_seq (xr hP 1 rfl (sw_seq (xg hP 2 [] rfl ?_ ?_)))
 ·simp [conj, maxL]
  try dsimp only [Ty.den, Ty.dflt]
  try simp only [rd_eta]
  exact ⟨h0, h1⟩
 refine sw_seq (sw_seq (xr hP 3 rfl (sw_cond rfl (fun c2 => ?_) (fun c2 => ?_))))
 ·replace c2 : hdLs mVol k l < 0 := of_decide_eq_true c2
  have hv : hdLs mVol k l = -1 := hd_neg (mkList_ok mVol_ok) h0 c2
  refine sw_seq (xr hP 4 rfl (sw_ret ⟨.inl rfl, _, rfl, ?_⟩))
  simp [conj]
  exact hv.symm
 ·refine sw_skip (sw_seq (xr hP 4 rfl (sw_ret ⟨.inl rfl, _, rfl, ?_⟩)))
  simp [conj]
end Go.Sx
