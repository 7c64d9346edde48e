/- Several texts, one behind the other. -/
import Derived.Test.YtbaifcnfdljhlaaGreatMPstoMD4
import Derived.Test.YtbaifcnfdljhlaaGreatMOpentoMPr
set_option linter.all false
namespace Go.Sx
open Go
set_option maxRecDepth 100000
set_option linter.unusedVariables false
set_option linter.unusedSimpArgs false
def cChgCrash : Ctr := ⟨122, [.val true T_Disk (.all .b), .clo 123 [(false, TI, pF)]], fun _ => True, fun x => (.v true [.d TI pF (crashV x.1 x.2.1.1).1, .own ⟨1, 0, 0⟩, .own ⟨1, 1, 0⟩, .own ⟨1, 2, 0⟩, .own ⟨1, 3, 0⟩], [(⟨1, 0, 0⟩, .sl .str (.all .w) (crashV x.1 x.2.1.1).2.1), (⟨1, 1, 0⟩, .sl .str (.all .w) (crashV x.1 x.2.1.1).2.2.1), (⟨1, 2, 0⟩, .sl .bool (.all .w) (crashV x.1 x.2.1.1).2.2.2.1), (⟨1, 3, 0⟩, .sl T_Put (.all .w) (crashV x.1 x.2.1.1).2.2.2.2)])⟩
theorem cChgCrash_ok : CtrOk Proofs.Tryz.prog cChgCrash := by
 have hP := (Prg.none ttok mtok)
 refine ctr_of_body hP cChgCrash (fn := Proofs.Tryz.f122) (rts := [.cell 4 38]) Proofs.Tryz.func122 rfl (by kernel_rfl) rfl rfl ?_
 rintro ⟨⟨(st : Int), (sl : List Str), (rg : List Str), (sp : List Bool), (wt : List Put)⟩, ⟨(keep : Int), ⟨⟩⟩, ⟨⟩⟩ ⟨_, ⟨hk, _⟩, _⟩ _
 try dsimp only [Ty.den, Mode.den, mdens] at _
 refine ⟨rfl, ?_⟩
 have hkm : keep ≤ 9223372036854775807 := (inR_i64.1 hk).2
 by_cases h1 : rdV ((st, sl, rg, sp, wt) : Dsk) = true
 ·have hP := ((Prg.none ttok mtok).and cRead_ok)
  obtain ⟨hsh, hwb, hsb, hrb, hgb⟩ := rd_parts h1
  dsimp only at hwb hsb hrb
  obtain ⟨hst, h12, h2b, h12b, h40⟩ := shaped_iff hsh
  dsimp only at hst h12 h2b h12b h40
  have hok : Drv.ok (sl, rg, sp) := drv_ok hsh
  by_cases h2 : 0 ≤ keep
  ·replace hP := hP.andX (cClCrash_ok (st := st) (t := (sl, rg, sp)) (l := wt) (d := ⟨2, 1, 0⟩) (c := ⟨2, 1, 64⟩) hwb h40 h2 hkm)
   replace hP := hP.andX (cDisk_ok (st := st) (t := (comes (keepB keep.toNat wt) (sl, rg, sp))) (l := []) (d := ⟨2, 1, 0⟩) (c := ⟨3, 5, 0⟩) (Nat.zero_le _) (comes_ok hok))
   have hv := crashV_ok h1 h2
   refine sw_seq (xr hP 1 rfl (sw_seq (xg hP 2 [] rfl ?_ ?_)))
   ·simp [conj, maxL]
    try dsimp only [Ty.den, Ty.dflt]
    try simp only [rd_eta]
    exact h1
   refine sw_seq (sw_seq (xg hP 3 [] rfl ?_ ?_))
   ·simp only [conj, List.nil_append, List.cons_append, List.append_nil, List.append_assoc, inR_i64, true_and, and_true, Int.toNat_natCast]
    try dsimp only [Ty.den, Ty.dflt]
    repeat' apply And.intro
    all_goals first | rfl | omega | assumption | trivial
   refine sw_cond rfl (fun c2 => ?_) (fun c2 => ?_)
   ·cases c2
   ·refine sw_skip (sw_seq (xg hP 4 [] rfl ?_ ?_))
    ·simp only [conj, List.nil_append, List.cons_append, List.append_nil, List.append_assoc, inR_i64, true_and, and_true, Int.toNat_natCast]
     try dsimp only [Ty.den, Ty.dflt]
     repeat' apply And.intro
     all_goals first | rfl | omega | assumption | trivial
    refine sw_ret ⟨.inl rfl, _, rfl, ?_⟩
    simp [conj, hv, zeroD, dskOf, drvOf]
  ·replace hP := hP.andX (cClCrashN_ok (st := st) (t := (sl, rg, sp)) (l := wt) (d := ⟨2, 1, 0⟩) (c := ⟨2, 1, 64⟩) h2)
   have hv : crashV ((st, sl, rg, sp, wt) : Dsk) keep = zeroD := crashV_neg h2
   refine sw_seq (xr hP 1 rfl (sw_seq (xg hP 2 [] rfl ?_ ?_)))
   ·simp [conj, maxL]
    try dsimp only [Ty.den, Ty.dflt]
    try simp only [rd_eta]
    exact h1
   refine sw_seq (sw_seq (xg hP 3 [] rfl ?_ ?_))
   ·simp only [conj, List.nil_append, List.cons_append, List.append_nil, List.append_assoc, inR_i64, true_and, and_true, Int.toNat_natCast]
    try dsimp only [Ty.den, Ty.dflt]
    repeat' apply And.intro
    all_goals first | rfl | omega | assumption | trivial
   refine sw_cond rfl (fun c2 => ?_) (fun c2 => ?_)
   ·refine sw_seq (xr hP 4 rfl (sw_ret ⟨.inl rfl, _, rfl, ?_⟩))
    simp [conj, hv, zeroD, dskOf, drvOf]
   ·cases c2
 ·have hP := ((Prg.none ttok mtok).and cReadB_ok)
  have h1b : rdV ((st, sl, rg, sp, wt) : Dsk) = false := by simpa using h1
  have hv : crashV ((st, sl, rg, sp, wt) : Dsk) keep = zeroD := crashV_bad h1
  refine sw_seq (xr hP 1 rfl (sw_seq (xg hP 2 [] rfl ?_ ?_)))
  ·simp [conj, maxL]
   try dsimp only [Ty.den, Ty.dflt]
   try simp only [rd_eta]
   exact h1b
  refine sw_seq (sw_seq (xg hP 3 [] rfl ?_ ?_))
  ·simp only [conj, List.nil_append, List.cons_append, List.append_nil, List.append_assoc, inR_i64, true_and, and_true, Int.toNat_natCast]
   try dsimp only [Ty.den, Ty.dflt]
   repeat' apply And.intro
   all_goals first | rfl | omega | assumption | trivial
  refine sw_condT rfl (sw_seq (xr hP 4 rfl (sw_ret ⟨.inl rfl, _, rfl, ?_⟩)))
  simp [conj, hv, zeroD, dskOf, drvOf]
def cDCrash : Ctr := ⟨70, [.val true T_Disk (.all .b), .val false TI pF], fun _ => True, fun x => (.v true [.d TI pF (crashV x.1 x.2.1).1, .own ⟨1, 0, 0⟩, .own ⟨1, 1, 0⟩, .own ⟨1, 2, 0⟩, .own ⟨1, 3, 0⟩], [(⟨1, 0, 0⟩, .sl .str (.all .w) (crashV x.1 x.2.1).2.1), (⟨1, 1, 0⟩, .sl .str (.all .w) (crashV x.1 x.2.1).2.2.1), (⟨1, 2, 0⟩, .sl .bool (.all .w) (crashV x.1 x.2.1).2.2.2.1), (⟨1, 3, 0⟩, .sl T_Put (.all .w) (crashV x.1 x.2.1).2.2.2.2)])⟩
theorem cDCrash_ok : CtrOk Proofs.Tryz.prog cDCrash := by
 have hP := ((Prg.none ttok mtok).and cChgCrash_ok)
 refine ctr_of_body hP cDCrash (fn := Proofs.Tryz.f70) (rts := [.cell 4 38]) Proofs.Tryz.func70 rfl (by kernel_rfl) rfl rfl ?_
 rintro ⟨⟨(st : Int), (sl : List Str), (rg : List Str), (sp : List Bool), (wt : List Put)⟩, (keep : Int), ⟨⟩⟩ _ hpre
 try dsimp only [Ty.den, Mode.den, mdens] at hpre
 refine ⟨rfl, ?_⟩
 refine sw_seq (xr hP 1 rfl (sw_seq (xg hP 2 [] rfl ?_ ?_)))
 ·simp [conj, maxL]
  try dsimp only [Ty.den, Ty.dflt]
  try simp only [rd_eta]
  trivial
 refine sw_ret ⟨.inl rfl, _, rfl, ?_⟩
 simp [conj]
def cChgPut : Ctr := ⟨122, [.val true T_Disk (.all .b), .clo 140 [(false, T_Put, pF)]], fun _ => True, fun x => (.v true [.d TI pF (putD x.1 x.2.1.1).1, .own ⟨1, 0, 0⟩, .own ⟨1, 1, 0⟩, .own ⟨1, 2, 0⟩, .own ⟨1, 3, 0⟩], [(⟨1, 0, 0⟩, .sl .str (.all .w) (putD x.1 x.2.1.1).2.1), (⟨1, 1, 0⟩, .sl .str (.all .w) (putD x.1 x.2.1.1).2.2.1), (⟨1, 2, 0⟩, .sl .bool (.all .w) (putD x.1 x.2.1.1).2.2.2.1), (⟨1, 3, 0⟩, .sl T_Put (.all .w) (putD x.1 x.2.1.1).2.2.2.2)])⟩
theorem cChgPut_ok : CtrOk Proofs.Tryz.prog cChgPut := by
 have hP := (Prg.none ttok mtok)
 refine ctr_of_body hP cChgPut (fn := Proofs.Tryz.f122) (rts := [.cell 4 38]) Proofs.Tryz.func122 rfl (by kernel_rfl) rfl rfl ?_
 rintro ⟨⟨(st : Int), (sl : List Str), (rg : List Str), (sp : List Bool), (wt : List Put)⟩, ⟨(p : Put), ⟨⟩⟩, ⟨⟩⟩ ⟨_, ⟨hk, _⟩, _⟩ _
 try dsimp only [Ty.den, Mode.den, mdens] at _
 refine ⟨rfl, ?_⟩
 by_cases h1 : rdV ((st, sl, rg, sp, wt) : Dsk) = true
 ·have hP := ((Prg.none ttok mtok).and cRead_ok)
  obtain ⟨hsh, hwb, hsb, hrb, hgb⟩ := rd_parts h1
  dsimp only at hwb hsb hrb
  obtain ⟨hst, h12, h2b, h12b, h40⟩ := shaped_iff hsh
  dsimp only at hst h12 h2b h12b h40
  have hok : Drv.ok (sl, rg, sp) := drv_ok hsh
  by_cases h2 : putV p = true
  ·replace hP := hP.andX (cClPut_ok (st := st) (t := (sl, rg, sp)) (l := wt) (d := ⟨2, 1, 0⟩) (c := ⟨2, 1, 64⟩) hwb h40 h2)
   replace hP := hP.andX (cDisk_ok (st := st) (t := (putU st wt (sl, rg, sp))) (l := (putM st wt p)) (d := ⟨2, 1, 0⟩) (c := ⟨3, 5, 0⟩) (Nat.le_trans (putM_len h40) (by decide)) (putU_ok hok))
   have hv := putD_ok h1 h2
   refine sw_seq (xr hP 1 rfl (sw_seq (xg hP 2 [] rfl ?_ ?_)))
   ·simp [conj, maxL]
    try dsimp only [Ty.den, Ty.dflt]
    try simp only [rd_eta]
    exact h1
   refine sw_seq (sw_seq (xg hP 3 [] rfl ?_ ?_))
   ·simp only [conj, List.nil_append, List.cons_append, List.append_nil, List.append_assoc, inR_i64, true_and, and_true, Int.toNat_natCast]
    try dsimp only [Ty.den, Ty.dflt]
    repeat' apply And.intro
    all_goals first | rfl | omega | assumption | trivial
   refine sw_cond rfl (fun c2 => ?_) (fun c2 => ?_)
   ·cases c2
   ·refine sw_skip (sw_seq (xg hP 4 [] rfl ?_ ?_))
    ·simp only [conj, List.nil_append, List.cons_append, List.append_nil, List.append_assoc, inR_i64, true_and, and_true, Int.toNat_natCast]
     try dsimp only [Ty.den, Ty.dflt]
     repeat' apply And.intro
     all_goals first | rfl | omega | assumption | trivial
    refine sw_ret ⟨.inl rfl, _, rfl, ?_⟩
    simp [conj, hv, zeroD, dskOf, drvOf]
  ·replace hP := hP.andX (cClPutN_ok (st := st) (t := (sl, rg, sp)) (l := wt) (d := ⟨2, 1, 0⟩) (c := ⟨2, 1, 64⟩) h2)
   have hv : putD ((st, sl, rg, sp, wt) : Dsk) p = zeroD := putD_no h2
   refine sw_seq (xr hP 1 rfl (sw_seq (xg hP 2 [] rfl ?_ ?_)))
   ·simp [conj, maxL]
    try dsimp only [Ty.den, Ty.dflt]
    try simp only [rd_eta]
    exact h1
   refine sw_seq (sw_seq (xg hP 3 [] rfl ?_ ?_))
   ·simp only [conj, List.nil_append, List.cons_append, List.append_nil, List.append_assoc, inR_i64, true_and, and_true, Int.toNat_natCast]
    try dsimp only [Ty.den, Ty.dflt]
    repeat' apply And.intro
    all_goals first | rfl | omega | assumption | trivial
   refine sw_cond rfl (fun c2 => ?_) (fun c2 => ?_)
   ·refine sw_seq (xr hP 4 rfl (sw_ret ⟨.inl rfl, _, rfl, ?_⟩))
    simp [conj, hv, zeroD, dskOf, drvOf]
   ·cases c2
 ·have hP := ((Prg.none ttok mtok).and cReadB_ok)
  have h1b : rdV ((st, sl, rg, sp, wt) : Dsk) = false := by simpa using h1
  have hv : putD ((st, sl, rg, sp, wt) : Dsk) p = zeroD := putD_bad h1
  refine sw_seq (xr hP 1 rfl (sw_seq (xg hP 2 [] rfl ?_ ?_)))
  ·simp [conj, maxL]
   try dsimp only [Ty.den, Ty.dflt]
   try simp only [rd_eta]
   exact h1b
  refine sw_seq (sw_seq (xg hP 3 [] rfl ?_ ?_))
  ·simp only [conj, List.nil_append, List.cons_append, List.append_nil, List.append_assoc, inR_i64, true_and, and_true, Int.toNat_natCast]
   try dsimp only [Ty.den, Ty.dflt]
   repeat' apply And.intro
   all_goals first | rfl | omega | assumption | trivial
  refine sw_condT rfl (sw_seq (xr hP 4 rfl (sw_ret ⟨.inl rfl, _, rfl, ?_⟩)))
  simp [conj, hv, zeroD, dskOf, drvOf]
def cDPut : Ctr := ⟨88, [.val true T_Disk (.all .b), .val true T_Put pF], fun _ => True, fun x => (.v true [.d TI pF (putD x.1 x.2.1).1, .own ⟨1, 0, 0⟩, .own ⟨1, 1, 0⟩, .own ⟨1, 2, 0⟩, .own ⟨1, 3, 0⟩], [(⟨1, 0, 0⟩, .sl .str (.all .w) (putD x.1 x.2.1).2.1), (⟨1, 1, 0⟩, .sl .str (.all .w) (putD x.1 x.2.1).2.2.1), (⟨1, 2, 0⟩, .sl .bool (.all .w) (putD x.1 x.2.1).2.2.2.1), (⟨1, 3, 0⟩, .sl T_Put (.all .w) (putD x.1 x.2.1).2.2.2.2)])⟩
theorem cDPut_ok : CtrOk Proofs.Tryz.prog cDPut := by
 have hP := ((Prg.none ttok mtok).and cChgPut_ok)
 refine ctr_of_body hP cDPut (fn := Proofs.Tryz.f88) (rts := [.cell 4 38]) Proofs.Tryz.func88 rfl (by kernel_rfl) rfl rfl ?_
 rintro ⟨⟨(st : Int), (sl : List Str), (rg : List Str), (sp : List Bool), (wt : List Put)⟩, ⟨(rn : Bool), (at_ : Int), (tx : Str)⟩, ⟨⟩⟩ _ hpre
 try dsimp only [Ty.den, Mode.den, mdens] at hpre
 refine ⟨rfl, ?_⟩
 refine sw_seq (xr hP 1 rfl (sw_seq (xg hP 2 [] rfl ?_ ?_)))
 ·simp [conj, maxL]
  try dsimp only [Ty.den, Ty.dflt]
  try simp only [rd_eta]
  trivial
 refine sw_ret ⟨.inl rfl, _, rfl, ?_⟩
 simp [conj]
end Go.Sx

namespace Go.Sx
open Go
set_option maxRecDepth 100000
set_option linter.unusedVariables false
set_option linter.unusedSimpArgs false
set_option maxHeartbeats 2000000
def cInD : Ctr := ⟨128, [.val false TI pF, .val false TI pF, .val false TI pF], fun _ => True, fun x => (sBool (inVD x.1 x.2.1 x.2.2.1), [])⟩
theorem cIn_okD : CtrOk Proofs.Tryz.prog cInD := by
 have hP := (Prg.none ttok mtok)
 refine ctr_of_body hP cInD (fn := Proofs.Tryz.f128) (rts := [.tmp 6]) Proofs.Tryz.func128 rfl (by kernel_rfl) rfl rfl ?_
 rintro ⟨(n : Int), (a : Int), (b : Int), ⟨⟩⟩ _ hpre
 try dsimp only [Ty.den, Mode.den, mdens] at hpre
 refine ⟨rfl, ?_⟩
 refine sw_seq (xr hP 1 rfl (sw_seq ?_))
 refine sw_dec hP 2 [] 3 rfl (fun g1_3 => ?_) (fun g1_3 => ?_)
 ·refine xd hP 2 [(3, true)] rfl (sw_ret ⟨.inl rfl, _, rfl, ?_⟩)
  simp [conj, inVD] at *
  first | done | omega | (intros; omega)
 ·refine xd hP 2 [(3, false)] rfl (sw_ret ⟨.inl rfl, _, rfl, ?_⟩)
  simp [conj, inVD] at *
  first | done | omega | (intros; omega)
def cPutS : Ctr := ⟨152, [.val true T_Put pF], fun _ => True, fun x => (sBool (putV x.1), [])⟩
theorem cPutS_ok : CtrOk Proofs.Tryz.prog cPutS := by
 have hP := ((Prg.none ttok mtok).and cIn_okD)
 refine ctr_of_body hP cPutS (fn := Proofs.Tryz.f152) (rts := [.tmp 2]) Proofs.Tryz.func152 rfl (by kernel_rfl) rfl rfl ?_
 rintro ⟨⟨(rn : Bool), (at_ : Int), (tx : Str)⟩, ⟨⟩⟩ _ hpre
 try dsimp only [Ty.den, Mode.den, mdens] at hpre
 refine ⟨rfl, ?_⟩
 refine sw_seq (xr hP 1 rfl (sw_seq (sw_seq (xg hP 2 [] rfl ?_ ?_))))
 ·simp [conj]
  repeat' apply And.intro
  all_goals first | trivial | assumption | omega | (simp_all; done) | (simp_all; omega)
 refine sw_cond rfl (fun c1 => ?_) (fun c1 => ?_)
 ·refine sw_seq ?_
  refine sw_dec hP 3 [] 3 rfl (fun g2_3 => ?_) (fun g2_3 => ?_)
  ·refine xg hP 3 [(3, true)] rfl ?_ ?_
   ·simp [conj]
    repeat' apply And.intro
    all_goals first | trivial | assumption | omega | (simp_all; done) | (simp_all; omega)
   refine sw_ret ⟨.inl rfl, _, rfl, ?_⟩
   simp [conj, putV, inVD] at *
   first | (simp [*]; done) | (simp [*]; intros; have h := g2_3 (by assumption); omega) | (simp [*]; intros; have h := g3_3 (by assumption); omega) | (simp [*]; omega) | (simp [*]; intros; omega) | (simp only [*, if_true, Bool.false_eq_true, if_false]; refine Bool.eq_iff_iff.2 ?_; simp; omega)
  ·refine xg hP 3 [(3, false)] rfl ?_ ?_
   ·simp [conj]
    repeat' apply And.intro
    all_goals first | trivial | assumption | omega | (simp_all; done) | (simp_all; omega)
   refine sw_ret ⟨.inl rfl, _, rfl, ?_⟩
   simp [conj, putV, inVD] at *
   first | (simp [*]; done) | (simp [*]; intros; have h := g2_3 (by assumption); omega) | (simp [*]; intros; have h := g3_3 (by assumption); omega) | (simp [*]; omega) | (simp [*]; intros; omega) | (simp only [*, if_true, Bool.false_eq_true, if_false]; refine Bool.eq_iff_iff.2 ?_; simp; omega)
 ·refine sw_skip (sw_seq ?_)
  refine sw_dec hP 3 [] 3 rfl (fun g3_3 => ?_) (fun g3_3 => ?_)
  ·refine xg hP 3 [(3, true)] rfl ?_ ?_
   ·simp [conj]
    repeat' apply And.intro
    all_goals first | trivial | assumption | omega | (simp_all; done) | (simp_all; omega)
   refine sw_ret ⟨.inl rfl, _, rfl, ?_⟩
   simp [conj, putV, inVD] at *
   first | (simp [*]; done) | (simp [*]; intros; have h := g2_3 (by assumption); omega) | (simp [*]; intros; have h := g3_3 (by assumption); omega) | (simp [*]; omega) | (simp [*]; intros; omega) | (simp only [*, if_true, Bool.false_eq_true, if_false]; refine Bool.eq_iff_iff.2 ?_; simp; omega)
  ·refine xg hP 3 [(3, false)] rfl ?_ ?_
   ·simp [conj]
    repeat' apply And.intro
    all_goals first | trivial | assumption | omega | (simp_all; done) | (simp_all; omega)
   refine sw_ret ⟨.inl rfl, _, rfl, ?_⟩
   simp [conj, putV, inVD] at *
   first | (simp [*]; done) | (simp [*]; intros; have h := g2_3 (by assumption); omega) | (simp [*]; intros; have h := g3_3 (by assumption); omega) | (simp [*]; omega) | (simp [*]; intros; omega) | (simp only [*, if_true, Bool.false_eq_true, if_false]; refine Bool.eq_iff_iff.2 ?_; simp; omega)
def cDok : Ctr := ⟨113, [.val true T_Disk (.all .b)], fun _ => True, fun x => (sBool (rdV x.1), [])⟩
theorem cDok_ok : CtrOk Proofs.Tryz.prog cDok := by
 have hP := (((Prg.none ttok mtok).and cIn_okD).and cPutS_ok)
 refine ctr_of_body hP cDok (fn := Proofs.Tryz.f113) (rts := [.tmp 2]) Proofs.Tryz.func113 rfl (by kernel_rfl) rfl rfl ?_
 rintro ⟨⟨(st : Int), (sl : List Str), (rg : List Str), (sp : List Bool), (wt : List Put)⟩, ⟨⟩⟩ _ hpre
 try dsimp only [Ty.den, Mode.den, mdens] at hpre
 refine ⟨rfl, ?_⟩
 refine sw_seq (xr hP 1 rfl (sw_seq (sw_seq ?_)))
 refine sw_dec hP 2 [] 4 rfl (fun g1_4 => ?_) (fun g1_4 => ?_)
 ·replace g1_4 : stV st = false := by have h := g1_4; simp [inVD] at h; simp [stV]; omega
  refine xg hP 2 [(4, true)] rfl ?_ ?_
  ·simp [conj]
   repeat' apply And.intro
   all_goals first | assumption | omega | trivial | (simp_all [stV]; done) | (simp_all [stV]; omega)
  refine sw_condT rfl (sw_seq (xr hP 3 rfl (sw_ret ⟨.inl rfl, _, rfl, ?_⟩)))
  simp [conj]
  rw [← dok_eq]
  have h : shapedV ((st, sl, rg, sp, wt) : Dsk) = false := by simp [shapedV, *]
  simp [dokV, h]
 ·replace g1_4 : stV st = true := by have h := g1_4; simp [inVD] at h; simp [stV]; omega
  refine sw_dec hP 2 [(4, false)] 10 rfl (fun g1_10 => ?_) (fun g1_10 => ?_)
  ·replace g1_10 : ¬ sl.length = 12 := by have h := g1_10; simp at h; omega
   refine xg hP 2 [(4, false), (10, true)] rfl ?_ ?_
   ·simp [conj]
    repeat' apply And.intro
    all_goals first | assumption | omega | trivial | (simp_all [stV]; done) | (simp_all [stV]; omega)
   refine sw_condT rfl (sw_seq (xr hP 3 rfl (sw_ret ⟨.inl rfl, _, rfl, ?_⟩)))
   simp [conj]
   rw [← dok_eq]
   have h : shapedV ((st, sl, rg, sp, wt) : Dsk) = false := by simp [shapedV, *]
   simp [dokV, h]
  ·replace g1_10 : sl.length = 12 := by have h := g1_10; simp at h; omega
   refine sw_dec hP 2 [(4, false), (10, false)] 16 rfl (fun g1_16 => ?_) (fun g1_16 => ?_)
   ·replace g1_16 : ¬ rg.length = 2 := by have h := g1_16; simp at h; omega
    refine xg hP 2 [(4, false), (10, false), (16, true)] rfl ?_ ?_
    ·simp [conj]
     repeat' apply And.intro
     all_goals first | assumption | omega | trivial | (simp_all [stV]; done) | (simp_all [stV]; omega)
    refine sw_condT rfl (sw_seq (xr hP 3 rfl (sw_ret ⟨.inl rfl, _, rfl, ?_⟩)))
    simp [conj]
    rw [← dok_eq]
    have h : shapedV ((st, sl, rg, sp, wt) : Dsk) = false := by simp [shapedV, *]
    simp [dokV, h]
   ·replace g1_16 : rg.length = 2 := by have h := g1_16; simp at h; omega
    refine sw_dec hP 2 [(4, false), (10, false), (16, false)] 22 rfl (fun g1_22 => ?_) (fun g1_22 => ?_)
    ·replace g1_22 : ¬ sp.length = 12 := by have h := g1_22; simp at h; omega
     refine xg hP 2 [(4, false), (10, false), (16, false), (22, true)] rfl ?_ ?_
     ·simp [conj]
      repeat' apply And.intro
      all_goals first | assumption | omega | trivial | (simp_all [stV]; done) | (simp_all [stV]; omega)
     refine sw_condT rfl (sw_seq (xr hP 3 rfl (sw_ret ⟨.inl rfl, _, rfl, ?_⟩)))
     simp [conj]
     rw [← dok_eq]
     have h : shapedV ((st, sl, rg, sp, wt) : Dsk) = false := by simp [shapedV, *]
     simp [dokV, h]
    ·replace g1_22 : sp.length = 12 := by have h := g1_22; simp at h; omega
     refine xg hP 2 [(4, false), (10, false), (16, false), (22, false)] rfl ?_ ?_
     ·simp [conj]
      repeat' apply And.intro
      all_goals first | assumption | omega | trivial | (simp_all [stV]; done) | (simp_all [stV]; omega)
     refine sw_cond rfl (fun c1 => ?_) (fun c1 => ?_)
     ·replace c1 : ¬ wt.length ≤ 40 := by have h := c1; simp at h; omega
      refine sw_seq (xr hP 3 rfl (sw_ret ⟨.inl rfl, _, rfl, ?_⟩))
      simp [conj]
      rw [← dok_eq]
      have h : shapedV ((st, sl, rg, sp, wt) : Dsk) = false := by simp [shapedV, *]
      simp [dokV, h]
     ·replace c1 : wt.length ≤ 40 := by have h := c1; simp at h; omega
      have hsh : shapedV ((st, sl, rg, sp, wt) : Dsk) = true := by simp [shapedV, *]
      refine sw_skip (sw_seq (sw_seq (xr hP 3 rfl (sw_block (sw_loop (ι := Nat) (fun i => ⟨[.j, .v false [.ptr ⟨1, 0, 0⟩ 0], .j, sInt .i64 (i : Int), .j, .j, .j, .j, .j, .j, .j, .j, .j, .j, .j, .j, .j, .j, .j, .j, .j, .j, .j, .j, .j, .j, .j, .j, .j, .j, .j, .j, .j, .j, .j, .j, .j, .j, .j, .j, .j, .j, .j, .j, .j, .j, .j, .j, .j, .j, .j, .j, .j, .j, .j, .j, .j, .j, .j, .j, .j, .j, .j, .j, .j, .j, .j, .j, .j, .j, .j, .j, .j, .j, .j, .j, .j, .j, .j, .j, .j, .j, .j, .j, .j, .j, .j, .j, .j, .j, .j, .j, .j, .j, .j, .j, .j, .j, .j, .j, .j, .j, .j, .j, .j, .j, .j, .j, .j, .j, .j, .j, .j, .j, .j, .j, .j, .j, .j, .j, .j, .j, .j, .j, .j], [(⟨1, 0, 0⟩, .var [.d TI pF st, .d (.sl .str) (.all .b) sl, .d (.sl .str) (.all .b) rg, .d (.sl .bool) (.all .b) sp, .d (.sl T_Put) (.all .b) wt])], 3, []⟩) (fun i => sl.length - i) (fun i => i ≤ sl.length ∧ slotsS (decide (st = 1)) (sl.drop i) (sp.drop i) = slotsS (decide (st = 1)) sl sp) 0 ⟨?_, ?_⟩ ?_)))))
      ·exact ⟨Nat.zero_le _, rfl⟩
      ·refine ent_ok rfl ?_
       first | trivial | (simp [conj]; done) | (simp [conj] at *; (try dsimp only [Ty.den, Ty.dflt] at *); omega)
      ·rintro i ⟨hi, hgo⟩
       refine sw_seq (sw_seq (xr hP 4 rfl (sw_cond rfl (fun c4 => ?_) (fun c4 => ?_))))
       ·have hlt : i < sl.length := by simpa using c4
        have hlt2 : i < sp.length := by omega
        refine sw_skip (sw_seq (sw_block (sw_seq (xg hP 5 [] rfl ?_ ?_))))
        ·simp [conj, gE hlt, gE hlt2]
         repeat' apply And.intro
         all_goals first | assumption | omega | trivial | (simp_all; done) | (simp_all; omega)
        refine sw_seq ?_
        refine sw_dec hP 6 [] 2 rfl (fun g7_2 => ?_) (fun g7_2 => ?_)
        ·have hne : ¬ sl[i] = [] := by have h := g7_2; simp [gE hlt, gE hlt2] at h; exact h
         replace g7_2 : ¬ sl[i].length = 0 := fun e => hne (List.eq_nil_of_length_eq_zero e)
         refine sw_dec hP 6 [(2, true)] 6 rfl (fun g7_6 => ?_) (fun g7_6 => ?_)
         ·replace g7_6 : ¬ sl[i].length = 3 := by have h := g7_6; simp [gE hlt, gE hlt2] at h; omega
          refine xg hP 6 [(2, true), (6, true)] rfl ?_ ?_
          ·simp [conj, gE hlt, gE hlt2]
           repeat' apply And.intro
           all_goals first | assumption | omega | trivial | (simp_all; done) | (simp_all; omega)
          refine sw_condT rfl (sw_seq (xr hP 7 rfl (sw_ret ⟨.inl rfl, _, rfl, ?_⟩)))
          simp [conj]
          rw [← dok_eq]
          have h := slotsS_hit hlt hlt2 hgo (by simp [slotS, *])
          simp [dokV, h]
         ·replace g7_6 : sl[i].length = 3 := by have h := g7_6; simp [gE hlt, gE hlt2] at h; omega
          refine sw_dec hP 6 [(2, true), (6, false)] 12 rfl (fun g7_12 => ?_) (fun g7_12 => ?_)
          ·replace g7_12 : sp[i] = true := by have h := g7_12; simp [gE hlt, gE hlt2] at h; exact h
           refine sw_dec hP 6 [(2, true), (6, false), (12, true)] 17 rfl (fun g7_17 => ?_) (fun g7_17 => ?_)
           ·exfalso
            have h := g7_17; simp [gE hlt, gE hlt2] at h; exact hne h
           ·refine sw_dec hP 6 [(2, true), (6, false), (12, true), (17, false)] 21 rfl (fun g7_21 => ?_) (fun g7_21 => ?_)
            ·replace g7_21 : st = 1 := of_decide_eq_true g7_21
             refine xg hP 6 [(2, true), (6, false), (12, true), (17, false), (21, true)] rfl ?_ ?_
             ·simp [conj, gE hlt, gE hlt2]
              repeat' apply And.intro
              all_goals first | assumption | omega | trivial | (simp_all; done) | (simp_all; omega)
             refine sw_cond rfl (fun c7 => ?_) (fun c7 => ?_)
             ·refine sw_seq (xr hP 7 rfl (sw_ret ⟨.inl rfl, _, rfl, ?_⟩))
              simp [conj]
              rw [← dok_eq]
              have h := slotsS_hit hlt hlt2 hgo (by simp [slotS, *])
              simp [dokV, h]
             ·exfalso
              have h := c7; simp [gE hlt, gE hlt2] at h; first | omega | exact hne h | exact h hne
            ·replace g7_21 : ¬ st = 1 := of_decide_eq_false g7_21
             refine xg hP 6 [(2, true), (6, false), (12, true), (17, false), (21, false)] rfl ?_ ?_
             ·simp [conj, gE hlt, gE hlt2]
              repeat' apply And.intro
              all_goals first | assumption | omega | trivial | (simp_all; done) | (simp_all; omega)
             refine sw_condF rfl (sw_skip (xr hP 7 rfl (⟨i + 1, ?_, ?_, ent_ok rfl ?_⟩)))
             ·exact ⟨hlt, slotsS_next hlt hlt2 hgo (by simp [slotS, *])⟩
             ·omega
             ·simp [conj]
          ·replace g7_12 : sp[i] = false := by have h := g7_12; simp [gE hlt, gE hlt2] at h; exact h
           refine sw_dec hP 6 [(2, true), (6, false), (12, false)] 21 rfl (fun g7_21 => ?_) (fun g7_21 => ?_)
           ·replace g7_21 : st = 1 := of_decide_eq_true g7_21
            refine xg hP 6 [(2, true), (6, false), (12, false), (21, true)] rfl ?_ ?_
            ·simp [conj, gE hlt, gE hlt2]
             repeat' apply And.intro
             all_goals first | assumption | omega | trivial | (simp_all; done) | (simp_all; omega)
            refine sw_cond rfl (fun c7 => ?_) (fun c7 => ?_)
            ·refine sw_seq (xr hP 7 rfl (sw_ret ⟨.inl rfl, _, rfl, ?_⟩))
             simp [conj]
             rw [← dok_eq]
             have h := slotsS_hit hlt hlt2 hgo (by simp [slotS, *])
             simp [dokV, h]
            ·exfalso
             have h := c7; simp [gE hlt, gE hlt2] at h; first | omega | exact hne h | exact h hne
           ·replace g7_21 : ¬ st = 1 := of_decide_eq_false g7_21
            refine xg hP 6 [(2, true), (6, false), (12, false), (21, false)] rfl ?_ ?_
            ·simp [conj, gE hlt, gE hlt2]
             repeat' apply And.intro
             all_goals first | assumption | omega | trivial | (simp_all; done) | (simp_all; omega)
            refine sw_condF rfl (sw_skip (xr hP 7 rfl (⟨i + 1, ?_, ?_, ent_ok rfl ?_⟩)))
            ·exact ⟨hlt, slotsS_next hlt hlt2 hgo (by simp [slotS, *])⟩
            ·omega
            ·simp [conj]
        ·have hne : sl[i] = [] := by have h := g7_2; simp [gE hlt, gE hlt2] at h; exact h
         replace g7_2 : sl[i].length = 0 := by rw [hne]; rfl
         refine sw_dec hP 6 [(2, false)] 12 rfl (fun g7_12 => ?_) (fun g7_12 => ?_)
         ·replace g7_12 : sp[i] = true := by have h := g7_12; simp [gE hlt, gE hlt2] at h; exact h
          refine sw_dec hP 6 [(2, false), (12, true)] 17 rfl (fun g7_17 => ?_) (fun g7_17 => ?_)
          ·refine xg hP 6 [(2, false), (12, true), (17, true)] rfl ?_ ?_
           ·simp [conj, gE hlt, gE hlt2]
            repeat' apply And.intro
            all_goals first | assumption | omega | trivial | (simp_all; done) | (simp_all; omega)
           refine sw_condT rfl (sw_seq (xr hP 7 rfl (sw_ret ⟨.inl rfl, _, rfl, ?_⟩)))
           simp [conj]
           rw [← dok_eq]
           have h := slotsS_hit hlt hlt2 hgo (by simp [slotS, *])
           simp [dokV, h]
          ·exfalso
           have h := g7_17; simp [gE hlt, gE hlt2] at h; exact h hne
         ·replace g7_12 : sp[i] = false := by have h := g7_12; simp [gE hlt, gE hlt2] at h; exact h
          refine sw_dec hP 6 [(2, false), (12, false)] 21 rfl (fun g7_21 => ?_) (fun g7_21 => ?_)
          ·replace g7_21 : st = 1 := of_decide_eq_true g7_21
           refine xg hP 6 [(2, false), (12, false), (21, true)] rfl ?_ ?_
           ·simp [conj, gE hlt, gE hlt2]
            repeat' apply And.intro
            all_goals first | assumption | omega | trivial | (simp_all; done) | (simp_all; omega)
           refine sw_cond rfl (fun c7 => ?_) (fun c7 => ?_)
           ·exfalso
            have h := c7; simp [gE hlt, gE hlt2] at h; first | omega | exact hne h | exact h hne
           ·refine sw_skip (xr hP 7 rfl (⟨i + 1, ?_, ?_, ent_ok rfl ?_⟩))
            ·exact ⟨hlt, slotsS_next hlt hlt2 hgo (by simp [slotS, *])⟩
            ·omega
            ·simp [conj]
          ·replace g7_21 : ¬ st = 1 := of_decide_eq_false g7_21
           refine xg hP 6 [(2, false), (12, false), (21, false)] rfl ?_ ?_
           ·simp [conj, gE hlt, gE hlt2]
            repeat' apply And.intro
            all_goals first | assumption | omega | trivial | (simp_all; done) | (simp_all; omega)
           refine sw_condF rfl (sw_skip (xr hP 7 rfl (⟨i + 1, ?_, ?_, ent_ok rfl ?_⟩)))
           ·exact ⟨hlt, slotsS_next hlt hlt2 hgo (by simp [slotS, *])⟩
           ·omega
           ·simp [conj]
       ·obtain rfl : i = sl.length := by simp at c4; omega
        have hS := slotsS_end hgo
        refine sw_exit (sw_seq (sw_seq (xr hP 5 rfl (sw_block (sw_loop (ι := Nat) (fun i => ⟨[.j, .v false [.ptr ⟨1, 0, 0⟩ 0], .j, .j, .j, sInt .i64 (i : Int), .j, .j, .j, .j, .j, .j, .j, .j, .j, .j, .j, .j, .j, .j, .j, .j, .j, .j, .j, .j, .j, .j, .j, .j, .j, .j, .j, .j, .j, .j, .j, .j, .j, .j, .j, .j, .j, .j, .j, .j, .j, .j, .j, .j, .j, .j, .j, .j, .j, .j, .j, .j, .j, .j, .j, .j, .j, .j, .j, .j, .j, .j, .j, .j, .j, .j, .j, .j, .j, .j, .j, .j, .j, .j, .j, .j, .j, .j, .j, .j, .j, .j, .j, .j, .j, .j, .j, .j, .j, .j, .j, .j, .j, .j, .j, .j, .j, .j, .j, .j, .j, .j, .j, .j, .j, .j, .j, .j, .j, .j, .j, .j, .j, .j, .j, .j, .j, .j, .j], [(⟨1, 0, 0⟩, .var [.d TI pF st, .d (.sl .str) (.all .b) sl, .d (.sl .str) (.all .b) rg, .d (.sl .bool) (.all .b) sp, .d (.sl T_Put) (.all .b) wt])], 5, []⟩) (fun i => rg.length - i) (fun i => i ≤ rg.length ∧ (rg.drop i).any (ringS (decide (st = 1))) = rg.any (ringS (decide (st = 1)))) 0 ⟨?_, ?_⟩ ?_)))))
        ·exact ⟨Nat.zero_le _, rfl⟩
        ·refine ent_ok rfl ?_
         first | trivial | (simp [conj]; done) | (simp [conj] at *; (try dsimp only [Ty.den, Ty.dflt] at *); omega)
        ·rintro i ⟨hi, hgo⟩
         refine sw_seq (sw_seq (xr hP 6 rfl (sw_cond rfl (fun c10 => ?_) (fun c10 => ?_))))
         ·have hlt : i < rg.length := by simpa using c10
          refine sw_skip (sw_seq (sw_block (sw_seq ?_)))
          refine sw_dec hP 7 [] 7 rfl (fun g12_7 => ?_) (fun g12_7 => ?_)
          ·replace g12_7 : 700 < rg[i].length := by have h := g12_7; simp [gE hlt] at h; omega
           refine xg hP 7 [(7, true)] rfl ?_ ?_
           ·simp [conj, gE hlt]
            repeat' apply And.intro
            all_goals first | assumption | omega | trivial | (simp_all; done) | (simp_all; omega)
           refine sw_condT rfl (sw_seq (xr hP 8 rfl (sw_ret ⟨.inl rfl, _, rfl, ?_⟩)))
           simp [conj]
           rw [← dok_eq]
           have h := any_hitD hlt hgo (by simp [ringS, *])
           simp [dokV, h]
          ·replace g12_7 : ¬ 700 < rg[i].length := by have h := g12_7; simp [gE hlt] at h; omega
           refine sw_dec hP 7 [(7, false)] 11 rfl (fun g12_11 => ?_) (fun g12_11 => ?_)
           ·replace g12_11 : st = 1 := of_decide_eq_true g12_11
            refine xg hP 7 [(7, false), (11, true)] rfl ?_ ?_
            ·simp [conj, gE hlt]
             repeat' apply And.intro
             all_goals first | assumption | omega | trivial | (simp_all; done) | (simp_all; omega)
            refine sw_cond rfl (fun c12 => ?_) (fun c12 => ?_)
            ·replace c12 : 0 < rg[i].length := by have h := c12; simp [gE hlt] at h; first | omega | exact List.length_pos_iff.2 h
             refine sw_seq (xr hP 8 rfl (sw_ret ⟨.inl rfl, _, rfl, ?_⟩))
             simp [conj]
             rw [← dok_eq]
             have h := any_hitD hlt hgo (by simp [ringS, *])
             simp [dokV, h]
            ·replace c12 : ¬ 0 < rg[i].length := by have h := c12; simp [gE hlt] at h; first | omega | (rw [h]; simp)
             refine sw_skip (xr hP 8 rfl (⟨i + 1, ?_, ?_, ent_ok rfl ?_⟩))
             ·exact ⟨hlt, any_nextD hlt hgo (by simp [ringS, *]; try omega)⟩
             ·omega
             ·simp [conj]
           ·replace g12_11 : ¬ st = 1 := of_decide_eq_false g12_11
            refine xg hP 7 [(7, false), (11, false)] rfl ?_ ?_
            ·simp [conj, gE hlt]
             repeat' apply And.intro
             all_goals first | assumption | omega | trivial | (simp_all; done) | (simp_all; omega)
            refine sw_condF rfl (sw_skip (xr hP 8 rfl (⟨i + 1, ?_, ?_, ent_ok rfl ?_⟩)))
            ·exact ⟨hlt, any_nextD hlt hgo (by simp [ringS, *]; try omega)⟩
            ·omega
            ·simp [conj]
         ·obtain rfl : i = rg.length := by simp at c10; omega
          have hR := any_endD hgo
          refine sw_exit (sw_seq (sw_seq (xr hP 7 rfl (sw_block (sw_loop (ι := Nat) (fun i => ⟨[.j, .v false [.ptr ⟨1, 0, 0⟩ 0], .j, .j, .j, .j, sInt .i64 (i : Int), .j, .j, .j, .j, .j, .j, .j, .j, .j, .j, .j, .j, .j, .j, .j, .j, .j, .j, .j, .j, .j, .j, .j, .j, .j, .j, .j, .j, .j, .j, .j, .j, .j, .j, .j, .j, .j, .j, .j, .j, .j, .j, .j, .j, .j, .j, .j, .j, .j, .j, .j, .j, .j, .j, .j, .j, .j, .j, .j, .j, .j, .j, .j, .j, .j, .j, .j, .j, .j, .j, .j, .j, .j, .j, .j, .j, .j, .j, .j, .j, .j, .j, .j, .j, .j, .j, .j, .j, .j, .j, .j, .j, .j, .j, .j, .j, .j, .j, .j, .j, .j, .j, .j, .j, .j, .j, .j, .j, .j, .j, .j, .j, .j, .j, .j, .j, .j, .j], [(⟨1, 0, 0⟩, .var [.d TI pF st, .d (.sl .str) (.all .b) sl, .d (.sl .str) (.all .b) rg, .d (.sl .bool) (.all .b) sp, .d (.sl T_Put) (.all .b) wt])], 7, []⟩) (fun i => wt.length - i) (fun i => i ≤ wt.length ∧ (wt.drop i).any badP = wt.any badP) 0 ⟨?_, ?_⟩ ?_)))))
          ·exact ⟨Nat.zero_le _, rfl⟩
          ·refine ent_ok rfl ?_
           first | trivial | (simp [conj]; done) | (simp [conj] at *; (try dsimp only [Ty.den, Ty.dflt] at *); omega)
          ·rintro i ⟨hi, hgo⟩
           refine sw_seq (sw_seq (xr hP 8 rfl (sw_cond rfl (fun c15 => ?_) (fun c15 => ?_))))
           ·have hlt : i < wt.length := by simpa using c15
            refine sw_skip (sw_seq (sw_block (sw_seq (xg hP 9 [] rfl ?_ ?_))))
            ·simp [conj, gE hlt]
             repeat' apply And.intro
             all_goals first | assumption | omega | trivial | (simp_all; done) | (simp_all; omega)
            refine sw_cond rfl (fun c17 => ?_) (fun c17 => ?_)
            ·replace c17 : badP wt[i] = true := by have h := c17; simp [gE hlt] at h; simpa [badP] using h
             refine sw_seq (xr hP 10 rfl (sw_ret ⟨.inl rfl, _, rfl, ?_⟩))
             simp [conj]
             rw [← dok_eq]
             have h := any_hitD hlt hgo c17
             simp [dokV, h]
            ·replace c17 : badP wt[i] = false := by have h := c17; simp [gE hlt] at h; simpa [badP] using h
             refine sw_skip (xr hP 10 rfl (⟨i + 1, ?_, ?_, ent_ok rfl ?_⟩))
             ·exact ⟨hlt, any_nextD hlt hgo c17⟩
             ·omega
             ·simp [conj]
           ·obtain rfl : i = wt.length := by simp at c15; omega
            have hW := any_endD hgo
            refine sw_exit (sw_seq ?_)
            refine sw_dec hP 9 [] 3 rfl (fun g19_3 => ?_) (fun g19_3 => ?_)
            ·replace g19_3 : ¬ st = 1 := by have h := g19_3; simpa using h
             refine xg hP 9 [(3, true)] rfl ?_ ?_
             ·simp [conj]
              repeat' apply And.intro
              all_goals first | assumption | omega | trivial | (simp_all [stV]; done) | (simp_all [stV]; omega)
             refine sw_ret ⟨.inl rfl, _, rfl, ?_⟩
             simp [conj]
             rw [← dok_eq]
             have h : dokV ((st, sl, rg, sp, wt) : Dsk) = (decide (¬ st = 1) || decide (wt.length = 0)) := by unfold dokV; dsimp only; rw [hsh, hS, hR, hW]; rfl
             rw [h]
             simp [g19_3]
            ·replace g19_3 : st = 1 := by have h := g19_3; simpa using h
             refine xg hP 9 [(3, false)] rfl ?_ ?_
             ·simp [conj]
              repeat' apply And.intro
              all_goals first | assumption | omega | trivial | (simp_all [stV]; done) | (simp_all [stV]; omega)
             refine sw_ret ⟨.inl rfl, _, rfl, ?_⟩
             simp [conj]
             rw [← dok_eq]
             have h : dokV ((st, sl, rg, sp, wt) : Dsk) = (decide (¬ st = 1) || decide (wt.length = 0)) := by unfold dokV; dsimp only; rw [hsh, hS, hR, hW]; rfl
             rw [h]
             simp [g19_3]
end Go.Sx

namespace Go.Sx
open Go
set_option maxRecDepth 100000
set_option linter.unusedVariables false
set_option linter.unusedSimpArgs false
set_option maxHeartbeats 2000000
def cCopyD : Ctr := ⟨83, [.val true T_Disk (.all .b)], fun x => SmallD x.1, fun x => (.v true [.d TI pF (x.1).1, .own ⟨1, 0, 0⟩, .own ⟨1, 1, 0⟩, .own ⟨1, 2, 0⟩, .own ⟨1, 3, 0⟩], [(⟨1, 0, 0⟩, .sl .str (.all .w) (x.1).2.1), (⟨1, 1, 0⟩, .sl .str (.all .w) (x.1).2.2.1), (⟨1, 2, 0⟩, .sl .bool (.all .w) (x.1).2.2.2.1), (⟨1, 3, 0⟩, .sl T_Put (.all .w) (x.1).2.2.2.2)])⟩
theorem cCopyD_ok : CtrOk Proofs.Tryz.prog cCopyD := by
 have hP := (Prg.none ttok mtok)
 refine ctr_of_body hP cCopyD (fn := Proofs.Tryz.f83) (rts := [.cell 2 38]) Proofs.Tryz.func83 rfl (by kernel_rfl) rfl rfl ?_
 rintro ⟨⟨(st : Int), (sl : List Str), (rg : List Str), (sp : List Bool), (wt : List Put)⟩, ⟨⟩⟩ _ ⟨h1, h2, h3, h4⟩
 try dsimp only [Ty.den, Mode.den, mdens] at h1
 try dsimp only [Ty.den, Mode.den, mdens] at h2
 try dsimp only [Ty.den, Mode.den, mdens] at h3
 try dsimp only [Ty.den, Mode.den, mdens] at h4
 refine ⟨rfl, ?_⟩
 refine sw_seq (xr hP 1 rfl (sw_seq (xg hP 2 [] rfl ?_ ?_)))
 ·simp [conj, maxL]
  repeat' apply And.intro
  all_goals omega
 refine sw_ret ⟨.inl rfl, _, rfl, ?_⟩
 simp [conj]
def cComeS : Ctr := ⟨130, [.own true T_Disk (.all .w), .val true T_Put pF], fun x => putV x.2.1 = true ∧ (drvOf x.1).ok, fun x => (.v true [.d TI pF (comeD x.1 x.2.1).1, .own ⟨1, 0, 0⟩, .own ⟨1, 1, 0⟩, .own ⟨1, 2, 0⟩, .own ⟨1, 3, 0⟩], [(⟨1, 0, 0⟩, .sl .str (.all .w) (comeD x.1 x.2.1).2.1), (⟨1, 1, 0⟩, .sl .str (.all .w) (comeD x.1 x.2.1).2.2.1), (⟨1, 2, 0⟩, .sl .bool (.all .w) (comeD x.1 x.2.1).2.2.2.1), (⟨1, 3, 0⟩, .sl T_Put (.all .w) (comeD x.1 x.2.1).2.2.2.2)])⟩
theorem cComeS_ok : CtrOk Proofs.Tryz.prog cComeS := by
 have hP := (Prg.none ttok mtok)
 refine ctr_of_body hP cComeS (fn := Proofs.Tryz.f130) (rts := [.cell 4 38]) Proofs.Tryz.func130 rfl (by kernel_rfl) rfl rfl ?_
 rintro ⟨⟨(st : Int), (sl : List Str), (rg : List Str), (sp : List Bool), (wt : List Put)⟩, ⟨(rn : Bool), (at_ : Int), (tx : Str)⟩, ⟨⟩⟩ _ ⟨hp, ho1, ho2, ho3⟩
 try dsimp only [Ty.den, Mode.den, mdens] at hp
 try dsimp only [Ty.den, Mode.den, mdens] at ho1
 try dsimp only [Ty.den, Mode.den, mdens] at ho2
 try dsimp only [Ty.den, Mode.den, mdens] at ho3
 refine ⟨rfl, ?_⟩
 dsimp only [drvOf] at ho1 ho2 ho3
 refine sw_seq (xr hP 1 rfl (sw_seq (sw_seq (xr hP 2 rfl (sw_cond rfl (fun c1 => ?_) (fun c1 => ?_))))))
 ·replace c1 : rn = true := c1
  obtain ⟨h0, h1, h2⟩ := putV_ring hp c1
  dsimp only at h0 h1 h2
  have hv := come_ring (p := (rn, at_, tx)) (t := (sl, rg, sp)) c1
  refine sw_seq (xg hP 3 [] rfl ?_ ?_)
  ·simp only [conj, List.nil_append, List.cons_append, List.append_nil, List.append_assoc, inR_i64, true_and, and_true, Int.toNat_natCast]
   try dsimp only [Ty.den, Ty.dflt]
   repeat' apply And.intro
   all_goals first | rfl | omega | assumption | trivial
  refine sw_seq (xr hP 4 rfl (sw_ret ⟨.inl rfl, _, rfl, ?_⟩))
  simp [conj, comeD, dskOf, drvOf, hv]
 ·replace c1 : rn = false := c1
  obtain ⟨h0, h1, h2⟩ := putV_slot hp c1
  dsimp only at h0 h1 h2
  have hv := come_slot (p := (rn, at_, tx)) (t := (sl, rg, sp)) c1
  refine sw_skip (sw_seq (xg hP 3 [] rfl ?_ ?_))
  ·simp only [conj, List.nil_append, List.cons_append, List.append_nil, List.append_assoc, inR_i64, true_and, and_true, Int.toNat_natCast]
   try dsimp only [Ty.den, Ty.dflt]
   repeat' apply And.intro
   all_goals first | rfl | omega | assumption | trivial
  refine sw_seq (xg hP 4 [] rfl ?_ ?_)
  ·simp only [conj, List.nil_append, List.cons_append, List.append_nil, List.append_assoc, inR_i64, true_and, and_true, Int.toNat_natCast]
   try dsimp only [Ty.den, Ty.dflt]
   repeat' apply And.intro
   all_goals first | rfl | omega | assumption | trivial
  refine sw_seq (xr hP 5 rfl (sw_ret ⟨.inl rfl, _, rfl, ?_⟩))
  simp [conj, comeD, dskOf, drvOf, hv]
def cCrashS : Ctr := ⟨115, [.own true T_Disk (.all .w), .val false TI pF], fun x => (drvOf x.1).ok ∧ x.1.2.2.2.2.any badP = false ∧ List.length x.1.2.2.2.2 ≤ 40 ∧ 0 ≤ x.2.1, fun x => (.v true [.d TI pF (dskOf x.1.1 (comes (keepB x.2.1.toNat x.1.2.2.2.2) (drvOf x.1)) []).1, .own ⟨1, 0, 0⟩, .own ⟨1, 1, 0⟩, .own ⟨1, 2, 0⟩, .own ⟨1, 3, 0⟩], [(⟨1, 0, 0⟩, .sl .str (.all .w) (dskOf x.1.1 (comes (keepB x.2.1.toNat x.1.2.2.2.2) (drvOf x.1)) []).2.1), (⟨1, 1, 0⟩, .sl .str (.all .w) (dskOf x.1.1 (comes (keepB x.2.1.toNat x.1.2.2.2.2) (drvOf x.1)) []).2.2.1), (⟨1, 2, 0⟩, .sl .bool (.all .w) (dskOf x.1.1 (comes (keepB x.2.1.toNat x.1.2.2.2.2) (drvOf x.1)) []).2.2.2.1), (⟨1, 3, 0⟩, .sl T_Put (.all .w) (dskOf x.1.1 (comes (keepB x.2.1.toNat x.1.2.2.2.2) (drvOf x.1)) []).2.2.2.2)])⟩
theorem cCrashS_ok : CtrOk Proofs.Tryz.prog cCrashS := by
 have hP := ((Prg.none ttok mtok).and cComeS_ok)
 refine ctr_of_body hP cCrashS (fn := Proofs.Tryz.f115) (rts := [.cell 4 38]) Proofs.Tryz.func115 rfl (by kernel_rfl) rfl rfl ?_
 rintro ⟨⟨(st : Int), (sl : List Str), (rg : List Str), (sp : List Bool), (wt : List Put)⟩, (keep : Int), ⟨⟩⟩ ⟨_, hk, _⟩ ⟨ho, hw, h40, h0⟩
 try dsimp only [Ty.den, Mode.den, mdens] at ho
 try dsimp only [Ty.den, Mode.den, mdens] at hw
 try dsimp only [Ty.den, Mode.den, mdens] at h40
 try dsimp only [Ty.den, Mode.den, mdens] at h0
 refine ⟨rfl, ?_⟩
 have hkm : keep ≤ 9223372036854775807 := (inR_i64.1 hk).2
 replace h0 : 0 ≤ keep := h0
 replace h40 : wt.length ≤ 40 := h40
 replace hw : wt.any badP = false := hw
 replace ho : Drv.ok (sl, rg, sp) := ho
 refine sw_seq (xr hP 1 rfl (sw_seq (sw_seq (xr hP 2 rfl (sw_block (sw_loop (ι := Nat × Nat × Drv) (fun ⟨i, n, u⟩ => ⟨[.j, sInt .i64 (n : Int), .v false [.ptr ⟨1, 0, 0⟩ 0], .j, .v false [.ptr ⟨1, 1, 0⟩ 0], sInt .i64 (i : Int), .j, .j, .j, .j, .j, .j, .j, .j, .j, .j, .j, .j, .j, .j, .j, .j, .j, .j, .j, .j, .j, .j], [(⟨1, 0, 0⟩, .var [.d TI pF st, .own ⟨0, 9, 1⟩, .own ⟨0, 9, 2⟩, .own ⟨0, 9, 3⟩, .own ⟨0, 9, 4⟩]), (⟨0, 9, 1⟩, .sl .str (.all .w) u.1), (⟨0, 9, 2⟩, .sl .str (.all .w) u.2.1), (⟨0, 9, 3⟩, .sl .bool (.all .w) u.2.2), (⟨0, 9, 4⟩, .sl T_Put (.all .w) wt), (⟨1, 1, 0⟩, .var [.d TI pF 0, .nils, .nils, .nils, .nils])], 2, []⟩) (fun ⟨i, n, u⟩ => wt.length - i) (fun ⟨i, n, u⟩ => i ≤ wt.length ∧ n ≤ 9223372036854775807 ∧ comes (keepB n (wt.drop i)) u = comes (keepB keep.toNat wt) (sl, rg, sp) ∧ u.ok) (0, keep.toNat, (sl, rg, sp)) ⟨?_, ?_⟩ ?_))))))
 ·exact ⟨Nat.zero_le _, by show keep.toNat ≤ _; omega, rfl, ho⟩
 ·refine ent_ok rfl ?_
  simp [conj]
  try exact (Int.max_eq_left (by omega)).symm
  try omega
 ·rintro ⟨i, n, u⟩ ⟨hi, hn, hgo, hu⟩
  refine sw_seq (sw_seq (xr hP 3 rfl (sw_cond rfl (fun c2 => ?_) (fun c2 => ?_))))
  ·have hlt : i < wt.length := by simpa using c2
   have hg : (List.getD wt i T_Put.dflt : Put) = wt[i] := by rw [List.getD, gE hlt]; rfl
   have hp := wait_at hw hlt
   rw [← hg] at hp
   have htm : ((n : Nat) : Int).tmod 2 = ((n % 2 : Nat) : Int) := rfl
   have htd : ((n : Nat) : Int).tdiv 2 = ((n / 2 : Nat) : Int) := rfl
   have hdl := Nat.div_le_self n 2
   refine sw_skip (sw_seq (sw_block (sw_seq (sw_seq (xg hP 4 [] rfl ?_ ?_)))))
   ·simp only [conj, List.nil_append, List.cons_append, List.append_nil, List.append_assoc, inR_i64, true_and, and_true, Int.toNat_natCast]
    try dsimp only [Ty.den, Ty.dflt]
    repeat' apply And.intro
    all_goals first | rfl | omega | assumption | trivial
   refine sw_cond rfl (fun c4 => ?_) (fun c4 => ?_)
   ·have hb : n % 2 = 1 := by have h : ((n : Nat) : Int).tmod 2 = 1 := of_decide_eq_true c4; omega
    have hnx := keep_hit hlt hb hgo
    rw [← hg] at hnx
    refine xg hP 5 [] rfl ?_ ?_
    ·simp only [conj, List.nil_append, List.cons_append, List.append_nil, List.append_assoc, inR_i64, true_and, and_true, Int.toNat_natCast]
     try dsimp only [Ty.den, Ty.dflt]
     repeat' apply And.intro
     all_goals first | exact hp | exact hu.1 | exact hu.2.1 | exact hu.2.2 | rfl | omega | assumption | trivial
    refine xg hP 6 [] rfl ?_ ?_
    ·simp only [conj, List.nil_append, List.cons_append, List.append_nil, List.append_assoc, inR_i64, true_and, and_true, Int.toNat_natCast]
     try dsimp only [Ty.den, Ty.dflt]
     repeat' apply And.intro
     all_goals first | omega | trivial | (rw [htd]; omega)
    refine xg hP 7 [] rfl ?_ ?_
    ·simp only [conj, List.nil_append, List.cons_append, List.append_nil, List.append_assoc, inR_i64, true_and, and_true, Int.toNat_natCast]
     try dsimp only [Ty.den, Ty.dflt]
     repeat' apply And.intro
     all_goals first | rfl | omega | assumption | trivial
    refine ⟨(i + 1, n / 2, come (List.getD wt i T_Put.dflt) u), ?_, ?_, ent_ok rfl ?_⟩
    ·exact ⟨hlt, by show n / 2 ≤ _; omega, hnx, come_ok hu⟩
    ·show wt.length - (i + 1) < wt.length - i
     omega
    ·simp [conj, comeD, dskOf, drvOf, htd]
   ·have hb : ¬ n % 2 = 1 := by have h : ¬ ((n : Nat) : Int).tmod 2 = 1 := of_decide_eq_false c4; omega
    have hnx := keep_no hlt hb hgo
    refine sw_skip (xg hP 5 [] rfl ?_ ?_)
    ·simp only [conj, List.nil_append, List.cons_append, List.append_nil, List.append_assoc, inR_i64, true_and, and_true, Int.toNat_natCast]
     try dsimp only [Ty.den, Ty.dflt]
     repeat' apply And.intro
     all_goals first | omega | trivial | (rw [htd]; omega)
    refine xg hP 6 [] rfl ?_ ?_
    ·simp only [conj, List.nil_append, List.cons_append, List.append_nil, List.append_assoc, inR_i64, true_and, and_true, Int.toNat_natCast]
     try dsimp only [Ty.den, Ty.dflt]
     repeat' apply And.intro
     all_goals first | rfl | omega | assumption | trivial
    refine ⟨(i + 1, n / 2, u), ?_, ?_, ent_ok rfl ?_⟩
    ·exact ⟨hlt, by show n / 2 ≤ _; omega, hnx, hu⟩
    ·show wt.length - (i + 1) < wt.length - i
     omega
    ·simp [conj, comeD, dskOf, drvOf, htd]
  ·obtain rfl : i = wt.length := by simp at c2; omega
   refine sw_exit (sw_seq (xr hP 4 rfl (sw_seq (xr hP 5 rfl (sw_ret ⟨.inl rfl, _, rfl, ?_⟩)))))
   have hv := keep_end hgo
   subst hv
   simp [conj, dskOf, drvOf]
end Go.Sx

namespace Go.Sx
open Go
set_option maxRecDepth 100000
set_option linter.unusedVariables false
set_option linter.unusedSimpArgs false
set_option maxHeartbeats 2000000
def cDOk : Ctr := ⟨121, [.val true T_Disk (.all .b)], fun _ => True, fun x => (sBool (rdV x.1), [])⟩
theorem cDOk_ok : CtrOk Proofs.Tryz.prog cDOk := by
 have hP := (Prg.none ttok mtok)
 refine ctr_of_body hP cDOk (fn := Proofs.Tryz.f121) (rts := [.tmp 2]) Proofs.Tryz.func121 rfl (by kernel_rfl) rfl rfl ?_
 rintro ⟨⟨(st : Int), (sl : List Str), (rg : List Str), (sp : List Bool), (wt : List Put)⟩, ⟨⟩⟩ _ _
 try dsimp only [Ty.den, Mode.den, mdens] at _
 refine ⟨rfl, ?_⟩
 by_cases h1 : rdV ((st, sl, rg, sp, wt) : Dsk) = true
 ·have hP := ((Prg.none ttok mtok).and cRead_ok)
  refine sw_seq (xr hP 1 rfl (sw_seq (xg hP 2 [] rfl ?_ ?_)))
  ·simp [conj, maxL]
   try dsimp only [Ty.den, Ty.dflt]
   try simp only [rd_eta]
   exact h1
  refine sw_seq (xr hP 3 rfl (sw_ret ⟨.inl rfl, _, rfl, ?_⟩))
  simp [conj, h1]
 ·have hP := ((Prg.none ttok mtok).and cReadB_ok)
  have h1b : rdV ((st, sl, rg, sp, wt) : Dsk) = false := by simpa using h1
  refine sw_seq (xr hP 1 rfl (sw_seq (xg hP 2 [] rfl ?_ ?_)))
  ·simp [conj, maxL]
   try dsimp only [Ty.den, Ty.dflt]
   try simp only [rd_eta]
   exact h1b
  refine sw_seq (xr hP 3 rfl (sw_ret ⟨.inl rfl, _, rfl, ?_⟩))
  simp [conj, h1b]
def cStr1 : Ctr := ⟨120, [.val true T_Disk (.all .b)], fun x => True, fun x => (sBool (noD x.1), [])⟩
theorem cStr1_ok : CtrOk Proofs.Tryz.prog cStr1 := by
 have hP := ((Prg.none ttok mtok).and cDOk_ok)
 refine ctr_of_body hP cStr1 (fn := Proofs.Tryz.f120) (rts := [.tmp 2]) Proofs.Tryz.func120 rfl (by kernel_rfl) rfl rfl ?_
 rintro ⟨⟨(st : Int), (sl : List Str), (rg : List Str), (sp : List Bool), (wt : List Put)⟩, ⟨⟩⟩ _ _
 try dsimp only [Ty.den, Mode.den, mdens] at _
 refine ⟨rfl, ?_⟩
 refine sw_seq (xr hP 1 rfl (sw_seq (xg hP 2 [] rfl ?_ ?_)))
 ·simp [conj, maxL]
  try dsimp only [Ty.den, Ty.dflt]
  try simp only [rd_eta]
  try trivial
 refine sw_ret ⟨.inl rfl, _, rfl, ?_⟩
 simp [conj, noD]
def cIdxD : Ctr := ⟨154, [.val false (.sl T_Disk) (.all .b), .clo 120 []], fun _ => True, fun x => (sInt .i64 (idxF noD x.1), [])⟩
theorem cIdxD_ok : CtrOk Proofs.Tryz.prog cIdxD := by
 have hP := ((Prg.none ttok mtok).and cStr1_ok)
 refine ctr_of_body hP cIdxD (fn := Proofs.Tryz.f154) (rts := [.tmp 4]) Proofs.Tryz.func154 rfl (by kernel_rfl) rfl rfl ?_
 rintro ⟨(l : List Dsk), ⟨⟩, ⟨⟩⟩ ⟨hdl, _⟩ hpre
 try dsimp only [Ty.den, Mode.den, mdens] at hpre
 refine ⟨rfl, ?_⟩
 have hml : l.length ≤ 140737488355328 := hdl.1
 refine sw_seq (xr hP 1 rfl (sw_seq (sw_seq (xr hP 2 rfl (sw_block (sw_loop (ι := Nat) (fun i => ⟨[.v false [.d (.sl T_Disk) (.all .b) l], .fn 120 [], .j, .j, .j, .j, .j, sInt .i64 (l.length : Int), sInt .i64 (i : Int), .j, .j, .j, .j, .j, .j, .j, .j, .j, .j], [], 2, []⟩) (fun i => l.length - i) (fun i => i ≤ l.length ∧ idxFGo noD (l.drop i) i = idxF noD l) 0 ⟨?_, ?_⟩ ?_))))))
 ·exact ⟨Nat.zero_le _, rfl⟩
 ·refine ent_ok rfl ?_
  first | trivial | (simp [conj]; done) | (simp [conj] at *; (try dsimp only [Ty.den, Ty.dflt] at *); omega)
 ·rintro i ⟨hi, hgo⟩
  refine sw_seq (xr hP 3 rfl (sw_seq (sw_cond rfl (fun c2 => ?_) (fun c2 => ?_))))
  ·have hlt : i < l.length := by simpa using c2
   refine sw_skip (sw_seq (sw_block (sw_seq (xr hP 4 rfl (sw_seq (xg hP 5 [] rfl ?_ ?_))))))
   ·simp [conj, maxL]
    try dsimp only [Ty.den, Ty.dflt]
    try simp only [rd_eta]
    repeat' apply And.intro
    all_goals first | assumption | omega | exact trivial
   refine sw_cond rfl (fun c4 => ?_) (fun c4 => ?_)
   ·replace c4 : noD l[i] = true := by simpa [gE hlt] using c4
    refine sw_seq (xr hP 6 rfl (sw_ret ⟨.inl rfl, _, rfl, ?_⟩))
    simp [conj, idxF_hit hlt hgo c4]
   ·replace c4 : noD l[i] = false := by simpa [gE hlt] using c4
    refine sw_skip (xr hP 6 rfl (⟨i + 1, ?_, ?_, ent_ok rfl ?_⟩))
    ·exact ⟨hlt, idxF_next hlt hgo c4⟩
    ·omega
    ·simp [conj, maxL]
     try dsimp only [Ty.den, Ty.dflt]
     try simp only [rd_eta]
     repeat' apply And.intro
     all_goals first | rfl | assumption | omega
  ·obtain rfl : i = l.length := by simp at c2; omega
   refine sw_exit (sw_seq (xr hP 4 rfl (sw_ret ⟨.inl rfl, _, rfl, ?_⟩)))
   simp [conj, idxF_end hgo]
def cContD : Ctr := ⟨119, [.val false (.sl T_Disk) (.all .b), .clo 120 []], fun _ => True, fun x => (sBool (List.any x.1 noD), [])⟩
theorem cContD_ok : CtrOk Proofs.Tryz.prog cContD := by
 have hP := ((Prg.none ttok mtok).and cIdxD_ok)
 refine ctr_of_body hP cContD (fn := Proofs.Tryz.f119) (rts := [.tmp 4]) Proofs.Tryz.func119 rfl (by kernel_rfl) rfl rfl ?_
 rintro ⟨(l : List Dsk), ⟨⟩, ⟨⟩⟩ _ hpre
 try dsimp only [Ty.den, Mode.den, mdens] at hpre
 refine ⟨rfl, ?_⟩
 refine sw_seq (xr hP 1 rfl (sw_seq (xr hP 2 rfl (sw_ret ⟨.inl rfl, _, rfl, ?_⟩))))
 simp [conj]
 exact idxF_any
def cStripeOk : Ctr := ⟨69, [.val false (.sl T_Disk) (.all .b)], fun x => True, fun x => (sBool (stripeV x.1), [])⟩
theorem cStripeOk_ok : CtrOk Proofs.Tryz.prog cStripeOk := by
 have hP := (((Prg.none ttok mtok).and cPool_ok).and cContD_ok)
 refine ctr_of_body hP cStripeOk (fn := Proofs.Tryz.f69) (rts := [.tmp 2]) Proofs.Tryz.func69 rfl (by kernel_rfl) rfl rfl ?_
 rintro ⟨(ds : List Dsk), ⟨⟩⟩ _ _
 try dsimp only [Ty.den, Mode.den, mdens] at _
 refine ⟨rfl, ?_⟩
 refine sw_seq (xr hP 1 rfl (sw_seq ?_))
 refine sw_dec hP 2 [] 3 rfl (fun g1_3 => ?_) (fun g1_3 => ?_)
 ·refine xg hP 2 [(3, true)] rfl ?_ ?_
  ·simp [conj, maxL]
   try dsimp only [Ty.den, Ty.dflt]
   try simp only [rd_eta]
   repeat' apply And.intro
   all_goals first | trivial | assumption
  refine sw_ret ⟨.inl rfl, _, rfl, ?_⟩
  simp [conj, stripeV, *]
 ·refine xg hP 2 [(3, false)] rfl ?_ ?_
  ·simp [conj, maxL]
   try dsimp only [Ty.den, Ty.dflt]
   try simp only [rd_eta]
   repeat' apply And.intro
   all_goals first | trivial | assumption
  refine sw_ret ⟨.inl rfl, _, rfl, ?_⟩
  simp [conj, stripeV, *]
def cStripeOkS : Ctr := ⟨66, [.val false (.sl T_Disk) (.all .b)], fun x => True, fun x => (sBool (stripeV x.1), [])⟩
theorem cStripeOkS_ok : CtrOk Proofs.Tryz.prog cStripeOkS := by
 have hP := (((Prg.none ttok mtok).and cDok_ok).and cDisks_ok)
 refine ctr_of_body hP cStripeOkS (fn := Proofs.Tryz.f66) (rts := [.tmp 2]) Proofs.Tryz.func66 rfl (by kernel_rfl) rfl rfl ?_
 rintro ⟨(ds : List Dsk), ⟨⟩⟩ ⟨hdl, _⟩ _
 try dsimp only [Ty.den, Mode.den, mdens] at _
 refine ⟨rfl, ?_⟩
 have hml : ds.length ≤ 140737488355328 := hdl.1
 refine sw_seq (xr hP 1 rfl (sw_seq (sw_seq (xr hP 2 rfl (sw_block (sw_loop (ι := Nat) (fun i => ⟨[.v false [.d (.sl T_Disk) (.all .b) ds], .j, .j, sInt .i64 (i : Int), .j, .j, .j, .j, .j, .j, .j, .j, .j, .j, .j, .j, .j, .j, .j], [], 2, []⟩) (fun i => ds.length - i) (fun i => i ≤ ds.length ∧ (ds.drop i).all rdV = ds.all rdV) 0 ⟨?_, ?_⟩ ?_))))))
 ·exact ⟨Nat.zero_le _, rfl⟩
 ·refine ent_ok rfl ?_
  simp [conj]
 ·rintro i ⟨hi, hgo⟩
  refine sw_seq (sw_seq (xr hP 3 rfl (sw_cond rfl (fun c2 => ?_) (fun c2 => ?_))))
  ·have hlt : i < ds.length := by simpa using c2
   refine sw_skip (sw_seq (sw_block (sw_seq (xg hP 4 [] rfl ?_ ?_))))
   ·simp [conj, gE hlt]
    repeat' apply And.intro
    all_goals first | omega | trivial
   refine sw_cond rfl (fun c4 => ?_) (fun c4 => ?_)
   ·replace c4 : rdV ds[i] = false := by simpa [gE hlt] using c4
    have hv := all_hit hlt hgo c4
    refine sw_seq (xr hP 5 rfl (sw_ret ⟨.inl rfl, _, rfl, ?_⟩))
    have hs : stripeV ds = false := by
      unfold stripeV
      rw [← all_any, hv]
      simp
    simp [conj, hs]
   ·replace c4 : rdV ds[i] = true := by simpa [gE hlt] using c4
    refine sw_skip (xr hP 5 rfl (⟨i + 1, ?_, ?_, ent_ok rfl ?_⟩))
    ·exact ⟨hlt, all_next hlt hgo c4⟩
    ·omega
    ·simp [conj]
  ·obtain rfl : i = ds.length := by simp at c2; omega
   have hv := all_end hgo
   refine sw_exit (sw_seq (xr hP 4 rfl (sw_ret ⟨.inl rfl, _, rfl, ?_⟩)))
   have hs : stripeV ds = poolV (ds.length : Int) := by
     unfold stripeV
     rw [← all_any, hv]
     simp
   simp [conj, hs]
end Go.Sx

namespace Go.Sx
open Go
set_option maxRecDepth 100000
set_option linter.unusedVariables false
set_option linter.unusedSimpArgs false
set_option maxHeartbeats 2000000
def cSumOf : Ctr := ⟨41, [.val false .str pF], fun x => True, fun x => (sInt .i64 (weighV (List.take 9 x.1)), [])⟩
theorem cSumOf_ok : CtrOk Proofs.Tryz.prog cSumOf := by
 have hP := (Prg.none ttok mtok)
 refine ctr_of_body hP cSumOf (fn := Proofs.Tryz.f41) (rts := [.tmp 2]) Proofs.Tryz.func41 rfl (by kernel_rfl) rfl rfl ?_
 rintro ⟨(s : Str), ⟨⟩⟩ ⟨hds, _⟩ _
 try dsimp only [Ty.den, Mode.den, mdens] at _
 refine ⟨rfl, ?_⟩
 have hml : s.length ≤ 140737488355328 := hds
 have hc9 : (s.take 9).length ≤ 9 := List.length_take_le _ _
 refine sw_seq (xr hP 1 rfl (sw_seq (xr hP 2 rfl (sw_seq (sw_seq (xr hP 3 rfl (sw_block (sw_loop (ι := Nat × Int) (fun ⟨i, n⟩ => ⟨[sStr s, .j, .j, sInt .i64 n, sInt .i64 (i : Int), .j, .j, .j, .j, .j, .j, .j, .j, .j, .j, .j, .j, .j, .j, .j, .j, .j, .j, .j, .j, .j], [], 3, []⟩) (fun ⟨i, n⟩ => 9 - i) (fun ⟨i, n⟩ => i ≤ (s.take 9).length ∧ n + weighGo ((s.take 9).drop i) i = weighV (s.take 9) ∧ 0 ≤ n ∧ n ≤ (i : Int) * 300000000) (0, 0) ⟨?_, ?_⟩ ?_))))))))
 ·exact ⟨Nat.zero_le _, by simp [weighV], by decide, by decide⟩
 ·refine ent_ok rfl ?_
  simp [conj]
 ·rintro ⟨i, n⟩ ⟨hi, hgo, hn0, hn1⟩
  refine sw_seq (sw_seq ?_)
  refine sw_dec hP 4 [] 4 rfl (fun g3_4 => ?_) (fun g3_4 => ?_)
  ·have k4 : i < s.length := by simpa using g3_4
   refine xg hP 4 [(4, true)] rfl ?_ ?_
   ·simp only [cj, cl]
    try dsimp only [Ty.den, Ty.dflt]
    repeat' apply And.intro
    all_goals first | exact g3_4 | omega | trivial
   refine sw_cond rfl (fun c3 => ?_) (fun c3 => ?_)
   ·have h9 : i < 9 := by have h := c3; simp at h; omega
    have hlt : i < s.length := k4
    have hlt9 : i < (s.take 9).length := by rw [List.length_take]; omega
    have hg9 : (s.take 9)[i] = s[i] := by simp
    have hone := weigh_one (c := s[i]) (i := i) (by omega)
    have hnx := weigh_next hlt9 hgo
    rw [hg9] at hnx
    refine sw_skip (sw_seq (sw_block (xg hP 5 [] rfl ?_ ?_)))
    ·simp [conj, gE hlt]
     have hu : s[i].toNat < 256 := s[i].toNat_lt
     repeat' apply And.intro
     all_goals omega
    refine xr hP 6 rfl (⟨(i + 1, n + (s[i].toNat : Int) * (65536 + (i : Int) + 1)), ?_, ?_, ent_ok rfl ?_⟩)
    ·exact ⟨hlt9, hnx, by show 0 ≤ n + (s[i].toNat : Int) * (65536 + (i : Int) + 1); omega, by show n + (s[i].toNat : Int) * (65536 + (i : Int) + 1) ≤ ((i + 1 : Nat) : Int) * 300000000; omega⟩
    ·show 9 - (i + 1) < 9 - i
     omega
    ·simp [conj, gE hlt]
   ·have h9 : ¬ i < 9 := by have h := c3; simp at h; omega
    obtain rfl : i = (s.take 9).length := by rw [List.length_take] at hi ⊢; omega
    have hv := weigh_end hgo
    refine sw_exit (sw_seq (xr hP 5 rfl (sw_ret ⟨.inl rfl, _, rfl, ?_⟩)))
    simp [conj, hv]
  ·have k4 : ¬ i < s.length := by simpa using g3_4
   obtain rfl : i = (s.take 9).length := by rw [List.length_take] at hi ⊢; omega
   have hv := weigh_end hgo
   refine xg hP 4 [(4, false)] rfl ?_ ?_
   ·simp only [cj, cl]
    try dsimp only [Ty.den, Ty.dflt]
    repeat' apply And.intro
    all_goals first | exact g3_4 | omega | trivial
   refine sw_condF rfl (sw_exit (sw_seq (xr hP 5 rfl (sw_ret ⟨.inl rfl, _, rfl, ?_⟩))))
   simp [conj, hv]
def cSec : Ctr := ⟨129, [.val false .str pF], fun _ => True, fun x => (sStr (secT x.1), [])⟩
theorem cSec_ok : CtrOk Proofs.Tryz.prog cSec := by
 have hP := (Prg.none ttok mtok)
 refine ctr_of_body hP cSec (fn := Proofs.Tryz.f129) (rts := [.tmp 2]) Proofs.Tryz.func129 rfl (by kernel_rfl) rfl rfl ?_
 rintro ⟨(s0 : Str), ⟨⟩⟩ ⟨hds, _⟩ _
 try dsimp only [Ty.den, Mode.den, mdens] at _
 refine ⟨rfl, ?_⟩
 have hml : s0.length ≤ 140737488355328 := hds
 refine sw_seq (xr hP 1 rfl (sw_seq (sw_block (sw_loop (ι := Str) (fun s => ⟨[sStr s, .j, .j, .j, .j, .j, .j, .j, .j, .j], [], 1, []⟩) (fun s => 3 - s.length) (fun s => secT s = secT s0 ∧ s.length ≤ 140737488355328) s0 ⟨?_, ?_⟩ ?_))))
 ·exact ⟨rfl, hml⟩
 ·refine ent_ok rfl ?_
  simp [conj]
 ·rintro s ⟨hgo, hl⟩
  refine sw_seq (sw_seq (xr hP 2 rfl (sw_cond rfl (fun c1 => ?_) (fun c1 => ?_))))
  ·have hlt : s.length < 3 := by simp at c1; omega
   refine sw_skip (sw_block (xg hP 3 [] rfl ?_ ?_))
   ·simp [conj, maxL, bytesL]
    omega
   refine ⟨s ++ [0], ?_, ?_, ent_ok rfl ?_⟩
   ·exact ⟨by rw [secT_next hlt, hgo], by simp; omega⟩
   ·show 3 - (s ++ [0]).length < 3 - s.length
    simp; omega
   ·simp [conj, bytesL]
  ·have hge : ¬ s.length < 3 := by simp at c1; omega
   refine sw_exit (sw_seq (xg hP 3 [] rfl ?_ ?_))
   ·simp [conj]
    omega
   refine sw_ret ⟨.inl rfl, _, rfl, ?_⟩
   rw [← hgo, secT_end hge]
   simp [conj]
def cXorS : Ctr := ⟨160, [.val false .str pF, .val false .str pF], fun x => List.length x.1 ≤ 1000 ∧ List.length x.2.1 ≤ 1000, fun x => (sStr (xorV x.1 x.2.1), [])⟩
theorem cXorS_ok : CtrOk Proofs.Tryz.prog cXorS := by
 have hP := (Prg.none ttok mtok)
 refine ctr_of_body hP cXorS (fn := Proofs.Tryz.f160) (rts := [.tmp 4]) Proofs.Tryz.func160 rfl (by kernel_rfl) rfl rfl ?_
 rintro ⟨(a : Str), (b : Str), ⟨⟩⟩ _ ⟨ha, hb⟩
 try dsimp only [Ty.den, Mode.den, mdens] at ha
 try dsimp only [Ty.den, Mode.den, mdens] at hb
 refine ⟨rfl, ?_⟩
 replace ha : a.length ≤ 1000 := ha
 replace hb : b.length ≤ 1000 := hb
 refine sw_seq (xr hP 1 rfl (sw_seq (xr hP 2 rfl (sw_seq (sw_seq (xr hP 3 rfl (sw_block (sw_loop (ι := Nat) (fun i => ⟨[.v false [.d .str pF a], .v false [.d .str pF b], .j, .j, .j, .v false [.own ⟨0, 9, 0⟩], sInt .i64 (i : Int), .j, .j, .j, .j, .j, .j, .j, .j, .j, .j, .j, .j, .j, .j, .j, .j, .j, .j, .j, .j, .j, .j, .j, .j, .j, .j, .j, .j, .j, .j, .j, .j, .j], [(⟨0, 9, 0⟩, .sl (.int .u8) (.all .w) (toI ((xorV a b).take i)))], 3, []⟩) (fun i => max a.length b.length - i) (fun i => i ≤ max a.length b.length) 0 ⟨?_, ?_⟩ ?_))))))))
 ·exact Nat.zero_le _
 ·refine ent_ok rfl ?_
  simp [conj]
 ·rintro i hi
  refine sw_seq (sw_seq (xr hP 4 rfl (sw_cond rfl (fun c3 => ?_) (fun c3 => ?_))))
  ·have hlt : i < max a.length b.length := by have h : (i : Int) < sMax (a.length : Int) (b.length : Int) := of_decide_eq_true c3; rw [sMaxN] at h; omega
   have hnx := xorV_next hlt
   simp only [toI, List.map_take] at hnx
   have hxl := xorV_len a b
   refine sw_skip (sw_seq (sw_block (sw_seq (xg hP 5 [] rfl ?_ ?_))))
   ·simp [conj, maxL]
    try omega
   refine sw_seq (sw_seq (xg hP 6 [] rfl ?_ ?_))
   ·simp [conj, maxL]
    try omega
   refine sw_cond rfl (fun c6 => ?_) (fun c6 => ?_)
   ·have k5 : i < a.length := by simpa using c6
    refine xg hP 7 [] rfl ?_ ?_
    ·simp [conj, maxL]
     try omega
    refine sw_seq (sw_seq (xg hP 8 [] rfl ?_ ?_))
    ·simp [conj, maxL]
     try omega
    refine sw_cond rfl (fun c8 => ?_) (fun c8 => ?_)
    ·have k6 : i < b.length := by simpa using c8
     refine xg hP 9 [] rfl ?_ ?_
     ·simp [conj, maxL]
      try omega
     refine xg hP 10 [] rfl ?_ ?_
     ·simp [conj, maxL]
      try omega
     refine xg hP 11 [] rfl ?_ ?_
     ·simp [conj, maxL]
      try omega
     refine ⟨i + 1, ?_, ?_, ent_ok rfl ?_⟩
     ·exact hlt
     ·omega
     ·simp [conj]
      have hb : bitsOp .xor .u8 ((a.getD i 0).toNat : Int) ((b.getD i 0).toNat : Int) = ((a.getD i 0 ^^^ b.getD i 0).toNat : Int) := bitsX _ _
      rw [← hb] at hnx
      exact hnx
    ·have k6 : ¬ i < b.length := by simpa using c8
     have e6 := getD_out k6
     refine sw_skip (xg hP 9 [] rfl ?_ ?_)
     ·simp [conj, maxL]
      try omega
     refine xg hP 10 [] rfl ?_ ?_
     ·simp [conj, maxL]
      try omega
     refine ⟨i + 1, ?_, ?_, ent_ok rfl ?_⟩
     ·exact hlt
     ·omega
     ·simp [conj]
      have hb : ((a.getD i 0).toNat : Int) = ((a.getD i 0 ^^^ b.getD i 0).toNat : Int) := by rw [e6, UInt8.xor_zero]
      rw [← hb] at hnx
      exact hnx
   ·have k5 : ¬ i < a.length := by simpa using c6
    have e5 := getD_out k5
    refine sw_skip (sw_seq (sw_seq (xg hP 7 [] rfl ?_ ?_)))
    ·simp [conj, maxL]
     try omega
    refine sw_cond rfl (fun c8 => ?_) (fun c8 => ?_)
    ·have k6 : i < b.length := by simpa using c8
     refine xg hP 8 [] rfl ?_ ?_
     ·simp [conj, maxL]
      try omega
     refine xg hP 9 [] rfl ?_ ?_
     ·simp [conj, maxL]
      try omega
     refine xg hP 10 [] rfl ?_ ?_
     ·simp [conj, maxL]
      try omega
     refine ⟨i + 1, ?_, ?_, ent_ok rfl ?_⟩
     ·exact hlt
     ·omega
     ·simp [conj]
      have hb : bitsOp .xor .u8 0 ((b.getD i 0).toNat : Int) = ((a.getD i 0 ^^^ b.getD i 0).toNat : Int) := by rw [e5]; exact bitsX 0 _
      rw [← hb] at hnx
      exact hnx
    ·have k6 : ¬ i < b.length := by simpa using c8
     have e6 := getD_out k6
     refine sw_skip (xg hP 8 [] rfl ?_ ?_)
     ·simp [conj, maxL]
      try omega
     refine xg hP 9 [] rfl ?_ ?_
     ·simp [conj, maxL]
      try omega
     refine ⟨i + 1, ?_, ?_, ent_ok rfl ?_⟩
     ·exact hlt
     ·omega
     ·simp [conj]
      have hb : 0 = ((a.getD i 0 ^^^ b.getD i 0).toNat : Int) := by rw [e5, e6]; rfl
      rw [← hb] at hnx
      exact hnx
  ·have hge : i = max a.length b.length := by have h : ¬ (i : Int) < sMax (a.length : Int) (b.length : Int) := of_decide_eq_false c3; rw [sMaxN] at h; omega
   have hxl := xorV_len a b
   subst hge
   rw [← hxl]
   refine sw_exit (sw_seq (xg hP 5 [] rfl ?_ ?_))
   ·simp [conj, maxL]
    try omega
   refine sw_ret ⟨.inl rfl, _, rfl, ?_⟩
   simp [conj]
   exact ofBytes_toI _
def cColsT : Ctr := ⟨131, [.val false .str pF], fun x => 1 ≤ List.length x.1 ∧ List.length x.1 ≤ 9, fun x => (.v false [.own ⟨1, 0, 0⟩], [(⟨1, 0, 0⟩, .sl .str (.all .w) (colT x.1))])⟩
theorem cColsT_ok : CtrOk Proofs.Tryz.prog cColsT := by
 have hP := (((Prg.none ttok mtok).and cIn_ok).and cSec_ok)
 refine ctr_of_body hP cColsT (fn := Proofs.Tryz.f131) (rts := [.tmp 2]) Proofs.Tryz.func131 rfl (by kernel_rfl) rfl rfl ?_
 rintro ⟨(s : Str), ⟨⟩⟩ _ ⟨h1, h9⟩
 try dsimp only [Ty.den, Mode.den, mdens] at h1
 try dsimp only [Ty.den, Mode.den, mdens] at h9
 refine ⟨rfl, ?_⟩
 replace h1 : 1 ≤ s.length := h1
 replace h9 : s.length ≤ 9 := h9
 have hcl := colT_len s
 refine sw_seq (xr hP 1 rfl (sw_seq (xr hP 2 rfl (sw_seq (sw_seq (xr hP 3 rfl (sw_cond rfl (fun c2 => ?_) (fun c2 => ?_))))))))
 ·have h : (!inV (s.length : Int) 1 9) = true := c2
  unfold inV at h
  simp at h
  omega
 ·refine sw_skip (sw_seq (sw_seq (xr hP 4 rfl (sw_block (sw_loop (ι := Nat) (fun i => ⟨[.v false [.d .str pF s], .j, .j, .v false [.own ⟨0, 9, 0⟩], sInt .i64 (3 * (i : Int)), .j, .j, .j, .j, .j, .j, .j, .j, .j, .j, .j, .j, .j, .j, .j, .j, .j, .j, .j, .j], [(⟨0, 9, 0⟩, .sl .str (.all .w) ((colT s).take i))], 4, []⟩) (fun i => (s.length + 2) / 3 - i) (fun i => i ≤ (s.length + 2) / 3) 0 ⟨?_, ?_⟩ ?_)))))
  ·exact Nat.zero_le _
  ·refine ent_ok rfl ?_
   simp [conj]
  ·rintro i hi
   refine sw_seq (sw_seq (xr hP 5 rfl (sw_cond rfl (fun c5 => ?_) (fun c5 => ?_))))
   ·have hlt : 3 * i < s.length := by have h : (3 * (i : Int)) < (s.length : Int) := of_decide_eq_true c5; omega
    have hnx := colT_nextS hlt
    refine sw_skip (sw_seq (sw_block (xg hP 6 [] rfl ?_ ?_)))
    ·simp [conj, maxL, hcl]
     repeat' apply And.intro
     all_goals first | omega | trivial
    refine xr hP 7 rfl (⟨i + 1, ?_, ?_, ent_ok rfl ?_⟩)
    ·omega
    ·omega
    ·simp [conj]
     exact ⟨by rw [show (3 * (i : Int)).toNat = 3 * i by omega]; exact hnx, by show (3 * (i : Int) + 3 : Int) = 3 * ((i : Int) + 1); omega⟩
   ·have hge : ¬ 3 * i < s.length := by have h : ¬ (3 * (i : Int)) < (s.length : Int) := of_decide_eq_false c5; omega
    have hcd : (colT s).take i = colT s := List.take_of_length_le (by omega)
    refine sw_exit (sw_seq (xr hP 6 rfl (sw_ret ⟨.inl rfl, _, rfl, ?_⟩)))
    simp [conj, hcd]
def cParS : Ctr := ⟨132, [.val false (.sl .str) (.all .b)], fun x => ∀ c ∈ x.1, List.length c = 3, fun x => (sStr (parT x.1), [])⟩
theorem cParS_ok : CtrOk Proofs.Tryz.prog cParS := by
 have hP := (((Prg.none ttok mtok).and cSec_ok).and cXorS_ok)
 refine ctr_of_body hP cParS (fn := Proofs.Tryz.f132) (rts := [.tmp 2]) Proofs.Tryz.func132 rfl (by kernel_rfl) rfl rfl ?_
 rintro ⟨(l : List Str), ⟨⟩⟩ ⟨hdl, _⟩ hc
 try dsimp only [Ty.den, Mode.den, mdens] at hc
 refine ⟨rfl, ?_⟩
 replace hc : ∀ c ∈ l, List.length c = 3 := hc
 have hml : l.length ≤ 140737488355328 := hdl.1
 refine sw_seq (xr hP 1 rfl (sw_seq (xr hP 2 rfl (sw_seq (sw_seq (xr hP 3 rfl (sw_block (sw_loop (ι := Nat × Str) (fun ⟨i, z⟩ => ⟨[.v false [.d (.sl .str) (.all .b) l], .j, .j, .v false [.d .str pF z], sInt .i64 (i : Int), .j, .j, .j, .j, .j, .j, .j, .j, .j, .j, .j, .j, .j, .j], [], 3, []⟩) (fun ⟨i, z⟩ => l.length - i) (fun ⟨i, z⟩ => i ≤ l.length ∧ (l.drop i).foldl xorV z = parT l ∧ z.length ≤ 3) (0, [0, 0, 0]) ⟨?_, ?_⟩ ?_))))))))
 ·exact ⟨Nat.zero_le _, rfl, by decide⟩
 ·refine ent_ok rfl ?_
  simp [conj]
  rfl
 ·rintro ⟨i, z⟩ ⟨hi, hgo, hz⟩
  refine sw_seq (sw_seq (xr hP 4 rfl (sw_cond rfl (fun c3 => ?_) (fun c3 => ?_))))
  ·have hlt : i < l.length := by simpa using c3
   have hc3 : l[i].length = 3 := hc _ (List.getElem_mem hlt)
   have hgo2 := hgo
   rw [drop_at hlt] at hgo2
   simp only [List.foldl_cons] at hgo2
   refine sw_skip (sw_seq (sw_block (xg hP 5 [] rfl ?_ ?_)))
   ·simp [conj, gE hlt]
    repeat' apply And.intro
    all_goals first | omega | trivial | exact ⟨by show z.length ≤ 1000; omega, by show l[i].length ≤ 1000; omega⟩ | (show z.length ≤ 1000; omega) | (show l[i].length ≤ 1000; omega)
   refine xr hP 6 rfl (⟨(i + 1, xorV z l[i]), ?_, ?_, ent_ok rfl ?_⟩)
   ·exact ⟨hlt, hgo2, by rw [xorV_len]; omega⟩
   ·show l.length - (i + 1) < l.length - i
    omega
   ·simp [conj, gE hlt]
  ·obtain rfl : i = l.length := by simp at c3; omega
   rw [List.drop_length] at hgo
   replace hgo : z = parT l := hgo
   refine sw_exit (sw_seq (xr hP 5 rfl (sw_ret ⟨.inl rfl, _, rfl, ?_⟩)))
   simp [conj, hgo]
def cStripS : Ctr := ⟨82, [.val false .str pF], fun x => 1 ≤ List.length x.1 ∧ List.length x.1 ≤ 9, fun x => (.v false [.own ⟨1, 0, 0⟩], [(⟨1, 0, 0⟩, .sl .str (.all .w) (stripT x.1))])⟩
theorem cStripS_ok : CtrOk Proofs.Tryz.prog cStripS := by
 have hP := (((Prg.none ttok mtok).and cColsT_ok).and cParS_ok)
 refine ctr_of_body hP cStripS (fn := Proofs.Tryz.f82) (rts := [.tmp 2]) Proofs.Tryz.func82 rfl (by kernel_rfl) rfl rfl ?_
 rintro ⟨(s : Str), ⟨⟩⟩ _ ⟨h1, h9⟩
 try dsimp only [Ty.den, Mode.den, mdens] at h1
 try dsimp only [Ty.den, Mode.den, mdens] at h9
 refine ⟨rfl, ?_⟩
 replace h1 : 1 ≤ s.length := h1
 replace h9 : s.length ≤ 9 := h9
 have hcl := colT_len s
 have hct : colsT s = colT s := if_pos ⟨h1, h9⟩
 refine sw_seq (xr hP 1 rfl (sw_seq (xg hP 2 [] rfl ?_ ?_)))
 ·exact ⟨h1, h9⟩
 refine sw_seq (xg hP 3 [] rfl ?_ ?_)
 ·simp [conj, maxL]
  repeat' apply And.intro
  all_goals first | omega | trivial | exact fun c hc => colT_3 hc
 refine sw_ret ⟨.inl rfl, _, rfl, ?_⟩
 simp [conj, stripT, hct]
def cCopyDsS : Ctr := ⟨43, [.val false (.sl T_Disk) (.all .b)], fun x => List.length x.1 ≤ 1000 ∧ ∀ d ∈ x.1, SmallD d, fun x => (.v false [.own ⟨1, 0, 0⟩], [(⟨1, 0, 0⟩, .sl T_Disk (.all .w) x.1)])⟩
theorem cCopyDsS_ok : CtrOk Proofs.Tryz.prog cCopyDsS := by
 have hP := ((Prg.none ttok mtok).and cCopyD_ok)
 refine ctr_of_body hP cCopyDsS (fn := Proofs.Tryz.f43) (rts := [.tmp 2]) Proofs.Tryz.func43 rfl (by kernel_rfl) rfl rfl ?_
 rintro ⟨(ds : List Dsk), ⟨⟩⟩ _ ⟨hml, hsm⟩
 try dsimp only [Ty.den, Mode.den, mdens] at hml
 try dsimp only [Ty.den, Mode.den, mdens] at hsm
 refine ⟨rfl, ?_⟩
 replace hml : ds.length ≤ 1000 := hml
 replace hsm : ∀ d ∈ ds, SmallD d := hsm
 refine sw_seq (xr hP 1 rfl (sw_seq (xr hP 2 rfl (sw_seq (sw_seq (xr hP 3 rfl (sw_block (sw_loop (ι := Nat) (fun i => ⟨[.v false [.d (.sl T_Disk) (.all .b) ds], .j, .j, .v false [.own ⟨0, 9, 0⟩], sInt .i64 (i : Int), .j, .j, .j, .j, .j, .j, .j, .j, .j, .j, .j, .j, .j, .j, .j, .j], [(⟨0, 9, 0⟩, .sl T_Disk (.all .w) (ds.take i))], 3, []⟩) (fun i => ds.length - i) (fun i => i ≤ ds.length) 0 ⟨?_, ?_⟩ ?_))))))))
 ·exact Nat.zero_le _
 ·refine ent_ok rfl ?_
  simp [conj]
 ·rintro i hi
  refine sw_seq (sw_seq (xr hP 4 rfl (sw_cond rfl (fun c3 => ?_) (fun c3 => ?_))))
  ·have hlt : i < ds.length := by simpa using c3
   have hs1 := hsm _ (List.getElem_mem hlt)
   have hnx := List.take_succ_eq_append_getElem hlt
   refine sw_skip (sw_seq (sw_block (xg hP 5 [] rfl ?_ ?_)))
   ·simp [conj, maxL, gE hlt]
    repeat' apply And.intro
    all_goals first | omega | trivial | exact hs1.1 | exact hs1.2.1 | exact hs1.2.2.1 | exact hs1.2.2.2
   refine xr hP 6 rfl (⟨i + 1, ?_, ?_, ent_ok rfl ?_⟩)
   ·exact hlt
   ·omega
   ·simp [conj, gE hlt]
    exact hnx.symm
  ·obtain rfl : i = ds.length := by simp at c3; omega
   refine sw_exit (sw_seq (xr hP 5 rfl (sw_ret ⟨.inl rfl, _, rfl, ?_⟩)))
   simp [conj]
def cFlushS : Ctr := ⟨78, [.own true T_Disk (.all .w)], fun x => (drvOf x.1).ok ∧ x.1.2.2.2.2.any badP = false ∧ List.length x.1.2.2.2.2 ≤ 40, fun x => (.v true [.d TI pF (dskOf x.1.1 (comes x.1.2.2.2.2 (drvOf x.1)) []).1, .own ⟨1, 0, 0⟩, .own ⟨1, 1, 0⟩, .own ⟨1, 2, 0⟩, .own ⟨1, 3, 0⟩], [(⟨1, 0, 0⟩, .sl .str (.all .w) (dskOf x.1.1 (comes x.1.2.2.2.2 (drvOf x.1)) []).2.1), (⟨1, 1, 0⟩, .sl .str (.all .w) (dskOf x.1.1 (comes x.1.2.2.2.2 (drvOf x.1)) []).2.2.1), (⟨1, 2, 0⟩, .sl .bool (.all .w) (dskOf x.1.1 (comes x.1.2.2.2.2 (drvOf x.1)) []).2.2.2.1), (⟨1, 3, 0⟩, .sl T_Put (.all .w) (dskOf x.1.1 (comes x.1.2.2.2.2 (drvOf x.1)) []).2.2.2.2)])⟩
theorem cFlushS_ok : CtrOk Proofs.Tryz.prog cFlushS := by
 have hP := ((Prg.none ttok mtok).and cComeS_ok)
 refine ctr_of_body hP cFlushS (fn := Proofs.Tryz.f78) (rts := [.cell 2 38]) Proofs.Tryz.func78 rfl (by kernel_rfl) rfl rfl ?_
 rintro ⟨⟨(st : Int), (sl : List Str), (rg : List Str), (sp : List Bool), (wt : List Put)⟩, ⟨⟩⟩ _ ⟨ho, hw, h40⟩
 try dsimp only [Ty.den, Mode.den, mdens] at ho
 try dsimp only [Ty.den, Mode.den, mdens] at hw
 try dsimp only [Ty.den, Mode.den, mdens] at h40
 refine ⟨rfl, ?_⟩
 replace h40 : wt.length ≤ 40 := h40
 replace hw : wt.any badP = false := hw
 replace ho : Drv.ok (sl, rg, sp) := ho
 refine sw_seq (xr hP 1 rfl (sw_seq (sw_seq (xr hP 2 rfl (sw_block (sw_loop (ι := Nat × Drv) (fun ⟨i, u⟩ => ⟨[.j, .v false [.ptr ⟨1, 0, 0⟩ 0], .v false [.ptr ⟨1, 1, 0⟩ 0], sInt .i64 (i : Int), .j, .j, .j, .j, .j, .j, .j, .j, .j, .j, .j, .j, .j, .j, .j, .j, .j], [(⟨1, 0, 0⟩, .var [.d TI pF st, .own ⟨0, 9, 1⟩, .own ⟨0, 9, 2⟩, .own ⟨0, 9, 3⟩, .own ⟨0, 9, 4⟩]), (⟨0, 9, 1⟩, .sl .str (.all .w) u.1), (⟨0, 9, 2⟩, .sl .str (.all .w) u.2.1), (⟨0, 9, 3⟩, .sl .bool (.all .w) u.2.2), (⟨0, 9, 4⟩, .sl T_Put (.all .w) wt), (⟨1, 1, 0⟩, .var [.d TI pF 0, .nils, .nils, .nils, .nils])], 2, []⟩) (fun ⟨i, u⟩ => wt.length - i) (fun ⟨i, u⟩ => i ≤ wt.length ∧ comes (wt.drop i) u = comes wt (sl, rg, sp) ∧ u.ok) (0, (sl, rg, sp)) ⟨?_, ?_⟩ ?_))))))
 ·exact ⟨Nat.zero_le _, rfl, ho⟩
 ·refine ent_ok rfl ?_
  simp [conj]
 ·rintro ⟨i, u⟩ ⟨hi, hgo, hu⟩
  refine sw_seq (sw_seq (xr hP 3 rfl (sw_cond rfl (fun c2 => ?_) (fun c2 => ?_))))
  ·have hlt : i < wt.length := by simpa using c2
   have hg : (List.getD wt i T_Put.dflt : Put) = wt[i] := by rw [List.getD, gE hlt]; rfl
   have hp := wait_at hw hlt
   rw [← hg] at hp
   have hnx := comes_next hlt hgo
   rw [← hg] at hnx
   refine sw_skip (sw_seq (sw_block (xg hP 4 [] rfl ?_ ?_)))
   ·simp only [conj, List.nil_append, List.cons_append, List.append_nil, List.append_assoc, inR_i64, true_and, and_true, Int.toNat_natCast]
    try dsimp only [Ty.den, Ty.dflt]
    repeat' apply And.intro
    all_goals first | exact hp | exact hu.1 | exact hu.2.1 | exact hu.2.2 | rfl | omega | assumption | trivial
   refine xg hP 5 [] rfl ?_ ?_
   ·simp only [conj, List.nil_append, List.cons_append, List.append_nil, List.append_assoc, inR_i64, true_and, and_true, Int.toNat_natCast]
    try dsimp only [Ty.den, Ty.dflt]
    repeat' apply And.intro
    all_goals first | rfl | omega | assumption | trivial
   refine ⟨(i + 1, come (List.getD wt i T_Put.dflt) u), ?_, ?_, ent_ok rfl ?_⟩
   ·exact ⟨hlt, hnx, come_ok hu⟩
   ·show wt.length - (i + 1) < wt.length - i
    omega
   ·simp [conj, comeD, dskOf, drvOf]
  ·obtain rfl : i = wt.length := by simp at c2; omega
   refine sw_exit (sw_seq (xr hP 4 rfl (sw_seq (xr hP 5 rfl (sw_ret ⟨.inl rfl, _, rfl, ?_⟩)))))
   have hv := comes_end hgo
   subst hv
   simp [conj, dskOf, drvOf]
def cWriteS : Ctr := ⟨76, [.own true T_Disk (.all .w), .val true T_Put pF], fun x => (drvOf x.1).ok ∧ x.1.2.2.2.2.any badP = false ∧ List.length x.1.2.2.2.2 ≤ 40, fun x => (.v true [.d TI pF (writeD x.1 x.2.1).1, .own ⟨1, 0, 0⟩, .own ⟨1, 1, 0⟩, .own ⟨1, 2, 0⟩, .own ⟨1, 3, 0⟩], [(⟨1, 0, 0⟩, .sl .str (.all .w) (writeD x.1 x.2.1).2.1), (⟨1, 1, 0⟩, .sl .str (.all .w) (writeD x.1 x.2.1).2.2.1), (⟨1, 2, 0⟩, .sl .bool (.all .w) (writeD x.1 x.2.1).2.2.2.1), (⟨1, 3, 0⟩, .sl T_Put (.all .w) (writeD x.1 x.2.1).2.2.2.2)])⟩
theorem cWriteS_ok : CtrOk Proofs.Tryz.prog cWriteS := by
 have hP := ((Prg.none ttok mtok).and cFlushS_ok)
 refine ctr_of_body hP cWriteS (fn := Proofs.Tryz.f76) (rts := [.cell 4 38]) Proofs.Tryz.func76 rfl (by kernel_rfl) rfl rfl ?_
 rintro ⟨⟨(st : Int), (sl : List Str), (rg : List Str), (sp : List Bool), (wt : List Put)⟩, ⟨(rn : Bool), (at_ : Int), (tx : Str)⟩, ⟨⟩⟩ _ ⟨ho, hw, h40⟩
 try dsimp only [Ty.den, Mode.den, mdens] at ho
 try dsimp only [Ty.den, Mode.den, mdens] at hw
 try dsimp only [Ty.den, Mode.den, mdens] at h40
 refine ⟨rfl, ?_⟩
 replace h40 : wt.length ≤ 40 := h40
 replace hw : wt.any badP = false := hw
 replace ho : Drv.ok (sl, rg, sp) := ho
 refine sw_seq (xr hP 1 rfl (sw_seq (sw_seq (xr hP 2 rfl (sw_cond rfl (fun c1 => ?_) (fun c1 => ?_))))))
 ·replace c1 : st = 1 := of_decide_eq_true c1
  have hu := putU_gone (l := wt) (t := (sl, rg, sp)) c1
  have hm := putM_gone (l := wt) (p := (rn, at_, tx)) c1
  refine sw_seq (xr hP 3 rfl (sw_ret ⟨.inl rfl, _, rfl, ?_⟩))
  simp [conj, writeD, dskOf, drvOf, hu, hm]
 ·replace c1 : ¬ st = 1 := of_decide_eq_false c1
  have hu := putU_live (l := wt) (t := (sl, rg, sp)) c1
  have hm := putM_live (l := wt) (p := (rn, at_, tx)) c1
  refine sw_skip (sw_seq (sw_seq (xr hP 3 rfl (sw_cond rfl (fun c3 => ?_) (fun c3 => ?_)))))
  ·replace c3 : wt.length = 40 := by have h : ((wt.length : Nat) : Int) = 40 := of_decide_eq_true c3; omega
   rw [putT_full c3] at hu
   rw [putW_full c3] at hm
   refine xg hP 4 [] rfl ?_ ?_
   ·simp only [conj, List.nil_append, List.cons_append, List.append_nil, List.append_assoc, inR_i64, true_and, and_true, Int.toNat_natCast]
    try dsimp only [Ty.den, Ty.dflt]
    repeat' apply And.intro
    all_goals first | exact ho.1 | exact ho.2.1 | exact ho.2.2 | exact hw | exact h40 | rfl | omega | assumption | trivial
   refine sw_seq (xg hP 5 [] rfl ?_ ?_)
   ·simp [conj, maxL, dskOf]
    try omega
   refine sw_seq (xg hP 6 [] rfl ?_ ?_)
   ·simp only [conj, List.nil_append, List.cons_append, List.append_nil, List.append_assoc, inR_i64, true_and, and_true, Int.toNat_natCast]
    try dsimp only [Ty.den, Ty.dflt]
    repeat' apply And.intro
    all_goals first | rfl | omega | assumption | trivial
   refine sw_ret ⟨.inl rfl, _, rfl, ?_⟩
   simp [conj, writeD, dskOf, drvOf, hu, hm]
  ·replace c3 : ¬ wt.length = 40 := by have h : ¬ ((wt.length : Nat) : Int) = 40 := of_decide_eq_false c3; omega
   rw [putT_room c3] at hu
   rw [putW_room c3] at hm
   refine sw_skip (sw_seq (xg hP 4 [] rfl ?_ ?_))
   ·simp [conj, maxL, dskOf]
    try omega
   refine sw_seq (xg hP 5 [] rfl ?_ ?_)
   ·simp only [conj, List.nil_append, List.cons_append, List.append_nil, List.append_assoc, inR_i64, true_and, and_true, Int.toNat_natCast]
    try dsimp only [Ty.den, Ty.dflt]
    repeat' apply And.intro
    all_goals first | rfl | omega | assumption | trivial
   refine sw_ret ⟨.inl rfl, _, rfl, ?_⟩
   simp [conj, writeD, dskOf, drvOf, hu, hm]
def cIsS : Ctr := ⟨40, [.val false (.sl T_Disk) (.all .b), .val true T_Ptr (.all .b)], fun x => True, fun x => (sBool (usableV x.1 x.2.1), [])⟩
theorem cIsS_ok : CtrOk Proofs.Tryz.prog cIsS := by
 have hP := (((Prg.none ttok mtok).and cStripeOkS_ok).and cPtrS_ok)
 refine ctr_of_body hP cIsS (fn := Proofs.Tryz.f40) (rts := [.tmp 4]) Proofs.Tryz.func40 rfl (by kernel_rfl) rfl rfl ?_
 rintro ⟨(ds : List Dsk), ⟨(sz : Int), (sm : Int), (pl : List Plc)⟩, ⟨⟩⟩ _ _
 try dsimp only [Ty.den, Mode.den, mdens] at _
 refine ⟨rfl, ?_⟩
 refine sw_seq (xr hP 1 rfl (sw_seq ?_))
 refine sw_dec hP 2 [] 2 rfl (fun g1_2 => ?_) (fun g1_2 => ?_)
 ·replace g1_2 : stripeV ds = true := g1_2
  have hp : poolV (ds.length : Int) = true := by have h := g1_2; simp only [stripeV, Bool.and_eq_true] at h; exact h.1
  refine sw_dec hP 2 [(2, true)] 8 rfl (fun g1_8 => ?_) (fun g1_8 => ?_)
  ·replace g1_8 : ptrW (ds.length : Int) ((sz, sm, pl) : Ptr_) = true := g1_8
   refine xg hP 2 [(2, true), (8, true)] rfl ?_ ?_
   ·simp [conj, maxL]
    try dsimp only [Ty.den, Ty.dflt]
    try simp only [rd_eta]
    repeat' apply And.intro
    all_goals first | trivial | assumption
   refine sw_ret ⟨.inl rfl, _, rfl, ?_⟩
   rw [usable_S]
   simp [conj, *]
  ·replace g1_8 : ptrW (ds.length : Int) ((sz, sm, pl) : Ptr_) = false := g1_8
   refine xg hP 2 [(2, true), (8, false)] rfl ?_ ?_
   ·simp [conj, maxL]
    try dsimp only [Ty.den, Ty.dflt]
    try simp only [rd_eta]
    repeat' apply And.intro
    all_goals first | trivial | assumption
   refine sw_ret ⟨.inl rfl, _, rfl, ?_⟩
   rw [usable_S]
   simp [conj, *]
 ·replace g1_2 : stripeV ds = false := g1_2
  refine xg hP 2 [(2, false)] rfl ?_ ?_
  ·simp [conj, maxL]
   try dsimp only [Ty.den, Ty.dflt]
   try simp only [rd_eta]
   repeat' apply And.intro
   all_goals first | trivial | assumption
  refine sw_ret ⟨.inl rfl, _, rfl, ?_⟩
  rw [usable_S]
  simp [conj, *]
def cPutA : Ctr := ⟨42, [.own false (.sl T_Disk) (.all .w), .val true T_Ptr (.all .b), .val false .str pF], fun x => (stripeV x.1 = true ∧ (∀ a ∈ x.2.1.2.2, placeV (List.length x.1 : Int) a = true)) ∧ (1 ≤ List.length x.2.2.1 ∧ List.length x.2.2.1 ≤ 9) ∧ List.length x.2.1.2.2 = List.length (stripT x.2.2.1), fun x => (.v false [.own ⟨1, 0, 0⟩], [(⟨1, 0, 0⟩, .sl T_Disk (.all .w) (wrN (stripT x.2.2.1) x.2.1.2.2 (List.length x.2.1.2.2) x.1))])⟩
theorem cPutA_ok : CtrOk Proofs.Tryz.prog cPutA := by
 have hP := (((Prg.none ttok mtok).and cStripS_ok).and cWriteS_ok)
 refine ctr_of_body hP cPutA (fn := Proofs.Tryz.f42) (rts := [.tmp 6]) Proofs.Tryz.func42 rfl (by kernel_rfl) rfl rfl ?_
 rintro ⟨(ds : List Dsk), ⟨(sz : Int), (sm : Int), (pl : List Plc)⟩, (t : Str), ⟨⟩⟩ _ ⟨⟨hs, hpl⟩, ⟨h1, h9⟩, hlen⟩
 try dsimp only [Ty.den, Mode.den, mdens] at hs
 try dsimp only [Ty.den, Mode.den, mdens] at hpl
 try dsimp only [Ty.den, Mode.den, mdens] at h1
 try dsimp only [Ty.den, Mode.den, mdens] at h9
 try dsimp only [Ty.den, Mode.den, mdens] at hlen
 refine ⟨rfl, ?_⟩
 replace hs : stripeV ds = true := hs
 replace hpl : ∀ a ∈ pl, placeV (ds.length : Int) a = true := hpl
 replace h1 : 1 ≤ t.length := h1
 replace h9 : t.length ≤ 9 := h9
 replace hlen : pl.length = (stripT t).length := hlen
 have hsl := stripT_len ⟨h1, h9⟩
 have hcs : ∀ c ∈ stripT t, List.length c = 3 := fun c hc => stripT_3 hc
 have hml := stripe_len hs
 obtain ⟨cs, hcsd⟩ : ∃ cs, cs = stripT t := ⟨_, rfl⟩
 rw [← hcsd] at hlen hsl hcs
 refine sw_seq (xr hP 1 rfl (sw_seq (xg hP 2 [] rfl ?_ ?_)))
 ·exact ⟨h1, h9⟩
 refine sw_seq (sw_seq (xr hP 3 rfl (sw_block (sw_loop (ι := Nat) (fun i => ⟨[.v false [.own ⟨0, 9, 0⟩], .j, .j, .j, .v false [.ptr ⟨1, 0, 0⟩ 0], .j, .j, .v false [.own ⟨0, 8, 0⟩], sInt .i64 (i : Int), .j, .j, .j, .j, .j, .j, .j, .j, .j, .j, .j, .j, .j, .j, .j, .j, .j, .j, .j, .j, .j, .j, .j, .j, .j, .j, .j, .j, .j, .j, .j, .j, .j, .j, .j], [(⟨0, 8, 0⟩, .sl .str (.all .w) cs), (⟨1, 0, 0⟩, .var [.d TI pF sz, .d TI pF sm, .d (.sl T_Place) (.all .b) pl]), (⟨0, 9, 0⟩, .sl T_Disk (.all .w) (wrN cs pl i ds))], 3, []⟩) (fun i => cs.length - i) (fun i => i ≤ cs.length) 0 ⟨?_, ?_⟩ ?_))))
 ·exact Nat.zero_le _
 ·refine ent_ok rfl ?_
  simp [conj, wrN]
  exact hcsd.symm
 ·rintro i hi
  refine sw_seq (sw_seq (xr hP 4 rfl (sw_cond rfl (fun c3 => ?_) (fun c3 => ?_))))
  ·have hlt : i < cs.length := by simpa using c3
   have hlp : i < pl.length := by omega
   obtain ⟨⟨w0, w1, w2⟩, w3, w4, w5, w6, w7⟩ := wr_step hs hpl hlen hcs hlp
   have hod := rd_own w5
   rw [gE hlt] at w4 w6 w7
   simp only [Option.getD_some] at w4 w6 w7
   have hwl := wrN_len cs pl ds i
   refine sw_skip (sw_seq (sw_block (sw_seq (xg hP 5 [] rfl ?_ ?_))))
   ·simp [conj, gE hlp]
    repeat' apply And.intro
    all_goals first | omega | trivial
   refine xg hP 6 [] rfl ?_ ?_
   ·simp [conj, maxL, gE hlt, gE hlp]
    repeat' apply And.intro
    all_goals first | omega | trivial | exact hod.1 | exact hod.2.1 | exact hod.2.2 | exact hod | exact hod.1.1 | exact hod.1.2.1 | exact hod.1.2.2
   refine xr hP 7 rfl (⟨i + 1, ?_, ?_, ent_ok rfl ?_⟩)
   ·exact hlt
   ·omega
   ·simp [conj, gE hlt, gE hlp]
    exact w6
  ·obtain rfl : i = cs.length := by simp at c3; omega
   refine sw_exit (sw_seq (xr hP 5 rfl (sw_ret ⟨.inl rfl, _, rfl, ?_⟩)))
   simp [conj]
   rw [hlen, hcsd]
def cSPutR : Ctr := ⟨7, [.val false (.sl T_Disk) (.all .b), .val true T_Ptr (.all .b), .val false .str pF], fun x => True, fun x => (.tup [(false, [.own ⟨1, 0, 0⟩]), (false, [.d .bool pF (sputV x.1 x.2.1 x.2.2.1).2])], [(⟨1, 0, 0⟩, .sl T_Disk (.all .w) (sputV x.1 x.2.1 x.2.2.1).1)])⟩
theorem cSPutR_ok : CtrOk Proofs.Tryz.prog cSPutR := by
 have hP := (((((Prg.none ttok mtok).and cIsS_ok).and cSumOf_ok).and cCopyDsS_ok).and cPutA_ok)
 refine ctr_of_body hP cSPutR (fn := Proofs.Tryz.f7) (rts := [.tmp 6, .tmp 7]) Proofs.Tryz.func7 rfl (by kernel_rfl) rfl rfl ?_
 rintro ⟨(ds : List Dsk), ⟨(sz : Int), (sm : Int), (pl : List Plc)⟩, (t : Str), ⟨⟩⟩ _ _
 try dsimp only [Ty.den, Mode.den, mdens] at _
 refine ⟨rfl, ?_⟩
 refine sw_seq (xr hP 1 rfl (sw_seq (sw_seq ?_)))
 refine sw_dec hP 2 [] 4 rfl (fun g1_4 => ?_) (fun g1_4 => ?_)
 ·have hu : ¬ usableV ds ((sz, sm, pl) : Ptr_) = true := by have h : (!usableV ds ((sz, sm, pl) : Ptr_)) = true := g1_4; simpa using h
  have hu0 : usableV ds ((sz, sm, pl) : Ptr_) = false := by simpa using hu
  have hv : sputV ds ((sz, sm, pl) : Ptr_) t = ([], false) := if_neg fun h => hu h.1
  refine xg hP 2 [(4, true)] rfl ?_ ?_
  ·simp [conj, maxL]
   try dsimp only [Ty.den, Ty.dflt]
   try simp only [rd_eta]
   repeat' apply And.intro
   all_goals first | trivial | assumption | exact fun e => k1 e.symm | exact k1.symm
  refine sw_condT rfl (sw_seq (xr hP 3 rfl (sw_ret ⟨.inl rfl, _, rfl, ?_⟩)))
  rw [hv]
  simp [conj]
 ·have hu : usableV ds ((sz, sm, pl) : Ptr_) = true := by have h : (!usableV ds ((sz, sm, pl) : Ptr_)) = false := g1_4; simpa using h
  refine sw_dec hP 2 [(4, false)] 11 rfl (fun g1_11 => ?_) (fun g1_11 => ?_)
  ·have k1 : ¬ (t.length : Int) = sz := by have h : (!decide (sz = (t.length : Int))) = true := g1_11; intro e; rw [e] at h; simp at h
   have hv : sputV ds ((sz, sm, pl) : Ptr_) t = ([], false) := if_neg fun h => k1 h.2.1
   refine xg hP 2 [(4, false), (11, true)] rfl ?_ ?_
   ·simp [conj, maxL]
    try dsimp only [Ty.den, Ty.dflt]
    try simp only [rd_eta]
    repeat' apply And.intro
    all_goals first | trivial | assumption | exact fun e => k1 e.symm | exact k1.symm
   refine sw_condT rfl (sw_seq (xr hP 3 rfl (sw_ret ⟨.inl rfl, _, rfl, ?_⟩)))
   rw [hv]
   simp [conj]
  ·have k1 : (t.length : Int) = sz := by
     have h : (!decide (sz = (t.length : Int))) = false := g1_11
     have h2 : sz = (t.length : Int) := by simpa using h
     exact h2.symm
   refine xg hP 2 [(4, false), (11, false)] rfl ?_ ?_
   ·simp [conj, maxL]
    try dsimp only [Ty.den, Ty.dflt]
    try simp only [rd_eta]
    repeat' apply And.intro
    all_goals first | trivial | assumption | exact fun e => k1 e.symm | exact k1.symm
   refine sw_cond rfl (fun c1 => ?_) (fun c1 => ?_)
   ·have k2 : ¬ weighV (t.take 9) = sm := by have h : (!decide (sm = weighV (t.take 9))) = true := c1; intro e; rw [e] at h; simp at h
    have hv : sputV ds ((sz, sm, pl) : Ptr_) t = ([], false) := if_neg fun h => k2 h.2.2
    refine sw_seq (xr hP 3 rfl (sw_ret ⟨.inl rfl, _, rfl, ?_⟩))
    rw [hv]
    simp [conj]
   ·have k2 : weighV (t.take 9) = sm := by
      have h : (!decide (sm = weighV (t.take 9))) = false := c1
      have h2 : sm = weighV (t.take 9) := by simpa using h
      exact h2.symm
    have hv : sputV ds ((sz, sm, pl) : Ptr_) t = (wrN (stripT t) pl pl.length ds, true) := if_pos ⟨hu, k1, k2⟩
    obtain ⟨u1, u2, u3, u4, u5, u6⟩ := usable_parts hu
    dsimp only at u3 u4 u5 u6
    obtain ⟨y1, y2, y3⟩ := strip_places hu k1
    dsimp only at y1
    have u7 : pl.length ≤ 4 := by omega
    have u8 := stripe_len u1
    have hsm : ∀ d ∈ ds, SmallD d := fun d hd => rd_small (stripe_all u1 d hd)
    refine sw_skip (sw_seq (xg hP 3 [] rfl ?_ ?_))
    ·simp [conj]
     repeat' apply And.intro
     all_goals first | omega | trivial | exact u1 | exact u6 | (show pl.length = (stripT t).length; omega) | (show 1 ≤ t.length; omega) | (show t.length ≤ 9; omega) | exact u7 | exact hsm | (show ds.length ≤ 1000; omega)
    refine sw_ret ⟨.inl rfl, _, rfl, ?_⟩
    rw [hv]
    simp [conj]
end Go.Sx

namespace Go.Sx
open Go
def rd0 (code : List Int) : Rd := (code.take 2000, 0)
theorem rd0_ok {code : List Int} (h : ∀ v ∈ code, inR .u8 v) : ROk (rd0 code) 3000 := by
 refine ⟨fun v hv => ?_, ?_, by show (0 : Int) ≤ 0; decide, by show (0 : Int) + 3000 ≤ 1099511627776; decide⟩
 ·have := h v (List.mem_of_mem_take hv); rwa [inR_u8] at this
 ·exact List.length_take_le _ _
def plcGo (d fr : Int) : Nat → Nat → Rd → List Plc → List Plc × Rd
 | 0, _, R, out => (out, R)
 | n + 1, i, R, out => plcGo d fr n (i + 1) (nx R) (out ++ [((fr + (i : Int)).tmod d, pk R 12)])
def plcD (R : Rd) (d c : Int) : List Plc × Rd := plcGo d (pk R d) c.toNat 0 (nx R) []
theorem plcGo_rd : ∀ (n i : Nat) (d fr : Int) (R : Rd) (out : List Plc), (plcGo d fr n i R out).2 = (R.1, R.2 + n) ∧ (plcGo d fr n i R out).1.length = out.length + n := by
 intro n
 induction n with
 | zero => intro i d fr R out; simp [plcGo]
 | succ n ih =>
  intro i d fr R out
  simp only [plcGo]
  obtain ⟨h1, h2⟩ := ih (i + 1) d fr (nx R) (out ++ [((fr + (i : Int)).tmod d, pk R 12)])
  rw [h1, h2]
  simp [nx]
  omega
def ptrT (R : Rd) (d : Int) : Str := textV R (3 * sMin 3 (d - 1) - 1) ++ [107]
def ptrD (R : Rd) (d : Int) : Ptr_ × Rd := ((((ptrT R d).length : Int), weighV ((ptrT R d).take 9), (plcD (textR R (3 * sMin 3 (d - 1) - 1)) d (colsV ((ptrT R d).length : Int) + 1)).1), (plcD (textR R (3 * sMin 3 (d - 1) - 1)) d (colsV ((ptrT R d).length : Int) + 1)).2)
theorem sMin_bd' {d : Int} (h : 3 ≤ d ∧ d ≤ 4) : 3 * sMin 3 (d - 1) - 1 = 3 * (d - 1) - 1 := by rw [sMin_bd d h]
theorem ptrT_len {R : Rd} {d : Int} (h : ROk R 30) (hd : 3 ≤ d ∧ d ≤ 4) : 1 ≤ (ptrT R d).length ∧ (ptrT R d).length ≤ 9 := by
 unfold ptrT
 rw [sMin_bd' hd]
 have := textV_len h (by decide) (most := 3 * (d - 1) - 1) (by omega)
 rw [List.length_append]
 simp only [List.length_cons, List.length_nil]
 omega
theorem colsV_le {n : Int} (h0 : 1 ≤ n) (h1 : n ≤ 9) : 1 ≤ colsV n ∧ colsV n ≤ 3 := by
 have : colsV n = (n + 3 - 1) / 3 := Int.tdiv_eq_ediv_of_nonneg (by omega)
 omega
theorem ptrD_len {R : Rd} {d : Int} (h : ROk R 30) (hd : 3 ≤ d ∧ d ≤ 4) : 2 ≤ (ptrD R d).1.2.2.length ∧ (ptrD R d).1.2.2.length ≤ 4 := by
 have h1 := ptrT_len h hd
 have h2 := colsV_le (n := ((ptrT R d).length : Int)) (by omega) (by omega)
 simp only [ptrD, plcD]
 rw [(plcGo_rd _ _ _ _ _ _).2]
 simp only [List.length_nil]
 omega
theorem ptrD_ok {R : Rd} {d m : Int} (hm : 0 ≤ m) (h : ROk R (m + 30)) (hd : 3 ≤ d ∧ d ≤ 4) : ROk (ptrD R d).2 m := by
 have h1 := ptrT_len (h.le (by omega)) hd
 have h2 := colsV_le (n := ((ptrT R d).length : Int)) (by omega) (by omega)
 have ht : ROk (textR R (3 * sMin 3 (d - 1) - 1)) (m + 5) := textR_ok h (by omega) (by rw [sMin_bd' hd]; omega) (by rw [sMin_bd' hd]; omega)
 simp only [ptrD, plcD]
 rw [(plcGo_rd _ _ _ _ _ _).1]
 have hp := ht.p1
 have hp0 := ht.p0
 refine ⟨ht.b, ht.len, ?_, ?_⟩ <;> simp only [nx] <;> omega
def zP : Ptr_ := (0, 0, [])
def aS : List Int := [-1, 1000000000, 1000000001]
def aT : List Int := [-1, 12]
def aX : List Int := [-1, 100000, 100001]
def someD (R : Rd) (d : Int) : Ptr_ × Rd :=
 if pk R 5 = 0 then (zP, nx R) else
 let q := ptrD (nx R) d
 let p := q.1
 let R2 := nx q.2
 if pk q.2 20 = 0 then ((pk R2 14 - 1, p.2.1, p.2.2), nx R2)
 else if pk q.2 20 = 1 then ((p.1, aS.getD (pk R2 3).toNat 0, p.2.2), nx R2)
 else if pk q.2 20 = 2 then ((p.1, p.2.1, p.2.2.set 0 ((p.2.2.getD 0 (0, 0)).1, aT.getD (pk R2 2).toNat 0)), nx R2)
 else if pk q.2 20 = 3 then ((p.1, p.2.1, p.2.2.set 0 (p.2.2.getD 1 (0, 0))), R2)
 else if pk q.2 20 = 4 then ((p.1, p.2.1, p.2.2.drop 1), R2)
 else (p, R2)
def meetsNo (p : Ptr_) (l : List Ptr_) : Bool := l.all fun x => !meetV p x
def clrB (R : Rd) (d : Int) (all : List Ptr_) (k : Nat) (bl : List Ptr_) : Bool := (decide (0 < pk (ptrD R d).2 3) && meetsNo (ptrD R d).1 all) && meetsNo (ptrD R d).1 (bl.take k)
def blkStep (d : Int) (all : List Ptr_) (k : Nat) (bl : List Ptr_) (R : Rd) : List Ptr_ × Rd :=
 let q := ptrD R d
 let R2 := nx q.2
 if clrB R d all k bl = true then (bl.set k q.1, R2)
 else if 0 < all.length then (if pk R2 2 = 0 then (bl.set k (all.getD (pk (nx R2) all.length).toNat zP), nx (nx R2)) else (bl, nx R2))
 else (bl, R2)
def blkGo (d : Int) (all : List Ptr_) : Nat → Nat → List Ptr_ → Rd → List Ptr_ × Rd
 | 0, _, bl, R => (bl, R)
 | n + 1, k, bl, R => blkGo d all n (k + 1) (blkStep d all k bl R).1 (blkStep d all k bl R).2
def nms : List Str := [[97], [98], [99, 100], [120, 121, 122], [113], [122, 122]]
def nmD (R : Rd) : Str := nms.getD (pk R 6).toNat []
def hasN_ (vs : List Vol_) (nm : Str) : Bool := vs.any fun v => decide (v.1 = nm)
def volGo (d : Int) : Nat → List Vol_ → Rd → List Vol_ × Rd
 | 0, vs, R => (vs, R)
 | n + 1, vs, R => if hasN_ vs (nmD R) = true then volGo d n vs (nx R) else
  volGo d n (vs ++ [(nmD R, (blkGo d (blksOf vs) 3 0 [zP, zP, zP] (nx R)).1)]) (blkGo d (blksOf vs) 3 0 [zP, zP, zP] (nx R)).2
def rootD (R : Rd) (d : Int) : Root_ × Rd := ((pk R 9, (volGo d (pk (nx R) 5).toNat [] (nx (nx R))).1), (volGo d (pk (nx R) 5).toNat [] (nx (nx R))).2)
def fillGo : Nat → List Vol_ → List Vol_
 | 0, vs => vs
 | n + 1, vs => fillGo n (vs ++ [([UInt8.ofNat (107 + vs.length)], [zP, zP, zP])])
def v0 (vs : List Vol_) : Vol_ := vs.getD 0 ([], [])
def offD (R : Rd) (d : Int) : Root_ × Rd :=
 let q := rootD R d
 let r := q.1
 let R1 := nx q.2
 let R2 := nx R1
 if 0 < pk q.2 12 then (r, R1)
 else if pk R1 6 = 0 then ((aX.getD (pk R2 3).toNat 0, r.2), nx R2)
 else if pk R1 6 = 1 then ((r.1, r.2 ++ [([65], [zP, zP, zP])]), R2)
 else if pk R1 6 = 2 then (if 0 < r.2.length then (r.1, r.2.set 0 ((v0 r.2).1, (v0 r.2).2.drop 1)) else r, R2)
 else if pk R1 6 = 3 then (if 0 < r.2.length then ((r.1, r.2.set 0 ((v0 r.2).1, (v0 r.2).2.set 0 (someD R2 d).1)), (someD R2 d).2) else (r, R2))
 else if pk R1 6 = 4 then (if 0 < r.2.length then (r.1, r.2 ++ [v0 r.2]) else r, R2)
 else ((r.1, fillGo (5 - r.2.length) r.2), R2)
theorem blkStep_ok {d m : Int} {all bl : List Ptr_} {k : Nat} {R : Rd} (hm : 0 ≤ m) (h : ROk R (m + 40)) (hd : 3 ≤ d ∧ d ≤ 4) : ROk (blkStep d all k bl R).2 m ∧ (blkStep d all k bl R).1.length = bl.length := by
 have h1 : ROk (ptrD R d).2 (m + 3) := ptrD_ok (m := m + 3) (by omega) (h.le (by omega)) hd
 have h2 : ROk (nx (ptrD R d).2) (m + 2) := h1.nx (by omega)
 have h3 : ROk (nx (nx (ptrD R d).2)) (m + 1) := h2.nx (by omega)
 have h4 : ROk (nx (nx (nx (ptrD R d).2))) m := h3.nx (by omega)
 unfold blkStep
 simp only
 split
 ·exact ⟨h2.le (by omega), by simp⟩
 ·split
  ·split
   ·exact ⟨h4, by simp⟩
   ·exact ⟨h3.le (by omega), rfl⟩
  ·exact ⟨h2.le (by omega), rfl⟩
theorem blkGo_ok {d : Int} {all : List Ptr_} (hd : 3 ≤ d ∧ d ≤ 4) : ∀ (n k : Nat) (bl : List Ptr_) (R : Rd) (m : Int), 0 ≤ m → ROk R (m + 40 * n) → ROk (blkGo d all n k bl R).2 m ∧ (blkGo d all n k bl R).1.length = bl.length := by
 intro n
 induction n with
 | zero => intro k bl R m _ h; exact ⟨h.le (by omega), rfl⟩
 | succ n ih =>
  intro k bl R m hm h
  simp only [blkGo]
  obtain ⟨h1, h2⟩ := blkStep_ok (m := m + 40 * n) (all := all) (bl := bl) (k := k) (by omega) (h.le (by push_cast; omega)) hd
  obtain ⟨h3, h4⟩ := ih (k + 1) (blkStep d all k bl R).1 (blkStep d all k bl R).2 m hm h1
  exact ⟨h3, by rw [h4, h2]⟩
theorem volGo_ok {d : Int} (hd : 3 ≤ d ∧ d ≤ 4) : ∀ (n : Nat) (vs : List Vol_) (R : Rd) (m : Int), 0 ≤ m → ROk R (m + 130 * n) → (∀ v ∈ vs, v.2.length = 3) → ROk (volGo d n vs R).2 m ∧ (volGo d n vs R).1.length ≤ vs.length + n ∧ ∀ v ∈ (volGo d n vs R).1, v.2.length = 3 := by
 intro n
 induction n with
 | zero => intro vs R m _ h hv; exact ⟨h.le (by omega), by simp [volGo], hv⟩
 | succ n ih =>
  intro vs R m hm h hv
  simp only [volGo]
  split
  ·obtain ⟨a, b, c⟩ := ih vs (nx R) m hm (h.nx (by push_cast; omega)) hv
   exact ⟨a, by omega, c⟩
  ·have hR : ROk (nx R) (m + 130 * n + 120) := h.nx (by push_cast; omega)
   obtain ⟨h1, h2⟩ := blkGo_ok (all := blksOf vs) hd 3 0 [zP, zP, zP] (nx R) (m + 130 * n) (by omega) (hR.le (by omega))
   obtain ⟨a, b, c⟩ := ih (vs ++ [(nmD R, (blkGo d (blksOf vs) 3 0 [zP, zP, zP] (nx R)).1)]) _ m hm h1 (fun v hv' => by
    rcases List.mem_append.1 hv' with hv' | hv'
    ·exact hv v hv'
    ·rw [List.mem_singleton.1 hv']; exact h2)
   exact ⟨a, by rw [List.length_append] at b; simp only [List.length_cons, List.length_nil] at b; omega, c⟩
theorem rootD_ok {R : Rd} {d m : Int} (hm : 0 ≤ m) (h : ROk R (m + 600)) (hd : 3 ≤ d ∧ d ≤ 4) : ROk (rootD R d).2 m ∧ (rootD R d).1.2.length ≤ 4 ∧ ∀ v ∈ (rootD R d).1.2, v.2.length = 3 := by
 have h1 : ROk (nx R) (m + 599) := h.nx (by omega)
 have h2 : ROk (nx (nx R)) (m + 598) := h1.nx (by omega)
 have hb := pk_bd h1 (by omega) (n := 5) (by omega)
 obtain ⟨a, b, c⟩ := volGo_ok hd (pk (nx R) 5).toNat [] (nx (nx R)) m hm (h2.le (by omega)) (fun v hv => by cases hv)
 exact ⟨a, by simp only [rootD]; simp only [List.length_nil] at b; omega, c⟩
end Go.Sx

namespace Go.Sx
open Go
set_option maxRecDepth 100000
set_option linter.unusedVariables false
set_option linter.unusedSimpArgs false
set_option maxHeartbeats 2000000
def cOpen : Ctr := ⟨31, [.val false TB pF], fun _ => True, fun x => (.v false [.ptr ⟨1, 0, 0⟩ 0], [(⟨1, 0, 0⟩, rdA (List.take 2000 x.1, 0))])⟩
theorem cOpen_ok : CtrOk Proofs.Tryz.prog cOpen := by
 have hP := (Prg.none ttok mtok)
 refine ctr_of_body hP cOpen (fn := Proofs.Tryz.f31) (rts := [.tmp 2]) Proofs.Tryz.func31 rfl (by kernel_rfl) rfl rfl ?_
 rintro ⟨(code : List Int), ⟨⟩⟩ hd hpre
 try dsimp only [Ty.den, Mode.den, mdens] at hpre
 refine ⟨rfl, ?_⟩
 refine sw_seq (xr hP 1 rfl (sw_seq (sw_seq (xr hP 2 rfl (sw_cond rfl (fun c1 => ?_) (fun c1 => ?_))))))
 ·refine xr hP 3 rfl (sw_seq (xr hP 4 rfl (sw_ret ⟨.inl rfl, _, rfl, ?_⟩)))
  simp [conj] at *
  try (rw [List.take_of_length_le (by omega)])
 ·refine sw_skip (sw_seq (xr hP 3 rfl (sw_ret ⟨.inl rfl, _, rfl, ?_⟩)))
  simp [conj] at *
  try (rw [List.take_of_length_le (by omega)])
def cPick : Ctr := ⟨37, [.ref T_l6Rd pF, .val false TI pF], fun x => ROk x.1 1, fun x => (sInt .i64 (pk x.1 x.2.1), [(⟨0, 0, 0⟩, rdA (nx x.1))])⟩
theorem cPick_ok : CtrOk Proofs.Tryz.prog cPick := by
 have hP := (Prg.none ttok mtok)
 refine ctr_of_body hP cPick (fn := Proofs.Tryz.f37) (rts := [.tmp 4]) Proofs.Tryz.func37 rfl (by kernel_rfl) rfl rfl ?_
 rintro ⟨⟨(b : List Int), (p : Int)⟩, (n : Int), ⟨⟩⟩ hd hpre
 try dsimp only [Ty.den, Mode.den, mdens] at hpre
 refine ⟨rfl, ?_⟩
 have h0 : 0 ≤ p := hpre.p0
 have h1 : p + 1 ≤ 1099511627776 := hpre.p1
 have hl : b.length ≤ 2000 := hpre.len
 have hb : BOk b := hpre.b
 refine sw_seq (xr hP 1 rfl (sw_seq (xr hP 2 rfl (sw_seq (sw_seq ?_)))))
 refine sw_dec hP 3 [] 2 rfl (fun g2_2 => ?_) (fun g2_2 => ?_)
 ·refine xd hP 3 [(2, true)] rfl (sw_condT rfl (sw_seq (xr hP 4 rfl (sw_ret ⟨.inl rfl, _, rfl, ?_⟩))))
  simp [conj, maxL] at *
  try dsimp only [Ty.den, Ty.dflt] at *
  try simp only [rd_eta] at *
  simp [pk, pickV, nx, pickX]
  first | omega | (intros; omega) | (intro _ hh; exact absurd c2 hh) | (rw [if_neg (by omega)]; first | (rw [if_neg c2, if_pos c5]; done) | (rw [if_neg c2, if_neg (by omega)]; done) | (intros; simp_all; done))
 ·refine xd hP 3 [(2, false)] rfl (sw_cond rfl (fun c2 => ?_) (fun c2 => ?_))
  ·refine sw_seq (xr hP 4 rfl (sw_ret ⟨.inl rfl, _, rfl, ?_⟩))
   simp [conj, maxL] at *
   try dsimp only [Ty.den, Ty.dflt] at *
   try simp only [rd_eta] at *
   simp [pk, pickV, nx, pickX]
   first | omega | (intros; omega) | (intro _ hh; exact absurd c2 hh) | (rw [if_neg (by omega)]; first | (rw [if_neg c2, if_pos c5]; done) | (rw [if_neg c2, if_neg (by omega)]; done) | (intros; simp_all; done))
  ·refine sw_skip (sw_seq (xr hP 4 rfl (sw_seq (sw_seq (xr hP 5 rfl (sw_cond rfl (fun c5 => ?_) (fun c5 => ?_)))))))
   ·refine sw_seq (xg hP 6 [] rfl ?_ ?_)
    ·simp [conj] at *
     dsimp only [Ty.den, Ty.dflt] at *
     have := getD_b' hb p.toNat
     omega
    refine sw_ret ⟨.inl rfl, _, rfl, ?_⟩
    simp [conj, maxL] at *
    try dsimp only [Ty.den, Ty.dflt] at *
    try simp only [rd_eta] at *
    simp [pk, pickV, nx, pickX]
    first | omega | (intros; omega) | (intro _ hh; exact absurd c2 hh) | (rw [if_neg (by omega)]; first | (rw [if_neg c2, if_pos c5]; done) | (rw [if_neg c2, if_neg (by omega)]; done) | (intros; simp_all; done))
   ·refine sw_skip (sw_seq (xg hP 6 [] rfl ?_ ?_))
    ·simp [conj] at *
     dsimp only [Ty.den, Ty.dflt] at *
     have hlp : 0 < b.length := List.length_pos_iff.2 c2
     have a1 := getD_b' hb (Int.tmod p b.length).toNat
     have a2 := getD_b' hb (Int.tmod (p * 7 + 3) b.length).toNat
     have a3 := tmod_ix (a := p) (n := b.length) h0 (by omega)
     have a4 := tmod_ix (a := p * 7 + 3) (n := b.length) (by omega) (by omega)
     have a5 : 0 ≤ Int.tdiv p b.length ∧ Int.tdiv p b.length ≤ p := ⟨Int.tdiv_nonneg h0 (by omega), Int.tdiv_le_self _ h0⟩
     repeat' apply And.intro
     all_goals first | assumption | omega
    refine sw_seq (xg hP 7 [] rfl ?_ ?_)
    ·have a5 := pickX_bd hpre (by omega)
     simp only [pickX, List.getD_eq_getElem?_getD] at a5
     have a6 : 0 ≤ (pickX b p).tdiv 64 ∧ (pickX b p).tdiv 64 ≤ pickX b p := ⟨Int.tdiv_nonneg a5.1 (by omega), Int.tdiv_le_self _ a5.1⟩
     simp only [pickX, List.getD_eq_getElem?_getD] at a6
     simp [conj] at *
     dsimp only [Ty.den, Ty.dflt] at *
     omega
    refine sw_seq (xr hP 8 rfl (sw_ret ⟨.inl rfl, _, rfl, ?_⟩))
    simp [conj, maxL] at *
    try dsimp only [Ty.den, Ty.dflt] at *
    try simp only [rd_eta] at *
    simp [pk, pickV, nx, pickX]
    first | omega | (intros; omega) | (intro _ hh; exact absurd c2 hh) | (rw [if_neg (by omega)]; first | (rw [if_neg c2, if_pos c5]; done) | (rw [if_neg c2, if_neg (by omega)]; done) | (intros; simp_all; done))
def cText : Ctr := ⟨33, [.ref T_l6Rd pF, .val false TI pF], fun x => ROk x.1 (2 * x.2.1 + 3) ∧ 0 ≤ x.2.1 ∧ x.2.1 ≤ 1000, fun x => (sStr (textV x.1 x.2.1), [(⟨0, 0, 0⟩, rdA (textR x.1 x.2.1))])⟩
theorem cText_ok : CtrOk Proofs.Tryz.prog cText := by
 have hP := ((Prg.none ttok mtok).and cPick_ok)
 refine ctr_of_body hP cText (fn := Proofs.Tryz.f33) (rts := [.tmp 4]) Proofs.Tryz.func33 rfl (by kernel_rfl) rfl rfl ?_
 rintro ⟨(r : Rd), (most : Int), ⟨⟩⟩ hd ⟨hr, h0, h1⟩
 try dsimp only [Ty.den, Mode.den, mdens] at hr
 try dsimp only [Ty.den, Mode.den, mdens] at h0
 try dsimp only [Ty.den, Mode.den, mdens] at h1
 refine ⟨rfl, ?_⟩
 have hn := pk_bd hr (by omega) (n := most + 1) (by omega)
 refine sw_seq (xr hP 1 rfl (sw_seq (xr hP 2 rfl (sw_seq (sw_seq (xg hP 3 [] rfl ?_ ?_))))))
 ·simp [conj]
  exact ⟨by omega, hr.le (by omega)⟩
 refine sw_block (sw_loop (ι := Nat × Rd × List Int) (fun ⟨k, R, out⟩ => ⟨[.v false [.ptr ⟨0, 0, 0⟩ 0], .j, .j, .j, .j, .v false [.own ⟨0, 9, 0⟩], sInt .i64 (k : Int), .j, .j, .j, .j, .j, .j, .j, .j, .j, .j, .j, .j, .j, .j, .j, .j, .j, .j, .j, .j, .j, .j, .j], [(⟨0, 0, 0⟩, rdA R), (⟨0, 9, 0⟩, .sl (.int .u8) pF out)], 3, [[.v false [.ptr ⟨0, 0, 0⟩ 0], .j]]⟩) (fun ⟨k, R, out⟩ => k) (fun ⟨k, R, out⟩ => ROk R (2 * k + 1) ∧ textGo k R out = textGo (pk r (most + 1)).toNat (nx r) [] ∧ out.length + k ≤ 1001) ((pk r (most + 1)).toNat, nx r, []) ⟨?_, ?_⟩ ?_)
 ·refine ⟨hr.nx (by omega), rfl, ?_⟩
  simp; omega
 ·refine ent_ok rfl ?_
  simp [conj, maxL]
  try dsimp only [Ty.den, Ty.dflt]
  try simp only [rd_eta]
  omega
 ·rintro ⟨k, R, out⟩ ⟨hR, hgo, hlen⟩
  refine sw_seq (sw_seq (xr hP 4 rfl (sw_cond rfl (fun c3 => ?_) (fun c3 => ?_))))
  ·obtain ⟨k, rfl⟩ : ∃ m, k = m + 1 := ⟨k - 1, by simp at c3; omega⟩
   refine sw_skip (sw_seq (sw_block (xg hP 5 [] rfl ?_ ?_)))
   ·have ha := pk_bd hR (by omega) (n := 6) (by omega)
    have hR1 : ROk (nx R) (2 * k + 2) := hR.nx (by omega)
    have hb := pk_bd hR1 (by omega) (n := 3) (by omega)
    have hb2 : pk (nx R) 3 ≤ 255 := by omega
    simp [conj, maxL]
    try dsimp only [Ty.den, Ty.dflt]
    try simp only [rd_eta]
    repeat' apply And.intro
    all_goals first | assumption | omega | exact hR.le (by omega) | exact hR1.le (by omega) | exact hb.1 | exact hb2 | exact ha.1 | exact ha.2
   refine xr hP 6 rfl (⟨(k, nx (nx R), out ++ [(([97, 98, 122, 0, 255, 128] : List Int).getD (pk R 6).toNat 0 + pk (nx R) 3) % 256]), ?_, ?_, ent_ok rfl ?_⟩)
   ·exact ⟨(hR.nx (m' := 2 * k + 2) (by omega)).nx (by omega), hgo, by simp; omega⟩
   ·exact Nat.lt_succ_self k
   ·simp [conj, maxL]
    try dsimp only [Ty.den, Ty.dflt]
    try simp only [rd_eta]
    try rfl
  ·refine sw_exit (sw_seq (xr hP 5 rfl (sw_ret ⟨.inl rfl, _, rfl, ?_⟩)))
   obtain rfl : k = 0 := by simp at c3; omega
   simp only [textGo] at hgo
   simp [conj, textV, textR, ← hgo]
def cDisksD : Ctr := ⟨74, [.ref T_l6Rd pF], fun x => ROk x.1 1, fun x => (sInt .i64 (3 + pk x.1 2), [(⟨0, 0, 0⟩, rdA (nx x.1))])⟩
theorem cDisksD_ok : CtrOk Proofs.Tryz.prog cDisksD := by
 have hP := ((Prg.none ttok mtok).and cPick_ok)
 refine ctr_of_body hP cDisksD (fn := Proofs.Tryz.f74) (rts := [.tmp 2]) Proofs.Tryz.func74 rfl (by kernel_rfl) rfl rfl ?_
 rintro ⟨(R : Rd), ⟨⟩⟩ _ hpre
 try dsimp only [Ty.den, Mode.den, mdens] at hpre
 refine ⟨rfl, ?_⟩
 replace hpre : ROk R 1 := hpre
 have hb := pk_bd hpre (by omega) (n := 2) (by omega)
 refine sw_seq (xr hP 1 rfl (sw_seq (xg hP 2 [] rfl ?_ ?_)))
 ·simp only [cj, cl]
  try dsimp only [Ty.den, Ty.dflt]
  repeat' apply And.intro
  all_goals first | omega | exact hpre | (show _ ≤ 3 + pk R 2; omega) | (show 3 + pk R 2 ≤ _; omega) | trivial
 refine sw_ret ⟨.inl rfl, _, rfl, ?_⟩
 simp [conj]
def cPlaces : Ctr := ⟨35, [.ref T_l6Rd pF, .val false TI pF, .val false TI pF], fun x => ROk x.1 6 ∧ (3 ≤ x.2.1 ∧ x.2.1 ≤ 4) ∧ 0 ≤ x.2.2.1 ∧ x.2.2.1 ≤ 4, fun x => (.v false [.own ⟨1, 0, 0⟩], [(⟨0, 0, 0⟩, rdA (plcD x.1 x.2.1 x.2.2.1).2), (⟨1, 0, 0⟩, .sl T_Place pF (plcD x.1 x.2.1 x.2.2.1).1)])⟩
theorem cPlaces_ok : CtrOk Proofs.Tryz.prog cPlaces := by
 have hP := ((Prg.none ttok mtok).and cPick_ok)
 refine ctr_of_body hP cPlaces (fn := Proofs.Tryz.f35) (rts := [.tmp 6]) Proofs.Tryz.func35 rfl (by kernel_rfl) rfl rfl ?_
 rintro ⟨(R : Rd), (d : Int), (c : Int), ⟨⟩⟩ _ ⟨hr, hd3, hc0, hc1⟩
 try dsimp only [Ty.den, Mode.den, mdens] at hr
 try dsimp only [Ty.den, Mode.den, mdens] at hd3
 try dsimp only [Ty.den, Mode.den, mdens] at hc0
 try dsimp only [Ty.den, Mode.den, mdens] at hc1
 refine ⟨rfl, ?_⟩
 replace hr : ROk R 6 := hr
 replace hd3 : 3 ≤ d ∧ d ≤ 4 := hd3
 have hb := pk_bd hr (by omega) (n := d) (by omega)
 refine sw_seq (xr hP 1 rfl (sw_seq (xr hP 2 rfl (sw_seq (xg hP 3 [] rfl ?_ ?_)))))
 ·simp only [cj, cl]
  try dsimp only [Ty.den, Ty.dflt]
  repeat' apply And.intro
  all_goals first | omega | exact hr.le (by omega) | trivial
 refine sw_seq (sw_seq (xr hP 4 rfl (sw_block (sw_loop (ι := Nat × Rd × List Plc) (fun ⟨i, Q, out⟩ => ⟨[.v false [.ptr ⟨0, 0, 0⟩ 0], sInt .i64 d, sInt .i64 c, .j, .j, .j, .j, .v false [.own ⟨0, 9, 0⟩], sInt .i64 (pk R d), sInt .i64 (i : Int), .j, .j, .j, .j, .j, .j, .j, .j, .j, .j, .j, .j, .j, .j, .j, .j, .j, .j, .j, .j, .j], [(⟨0, 0, 0⟩, rdA Q), (⟨0, 9, 0⟩, .sl T_Place pF out)], 4, [[.v false [.ptr ⟨0, 0, 0⟩ 0], .j, .j]]⟩) (fun ⟨i, Q, out⟩ => c.toNat - i) (fun ⟨i, Q, out⟩ => i ≤ c.toNat ∧ ROk Q (5 - (i : Int)) ∧ plcGo d (pk R d) (c.toNat - i) i Q out = (plcD R d c) ∧ out.length ≤ i) (0, nx R, []) ⟨?_, ?_⟩ ?_))))
 ·exact ⟨Nat.zero_le _, hr.nx (by omega), rfl, Nat.le_refl _⟩
 ·refine ent_ok rfl ?_
  simp [conj]
 ·rintro ⟨i, Q, out⟩ ⟨hi, hQ, hgo, hol⟩
  refine sw_seq (sw_seq (xr hP 5 rfl (sw_cond rfl (fun c4 => ?_) (fun c4 => ?_))))
  ·have hlt : i < c.toNat := by have h : ((i : Nat) : Int) < c := of_decide_eq_true c4; omega
   obtain ⟨n, hn⟩ : ∃ n, c.toNat - i = n + 1 := ⟨c.toNat - i - 1, by omega⟩
   have hb2 := pk_bd hQ (by omega) (n := 12) (by omega)
   rw [hn] at hgo
   have ht := tmod_ix (a := pk R d + (i : Int)) (n := d) (by omega) (by omega)
   have hn2 : c.toNat - (i + 1) = n := by omega
   refine sw_skip (sw_seq (sw_block (xg hP 6 [] rfl ?_ ?_)))
   ·simp only [cj, cl]
    try dsimp only [Ty.den, Ty.dflt]
    simp only [maxL]
    repeat' apply And.intro
    all_goals first | omega | exact hQ.le (by omega) | trivial | (show (out.length + 1) * 16 ≤ 140737488355328; omega)
   refine xr hP 7 rfl (⟨(i + 1, nx Q, out ++ [((pk R d + (i : Int)).tmod d, pk Q 12)]), ?_, ?_, ent_ok rfl ?_⟩)
   ·exact ⟨hlt, hQ.nx (by push_cast; omega), by show plcGo d (pk R d) (c.toNat - (i + 1)) _ _ _ = _; rw [hn2]; exact hgo, by simp; omega⟩
   ·show c.toNat - (i + 1) < c.toNat - i
    omega
   ·simp [conj]
  ·obtain rfl : i = c.toNat := by have h : ¬ ((i : Nat) : Int) < c := of_decide_eq_false c4; omega
   rw [Nat.sub_self] at hgo
   have hv1 : out = (plcD R d c).1 := by rw [← hgo]; rfl
   have hv2 : Q = (plcD R d c).2 := by rw [← hgo]; rfl
   refine sw_exit (sw_seq (xr hP 6 rfl (sw_ret ⟨.inl rfl, _, rfl, ?_⟩)))
   rw [← hv1, ← hv2]
   simp [conj]
def cL11 : Ctr := ⟨34, [.val false .str pF, .val false (.sl T_Place) (.all .b)], fun x => List.length x.2.1 ≤ 1000000, fun x => (.v true [.d TI pF (List.length x.1 : Int), .d TI pF (weighV (List.take 9 x.1)), .own ⟨1, 0, 0⟩], [(⟨1, 0, 0⟩, .sl T_Place pF x.2.1)])⟩
theorem cL11_ok : CtrOk Proofs.Tryz.prog cL11 := by
 have hP := ((Prg.none ttok mtok).and cSumOf_ok)
 refine ctr_of_body hP cL11 (fn := Proofs.Tryz.f34) (rts := [.cell 4 26]) Proofs.Tryz.func34 rfl (by kernel_rfl) rfl rfl ?_
 rintro ⟨(s : Str), (l : List Plc), ⟨⟩⟩ _ hpre
 try dsimp only [Ty.den, Mode.den, mdens] at hpre
 refine ⟨rfl, ?_⟩
 replace hpre : l.length ≤ 1000000 := hpre
 refine sw_seq (xr hP 1 rfl (sw_seq (xg hP 2 [] rfl ?_ ?_)))
 ·simp [conj, maxL]
  repeat' apply And.intro
  all_goals first | omega | trivial
 refine sw_ret ⟨.inl rfl, _, rfl, ?_⟩
 simp [conj]
def cPtrO : Ctr := ⟨79, [.ref T_l6Rd pF, .val false TI pF], fun x => ROk x.1 30 ∧ 3 ≤ x.2.1 ∧ x.2.1 ≤ 4, fun x => (.v true [.d TI pF (ptrD x.1 x.2.1).1.1, .d TI pF (ptrD x.1 x.2.1).1.2.1, .own ⟨1, 0, 0⟩], [(⟨0, 0, 0⟩, rdA (ptrD x.1 x.2.1).2), (⟨1, 0, 0⟩, .sl T_Place pF (ptrD x.1 x.2.1).1.2.2)])⟩
theorem cPtrO_ok : CtrOk Proofs.Tryz.prog cPtrO := by
 have hP := (((((Prg.none ttok mtok).and cText_ok).and cColsS_ok).and cPlaces_ok).and cL11_ok)
 refine ctr_of_body hP cPtrO (fn := Proofs.Tryz.f79) (rts := [.cell 4 26]) Proofs.Tryz.func79 rfl (by kernel_rfl) rfl rfl ?_
 rintro ⟨(R : Rd), (d : Int), ⟨⟩⟩ _ ⟨hr, hd3⟩
 try dsimp only [Ty.den, Mode.den, mdens] at hr
 try dsimp only [Ty.den, Mode.den, mdens] at hd3
 refine ⟨rfl, ?_⟩
 replace hr : ROk R 30 := hr
 replace hd3 : 3 ≤ d ∧ d ≤ 4 := hd3
 have hmm := sMin_bd d hd3
 have hl := ptrT_len hr hd3
 have hcl := colsV_le (n := ((ptrT R d).length : Int)) (by omega) (by omega)
 have htl : (textV R (3 * sMin 3 (d - 1) - 1)).length ≤ 8 := by have h := textV_len hr (by decide) (most := (3 * sMin 3 (d - 1) - 1)) (by omega); omega
 have hT : ROk (textR R (3 * sMin 3 (d - 1) - 1)) 6 := textR_ok hr (by decide) (by omega) (by omega)
 have hpl := ptrD_len hr hd3
 refine sw_seq (xr hP 1 rfl (sw_seq (xg hP 2 [] rfl ?_ ?_)))
 ·simp only [cj, cl]
  try dsimp only [Ty.den, Ty.dflt]
  simp only [maxL, bytesL]
  repeat' apply And.intro
  all_goals first | omega | (show ROk R (2 * (3 * sMin 3 (d - 1) - 1) + 3); exact hr.le (by omega)) | (show _ ≤ (3 * sMin 3 (d - 1) - 1); omega) | (show (3 * sMin 3 (d - 1) - 1) ≤ _; omega) | (show _ ≤ 3 * sMin 3 (d - 1); omega) | (show 3 * sMin 3 (d - 1) ≤ _; omega) | (show (textV R (3 * sMin 3 (d - 1) - 1)).length + 1 ≤ 140737488355328; omega) | trivial
 refine sw_seq (xg hP 3 [] rfl ?_ ?_)
 ·simp only [cj, cl]
  try dsimp only [Ty.den, Ty.dflt]
  repeat' apply And.intro
  all_goals first | omega | exact hT | exact hd3.1 | exact hd3.2 | (show 0 ≤ ((ptrT R d).length : Int); omega) | (show ((ptrT R d).length : Int) ≤ 1000000; omega) | (show _ ≤ colsV ((ptrT R d).length : Int) + 1; omega) | (show colsV ((ptrT R d).length : Int) + 1 ≤ _; omega) | (show List.length (ptrD R d).1.2.2 ≤ 1000000; omega) | trivial
 refine sw_ret ⟨.inl rfl, _, rfl, ?_⟩
 simp [conj, ptrD, ptrT, bytesL]
def cPtrP : Ctr := ⟨79, [.ref T_l6Rd pF, .val false TI pF], fun x => ROk x.1 30 ∧ 3 ≤ x.2.1 ∧ x.2.1 ≤ 4, fun x => (.v true [.d TI pF (ptrD x.1 x.2.1).1.1, .d TI pF (ptrD x.1 x.2.1).1.2.1, .d (.sl T_Place) pF (ptrD x.1 x.2.1).1.2.2], [(⟨0, 0, 0⟩, rdA (ptrD x.1 x.2.1).2)])⟩
theorem cPtrP_ok : CtrOk Proofs.Tryz.prog cPtrP := by
 have hP := (((((Prg.none ttok mtok).and cText_ok).and cColsS_ok).and cPlaces_ok).and cL11_ok)
 refine ctr_of_body hP cPtrP (fn := Proofs.Tryz.f79) (rts := [.cell 4 26]) Proofs.Tryz.func79 rfl (by kernel_rfl) rfl rfl ?_
 rintro ⟨(R : Rd), (d : Int), ⟨⟩⟩ _ ⟨hr, hd3⟩
 try dsimp only [Ty.den, Mode.den, mdens] at hr
 try dsimp only [Ty.den, Mode.den, mdens] at hd3
 refine ⟨rfl, ?_⟩
 replace hr : ROk R 30 := hr
 replace hd3 : 3 ≤ d ∧ d ≤ 4 := hd3
 have hmm := sMin_bd d hd3
 have hl := ptrT_len hr hd3
 have hcl := colsV_le (n := ((ptrT R d).length : Int)) (by omega) (by omega)
 have htl : (textV R (3 * sMin 3 (d - 1) - 1)).length ≤ 8 := by have h := textV_len hr (by decide) (most := (3 * sMin 3 (d - 1) - 1)) (by omega); omega
 have hT : ROk (textR R (3 * sMin 3 (d - 1) - 1)) 6 := textR_ok hr (by decide) (by omega) (by omega)
 have hpl := ptrD_len hr hd3
 refine sw_seq (xr hP 1 rfl (sw_seq (xg hP 2 [] rfl ?_ ?_)))
 ·simp only [cj, cl]
  try dsimp only [Ty.den, Ty.dflt]
  simp only [maxL, bytesL]
  repeat' apply And.intro
  all_goals first | omega | (show ROk R (2 * (3 * sMin 3 (d - 1) - 1) + 3); exact hr.le (by omega)) | (show _ ≤ (3 * sMin 3 (d - 1) - 1); omega) | (show (3 * sMin 3 (d - 1) - 1) ≤ _; omega) | (show _ ≤ 3 * sMin 3 (d - 1); omega) | (show 3 * sMin 3 (d - 1) ≤ _; omega) | (show (textV R (3 * sMin 3 (d - 1) - 1)).length + 1 ≤ 140737488355328; omega) | trivial
 refine sw_seq (xg hP 3 [] rfl ?_ ?_)
 ·simp only [cj, cl]
  try dsimp only [Ty.den, Ty.dflt]
  repeat' apply And.intro
  all_goals first | omega | exact hT | exact hd3.1 | exact hd3.2 | (show 0 ≤ ((ptrT R d).length : Int); omega) | (show ((ptrT R d).length : Int) ≤ 1000000; omega) | (show _ ≤ colsV ((ptrT R d).length : Int) + 1; omega) | (show colsV ((ptrT R d).length : Int) + 1 ≤ _; omega) | (show List.length (ptrD R d).1.2.2 ≤ 1000000; omega) | trivial
 refine sw_frz ⟨3, 8, 0⟩ rfl ?_
 refine sw_ret ⟨.inl rfl, _, rfl, ?_⟩
 simp [conj, ptrD, ptrT, bytesL]
def cSome : Ctr := ⟨38, [.ref T_l6Rd pF, .val false TI pF], fun x => ROk x.1 40 ∧ 3 ≤ x.2.1 ∧ x.2.1 ≤ 4, fun x => (.v true [.d TI pF (someD x.1 x.2.1).1.1, .d TI pF (someD x.1 x.2.1).1.2.1, .d (.sl T_Place) pF (someD x.1 x.2.1).1.2.2], [(⟨0, 0, 0⟩, rdA (someD x.1 x.2.1).2)])⟩
theorem cSome_ok : CtrOk Proofs.Tryz.prog cSome := by
 have hP := (((Prg.none ttok mtok).and cPick_ok).and cPtrO_ok)
 refine ctr_of_body hP cSome (fn := Proofs.Tryz.f38) (rts := [.cell 4 26]) Proofs.Tryz.func38 rfl (by kernel_rfl) rfl rfl ?_
 rintro ⟨(R : Rd), (d : Int), ⟨⟩⟩ _ ⟨hr, hd3⟩
 try dsimp only [Ty.den, Mode.den, mdens] at hr
 try dsimp only [Ty.den, Mode.den, mdens] at hd3
 refine ⟨rfl, ?_⟩
 replace hr : ROk R 40 := hr
 replace hd3 : 3 ≤ d ∧ d ≤ 4 := hd3
 refine sw_seq (xr hP 1 rfl (sw_seq (sw_seq (xg hP 2 [] rfl ?_ ?_))))
 ·simp only [cj, cl]
  try dsimp only [Ty.den, Ty.dflt]
  repeat' apply And.intro
  all_goals first | omega | assumption | exact hr.le (by omega) | exact hr.le (by omega) | (show ROk R _; exact hr.le (by omega)) | (simp [conj]; omega) | trivial
 refine sw_cond rfl (fun c1 => ?_) (fun c1 => ?_)
 ·replace c1 : pk R 5 = 0 := by simpa using c1
  refine sw_seq (xr hP 3 rfl (sw_ret ⟨.inl rfl, _, rfl, ?_⟩))
  simp [conj, someD, zP, *]
 ·replace c1 : ¬ pk R 5 = 0 := by simpa using c1
  refine sw_skip (sw_seq (xg hP 3 [] rfl ?_ ?_))
  ·simp only [cj, cl]
   try dsimp only [Ty.den, Ty.dflt]
   repeat' apply And.intro
   all_goals first | omega | assumption | exact hd3.1 | exact hr.le (by omega) | (show ROk R _; exact hr.le (by omega)) | (simp [conj]; omega) | trivial | exact hr.nx (by omega) | exact hd3.2
  refine sw_seq (sw_seq ?_)
  obtain ⟨q, hq⟩ : ∃ q, ptrD (nx R) d = q := ⟨_, rfl⟩
  have hqo : ROk q.2 9 := hq ▸ ptrD_ok (m := 9) (by omega) (hr.nx (by omega)) hd3
  have hql : 2 ≤ q.1.2.2.length ∧ q.1.2.2.length ≤ 4 := hq ▸ ptrD_len (hr.nx (by omega)) hd3
  have hq3 : ROk (nx q.2) 8 := hqo.nx (by omega)
  have b14 := pk_bd hq3 (by omega) (n := 14) (by omega)
  have b3 := pk_bd hq3 (by omega) (n := 3) (by omega)
  have b2 := pk_bd hq3 (by omega) (n := 2) (by omega)
  refine sw_ent (st' := ⟨[.v false [.ptr ⟨0, 0, 0⟩ 0], sInt .i64 d, .j, .j, .v false [.ptr ⟨1, 0, 0⟩ 0], .v false [.ptr ⟨3, 3, 0⟩ 0], .j, .j, .j, .j, .j, .j, .j, .j, .j, .j, .j, .j, .j, .j, .j, .j, .j, .j, .j, .j, .j, .j, .j, .j, .j, .j, .j, .j, .j, .j, .j, .j, .j, .j, .j, .j, .j, .j, .j, .j, .j, .j, .j, .j, .j, .j, .j, .j, .j, .j], [(⟨0, 0, 0⟩, rdA q.2), (⟨1, 0, 0⟩, .var [.d TI pF 0, .d TI pF 0, .d (.sl T_Place) pF []]), (⟨3, 2, 0⟩, .sl T_Place pF q.1.2.2), (⟨3, 3, 0⟩, .var [.d TI pF q.1.1, .d TI pF q.1.2.1, .own ⟨3, 2, 0⟩])], 3, [[.v false [.ptr ⟨0, 0, 0⟩ 0], .j]]⟩) (ent_ok rfl ?_) ?_
  ·simp [conj, hq]
  refine xg hP 4 [] rfl ?_ ?_
  ·simp only [cj, cl]
   try dsimp only [Ty.den, Ty.dflt]
   repeat' apply And.intro
   all_goals first | omega | assumption | exact hqo.le (by omega) | exact hr.le (by omega) | (show ROk R _; exact hr.le (by omega)) | (simp [conj]; omega) | trivial
  refine sw_block (sw_seq (xr hP 5 rfl (sw_cond rfl (fun c5 => ?_) (fun c5 => ?_))))
  ·replace c5 : pk q.2 20 = 0 := by simpa using c5
   refine xg hP 6 [] rfl ?_ ?_
   ·simp only [cj, cl]
    try dsimp only [Ty.den, Ty.dflt]
    repeat' apply And.intro
    all_goals first | omega | assumption | exact hq3.le (by omega) | exact hr.le (by omega) | (show ROk R _; exact hr.le (by omega)) | (simp [conj]; omega) | trivial | (show _ ≤ pk (nx q.2) 14 - 1; omega) | (show pk (nx q.2) 14 - 1 ≤ _; omega)
   refine sw_seq (xr hP 7 rfl ?_)
   refine sw_frz ⟨3, 2, 0⟩ rfl ?_
   refine sw_ret ⟨.inl rfl, _, rfl, ?_⟩
   simp [conj, someD, zP, hq, aS, aT, *]
   try rfl
  ·replace c5 : ¬ pk q.2 20 = 0 := by simpa using c5
   refine sw_seq (xr hP 6 rfl (sw_cond rfl (fun c7 => ?_) (fun c7 => ?_)))
   ·replace c7 : pk q.2 20 = 1 := by simpa using c7
    refine xg hP 7 [] rfl ?_ ?_
    ·simp only [cj, cl]
     try dsimp only [Ty.den, Ty.dflt]
     repeat' apply And.intro
     all_goals first | omega | assumption | exact hq3.le (by omega) | exact hr.le (by omega) | (show ROk R _; exact hr.le (by omega)) | (simp [conj]; omega) | trivial | (show 0 ≤ pk (nx q.2) 3; omega) | (show pk (nx q.2) 3 < 3; omega) | (show (pk (nx q.2) 3).toNat < 3; omega)
    refine sw_seq (xr hP 8 rfl ?_)
    refine sw_frz ⟨3, 2, 0⟩ rfl ?_
    refine sw_ret ⟨.inl rfl, _, rfl, ?_⟩
    simp [conj, someD, zP, hq, aS, aT, *]
    try rfl
   ·replace c7 : ¬ pk q.2 20 = 1 := by simpa using c7
    refine sw_seq (xr hP 7 rfl (sw_cond rfl (fun c9 => ?_) (fun c9 => ?_)))
    ·replace c9 : pk q.2 20 = 2 := by simpa using c9
     refine xg hP 8 [] rfl ?_ ?_
     ·simp only [cj, cl]
      try dsimp only [Ty.den, Ty.dflt]
      repeat' apply And.intro
      all_goals first | omega | assumption | exact hq3.le (by omega) | exact hr.le (by omega) | (show ROk R _; exact hr.le (by omega)) | (simp [conj]; omega) | trivial | (show 0 ≤ pk (nx q.2) 2; omega) | (show pk (nx q.2) 2 < 2; omega) | (show (pk (nx q.2) 2).toNat < 2; omega)
     refine sw_seq (xr hP 9 rfl ?_)
     refine sw_frz ⟨3, 2, 0⟩ rfl ?_
     refine sw_ret ⟨.inl rfl, _, rfl, ?_⟩
     simp [conj, someD, zP, hq, aS, aT, *]
     try rfl
    ·replace c9 : ¬ pk q.2 20 = 2 := by simpa using c9
     refine sw_seq (xr hP 8 rfl (sw_cond rfl (fun c11 => ?_) (fun c11 => ?_)))
     ·replace c11 : pk q.2 20 = 3 := by simpa using c11
      refine xg hP 9 [] rfl ?_ ?_
      ·simp only [cj, cl]
       try dsimp only [Ty.den, Ty.dflt]
       repeat' apply And.intro
       all_goals first | omega | assumption | exact hq3.le (by omega) | exact hr.le (by omega) | (show ROk R _; exact hr.le (by omega)) | (simp [conj]; omega) | trivial
      refine sw_seq (xr hP 10 rfl ?_)
      refine sw_frz ⟨3, 2, 0⟩ rfl ?_
      refine sw_ret ⟨.inl rfl, _, rfl, ?_⟩
      simp [conj, someD, zP, hq, aS, aT, *]
      try rfl
     ·replace c11 : ¬ pk q.2 20 = 3 := by simpa using c11
      refine sw_seq (xr hP 9 rfl (sw_cond rfl (fun c13 => ?_) (fun c13 => ?_)))
      ·replace c13 : pk q.2 20 = 4 := by simpa using c13
       refine sw_frz ⟨3, 2, 0⟩ rfl ?_
       refine xg hP 10 [] rfl ?_ ?_
       ·simp only [cj, cl]
        try dsimp only [Ty.den, Ty.dflt]
        repeat' apply And.intro
        all_goals first | omega | assumption | exact hq3.le (by omega) | exact hr.le (by omega) | (show ROk R _; exact hr.le (by omega)) | (simp [conj]; omega) | trivial
       refine sw_seq (xr hP 11 rfl (sw_ret ⟨.inl rfl, _, rfl, ?_⟩))
       simp [conj, someD, zP, hq, aS, aT, *]
       try rfl
      ·replace c13 : ¬ pk q.2 20 = 4 := by simpa using c13
       refine sw_skip (sw_seq (xr hP 10 rfl ?_))
       refine sw_frz ⟨3, 2, 0⟩ rfl ?_
       refine sw_ret ⟨.inl rfl, _, rfl, ?_⟩
       simp [conj, someD, zP, hq, aS, aT, *]
       try rfl
end Go.Sx

namespace Go.Sx
open Go
set_option maxRecDepth 100000
set_option linter.unusedVariables false
set_option linter.unusedSimpArgs false
set_option maxHeartbeats 2000000
def cSzS : Ctr := ⟨100, [.val false (.sl .str) (.all .b), .val false TI pF], fun x => 0 ≤ x.2.1 ∧ x.2.1 ≤ 1048576, fun x => (sInt .i64 (szA lenS x.1 x.2.1), [])⟩
theorem cSzS_ok : CtrOk Proofs.Tryz.prog cSzS := by
 have hP := (Prg.none ttok mtok)
 refine ctr_of_body hP cSzS (fn := Proofs.Tryz.f100) (rts := [.tmp 4]) Proofs.Tryz.func100 rfl (by kernel_rfl) rfl rfl ?_
 rintro ⟨(l : List Str), (left : Int), ⟨⟩⟩ ⟨hdl, _⟩ ⟨h0, h1⟩
 try dsimp only [Ty.den, Mode.den, mdens] at h0
 try dsimp only [Ty.den, Mode.den, mdens] at h1
 refine ⟨rfl, ?_⟩
 have hml : l.length ≤ 140737488355328 := hdl.1
 refine sw_seq (xr hP 1 rfl (sw_seq (xg hP 2 [] rfl ?_ ?_)))
 ·simp [conj, maxL]
  try dsimp only [Ty.den, Ty.dflt]
  try simp only [rd_eta]
  repeat' apply And.intro
  all_goals first | rfl | assumption | omega
 refine sw_seq (sw_seq (xr hP 3 rfl (sw_cond rfl (fun c2 => ?_) (fun c2 => ?_))))
 ·replace c2 : left - (l.length : Int) < 0 := of_decide_eq_true c2
  refine sw_seq (xr hP 4 rfl (sw_ret ⟨.inl rfl, _, rfl, ?_⟩))
  simp [conj]
  exact (if_pos c2).symm
 ·replace c2 : ¬ left - (l.length : Int) < 0 := of_decide_eq_false c2
  refine sw_skip (sw_seq (sw_seq (xr hP 4 rfl (sw_block (sw_loop (ι := Nat × Int) (fun ⟨i, a⟩ => ⟨[.v false [.d (.sl .str) (.all .b) l], sInt .i64 a, .j, .j, .j, sInt .i64 (i : Int), .j, .j, .j, .j, .j, .j, .j, .j, .j, .j, .j, .j, .j, .j, .j, .j, .j, .j, .j, .j, .j, .j], [], 4, []⟩) (fun ⟨i, a⟩ => l.length - i) (fun ⟨i, a⟩ => i ≤ l.length ∧ 0 ≤ a ∧ a ≤ 1048576 ∧ szGoD lenS (l.drop i) a = szA lenS l left) (0, left - (l.length : Int)) ⟨?_, ?_⟩ ?_)))))
  ·exact ⟨Nat.zero_le _, by show 0 ≤ left - (l.length : Int); omega, by show left - (l.length : Int) ≤ 1048576; omega, by show szGoD lenS (l.drop 0) _ = szA lenS l left; unfold szA; rw [if_neg c2]; rfl⟩
  ·refine ent_ok rfl ?_
   first | trivial | (simp [conj]; done) | (simp [conj] at *; (try dsimp only [Ty.den, Ty.dflt] at *); omega)
  ·rintro ⟨i, a⟩ ⟨hi, ha0, ha1, hgo⟩
   refine sw_seq (sw_seq (xr hP 5 rfl (sw_cond rfl (fun c5 => ?_) (fun c5 => ?_))))
   ·have hlt : i < l.length := by simpa using c5
    have hbl : l[i].length ≤ 140737488355328 := hdl.2 _ (List.getElem_mem hlt)
    refine sw_skip (sw_seq (sw_block (sw_seq (xg hP 6 [] rfl ?_ ?_))))
    ·simp [conj, maxL, gE hlt]
     repeat' apply And.intro
     all_goals first | assumption | exact ha0 | exact ha1 | trivial | omega
    refine sw_seq (xr hP 7 rfl (sw_cond rfl (fun c8 => ?_) (fun c8 => ?_)))
    ·replace c8 : a - (lenS l[i] : Int) < 0 := by have h := c8; simp [gE hlt, lenS] at h ⊢; (try split at h); all_goals omega
     refine sw_seq (xr hP 8 rfl (sw_ret ⟨.inl rfl, _, rfl, ?_⟩))
     simp [conj]
     exact (szGo_hitD hlt hgo c8).symm
    ·replace c8 : ¬ a - (lenS l[i] : Int) < 0 := by have h := c8; simp [gE hlt, lenS] at h ⊢; (try split at h); all_goals omega
     refine sw_skip (xr hP 8 rfl (⟨(i + 1, a - (lenS l[i] : Int)), ?_, ?_, ent_ok rfl ?_⟩))
     ·exact ⟨hlt, by show 0 ≤ a - (lenS l[i] : Int); omega, by show a - (lenS l[i] : Int) ≤ 1048576; omega, szGo_nextD hlt hgo c8⟩
     ·show l.length - (i + 1) < l.length - i
      omega
     ·simp [conj, gE hlt, lenS]
   ·obtain rfl : i = l.length := by simp at c5; omega
    refine sw_exit (sw_seq (xr hP 6 rfl (sw_ret ⟨.inl rfl, _, rfl, ?_⟩)))
    simp [conj]
    exact (szGo_endD hgo).symm
def cSzB : Ctr := ⟨101, [.val false (.sl .bool) (.all .b), .val false TI pF], fun x => 0 ≤ x.2.1 ∧ x.2.1 ≤ 1048576, fun x => (sInt .i64 (szA len0 x.1 x.2.1), [])⟩
theorem cSzB_ok : CtrOk Proofs.Tryz.prog cSzB := by
 have hP := (Prg.none ttok mtok)
 refine ctr_of_body hP cSzB (fn := Proofs.Tryz.f101) (rts := [.tmp 4]) Proofs.Tryz.func101 rfl (by kernel_rfl) rfl rfl ?_
 rintro ⟨(l : List Bool), (left : Int), ⟨⟩⟩ ⟨hdl, _⟩ ⟨h0, h1⟩
 try dsimp only [Ty.den, Mode.den, mdens] at h0
 try dsimp only [Ty.den, Mode.den, mdens] at h1
 refine ⟨rfl, ?_⟩
 have hml : l.length ≤ 140737488355328 := hdl.1
 refine sw_seq (xr hP 1 rfl (sw_seq (xg hP 2 [] rfl ?_ ?_)))
 ·simp [conj, maxL]
  try dsimp only [Ty.den, Ty.dflt]
  try simp only [rd_eta]
  repeat' apply And.intro
  all_goals first | rfl | assumption | omega
 refine sw_seq (sw_seq (xr hP 3 rfl (sw_cond rfl (fun c2 => ?_) (fun c2 => ?_))))
 ·replace c2 : left - (l.length : Int) < 0 := of_decide_eq_true c2
  refine sw_seq (xr hP 4 rfl (sw_ret ⟨.inl rfl, _, rfl, ?_⟩))
  simp [conj]
  rw [szA_bool]
  rw [if_pos c2]
 ·replace c2 : ¬ left - (l.length : Int) < 0 := of_decide_eq_false c2
  refine sw_skip (sw_seq (xr hP 4 rfl (sw_ret ⟨.inl rfl, _, rfl, ?_⟩)))
  simp [conj]
  rw [szA_bool]
  rw [if_neg c2]
def cSzP1 : Ctr := ⟨148, [.val true TL_Put pF, .val false TI pF], fun x => 0 ≤ x.2.1 ∧ x.2.1 ≤ 1048576, fun x => (sInt .i64 (szP1V x.1 x.2.1), [])⟩
theorem cSzP1_ok : CtrOk Proofs.Tryz.prog cSzP1 := by
 have hP := (Prg.none ttok mtok)
 refine ctr_of_body hP cSzP1 (fn := Proofs.Tryz.f148) (rts := [.tmp 4]) Proofs.Tryz.func148 rfl (by kernel_rfl) rfl rfl ?_
 rintro ⟨⟨(rn : Bool), (at_ : Int), (tx : Str)⟩, (left : Int), ⟨⟩⟩ ⟨hdp, _⟩ ⟨h0, h1⟩
 try dsimp only [Ty.den, Mode.den, mdens] at h0
 try dsimp only [Ty.den, Mode.den, mdens] at h1
 refine ⟨rfl, ?_⟩
 have hml : tx.length ≤ 140737488355328 := hdp.2.2
 refine sw_seq (xr hP 1 rfl (sw_seq (xg hP 2 [] rfl ?_ ?_)))
 ·simp [conj, maxL]
  try dsimp only [Ty.den, Ty.dflt]
  try simp only [rd_eta]
  repeat' apply And.intro
  all_goals first | rfl | assumption | omega
 refine sw_seq (sw_seq (xr hP 3 rfl (sw_cond rfl (fun c2 => ?_) (fun c2 => ?_))))
 ·replace c2 : left - (tx.length : Int) < 0 := of_decide_eq_true c2
  refine sw_seq (xr hP 4 rfl (sw_ret ⟨.inl rfl, _, rfl, ?_⟩))
  simp [conj]
  exact (szP1_neg (p := (rn, at_, tx)) c2).symm
 ·replace c2 : ¬ left - (tx.length : Int) < 0 := of_decide_eq_false c2
  refine sw_skip (sw_seq (xr hP 4 rfl (sw_ret ⟨.inl rfl, _, rfl, ?_⟩)))
  simp [conj]
  exact (szP1_pos (p := (rn, at_, tx)) c2).symm
def cSzPD : Ctr := ⟨102, [.val false (.sl TL_Put) (.all .b), .val false TI pF], fun x => 0 ≤ x.2.1 ∧ x.2.1 ≤ 1048576, fun x => (sInt .i64 (szA lenP x.1 x.2.1), [])⟩
theorem cSzP_okD : CtrOk Proofs.Tryz.prog cSzPD := by
 have hP := ((Prg.none ttok mtok).and cSzP1_ok)
 refine ctr_of_body hP cSzPD (fn := Proofs.Tryz.f102) (rts := [.tmp 4]) Proofs.Tryz.func102 rfl (by kernel_rfl) rfl rfl ?_
 rintro ⟨(l : List Put), (left : Int), ⟨⟩⟩ ⟨hdl, _⟩ ⟨h0, h1⟩
 try dsimp only [Ty.den, Mode.den, mdens] at h0
 try dsimp only [Ty.den, Mode.den, mdens] at h1
 refine ⟨rfl, ?_⟩
 have hml : l.length ≤ 140737488355328 := hdl.1
 refine sw_seq (xr hP 1 rfl (sw_seq (xg hP 2 [] rfl ?_ ?_)))
 ·simp [conj, maxL]
  try dsimp only [Ty.den, Ty.dflt]
  try simp only [rd_eta]
  repeat' apply And.intro
  all_goals first | rfl | assumption | omega
 refine sw_seq (sw_seq (xr hP 3 rfl (sw_cond rfl (fun c2 => ?_) (fun c2 => ?_))))
 ·replace c2 : left - (l.length : Int) < 0 := of_decide_eq_true c2
  refine sw_seq (xr hP 4 rfl (sw_ret ⟨.inl rfl, _, rfl, ?_⟩))
  simp [conj]
  exact (if_pos c2).symm
 ·replace c2 : ¬ left - (l.length : Int) < 0 := of_decide_eq_false c2
  refine sw_skip (sw_seq (sw_seq (xr hP 4 rfl (sw_block (sw_loop (ι := Nat × Int) (fun ⟨i, a⟩ => ⟨[.v false [.d (.sl TL_Put) (.all .b) l], sInt .i64 a, .j, .j, .j, sInt .i64 (i : Int), .j, .j, .j, .j, .j, .j, .j, .j, .j, .j, .j, .j, .j, .j, .j, .j, .j, .j, .j, .j, .j], [], 4, []⟩) (fun ⟨i, a⟩ => l.length - i) (fun ⟨i, a⟩ => i ≤ l.length ∧ 0 ≤ a ∧ a ≤ 1048576 ∧ szGoD lenP (l.drop i) a = szA lenP l left) (0, left - (l.length : Int)) ⟨?_, ?_⟩ ?_)))))
  ·exact ⟨Nat.zero_le _, by show 0 ≤ left - (l.length : Int); omega, by show left - (l.length : Int) ≤ 1048576; omega, by show szGoD lenP (l.drop 0) _ = szA lenP l left; unfold szA; rw [if_neg c2]; rfl⟩
  ·refine ent_ok rfl ?_
   first | trivial | (simp [conj]; done) | (simp [conj] at *; (try dsimp only [Ty.den, Ty.dflt] at *); omega)
  ·rintro ⟨i, a⟩ ⟨hi, ha0, ha1, hgo⟩
   refine sw_seq (sw_seq (xr hP 5 rfl (sw_cond rfl (fun c5 => ?_) (fun c5 => ?_))))
   ·have hlt : i < l.length := by simpa using c5
    have hbl : l[i].2.2.length ≤ 140737488355328 := (hdl.2 _ (List.getElem_mem hlt)).2.2
    refine sw_skip (sw_seq (sw_block (sw_seq (xg hP 6 [] rfl ?_ ?_))))
    ·simp [conj, maxL, gE hlt]
     repeat' apply And.intro
     all_goals first | assumption | exact ha0 | exact ha1 | trivial | omega
    refine sw_seq (xr hP 7 rfl (sw_cond rfl (fun c8 => ?_) (fun c8 => ?_)))
    ·replace c8 : a - (lenP l[i] : Int) < 0 := by have h : szP1V l[i] a < 0 := (by simpa [gE hlt] using c8); exact szP1_iff.1 h
     refine sw_seq (xr hP 8 rfl (sw_ret ⟨.inl rfl, _, rfl, ?_⟩))
     simp [conj]
     exact (szGo_hitD hlt hgo c8).symm
    ·replace c8 : ¬ a - (lenP l[i] : Int) < 0 := by have h : ¬ szP1V l[i] a < 0 := (by simpa [gE hlt] using c8); exact fun h2 => h (szP1_iff.2 h2)
     refine sw_skip (xr hP 8 rfl (⟨(i + 1, a - (lenP l[i] : Int)), ?_, ?_, ent_ok rfl ?_⟩))
     ·exact ⟨hlt, by show 0 ≤ a - (lenP l[i] : Int); omega, by show a - (lenP l[i] : Int) ≤ 1048576; omega, szGo_nextD hlt hgo c8⟩
     ·show l.length - (i + 1) < l.length - i
      omega
     ·simp [conj, gE hlt]
      exact szP1_pos c8
   ·obtain rfl : i = l.length := by simp at c5; omega
    refine sw_exit (sw_seq (xr hP 6 rfl (sw_ret ⟨.inl rfl, _, rfl, ?_⟩)))
    simp [conj]
    exact (szGo_endD hgo).symm
def cSzD : Ctr := ⟨52, [.val true TL_Disk (.all .b), .val false TI pF], fun x => 0 ≤ x.2.1 ∧ x.2.1 ≤ 1048576, fun x => (sInt .i64 (szD x.1 x.2.1), [])⟩
theorem cSzD_ok : CtrOk Proofs.Tryz.prog cSzD := by
 have hP := ((((Prg.none ttok mtok).and cSzS_ok).and cSzB_ok).and cSzP_okD)
 refine ctr_of_body hP cSzD (fn := Proofs.Tryz.f52) (rts := [.tmp 4]) Proofs.Tryz.func52 rfl (by kernel_rfl) rfl rfl ?_
 rintro ⟨⟨(st : Int), (sl : List Str), (rg : List Str), (sp : List Bool), (wt : List Put)⟩, (left : Int), ⟨⟩⟩ _ ⟨h0, h1⟩
 try dsimp only [Ty.den, Mode.den, mdens] at h0
 try dsimp only [Ty.den, Mode.den, mdens] at h1
 refine ⟨rfl, ?_⟩
 replace h0 : 0 ≤ left := h0
 replace h1 : left ≤ 1048576 := h1
 have b1 := szA_bd (w := lenS) (l := sl) h0
 refine sw_seq (xr hP 1 rfl (sw_seq (xg hP 2 [] rfl ?_ ?_)))
 ·simp [conj, maxL]
  try dsimp only [Ty.den, Ty.dflt]
  try simp only [rd_eta]
  exact ⟨h0, h1⟩
 refine sw_seq (sw_seq (xr hP 3 rfl (sw_cond rfl (fun c2 => ?_) (fun c2 => ?_))))
 ·replace c2 : szA lenS sl left < 0 := of_decide_eq_true c2
  refine sw_seq (xr hP 4 rfl (sw_ret ⟨.inl rfl, _, rfl, ?_⟩))
  simp [conj]
  unfold szD
  dsimp only
  rw [if_pos c2]
 ·replace c2 : ¬ szA lenS sl left < 0 := of_decide_eq_false c2
  have b2 := szA_bd (w := lenS) (l := rg) (left := szA lenS sl left) (by omega)
  refine sw_skip (sw_seq (xg hP 4 [] rfl ?_ ?_))
  ·simp [conj, maxL]
   try dsimp only [Ty.den, Ty.dflt]
   try simp only [rd_eta]
   exact ⟨by show 0 ≤ szA lenS sl left; omega, by show szA lenS sl left ≤ 1048576; omega⟩
  refine sw_seq (sw_seq (xr hP 5 rfl (sw_cond rfl (fun c5 => ?_) (fun c5 => ?_))))
  ·replace c5 : szA lenS rg (szA lenS sl left) < 0 := of_decide_eq_true c5
   refine sw_seq (xr hP 6 rfl (sw_ret ⟨.inl rfl, _, rfl, ?_⟩))
   simp [conj]
   unfold szD
   dsimp only
   rw [if_neg c2, if_pos c5]
  ·replace c5 : ¬ szA lenS rg (szA lenS sl left) < 0 := of_decide_eq_false c5
   have b3 := szA_bd (w := len0) (l := sp) (left := szA lenS rg (szA lenS sl left)) (by omega)
   refine sw_skip (sw_seq (xg hP 6 [] rfl ?_ ?_))
   ·simp [conj, maxL]
    try dsimp only [Ty.den, Ty.dflt]
    try simp only [rd_eta]
    exact ⟨by show 0 ≤ szA lenS rg (szA lenS sl left); omega, by show szA lenS rg (szA lenS sl left) ≤ 1048576; omega⟩
   refine sw_seq (sw_seq (xr hP 7 rfl (sw_cond rfl (fun c8 => ?_) (fun c8 => ?_))))
   ·replace c8 : szA len0 sp (szA lenS rg (szA lenS sl left)) < 0 := of_decide_eq_true c8
    refine sw_seq (xr hP 8 rfl (sw_ret ⟨.inl rfl, _, rfl, ?_⟩))
    simp [conj]
    unfold szD
    dsimp only
    rw [if_neg c2, if_neg c5, if_pos c8]
   ·replace c8 : ¬ szA len0 sp (szA lenS rg (szA lenS sl left)) < 0 := of_decide_eq_false c8
    have b4 := szA_bd (w := lenP) (l := wt) (left := szA len0 sp (szA lenS rg (szA lenS sl left))) (by omega)
    refine sw_skip (sw_seq (xg hP 8 [] rfl ?_ ?_))
    ·simp [conj, maxL]
     try dsimp only [Ty.den, Ty.dflt]
     try simp only [rd_eta]
     exact ⟨by show 0 ≤ szA len0 sp (szA lenS rg (szA lenS sl left)); omega, by show szA len0 sp (szA lenS rg (szA lenS sl left)) ≤ 1048576; omega⟩
    refine sw_seq (sw_seq (xr hP 9 rfl (sw_cond rfl (fun c11 => ?_) (fun c11 => ?_))))
    ·replace c11 : szA lenP wt (szA len0 sp (szA lenS rg (szA lenS sl left))) < 0 := of_decide_eq_true c11
     refine sw_seq (xr hP 10 rfl (sw_ret ⟨.inl rfl, _, rfl, ?_⟩))
     simp [conj]
     unfold szD
     dsimp only
     rw [if_neg c2, if_neg c5, if_neg c8]
     exact (szA_neg (by omega) c11).symm
    ·refine sw_skip (sw_seq (xr hP 10 rfl (sw_ret ⟨.inl rfl, _, rfl, ?_⟩)))
     simp [conj]
     unfold szD
     dsimp only
     rw [if_neg c2, if_neg c5, if_neg c8]
def cToS : Ctr := ⟨103, [.val false (.sl .str) (.all .b)], fun x => List.length x.1 ≤ 1048576, fun x => (.v false [.own ⟨1, 0, 0⟩], [(⟨1, 0, 0⟩, .sl .str (.all .w) x.1)])⟩
theorem cToS_ok : CtrOk Proofs.Tryz.prog cToS := by
 have hP := (Prg.none ttok mtok)
 refine ctr_of_body hP cToS (fn := Proofs.Tryz.f103) (rts := [.tmp 2]) Proofs.Tryz.func103 rfl (by kernel_rfl) rfl rfl ?_
 rintro ⟨(l : List Str), ⟨⟩⟩ _ hpre
 try dsimp only [Ty.den, Mode.den, mdens] at hpre
 refine ⟨rfl, ?_⟩
 replace hpre : l.length ≤ 1048576 := hpre
 refine sw_seq (xr hP 1 rfl (sw_seq (xg hP 2 [] rfl ?_ ?_)))
 ·simp [conj, maxL]
  try dsimp only [Ty.den, Ty.dflt]
  try simp only [rd_eta]
  repeat' apply And.intro
  all_goals first | rfl | assumption | omega
 refine sw_seq (sw_seq (xr hP 3 rfl (sw_block (sw_loop (ι := Nat) (fun i => ⟨[.v false [.d (.sl .str) (.all .b) l], .j, .j, .v false [.own ⟨2, 2, 0⟩], sInt .i64 (i : Int), .j, .j, .j, .j, .j, .j, .j, .j, .j, .j, .j, .j, .j, .j, .j, .j, .j], [(⟨2, 2, 0⟩, .sl .str (.all .w) (cpL l ([] : Str) i))], 3, []⟩) (fun i => l.length - i) (fun i => i ≤ l.length) 0 ⟨?_, ?_⟩ ?_))))
 ·exact Nat.zero_le _
 ·refine ent_ok rfl ?_
  simp [conj]
  exact cpL_zero.symm
 ·rintro i hi
  refine sw_seq (sw_seq (xr hP 4 rfl (sw_cond rfl (fun c3 => ?_) (fun c3 => ?_))))
  ·have hlt : i < l.length := by simpa using c3
   have hcl : (cpL l ([] : Str) i).length = l.length := cpL_len hi
   refine sw_skip (sw_seq (sw_block (xg hP 5 [] rfl ?_ ?_)))
   ·simp [conj, maxL, gE hlt, hcl]
    repeat' apply And.intro
    all_goals first | assumption | trivial | omega
   refine xr hP 6 rfl (⟨i + 1, ?_, ?_, ent_ok rfl ?_⟩)
   ·exact hlt
   ·omega
   ·simp [conj, gE hlt]
    exact cpL_next hlt
  ·obtain rfl : i = l.length := by simp at c3; omega
   refine sw_exit (sw_seq (xr hP 5 rfl (sw_ret ⟨.inl rfl, _, rfl, ?_⟩)))
   simp [conj]
   exact cpL_end
def cToB : Ctr := ⟨104, [.val false (.sl .bool) (.all .b)], fun x => List.length x.1 ≤ 1048576, fun x => (.v false [.own ⟨1, 0, 0⟩], [(⟨1, 0, 0⟩, .sl .bool (.all .w) x.1)])⟩
theorem cToB_ok : CtrOk Proofs.Tryz.prog cToB := by
 have hP := (Prg.none ttok mtok)
 refine ctr_of_body hP cToB (fn := Proofs.Tryz.f104) (rts := [.tmp 2]) Proofs.Tryz.func104 rfl (by kernel_rfl) rfl rfl ?_
 rintro ⟨(l : List Bool), ⟨⟩⟩ _ hpre
 try dsimp only [Ty.den, Mode.den, mdens] at hpre
 refine ⟨rfl, ?_⟩
 replace hpre : l.length ≤ 1048576 := hpre
 refine sw_seq (xr hP 1 rfl (sw_seq (xg hP 2 [] rfl ?_ ?_)))
 ·simp [conj, maxL]
  try dsimp only [Ty.den, Ty.dflt]
  try simp only [rd_eta]
  repeat' apply And.intro
  all_goals first | rfl | assumption | omega
 refine sw_seq (sw_seq (xr hP 3 rfl (sw_block (sw_loop (ι := Nat) (fun i => ⟨[.v false [.d (.sl .bool) (.all .b) l], .j, .j, .v false [.own ⟨2, 2, 0⟩], sInt .i64 (i : Int), .j, .j, .j, .j, .j, .j, .j, .j, .j, .j, .j, .j, .j, .j, .j, .j, .j], [(⟨2, 2, 0⟩, .sl .bool (.all .w) (cpL l (false : Bool) i))], 3, []⟩) (fun i => l.length - i) (fun i => i ≤ l.length) 0 ⟨?_, ?_⟩ ?_))))
 ·exact Nat.zero_le _
 ·refine ent_ok rfl ?_
  simp [conj]
  exact cpL_zero.symm
 ·rintro i hi
  refine sw_seq (sw_seq (xr hP 4 rfl (sw_cond rfl (fun c3 => ?_) (fun c3 => ?_))))
  ·have hlt : i < l.length := by simpa using c3
   have hcl : (cpL l (false : Bool) i).length = l.length := cpL_len hi
   refine sw_skip (sw_seq (sw_block (xg hP 5 [] rfl ?_ ?_)))
   ·simp [conj, maxL, gE hlt, hcl]
    repeat' apply And.intro
    all_goals first | assumption | trivial | omega
   refine xr hP 6 rfl (⟨i + 1, ?_, ?_, ent_ok rfl ?_⟩)
   ·exact hlt
   ·omega
   ·simp [conj, gE hlt]
    exact cpL_next hlt
  ·obtain rfl : i = l.length := by simp at c3; omega
   refine sw_exit (sw_seq (xr hP 5 rfl (sw_ret ⟨.inl rfl, _, rfl, ?_⟩)))
   simp [conj]
   exact cpL_end
def cToP1 : Ctr := ⟨149, [.val true TL_Put pF], fun _ => True, fun x => (putA_ x.1, [])⟩
theorem cToP1_ok : CtrOk Proofs.Tryz.prog cToP1 := by
 have hP := (Prg.none ttok mtok)
 refine ctr_of_body hP cToP1 (fn := Proofs.Tryz.f149) (rts := [.cell 2 120]) Proofs.Tryz.func149 rfl (by kernel_rfl) rfl rfl ?_
 rintro ⟨⟨(rn : Bool), (at_ : Int), (tx : Str)⟩, ⟨⟩⟩ _ hpre
 try dsimp only [Ty.den, Mode.den, mdens] at hpre
 refine ⟨rfl, ?_⟩
 refine sw_seq (xr hP 1 rfl (sw_seq (xr hP 2 rfl (sw_seq (xr hP 3 rfl (sw_seq (xr hP 4 rfl (sw_seq (xr hP 5 rfl (sw_seq (xr hP 6 rfl (sw_ret ⟨.inl rfl, _, rfl, ?_⟩))))))))))))
 simp [conj]
def cToP : Ctr := ⟨105, [.val false (.sl TL_Put) (.all .b)], fun x => List.length x.1 ≤ 1048576, fun x => (.v false [.own ⟨1, 0, 0⟩], [(⟨1, 0, 0⟩, .sl T_Put (.all .w) x.1)])⟩
theorem cToP_ok : CtrOk Proofs.Tryz.prog cToP := by
 have hP := ((Prg.none ttok mtok).and cToP1_ok)
 refine ctr_of_body hP cToP (fn := Proofs.Tryz.f105) (rts := [.tmp 2]) Proofs.Tryz.func105 rfl (by kernel_rfl) rfl rfl ?_
 rintro ⟨(l : List Put), ⟨⟩⟩ _ hpre
 try dsimp only [Ty.den, Mode.den, mdens] at hpre
 refine ⟨rfl, ?_⟩
 replace hpre : l.length ≤ 1048576 := hpre
 refine sw_seq (xr hP 1 rfl (sw_seq (xg hP 2 [] rfl ?_ ?_)))
 ·simp [conj, maxL]
  try dsimp only [Ty.den, Ty.dflt]
  try simp only [rd_eta]
  repeat' apply And.intro
  all_goals first | rfl | assumption | omega
 refine sw_seq (sw_seq (xr hP 3 rfl (sw_block (sw_loop (ι := Nat) (fun i => ⟨[.v false [.d (.sl TL_Put) (.all .b) l], .j, .j, .v false [.own ⟨2, 2, 0⟩], sInt .i64 (i : Int), .j, .j, .j, .j, .j, .j, .j, .j, .j, .j, .j, .j, .j, .j, .j, .j, .j, .j], [(⟨2, 2, 0⟩, .sl T_Put (.all .w) (cpL l ((false, 0, []) : Put) i))], 3, []⟩) (fun i => l.length - i) (fun i => i ≤ l.length) 0 ⟨?_, ?_⟩ ?_))))
 ·exact Nat.zero_le _
 ·refine ent_ok rfl ?_
  simp [conj]
  exact cpL_zero.symm
 ·rintro i hi
  refine sw_seq (sw_seq (xr hP 4 rfl (sw_cond rfl (fun c3 => ?_) (fun c3 => ?_))))
  ·have hlt : i < l.length := by simpa using c3
   have hcl : (cpL l ((false, 0, []) : Put) i).length = l.length := cpL_len hi
   refine sw_skip (sw_seq (sw_block (xg hP 5 [] rfl ?_ ?_)))
   ·simp [conj, maxL, gE hlt, hcl]
    repeat' apply And.intro
    all_goals first | assumption | trivial | omega
   refine xr hP 6 rfl (⟨i + 1, ?_, ?_, ent_ok rfl ?_⟩)
   ·exact hlt
   ·omega
   ·simp [conj, gE hlt]
    exact cpL_next hlt
  ·obtain rfl : i = l.length := by simp at c3; omega
   refine sw_exit (sw_seq (xr hP 5 rfl (sw_ret ⟨.inl rfl, _, rfl, ?_⟩)))
   simp [conj]
   exact cpL_end
def cToD : Ctr := ⟨54, [.val true TL_Disk (.all .b)], fun x => SmallD x.1, fun x => (.v true [.d TI pF (x.1).1, .own ⟨1, 0, 0⟩, .own ⟨1, 1, 0⟩, .own ⟨1, 2, 0⟩, .own ⟨1, 3, 0⟩], [(⟨1, 0, 0⟩, .sl .str (.all .w) (x.1).2.1), (⟨1, 1, 0⟩, .sl .str (.all .w) (x.1).2.2.1), (⟨1, 2, 0⟩, .sl .bool (.all .w) (x.1).2.2.2.1), (⟨1, 3, 0⟩, .sl T_Put (.all .w) (x.1).2.2.2.2)])⟩
theorem cToD_ok : CtrOk Proofs.Tryz.prog cToD := by
 have hP := ((((Prg.none ttok mtok).and cToS_ok).and cToB_ok).and cToP_ok)
 refine ctr_of_body hP cToD (fn := Proofs.Tryz.f54) (rts := [.cell 2 38]) Proofs.Tryz.func54 rfl (by kernel_rfl) rfl rfl ?_
 rintro ⟨⟨(st : Int), (sl : List Str), (rg : List Str), (sp : List Bool), (wt : List Put)⟩, ⟨⟩⟩ _ ⟨h1, h2, h3, h4⟩
 try dsimp only [Ty.den, Mode.den, mdens] at h1
 try dsimp only [Ty.den, Mode.den, mdens] at h2
 try dsimp only [Ty.den, Mode.den, mdens] at h3
 try dsimp only [Ty.den, Mode.den, mdens] at h4
 refine ⟨rfl, ?_⟩
 refine sw_seq (xr hP 1 rfl (sw_seq (xr hP 2 rfl (sw_seq (xr hP 3 rfl (sw_seq (xg hP 4 [] rfl ?_ ?_)))))))
 ·simp [conj, maxL]
  try dsimp only [Ty.den, Ty.dflt]
  try simp only [rd_eta]
  exact h1
 refine sw_seq (xg hP 5 [] rfl ?_ ?_)
 ·simp [conj, maxL]
  try dsimp only [Ty.den, Ty.dflt]
  try simp only [rd_eta]
  exact h2
 refine sw_seq (xg hP 6 [] rfl ?_ ?_)
 ·simp [conj, maxL]
  try dsimp only [Ty.den, Ty.dflt]
  try simp only [rd_eta]
  exact h3
 refine sw_seq (xg hP 7 [] rfl ?_ ?_)
 ·simp [conj, maxL]
  try dsimp only [Ty.den, Ty.dflt]
  try simp only [rd_eta]
  exact h4
 refine sw_seq (xr hP 8 rfl (sw_ret ⟨.inl rfl, _, rfl, ?_⟩))
 simp [conj, maxL]
 try dsimp only [Ty.den, Ty.dflt]
 try simp only [rd_eta]
 repeat' apply And.intro
 all_goals first | rfl | assumption | omega | trivial
def cEqS : Ctr := ⟨107, [.val false (.sl .str) (.all .b), .val false (.sl .str) (.all .b)], fun _ => True, fun x => (sBool (decide ((x.1 : List Str) = x.2.1)), [])⟩
theorem cEqS_ok : CtrOk Proofs.Tryz.prog cEqS := by
 have hP := (Prg.none ttok mtok)
 refine ctr_of_body hP cEqS (fn := Proofs.Tryz.f107) (rts := [.tmp 4]) Proofs.Tryz.func107 rfl (by kernel_rfl) rfl rfl ?_
 rintro ⟨(a : List Str), (b : List Str), ⟨⟩⟩ ⟨hda, hdb, _⟩ hpre
 try dsimp only [Ty.den, Mode.den, mdens] at hpre
 refine ⟨rfl, ?_⟩
 have hml : a.length ≤ 140737488355328 := hda.1
 have hmb : b.length ≤ 140737488355328 := hdb.1
 refine sw_seq (xr hP 1 rfl (sw_seq (sw_seq (xr hP 2 rfl (sw_cond rfl (fun c1 => ?_) (fun c1 => ?_))))))
 ·replace c1 : ¬ a.length = b.length := by simp at c1; omega
  refine sw_seq (xr hP 3 rfl (sw_ret ⟨.inl rfl, _, rfl, ?_⟩))
  exact (eq_len' c1).symm
 ·replace c1 : a.length = b.length := by simp at c1; omega
  refine sw_skip (sw_seq (sw_seq (xr hP 3 rfl (sw_block (sw_loop (ι := Nat) (fun i => ⟨[.v false [.d (.sl .str) (.all .b) a], .v false [.d (.sl .str) (.all .b) b], .j, .j, .j, sInt .i64 (i : Int), .j, .j, .j, .j, .j, .j, .j, .j, .j, .j, .j, .j, .j, .j, .j, .j, .j, .j, .j, .j], [], 3, []⟩) (fun i => a.length - i) (fun i => i ≤ a.length ∧ decide (a.drop i = b.drop i) = decide (a = b)) 0 ⟨?_, ?_⟩ ?_)))))
  ·exact ⟨Nat.zero_le _, rfl⟩
  ·refine ent_ok rfl ?_
   first | trivial | (simp [conj]; done) | (simp [conj] at *; (try dsimp only [Ty.den, Ty.dflt] at *); omega)
  ·rintro i ⟨hi, hgo⟩
   refine sw_seq (sw_seq (xr hP 4 rfl (sw_cond rfl (fun c4 => ?_) (fun c4 => ?_))))
   ·have hlt : i < a.length := by simpa using c4
    have hlt2 : i < b.length := by omega
    refine sw_skip (sw_seq (sw_block (sw_seq (xg hP 5 [] rfl ?_ ?_))))
    ·simp [conj, maxL]
     try dsimp only [Ty.den, Ty.dflt]
     try simp only [rd_eta]
     repeat' apply And.intro
     all_goals first | rfl | assumption | omega | trivial
    refine sw_cond rfl (fun c6 => ?_) (fun c6 => ?_)
    ·replace c6 : ¬ a[i] = b[i] := by have h := c6; simp [gE hlt, gE hlt2] at h; first | exact h | (intro e; rw [e] at h; simp at h) | (intro e; exact h (by rw [e]) )
     refine sw_seq (xr hP 6 rfl (sw_ret ⟨.inl rfl, _, rfl, ?_⟩))
     exact (eq_hit' hlt hlt2 hgo c6).symm
    ·replace c6 : a[i] = b[i] := by have h := c6; simp [gE hlt, gE hlt2] at h; first | exact h | exact Prod.ext h.1 (Prod.ext h.2.1 h.2.2)
     refine sw_skip (xr hP 6 rfl (⟨i + 1, ?_, ?_, ent_ok rfl ?_⟩))
     ·exact ⟨hlt, eq_next' hlt hlt2 hgo c6⟩
     ·omega
     ·simp [conj]
   ·obtain rfl : i = a.length := by simp at c4; omega
    refine sw_exit (sw_seq (xr hP 5 rfl (sw_ret ⟨.inl rfl, _, rfl, ?_⟩)))
    exact (eq_end' c1 hgo).symm
def cEqB : Ctr := ⟨108, [.val false (.sl .bool) (.all .b), .val false (.sl .bool) (.all .b)], fun _ => True, fun x => (sBool (decide ((x.1 : List Bool) = x.2.1)), [])⟩
theorem cEqB_ok : CtrOk Proofs.Tryz.prog cEqB := by
 have hP := (Prg.none ttok mtok)
 refine ctr_of_body hP cEqB (fn := Proofs.Tryz.f108) (rts := [.tmp 4]) Proofs.Tryz.func108 rfl (by kernel_rfl) rfl rfl ?_
 rintro ⟨(a : List Bool), (b : List Bool), ⟨⟩⟩ ⟨hda, hdb, _⟩ hpre
 try dsimp only [Ty.den, Mode.den, mdens] at hpre
 refine ⟨rfl, ?_⟩
 have hml : a.length ≤ 140737488355328 := hda.1
 have hmb : b.length ≤ 140737488355328 := hdb.1
 refine sw_seq (xr hP 1 rfl (sw_seq (sw_seq (xr hP 2 rfl (sw_cond rfl (fun c1 => ?_) (fun c1 => ?_))))))
 ·replace c1 : ¬ a.length = b.length := by simp at c1; omega
  refine sw_seq (xr hP 3 rfl (sw_ret ⟨.inl rfl, _, rfl, ?_⟩))
  exact (eq_len' c1).symm
 ·replace c1 : a.length = b.length := by simp at c1; omega
  refine sw_skip (sw_seq (sw_seq (xr hP 3 rfl (sw_block (sw_loop (ι := Nat) (fun i => ⟨[.v false [.d (.sl .bool) (.all .b) a], .v false [.d (.sl .bool) (.all .b) b], .j, .j, .j, sInt .i64 (i : Int), .j, .j, .j, .j, .j, .j, .j, .j, .j, .j, .j, .j, .j, .j, .j, .j, .j, .j, .j, .j], [], 3, []⟩) (fun i => a.length - i) (fun i => i ≤ a.length ∧ decide (a.drop i = b.drop i) = decide (a = b)) 0 ⟨?_, ?_⟩ ?_)))))
  ·exact ⟨Nat.zero_le _, rfl⟩
  ·refine ent_ok rfl ?_
   first | trivial | (simp [conj]; done) | (simp [conj] at *; (try dsimp only [Ty.den, Ty.dflt] at *); omega)
  ·rintro i ⟨hi, hgo⟩
   refine sw_seq (sw_seq (xr hP 4 rfl (sw_cond rfl (fun c4 => ?_) (fun c4 => ?_))))
   ·have hlt : i < a.length := by simpa using c4
    have hlt2 : i < b.length := by omega
    refine sw_skip (sw_seq (sw_block (sw_seq (xg hP 5 [] rfl ?_ ?_))))
    ·simp [conj, maxL]
     try dsimp only [Ty.den, Ty.dflt]
     try simp only [rd_eta]
     repeat' apply And.intro
     all_goals first | rfl | assumption | omega | trivial
    refine sw_cond rfl (fun c6 => ?_) (fun c6 => ?_)
    ·replace c6 : ¬ a[i] = b[i] := by have h := c6; simp [gE hlt, gE hlt2] at h; first | exact h | (intro e; rw [e] at h; simp at h) | (intro e; exact h (by rw [e]) )
     refine sw_seq (xr hP 6 rfl (sw_ret ⟨.inl rfl, _, rfl, ?_⟩))
     exact (eq_hit' hlt hlt2 hgo c6).symm
    ·replace c6 : a[i] = b[i] := by have h := c6; simp [gE hlt, gE hlt2] at h; first | exact h | exact Prod.ext h.1 (Prod.ext h.2.1 h.2.2)
     refine sw_skip (xr hP 6 rfl (⟨i + 1, ?_, ?_, ent_ok rfl ?_⟩))
     ·exact ⟨hlt, eq_next' hlt hlt2 hgo c6⟩
     ·omega
     ·simp [conj]
   ·obtain rfl : i = a.length := by simp at c4; omega
    refine sw_exit (sw_seq (xr hP 5 rfl (sw_ret ⟨.inl rfl, _, rfl, ?_⟩)))
    exact (eq_end' c1 hgo).symm
def cEqP1 : Ctr := ⟨150, [.val true T_Put pF, .val true T_Put pF], fun _ => True, fun x => (sBool (decide ((x.1 : Put) = x.2.1)), [])⟩
theorem cEqP1_ok : CtrOk Proofs.Tryz.prog cEqP1 := by
 have hP := (Prg.none ttok mtok)
 refine ctr_of_body hP cEqP1 (fn := Proofs.Tryz.f150) (rts := [.tmp 4]) Proofs.Tryz.func150 rfl (by kernel_rfl) rfl rfl ?_
 rintro ⟨⟨(r1 : Bool), (a1 : Int), (t1 : Str)⟩, ⟨(r2 : Bool), (a2 : Int), (t2 : Str)⟩, ⟨⟩⟩ _ hpre
 try dsimp only [Ty.den, Mode.den, mdens] at hpre
 refine ⟨rfl, ?_⟩
 refine sw_seq (xr hP 1 rfl (sw_seq (sw_seq (xr hP 2 rfl (sw_cond rfl (fun c1 => ?_) (fun c1 => ?_))))))
 ·replace c1 : ¬ r1 = r2 := by simpa using c1
  refine sw_seq (xr hP 3 rfl (sw_ret ⟨.inl rfl, _, rfl, ?_⟩))
  simp_all [conj]
 ·replace c1 : r1 = r2 := by simpa using c1
  refine sw_skip (sw_seq (sw_seq (xr hP 3 rfl (sw_cond rfl (fun c3 => ?_) (fun c3 => ?_)))))
  ·replace c3 : ¬ a1 = a2 := by simpa using c3
   refine sw_seq (xr hP 4 rfl (sw_ret ⟨.inl rfl, _, rfl, ?_⟩))
   simp_all [conj]
  ·replace c3 : a1 = a2 := by simpa using c3
   refine sw_skip (sw_seq (sw_seq (xr hP 4 rfl (sw_cond rfl (fun c5 => ?_) (fun c5 => ?_)))))
   ·replace c5 : ¬ t1 = t2 := by simpa using c5
    refine sw_seq (xr hP 5 rfl (sw_ret ⟨.inl rfl, _, rfl, ?_⟩))
    simp_all [conj]
   ·replace c5 : t1 = t2 := by simpa using c5
    refine sw_skip (sw_seq (xr hP 5 rfl (sw_ret ⟨.inl rfl, _, rfl, ?_⟩)))
    simp_all [conj]
def cEqP : Ctr := ⟨109, [.val false (.sl T_Put) (.all .b), .val false (.sl T_Put) (.all .b)], fun _ => True, fun x => (sBool (decide ((x.1 : List Put) = x.2.1)), [])⟩
theorem cEqP_ok : CtrOk Proofs.Tryz.prog cEqP := by
 have hP := ((Prg.none ttok mtok).and cEqP1_ok)
 refine ctr_of_body hP cEqP (fn := Proofs.Tryz.f109) (rts := [.tmp 4]) Proofs.Tryz.func109 rfl (by kernel_rfl) rfl rfl ?_
 rintro ⟨(a : List Put), (b : List Put), ⟨⟩⟩ ⟨hda, hdb, _⟩ hpre
 try dsimp only [Ty.den, Mode.den, mdens] at hpre
 refine ⟨rfl, ?_⟩
 have hml : a.length ≤ 140737488355328 := hda.1
 have hmb : b.length ≤ 140737488355328 := hdb.1
 refine sw_seq (xr hP 1 rfl (sw_seq (sw_seq (xr hP 2 rfl (sw_cond rfl (fun c1 => ?_) (fun c1 => ?_))))))
 ·replace c1 : ¬ a.length = b.length := by simp at c1; omega
  refine sw_seq (xr hP 3 rfl (sw_ret ⟨.inl rfl, _, rfl, ?_⟩))
  exact (eq_len' c1).symm
 ·replace c1 : a.length = b.length := by simp at c1; omega
  refine sw_skip (sw_seq (sw_seq (xr hP 3 rfl (sw_block (sw_loop (ι := Nat) (fun i => ⟨[.v false [.d (.sl T_Put) (.all .b) a], .v false [.d (.sl T_Put) (.all .b) b], .j, .j, .j, sInt .i64 (i : Int), .j, .j, .j, .j, .j, .j, .j, .j, .j, .j, .j, .j, .j, .j, .j, .j, .j, .j, .j, .j, .j], [], 3, []⟩) (fun i => a.length - i) (fun i => i ≤ a.length ∧ decide (a.drop i = b.drop i) = decide (a = b)) 0 ⟨?_, ?_⟩ ?_)))))
  ·exact ⟨Nat.zero_le _, rfl⟩
  ·refine ent_ok rfl ?_
   first | trivial | (simp [conj]; done) | (simp [conj] at *; (try dsimp only [Ty.den, Ty.dflt] at *); omega)
  ·rintro i ⟨hi, hgo⟩
   refine sw_seq (sw_seq (xr hP 4 rfl (sw_cond rfl (fun c4 => ?_) (fun c4 => ?_))))
   ·have hlt : i < a.length := by simpa using c4
    have hlt2 : i < b.length := by omega
    refine sw_skip (sw_seq (sw_block (sw_seq (xg hP 5 [] rfl ?_ ?_))))
    ·simp [conj, maxL]
     try dsimp only [Ty.den, Ty.dflt]
     try simp only [rd_eta]
     repeat' apply And.intro
     all_goals first | rfl | assumption | omega | trivial
    refine sw_cond rfl (fun c6 => ?_) (fun c6 => ?_)
    ·replace c6 : ¬ a[i] = b[i] := by have h := c6; simp [gE hlt, gE hlt2] at h; first | exact h | (intro e; rw [e] at h; simp at h) | (intro e; exact h (by rw [e]) )
     refine sw_seq (xr hP 6 rfl (sw_ret ⟨.inl rfl, _, rfl, ?_⟩))
     exact (eq_hit' hlt hlt2 hgo c6).symm
    ·replace c6 : a[i] = b[i] := by have h := c6; simp [gE hlt, gE hlt2] at h; first | exact h | exact Prod.ext h.1 (Prod.ext h.2.1 h.2.2)
     refine sw_skip (xr hP 6 rfl (⟨i + 1, ?_, ?_, ent_ok rfl ?_⟩))
     ·exact ⟨hlt, eq_next' hlt hlt2 hgo c6⟩
     ·omega
     ·simp [conj]
   ·obtain rfl : i = a.length := by simp at c4; omega
    refine sw_exit (sw_seq (xr hP 5 rfl (sw_ret ⟨.inl rfl, _, rfl, ?_⟩)))
    exact (eq_end' c1 hgo).symm
def cEqD : Ctr := ⟨56, [.val true T_Disk (.all .b), .val true T_Disk (.all .b)], fun _ => True, fun x => (sBool (eqDV x.1 x.2.1), [])⟩
theorem cEqD_ok : CtrOk Proofs.Tryz.prog cEqD := by
 have hP := ((((Prg.none ttok mtok).and cEqS_ok).and cEqB_ok).and cEqP_ok)
 refine ctr_of_body hP cEqD (fn := Proofs.Tryz.f56) (rts := [.tmp 4]) Proofs.Tryz.func56 rfl (by kernel_rfl) rfl rfl ?_
 rintro ⟨⟨(st : Int), (sl : List Str), (rg : List Str), (sp : List Bool), (wt : List Put)⟩, ⟨(st2 : Int), (sl2 : List Str), (rg2 : List Str), (sp2 : List Bool), (wt2 : List Put)⟩, ⟨⟩⟩ _ hpre
 try dsimp only [Ty.den, Mode.den, mdens] at hpre
 refine ⟨rfl, ?_⟩
 refine sw_seq (xr hP 1 rfl (sw_seq (sw_seq (xr hP 2 rfl (sw_cond rfl (fun c1 => ?_) (fun c1 => ?_))))))
 ·replace c1 : ¬ st = st2 := by simpa using c1
  refine sw_seq (xr hP 3 rfl (sw_ret ⟨.inl rfl, _, rfl, ?_⟩))
  simp [conj, eqDV, *]
 ·replace c1 : st = st2 := by simpa using c1
  refine sw_skip (sw_seq (sw_seq (xg hP 3 [] rfl ?_ ?_)))
  ·simp [conj, maxL]
   try dsimp only [Ty.den, Ty.dflt]
   try simp only [rd_eta]
   trivial
  refine sw_cond rfl (fun c3 => ?_) (fun c3 => ?_)
  ·replace c3 : ¬ sl = sl2 := by simpa using c3
   refine sw_seq (xr hP 4 rfl (sw_ret ⟨.inl rfl, _, rfl, ?_⟩))
   simp [conj, eqDV, *]
  ·replace c3 : sl = sl2 := by simpa using c3
   refine sw_skip (sw_seq (sw_seq (xg hP 4 [] rfl ?_ ?_)))
   ·simp [conj, maxL]
    try dsimp only [Ty.den, Ty.dflt]
    try simp only [rd_eta]
    trivial
   refine sw_cond rfl (fun c5 => ?_) (fun c5 => ?_)
   ·replace c5 : ¬ rg = rg2 := by simpa using c5
    refine sw_seq (xr hP 5 rfl (sw_ret ⟨.inl rfl, _, rfl, ?_⟩))
    simp [conj, eqDV, *]
   ·replace c5 : rg = rg2 := by simpa using c5
    refine sw_skip (sw_seq (sw_seq (xg hP 5 [] rfl ?_ ?_)))
    ·simp [conj, maxL]
     try dsimp only [Ty.den, Ty.dflt]
     try simp only [rd_eta]
     trivial
    refine sw_cond rfl (fun c7 => ?_) (fun c7 => ?_)
    ·replace c7 : ¬ sp = sp2 := by simpa using c7
     refine sw_seq (xr hP 6 rfl (sw_ret ⟨.inl rfl, _, rfl, ?_⟩))
     simp [conj, eqDV, *]
    ·replace c7 : sp = sp2 := by simpa using c7
     refine sw_skip (sw_seq (sw_seq (xg hP 6 [] rfl ?_ ?_)))
     ·simp [conj, maxL]
      try dsimp only [Ty.den, Ty.dflt]
      try simp only [rd_eta]
      trivial
     refine sw_cond rfl (fun c9 => ?_) (fun c9 => ?_)
     ·replace c9 : ¬ wt = wt2 := by simpa using c9
      refine sw_seq (xr hP 7 rfl (sw_ret ⟨.inl rfl, _, rfl, ?_⟩))
      simp [conj, eqDV, *]
     ·replace c9 : wt = wt2 := by simpa using c9
      refine sw_skip (sw_seq (xr hP 7 rfl (sw_ret ⟨.inl rfl, _, rfl, ?_⟩)))
      simp [conj, eqDV, *]
end Go.Sx
