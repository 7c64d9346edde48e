/- Several texts, one behind the other. -/
import Derived.Test.YtkjdeihmefhkpaaGreatDoorMShelftoMQ4
import Derived.Test.YtkjdeihmefhkpaaGreatDoorMOpentoMWex
import Derived.Test.YtkjdeihmefhkpaaGreatDoorMS6toMR6
set_option linter.all false
namespace Go.Sx
open Go
set_option maxRecDepth 100000
set_option linter.unusedVariables false
set_option linter.unusedSimpArgs false
set_option maxHeartbeats 2000000
def cWaits0 (st : Int) (t : Drv) (d : Id) : Xctr := ⟨169, [], [(d, ⟨0, 0, 0⟩, .lvar (drv st t .nilp))], [.v false [.ptr ⟨0, 0, 0⟩ 0]],
  (.v false [.own ⟨1, 0, 0⟩], [(⟨1, 0, 0⟩, .sl T_Put (.all .w) [])])⟩
theorem cWaits0_ok {st : Int} {t : Drv} {d : Id} : XOk Proofs.Tryz.prog (cWaits0 st t d) := by
 have hP := (Prg.none ttok mtok)
 refine xctr_of_body hP (cWaits0 st t d) (fn := Proofs.Tryz.f169) (rts := [.tmp 2]) Proofs.Tryz.func169 rfl (by kernel_rfl) rfl rfl ?_
 refine ⟨rfl, ?_⟩
 refine sw_seq (xr hP 1 rfl (sw_seq (xr hP 2 rfl (sw_seq (sw_seq (xr hP 3 rfl (sw_block (sw_loop (ι := Unit) (fun i => ⟨[.j, .j, .j, .v false [.own ⟨0, 9, 0⟩], .v false [.nilp], .j, .j, .j, .j, .j, .j, .j, .j, .j, .j, .j, .j, .j, .j, .j, .j, .j, .j], [(⟨0, 0, 0⟩, .lvar (drv st t .nilp)), (⟨0, 9, 0⟩, .sl T_Put (.all .w) [])], 3, [[.v false [.ptr ⟨0, 0, 0⟩ 0]]]⟩) (fun i => 0) (fun i => True) () ⟨?_, ?_⟩ ?_))))))))
 ·trivial
 ·refine ent_ok rfl ?_
  first | trivial | (simp [conj]; done) | (simp [conj] at *; (try dsimp only [Ty.den, Ty.dflt] at *); omega)
 ·rintro i hi
  refine sw_seq (sw_seq (xr hP 4 rfl (sw_cond rfl (fun c3 => ?_) (fun c3 => ?_))))
  ·exact absurd c3 (by simp)
  ·refine sw_exit (sw_seq (xr hP 5 rfl (sw_ret ⟨.inl rfl, _, rfl, ?_⟩)))
   simp [conj]
def cDisk0 (st : Int) (t : Drv) (d : Id) : Xctr := ⟨85, [], [(d, ⟨0, 0, 0⟩, .lvar (drv st t .nilp))], [.v false [.ptr ⟨0, 0, 0⟩ 0]],
  (.v true [.d TI pF st, .own ⟨1, 0, 0⟩, .own ⟨1, 1, 0⟩, .own ⟨1, 2, 0⟩, .own ⟨1, 3, 0⟩], [(⟨1, 0, 0⟩, .sl .str (.all .w) t.1), (⟨1, 1, 0⟩, .sl .str (.all .w) t.2.1), (⟨1, 2, 0⟩, .sl .bool (.all .w) t.2.2), (⟨1, 3, 0⟩, .sl T_Put (.all .w) [])])⟩
theorem cDisk0_ok {st : Int} {t : Drv} {d : Id} (ht : t.ok) : XOk Proofs.Tryz.prog (cDisk0 st t d) := by
 have hP := ((((Prg.none ttok mtok).and cCloneO_ok).and cCloneB_ok).andX (cWaits0_ok (st := st) (t := t) (d := ⟨0, 0, 0⟩)))
 refine xctr_of_body hP (cDisk0 st t d) (fn := Proofs.Tryz.f85) (rts := [.cell 2 37]) Proofs.Tryz.func85 rfl (by kernel_rfl) rfl rfl ?_
 refine ⟨rfl, ?_⟩
 obtain ⟨h1, h2, h3⟩ := ht
 refine sw_seq (xr hP 1 rfl (sw_seq (xg hP 2 [] rfl ?_ ?_)))
 ·simp only [cj, cl]
  try dsimp only [Ty.den, Ty.dflt]
  repeat' apply And.intro
  all_goals first | rfl | (show List.length t.1 ≤ 1099511627776; omega) | (show List.length t.2.1 ≤ 1099511627776; omega) | (show List.length t.2.2 ≤ 1099511627776; omega) | omega | assumption | trivial
 refine sw_ret ⟨.inl rfl, _, rfl, ?_⟩
 simp [conj]
def cNewI : Ctr := ⟨22, [.val false TI pF], fun x => 0 ≤ x.1 ∧ x.1 ≤ 2, fun x => (.v true [.d TI pF (newD x.1).1, .own ⟨1, 0, 0⟩, .own ⟨1, 1, 0⟩, .own ⟨1, 2, 0⟩, .own ⟨1, 3, 0⟩], [(⟨1, 0, 0⟩, .sl .str (.all .w) (newD x.1).2.1), (⟨1, 1, 0⟩, .sl .str (.all .w) (newD x.1).2.2.1), (⟨1, 2, 0⟩, .sl .bool (.all .w) (newD x.1).2.2.2.1), (⟨1, 3, 0⟩, .sl T_Put (.all .w) (newD x.1).2.2.2.2)])⟩
theorem cNewI_ok : CtrOk Proofs.Tryz.prog cNewI := by
 have hP := ((Prg.none ttok mtok).and cState_ok)
 refine ctr_of_body hP cNewI (fn := Proofs.Tryz.f22) (rts := [.cell 2 37]) Proofs.Tryz.func22 rfl (by kernel_rfl) rfl rfl ?_
 rintro ⟨(n : Int), ⟨⟩⟩ _ ⟨h0, h1⟩
 try dsimp only [Ty.den, Mode.den, mdens] at h0
 try dsimp only [Ty.den, Mode.den, mdens] at h1
 refine ⟨rfl, ?_⟩
 refine sw_seq (xr hP 1 rfl (sw_seq (sw_seq (xg hP 2 [] rfl ?_ ?_))))
 ·simp [conj, maxL]
  try dsimp only [Ty.den, Ty.dflt]
  try simp only [rd_eta]
  try trivial
 refine sw_cond rfl (fun c1 => ?_) (fun c1 => ?_)
 ·have h : (!stV n) = true := c1
  simp [stV] at h
  omega
 ·refine sw_skip (sw_seq ?_)
  replace hP := hP.andX (cDisk0_ok (st := n) (t := drvOf (newD n)) (d := ⟨3, 3, 0⟩) (newD_ok (n := n)).1)
  refine xg hP 3 [] rfl ?_ ?_
  ·simp [conj]
   repeat' apply And.intro
   all_goals first | rfl | trivial | decide
  refine sw_ret ⟨.inl rfl, _, rfl, ?_⟩
  simp [conj, newD, drvOf]
def cNewS : Ctr := ⟨110, [.val false TI pF], fun x => 0 ≤ x.1 ∧ x.1 ≤ 2, fun x => (.v true [.d TI pF (newD x.1).1, .own ⟨1, 0, 0⟩, .own ⟨1, 1, 0⟩, .own ⟨1, 2, 0⟩, .own ⟨1, 3, 0⟩], [(⟨1, 0, 0⟩, .sl .str (.all .w) (newD x.1).2.1), (⟨1, 1, 0⟩, .sl .str (.all .w) (newD x.1).2.2.1), (⟨1, 2, 0⟩, .sl .bool (.all .w) (newD x.1).2.2.2.1), (⟨1, 3, 0⟩, .sl T_Put (.all .w) (newD x.1).2.2.2.2)])⟩
theorem cNewS_ok : CtrOk Proofs.Tryz.prog cNewS := by
 have hP := ((Prg.none ttok mtok).and cIn_ok)
 refine ctr_of_body hP cNewS (fn := Proofs.Tryz.f110) (rts := [.cell 2 37]) Proofs.Tryz.func110 rfl (by kernel_rfl) rfl rfl ?_
 rintro ⟨(n : Int), ⟨⟩⟩ _ ⟨h0, h1⟩
 try dsimp only [Ty.den, Mode.den, mdens] at h0
 try dsimp only [Ty.den, Mode.den, mdens] at h1
 refine ⟨rfl, ?_⟩
 refine sw_seq (xr hP 1 rfl (sw_seq (sw_seq (xg hP 2 [] rfl ?_ ?_))))
 ·simp [conj, maxL]
  try dsimp only [Ty.den, Ty.dflt]
  try simp only [rd_eta]
  try trivial
 refine sw_cond rfl (fun c1 => ?_) (fun c1 => ?_)
 ·have h : (!inV n 0 2) = true := c1
  simp [inV] at h
  omega
 ·refine sw_skip (sw_seq (xg hP 3 [] rfl ?_ ?_))
  ·simp only [conj, List.nil_append, List.cons_append, List.append_nil, List.append_assoc, inR_i64, true_and, and_true, Int.toNat_natCast]
   try dsimp only [Ty.den, Ty.dflt]
   repeat' apply And.intro
   all_goals first | rfl | omega | assumption | trivial
  refine sw_ret ⟨.inl rfl, _, rfl, ?_⟩
  simp [conj, newD]
def cRingS : Ctr := ⟨112, [.val false TI pF, .val true T_Root (.all .b)], fun x => True, fun x => (.v true [.d .bool pF true, .d TI pF (x.2.1.1.tmod 2), .d .str pF (rootT x.1 x.2.1)], [])⟩
theorem cRingS_ok : CtrOk Proofs.Tryz.prog cRingS := by
 have hP := ((Prg.none ttok mtok).and cRootTextS_ok)
 refine ctr_of_body hP cRingS (fn := Proofs.Tryz.f112) (rts := [.cell 4 153]) Proofs.Tryz.func112 rfl (by kernel_rfl) rfl rfl ?_
 rintro ⟨(d : Int), ⟨(tg : Int), (l : List Vol_)⟩, ⟨⟩⟩ _ _
 try dsimp only [Ty.den, Mode.den, mdens] at _
 refine ⟨rfl, ?_⟩
 refine sw_seq (xr hP 1 rfl (sw_seq (xg hP 2 [] rfl ?_ ?_)))
 ·simp [conj, maxL]
  try dsimp only [Ty.den, Ty.dflt]
  try simp only [rd_eta]
  try trivial
 refine sw_ret ⟨.inl rfl, _, rfl, ?_⟩
 simp [conj]
def cPoolI : Ctr := ⟨42, [.val false TI pF], fun x => True, fun x => (.tup [(true, [.own ⟨1, 0, 0⟩, .d .bool pF ((newPo x.1)).2.1, .d TI pF ((newPo x.1)).2.2.1.1, .own ⟨1, 1, 0⟩, .d TI pF ((newPo x.1)).2.2.2.1, .own ⟨1, 2, 0⟩]), (false, [.d .bool pF (poolV x.1)])], [(⟨1, 0, 0⟩, .sl T_Disk (.all .w) ((newPo x.1)).1), (⟨1, 1, 0⟩, .sl T_Vol (.all .w) ((newPo x.1)).2.2.1.2), (⟨1, 2, 0⟩, .sl T_Vol (.all .w) ((newPo x.1)).2.2.2.2)])⟩
theorem cPoolI_ok : CtrOk Proofs.Tryz.prog cPoolI := by
 have hP := ((((Prg.none ttok mtok).and cPool_ok).and cNewI_ok).and cText__ok)
 refine ctr_of_body hP cPoolI (fn := Proofs.Tryz.f42) (rts := [.cell 2 75, .tmp 3]) Proofs.Tryz.func42 rfl (by kernel_rfl) rfl rfl ?_
 rintro ⟨(n : Int), ⟨⟩⟩ _ _
 try dsimp only [Ty.den, Mode.den, mdens] at _
 refine ⟨rfl, ?_⟩
 refine sw_seq (xr hP 1 rfl (sw_seq (sw_seq (xg hP 2 [] rfl ?_ ?_))))
 ·simp [conj, maxL]
  try dsimp only [Ty.den, Ty.dflt]
  try simp only [rd_eta]
  try trivial
 refine sw_cond rfl (fun c1 => ?_) (fun c1 => ?_)
 ·have hs : ¬ poolV n = true := by have h : (!poolV n) = true := c1; simpa using h
  have hb : poolV n = false := by simpa using hs
  have hv : newPo n = ([], false, (0, []), (0, [])) := if_neg hs
  refine sw_seq (xr hP 3 rfl (sw_ret ⟨.inl rfl, _, rfl, ?_⟩))
  rw [hv]
  simp [conj, *]
 ·have hs : poolV n = true := by have h : (!poolV n) = false := c1; simpa using h
  have hv : newPo n = (List.replicate n.toNat newDk, true, (0, []), (0, [])) := if_pos hs
  have hn := new_lt hs
  refine sw_skip (sw_seq (xr hP 3 rfl (sw_seq (sw_seq (xr hP 4 rfl (sw_block (sw_loop (ι := Nat) (fun i => ⟨[.j, .j, .v false [.ptr ⟨1, 0, 0⟩ 0], .j, .v false [.ptr ⟨3, 1, 0⟩ 0], .j, .j, .j, .j, .j, .j, sInt .i64 n, sInt .i64 (i : Int), .j, .j, .j, .j, .j, .j, .j, .j, .j, .j, .j, .j, .j, .j, .j], [(⟨1, 0, 0⟩, .var [.nils, .d .bool pF false, .d TI pF 0, .nils, .d TI pF 0, .nils]), (⟨3, 1, 0⟩, .var [.own ⟨0, 9, 0⟩, .d .bool pF true, .d TI pF 0, .nils, .d TI pF 0, .nils]), (⟨0, 9, 0⟩, .sl T_Disk (.all .w) (List.replicate i newDk))], 4, []⟩) (fun i => n.toNat - i) (fun i => (i : Int) ≤ n) 0 ⟨?_, ?_⟩ ?_)))))))
  ·show (0 : Int) ≤ n; omega
  ·refine ent_ok rfl ?_
   simp [conj]
  ·rintro i hi
   refine sw_seq (xr hP 5 rfl (sw_seq (sw_cond rfl (fun c5 => ?_) (fun c5 => ?_))))
   ·have hlt : (i : Int) < n := of_decide_eq_true c5
    refine sw_skip (sw_seq (sw_block (sw_seq (xg hP 6 [] rfl ?_ ?_))))
    ·simp [conj, maxL]
     try dsimp only [Ty.den, Ty.dflt]
     try simp only [rd_eta]
     exact ⟨by decide, by decide⟩
    refine sw_seq (xg hP 7 [] rfl ?_ ?_)
    ·simp [conj, maxL]
     try dsimp only [Ty.den, Ty.dflt]
     try simp only [rd_eta]
     repeat' apply And.intro
     all_goals first | exact ⟨n, newV hs⟩ | trivial | (simp [newD]; done) | omega
    refine xg hP 8 [] rfl ?_ ?_
    ·simp [conj, maxL]
     repeat' apply And.intro
     all_goals first | omega | trivial
    refine xr hP 9 rfl (⟨i + 1, ?_, ?_, ent_ok rfl ?_⟩)
    ·show ((i + 1 : Nat) : Int) ≤ n; omega
    ·omega
    ·simp [conj]
     exact new_next i
   ·have hge : ¬ (i : Int) < n := of_decide_eq_false c5
    obtain rfl : i = n.toNat := by omega
    refine sw_exit (sw_seq (xr hP 6 rfl (sw_ret ⟨.inl rfl, _, rfl, ?_⟩)))
    rw [hv]
    simp [conj, *]
def cPoolS : Ctr := ⟨41, [.val false TI pF], fun x => True, fun x => (.tup [(true, [.own ⟨1, 0, 0⟩, .d .bool pF ((newPo x.1)).2.1, .d TI pF ((newPo x.1)).2.2.1.1, .own ⟨1, 1, 0⟩, .d TI pF ((newPo x.1)).2.2.2.1, .own ⟨1, 2, 0⟩]), (false, [.d .bool pF (poolV x.1)])], [(⟨1, 0, 0⟩, .sl T_Disk (.all .w) ((newPo x.1)).1), (⟨1, 1, 0⟩, .sl T_Vol (.all .w) ((newPo x.1)).2.2.1.2), (⟨1, 2, 0⟩, .sl T_Vol (.all .w) ((newPo x.1)).2.2.2.2)])⟩
theorem cPoolS_ok : CtrOk Proofs.Tryz.prog cPoolS := by
 have hP := (((((Prg.none ttok mtok).and cDisks_ok).and cNewS_ok).and cRingS_ok).and cComeS_ok)
 refine ctr_of_body hP cPoolS (fn := Proofs.Tryz.f41) (rts := [.cell 2 75, .tmp 3]) Proofs.Tryz.func41 rfl (by kernel_rfl) rfl rfl ?_
 rintro ⟨(n : Int), ⟨⟩⟩ _ _
 try dsimp only [Ty.den, Mode.den, mdens] at _
 refine ⟨rfl, ?_⟩
 refine sw_seq (xr hP 1 rfl (sw_seq (sw_seq (xg hP 2 [] rfl ?_ ?_))))
 ·simp [conj, maxL]
  try dsimp only [Ty.den, Ty.dflt]
  try simp only [rd_eta]
  try trivial
 refine sw_cond rfl (fun c1 => ?_) (fun c1 => ?_)
 ·have hs : ¬ poolV n = true := by have h : (!poolV n) = true := c1; simpa using h
  have hb : poolV n = false := by simpa using hs
  have hv : newPo n = ([], false, (0, []), (0, [])) := if_neg hs
  refine sw_seq (xr hP 3 rfl (sw_ret ⟨.inl rfl, _, rfl, ?_⟩))
  rw [hv]
  simp [conj, *]
 ·have hs : poolV n = true := by have h : (!poolV n) = false := c1; simpa using h
  have hv : newPo n = (List.replicate n.toNat newDk, true, (0, []), (0, [])) := if_pos hs
  have hn := new_lt hs
  have hr := newR hs
  refine sw_skip (sw_seq (xr hP 3 rfl (sw_seq (sw_seq (xr hP 4 rfl (sw_block (sw_loop (ι := Nat) (fun i => ⟨[sInt .i64 n, .j, .v false [.ptr ⟨1, 0, 0⟩ 0], .j, .v false [.ptr ⟨3, 5, 0⟩ 0], sInt .i64 (i : Int), .j, .j, .j, .j, .j, .j, .j, .j, .j, .j, .j, .j, .j, .j, .j, .j, .j, .j, .j, .j, .j, .j, .j, .j, .j, .j, .j, .j], [(⟨1, 0, 0⟩, .var [.nils, .d .bool pF false, .d TI pF 0, .nils, .d TI pF 0, .nils]), (⟨3, 5, 0⟩, .var [.own ⟨0, 9, 0⟩, .d .bool pF true, .d TI pF 0, .own ⟨0, 9, 64⟩, .d TI pF 0, .own ⟨0, 9, 128⟩]), (⟨0, 9, 0⟩, .sl T_Disk (.all .w) (List.replicate i newDk)), (⟨0, 9, 64⟩, .sl T_Vol (.all .w) []), (⟨0, 9, 128⟩, .sl T_Vol (.all .w) [])], 4, []⟩) (fun i => n.toNat - i) (fun i => (i : Int) ≤ n) 0 ⟨?_, ?_⟩ ?_)))))))
  ·show (0 : Int) ≤ n; omega
  ·refine ent_ok rfl ?_
   simp [conj]
  ·rintro i hi
   refine sw_seq (sw_seq (xr hP 5 rfl (sw_cond rfl (fun c5 => ?_) (fun c5 => ?_))))
   ·have hlt : (i : Int) < n := of_decide_eq_true c5
    refine sw_skip (sw_seq (sw_block (sw_seq (xg hP 6 [] rfl ?_ ?_))))
    ·simp [conj, maxL]
     try dsimp only [Ty.den, Ty.dflt]
     try simp only [rd_eta]
     exact ⟨by decide, by decide⟩
    refine xg hP 7 [] rfl ?_ ?_
    ·simp only [conj, hr]
     repeat' apply And.intro
     all_goals first | exact new_put | (show putV (true, Int.tmod 0 2, rootT n (0, [])) = true; rw [hr]; exact new_put) | exact (newD_ok (n := 0)).1 | trivial | (simp [maxL]; done) | (simp [maxL]; omega)
    refine xr hP 8 rfl (⟨i + 1, ?_, ?_, ent_ok rfl ?_⟩)
    ·show ((i + 1 : Nat) : Int) ≤ n; omega
    ·omega
    ·simp [conj]
     rw [hr, ← new_next i]
     first | rfl | (simp [new_come]; done)
   ·have hge : ¬ (i : Int) < n := of_decide_eq_false c5
    obtain rfl : i = n.toNat := by omega
    refine sw_exit (sw_seq (xr hP 6 rfl (sw_ret ⟨.inl rfl, _, rfl, ?_⟩)))
    rw [hv]
    simp [conj, *]
end Go.Sx

namespace Go.Sx
open Go
set_option maxRecDepth 100000
set_option linter.unusedVariables false
set_option linter.unusedSimpArgs false
set_option maxHeartbeats 2000000
def cCpM0 : Ctr := ⟨122, [.val true T_Model (.all .b)], fun x => x.1 = [], fun x => (.v true [.own ⟨1, 0, 0⟩], [(⟨1, 0, 0⟩, .sl T_Shelf (.all .w) [])])⟩
theorem cCpM0_ok : CtrOk Proofs.Tryz.prog cCpM0 := by
 have hP := (Prg.none ttok mtok)
 refine ctr_of_body hP cCpM0 (fn := Proofs.Tryz.f122) (rts := [.cell 2 83]) Proofs.Tryz.func122 rfl (by kernel_rfl) rfl rfl ?_
 rintro ⟨(m : Mdl), ⟨⟩⟩ _ hpre
 try dsimp only [Ty.den, Mode.den, mdens] at hpre
 refine ⟨rfl, ?_⟩
 replace hpre : m = [] := hpre
 subst hpre
 refine sw_seq (xr hP 1 rfl (sw_seq (xr hP 2 rfl (sw_seq (sw_seq (xr hP 3 rfl (sw_block (sw_loop (ι := Unit) (fun i => ⟨[.j, .v false [.ptr ⟨1, 0, 0⟩ 0], .v false [.ptr ⟨1, 1, 0⟩ 0], .v false [.ptr ⟨2, 2, 0⟩ 0], sInt .i64 0, .j, .j, .j, .j, .j, .j, .j, .j, .j, .j, .j, .j, .j, .j, .j, .j, .j, .j, .j, .j, .j, .j, .j, .j, .j, .j, .j, .j, .j, .j], [(⟨1, 0, 0⟩, .var [.d T_Model (.all .b) []]), (⟨1, 1, 0⟩, .var [.nils]), (⟨2, 2, 0⟩, .var [.own ⟨0, 9, 0⟩]), (⟨0, 9, 0⟩, .sl T_Shelf (.all .w) [])], 3, []⟩) (fun i => 0) (fun i => True) () ⟨?_, ?_⟩ ?_))))))))
 ·trivial
 ·refine ent_ok rfl ?_
  simp [conj]
 ·rintro i hi
  refine sw_seq (sw_seq (xr hP 4 rfl (sw_cond rfl (fun c3 => ?_) (fun c3 => ?_))))
  ·simp at c3
  ·refine sw_exit (sw_seq (xr hP 5 rfl (sw_ret ⟨.inl rfl, _, rfl, ?_⟩)))
   simp [conj]
def cWorldI : Ctr := ⟨48, [.val false TI pF], fun x => True, fun x => (.tup [(true, [.own ⟨1, 0, 0⟩, .d .bool pF ((newWo x.1)).1.2.1, .d TI pF ((newWo x.1)).1.2.2.1.1, .own ⟨1, 1, 0⟩, .d TI pF ((newWo x.1)).1.2.2.2.1, .own ⟨1, 2, 0⟩, .own ⟨1, 3, 0⟩, .own ⟨1, 4, 0⟩, .own ⟨1, 5, 0⟩, .d .bool pF ((newWo x.1)).2.2.2.2]), (false, [.d .bool pF (poolV x.1)])], [(⟨1, 0, 0⟩, .sl T_Disk (.all .w) ((newWo x.1)).1.1), (⟨1, 1, 0⟩, .sl T_Vol (.all .w) ((newWo x.1)).1.2.2.1.2), (⟨1, 2, 0⟩, .sl T_Vol (.all .w) ((newWo x.1)).1.2.2.2.2), (⟨1, 3, 0⟩, .sl T_Shelf (.all .w) ((newWo x.1)).2.1), (⟨1, 4, 0⟩, .sl T_Shelf (.all .w) ((newWo x.1)).2.2.1), (⟨1, 5, 0⟩, .sl T_Shelf (.all .w) ((newWo x.1)).2.2.2.1)])⟩
theorem cWorldI_ok : CtrOk Proofs.Tryz.prog cWorldI := by
 have hP := ((Prg.none ttok mtok).and cPoolI_ok)
 refine ctr_of_body hP cWorldI (fn := Proofs.Tryz.f48) (rts := [.cell 2 85, .tmp 3]) Proofs.Tryz.func48 rfl (by kernel_rfl) rfl rfl ?_
 rintro ⟨(n : Int), ⟨⟩⟩ _ _
 try dsimp only [Ty.den, Mode.den, mdens] at _
 refine ⟨rfl, ?_⟩
 refine sw_seq (xr hP 1 rfl (sw_seq (xg hP 2 [] rfl ?_ ?_)))
 ·simp [conj, maxL]
  try dsimp only [Ty.den, Ty.dflt]
  try simp only [rd_eta]
  try trivial
 refine sw_seq (xr hP 3 rfl (sw_ret ⟨.inl rfl, _, rfl, ?_⟩))
 simp [conj, newWo]
def cWorldS : Ctr := ⟨47, [.val false TI pF], fun x => True, fun x => (.tup [(true, [.own ⟨1, 0, 0⟩, .d .bool pF ((newWo x.1)).1.2.1, .d TI pF ((newWo x.1)).1.2.2.1.1, .own ⟨1, 1, 0⟩, .d TI pF ((newWo x.1)).1.2.2.2.1, .own ⟨1, 2, 0⟩, .own ⟨1, 3, 0⟩, .own ⟨1, 4, 0⟩, .own ⟨1, 5, 0⟩, .d .bool pF ((newWo x.1)).2.2.2.2]), (false, [.d .bool pF (poolV x.1)])], [(⟨1, 0, 0⟩, .sl T_Disk (.all .w) ((newWo x.1)).1.1), (⟨1, 1, 0⟩, .sl T_Vol (.all .w) ((newWo x.1)).1.2.2.1.2), (⟨1, 2, 0⟩, .sl T_Vol (.all .w) ((newWo x.1)).1.2.2.2.2), (⟨1, 3, 0⟩, .sl T_Shelf (.all .w) ((newWo x.1)).2.1), (⟨1, 4, 0⟩, .sl T_Shelf (.all .w) ((newWo x.1)).2.2.1), (⟨1, 5, 0⟩, .sl T_Shelf (.all .w) ((newWo x.1)).2.2.2.1)])⟩
theorem cWorldS_ok : CtrOk Proofs.Tryz.prog cWorldS := by
 have hP := (((Prg.none ttok mtok).and cPoolS_ok).and cCpM0_ok)
 refine ctr_of_body hP cWorldS (fn := Proofs.Tryz.f47) (rts := [.cell 2 85, .tmp 3]) Proofs.Tryz.func47 rfl (by kernel_rfl) rfl rfl ?_
 rintro ⟨(n : Int), ⟨⟩⟩ _ _
 try dsimp only [Ty.den, Mode.den, mdens] at _
 refine ⟨rfl, ?_⟩
 refine sw_seq (xr hP 1 rfl (sw_seq (xg hP 2 [] rfl ?_ ?_)))
 ·simp [conj, maxL]
  try dsimp only [Ty.den, Ty.dflt]
  try simp only [rd_eta]
  try trivial
 refine sw_seq (sw_seq (xr hP 3 rfl (sw_cond rfl (fun c2 => ?_) (fun c2 => ?_))))
 ·have hs : ¬ poolV n = true := by have h : (!poolV n) = true := c2; simpa using h
  have hb : poolV n = false := by simpa using hs
  have hv : newPo n = ([], false, (0, []), (0, [])) := if_neg hs
  refine sw_seq (xr hP 4 rfl (sw_ret ⟨.inl rfl, _, rfl, ?_⟩))
  simp [conj, newWo, hv, hb]
 ·have hs : poolV n = true := by have h : (!poolV n) = false := c2; simpa using h
  refine sw_skip (sw_seq (xr hP 4 rfl (sw_seq (xg hP 5 [] rfl ?_ ?_))))
  ·simp [conj]
   rfl
  refine sw_ret ⟨.inl rfl, _, rfl, ?_⟩
  simp [conj, newWo, hs]
end Go.Sx

namespace Go.Sx
open Go
set_option maxRecDepth 100000
set_option linter.unusedVariables false
set_option linter.unusedSimpArgs false
set_option maxHeartbeats 4000000
def cXWN : Ctr := ⟨11, [.val false TB pF], fun x => True, fun x => (sBool true, [])⟩
theorem cXWN_ok : CtrOk Proofs.Tryz.prog cXWN := by
 have hP := ((((((((Prg.none ttok mtok).and cDrWN_ok).and cWorldS_ok).and cWorldI_ok).and cLWo_ok).and cPoolI_ok).and cWOk0_ok).and cLPo_ok)
 refine ctr_of_body hP cXWN (fn := Proofs.Tryz.f11) (rts := [.tmp 2]) Proofs.Tryz.func11 rfl (by kernel_rfl) rfl rfl ?_
 rintro ⟨(code : List Int), ⟨⟩⟩ _ _
 try dsimp only [Ty.den, Mode.den, mdens] at _
 refine ⟨rfl, ?_⟩
 obtain ⟨n, hn⟩ : ∃ n, nPN code = n := ⟨_, rfl⟩
 obtain ⟨W, hW⟩ : ∃ W, newWo n = W := ⟨_, rfl⟩
 obtain ⟨V, hV⟩ : ∃ V, newPo n = V := ⟨_, rfl⟩
 have hW1 : W.1 = V := by rw [← hW, ← hV]; rfl
 have hW2 : W.2 = ([], [], [], false) := by rw [← hW]; rfl
 refine sw_seq (xr hP 1 rfl (sw_seq (sw_seq (xr hP 2 rfl (sw_cond rfl (fun c1 => ?_) (fun c1 => ?_))))))
 ·refine sw_seq (xr hP 3 rfl (sw_ret ⟨.inl rfl, _, rfl, ?_⟩))
  simp [conj, hW1, hW2]
 ·refine sw_skip (sw_seq (xg hP 3 [] rfl ?_ ?_))
  ·simp [conj, maxL]
   try dsimp only [Ty.den, Ty.dflt]
   try simp only [rd_eta]
   try trivial
  refine sw_seq ?_
  refine sw_ent (st' := ⟨[.j, .j, .j, sInt .i64 n, .j, .j, .j, .j, .j, .j, .j, .j, .j, .j, .j, .j, .j, .j, .j, .j, .j, .j, .j, .j, .j, .j, .j, .j, .j, .j, .j, .j, .j, .j, .j, .j, .j, .j, .j, .j, .j, .j, .j, .j, .j, .j, .j, .j, .j, .j, .j, .j, .j, .j, .j, .j, .j, .j, .j, .j, .j, .j, .j, .j, .j, .j, .j, .j, .j, .j, .j, .j, .j, .j, .j, .j, .j, .j, .j, .j, .j], [], 3, []⟩) (ent_ok rfl ?_) ?_
  ·simp [conj, hn]
  refine xg hP 4 [] rfl ?_ ?_
  ·simp [conj, maxL]
   try dsimp only [Ty.den, Ty.dflt]
   try simp only [rd_eta]
   try trivial
  refine sw_seq (xg hP 5 [] rfl ?_ ?_)
  ·simp [conj, maxL]
   try dsimp only [Ty.den, Ty.dflt]
   try simp only [rd_eta]
   try trivial
  refine sw_seq (sw_seq ?_)
  refine sw_ent (st' := ⟨[.j, .j, .j, sInt .i64 n, .v false [.ptr ⟨4, 5, 0⟩ 0], sBool (poolV n), .v false [.ptr ⟨5, 5, 0⟩ 0], sBool (poolV n), .j, .j, .j, .j, .j, .j, .j, .j, .j, .j, .j, .j, .j, .j, .j, .j, .j, .j, .j, .j, .j, .j, .j, .j, .j, .j, .j, .j, .j, .j, .j, .j, .j, .j, .j, .j, .j, .j, .j, .j, .j, .j, .j, .j, .j, .j, .j, .j, .j, .j, .j, .j, .j, .j, .j, .j, .j, .j, .j, .j, .j, .j, .j, .j, .j, .j, .j, .j, .j, .j, .j, .j, .j], [(⟨4, 5, 0⟩, .var [.own ⟨4, 1, 0⟩, .d .bool pF W.1.2.1, .d TI pF W.1.2.2.1.1, .own ⟨4, 1, 64⟩, .d TI pF W.1.2.2.2.1, .own ⟨4, 1, 128⟩, .own ⟨4, 1, 192⟩, .own ⟨4, 1, 256⟩, .own ⟨4, 1, 320⟩, .d .bool pF W.2.2.2.2]), (⟨4, 1, 0⟩, .sl T_Disk (.all .w) W.1.1), (⟨4, 1, 64⟩, .sl T_Vol (.all .w) W.1.2.2.1.2), (⟨4, 1, 128⟩, .sl T_Vol (.all .w) W.1.2.2.2.2), (⟨4, 1, 192⟩, .sl T_Shelf (.all .w) W.2.1), (⟨4, 1, 256⟩, .sl T_Shelf (.all .w) W.2.2.1), (⟨4, 1, 320⟩, .sl T_Shelf (.all .w) W.2.2.2.1), (⟨5, 5, 0⟩, .var [.own ⟨5, 1, 0⟩, .d .bool pF W.1.2.1, .d TI pF W.1.2.2.1.1, .own ⟨5, 1, 64⟩, .d TI pF W.1.2.2.2.1, .own ⟨5, 1, 128⟩, .own ⟨5, 1, 192⟩, .own ⟨5, 1, 256⟩, .own ⟨5, 1, 320⟩, .d .bool pF W.2.2.2.2]), (⟨5, 1, 0⟩, .sl T_Disk (.all .w) W.1.1), (⟨5, 1, 64⟩, .sl T_Vol (.all .w) W.1.2.2.1.2), (⟨5, 1, 128⟩, .sl T_Vol (.all .w) W.1.2.2.2.2), (⟨5, 1, 192⟩, .sl T_Shelf (.all .w) W.2.1), (⟨5, 1, 256⟩, .sl T_Shelf (.all .w) W.2.2.1), (⟨5, 1, 320⟩, .sl T_Shelf (.all .w) W.2.2.2.1)], 5, []⟩) (ent_ok rfl ?_) ?_
  ·simp [conj, hW]
  refine sw_dec hP 6 [] 3 rfl (fun g6_3 => ?_) (fun g6_3 => ?_)
  ·simp at g6_3
  ·refine sw_dec hP 6 [(3, false)] 9 rfl (fun g6_9 => ?_) (fun g6_9 => ?_)
   ·simp at g6_9
   ·refine xg hP 6 [(3, false), (9, false)] rfl ?_ ?_
    ·simp only [cj, cl]
     try dsimp only [Ty.den, Ty.dflt]
     repeat' apply And.intro
     all_goals first | trivial | assumption | omega | exact decide_eq_true ‹_› | exact decide_eq_false ‹_› | (simp [*]; done)
    refine sw_cond rfl (fun c6 => ?_) (fun c6 => ?_)
    ·refine sw_seq ?_
     refine sw_dec hP 7 [] 3 rfl (fun g7_3 => ?_) (fun g7_3 => ?_)
     ·refine xg hP 7 [(3, true)] rfl ?_ ?_
      ·simp only [cj, cl]
       try dsimp only [Ty.den, Ty.dflt]
       repeat' apply And.intro
       all_goals first | trivial | assumption | omega | exact decide_eq_true ‹_› | exact decide_eq_false ‹_› | (simp [*]; done)
      refine sw_ret ⟨.inl rfl, _, rfl, ?_⟩
      simp [conj, hW1, hW2]
     ·simp at g7_3
    ·have hp : poolV n = true := by have h : (!poolV n) = false := c6; simpa using h
     have hnw : NwOk V := hV ▸ newPo_nw hp
     refine sw_skip (sw_seq (xg hP 7 [] rfl ?_ ?_))
     ·simp [conj, maxL]
      try dsimp only [Ty.den, Ty.dflt]
      try simp only [rd_eta]
      try trivial
     refine sw_seq ?_
     refine sw_ent (st' := ⟨[.j, .j, .j, .j, .v false [.ptr ⟨4, 5, 0⟩ 0], .j, .v false [.ptr ⟨5, 5, 0⟩ 0], .j, .v false [.ptr ⟨7, 5, 0⟩ 0], .j, .j, .j, .j, .j, .j, .j, .j, .j, .j, .j, .j, .j, .j, .j, .j, .j, .j, .j, .j, .j, .j, .j, .j, .j, .j, .j, .j, .j, .j, .j, .j, .j, .j, .j, .j, .j, .j, .j, .j, .j, .j, .j, .j, .j, .j, .j, .j, .j, .j, .j, .j, .j, .j, .j, .j, .j, .j, .j, .j, .j, .j, .j, .j, .j, .j, .j, .j, .j, .j, .j, .j], [(⟨5, 5, 0⟩, .var [.own ⟨5, 1, 0⟩, .d .bool pF W.1.2.1, .d TI pF W.1.2.2.1.1, .own ⟨5, 1, 64⟩, .d TI pF W.1.2.2.2.1, .own ⟨5, 1, 128⟩, .own ⟨5, 1, 192⟩, .own ⟨5, 1, 256⟩, .own ⟨5, 1, 320⟩, .d .bool pF W.2.2.2.2]), (⟨5, 1, 0⟩, .sl T_Disk (.all .w) W.1.1), (⟨5, 1, 64⟩, .sl T_Vol (.all .w) W.1.2.2.1.2), (⟨5, 1, 128⟩, .sl T_Vol (.all .w) W.1.2.2.2.2), (⟨5, 1, 192⟩, .sl T_Shelf (.all .w) W.2.1), (⟨5, 1, 256⟩, .sl T_Shelf (.all .w) W.2.2.1), (⟨5, 1, 320⟩, .sl T_Shelf (.all .w) W.2.2.2.1), (⟨7, 5, 0⟩, .var [.own ⟨7, 1, 0⟩, .d .bool pF V.2.1, .d TI pF V.2.2.1.1, .own ⟨7, 1, 64⟩, .d TI pF V.2.2.2.1, .own ⟨7, 1, 128⟩]), (⟨7, 1, 0⟩, .sl T_Disk (.all .w) V.1), (⟨7, 1, 64⟩, .sl T_Vol (.all .w) V.2.2.1.2), (⟨7, 1, 128⟩, .sl T_Vol (.all .w) V.2.2.2.2)], 7, []⟩) (ent_ok rfl ?_) ?_
     ·simp [conj, hV]
     refine sw_dec hP 8 [] 2 rfl (fun g9_2 => ?_) (fun g9_2 => ?_)
     ·refine sw_dec hP 8 [(2, true)] 8 rfl (fun g9_8 => ?_) (fun g9_8 => ?_)
      ·refine sw_dec hP 8 [(2, true), (8, true)] 25 rfl (fun g9_25 => ?_) (fun g9_25 => ?_)
       ·refine xg hP 8 [(2, true), (8, true), (25, true)] rfl ?_ ?_
        ·simp [conj, hW1, hW2]
         exact ⟨⟨hnw, rfl, rfl, rfl⟩, trivial⟩
        refine sw_ret ⟨.inl rfl, _, rfl, ?_⟩
        simp [conj, hW1, hW2]
       ·simp [hW2] at g9_25
      ·simp [hW1] at g9_8
     ·simp at g9_2
end Go.Sx
