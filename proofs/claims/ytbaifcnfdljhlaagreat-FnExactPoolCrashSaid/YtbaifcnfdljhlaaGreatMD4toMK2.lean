/- Several texts, one behind the other. -/
import Derived.Test.YtbaifcnfdljhlaaGreatMOpentoMD3
set_option linter.all false
namespace Go.Sx
open Go
set_option maxRecDepth 100000
set_option linter.unusedVariables false
set_option linter.unusedSimpArgs false
def cPut (st : Int) (t : Drv) (l : List Put) (p : Put) (d c : Id) : Xctr := ⟨141, [(d, ⟨0, 0, 0⟩, .var (drv st t (.chp ⟨0, 0, 1⟩ 0))), (c, ⟨0, 0, 1⟩, .ch true T_Put l)], [], [.v false [.ptr ⟨0, 0, 0⟩ 0], putA_ p], (.tup [], [(⟨0, 0, 0⟩, .var (drv st (putT l t) (.chp ⟨1, 0, 0⟩ 0))), (⟨1, 0, 0⟩, .ch true T_Put (putW l p))])⟩
theorem cPut_ok {st : Int} {t : Drv} {l : List Put} {p : Put} {d c : Id} (hw : l.any badP = false) (hl : l.length ≤ 40) (hs : ¬ st = 1) : XOk Proofs.Tryz.prog (cPut st t l p d c) := by
 have hP := ((Prg.none ttok mtok).andX (cWaits_ok (st := st) (t := t) (d := ⟨0, 0, 0⟩) (c := ⟨0, 0, 1⟩) (Nat.le_trans hl (by decide))))
 refine xctr_of_body hP (cPut st t l p d c) (fn := Proofs.Tryz.f141) (rts := []) Proofs.Tryz.func141 rfl (by kernel_rfl) rfl rfl ?_
 refine ⟨rfl, ?_⟩
 refine sw_seq (xr hP 1 rfl (sw_seq (sw_seq (xr hP 2 rfl (sw_cond rfl (fun c1 => ?_) (fun c1 => ?_))))))
 ·have h : st = 1 := of_decide_eq_true c1
  exact (hs h).elim
 ·refine sw_skip (sw_seq (sw_seq (xg hP 3 [] rfl ?_ ?_)))
  ·simp only [conj, List.nil_append, List.cons_append, List.append_nil, List.append_assoc, inR_i64, true_and, and_true, Int.toNat_natCast]
   try dsimp only [Ty.den, Ty.dflt]
   repeat' apply And.intro
   all_goals first | rfl | omega | assumption | trivial
  refine sw_cond rfl (fun c2 => ?_) (fun c2 => ?_)
  ·replace c2 : l.length = 40 := by have h : ((l.length : Nat) : Int) = 40 := of_decide_eq_true c2; omega
   replace hP := hP.andX (cFlush_ok (st := st) (t := t) (l := l) (d := ⟨0, 0, 0⟩) (c := ⟨0, 0, 1⟩) hw)
   refine xg hP 4 [] rfl ?_ ?_
   ·simp only [conj, List.nil_append, List.cons_append, List.append_nil, List.append_assoc, inR_i64, true_and, and_true, Int.toNat_natCast]
    try dsimp only [Ty.den, Ty.dflt]
    repeat' apply And.intro
    all_goals first | rfl | omega | assumption | trivial
   refine sw_seq (xr hP 5 rfl (sw_seq (sw_block (sw_loop (ι := Nat) (fun i => ⟨[.j, .j, .j, .v false [.ptr ⟨1, 0, 0⟩ 0], .v false [.lnk ⟨0, 0, 0⟩ 27 ⟨0, 9, 0⟩ i 3], .j, .j, .j, .j, .j, .j, .j, .j, .j, .j, .j, .j, .j, .j, .j, .j, .j, .j, .j, .j, .j, .j, .j, .j, .j, .j, .j, .j, .j], [(⟨0, 0, 0⟩, .var (drv st (comes l t) (.chp ⟨0, 9, 0⟩ 0))), (⟨0, 9, 0⟩, .ch true T_Put ([] : List Put)), (⟨1, 0, 0⟩, .var [.d .bool pF p.1, .d TI pF p.2.1, .d .str pF p.2.2])], 5, [[.v false [.ptr ⟨0, 0, 0⟩ 0], .j]]⟩) (fun i => ([] : List Put).length - i) (fun i => i ≤ ([] : List Put).length) 0 ⟨?_, ?_⟩ ?_))))
   ·exact Nat.zero_le _
   ·refine ent_ok rfl ?_
    first | trivial | (simp [conj]; done) | (simp [conj] at *; (try dsimp only [Ty.den, Ty.dflt] at *); omega)
   ·rintro i hi
    refine sw_seq (sw_seq (xg hP 6 [] rfl ?_ ?_))
    ·simp [conj]
     simpa using hi
    refine sw_cond rfl (fun c5 => ?_) (fun c5 => ?_)
    ·have hlt : i < ([] : List Put).length := by simp at c5; exact absurd c5 (by simp at hi; omega)
     refine sw_skip (sw_block (xg hP 7 [] rfl ?_ ?_))
     ·simp [conj]
      first | exact ⟨hi, hlt⟩ | exact hlt | (simpa using hlt)
     refine ⟨i + 1, ?_, ?_, ent_ok rfl ?_⟩
     ·exact hlt
     ·omega
     ·simp [conj]
    ·have hie : i = ([] : List Put).length := by simp at c5 ⊢; omega
     refine sw_exit (xg hP 7 [] rfl ?_ ?_)
     ·simp [conj]
      simpa using hie
     refine ⟨.inr rfl, _, rfl, ?_⟩
     simp [conj, putT_full c2, putW_full c2]
  ·replace c2 : ¬ l.length = 40 := by have h : ¬ ((l.length : Nat) : Int) = 40 := of_decide_eq_false c2; omega
   refine sw_skip (sw_seq (xr hP 4 rfl (sw_seq (sw_block (sw_loop (ι := Nat) (fun i => ⟨[.j, .j, .j, .v false [.ptr ⟨1, 0, 0⟩ 0], .v false [.lnk ⟨0, 0, 0⟩ 27 ⟨0, 9, 0⟩ i 3], .j, .j, .j, .j, .j, .j, .j, .j, .j, .j, .j, .j, .j, .j, .j, .j, .j, .j, .j, .j, .j, .j, .j, .j, .j, .j, .j, .j, .j], [(⟨0, 0, 0⟩, .var (drv st t (.chp ⟨0, 9, 0⟩ 0))), (⟨0, 9, 0⟩, .ch true T_Put l), (⟨1, 0, 0⟩, .var [.d .bool pF p.1, .d TI pF p.2.1, .d .str pF p.2.2])], 4, [[.v false [.ptr ⟨0, 0, 0⟩ 0], .j]]⟩) (fun i => l.length - i) (fun i => i ≤ l.length) 0 ⟨?_, ?_⟩ ?_)))))
   ·exact Nat.zero_le _
   ·refine ent_ok rfl ?_
    first | trivial | (simp [conj]; done) | (simp [conj] at *; (try dsimp only [Ty.den, Ty.dflt] at *); omega)
   ·rintro i hi
    refine sw_seq (sw_seq (xg hP 5 [] rfl ?_ ?_))
    ·simp [conj]
     simpa using hi
    refine sw_cond rfl (fun c5 => ?_) (fun c5 => ?_)
    ·have hlt : i < l.length := by simp at c5; omega
     refine sw_skip (sw_block (xg hP 6 [] rfl ?_ ?_))
     ·simp [conj]
      first | exact ⟨hi, hlt⟩ | exact hlt | (simpa using hlt)
     refine ⟨i + 1, ?_, ?_, ent_ok rfl ?_⟩
     ·exact hlt
     ·omega
     ·simp [conj]
    ·have hie : i = l.length := by simp at c5 ⊢; omega
     refine sw_exit (xg hP 6 [] rfl ?_ ?_)
     ·simp [conj]
      simpa using hie
     refine ⟨.inr rfl, _, rfl, ?_⟩
     simp [conj, putT_room c2, putW_room c2]
def cPutG (st : Int) (t : Drv) (l : List Put) (p : Put) (d c : Id) : Xctr := ⟨141, [(d, ⟨0, 0, 0⟩, .var (drv st t (.chp ⟨0, 0, 1⟩ 0))), (c, ⟨0, 0, 1⟩, .ch true T_Put l)], [], [.v false [.ptr ⟨0, 0, 0⟩ 0], putA_ p], (.tup [], [(⟨0, 0, 0⟩, .var (drv st t (.chp ⟨1, 0, 0⟩ 0))), (⟨1, 0, 0⟩, .ch true T_Put l)])⟩
theorem cPutG_ok {st : Int} {t : Drv} {l : List Put} {p : Put} {d c : Id} (hw : l.any badP = false) (hl : l.length ≤ 40) (hs : st = 1) : XOk Proofs.Tryz.prog (cPutG st t l p d c) := by
 have hP := ((Prg.none ttok mtok).andX (cWaits_ok (st := st) (t := t) (d := ⟨0, 0, 0⟩) (c := ⟨0, 0, 1⟩) (Nat.le_trans hl (by decide))))
 refine xctr_of_body hP (cPutG st t l p d c) (fn := Proofs.Tryz.f141) (rts := []) Proofs.Tryz.func141 rfl (by kernel_rfl) rfl rfl ?_
 refine ⟨rfl, ?_⟩
 refine sw_seq (xr hP 1 rfl (sw_seq (sw_seq (xr hP 2 rfl (sw_cond rfl (fun c1 => ?_) (fun c1 => ?_))))))
 ·refine sw_ret ⟨.inl rfl, _, rfl, ?_⟩
  simp [conj]
 ·have h : ¬ st = 1 := of_decide_eq_false c1
  exact (h hs).elim
def cSeen (st : Int) (t : Drv) (l : List Put) (at_ : Int) (d c : Id) : Xctr := ⟨51, [], [(d, ⟨0, 0, 0⟩, .lvar (drv st t (.chp ⟨0, 0, 1⟩ 0))), (c, ⟨0, 0, 1⟩, .ch false T_Put l)], [.v false [.ptr ⟨0, 0, 0⟩ 0], sInt .i64 at_], (sStr (seenV t l at_), [])⟩
theorem cSeen_ok {st : Int} {t : Drv} {l : List Put} {at_ : Int} {d c : Id} (hl : l.length ≤ 40) (h0 : 0 ≤ at_) (h1 : at_ < 12) : XOk Proofs.Tryz.prog (cSeen st t l at_ d c) := by
 have hP := ((Prg.none ttok mtok).andX (cWaits_ok (st := st) (t := t) (d := ⟨0, 0, 0⟩) (c := ⟨0, 0, 1⟩) (Nat.le_trans hl (by decide))))
 refine xctr_of_body hP (cSeen st t l at_ d c) (fn := Proofs.Tryz.f51) (rts := [.tmp 4]) Proofs.Tryz.func51 rfl (by kernel_rfl) rfl rfl ?_
 refine ⟨rfl, ?_⟩
 refine sw_seq (xr hP 1 rfl (sw_seq (xg hP 2 [] rfl ?_ ?_)))
 ·simp only [conj, List.nil_append, List.cons_append, List.append_nil, List.append_assoc, inR_i64, true_and, and_true, Int.toNat_natCast]
  try dsimp only [Ty.den, Ty.dflt]
  repeat' apply And.intro
  all_goals first | rfl | omega | assumption | trivial
 refine sw_seq (sw_seq (xg hP 3 [] rfl ?_ ?_))
 ·simp only [conj, List.nil_append, List.cons_append, List.append_nil, List.append_assoc, inR_i64, true_and, and_true, Int.toNat_natCast]
  try dsimp only [Ty.den, Ty.dflt]
  repeat' apply And.intro
  all_goals first | rfl | omega | assumption | trivial
 refine sw_block (sw_loop (ι := Nat × Str) (fun ⟨i, s⟩ => ⟨[.v false [.ptr ⟨0, 0, 0⟩ 0], sInt .i64 at_, .j, .j, .j, sStr s, .j, .j, .j, .j, .j, .j, .j, .j, .j, .v false [.own ⟨0, 9, 0⟩], sInt .i64 (l.length : Int), sInt .i64 (i : Int), .j, .j, .j, .j, .j, .j, .j, .j, .j, .j, .j, .j, .j, .j, .j, .j], [(⟨0, 0, 0⟩, .lvar (drv st t (.chp ⟨0, 0, 1⟩ 0))), (⟨0, 0, 1⟩, .ch false T_Put l), (⟨0, 9, 0⟩, .sl T_Put (.all .w) l)], 3, [[.v false [.ptr ⟨0, 0, 0⟩ 0], .j]]⟩) (fun ⟨i, s⟩ => l.length - i) (fun ⟨i, s⟩ => i ≤ l.length ∧ seenGo at_ (l.drop i) s = seenV t l at_) (0, t.1.getD at_.toNat []) ⟨?_, ?_⟩ ?_)
 ·exact ⟨Nat.zero_le _, rfl⟩
 ·refine ent_ok rfl ?_
  first | trivial | (simp [conj]; done) | (simp [conj] at *; (try dsimp only [Ty.den, Ty.dflt] at *); omega)
 ·rintro ⟨i, s⟩ ⟨hi, hgo⟩
  refine sw_seq (xr hP 4 rfl (sw_seq (sw_cond rfl (fun c3 => ?_) (fun c3 => ?_))))
  ·have hlt : i < l.length := by simpa using c3
   refine sw_skip (sw_seq (sw_block (sw_seq (xg hP 5 [] rfl ?_ ?_))))
   ·simp only [conj, List.nil_append, List.cons_append, List.append_nil, List.append_assoc, inR_i64, true_and, and_true, Int.toNat_natCast]
    try dsimp only [Ty.den, Ty.dflt]
    repeat' apply And.intro
    all_goals first | rfl | omega | assumption | trivial
   refine sw_seq ?_
   refine sw_dec hP 6 [] 3 rfl (fun g5_3 => ?_) (fun g5_3 => ?_)
   ·replace g5_3 : l[i].1 = false := by simpa [gE hlt] using g5_3
    refine xg hP 6 [(3, true)] rfl ?_ ?_
    ·simp [conj, gE hlt]
     try assumption
     try (simpa using g5_3)
    refine sw_cond rfl (fun c5 => ?_) (fun c5 => ?_)
    ·replace c5 : l[i].2.1 = at_ := by simpa [gE hlt] using c5
     have hn := seen_next hlt hgo
     rw [if_pos ⟨g5_3, c5⟩] at hn
     refine xr hP 7 rfl (xr hP 8 rfl (⟨(i + 1, l[i].2.2), ?_, ?_, ent_ok rfl ?_⟩))
     ·exact ⟨hlt, hn⟩
     ·show l.length - (i + 1) < l.length - i
      omega
     ·simp [conj, gE hlt]
    ·replace c5 : ¬ l[i].2.1 = at_ := by simpa [gE hlt] using c5
     have hn := seen_next hlt hgo
     rw [if_neg (fun h => c5 h.2)] at hn
     refine sw_skip (xr hP 7 rfl (⟨(i + 1, s), ?_, ?_, ent_ok rfl ?_⟩))
     ·exact ⟨hlt, hn⟩
     ·show l.length - (i + 1) < l.length - i
      omega
     ·simp [conj, gE hlt]
   ·replace g5_3 : ¬ l[i].1 = false := by simpa [gE hlt] using g5_3
    have hn := seen_next hlt hgo
    rw [if_neg (fun h => g5_3 h.1)] at hn
    refine xg hP 6 [(3, false)] rfl ?_ ?_
    ·simp [conj, gE hlt]
     try assumption
     try (simpa using g5_3)
    refine sw_condF rfl (sw_skip (xr hP 7 rfl (⟨(i + 1, s), ?_, ?_, ent_ok rfl ?_⟩)))
    ·exact ⟨hlt, hn⟩
    ·show l.length - (i + 1) < l.length - i
     omega
    ·simp [conj, gE hlt]
  ·obtain rfl : i = l.length := by simp at c3; omega
   refine sw_exit (sw_seq (xr hP 5 rfl (sw_ret ⟨.inl rfl, _, rfl, ?_⟩)))
   have hv := seen_end hgo
   subst hv
   simp [conj]
def cClCrash (st : Int) (t : Drv) (l : List Put) (keep : Int) (d c : Id) : Xctr := ⟨123, [(d, ⟨0, 0, 0⟩, .var (drv st t (.chp ⟨0, 0, 1⟩ 0))), (c, ⟨0, 0, 1⟩, .ch true T_Put l)], [], [.v false [.ptr ⟨0, 0, 0⟩ 0], .v false [.rpt .b TI pF keep]],
  (.v false [.kb true], [(⟨0, 0, 0⟩, .var (drv st (comes (keepB keep.toNat l) t) (.chp ⟨1, 0, 0⟩ 0))), (⟨1, 0, 0⟩, .ch true T_Put [])])⟩
theorem cClCrash_ok {st : Int} {t : Drv} {l : List Put} {keep : Int} {d c : Id} (hw : l.any badP = false) (hl : l.length ≤ 40) (h0 : 0 ≤ keep) (h1 : keep ≤ 9223372036854775807) : XOk Proofs.Tryz.prog (cClCrash st t l keep d c) := by
 have hP := ((Prg.none ttok mtok).andX (cCrash_ok (st := st) (t := t) (d := ⟨0, 0, 0⟩) (c := ⟨0, 0, 1⟩) hw hl h0 h1))
 refine xctr_of_body hP (cClCrash st t l keep d c) (fn := Proofs.Tryz.f123) (rts := [.tmp 3]) Proofs.Tryz.func123 rfl (by kernel_rfl) rfl rfl ?_
 refine ⟨rfl, ?_⟩
 refine sw_seq (xr hP 1 rfl (sw_seq (sw_seq (xr hP 2 rfl (sw_cond rfl (fun c1 => ?_) (fun c1 => ?_))))))
 ·have h : keep < 0 := of_decide_eq_true c1
  omega
 ·refine sw_skip (sw_seq (xg hP 3 [] rfl ?_ ?_))
  ·simp only [conj, List.nil_append, List.cons_append, List.append_nil, List.append_assoc, inR_i64, true_and, and_true, Int.toNat_natCast]
   try dsimp only [Ty.den, Ty.dflt]
   repeat' apply And.intro
   all_goals first | rfl | omega | assumption | trivial
  refine sw_seq (xr hP 4 rfl (sw_ret ⟨.inl rfl, _, rfl, ?_⟩))
  simp [conj]
def cClCrashN (st : Int) (t : Drv) (l : List Put) (keep : Int) (d c : Id) : Xctr := ⟨123, [(d, ⟨0, 0, 0⟩, .var (drv st t (.chp ⟨0, 0, 1⟩ 0))), (c, ⟨0, 0, 1⟩, .ch true T_Put l)], [], [.v false [.ptr ⟨0, 0, 0⟩ 0], .v false [.rpt .b TI pF keep]],
  (.v false [.kb false], [(⟨0, 0, 0⟩, .var (drv st t (.chp ⟨1, 0, 0⟩ 0))), (⟨1, 0, 0⟩, .ch true T_Put l)])⟩
theorem cClCrashN_ok {st : Int} {t : Drv} {l : List Put} {keep : Int} {d c : Id} (hn : ¬ 0 ≤ keep) : XOk Proofs.Tryz.prog (cClCrashN st t l keep d c) := by
 have hP := (Prg.none ttok mtok)
 refine xctr_of_body hP (cClCrashN st t l keep d c) (fn := Proofs.Tryz.f123) (rts := [.tmp 3]) Proofs.Tryz.func123 rfl (by kernel_rfl) rfl rfl ?_
 refine ⟨rfl, ?_⟩
 refine sw_seq (xr hP 1 rfl (sw_seq (sw_seq (xr hP 2 rfl (sw_cond rfl (fun c1 => ?_) (fun c1 => ?_))))))
 ·refine sw_seq (xr hP 3 rfl (sw_ret ⟨.inl rfl, _, rfl, ?_⟩))
  simp [conj]
 ·have h : ¬ keep < 0 := of_decide_eq_false c1
  omega
def cClPut (st : Int) (t : Drv) (l : List Put) (p : Put) (d c : Id) : Xctr := ⟨140, [(d, ⟨0, 0, 0⟩, .var (drv st t (.chp ⟨0, 0, 1⟩ 0))), (c, ⟨0, 0, 1⟩, .ch true T_Put l)], [], [.v false [.ptr ⟨0, 0, 0⟩ 0], .v false [.rpt .b T_Put pF p]],
  (.v false [.kb true], [(⟨0, 0, 0⟩, .var (drv st (putU st l t) (.chp ⟨1, 0, 0⟩ 0))), (⟨1, 0, 0⟩, .ch true T_Put (putM st l p))])⟩
theorem cClPut_ok {st : Int} {t : Drv} {l : List Put} {p : Put} {d c : Id} (hw : l.any badP = false) (hl : l.length ≤ 40) (hp : putV p = true) : XOk Proofs.Tryz.prog (cClPut st t l p d c) := by
 have hP := ((Prg.none ttok mtok).and cPutOk_ok)
 refine xctr_of_body hP (cClPut st t l p d c) (fn := Proofs.Tryz.f140) (rts := [.tmp 3]) Proofs.Tryz.func140 rfl (by kernel_rfl) rfl rfl ?_
 refine ⟨rfl, ?_⟩
 by_cases hs : st = 1
 ·replace hP := hP.andX (cPutG_ok (st := st) (t := t) (p := p) (d := ⟨0, 0, 0⟩) (c := ⟨0, 0, 1⟩) hw hl hs)
  refine sw_seq (xr hP 1 rfl (sw_seq (sw_seq (xg hP 2 [] rfl ?_ ?_))))
  ·simp [conj, maxL]
   try dsimp only [Ty.den, Ty.dflt]
   try simp only [rd_eta]
   repeat' apply And.intro
   all_goals first | rfl | assumption | omega | trivial
  refine sw_cond rfl (fun c1 => ?_) (fun c1 => ?_)
  ·have h : (!putV p) = true := c1
   rw [hp] at h
   cases h
  ·refine sw_skip (sw_seq (xg hP 3 [] rfl ?_ ?_))
   ·simp only [conj, List.nil_append, List.cons_append, List.append_nil, List.append_assoc, inR_i64, true_and, and_true, Int.toNat_natCast]
    try dsimp only [Ty.den, Ty.dflt]
    repeat' apply And.intro
    all_goals first | rfl | omega | assumption | trivial
   refine sw_seq (xr hP 4 rfl (sw_ret ⟨.inl rfl, _, rfl, ?_⟩))
   simp [conj, putU_gone hs, putM_gone hs]
 ·replace hP := hP.andX (cPut_ok (st := st) (t := t) (p := p) (d := ⟨0, 0, 0⟩) (c := ⟨0, 0, 1⟩) hw hl hs)
  refine sw_seq (xr hP 1 rfl (sw_seq (sw_seq (xg hP 2 [] rfl ?_ ?_))))
  ·simp [conj, maxL]
   try dsimp only [Ty.den, Ty.dflt]
   try simp only [rd_eta]
   repeat' apply And.intro
   all_goals first | rfl | assumption | omega | trivial
  refine sw_cond rfl (fun c1 => ?_) (fun c1 => ?_)
  ·have h : (!putV p) = true := c1
   rw [hp] at h
   cases h
  ·refine sw_skip (sw_seq (xg hP 3 [] rfl ?_ ?_))
   ·simp only [conj, List.nil_append, List.cons_append, List.append_nil, List.append_assoc, inR_i64, true_and, and_true, Int.toNat_natCast]
    try dsimp only [Ty.den, Ty.dflt]
    repeat' apply And.intro
    all_goals first | rfl | omega | assumption | trivial
   refine sw_seq (xr hP 4 rfl (sw_ret ⟨.inl rfl, _, rfl, ?_⟩))
   simp [conj, putU_live hs, putM_live hs]
def cClPutN (st : Int) (t : Drv) (l : List Put) (p : Put) (d c : Id) : Xctr := ⟨140, [(d, ⟨0, 0, 0⟩, .var (drv st t (.chp ⟨0, 0, 1⟩ 0))), (c, ⟨0, 0, 1⟩, .ch true T_Put l)], [], [.v false [.ptr ⟨0, 0, 0⟩ 0], .v false [.rpt .b T_Put pF p]],
  (.v false [.kb false], [(⟨0, 0, 0⟩, .var (drv st t (.chp ⟨1, 0, 0⟩ 0))), (⟨1, 0, 0⟩, .ch true T_Put l)])⟩
theorem cClPutN_ok {st : Int} {t : Drv} {l : List Put} {p : Put} {d c : Id} (hn : ¬ putV p = true) : XOk Proofs.Tryz.prog (cClPutN st t l p d c) := by
 have hP := ((Prg.none ttok mtok).and cPutOk_ok)
 refine xctr_of_body hP (cClPutN st t l p d c) (fn := Proofs.Tryz.f140) (rts := [.tmp 3]) Proofs.Tryz.func140 rfl (by kernel_rfl) rfl rfl ?_
 refine ⟨rfl, ?_⟩
 refine sw_seq (xr hP 1 rfl (sw_seq (sw_seq (xg hP 2 [] rfl ?_ ?_))))
 ·simp [conj, maxL]
  try dsimp only [Ty.den, Ty.dflt]
  try simp only [rd_eta]
  repeat' apply And.intro
  all_goals first | rfl | assumption | omega | trivial
 refine sw_cond rfl (fun c1 => ?_) (fun c1 => ?_)
 ·refine sw_seq (xr hP 3 rfl (sw_ret ⟨.inl rfl, _, rfl, ?_⟩))
  simp [conj]
 ·have h : (!putV p) = false := c1
  exact (hn (by simpa using h)).elim
end Go.Sx

namespace Go.Sx
open Go
set_option maxRecDepth 100000
set_option linter.unusedVariables false
set_option linter.unusedSimpArgs false
def cChgCrash : Ctr := ⟨122, [.val true T_Disk (.all .b), .clo 123 [(false, TI, pF)]], fun _ => True, fun x => (.v true [.d TI pF (crashV x.1 x.2.1.1).1, .own ⟨1, 0, 0⟩, .own ⟨1, 1, 0⟩, .own ⟨1, 2, 0⟩, .own ⟨1, 3, 0⟩], [(⟨1, 0, 0⟩, .sl .str (.all .w) (crashV x.1 x.2.1.1).2.1), (⟨1, 1, 0⟩, .sl .str (.all .w) (crashV x.1 x.2.1.1).2.2.1), (⟨1, 2, 0⟩, .sl .bool (.all .w) (crashV x.1 x.2.1.1).2.2.2.1), (⟨1, 3, 0⟩, .sl T_Put (.all .w) (crashV x.1 x.2.1.1).2.2.2.2)])⟩
theorem cChgCrash_ok : CtrOk Proofs.Tryz.prog cChgCrash := by
 have hP := (Prg.none ttok mtok)
 refine ctr_of_body hP cChgCrash (fn := Proofs.Tryz.f122) (rts := [.cell 4 38]) Proofs.Tryz.func122 rfl (by kernel_rfl) rfl rfl ?_
 rintro ⟨⟨(st : Int), (sl : List Str), (rg : List Str), (sp : List Bool), (wt : List Put)⟩, ⟨(keep : Int), ⟨⟩⟩, ⟨⟩⟩ ⟨_, ⟨hk, _⟩, _⟩ _
 try dsimp only [Ty.den, Mode.den, mdens] at _
 refine ⟨rfl, ?_⟩
 have hkm : keep ≤ 9223372036854775807 := (inR_i64.1 hk).2
 by_cases h1 : rdV ((st, sl, rg, sp, wt) : Dsk) = true
 ·have hP := ((Prg.none ttok mtok).and cRead_ok)
  obtain ⟨hsh, hwb, hsb, hrb, hgb⟩ := rd_parts h1
  dsimp only at hwb hsb hrb
  obtain ⟨hst, h12, h2b, h12b, h40⟩ := shaped_iff hsh
  dsimp only at hst h12 h2b h12b h40
  have hok : Drv.ok (sl, rg, sp) := drv_ok hsh
  by_cases h2 : 0 ≤ keep
  ·replace hP := hP.andX (cClCrash_ok (st := st) (t := (sl, rg, sp)) (l := wt) (d := ⟨2, 1, 0⟩) (c := ⟨2, 1, 64⟩) hwb h40 h2 hkm)
   replace hP := hP.andX (cDisk_ok (st := st) (t := (comes (keepB keep.toNat wt) (sl, rg, sp))) (l := []) (d := ⟨2, 1, 0⟩) (c := ⟨3, 5, 0⟩) (Nat.zero_le _) (comes_ok hok))
   have hv := crashV_ok h1 h2
   refine sw_seq (xr hP 1 rfl (sw_seq (xg hP 2 [] rfl ?_ ?_)))
   ·simp [conj, maxL]
    try dsimp only [Ty.den, Ty.dflt]
    try simp only [rd_eta]
    exact h1
   refine sw_seq (sw_seq (xg hP 3 [] rfl ?_ ?_))
   ·simp only [conj, List.nil_append, List.cons_append, List.append_nil, List.append_assoc, inR_i64, true_and, and_true, Int.toNat_natCast]
    try dsimp only [Ty.den, Ty.dflt]
    repeat' apply And.intro
    all_goals first | rfl | omega | assumption | trivial
   refine sw_cond rfl (fun c2 => ?_) (fun c2 => ?_)
   ·cases c2
   ·refine sw_skip (sw_seq (xg hP 4 [] rfl ?_ ?_))
    ·simp only [conj, List.nil_append, List.cons_append, List.append_nil, List.append_assoc, inR_i64, true_and, and_true, Int.toNat_natCast]
     try dsimp only [Ty.den, Ty.dflt]
     repeat' apply And.intro
     all_goals first | rfl | omega | assumption | trivial
    refine sw_ret ⟨.inl rfl, _, rfl, ?_⟩
    simp [conj, hv, zeroD, dskOf, drvOf]
  ·replace hP := hP.andX (cClCrashN_ok (st := st) (t := (sl, rg, sp)) (l := wt) (d := ⟨2, 1, 0⟩) (c := ⟨2, 1, 64⟩) h2)
   have hv : crashV ((st, sl, rg, sp, wt) : Dsk) keep = zeroD := crashV_neg h2
   refine sw_seq (xr hP 1 rfl (sw_seq (xg hP 2 [] rfl ?_ ?_)))
   ·simp [conj, maxL]
    try dsimp only [Ty.den, Ty.dflt]
    try simp only [rd_eta]
    exact h1
   refine sw_seq (sw_seq (xg hP 3 [] rfl ?_ ?_))
   ·simp only [conj, List.nil_append, List.cons_append, List.append_nil, List.append_assoc, inR_i64, true_and, and_true, Int.toNat_natCast]
    try dsimp only [Ty.den, Ty.dflt]
    repeat' apply And.intro
    all_goals first | rfl | omega | assumption | trivial
   refine sw_cond rfl (fun c2 => ?_) (fun c2 => ?_)
   ·refine sw_seq (xr hP 4 rfl (sw_ret ⟨.inl rfl, _, rfl, ?_⟩))
    simp [conj, hv, zeroD, dskOf, drvOf]
   ·cases c2
 ·have hP := ((Prg.none ttok mtok).and cReadB_ok)
  have h1b : rdV ((st, sl, rg, sp, wt) : Dsk) = false := by simpa using h1
  have hv : crashV ((st, sl, rg, sp, wt) : Dsk) keep = zeroD := crashV_bad h1
  refine sw_seq (xr hP 1 rfl (sw_seq (xg hP 2 [] rfl ?_ ?_)))
  ·simp [conj, maxL]
   try dsimp only [Ty.den, Ty.dflt]
   try simp only [rd_eta]
   exact h1b
  refine sw_seq (sw_seq (xg hP 3 [] rfl ?_ ?_))
  ·simp only [conj, List.nil_append, List.cons_append, List.append_nil, List.append_assoc, inR_i64, true_and, and_true, Int.toNat_natCast]
   try dsimp only [Ty.den, Ty.dflt]
   repeat' apply And.intro
   all_goals first | rfl | omega | assumption | trivial
  refine sw_condT rfl (sw_seq (xr hP 4 rfl (sw_ret ⟨.inl rfl, _, rfl, ?_⟩)))
  simp [conj, hv, zeroD, dskOf, drvOf]
def cDCrash : Ctr := ⟨70, [.val true T_Disk (.all .b), .val false TI pF], fun _ => True, fun x => (.v true [.d TI pF (crashV x.1 x.2.1).1, .own ⟨1, 0, 0⟩, .own ⟨1, 1, 0⟩, .own ⟨1, 2, 0⟩, .own ⟨1, 3, 0⟩], [(⟨1, 0, 0⟩, .sl .str (.all .w) (crashV x.1 x.2.1).2.1), (⟨1, 1, 0⟩, .sl .str (.all .w) (crashV x.1 x.2.1).2.2.1), (⟨1, 2, 0⟩, .sl .bool (.all .w) (crashV x.1 x.2.1).2.2.2.1), (⟨1, 3, 0⟩, .sl T_Put (.all .w) (crashV x.1 x.2.1).2.2.2.2)])⟩
theorem cDCrash_ok : CtrOk Proofs.Tryz.prog cDCrash := by
 have hP := ((Prg.none ttok mtok).and cChgCrash_ok)
 refine ctr_of_body hP cDCrash (fn := Proofs.Tryz.f70) (rts := [.cell 4 38]) Proofs.Tryz.func70 rfl (by kernel_rfl) rfl rfl ?_
 rintro ⟨⟨(st : Int), (sl : List Str), (rg : List Str), (sp : List Bool), (wt : List Put)⟩, (keep : Int), ⟨⟩⟩ _ hpre
 try dsimp only [Ty.den, Mode.den, mdens] at hpre
 refine ⟨rfl, ?_⟩
 refine sw_seq (xr hP 1 rfl (sw_seq (xg hP 2 [] rfl ?_ ?_)))
 ·simp [conj, maxL]
  try dsimp only [Ty.den, Ty.dflt]
  try simp only [rd_eta]
  trivial
 refine sw_ret ⟨.inl rfl, _, rfl, ?_⟩
 simp [conj]
def cChgPut : Ctr := ⟨122, [.val true T_Disk (.all .b), .clo 140 [(false, T_Put, pF)]], fun _ => True, fun x => (.v true [.d TI pF (putD x.1 x.2.1.1).1, .own ⟨1, 0, 0⟩, .own ⟨1, 1, 0⟩, .own ⟨1, 2, 0⟩, .own ⟨1, 3, 0⟩], [(⟨1, 0, 0⟩, .sl .str (.all .w) (putD x.1 x.2.1.1).2.1), (⟨1, 1, 0⟩, .sl .str (.all .w) (putD x.1 x.2.1.1).2.2.1), (⟨1, 2, 0⟩, .sl .bool (.all .w) (putD x.1 x.2.1.1).2.2.2.1), (⟨1, 3, 0⟩, .sl T_Put (.all .w) (putD x.1 x.2.1.1).2.2.2.2)])⟩
theorem cChgPut_ok : CtrOk Proofs.Tryz.prog cChgPut := by
 have hP := (Prg.none ttok mtok)
 refine ctr_of_body hP cChgPut (fn := Proofs.Tryz.f122) (rts := [.cell 4 38]) Proofs.Tryz.func122 rfl (by kernel_rfl) rfl rfl ?_
 rintro ⟨⟨(st : Int), (sl : List Str), (rg : List Str), (sp : List Bool), (wt : List Put)⟩, ⟨(p : Put), ⟨⟩⟩, ⟨⟩⟩ ⟨_, ⟨hk, _⟩, _⟩ _
 try dsimp only [Ty.den, Mode.den, mdens] at _
 refine ⟨rfl, ?_⟩
 by_cases h1 : rdV ((st, sl, rg, sp, wt) : Dsk) = true
 ·have hP := ((Prg.none ttok mtok).and cRead_ok)
  obtain ⟨hsh, hwb, hsb, hrb, hgb⟩ := rd_parts h1
  dsimp only at hwb hsb hrb
  obtain ⟨hst, h12, h2b, h12b, h40⟩ := shaped_iff hsh
  dsimp only at hst h12 h2b h12b h40
  have hok : Drv.ok (sl, rg, sp) := drv_ok hsh
  by_cases h2 : putV p = true
  ·replace hP := hP.andX (cClPut_ok (st := st) (t := (sl, rg, sp)) (l := wt) (d := ⟨2, 1, 0⟩) (c := ⟨2, 1, 64⟩) hwb h40 h2)
   replace hP := hP.andX (cDisk_ok (st := st) (t := (putU st wt (sl, rg, sp))) (l := (putM st wt p)) (d := ⟨2, 1, 0⟩) (c := ⟨3, 5, 0⟩) (Nat.le_trans (putM_len h40) (by decide)) (putU_ok hok))
   have hv := putD_ok h1 h2
   refine sw_seq (xr hP 1 rfl (sw_seq (xg hP 2 [] rfl ?_ ?_)))
   ·simp [conj, maxL]
    try dsimp only [Ty.den, Ty.dflt]
    try simp only [rd_eta]
    exact h1
   refine sw_seq (sw_seq (xg hP 3 [] rfl ?_ ?_))
   ·simp only [conj, List.nil_append, List.cons_append, List.append_nil, List.append_assoc, inR_i64, true_and, and_true, Int.toNat_natCast]
    try dsimp only [Ty.den, Ty.dflt]
    repeat' apply And.intro
    all_goals first | rfl | omega | assumption | trivial
   refine sw_cond rfl (fun c2 => ?_) (fun c2 => ?_)
   ·cases c2
   ·refine sw_skip (sw_seq (xg hP 4 [] rfl ?_ ?_))
    ·simp only [conj, List.nil_append, List.cons_append, List.append_nil, List.append_assoc, inR_i64, true_and, and_true, Int.toNat_natCast]
     try dsimp only [Ty.den, Ty.dflt]
     repeat' apply And.intro
     all_goals first | rfl | omega | assumption | trivial
    refine sw_ret ⟨.inl rfl, _, rfl, ?_⟩
    simp [conj, hv, zeroD, dskOf, drvOf]
  ·replace hP := hP.andX (cClPutN_ok (st := st) (t := (sl, rg, sp)) (l := wt) (d := ⟨2, 1, 0⟩) (c := ⟨2, 1, 64⟩) h2)
   have hv : putD ((st, sl, rg, sp, wt) : Dsk) p = zeroD := putD_no h2
   refine sw_seq (xr hP 1 rfl (sw_seq (xg hP 2 [] rfl ?_ ?_)))
   ·simp [conj, maxL]
    try dsimp only [Ty.den, Ty.dflt]
    try simp only [rd_eta]
    exact h1
   refine sw_seq (sw_seq (xg hP 3 [] rfl ?_ ?_))
   ·simp only [conj, List.nil_append, List.cons_append, List.append_nil, List.append_assoc, inR_i64, true_and, and_true, Int.toNat_natCast]
    try dsimp only [Ty.den, Ty.dflt]
    repeat' apply And.intro
    all_goals first | rfl | omega | assumption | trivial
   refine sw_cond rfl (fun c2 => ?_) (fun c2 => ?_)
   ·refine sw_seq (xr hP 4 rfl (sw_ret ⟨.inl rfl, _, rfl, ?_⟩))
    simp [conj, hv, zeroD, dskOf, drvOf]
   ·cases c2
 ·have hP := ((Prg.none ttok mtok).and cReadB_ok)
  have h1b : rdV ((st, sl, rg, sp, wt) : Dsk) = false := by simpa using h1
  have hv : putD ((st, sl, rg, sp, wt) : Dsk) p = zeroD := putD_bad h1
  refine sw_seq (xr hP 1 rfl (sw_seq (xg hP 2 [] rfl ?_ ?_)))
  ·simp [conj, maxL]
   try dsimp only [Ty.den, Ty.dflt]
   try simp only [rd_eta]
   exact h1b
  refine sw_seq (sw_seq (xg hP 3 [] rfl ?_ ?_))
  ·simp only [conj, List.nil_append, List.cons_append, List.append_nil, List.append_assoc, inR_i64, true_and, and_true, Int.toNat_natCast]
   try dsimp only [Ty.den, Ty.dflt]
   repeat' apply And.intro
   all_goals first | rfl | omega | assumption | trivial
  refine sw_condT rfl (sw_seq (xr hP 4 rfl (sw_ret ⟨.inl rfl, _, rfl, ?_⟩)))
  simp [conj, hv, zeroD, dskOf, drvOf]
def cDPut : Ctr := ⟨88, [.val true T_Disk (.all .b), .val true T_Put pF], fun _ => True, fun x => (.v true [.d TI pF (putD x.1 x.2.1).1, .own ⟨1, 0, 0⟩, .own ⟨1, 1, 0⟩, .own ⟨1, 2, 0⟩, .own ⟨1, 3, 0⟩], [(⟨1, 0, 0⟩, .sl .str (.all .w) (putD x.1 x.2.1).2.1), (⟨1, 1, 0⟩, .sl .str (.all .w) (putD x.1 x.2.1).2.2.1), (⟨1, 2, 0⟩, .sl .bool (.all .w) (putD x.1 x.2.1).2.2.2.1), (⟨1, 3, 0⟩, .sl T_Put (.all .w) (putD x.1 x.2.1).2.2.2.2)])⟩
theorem cDPut_ok : CtrOk Proofs.Tryz.prog cDPut := by
 have hP := ((Prg.none ttok mtok).and cChgPut_ok)
 refine ctr_of_body hP cDPut (fn := Proofs.Tryz.f88) (rts := [.cell 4 38]) Proofs.Tryz.func88 rfl (by kernel_rfl) rfl rfl ?_
 rintro ⟨⟨(st : Int), (sl : List Str), (rg : List Str), (sp : List Bool), (wt : List Put)⟩, ⟨(rn : Bool), (at_ : Int), (tx : Str)⟩, ⟨⟩⟩ _ hpre
 try dsimp only [Ty.den, Mode.den, mdens] at hpre
 refine ⟨rfl, ?_⟩
 refine sw_seq (xr hP 1 rfl (sw_seq (xg hP 2 [] rfl ?_ ?_)))
 ·simp [conj, maxL]
  try dsimp only [Ty.den, Ty.dflt]
  try simp only [rd_eta]
  trivial
 refine sw_ret ⟨.inl rfl, _, rfl, ?_⟩
 simp [conj]
end Go.Sx

namespace Go.Sx
open Go
instance : DecidableEq Plc := instDecidableEqProd
instance : DecidableEq Ptr_ := instDecidableEqProd
instance : DecidableEq Vol_ := instDecidableEqProd
instance : DecidableEq Root_ := instDecidableEqProd
def szGo {α : Type} (f : α → Int → Int) : List α → Int → Int
 | [], left => left
 | x :: r, left => if f x left < 0 then -1 else szGo f r (f x left)
def szL {α : Type} (f : α → Int → Int) (l : List α) (left : Int) : Int := if left - l.length < 0 then -1 else szGo f l (left - l.length)
def szPl (l : List Plc) (left : Int) : Int := if left - l.length < 0 then -1 else left - l.length
def szP (p : Ptr_) (left : Int) : Int := szPl p.2.2 left
def szPs (l : List Ptr_) (left : Int) : Int := szL szP l left
def szV (v : Vol_) (left : Int) : Int := if left - v.1.length < 0 then -1 else szPs v.2 (left - v.1.length)
def szVs (l : List Vol_) (left : Int) : Int := szL szV l left
def SzOk {α : Type} (f : α → Int → Int) : Prop := ∀ x left, 0 ≤ left → -1 ≤ f x left ∧ f x left ≤ left
theorem szGo_bd {α : Type} {f : α → Int → Int} (hf : SzOk f) : ∀ {l : List α} {left : Int}, 0 ≤ left → -1 ≤ szGo f l left ∧ szGo f l left ≤ left := by
 intro l
 induction l with
 | nil => intro left h; exact ⟨by simp only [szGo]; omega, Int.le_refl _⟩
 | cons s r ih =>
  intro left h
  simp only [szGo]
  have h1 := hf s left h
  split
  ·omega
  ·have := ih (left := f s left) (by omega)
   omega
theorem szL_ok {α : Type} {f : α → Int → Int} (hf : SzOk f) : SzOk (szL f) := by
 intro l left h
 unfold szL
 split
 ·omega
 ·have := szGo_bd hf (l := l) (left := left - l.length) (by omega)
  omega
theorem szPl_ok : SzOk szPl := by
 intro l left h
 unfold szPl
 split <;> omega
theorem szP_ok : SzOk szP := fun p left h => szPl_ok p.2.2 left h
theorem szPs_ok : SzOk szPs := szL_ok szP_ok
theorem szV_ok : SzOk szV := by
 intro v left h
 unfold szV
 split
 ·omega
 ·have := szPs_ok v.2 (left - v.1.length) (by omega)
  omega
theorem szVs_ok : SzOk szVs := szL_ok szV_ok
theorem sz_neg {α : Type} {f : α → Int → Int} (hf : SzOk f) {x : α} {left : Int} (h : 0 ≤ left) (h2 : f x left < 0) : f x left = -1 := by have := hf x left h; omega
theorem sz_next {α : Type} {f : α → Int → Int} {l : List α} {i : Nat} {left v : Int} (hlt : i < l.length) (h : szGo f (l.drop i) left = v) (h0 : ¬ f l[i] left < 0) : szGo f (l.drop (i + 1)) (f l[i] left) = v := by
 rw [drop_at hlt] at h; simp only [szGo] at h; rwa [if_neg h0] at h
theorem sz_hit {α : Type} {f : α → Int → Int} {l : List α} {i : Nat} {left v : Int} (hlt : i < l.length) (h : szGo f (l.drop i) left = v) (h0 : f l[i] left < 0) : v = -1 := by
 rw [drop_at hlt] at h; simp only [szGo] at h; rw [if_pos h0] at h; exact h.symm
theorem sz_end {α : Type} {f : α → Int → Int} {l : List α} {left v : Int} (h : szGo f (l.drop l.length) left = v) : v = left := by
 rw [List.drop_length] at h; exact h.symm
def SmP (p : Ptr_) : Prop := p.2.2.length ≤ 1048576
def SmPs (l : List Ptr_) : Prop := l.length ≤ 1048576 ∧ ∀ p ∈ l, SmP p
def SmVs (l : List Vol_) : Prop := l.length ≤ 1048576 ∧ ∀ v ∈ l, SmPs v.2
theorem szGo_sm {α : Type} {f : α → Int → Int} {Q : α → Prop} (hf : SzOk f) (hq : ∀ x left, 0 ≤ left → left ≤ 1048576 → 0 ≤ f x left → Q x) : ∀ {l : List α} {left : Int}, 0 ≤ left → left ≤ 1048576 → 0 ≤ szGo f l left → ∀ x ∈ l, Q x := by
 intro l
 induction l with
 | nil => intro left _ _ _ x hx; cases hx
 | cons s r ih =>
  intro left h0 h1 h x hx
  simp only [szGo] at h
  have hb := hf s left h0
  split at h
  ·omega
  ·rcases List.mem_cons.1 hx with rfl | hx
   ·exact hq x left h0 h1 (by omega)
   ·exact ih (left := f s left) (by omega) (by omega) h x hx
theorem szP_sm (p : Ptr_) (left : Int) (h0 : 0 ≤ left) (h1 : left ≤ 1048576) (h : 0 ≤ szP p left) : SmP p := by
 unfold szP szPl at h
 split at h
 ·omega
 ·unfold SmP; omega
theorem szPs_sm (l : List Ptr_) (left : Int) (h0 : 0 ≤ left) (h1 : left ≤ 1048576) (h : 0 ≤ szPs l left) : SmPs l := by
 unfold szPs szL at h
 split at h
 ·omega
 ·exact ⟨by omega, szGo_sm szP_ok szP_sm (by omega) (by omega) h⟩
theorem szV_sm (v : Vol_) (left : Int) (h0 : 0 ≤ left) (h1 : left ≤ 1048576) (h : 0 ≤ szV v left) : SmPs v.2 := by
 unfold szV at h
 split at h
 ·omega
 ·exact szPs_sm v.2 _ (by omega) (by omega) h
theorem szVs_sm (l : List Vol_) (left : Int) (h0 : 0 ≤ left) (h1 : left ≤ 1048576) (h : 0 ≤ szVs l left) : SmVs l := by
 unfold szVs szL at h
 split at h
 ·omega
 ·exact ⟨by omega, szGo_sm szV_ok szV_sm (by omega) (by omega) h⟩
def cpL {α : Type} (l : List α) (d : α) (i : Nat) : List α := l.take i ++ List.replicate (l.length - i) d
theorem cpL_next {α : Type} {l : List α} {d : α} {i : Nat} (hlt : i < l.length) : (cpL l d i).set i l[i] = cpL l d (i + 1) := by
 unfold cpL
 rw [List.set_append_right _ _ (by simp; omega)]
 have h1 : i - (l.take i).length = 0 := by simp; omega
 rw [h1, show l.length - i = (l.length - (i + 1)) + 1 by omega, List.replicate_succ, List.set_cons_zero, List.take_succ_eq_append_getElem hlt, List.append_assoc]
 rfl
theorem cpL_len {α : Type} {l : List α} {d : α} {i : Nat} (h : i ≤ l.length) : (cpL l d i).length = l.length := by
 unfold cpL; simp; omega
theorem cpL_end {α : Type} {l : List α} {d : α} : cpL l d l.length = l := by unfold cpL; simp
theorem cpL_zero {α : Type} {l : List α} {d : α} : cpL l d 0 = List.replicate l.length d := by unfold cpL; simp
end Go.Sx

namespace Go.Sx
open Go
structure Mk (α : Type) where of_ ::
 mk : Int → α → α
 nx : Int → α → Int
 hd : Int → α → Int
structure MkOk {α : Type} (m : Mk α) : Prop where
 ge : ∀ k x, k ≤ m.nx k x
 hm : ∀ k x, 0 ≤ k → m.hd k (m.mk k x) = m.nx k x
 nm : ∀ k x, m.nx k (m.mk k x) = m.nx k x
 val : ∀ k x, m.hd k x = -1 ∨ m.hd k x = m.nx k x
section
variable {α : Type} (m : Mk α)
def mkLs : Int → List α → List α
 | _, [] => []
 | k, x :: r => m.mk k x :: mkLs (m.nx k x) r
def nxLs : Int → List α → Int
 | k, [] => k
 | k, x :: r => nxLs (m.nx k x) r
def hdLs : Int → List α → Int
 | k, [] => k
 | k, x :: r => if m.hd k x < 0 then -1 else hdLs (m.hd k x) r
def mkList : Mk (List α) := ⟨mkLs m, nxLs m, hdLs m⟩
end
theorem mkList_ok {α : Type} {m : Mk α} (h : MkOk m) : MkOk (mkList m) := by
 have hge : ∀ (l : List α) k, k ≤ nxLs m k l := by
  intro l
  induction l with
  | nil => intro k; exact Int.le_refl _
  | cons x r ih => intro k; exact Int.le_trans (h.ge k x) (ih _)
 refine ⟨fun k x => hge x k, ?_, ?_, ?_⟩
 ·intro k l
  show 0 ≤ k → hdLs m k (mkLs m k l) = nxLs m k l
  induction l generalizing k with
  | nil => intro _; rfl
  | cons x r ih =>
   intro h0
   simp only [mkLs, hdLs, nxLs]
   have h1 := h.ge k x
   rw [h.hm k x h0, if_neg (by omega)]
   exact ih _ (by omega)
 ·intro k l
  show nxLs m k (mkLs m k l) = nxLs m k l
  induction l generalizing k with
  | nil => rfl
  | cons x r ih => simp only [mkLs, nxLs]; rw [h.nm]; exact ih _
 ·intro k l
  show hdLs m k l = -1 ∨ hdLs m k l = nxLs m k l
  induction l generalizing k with
  | nil => exact .inr rfl
  | cons x r ih =>
   simp only [hdLs, nxLs]
   split
   ·exact .inl rfl
   ·rename_i hn
    rcases h.val k x with h1 | h1
    ·rw [h1] at hn; exact absurd (by decide) hn
    ·rw [h1]; exact ih _
section
variable {α : Type} {m : Mk α}
theorem mkLs_len : ∀ {l : List α} {k : Int}, (mkLs m k l).length = l.length := by
 intro l
 induction l with
 | nil => intro k; rfl
 | cons x r ih => intro k; simp only [mkLs, List.length_cons, ih]
theorem mkLs_app : ∀ {a b : List α} {k : Int}, mkLs m k (a ++ b) = mkLs m k a ++ mkLs m (nxLs m k a) b := by
 intro a
 induction a with
 | nil => intro b k; rfl
 | cons x r ih => intro b k; simp only [List.cons_append, mkLs, nxLs, ih]
theorem nxLs_app : ∀ {a b : List α} {k : Int}, nxLs m k (a ++ b) = nxLs m (nxLs m k a) b := by
 intro a
 induction a with
 | nil => intro b k; rfl
 | cons x r ih => intro b k; simp only [List.cons_append, nxLs, ih]
theorem drop_cons' {l : List α} {i : Nat} (h : i < l.length) : l.drop i = l[i] :: l.drop (i + 1) := List.drop_eq_getElem_cons h
theorem take_snoc {l : List α} {i : Nat} (h : i < l.length) : l.take (i + 1) = l.take i ++ [l[i]] := List.take_succ_eq_append_getElem h
theorem mk_clen {l : List α} {k : Int} {i : Nat} (hi : i ≤ l.length) : (mkLs m k (l.take i) ++ l.drop i).length = l.length := by
 rw [List.length_append, mkLs_len, List.length_take, List.length_drop]; omega
theorem mk_get {l : List α} {k : Int} {i : Nat} (h : i < l.length) : (mkLs m k (l.take i) ++ l.drop i)[i]? = some l[i] := by
 have hl : (mkLs m k (l.take i)).length = i := by rw [mkLs_len, List.length_take]; omega
 rw [List.getElem?_append_right (by omega), hl, Nat.sub_self, drop_cons' h]; rfl
theorem nx_next {l : List α} {k : Int} {i : Nat} (h : i < l.length) : nxLs m k (l.take (i + 1)) = m.nx (nxLs m k (l.take i)) l[i] := by
 rw [take_snoc h, nxLs_app]; rfl
theorem mk_next {l : List α} {k : Int} {i : Nat} (h : i < l.length) : (mkLs m k (l.take i) ++ l.drop i).set i (m.mk (nxLs m k (l.take i)) l[i]) = mkLs m k (l.take (i + 1)) ++ l.drop (i + 1) := by
 have hl : (mkLs m k (l.take i)).length = i := by rw [mkLs_len, List.length_take]; omega
 rw [List.set_append_right _ _ (by omega), hl, Nat.sub_self, drop_cons' h, List.set_cons_zero, take_snoc h, mkLs_app, List.append_assoc]
 rfl
theorem nx_split (hm : MkOk m) {l : List α} {k : Int} {i : Nat} (h : i < l.length) : k ≤ nxLs m k (l.take i) ∧ nxLs m k (l.take i) ≤ m.nx (nxLs m k (l.take i)) l[i] ∧ m.nx (nxLs m k (l.take i)) l[i] ≤ nxLs m k l := by
 refine ⟨(mkList_ok hm).ge _ _, hm.ge _ _, ?_⟩
 have e : nxLs m k l = nxLs m (m.nx (nxLs m k (l.take i)) l[i]) (l.drop (i + 1)) := by
  conv => lhs; rw [← List.take_append_drop i l, nxLs_app, drop_cons' h]
  rfl
 rw [e]
 exact (mkList_ok hm).ge _ _
theorem nx_drop (hm : MkOk m) {l : List α} {q : Int} {i : Nat} (h : i < l.length) : nxLs m q (l.drop i) = nxLs m (m.nx q l[i]) (l.drop (i + 1)) ∧ q ≤ m.nx q l[i] ∧ m.nx q l[i] ≤ nxLs m (m.nx q l[i]) (l.drop (i + 1)) := by
 refine ⟨by rw [drop_cons' h]; rfl, hm.ge _ _, (mkList_ok hm).ge _ _⟩
theorem hd_next {l : List α} {q V : Int} {i : Nat} (h : i < l.length) (hgo : hdLs m q (l.drop i) = V) (hn : ¬ m.hd q l[i] < 0) : hdLs m (m.hd q l[i]) (l.drop (i + 1)) = V := by
 rw [drop_cons' h] at hgo; simp only [hdLs, if_neg hn] at hgo; exact hgo
theorem hd_hit {l : List α} {q V : Int} {i : Nat} (h : i < l.length) (hgo : hdLs m q (l.drop i) = V) (hn : m.hd q l[i] < 0) : V = -1 := by
 rw [drop_cons' h] at hgo; simp only [hdLs, if_pos hn] at hgo; exact hgo.symm
theorem hd_end {l : List α} {q V : Int} (hgo : hdLs m q (l.drop l.length) = V) : V = q := by
 rw [List.drop_length] at hgo; exact hgo.symm
theorem hd_pos (hm : MkOk m) {q : Int} {x : α} (hn : ¬ m.hd q x < 0) : m.hd q x = m.nx q x := (hm.val q x).resolve_left fun e => hn (by rw [e]; decide)
theorem hd_neg (hm : MkOk m) {q : Int} {x : α} (h0 : 0 ≤ q) (hn : m.hd q x < 0) : m.hd q x = -1 := (hm.val q x).resolve_right fun e => by have := hm.ge q x; omega
end
def mkOne {α : Type} [DecidableEq α] (n : Int) (f : Int → α) : Mk α := ⟨fun k _ => f k, fun k _ => k + n, fun k x => if x = f k then k + n else -1⟩
theorem mkOne_ok {α : Type} [DecidableEq α] {n : Int} {f : Int → α} (hn : 0 ≤ n) : MkOk (mkOne n f) := by
 refine ⟨fun k x => by show k ≤ k + n; omega, fun k x _ => if_pos rfl, fun _ _ => rfl, fun k x => ?_⟩
 show (if x = f k then k + n else -1) = -1 ∨ (if x = f k then k + n else -1) = k + n
 split
 ·exact .inr rfl
 ·exact .inl rfl
def mkPair {α β : Type} (a : Mk α) (b : Mk β) : Mk (α × β) := ⟨fun k x => (a.mk k x.1, b.mk (a.nx k x.1) x.2), fun k x => b.nx (a.nx k x.1) x.2, fun k x => if a.hd k x.1 < 0 then -1 else b.hd (a.hd k x.1) x.2⟩
theorem mkPair_ok {α β : Type} {a : Mk α} {b : Mk β} (ha : MkOk a) (hb : MkOk b) : MkOk (mkPair a b) := by
 refine ⟨fun k x => Int.le_trans (ha.ge k x.1) (hb.ge _ _), fun k x h => ?_, fun k x => ?_, fun k x => ?_⟩
 ·have := ha.ge k x.1
  show (if a.hd k (a.mk k x.1) < 0 then -1 else b.hd (a.hd k (a.mk k x.1)) (b.mk (a.nx k x.1) x.2)) = _
  rw [ha.hm k _ h, if_neg (by omega)]
  exact hb.hm _ _ (by omega)
 ·show b.nx (a.nx k (a.mk k x.1)) (b.mk (a.nx k x.1) x.2) = _
  rw [ha.nm, hb.nm]; rfl
 ·show (if a.hd k x.1 < 0 then -1 else b.hd (a.hd k x.1) x.2) = -1 ∨ (if a.hd k x.1 < 0 then -1 else b.hd (a.hd k x.1) x.2) = b.nx (a.nx k x.1) x.2
  split
  ·exact .inl rfl
  ·rename_i hn
   rw [hd_pos ha hn]
   exact hb.val _ _
def mkNo {α : Type} : Mk α := ⟨fun _ x => x, fun k _ => k, fun k _ => k⟩
theorem mkNo_ok {α : Type} : MkOk (mkNo : Mk α) := ⟨fun _ _ => Int.le_refl _, fun _ _ _ => rfl, fun _ _ => rfl, fun _ _ => .inr rfl⟩
def mkI : Mk Int := mkOne 1 id
theorem mkI_ok : MkOk mkI := mkOne_ok (by decide)
def digX (k : Nat) (out : Str) : Str := if h : k = 0 then out else digX (k / 10) (UInt8.ofNat (48 + k % 10) :: out)
 termination_by k
 decreasing_by omega
theorem digX_zero {out : Str} : digX 0 out = out := by rw [digX]; rfl
theorem digX_step {k : Nat} {out : Str} (h : k ≠ 0) : digX k out = digX (k / 10) (UInt8.ofNat (48 + k % 10) :: out) := by rw [digX, dif_neg h]
def mkT (k : Int) : Str := if k ≤ 0 then [109, 48] else 109 :: digX k.toNat []
def mkB (k : Int) : Bool := decide (k.tmod 3 = 0)
def mkStr : Mk Str := mkOne 1 mkT
theorem mkStr_ok : MkOk mkStr := mkOne_ok (by decide)
def mkBool : Mk Bool := mkOne 1 mkB
theorem mkBool_ok : MkOk mkBool := mkOne_ok (by decide)
end Go.Sx

namespace Go.Sx
open Go
def szGoD {α : Type} (w : α → Nat) : List α → Int → Int
 | [], left => left
 | s :: r, left => if left - (w s : Int) < 0 then -1 else szGoD w r (left - w s)
def szA {α : Type} (w : α → Nat) (l : List α) (left : Int) : Int := if left - (l.length : Int) < 0 then -1 else szGoD w l (left - l.length)
theorem szGo_bdD {α : Type} {w : α → Nat} : ∀ {l : List α} {left : Int}, 0 ≤ left → -1 ≤ szGoD w l left ∧ szGoD w l left ≤ left := by
 intro l
 induction l with
 | nil => intro left h; exact ⟨by simp only [szGoD]; omega, Int.le_refl _⟩
 | cons s r ih =>
  intro left h
  simp only [szGoD]
  split
  ·omega
  ·rename_i h2
   have := ih (left := left - w s) (by omega)
   omega
theorem szA_bd {α : Type} {w : α → Nat} {l : List α} {left : Int} (h : 0 ≤ left) : -1 ≤ szA w l left ∧ szA w l left ≤ left := by
 unfold szA
 split
 ·omega
 ·have := szGo_bdD (w := w) (l := l) (left := left - l.length) (by omega)
  omega
theorem szA_neg {α : Type} {w : α → Nat} {l : List α} {left : Int} (h : 0 ≤ left) (h2 : szA w l left < 0) : szA w l left = -1 := by have := szA_bd (w := w) (l := l) h; omega
theorem szA_len {α : Type} {w : α → Nat} {l : List α} {left : Int} (h : 0 ≤ szA w l left) : (l.length : Int) ≤ left := by
 unfold szA at h
 split at h
 ·omega
 ·omega
theorem szGo_nextD {α : Type} {w : α → Nat} {l : List α} {i : Nat} {left v : Int} (hlt : i < l.length) (h : szGoD w (l.drop i) left = v) (h0 : ¬ left - (w l[i] : Int) < 0) : szGoD w (l.drop (i + 1)) (left - w l[i]) = v := by
 rw [drop_at hlt] at h; simp only [szGoD] at h; rwa [if_neg h0] at h
theorem szGo_hitD {α : Type} {w : α → Nat} {l : List α} {i : Nat} {left v : Int} (hlt : i < l.length) (h : szGoD w (l.drop i) left = v) (h0 : left - (w l[i] : Int) < 0) : v = -1 := by
 rw [drop_at hlt] at h; simp only [szGoD] at h; rw [if_pos h0] at h; exact h.symm
theorem szGo_endD {α : Type} {w : α → Nat} {l : List α} {left v : Int} (h : szGoD w (l.drop l.length) left = v) : v = left := by
 rw [List.drop_length] at h; exact h.symm
def lenS (s : Str) : Nat := s.length
def lenP (p : Put) : Nat := p.2.2.length
def len0 (_ : Bool) : Nat := 0
theorem szA_bool {l : List Bool} {left : Int} : szA len0 l left = if left - (l.length : Int) < 0 then -1 else left - l.length := by
 have : ∀ (l : List Bool) {left : Int}, 0 ≤ left → szGoD len0 l left = left := by
  intro l
  induction l with
  | nil => intro left _; rfl
  | cons b r ih =>
   intro left h
   have e : left - ((len0 b : Nat) : Int) = left := by simp [len0]
   simp only [szGoD, e]
   rw [if_neg (by omega)]
   exact ih h
 unfold szA
 split
 ·rfl
 ·exact this l (by omega)
def szP1V (p : Put) (left : Int) : Int := if left - (lenP p : Int) < 0 then -1 else left - lenP p
theorem szP1_neg {p : Put} {left : Int} (h : left - (lenP p : Int) < 0) : szP1V p left = -1 := by unfold szP1V; rw [if_pos h]
theorem szP1_pos {p : Put} {left : Int} (h : ¬ left - (lenP p : Int) < 0) : szP1V p left = left - lenP p := by unfold szP1V; rw [if_neg h]
theorem szP1_iff {p : Put} {left : Int} : szP1V p left < 0 ↔ left - (lenP p : Int) < 0 := by
 constructor
 ·intro h
  by_cases h2 : left - (lenP p : Int) < 0
  ·exact h2
  ·rw [szP1_pos h2] at h; exact h
 ·intro h; rw [szP1_neg h]; decide
instance decD0 : DecidableEq Put := inferInstance
instance decD1 : DecidableEq (List Bool × List Put) := inferInstance
instance decD2 : DecidableEq (List Str × List Bool × List Put) := inferInstance
instance decD3 : DecidableEq (List Str × List Str × List Bool × List Put) := inferInstance
instance decD4 : DecidableEq Dsk := inferInstance
def eqDV (a b : Dsk) : Bool := decide (a = b)
theorem eqDV_self {a : Dsk} : eqDV a a = true := by simp [eqDV]
def szD (d : Dsk) (left : Int) : Int :=
 if szA lenS d.2.1 left < 0 then -1 else if szA lenS d.2.2.1 (szA lenS d.2.1 left) < 0 then -1 else
 if szA len0 d.2.2.2.1 (szA lenS d.2.2.1 (szA lenS d.2.1 left)) < 0 then -1 else szA lenP d.2.2.2.2 (szA len0 d.2.2.2.1 (szA lenS d.2.2.1 (szA lenS d.2.1 left)))
def SmallD (d : Dsk) : Prop := d.2.1.length ≤ 1048576 ∧ d.2.2.1.length ≤ 1048576 ∧ d.2.2.2.1.length ≤ 1048576 ∧ d.2.2.2.2.length ≤ 1048576
theorem szD_small {d : Dsk} (h : 0 ≤ szD d 1048576) : SmallD d := by
 unfold szD at h
 split at h
 ·omega
 ·rename_i h1
  split at h
  ·omega
  ·rename_i h2
   split at h
   ·omega
   ·rename_i h3
    have a1 := szA_bd (w := lenS) (l := d.2.1) (left := 1048576) (by omega)
    have a2 := szA_bd (w := lenS) (l := d.2.2.1) (left := szA lenS d.2.1 1048576) (by omega)
    have a3 := szA_bd (w := len0) (l := d.2.2.2.1) (left := szA lenS d.2.2.1 (szA lenS d.2.1 1048576)) (by omega)
    have b1 := szA_len (w := lenS) (l := d.2.1) (left := 1048576) (by omega)
    have b2 := szA_len (w := lenS) (l := d.2.2.1) (left := szA lenS d.2.1 1048576) (by omega)
    have b3 := szA_len (w := len0) (l := d.2.2.2.1) (left := szA lenS d.2.2.1 (szA lenS d.2.1 1048576)) (by omega)
    have b4 := szA_len (w := lenP) (l := d.2.2.2.2) (left := szA len0 d.2.2.2.1 (szA lenS d.2.2.1 (szA lenS d.2.1 1048576))) h
    exact ⟨by omega, by omega, by omega, by omega⟩
theorem eq_len' {α : Type} [DecidableEq α] {a b : List α} (h : ¬ a.length = b.length) : decide (a = b) = false := decide_eq_false fun e => h (by rw [e])
theorem eq_next' {α : Type} [DecidableEq α] {a b : List α} {i : Nat} {v : Bool} (h1 : i < a.length) (h2 : i < b.length) (h : decide (a.drop i = b.drop i) = v) (he : a[i] = b[i]) : decide (a.drop (i + 1) = b.drop (i + 1)) = v := by
 rw [drop_at h1, drop_at h2] at h; rw [← h, he]; exact decide_eq_decide.2 ⟨fun e => by rw [e], fun e => (List.cons.inj e).2⟩
theorem eq_hit' {α : Type} [DecidableEq α] {a b : List α} {i : Nat} {v : Bool} (h1 : i < a.length) (h2 : i < b.length) (h : decide (a.drop i = b.drop i) = v) (he : ¬ a[i] = b[i]) : v = false := by
 rw [drop_at h1, drop_at h2] at h; rw [← h]; exact decide_eq_false fun e => he (List.cons.inj e).1
theorem eq_end' {α : Type} [DecidableEq α] {a b : List α} {v : Bool} (hl : a.length = b.length) (h : decide (a.drop a.length = b.drop a.length) = v) : v = true := by
 rw [← h, List.drop_length, hl, List.drop_length]; simp
def inVD (n a b : Int) : Bool := decide (a ≤ n ∧ n ≤ b)
def slotS (g : Bool) (t : Str) (b : Bool) : Bool := (decide (t.length ≠ 0) && decide (t.length ≠ 3)) || (b && decide (t.length = 0)) || (g && decide (0 < t.length))
def slotsS (g : Bool) : List Str → List Bool → Bool
 | t :: ts, b :: bs => slotS g t b || slotsS g ts bs
 | _, _ => false
def ringS (g : Bool) (t : Str) : Bool := decide (700 < t.length) || (g && decide (0 < t.length))
theorem slotsS_next {g : Bool} {ts : List Str} {bs : List Bool} {i : Nat} {v : Bool} (h1 : i < ts.length) (h2 : i < bs.length) (h : slotsS g (ts.drop i) (bs.drop i) = v) (hn : slotS g ts[i] bs[i] = false) : slotsS g (ts.drop (i + 1)) (bs.drop (i + 1)) = v := by
 rw [drop_at h1, drop_at h2] at h; simpa [slotsS, hn] using h
theorem slotsS_hit {g : Bool} {ts : List Str} {bs : List Bool} {i : Nat} {v : Bool} (h1 : i < ts.length) (h2 : i < bs.length) (h : slotsS g (ts.drop i) (bs.drop i) = v) (hn : slotS g ts[i] bs[i] = true) : v = true := by
 rw [drop_at h1, drop_at h2] at h; simpa [slotsS, hn] using h.symm
theorem slotsS_end {g : Bool} {ts : List Str} {bs : List Bool} {v : Bool} (h : slotsS g (ts.drop ts.length) (bs.drop ts.length) = v) : v = false := by
 rw [List.drop_length] at h; rw [← h]; rfl
theorem any_nextD {α : Type} {p : α → Bool} {l : List α} {i : Nat} {v : Bool} (hlt : i < l.length) (h : (l.drop i).any p = v) (hn : p l[i] = false) : (l.drop (i + 1)).any p = v := by
 rw [drop_at hlt] at h; simp only [List.any_cons, hn, Bool.false_or] at h; exact h
theorem any_hitD {α : Type} {p : α → Bool} {l : List α} {i : Nat} {v : Bool} (hlt : i < l.length) (h : (l.drop i).any p = v) (hn : p l[i] = true) : v = true := by
 rw [drop_at hlt] at h; simp only [List.any_cons, hn, Bool.true_or] at h; exact h.symm
theorem any_endD {α : Type} {p : α → Bool} {l : List α} {v : Bool} (h : (l.drop l.length).any p = v) : v = false := by
 rw [List.drop_length] at h; rw [← h]; rfl
def dokV (d : Dsk) : Bool := shapedV d && !(slotsS (decide (d.1 = 1)) d.2.1 d.2.2.2.1) && !(d.2.2.1.any (ringS (decide (d.1 = 1)))) && !(d.2.2.2.2.any badP) && (decide (¬ d.1 = 1) || decide (d.2.2.2.2.length = 0))
def fullS (t : Str) : Bool := decide (0 < t.length)
theorem slotsS_eq {g : Bool} : ∀ {ts : List Str} {bs : List Bool}, ts.length = bs.length → slotsS g ts bs = (slotsB ts bs || (g && ts.any fullS)) := by
 intro ts
 induction ts with
 | nil => intro bs _; simp [slotsS, slotsB]
 | cons t r ih =>
  intro bs hl
  cases bs with
  | nil => cases hl
  | cons b bs =>
   simp only [slotsS, slotsB, List.any_cons]
   rw [ih (by simpa using hl)]
   have : slotS g t b = (slotB t b || (g && fullS t)) := by
    unfold slotS slotB fullS
    cases t with
    | nil => simp
    | cons x y => simp
   rw [this]
   cases slotB t b <;> cases g <;> cases fullS t <;> simp
theorem rings_eq {g : Bool} : ∀ {ts : List Str}, ts.any (ringS g) = (ts.any longR || (g && ts.any fullS)) := by
 intro ts
 induction ts with
 | nil => simp
 | cons t r ih =>
  simp only [List.any_cons, ih, ringS, longR, fullS]
  cases decide (700 < t.length) <;> cases g <;> cases decide (0 < t.length) <;> simp
theorem any_full {n : Nat} : ∀ {l : List Str}, l.length = n → (l.any fullS = decide (l ≠ List.replicate n [])) := by
 intro l
 induction l generalizing n with
 | nil => intro h; cases h; simp
 | cons t r ih =>
  intro h
  obtain ⟨m, rfl⟩ : ∃ m, n = m + 1 := ⟨n - 1, by simp at h; omega⟩
  simp only [List.any_cons, List.replicate_succ]
  rw [ih (n := m) (by simpa using h)]
  cases t with
  | nil => simp [fullS]
  | cons x y => simp [fullS]
theorem dok_eq {d : Dsk} : dokV d = rdV d := by
 unfold dokV rdV
 cases hs : shapedV d with
 | false => simp
 | true =>
  obtain ⟨_, h1, h2, h3, _⟩ := shaped_iff hs
  rw [slotsS_eq (by rw [h1, h3]), rings_eq, any_full h1, any_full h2]
  unfold goneB
  by_cases hg : d.1 = 1
  ·have hw : decide (d.2.2.2.2.length = 0) = !decide (0 < d.2.2.2.2.length) := by rw [← decide_not]; exact decide_eq_decide.2 (by omega)
   rw [hw]
   simp only [hg, decide_true, Bool.true_and, not_true_eq_false, decide_false, Bool.false_or]
   cases slotsB d.2.1 d.2.2.2.1 <;> cases d.2.2.1.any longR <;> cases d.2.2.2.2.any badP <;> cases decide (d.2.1 ≠ List.replicate 12 []) <;> cases decide (d.2.2.1 ≠ List.replicate 2 []) <;> simp
  ·simp only [hg, decide_false, Bool.false_and, Bool.or_false, not_false_eq_true, decide_true, Bool.true_or, Bool.and_true, Bool.not_false, Bool.true_and]
   cases slotsB d.2.1 d.2.2.2.1 <;> cases d.2.2.1.any longR <;> cases d.2.2.2.2.any badP <;> simp
def comeD (d : Dsk) (p : Put) : Dsk := dskOf d.1 (come p (drvOf d)) d.2.2.2.2
def FitD (d : Dsk) : Prop := d.2.1.length ≤ 12 ∧ d.2.2.1.length ≤ 2 ∧ d.2.2.2.1.length ≤ 12 ∧ d.2.2.2.2.length ≤ 40
theorem fit_zero : FitD zeroD := ⟨Nat.zero_le _, Nat.zero_le _, Nat.zero_le _, Nat.zero_le _⟩
theorem crashV_fit {d : Dsk} {k : Int} : FitD (crashV d k) := by
 unfold crashV
 split
 ·rename_i h
  have hp := rd_parts h.1
  have hok : (comes (keepB k.toNat d.2.2.2.2) (drvOf d)).ok := comes_ok (drv_ok hp.1)
  obtain ⟨a, b, c⟩ := hok
  exact ⟨Nat.le_of_eq a, Nat.le_of_eq b, Nat.le_of_eq c, Nat.zero_le _⟩
 ·exact fit_zero
end Go.Sx

namespace Go.Sx
open Go
set_option maxRecDepth 100000
set_option linter.unusedVariables false
set_option linter.unusedSimpArgs false
set_option maxHeartbeats 2000000
def cInD : Ctr := ⟨128, [.val false TI pF, .val false TI pF, .val false TI pF], fun _ => True, fun x => (sBool (inVD x.1 x.2.1 x.2.2.1), [])⟩
theorem cIn_okD : CtrOk Proofs.Tryz.prog cInD := by
 have hP := (Prg.none ttok mtok)
 refine ctr_of_body hP cInD (fn := Proofs.Tryz.f128) (rts := [.tmp 6]) Proofs.Tryz.func128 rfl (by kernel_rfl) rfl rfl ?_
 rintro ⟨(n : Int), (a : Int), (b : Int), ⟨⟩⟩ _ hpre
 try dsimp only [Ty.den, Mode.den, mdens] at hpre
 refine ⟨rfl, ?_⟩
 refine sw_seq (xr hP 1 rfl (sw_seq ?_))
 refine sw_dec hP 2 [] 3 rfl (fun g1_3 => ?_) (fun g1_3 => ?_)
 ·refine xd hP 2 [(3, true)] rfl (sw_ret ⟨.inl rfl, _, rfl, ?_⟩)
  simp [conj, inVD] at *
  first | done | omega | (intros; omega)
 ·refine xd hP 2 [(3, false)] rfl (sw_ret ⟨.inl rfl, _, rfl, ?_⟩)
  simp [conj, inVD] at *
  first | done | omega | (intros; omega)
def cPutS : Ctr := ⟨152, [.val true T_Put pF], fun _ => True, fun x => (sBool (putV x.1), [])⟩
theorem cPutS_ok : CtrOk Proofs.Tryz.prog cPutS := by
 have hP := ((Prg.none ttok mtok).and cIn_okD)
 refine ctr_of_body hP cPutS (fn := Proofs.Tryz.f152) (rts := [.tmp 2]) Proofs.Tryz.func152 rfl (by kernel_rfl) rfl rfl ?_
 rintro ⟨⟨(rn : Bool), (at_ : Int), (tx : Str)⟩, ⟨⟩⟩ _ hpre
 try dsimp only [Ty.den, Mode.den, mdens] at hpre
 refine ⟨rfl, ?_⟩
 refine sw_seq (xr hP 1 rfl (sw_seq (sw_seq (xg hP 2 [] rfl ?_ ?_))))
 ·simp [conj]
  repeat' apply And.intro
  all_goals first | trivial | assumption | omega | (simp_all; done) | (simp_all; omega)
 refine sw_cond rfl (fun c1 => ?_) (fun c1 => ?_)
 ·refine sw_seq ?_
  refine sw_dec hP 3 [] 3 rfl (fun g2_3 => ?_) (fun g2_3 => ?_)
  ·refine xg hP 3 [(3, true)] rfl ?_ ?_
   ·simp [conj]
    repeat' apply And.intro
    all_goals first | trivial | assumption | omega | (simp_all; done) | (simp_all; omega)
   refine sw_ret ⟨.inl rfl, _, rfl, ?_⟩
   simp [conj, putV, inVD] at *
   first | (simp [*]; done) | (simp [*]; intros; have h := g2_3 (by assumption); omega) | (simp [*]; intros; have h := g3_3 (by assumption); omega) | (simp [*]; omega) | (simp [*]; intros; omega) | (simp only [*, if_true, Bool.false_eq_true, if_false]; refine Bool.eq_iff_iff.2 ?_; simp; omega)
  ·refine xg hP 3 [(3, false)] rfl ?_ ?_
   ·simp [conj]
    repeat' apply And.intro
    all_goals first | trivial | assumption | omega | (simp_all; done) | (simp_all; omega)
   refine sw_ret ⟨.inl rfl, _, rfl, ?_⟩
   simp [conj, putV, inVD] at *
   first | (simp [*]; done) | (simp [*]; intros; have h := g2_3 (by assumption); omega) | (simp [*]; intros; have h := g3_3 (by assumption); omega) | (simp [*]; omega) | (simp [*]; intros; omega) | (simp only [*, if_true, Bool.false_eq_true, if_false]; refine Bool.eq_iff_iff.2 ?_; simp; omega)
 ·refine sw_skip (sw_seq ?_)
  refine sw_dec hP 3 [] 3 rfl (fun g3_3 => ?_) (fun g3_3 => ?_)
  ·refine xg hP 3 [(3, true)] rfl ?_ ?_
   ·simp [conj]
    repeat' apply And.intro
    all_goals first | trivial | assumption | omega | (simp_all; done) | (simp_all; omega)
   refine sw_ret ⟨.inl rfl, _, rfl, ?_⟩
   simp [conj, putV, inVD] at *
   first | (simp [*]; done) | (simp [*]; intros; have h := g2_3 (by assumption); omega) | (simp [*]; intros; have h := g3_3 (by assumption); omega) | (simp [*]; omega) | (simp [*]; intros; omega) | (simp only [*, if_true, Bool.false_eq_true, if_false]; refine Bool.eq_iff_iff.2 ?_; simp; omega)
  ·refine xg hP 3 [(3, false)] rfl ?_ ?_
   ·simp [conj]
    repeat' apply And.intro
    all_goals first | trivial | assumption | omega | (simp_all; done) | (simp_all; omega)
   refine sw_ret ⟨.inl rfl, _, rfl, ?_⟩
   simp [conj, putV, inVD] at *
   first | (simp [*]; done) | (simp [*]; intros; have h := g2_3 (by assumption); omega) | (simp [*]; intros; have h := g3_3 (by assumption); omega) | (simp [*]; omega) | (simp [*]; intros; omega) | (simp only [*, if_true, Bool.false_eq_true, if_false]; refine Bool.eq_iff_iff.2 ?_; simp; omega)
def cDok : Ctr := ⟨113, [.val true T_Disk (.all .b)], fun _ => True, fun x => (sBool (rdV x.1), [])⟩
theorem cDok_ok : CtrOk Proofs.Tryz.prog cDok := by
 have hP := (((Prg.none ttok mtok).and cIn_okD).and cPutS_ok)
 refine ctr_of_body hP cDok (fn := Proofs.Tryz.f113) (rts := [.tmp 2]) Proofs.Tryz.func113 rfl (by kernel_rfl) rfl rfl ?_
 rintro ⟨⟨(st : Int), (sl : List Str), (rg : List Str), (sp : List Bool), (wt : List Put)⟩, ⟨⟩⟩ _ hpre
 try dsimp only [Ty.den, Mode.den, mdens] at hpre
 refine ⟨rfl, ?_⟩
 refine sw_seq (xr hP 1 rfl (sw_seq (sw_seq ?_)))
 refine sw_dec hP 2 [] 4 rfl (fun g1_4 => ?_) (fun g1_4 => ?_)
 ·replace g1_4 : stV st = false := by have h := g1_4; simp [inVD] at h; simp [stV]; omega
  refine xg hP 2 [(4, true)] rfl ?_ ?_
  ·simp [conj]
   repeat' apply And.intro
   all_goals first | assumption | omega | trivial | (simp_all [stV]; done) | (simp_all [stV]; omega)
  refine sw_condT rfl (sw_seq (xr hP 3 rfl (sw_ret ⟨.inl rfl, _, rfl, ?_⟩)))
  simp [conj]
  rw [← dok_eq]
  have h : shapedV ((st, sl, rg, sp, wt) : Dsk) = false := by simp [shapedV, *]
  simp [dokV, h]
 ·replace g1_4 : stV st = true := by have h := g1_4; simp [inVD] at h; simp [stV]; omega
  refine sw_dec hP 2 [(4, false)] 10 rfl (fun g1_10 => ?_) (fun g1_10 => ?_)
  ·replace g1_10 : ¬ sl.length = 12 := by have h := g1_10; simp at h; omega
   refine xg hP 2 [(4, false), (10, true)] rfl ?_ ?_
   ·simp [conj]
    repeat' apply And.intro
    all_goals first | assumption | omega | trivial | (simp_all [stV]; done) | (simp_all [stV]; omega)
   refine sw_condT rfl (sw_seq (xr hP 3 rfl (sw_ret ⟨.inl rfl, _, rfl, ?_⟩)))
   simp [conj]
   rw [← dok_eq]
   have h : shapedV ((st, sl, rg, sp, wt) : Dsk) = false := by simp [shapedV, *]
   simp [dokV, h]
  ·replace g1_10 : sl.length = 12 := by have h := g1_10; simp at h; omega
   refine sw_dec hP 2 [(4, false), (10, false)] 16 rfl (fun g1_16 => ?_) (fun g1_16 => ?_)
   ·replace g1_16 : ¬ rg.length = 2 := by have h := g1_16; simp at h; omega
    refine xg hP 2 [(4, false), (10, false), (16, true)] rfl ?_ ?_
    ·simp [conj]
     repeat' apply And.intro
     all_goals first | assumption | omega | trivial | (simp_all [stV]; done) | (simp_all [stV]; omega)
    refine sw_condT rfl (sw_seq (xr hP 3 rfl (sw_ret ⟨.inl rfl, _, rfl, ?_⟩)))
    simp [conj]
    rw [← dok_eq]
    have h : shapedV ((st, sl, rg, sp, wt) : Dsk) = false := by simp [shapedV, *]
    simp [dokV, h]
   ·replace g1_16 : rg.length = 2 := by have h := g1_16; simp at h; omega
    refine sw_dec hP 2 [(4, false), (10, false), (16, false)] 22 rfl (fun g1_22 => ?_) (fun g1_22 => ?_)
    ·replace g1_22 : ¬ sp.length = 12 := by have h := g1_22; simp at h; omega
     refine xg hP 2 [(4, false), (10, false), (16, false), (22, true)] rfl ?_ ?_
     ·simp [conj]
      repeat' apply And.intro
      all_goals first | assumption | omega | trivial | (simp_all [stV]; done) | (simp_all [stV]; omega)
     refine sw_condT rfl (sw_seq (xr hP 3 rfl (sw_ret ⟨.inl rfl, _, rfl, ?_⟩)))
     simp [conj]
     rw [← dok_eq]
     have h : shapedV ((st, sl, rg, sp, wt) : Dsk) = false := by simp [shapedV, *]
     simp [dokV, h]
    ·replace g1_22 : sp.length = 12 := by have h := g1_22; simp at h; omega
     refine xg hP 2 [(4, false), (10, false), (16, false), (22, false)] rfl ?_ ?_
     ·simp [conj]
      repeat' apply And.intro
      all_goals first | assumption | omega | trivial | (simp_all [stV]; done) | (simp_all [stV]; omega)
     refine sw_cond rfl (fun c1 => ?_) (fun c1 => ?_)
     ·replace c1 : ¬ wt.length ≤ 40 := by have h := c1; simp at h; omega
      refine sw_seq (xr hP 3 rfl (sw_ret ⟨.inl rfl, _, rfl, ?_⟩))
      simp [conj]
      rw [← dok_eq]
      have h : shapedV ((st, sl, rg, sp, wt) : Dsk) = false := by simp [shapedV, *]
      simp [dokV, h]
     ·replace c1 : wt.length ≤ 40 := by have h := c1; simp at h; omega
      have hsh : shapedV ((st, sl, rg, sp, wt) : Dsk) = true := by simp [shapedV, *]
      refine sw_skip (sw_seq (sw_seq (xr hP 3 rfl (sw_block (sw_loop (ι := Nat) (fun i => ⟨[.j, .v false [.ptr ⟨1, 0, 0⟩ 0], .j, sInt .i64 (i : Int), .j, .j, .j, .j, .j, .j, .j, .j, .j, .j, .j, .j, .j, .j, .j, .j, .j, .j, .j, .j, .j, .j, .j, .j, .j, .j, .j, .j, .j, .j, .j, .j, .j, .j, .j, .j, .j, .j, .j, .j, .j, .j, .j, .j, .j, .j, .j, .j, .j, .j, .j, .j, .j, .j, .j, .j, .j, .j, .j, .j, .j, .j, .j, .j, .j, .j, .j, .j, .j, .j, .j, .j, .j, .j, .j, .j, .j, .j, .j, .j, .j, .j, .j, .j, .j, .j, .j, .j, .j, .j, .j, .j, .j, .j, .j, .j, .j, .j, .j, .j, .j, .j, .j, .j, .j, .j, .j, .j, .j, .j, .j, .j, .j, .j, .j, .j, .j, .j, .j, .j, .j], [(⟨1, 0, 0⟩, .var [.d TI pF st, .d (.sl .str) (.all .b) sl, .d (.sl .str) (.all .b) rg, .d (.sl .bool) (.all .b) sp, .d (.sl T_Put) (.all .b) wt])], 3, []⟩) (fun i => sl.length - i) (fun i => i ≤ sl.length ∧ slotsS (decide (st = 1)) (sl.drop i) (sp.drop i) = slotsS (decide (st = 1)) sl sp) 0 ⟨?_, ?_⟩ ?_)))))
      ·exact ⟨Nat.zero_le _, rfl⟩
      ·refine ent_ok rfl ?_
       first | trivial | (simp [conj]; done) | (simp [conj] at *; (try dsimp only [Ty.den, Ty.dflt] at *); omega)
      ·rintro i ⟨hi, hgo⟩
       refine sw_seq (sw_seq (xr hP 4 rfl (sw_cond rfl (fun c4 => ?_) (fun c4 => ?_))))
       ·have hlt : i < sl.length := by simpa using c4
        have hlt2 : i < sp.length := by omega
        refine sw_skip (sw_seq (sw_block (sw_seq (xg hP 5 [] rfl ?_ ?_))))
        ·simp [conj, gE hlt, gE hlt2]
         repeat' apply And.intro
         all_goals first | assumption | omega | trivial | (simp_all; done) | (simp_all; omega)
        refine sw_seq ?_
        refine sw_dec hP 6 [] 2 rfl (fun g7_2 => ?_) (fun g7_2 => ?_)
        ·have hne : ¬ sl[i] = [] := by have h := g7_2; simp [gE hlt, gE hlt2] at h; exact h
         replace g7_2 : ¬ sl[i].length = 0 := fun e => hne (List.eq_nil_of_length_eq_zero e)
         refine sw_dec hP 6 [(2, true)] 6 rfl (fun g7_6 => ?_) (fun g7_6 => ?_)
         ·replace g7_6 : ¬ sl[i].length = 3 := by have h := g7_6; simp [gE hlt, gE hlt2] at h; omega
          refine xg hP 6 [(2, true), (6, true)] rfl ?_ ?_
          ·simp [conj, gE hlt, gE hlt2]
           repeat' apply And.intro
           all_goals first | assumption | omega | trivial | (simp_all; done) | (simp_all; omega)
          refine sw_condT rfl (sw_seq (xr hP 7 rfl (sw_ret ⟨.inl rfl, _, rfl, ?_⟩)))
          simp [conj]
          rw [← dok_eq]
          have h := slotsS_hit hlt hlt2 hgo (by simp [slotS, *])
          simp [dokV, h]
         ·replace g7_6 : sl[i].length = 3 := by have h := g7_6; simp [gE hlt, gE hlt2] at h; omega
          refine sw_dec hP 6 [(2, true), (6, false)] 12 rfl (fun g7_12 => ?_) (fun g7_12 => ?_)
          ·replace g7_12 : sp[i] = true := by have h := g7_12; simp [gE hlt, gE hlt2] at h; exact h
           refine sw_dec hP 6 [(2, true), (6, false), (12, true)] 17 rfl (fun g7_17 => ?_) (fun g7_17 => ?_)
           ·exfalso
            have h := g7_17; simp [gE hlt, gE hlt2] at h; exact hne h
           ·refine sw_dec hP 6 [(2, true), (6, false), (12, true), (17, false)] 21 rfl (fun g7_21 => ?_) (fun g7_21 => ?_)
            ·replace g7_21 : st = 1 := of_decide_eq_true g7_21
             refine xg hP 6 [(2, true), (6, false), (12, true), (17, false), (21, true)] rfl ?_ ?_
             ·simp [conj, gE hlt, gE hlt2]
              repeat' apply And.intro
              all_goals first | assumption | omega | trivial | (simp_all; done) | (simp_all; omega)
             refine sw_cond rfl (fun c7 => ?_) (fun c7 => ?_)
             ·refine sw_seq (xr hP 7 rfl (sw_ret ⟨.inl rfl, _, rfl, ?_⟩))
              simp [conj]
              rw [← dok_eq]
              have h := slotsS_hit hlt hlt2 hgo (by simp [slotS, *])
              simp [dokV, h]
             ·exfalso
              have h := c7; simp [gE hlt, gE hlt2] at h; first | omega | exact hne h | exact h hne
            ·replace g7_21 : ¬ st = 1 := of_decide_eq_false g7_21
             refine xg hP 6 [(2, true), (6, false), (12, true), (17, false), (21, false)] rfl ?_ ?_
             ·simp [conj, gE hlt, gE hlt2]
              repeat' apply And.intro
              all_goals first | assumption | omega | trivial | (simp_all; done) | (simp_all; omega)
             refine sw_condF rfl (sw_skip (xr hP 7 rfl (⟨i + 1, ?_, ?_, ent_ok rfl ?_⟩)))
             ·exact ⟨hlt, slotsS_next hlt hlt2 hgo (by simp [slotS, *])⟩
             ·omega
             ·simp [conj]
          ·replace g7_12 : sp[i] = false := by have h := g7_12; simp [gE hlt, gE hlt2] at h; exact h
           refine sw_dec hP 6 [(2, true), (6, false), (12, false)] 21 rfl (fun g7_21 => ?_) (fun g7_21 => ?_)
           ·replace g7_21 : st = 1 := of_decide_eq_true g7_21
            refine xg hP 6 [(2, true), (6, false), (12, false), (21, true)] rfl ?_ ?_
            ·simp [conj, gE hlt, gE hlt2]
             repeat' apply And.intro
             all_goals first | assumption | omega | trivial | (simp_all; done) | (simp_all; omega)
            refine sw_cond rfl (fun c7 => ?_) (fun c7 => ?_)
            ·refine sw_seq (xr hP 7 rfl (sw_ret ⟨.inl rfl, _, rfl, ?_⟩))
             simp [conj]
             rw [← dok_eq]
             have h := slotsS_hit hlt hlt2 hgo (by simp [slotS, *])
             simp [dokV, h]
            ·exfalso
             have h := c7; simp [gE hlt, gE hlt2] at h; first | omega | exact hne h | exact h hne
           ·replace g7_21 : ¬ st = 1 := of_decide_eq_false g7_21
            refine xg hP 6 [(2, true), (6, false), (12, false), (21, false)] rfl ?_ ?_
            ·simp [conj, gE hlt, gE hlt2]
             repeat' apply And.intro
             all_goals first | assumption | omega | trivial | (simp_all; done) | (simp_all; omega)
            refine sw_condF rfl (sw_skip (xr hP 7 rfl (⟨i + 1, ?_, ?_, ent_ok rfl ?_⟩)))
            ·exact ⟨hlt, slotsS_next hlt hlt2 hgo (by simp [slotS, *])⟩
            ·omega
            ·simp [conj]
        ·have hne : sl[i] = [] := by have h := g7_2; simp [gE hlt, gE hlt2] at h; exact h
         replace g7_2 : sl[i].length = 0 := by rw [hne]; rfl
         refine sw_dec hP 6 [(2, false)] 12 rfl (fun g7_12 => ?_) (fun g7_12 => ?_)
         ·replace g7_12 : sp[i] = true := by have h := g7_12; simp [gE hlt, gE hlt2] at h; exact h
          refine sw_dec hP 6 [(2, false), (12, true)] 17 rfl (fun g7_17 => ?_) (fun g7_17 => ?_)
          ·refine xg hP 6 [(2, false), (12, true), (17, true)] rfl ?_ ?_
           ·simp [conj, gE hlt, gE hlt2]
            repeat' apply And.intro
            all_goals first | assumption | omega | trivial | (simp_all; done) | (simp_all; omega)
           refine sw_condT rfl (sw_seq (xr hP 7 rfl (sw_ret ⟨.inl rfl, _, rfl, ?_⟩)))
           simp [conj]
           rw [← dok_eq]
           have h := slotsS_hit hlt hlt2 hgo (by simp [slotS, *])
           simp [dokV, h]
          ·exfalso
           have h := g7_17; simp [gE hlt, gE hlt2] at h; exact h hne
         ·replace g7_12 : sp[i] = false := by have h := g7_12; simp [gE hlt, gE hlt2] at h; exact h
          refine sw_dec hP 6 [(2, false), (12, false)] 21 rfl (fun g7_21 => ?_) (fun g7_21 => ?_)
          ·replace g7_21 : st = 1 := of_decide_eq_true g7_21
           refine xg hP 6 [(2, false), (12, false), (21, true)] rfl ?_ ?_
           ·simp [conj, gE hlt, gE hlt2]
            repeat' apply And.intro
            all_goals first | assumption | omega | trivial | (simp_all; done) | (simp_all; omega)
           refine sw_cond rfl (fun c7 => ?_) (fun c7 => ?_)
           ·exfalso
            have h := c7; simp [gE hlt, gE hlt2] at h; first | omega | exact hne h | exact h hne
           ·refine sw_skip (xr hP 7 rfl (⟨i + 1, ?_, ?_, ent_ok rfl ?_⟩))
            ·exact ⟨hlt, slotsS_next hlt hlt2 hgo (by simp [slotS, *])⟩
            ·omega
            ·simp [conj]
          ·replace g7_21 : ¬ st = 1 := of_decide_eq_false g7_21
           refine xg hP 6 [(2, false), (12, false), (21, false)] rfl ?_ ?_
           ·simp [conj, gE hlt, gE hlt2]
            repeat' apply And.intro
            all_goals first | assumption | omega | trivial | (simp_all; done) | (simp_all; omega)
           refine sw_condF rfl (sw_skip (xr hP 7 rfl (⟨i + 1, ?_, ?_, ent_ok rfl ?_⟩)))
           ·exact ⟨hlt, slotsS_next hlt hlt2 hgo (by simp [slotS, *])⟩
           ·omega
           ·simp [conj]
       ·obtain rfl : i = sl.length := by simp at c4; omega
        have hS := slotsS_end hgo
        refine sw_exit (sw_seq (sw_seq (xr hP 5 rfl (sw_block (sw_loop (ι := Nat) (fun i => ⟨[.j, .v false [.ptr ⟨1, 0, 0⟩ 0], .j, .j, .j, sInt .i64 (i : Int), .j, .j, .j, .j, .j, .j, .j, .j, .j, .j, .j, .j, .j, .j, .j, .j, .j, .j, .j, .j, .j, .j, .j, .j, .j, .j, .j, .j, .j, .j, .j, .j, .j, .j, .j, .j, .j, .j, .j, .j, .j, .j, .j, .j, .j, .j, .j, .j, .j, .j, .j, .j, .j, .j, .j, .j, .j, .j, .j, .j, .j, .j, .j, .j, .j, .j, .j, .j, .j, .j, .j, .j, .j, .j, .j, .j, .j, .j, .j, .j, .j, .j, .j, .j, .j, .j, .j, .j, .j, .j, .j, .j, .j, .j, .j, .j, .j, .j, .j, .j, .j, .j, .j, .j, .j, .j, .j, .j, .j, .j, .j, .j, .j, .j, .j, .j, .j, .j, .j], [(⟨1, 0, 0⟩, .var [.d TI pF st, .d (.sl .str) (.all .b) sl, .d (.sl .str) (.all .b) rg, .d (.sl .bool) (.all .b) sp, .d (.sl T_Put) (.all .b) wt])], 5, []⟩) (fun i => rg.length - i) (fun i => i ≤ rg.length ∧ (rg.drop i).any (ringS (decide (st = 1))) = rg.any (ringS (decide (st = 1)))) 0 ⟨?_, ?_⟩ ?_)))))
        ·exact ⟨Nat.zero_le _, rfl⟩
        ·refine ent_ok rfl ?_
         first | trivial | (simp [conj]; done) | (simp [conj] at *; (try dsimp only [Ty.den, Ty.dflt] at *); omega)
        ·rintro i ⟨hi, hgo⟩
         refine sw_seq (sw_seq (xr hP 6 rfl (sw_cond rfl (fun c10 => ?_) (fun c10 => ?_))))
         ·have hlt : i < rg.length := by simpa using c10
          refine sw_skip (sw_seq (sw_block (sw_seq ?_)))
          refine sw_dec hP 7 [] 7 rfl (fun g12_7 => ?_) (fun g12_7 => ?_)
          ·replace g12_7 : 700 < rg[i].length := by have h := g12_7; simp [gE hlt] at h; omega
           refine xg hP 7 [(7, true)] rfl ?_ ?_
           ·simp [conj, gE hlt]
            repeat' apply And.intro
            all_goals first | assumption | omega | trivial | (simp_all; done) | (simp_all; omega)
           refine sw_condT rfl (sw_seq (xr hP 8 rfl (sw_ret ⟨.inl rfl, _, rfl, ?_⟩)))
           simp [conj]
           rw [← dok_eq]
           have h := any_hitD hlt hgo (by simp [ringS, *])
           simp [dokV, h]
          ·replace g12_7 : ¬ 700 < rg[i].length := by have h := g12_7; simp [gE hlt] at h; omega
           refine sw_dec hP 7 [(7, false)] 11 rfl (fun g12_11 => ?_) (fun g12_11 => ?_)
           ·replace g12_11 : st = 1 := of_decide_eq_true g12_11
            refine xg hP 7 [(7, false), (11, true)] rfl ?_ ?_
            ·simp [conj, gE hlt]
             repeat' apply And.intro
             all_goals first | assumption | omega | trivial | (simp_all; done) | (simp_all; omega)
            refine sw_cond rfl (fun c12 => ?_) (fun c12 => ?_)
            ·replace c12 : 0 < rg[i].length := by have h := c12; simp [gE hlt] at h; first | omega | exact List.length_pos_iff.2 h
             refine sw_seq (xr hP 8 rfl (sw_ret ⟨.inl rfl, _, rfl, ?_⟩))
             simp [conj]
             rw [← dok_eq]
             have h := any_hitD hlt hgo (by simp [ringS, *])
             simp [dokV, h]
            ·replace c12 : ¬ 0 < rg[i].length := by have h := c12; simp [gE hlt] at h; first | omega | (rw [h]; simp)
             refine sw_skip (xr hP 8 rfl (⟨i + 1, ?_, ?_, ent_ok rfl ?_⟩))
             ·exact ⟨hlt, any_nextD hlt hgo (by simp [ringS, *]; try omega)⟩
             ·omega
             ·simp [conj]
           ·replace g12_11 : ¬ st = 1 := of_decide_eq_false g12_11
            refine xg hP 7 [(7, false), (11, false)] rfl ?_ ?_
            ·simp [conj, gE hlt]
             repeat' apply And.intro
             all_goals first | assumption | omega | trivial | (simp_all; done) | (simp_all; omega)
            refine sw_condF rfl (sw_skip (xr hP 8 rfl (⟨i + 1, ?_, ?_, ent_ok rfl ?_⟩)))
            ·exact ⟨hlt, any_nextD hlt hgo (by simp [ringS, *]; try omega)⟩
            ·omega
            ·simp [conj]
         ·obtain rfl : i = rg.length := by simp at c10; omega
          have hR := any_endD hgo
          refine sw_exit (sw_seq (sw_seq (xr hP 7 rfl (sw_block (sw_loop (ι := Nat) (fun i => ⟨[.j, .v false [.ptr ⟨1, 0, 0⟩ 0], .j, .j, .j, .j, sInt .i64 (i : Int), .j, .j, .j, .j, .j, .j, .j, .j, .j, .j, .j, .j, .j, .j, .j, .j, .j, .j, .j, .j, .j, .j, .j, .j, .j, .j, .j, .j, .j, .j, .j, .j, .j, .j, .j, .j, .j, .j, .j, .j, .j, .j, .j, .j, .j, .j, .j, .j, .j, .j, .j, .j, .j, .j, .j, .j, .j, .j, .j, .j, .j, .j, .j, .j, .j, .j, .j, .j, .j, .j, .j, .j, .j, .j, .j, .j, .j, .j, .j, .j, .j, .j, .j, .j, .j, .j, .j, .j, .j, .j, .j, .j, .j, .j, .j, .j, .j, .j, .j, .j, .j, .j, .j, .j, .j, .j, .j, .j, .j, .j, .j, .j, .j, .j, .j, .j, .j, .j], [(⟨1, 0, 0⟩, .var [.d TI pF st, .d (.sl .str) (.all .b) sl, .d (.sl .str) (.all .b) rg, .d (.sl .bool) (.all .b) sp, .d (.sl T_Put) (.all .b) wt])], 7, []⟩) (fun i => wt.length - i) (fun i => i ≤ wt.length ∧ (wt.drop i).any badP = wt.any badP) 0 ⟨?_, ?_⟩ ?_)))))
          ·exact ⟨Nat.zero_le _, rfl⟩
          ·refine ent_ok rfl ?_
           first | trivial | (simp [conj]; done) | (simp [conj] at *; (try dsimp only [Ty.den, Ty.dflt] at *); omega)
          ·rintro i ⟨hi, hgo⟩
           refine sw_seq (sw_seq (xr hP 8 rfl (sw_cond rfl (fun c15 => ?_) (fun c15 => ?_))))
           ·have hlt : i < wt.length := by simpa using c15
            refine sw_skip (sw_seq (sw_block (sw_seq (xg hP 9 [] rfl ?_ ?_))))
            ·simp [conj, gE hlt]
             repeat' apply And.intro
             all_goals first | assumption | omega | trivial | (simp_all; done) | (simp_all; omega)
            refine sw_cond rfl (fun c17 => ?_) (fun c17 => ?_)
            ·replace c17 : badP wt[i] = true := by have h := c17; simp [gE hlt] at h; simpa [badP] using h
             refine sw_seq (xr hP 10 rfl (sw_ret ⟨.inl rfl, _, rfl, ?_⟩))
             simp [conj]
             rw [← dok_eq]
             have h := any_hitD hlt hgo c17
             simp [dokV, h]
            ·replace c17 : badP wt[i] = false := by have h := c17; simp [gE hlt] at h; simpa [badP] using h
             refine sw_skip (xr hP 10 rfl (⟨i + 1, ?_, ?_, ent_ok rfl ?_⟩))
             ·exact ⟨hlt, any_nextD hlt hgo c17⟩
             ·omega
             ·simp [conj]
           ·obtain rfl : i = wt.length := by simp at c15; omega
            have hW := any_endD hgo
            refine sw_exit (sw_seq ?_)
            refine sw_dec hP 9 [] 3 rfl (fun g19_3 => ?_) (fun g19_3 => ?_)
            ·replace g19_3 : ¬ st = 1 := by have h := g19_3; simpa using h
             refine xg hP 9 [(3, true)] rfl ?_ ?_
             ·simp [conj]
              repeat' apply And.intro
              all_goals first | assumption | omega | trivial | (simp_all [stV]; done) | (simp_all [stV]; omega)
             refine sw_ret ⟨.inl rfl, _, rfl, ?_⟩
             simp [conj]
             rw [← dok_eq]
             have h : dokV ((st, sl, rg, sp, wt) : Dsk) = (decide (¬ st = 1) || decide (wt.length = 0)) := by unfold dokV; dsimp only; rw [hsh, hS, hR, hW]; rfl
             rw [h]
             simp [g19_3]
            ·replace g19_3 : st = 1 := by have h := g19_3; simpa using h
             refine xg hP 9 [(3, false)] rfl ?_ ?_
             ·simp [conj]
              repeat' apply And.intro
              all_goals first | assumption | omega | trivial | (simp_all [stV]; done) | (simp_all [stV]; omega)
             refine sw_ret ⟨.inl rfl, _, rfl, ?_⟩
             simp [conj]
             rw [← dok_eq]
             have h : dokV ((st, sl, rg, sp, wt) : Dsk) = (decide (¬ st = 1) || decide (wt.length = 0)) := by unfold dokV; dsimp only; rw [hsh, hS, hR, hW]; rfl
             rw [h]
             simp [g19_3]
end Go.Sx

namespace Go.Sx
open Go
set_option maxRecDepth 100000
set_option linter.unusedVariables false
set_option linter.unusedSimpArgs false
set_option maxHeartbeats 2000000
def cCopyD : Ctr := ⟨83, [.val true T_Disk (.all .b)], fun x => SmallD x.1, fun x => (.v true [.d TI pF (x.1).1, .own ⟨1, 0, 0⟩, .own ⟨1, 1, 0⟩, .own ⟨1, 2, 0⟩, .own ⟨1, 3, 0⟩], [(⟨1, 0, 0⟩, .sl .str (.all .w) (x.1).2.1), (⟨1, 1, 0⟩, .sl .str (.all .w) (x.1).2.2.1), (⟨1, 2, 0⟩, .sl .bool (.all .w) (x.1).2.2.2.1), (⟨1, 3, 0⟩, .sl T_Put (.all .w) (x.1).2.2.2.2)])⟩
theorem cCopyD_ok : CtrOk Proofs.Tryz.prog cCopyD := by
 have hP := (Prg.none ttok mtok)
 refine ctr_of_body hP cCopyD (fn := Proofs.Tryz.f83) (rts := [.cell 2 38]) Proofs.Tryz.func83 rfl (by kernel_rfl) rfl rfl ?_
 rintro ⟨⟨(st : Int), (sl : List Str), (rg : List Str), (sp : List Bool), (wt : List Put)⟩, ⟨⟩⟩ _ ⟨h1, h2, h3, h4⟩
 try dsimp only [Ty.den, Mode.den, mdens] at h1
 try dsimp only [Ty.den, Mode.den, mdens] at h2
 try dsimp only [Ty.den, Mode.den, mdens] at h3
 try dsimp only [Ty.den, Mode.den, mdens] at h4
 refine ⟨rfl, ?_⟩
 refine sw_seq (xr hP 1 rfl (sw_seq (xg hP 2 [] rfl ?_ ?_)))
 ·simp [conj, maxL]
  repeat' apply And.intro
  all_goals omega
 refine sw_ret ⟨.inl rfl, _, rfl, ?_⟩
 simp [conj]
def cComeS : Ctr := ⟨130, [.own true T_Disk (.all .w), .val true T_Put pF], fun x => putV x.2.1 = true ∧ (drvOf x.1).ok, fun x => (.v true [.d TI pF (comeD x.1 x.2.1).1, .own ⟨1, 0, 0⟩, .own ⟨1, 1, 0⟩, .own ⟨1, 2, 0⟩, .own ⟨1, 3, 0⟩], [(⟨1, 0, 0⟩, .sl .str (.all .w) (comeD x.1 x.2.1).2.1), (⟨1, 1, 0⟩, .sl .str (.all .w) (comeD x.1 x.2.1).2.2.1), (⟨1, 2, 0⟩, .sl .bool (.all .w) (comeD x.1 x.2.1).2.2.2.1), (⟨1, 3, 0⟩, .sl T_Put (.all .w) (comeD x.1 x.2.1).2.2.2.2)])⟩
theorem cComeS_ok : CtrOk Proofs.Tryz.prog cComeS := by
 have hP := (Prg.none ttok mtok)
 refine ctr_of_body hP cComeS (fn := Proofs.Tryz.f130) (rts := [.cell 4 38]) Proofs.Tryz.func130 rfl (by kernel_rfl) rfl rfl ?_
 rintro ⟨⟨(st : Int), (sl : List Str), (rg : List Str), (sp : List Bool), (wt : List Put)⟩, ⟨(rn : Bool), (at_ : Int), (tx : Str)⟩, ⟨⟩⟩ _ ⟨hp, ho1, ho2, ho3⟩
 try dsimp only [Ty.den, Mode.den, mdens] at hp
 try dsimp only [Ty.den, Mode.den, mdens] at ho1
 try dsimp only [Ty.den, Mode.den, mdens] at ho2
 try dsimp only [Ty.den, Mode.den, mdens] at ho3
 refine ⟨rfl, ?_⟩
 dsimp only [drvOf] at ho1 ho2 ho3
 refine sw_seq (xr hP 1 rfl (sw_seq (sw_seq (xr hP 2 rfl (sw_cond rfl (fun c1 => ?_) (fun c1 => ?_))))))
 ·replace c1 : rn = true := c1
  obtain ⟨h0, h1, h2⟩ := putV_ring hp c1
  dsimp only at h0 h1 h2
  have hv := come_ring (p := (rn, at_, tx)) (t := (sl, rg, sp)) c1
  refine sw_seq (xg hP 3 [] rfl ?_ ?_)
  ·simp only [conj, List.nil_append, List.cons_append, List.append_nil, List.append_assoc, inR_i64, true_and, and_true, Int.toNat_natCast]
   try dsimp only [Ty.den, Ty.dflt]
   repeat' apply And.intro
   all_goals first | rfl | omega | assumption | trivial
  refine sw_seq (xr hP 4 rfl (sw_ret ⟨.inl rfl, _, rfl, ?_⟩))
  simp [conj, comeD, dskOf, drvOf, hv]
 ·replace c1 : rn = false := c1
  obtain ⟨h0, h1, h2⟩ := putV_slot hp c1
  dsimp only at h0 h1 h2
  have hv := come_slot (p := (rn, at_, tx)) (t := (sl, rg, sp)) c1
  refine sw_skip (sw_seq (xg hP 3 [] rfl ?_ ?_))
  ·simp only [conj, List.nil_append, List.cons_append, List.append_nil, List.append_assoc, inR_i64, true_and, and_true, Int.toNat_natCast]
   try dsimp only [Ty.den, Ty.dflt]
   repeat' apply And.intro
   all_goals first | rfl | omega | assumption | trivial
  refine sw_seq (xg hP 4 [] rfl ?_ ?_)
  ·simp only [conj, List.nil_append, List.cons_append, List.append_nil, List.append_assoc, inR_i64, true_and, and_true, Int.toNat_natCast]
   try dsimp only [Ty.den, Ty.dflt]
   repeat' apply And.intro
   all_goals first | rfl | omega | assumption | trivial
  refine sw_seq (xr hP 5 rfl (sw_ret ⟨.inl rfl, _, rfl, ?_⟩))
  simp [conj, comeD, dskOf, drvOf, hv]
def cCrashS : Ctr := ⟨115, [.own true T_Disk (.all .w), .val false TI pF], fun x => (drvOf x.1).ok ∧ x.1.2.2.2.2.any badP = false ∧ List.length x.1.2.2.2.2 ≤ 40 ∧ 0 ≤ x.2.1, fun x => (.v true [.d TI pF (dskOf x.1.1 (comes (keepB x.2.1.toNat x.1.2.2.2.2) (drvOf x.1)) []).1, .own ⟨1, 0, 0⟩, .own ⟨1, 1, 0⟩, .own ⟨1, 2, 0⟩, .own ⟨1, 3, 0⟩], [(⟨1, 0, 0⟩, .sl .str (.all .w) (dskOf x.1.1 (comes (keepB x.2.1.toNat x.1.2.2.2.2) (drvOf x.1)) []).2.1), (⟨1, 1, 0⟩, .sl .str (.all .w) (dskOf x.1.1 (comes (keepB x.2.1.toNat x.1.2.2.2.2) (drvOf x.1)) []).2.2.1), (⟨1, 2, 0⟩, .sl .bool (.all .w) (dskOf x.1.1 (comes (keepB x.2.1.toNat x.1.2.2.2.2) (drvOf x.1)) []).2.2.2.1), (⟨1, 3, 0⟩, .sl T_Put (.all .w) (dskOf x.1.1 (comes (keepB x.2.1.toNat x.1.2.2.2.2) (drvOf x.1)) []).2.2.2.2)])⟩
theorem cCrashS_ok : CtrOk Proofs.Tryz.prog cCrashS := by
 have hP := ((Prg.none ttok mtok).and cComeS_ok)
 refine ctr_of_body hP cCrashS (fn := Proofs.Tryz.f115) (rts := [.cell 4 38]) Proofs.Tryz.func115 rfl (by kernel_rfl) rfl rfl ?_
 rintro ⟨⟨(st : Int), (sl : List Str), (rg : List Str), (sp : List Bool), (wt : List Put)⟩, (keep : Int), ⟨⟩⟩ ⟨_, hk, _⟩ ⟨ho, hw, h40, h0⟩
 try dsimp only [Ty.den, Mode.den, mdens] at ho
 try dsimp only [Ty.den, Mode.den, mdens] at hw
 try dsimp only [Ty.den, Mode.den, mdens] at h40
 try dsimp only [Ty.den, Mode.den, mdens] at h0
 refine ⟨rfl, ?_⟩
 have hkm : keep ≤ 9223372036854775807 := (inR_i64.1 hk).2
 replace h0 : 0 ≤ keep := h0
 replace h40 : wt.length ≤ 40 := h40
 replace hw : wt.any badP = false := hw
 replace ho : Drv.ok (sl, rg, sp) := ho
 refine sw_seq (xr hP 1 rfl (sw_seq (sw_seq (xr hP 2 rfl (sw_block (sw_loop (ι := Nat × Nat × Drv) (fun ⟨i, n, u⟩ => ⟨[.j, sInt .i64 (n : Int), .v false [.ptr ⟨1, 0, 0⟩ 0], .j, .v false [.ptr ⟨1, 1, 0⟩ 0], sInt .i64 (i : Int), .j, .j, .j, .j, .j, .j, .j, .j, .j, .j, .j, .j, .j, .j, .j, .j, .j, .j, .j, .j, .j, .j], [(⟨1, 0, 0⟩, .var [.d TI pF st, .own ⟨0, 9, 1⟩, .own ⟨0, 9, 2⟩, .own ⟨0, 9, 3⟩, .own ⟨0, 9, 4⟩]), (⟨0, 9, 1⟩, .sl .str (.all .w) u.1), (⟨0, 9, 2⟩, .sl .str (.all .w) u.2.1), (⟨0, 9, 3⟩, .sl .bool (.all .w) u.2.2), (⟨0, 9, 4⟩, .sl T_Put (.all .w) wt), (⟨1, 1, 0⟩, .var [.d TI pF 0, .nils, .nils, .nils, .nils])], 2, []⟩) (fun ⟨i, n, u⟩ => wt.length - i) (fun ⟨i, n, u⟩ => i ≤ wt.length ∧ n ≤ 9223372036854775807 ∧ comes (keepB n (wt.drop i)) u = comes (keepB keep.toNat wt) (sl, rg, sp) ∧ u.ok) (0, keep.toNat, (sl, rg, sp)) ⟨?_, ?_⟩ ?_))))))
 ·exact ⟨Nat.zero_le _, by show keep.toNat ≤ _; omega, rfl, ho⟩
 ·refine ent_ok rfl ?_
  simp [conj]
  try exact (Int.max_eq_left (by omega)).symm
  try omega
 ·rintro ⟨i, n, u⟩ ⟨hi, hn, hgo, hu⟩
  refine sw_seq (sw_seq (xr hP 3 rfl (sw_cond rfl (fun c2 => ?_) (fun c2 => ?_))))
  ·have hlt : i < wt.length := by simpa using c2
   have hg : (List.getD wt i T_Put.dflt : Put) = wt[i] := by rw [List.getD, gE hlt]; rfl
   have hp := wait_at hw hlt
   rw [← hg] at hp
   have htm : ((n : Nat) : Int).tmod 2 = ((n % 2 : Nat) : Int) := rfl
   have htd : ((n : Nat) : Int).tdiv 2 = ((n / 2 : Nat) : Int) := rfl
   have hdl := Nat.div_le_self n 2
   refine sw_skip (sw_seq (sw_block (sw_seq (sw_seq (xg hP 4 [] rfl ?_ ?_)))))
   ·simp only [conj, List.nil_append, List.cons_append, List.append_nil, List.append_assoc, inR_i64, true_and, and_true, Int.toNat_natCast]
    try dsimp only [Ty.den, Ty.dflt]
    repeat' apply And.intro
    all_goals first | rfl | omega | assumption | trivial
   refine sw_cond rfl (fun c4 => ?_) (fun c4 => ?_)
   ·have hb : n % 2 = 1 := by have h : ((n : Nat) : Int).tmod 2 = 1 := of_decide_eq_true c4; omega
    have hnx := keep_hit hlt hb hgo
    rw [← hg] at hnx
    refine xg hP 5 [] rfl ?_ ?_
    ·simp only [conj, List.nil_append, List.cons_append, List.append_nil, List.append_assoc, inR_i64, true_and, and_true, Int.toNat_natCast]
     try dsimp only [Ty.den, Ty.dflt]
     repeat' apply And.intro
     all_goals first | exact hp | exact hu.1 | exact hu.2.1 | exact hu.2.2 | rfl | omega | assumption | trivial
    refine xg hP 6 [] rfl ?_ ?_
    ·simp only [conj, List.nil_append, List.cons_append, List.append_nil, List.append_assoc, inR_i64, true_and, and_true, Int.toNat_natCast]
     try dsimp only [Ty.den, Ty.dflt]
     repeat' apply And.intro
     all_goals first | omega | trivial | (rw [htd]; omega)
    refine xg hP 7 [] rfl ?_ ?_
    ·simp only [conj, List.nil_append, List.cons_append, List.append_nil, List.append_assoc, inR_i64, true_and, and_true, Int.toNat_natCast]
     try dsimp only [Ty.den, Ty.dflt]
     repeat' apply And.intro
     all_goals first | rfl | omega | assumption | trivial
    refine ⟨(i + 1, n / 2, come (List.getD wt i T_Put.dflt) u), ?_, ?_, ent_ok rfl ?_⟩
    ·exact ⟨hlt, by show n / 2 ≤ _; omega, hnx, come_ok hu⟩
    ·show wt.length - (i + 1) < wt.length - i
     omega
    ·simp [conj, comeD, dskOf, drvOf, htd]
   ·have hb : ¬ n % 2 = 1 := by have h : ¬ ((n : Nat) : Int).tmod 2 = 1 := of_decide_eq_false c4; omega
    have hnx := keep_no hlt hb hgo
    refine sw_skip (xg hP 5 [] rfl ?_ ?_)
    ·simp only [conj, List.nil_append, List.cons_append, List.append_nil, List.append_assoc, inR_i64, true_and, and_true, Int.toNat_natCast]
     try dsimp only [Ty.den, Ty.dflt]
     repeat' apply And.intro
     all_goals first | omega | trivial | (rw [htd]; omega)
    refine xg hP 6 [] rfl ?_ ?_
    ·simp only [conj, List.nil_append, List.cons_append, List.append_nil, List.append_assoc, inR_i64, true_and, and_true, Int.toNat_natCast]
     try dsimp only [Ty.den, Ty.dflt]
     repeat' apply And.intro
     all_goals first | rfl | omega | assumption | trivial
    refine ⟨(i + 1, n / 2, u), ?_, ?_, ent_ok rfl ?_⟩
    ·exact ⟨hlt, by show n / 2 ≤ _; omega, hnx, hu⟩
    ·show wt.length - (i + 1) < wt.length - i
     omega
    ·simp [conj, comeD, dskOf, drvOf, htd]
  ·obtain rfl : i = wt.length := by simp at c2; omega
   refine sw_exit (sw_seq (xr hP 4 rfl (sw_seq (xr hP 5 rfl (sw_ret ⟨.inl rfl, _, rfl, ?_⟩)))))
   have hv := keep_end hgo
   subst hv
   simp [conj, dskOf, drvOf]
end Go.Sx

namespace Go.Sx
open Go
def mPlc : Mk Plc := mkPair mkI mkI
def mPtr : Mk Ptr_ := mkPair mkI (mkPair mkI (mkList mPlc))
def mVol : Mk Vol_ := mkPair mkStr (mkList mPtr)
theorem mPlc_ok : MkOk mPlc := mkPair_ok mkI_ok mkI_ok
theorem mPtr_ok : MkOk mPtr := mkPair_ok mkI_ok (mkPair_ok mkI_ok (mkList_ok mPlc_ok))
theorem mVol_ok : MkOk mVol := mkPair_ok mkStr_ok (mkList_ok mPtr_ok)
theorem nx_plcs : ∀ {l : List Plc} {k : Int}, nxLs mPlc k l = k + 2 * (l.length : Int) := by
 intro l
 induction l with
 | nil => intro k; show k = k + 2 * (0 : Int); omega
 | cons x r ih =>
  intro k
  show nxLs mPlc (k + 1 + 1) r = _
  rw [ih, List.length_cons]
  omega
theorem nx_ptrs : ∀ {l : List Ptr_} {k : Int}, (∀ p ∈ l, p.2.2.length ≤ 4) → nxLs mPtr k l ≤ k + 10 * (l.length : Int) := by
 intro l
 induction l with
 | nil => intro k _; show k ≤ k + 10 * (0 : Int); omega
 | cons x r ih =>
  intro k h
  have h1 := h x List.mem_cons_self
  have h2 := ih (k := nxLs mPlc (k + 1 + 1) x.2.2) fun p hp => h p (List.mem_cons_of_mem _ hp)
  show nxLs mPtr (nxLs mPlc (k + 1 + 1) x.2.2) r ≤ _
  rw [nx_plcs] at h2
  rw [nx_plcs, List.length_cons]
  omega
theorem nx_vols : ∀ {l : List Vol_} {k : Int}, (∀ v ∈ l, v.2.length ≤ 3 ∧ ∀ p ∈ v.2, p.2.2.length ≤ 4) → nxLs mVol k l ≤ k + 31 * (l.length : Int) := by
 intro l
 induction l with
 | nil => intro k _; show k ≤ k + 31 * (0 : Int); omega
 | cons x r ih =>
  intro k h
  have h1 := h x List.mem_cons_self
  have h2 := ih (k := nxLs mPtr (k + 1) x.2) fun p hp => h p (List.mem_cons_of_mem _ hp)
  have h3 := nx_ptrs (k := k + 1) h1.2
  show nxLs mVol (nxLs mPtr (k + 1) x.2) r ≤ _
  rw [List.length_cons]
  omega
def FitV (l : List Vol_) : Prop := l.length ≤ 5 ∧ ∀ v ∈ l, v.2.length ≤ 3 ∧ ∀ p ∈ v.2, p.2.2.length ≤ 4
theorem fitV_nil : FitV [] := ⟨Nat.zero_le _, fun v h => by cases h⟩
theorem fitV_nx {l : List Vol_} (h : FitV l) : 1 ≤ nxLs mVol 1 l ∧ nxLs mVol 1 l ≤ 1000 := by
 refine ⟨(mkList_ok mVol_ok).ge 1 l, ?_⟩
 have := nx_vols (k := 1) h.2
 have := h.1
 omega
end Go.Sx

namespace Go.Sx
open Go
abbrev Pol := List Dsk × Bool × Root_ × Root_
instance : DecidableEq Put := instDecidableEqProd
instance : DecidableEq Dsk := instDecidableEqProd
instance : DecidableEq Pol := instDecidableEqProd
def mPut : Mk Put := mkPair mkBool (mkPair mkI mkStr)
def mDsk : Mk Dsk := mkPair mkI (mkPair (mkList mkStr) (mkPair (mkList mkStr) (mkPair (mkList mkBool) (mkList mPut))))
def mRoot : Mk Root_ := mkPair mkNo (mkList mVol)
def mPol : Mk Pol := mkPair (mkList mDsk) (mkPair mkNo (mkPair mRoot mRoot))
theorem mPut_ok : MkOk mPut := mkPair_ok mkBool_ok (mkPair_ok mkI_ok mkStr_ok)
theorem mDsk_ok : MkOk mDsk := mkPair_ok mkI_ok (mkPair_ok (mkList_ok mkStr_ok) (mkPair_ok (mkList_ok mkStr_ok) (mkPair_ok (mkList_ok mkBool_ok) (mkList_ok mPut_ok))))
theorem mRoot_ok : MkOk mRoot := mkPair_ok mkNo_ok (mkList_ok mVol_ok)
theorem mPol_ok : MkOk mPol := mkPair_ok (mkList_ok mDsk_ok) (mkPair_ok mkNo_ok (mkPair_ok mRoot_ok mRoot_ok))
def MkSz {α : Type} (m : Mk α) (f : α → Int → Int) (c : Int) : Prop := ∀ x left k, 0 ≤ left → 0 ≤ f x left → m.nx k x ≤ k + 3 * (left - f x left) + c
theorem mkSz_list {α : Type} {m : Mk α} {f : α → Int → Int} (hf : SzOk f) (h : MkSz m f 3) : MkSz (mkList m) (szL f) 0 := by
 have go : ∀ (l : List α) (left k : Int), 0 ≤ left → 0 ≤ szGo f l left → nxLs m k l ≤ k + 3 * (left - szGo f l left) + 3 * (l.length : Int) := by
  intro l
  induction l with
  | nil => intro left k _ _; simp only [nxLs, szGo, List.length_nil]; omega
  | cons x r ih =>
   intro left k h0 h1
   simp only [szGo] at h1 ⊢
   split at h1
   ·omega
   ·rename_i hn
    rw [if_neg hn]
    have a := h x left k h0 (by omega)
    have b := ih (f x left) (m.nx k x) (by omega) h1
    simp only [nxLs, List.length_cons]
    push_cast
    omega
 intro l left k h0 h1
 show nxLs m k l ≤ _
 unfold szL at h1 ⊢
 split at h1
 ·omega
 ·rename_i hn
  rw [if_neg hn]
  have := go l (left - l.length) k (by omega) h1
  omega
theorem nx_one {α : Type} [DecidableEq α] {n : Int} {f : Int → α} : ∀ {l : List α} {k : Int}, nxLs (mkOne n f) k l = k + n * (l.length : Int) := by
 intro l
 induction l with
 | nil => intro k; show k = k + n * (0 : Int); omega
 | cons x r ih =>
  intro k
  show nxLs (mkOne n f) (k + n) r = _
  rw [ih, List.length_cons]
  push_cast
  rw [Int.mul_add]
  omega
theorem nx_puts : ∀ {l : List Put} {k : Int}, nxLs mPut k l = k + 3 * (l.length : Int) := by
 intro l
 induction l with
 | nil => intro k; show k = k + 3 * (0 : Int); omega
 | cons x r ih =>
  intro k
  show nxLs mPut (k + 1 + 1 + 1) r = _
  rw [ih, List.length_cons]
  omega
theorem szA_cnt {α : Type} {w : α → Nat} {l : List α} {left : Int} (h : 0 ≤ szA w l left) : szA w l left ≤ left - (l.length : Int) := by
 unfold szA at h ⊢
 split at h
 ·omega
 ·rename_i hn
  rw [if_neg hn]
  have := szGo_bdD (w := w) (l := l) (left := left - l.length) (by omega)
  omega
theorem szD_ok : SzOk szD := by
 intro d left h
 have a1 := szA_bd (w := lenS) (l := d.2.1) h
 unfold szD
 split
 ·omega
 ·rename_i h1
  have a2 := szA_bd (w := lenS) (l := d.2.2.1) (left := szA lenS d.2.1 left) (by omega)
  split
  ·omega
  ·rename_i h2
   have a3 := szA_bd (w := len0) (l := d.2.2.2.1) (left := szA lenS d.2.2.1 (szA lenS d.2.1 left)) (by omega)
   split
   ·omega
   ·have a4 := szA_bd (w := lenP) (l := d.2.2.2.2) (left := szA len0 d.2.2.2.1 (szA lenS d.2.2.1 (szA lenS d.2.1 left))) (by omega)
    omega
theorem szD_sm (d : Dsk) (left : Int) (h0 : 0 ≤ left) (h1 : left ≤ 1048576) (h : 0 ≤ szD d left) : SmallD d ∧ mDsk.nx 0 d ≤ 3 * (left - szD d left) + 1 ∧ True := by
 have a1 := szA_bd (w := lenS) (l := d.2.1) h0
 unfold szD at h ⊢
 split at h
 ·omega
 ·rename_i k1
  have a2 := szA_bd (w := lenS) (l := d.2.2.1) (left := szA lenS d.2.1 left) (by omega)
  split at h
  ·omega
  ·rename_i k2
   have a3 := szA_bd (w := len0) (l := d.2.2.2.1) (left := szA lenS d.2.2.1 (szA lenS d.2.1 left)) (by omega)
   split at h
   ·omega
   ·rename_i k3
    rw [if_neg k1, if_neg k2, if_neg k3]
    have b1 := szA_cnt (w := lenS) (l := d.2.1) (left := left) (by omega)
    have b2 := szA_cnt (w := lenS) (l := d.2.2.1) (left := szA lenS d.2.1 left) (by omega)
    have b3 := szA_cnt (w := len0) (l := d.2.2.2.1) (left := szA lenS d.2.2.1 (szA lenS d.2.1 left)) (by omega)
    have b4 := szA_cnt (w := lenP) (l := d.2.2.2.2) (left := szA len0 d.2.2.2.1 (szA lenS d.2.2.1 (szA lenS d.2.1 left))) h
    refine ⟨⟨by omega, by omega, by omega, by omega⟩, ?_, trivial⟩
    show nxLs mPut (nxLs mkBool (nxLs mkStr (nxLs mkStr (0 + 1) d.2.1) d.2.2.1) d.2.2.2.1) d.2.2.2.2 ≤ _
    rw [nx_puts]
    unfold mkBool mkStr
    rw [nx_one, nx_one, nx_one]
    omega
theorem nx_dsk (k : Int) (d : Dsk) : mDsk.nx k d = k + mDsk.nx 0 d := by
 show nxLs mPut (nxLs mkBool (nxLs mkStr (nxLs mkStr (k + 1) d.2.1) d.2.2.1) d.2.2.2.1) d.2.2.2.2 = k + nxLs mPut (nxLs mkBool (nxLs mkStr (nxLs mkStr (0 + 1) d.2.1) d.2.2.1) d.2.2.2.1) d.2.2.2.2
 rw [nx_puts, nx_puts]
 unfold mkBool mkStr
 rw [nx_one, nx_one, nx_one, nx_one, nx_one, nx_one]
 omega
theorem szD_mk : MkSz mDsk szD 3 := by
 intro d left k h0 h
 have a1 := szA_bd (w := lenS) (l := d.2.1) h0
 rw [nx_dsk]
 unfold szD at h ⊢
 split at h
 ·omega
 ·rename_i k1
  have a2 := szA_bd (w := lenS) (l := d.2.2.1) (left := szA lenS d.2.1 left) (by omega)
  split at h
  ·omega
  ·rename_i k2
   have a3 := szA_bd (w := len0) (l := d.2.2.2.1) (left := szA lenS d.2.2.1 (szA lenS d.2.1 left)) (by omega)
   split at h
   ·omega
   ·rename_i k3
    rw [if_neg k1, if_neg k2, if_neg k3]
    have b1 := szA_cnt (w := lenS) (l := d.2.1) (left := left) (by omega)
    have b2 := szA_cnt (w := lenS) (l := d.2.2.1) (left := szA lenS d.2.1 left) (by omega)
    have b3 := szA_cnt (w := len0) (l := d.2.2.2.1) (left := szA lenS d.2.2.1 (szA lenS d.2.1 left)) (by omega)
    have b4 := szA_cnt (w := lenP) (l := d.2.2.2.2) (left := szA len0 d.2.2.2.1 (szA lenS d.2.2.1 (szA lenS d.2.1 left))) h
    show k + nxLs mPut (nxLs mkBool (nxLs mkStr (nxLs mkStr (0 + 1) d.2.1) d.2.2.1) d.2.2.2.1) d.2.2.2.2 ≤ _
    rw [nx_puts]
    unfold mkBool mkStr
    rw [nx_one, nx_one, nx_one]
    omega
theorem szP_mk : MkSz mPtr szP 3 := by
 intro p left k h0 h
 show nxLs mPlc (k + 1 + 1) p.2.2 ≤ _
 rw [nx_plcs]
 unfold szP szPl at h ⊢
 split at h
 ·omega
 ·rename_i hn
  rw [if_neg hn]
  omega
theorem szV_mk : MkSz mVol szV 3 := by
 intro v left k h0 h
 show nxLs mPtr (k + 1) v.2 ≤ _
 unfold szV at h ⊢
 split at h
 ·omega
 ·rename_i hn
  rw [if_neg hn]
  have := mkSz_list szP_ok szP_mk v.2 (left - v.1.length) (k + 1) (by omega) h
  have h2 : nxLs mPtr (k + 1) v.2 ≤ k + 1 + 3 * ((left - v.1.length) - szPs v.2 (left - v.1.length)) + 0 := this
  omega
def szR (r : Root_) (left : Int) : Int := szVs r.2 left
theorem szR_ok : SzOk szR := fun r left h => szVs_ok r.2 left h
theorem szR_mk : MkSz mRoot szR 0 := fun r left k h0 h => mkSz_list szV_ok szV_mk r.2 left k h0 h
def szDs (l : List Dsk) (left : Int) : Int := szL szD l left
theorem szDs_ok : SzOk szDs := szL_ok szD_ok
theorem szDs_mk : MkSz (mkList mDsk) szDs 0 := mkSz_list szD_ok szD_mk
def szPo (p : Pol) (left : Int) : Int :=
 if szDs p.1 left < 0 then -1 else if szR p.2.2.1 (szDs p.1 left) < 0 then -1 else szR p.2.2.2 (szR p.2.2.1 (szDs p.1 left))
theorem szPo_ok : SzOk szPo := by
 intro p left h
 have a := szDs_ok p.1 left h
 unfold szPo
 split
 ·omega
 ·have b := szR_ok p.2.2.1 (szDs p.1 left) (by omega)
  split
  ·omega
  ·have c := szR_ok p.2.2.2 (szR p.2.2.1 (szDs p.1 left)) (by omega)
   omega
theorem szPo_mk : MkSz mPol szPo 0 := by
 intro p left k h0 h
 have a := szDs_ok p.1 left h0
 unfold szPo at h ⊢
 split at h
 ·omega
 ·rename_i h1
  have b := szR_ok p.2.2.1 (szDs p.1 left) (by omega)
  split at h
  ·omega
  ·rename_i h2
   rw [if_neg h1, if_neg h2]
   have x1 := szDs_mk p.1 left k h0 (by omega)
   have x2 := szR_mk p.2.2.1 (szDs p.1 left) (nxLs mDsk k p.1) (by omega) (by omega)
   have x3 := szR_mk p.2.2.2 (szR p.2.2.1 (szDs p.1 left)) (mRoot.nx (nxLs mDsk k p.1) p.2.2.1) (by omega) h
   have x1' : nxLs mDsk k p.1 ≤ k + 3 * (left - szDs p.1 left) + 0 := x1
   show mRoot.nx (mRoot.nx (nxLs mDsk k p.1) p.2.2.1) p.2.2.2 ≤ _
   omega
def SmDs (l : List Dsk) : Prop := l.length ≤ 1048576 ∧ ∀ d ∈ l, SmallD d
def SmPo (p : Pol) : Prop := SmDs p.1 ∧ SmVs p.2.2.1.2 ∧ SmVs p.2.2.2.2
theorem szDs_sm (l : List Dsk) (left : Int) (h0 : 0 ≤ left) (h1 : left ≤ 1048576) (h : 0 ≤ szDs l left) : SmDs l := by
 unfold szDs szL at h
 split at h
 ·omega
 ·exact ⟨by omega, szGo_sm szD_ok (fun d a x y z => (szD_sm d a x y z).1) (by omega) (by omega) h⟩
theorem szPo_sm (p : Pol) (left : Int) (h0 : 0 ≤ left) (h1 : left ≤ 1048576) (h : 0 ≤ szPo p left) : SmPo p := by
 have a := szDs_ok p.1 left h0
 unfold szPo at h
 split at h
 ·omega
 ·have b := szR_ok p.2.2.1 (szDs p.1 left) (by omega)
  split at h
  ·omega
  ·exact ⟨szDs_sm p.1 left h0 h1 (by omega), szVs_sm p.2.2.1.2 _ (by omega) (by omega) (show 0 ≤ szR p.2.2.1 (szDs p.1 left) by omega), szVs_sm p.2.2.2.2 _ (by omega) (by omega) h⟩
theorem nx_pos {α : Type} {m : Mk α} (h : MkOk m) (x : α) : 1 ≤ m.nx 1 x := h.ge 1 x
theorem szPo_cnt {p : Pol} (h : 0 ≤ szPo p 1048576) : 1 ≤ mPol.nx 1 p ∧ mPol.nx 1 p ≤ 4000000 := by
 have := szPo_mk p 1048576 1 (by decide) h
 exact ⟨nx_pos mPol_ok p, by omega⟩
end Go.Sx

namespace Go.Sx
open Go
def noD (d : Dsk) : Bool := !rdV d
def stripeV (ds : List Dsk) : Bool := poolV (ds.length : Int) && !(ds.any noD)
def keepA (ks : List Int) (i : Nat) : Int := if i < ks.length ∧ 0 < ks.getD i 0 then ks.getD i 0 else 0
def crashGo (ks : List Int) : Nat → List Dsk → List Dsk
 | _, [] => []
 | i, d :: r => crashV d (keepA ks i) :: crashGo ks (i + 1) r
def zR : Root_ := (0, [])
def pcrashV (p : Pol) (ks : List Int) : Pol := if stripeV p.1 = true then (crashGo ks 0 p.1, false, zR, zR) else ([], false, zR, zR)
theorem keepA_nn (ks : List Int) (i : Nat) : 0 ≤ keepA ks i := by
 unfold keepA
 split
 ·omega
 ·exact Int.le_refl _
theorem keepA_max {ks : List Int} {i : Nat} (h : i < ks.length) : sMax 0 ks[i] = keepA ks i := by
 unfold keepA sMax
 rw [List.getD_eq_getElem?_getD, gE h]
 by_cases h2 : 0 < ks[i]
 ·simp [h2, h]
 ·simp [h2]
theorem keepA_out {ks : List Int} {i : Nat} (h : ¬ i < ks.length) : keepA ks i = 0 := if_neg fun x => h x.1
theorem crashGo_app {ks : List Int} : ∀ {a b : List Dsk} {i : Nat}, crashGo ks i (a ++ b) = crashGo ks i a ++ crashGo ks (i + a.length) b := by
 intro a
 induction a with
 | nil => intro b i; rfl
 | cons d r ih =>
  intro b i
  simp only [List.cons_append, crashGo, ih, List.length_cons]
  rw [show i + 1 + r.length = i + (r.length + 1) by omega]
theorem crashGo_len {ks : List Int} : ∀ {l : List Dsk} {i : Nat}, (crashGo ks i l).length = l.length := by
 intro l
 induction l with
 | nil => intro i; rfl
 | cons d r ih => intro i; simp only [crashGo, List.length_cons, ih]
theorem crash_next {ks : List Int} {ds : List Dsk} {i : Nat} (h : i < ds.length) : crashGo ks 0 (ds.take i) ++ [crashV ds[i] (keepA ks i)] = crashGo ks 0 (ds.take (i + 1)) := by
 rw [List.take_succ_eq_append_getElem h, crashGo_app]
 congr 1
 simp only [crashGo]
 rw [List.length_take, Nat.min_eq_left (by omega), Nat.zero_add]
theorem crashGo_fit {ks : List Int} : ∀ {l : List Dsk} {i : Nat}, ∀ d ∈ crashGo ks i l, FitD d := by
 intro l
 induction l with
 | nil => intro i d h; cases h
 | cons x r ih =>
  intro i d h
  simp only [crashGo] at h
  rcases List.mem_cons.1 h with rfl | h
  ·exact crashV_fit
  ·exact ih d h
theorem stripe_len {ds : List Dsk} (h : stripeV ds = true) : ds.length ≤ 4 := by
 simp only [stripeV, poolV, inV, Bool.and_eq_true, decide_eq_true_eq] at h
 omega
theorem stripe_all {ds : List Dsk} (h : stripeV ds = true) : ∀ d ∈ ds, rdV d = true := by
 simp only [stripeV, Bool.and_eq_true, Bool.not_eq_true', List.any_eq_false] at h
 intro d hd
 have := h.2 d hd
 simpa [noD] using this
def FitDs (l : List Dsk) : Prop := l.length ≤ 4 ∧ ∀ d ∈ l, FitD d
def FitPo (p : Pol) : Prop := FitDs p.1 ∧ FitV p.2.2.1.2 ∧ FitV p.2.2.2.2
theorem nx_fitD {d : Dsk} (h : FitD d) : mDsk.nx 0 d ≤ 147 := by
 obtain ⟨a, b, c, e⟩ := h
 show nxLs mPut (nxLs mkBool (nxLs mkStr (nxLs mkStr (0 + 1) d.2.1) d.2.2.1) d.2.2.2.1) d.2.2.2.2 ≤ _
 rw [nx_puts]
 unfold mkBool mkStr
 rw [nx_one, nx_one, nx_one]
 omega
theorem nx_fitDs : ∀ {l : List Dsk} {k : Int}, (∀ d ∈ l, FitD d) → nxLs mDsk k l ≤ k + 147 * (l.length : Int) := by
 intro l
 induction l with
 | nil => intro k _; show k ≤ k + 147 * (0 : Int); omega
 | cons x r ih =>
  intro k h
  have h1 := nx_fitD (h x List.mem_cons_self)
  have h2 := ih (k := mDsk.nx k x) fun d hd => h d (List.mem_cons_of_mem _ hd)
  have h3 := nx_dsk k x
  show nxLs mDsk (mDsk.nx k x) r ≤ _
  rw [List.length_cons]
  push_cast
  omega
theorem nx_fitV {l : List Vol_} {k : Int} (h : FitV l) : nxLs mVol k l ≤ k + 155 := by
 have := nx_vols (k := k) h.2
 have := h.1
 omega
theorem nx_fitPo {p : Pol} (h : FitPo p) : 1 ≤ mPol.nx 1 p ∧ mPol.nx 1 p ≤ 1000 := by
 refine ⟨nx_pos mPol_ok p, ?_⟩
 obtain ⟨⟨a, b⟩, c, d⟩ := h
 have h1 := nx_fitDs (k := 1) b
 have h2 := nx_fitV (k := nxLs mDsk 1 p.1) c
 have h3 := nx_fitV (k := nxLs mVol (nxLs mDsk 1 p.1) p.2.2.1.2) d
 show nxLs mVol (nxLs mVol (nxLs mDsk 1 p.1) p.2.2.1.2) p.2.2.2.2 ≤ _
 omega
theorem pcrash_fit {p : Pol} {ks : List Int} : FitPo (pcrashV p ks) := by
 unfold pcrashV
 split
 ·rename_i h
  exact ⟨⟨by show (crashGo ks 0 p.1).length ≤ 4; rw [crashGo_len]; exact stripe_len h, crashGo_fit⟩, fitV_nil, fitV_nil⟩
 ·exact ⟨⟨Nat.zero_le _, fun d h => by cases h⟩, fitV_nil, fitV_nil⟩
theorem all_any {l : List Dsk} : l.all rdV = !(l.any noD) := by
 induction l with
 | nil => rfl
 | cons d r ih => simp only [List.all_cons, List.any_cons, ih, noD, Bool.not_or, Bool.not_not]
end Go.Sx

namespace Go.Sx
open Go
set_option maxRecDepth 100000
set_option linter.unusedVariables false
set_option linter.unusedSimpArgs false
set_option maxHeartbeats 2000000
def cDOk : Ctr := ⟨121, [.val true T_Disk (.all .b)], fun _ => True, fun x => (sBool (rdV x.1), [])⟩
theorem cDOk_ok : CtrOk Proofs.Tryz.prog cDOk := by
 have hP := (Prg.none ttok mtok)
 refine ctr_of_body hP cDOk (fn := Proofs.Tryz.f121) (rts := [.tmp 2]) Proofs.Tryz.func121 rfl (by kernel_rfl) rfl rfl ?_
 rintro ⟨⟨(st : Int), (sl : List Str), (rg : List Str), (sp : List Bool), (wt : List Put)⟩, ⟨⟩⟩ _ _
 try dsimp only [Ty.den, Mode.den, mdens] at _
 refine ⟨rfl, ?_⟩
 by_cases h1 : rdV ((st, sl, rg, sp, wt) : Dsk) = true
 ·have hP := ((Prg.none ttok mtok).and cRead_ok)
  refine sw_seq (xr hP 1 rfl (sw_seq (xg hP 2 [] rfl ?_ ?_)))
  ·simp [conj, maxL]
   try dsimp only [Ty.den, Ty.dflt]
   try simp only [rd_eta]
   exact h1
  refine sw_seq (xr hP 3 rfl (sw_ret ⟨.inl rfl, _, rfl, ?_⟩))
  simp [conj, h1]
 ·have hP := ((Prg.none ttok mtok).and cReadB_ok)
  have h1b : rdV ((st, sl, rg, sp, wt) : Dsk) = false := by simpa using h1
  refine sw_seq (xr hP 1 rfl (sw_seq (xg hP 2 [] rfl ?_ ?_)))
  ·simp [conj, maxL]
   try dsimp only [Ty.den, Ty.dflt]
   try simp only [rd_eta]
   exact h1b
  refine sw_seq (xr hP 3 rfl (sw_ret ⟨.inl rfl, _, rfl, ?_⟩))
  simp [conj, h1b]
def cStr1 : Ctr := ⟨120, [.val true T_Disk (.all .b)], fun x => True, fun x => (sBool (noD x.1), [])⟩
theorem cStr1_ok : CtrOk Proofs.Tryz.prog cStr1 := by
 have hP := ((Prg.none ttok mtok).and cDOk_ok)
 refine ctr_of_body hP cStr1 (fn := Proofs.Tryz.f120) (rts := [.tmp 2]) Proofs.Tryz.func120 rfl (by kernel_rfl) rfl rfl ?_
 rintro ⟨⟨(st : Int), (sl : List Str), (rg : List Str), (sp : List Bool), (wt : List Put)⟩, ⟨⟩⟩ _ _
 try dsimp only [Ty.den, Mode.den, mdens] at _
 refine ⟨rfl, ?_⟩
 refine sw_seq (xr hP 1 rfl (sw_seq (xg hP 2 [] rfl ?_ ?_)))
 ·simp [conj, maxL]
  try dsimp only [Ty.den, Ty.dflt]
  try simp only [rd_eta]
  try trivial
 refine sw_ret ⟨.inl rfl, _, rfl, ?_⟩
 simp [conj, noD]
def cIdxD : Ctr := ⟨154, [.val false (.sl T_Disk) (.all .b), .clo 120 []], fun _ => True, fun x => (sInt .i64 (idxF noD x.1), [])⟩
theorem cIdxD_ok : CtrOk Proofs.Tryz.prog cIdxD := by
 have hP := ((Prg.none ttok mtok).and cStr1_ok)
 refine ctr_of_body hP cIdxD (fn := Proofs.Tryz.f154) (rts := [.tmp 4]) Proofs.Tryz.func154 rfl (by kernel_rfl) rfl rfl ?_
 rintro ⟨(l : List Dsk), ⟨⟩, ⟨⟩⟩ ⟨hdl, _⟩ hpre
 try dsimp only [Ty.den, Mode.den, mdens] at hpre
 refine ⟨rfl, ?_⟩
 have hml : l.length ≤ 140737488355328 := hdl.1
 refine sw_seq (xr hP 1 rfl (sw_seq (sw_seq (xr hP 2 rfl (sw_block (sw_loop (ι := Nat) (fun i => ⟨[.v false [.d (.sl T_Disk) (.all .b) l], .fn 120 [], .j, .j, .j, .j, .j, sInt .i64 (l.length : Int), sInt .i64 (i : Int), .j, .j, .j, .j, .j, .j, .j, .j, .j, .j], [], 2, []⟩) (fun i => l.length - i) (fun i => i ≤ l.length ∧ idxFGo noD (l.drop i) i = idxF noD l) 0 ⟨?_, ?_⟩ ?_))))))
 ·exact ⟨Nat.zero_le _, rfl⟩
 ·refine ent_ok rfl ?_
  first | trivial | (simp [conj]; done) | (simp [conj] at *; (try dsimp only [Ty.den, Ty.dflt] at *); omega)
 ·rintro i ⟨hi, hgo⟩
  refine sw_seq (xr hP 3 rfl (sw_seq (sw_cond rfl (fun c2 => ?_) (fun c2 => ?_))))
  ·have hlt : i < l.length := by simpa using c2
   refine sw_skip (sw_seq (sw_block (sw_seq (xr hP 4 rfl (sw_seq (xg hP 5 [] rfl ?_ ?_))))))
   ·simp [conj, maxL]
    try dsimp only [Ty.den, Ty.dflt]
    try simp only [rd_eta]
    repeat' apply And.intro
    all_goals first | assumption | omega | exact trivial
   refine sw_cond rfl (fun c4 => ?_) (fun c4 => ?_)
   ·replace c4 : noD l[i] = true := by simpa [gE hlt] using c4
    refine sw_seq (xr hP 6 rfl (sw_ret ⟨.inl rfl, _, rfl, ?_⟩))
    simp [conj, idxF_hit hlt hgo c4]
   ·replace c4 : noD l[i] = false := by simpa [gE hlt] using c4
    refine sw_skip (xr hP 6 rfl (⟨i + 1, ?_, ?_, ent_ok rfl ?_⟩))
    ·exact ⟨hlt, idxF_next hlt hgo c4⟩
    ·omega
    ·simp [conj, maxL]
     try dsimp only [Ty.den, Ty.dflt]
     try simp only [rd_eta]
     repeat' apply And.intro
     all_goals first | rfl | assumption | omega
  ·obtain rfl : i = l.length := by simp at c2; omega
   refine sw_exit (sw_seq (xr hP 4 rfl (sw_ret ⟨.inl rfl, _, rfl, ?_⟩)))
   simp [conj, idxF_end hgo]
def cContD : Ctr := ⟨119, [.val false (.sl T_Disk) (.all .b), .clo 120 []], fun _ => True, fun x => (sBool (List.any x.1 noD), [])⟩
theorem cContD_ok : CtrOk Proofs.Tryz.prog cContD := by
 have hP := ((Prg.none ttok mtok).and cIdxD_ok)
 refine ctr_of_body hP cContD (fn := Proofs.Tryz.f119) (rts := [.tmp 4]) Proofs.Tryz.func119 rfl (by kernel_rfl) rfl rfl ?_
 rintro ⟨(l : List Dsk), ⟨⟩, ⟨⟩⟩ _ hpre
 try dsimp only [Ty.den, Mode.den, mdens] at hpre
 refine ⟨rfl, ?_⟩
 refine sw_seq (xr hP 1 rfl (sw_seq (xr hP 2 rfl (sw_ret ⟨.inl rfl, _, rfl, ?_⟩))))
 simp [conj]
 exact idxF_any
def cStripeOk : Ctr := ⟨69, [.val false (.sl T_Disk) (.all .b)], fun x => True, fun x => (sBool (stripeV x.1), [])⟩
theorem cStripeOk_ok : CtrOk Proofs.Tryz.prog cStripeOk := by
 have hP := (((Prg.none ttok mtok).and cPool_ok).and cContD_ok)
 refine ctr_of_body hP cStripeOk (fn := Proofs.Tryz.f69) (rts := [.tmp 2]) Proofs.Tryz.func69 rfl (by kernel_rfl) rfl rfl ?_
 rintro ⟨(ds : List Dsk), ⟨⟩⟩ _ _
 try dsimp only [Ty.den, Mode.den, mdens] at _
 refine ⟨rfl, ?_⟩
 refine sw_seq (xr hP 1 rfl (sw_seq ?_))
 refine sw_dec hP 2 [] 3 rfl (fun g1_3 => ?_) (fun g1_3 => ?_)
 ·refine xg hP 2 [(3, true)] rfl ?_ ?_
  ·simp [conj, maxL]
   try dsimp only [Ty.den, Ty.dflt]
   try simp only [rd_eta]
   repeat' apply And.intro
   all_goals first | trivial | assumption
  refine sw_ret ⟨.inl rfl, _, rfl, ?_⟩
  simp [conj, stripeV, *]
 ·refine xg hP 2 [(3, false)] rfl ?_ ?_
  ·simp [conj, maxL]
   try dsimp only [Ty.den, Ty.dflt]
   try simp only [rd_eta]
   repeat' apply And.intro
   all_goals first | trivial | assumption
  refine sw_ret ⟨.inl rfl, _, rfl, ?_⟩
  simp [conj, stripeV, *]
def cStripeOkS : Ctr := ⟨66, [.val false (.sl T_Disk) (.all .b)], fun x => True, fun x => (sBool (stripeV x.1), [])⟩
theorem cStripeOkS_ok : CtrOk Proofs.Tryz.prog cStripeOkS := by
 have hP := (((Prg.none ttok mtok).and cDok_ok).and cDisks_ok)
 refine ctr_of_body hP cStripeOkS (fn := Proofs.Tryz.f66) (rts := [.tmp 2]) Proofs.Tryz.func66 rfl (by kernel_rfl) rfl rfl ?_
 rintro ⟨(ds : List Dsk), ⟨⟩⟩ ⟨hdl, _⟩ _
 try dsimp only [Ty.den, Mode.den, mdens] at _
 refine ⟨rfl, ?_⟩
 have hml : ds.length ≤ 140737488355328 := hdl.1
 refine sw_seq (xr hP 1 rfl (sw_seq (sw_seq (xr hP 2 rfl (sw_block (sw_loop (ι := Nat) (fun i => ⟨[.v false [.d (.sl T_Disk) (.all .b) ds], .j, .j, sInt .i64 (i : Int), .j, .j, .j, .j, .j, .j, .j, .j, .j, .j, .j, .j, .j, .j, .j], [], 2, []⟩) (fun i => ds.length - i) (fun i => i ≤ ds.length ∧ (ds.drop i).all rdV = ds.all rdV) 0 ⟨?_, ?_⟩ ?_))))))
 ·exact ⟨Nat.zero_le _, rfl⟩
 ·refine ent_ok rfl ?_
  simp [conj]
 ·rintro i ⟨hi, hgo⟩
  refine sw_seq (sw_seq (xr hP 3 rfl (sw_cond rfl (fun c2 => ?_) (fun c2 => ?_))))
  ·have hlt : i < ds.length := by simpa using c2
   refine sw_skip (sw_seq (sw_block (sw_seq (xg hP 4 [] rfl ?_ ?_))))
   ·simp [conj, gE hlt]
    repeat' apply And.intro
    all_goals first | omega | trivial
   refine sw_cond rfl (fun c4 => ?_) (fun c4 => ?_)
   ·replace c4 : rdV ds[i] = false := by simpa [gE hlt] using c4
    have hv := all_hit hlt hgo c4
    refine sw_seq (xr hP 5 rfl (sw_ret ⟨.inl rfl, _, rfl, ?_⟩))
    have hs : stripeV ds = false := by
      unfold stripeV
      rw [← all_any, hv]
      simp
    simp [conj, hs]
   ·replace c4 : rdV ds[i] = true := by simpa [gE hlt] using c4
    refine sw_skip (xr hP 5 rfl (⟨i + 1, ?_, ?_, ent_ok rfl ?_⟩))
    ·exact ⟨hlt, all_next hlt hgo c4⟩
    ·omega
    ·simp [conj]
  ·obtain rfl : i = ds.length := by simp at c2; omega
   have hv := all_end hgo
   refine sw_exit (sw_seq (xr hP 4 rfl (sw_ret ⟨.inl rfl, _, rfl, ?_⟩)))
   have hs : stripeV ds = poolV (ds.length : Int) := by
     unfold stripeV
     rw [← all_any, hv]
     simp
   simp [conj, hs]
end Go.Sx

namespace Go.Sx
open Go
set_option maxRecDepth 100000
set_option linter.unusedVariables false
set_option linter.unusedSimpArgs false
set_option maxHeartbeats 2000000
def cKeep : Ctr := ⟨116, [.val false (.sl TI) (.all .b), .val false TI pF], fun x => 0 ≤ x.2.1, fun x => (sInt .i64 (keepA x.1 x.2.1.toNat), [])⟩
theorem cKeep_ok : CtrOk Proofs.Tryz.prog cKeep := by
 have hP := (Prg.none ttok mtok)
 refine ctr_of_body hP cKeep (fn := Proofs.Tryz.f116) (rts := [.tmp 4]) Proofs.Tryz.func116 rfl (by kernel_rfl) rfl rfl ?_
 rintro ⟨(ks : List Int), (n : Int), ⟨⟩⟩ ⟨hdl, _⟩ hpre
 try dsimp only [Ty.den, Mode.den, mdens] at hpre
 refine ⟨rfl, ?_⟩
 replace hpre : 0 ≤ n := hpre
 obtain ⟨i, rfl⟩ := Int.eq_ofNat_of_zero_le hpre
 have hml : ks.length ≤ 140737488355328 := hdl.1
 refine sw_seq (xr hP 1 rfl (sw_seq (sw_seq ?_)))
 refine sw_dec hP 2 [] 4 rfl (fun g1_4 => ?_) (fun g1_4 => ?_)
 ·have hlt : i < ks.length := by have h := g1_4; simp at h; omega
  refine xg hP 2 [(4, true)] rfl ?_ ?_
  ·simp [conj, gE hlt]
   repeat' apply And.intro
   all_goals first | omega | trivial | exact Int.ofNat_lt.2 hlt | exact g1_4
  refine sw_cond rfl (fun c1 => ?_) (fun c1 => ?_)
  ·replace c1 : 0 < ks[i] := by have h := c1; simp [gE hlt] at h; exact h
   have hv : keepA ks i = ks[i] := by unfold keepA; rw [List.getD_eq_getElem?_getD, gE hlt]; simp [hlt, c1]
   refine sw_seq (xg hP 3 [] rfl ?_ ?_)
   ·simp [conj, gE hlt]
    repeat' apply And.intro
    all_goals first | omega | trivial | exact Int.ofNat_lt.2 hlt
   refine sw_ret ⟨.inl rfl, _, rfl, ?_⟩
   simp only [conj, List.append_nil, Int.toNat_natCast]
   rw [hv]
   simp [gE hlt]
  ·replace c1 : ¬ 0 < ks[i] := by have h := c1; simp [gE hlt] at h; omega
   have hv : keepA ks i = 0 := by unfold keepA; rw [List.getD_eq_getElem?_getD, gE hlt]; simp [c1]
   refine sw_skip (sw_seq (xr hP 3 rfl (sw_ret ⟨.inl rfl, _, rfl, ?_⟩)))
   simp only [conj, List.append_nil, Int.toNat_natCast]
   rw [hv]
 ·have hlt : ¬ i < ks.length := by have h := g1_4; simp at h; omega
  have hv : keepA ks i = 0 := keepA_out hlt
  refine xd hP 2 [(4, false)] rfl (sw_condF rfl (sw_skip (sw_seq (xr hP 3 rfl (sw_ret ⟨.inl rfl, _, rfl, ?_⟩)))))
  simp only [conj, List.append_nil, Int.toNat_natCast]
  rw [hv]
def cCrashPS : Ctr := ⟨67, [.val true T_Pool (.all .b), .val false (.sl TI) (.all .b)], fun x => stripeV x.1.1 = true, fun x => (.v true [.own ⟨1, 0, 0⟩, .d .bool pF ((crashGo x.2.1 0 x.1.1, false, zR, zR)).2.1, .d TI pF ((crashGo x.2.1 0 x.1.1, false, zR, zR)).2.2.1.1, .own ⟨1, 1, 0⟩, .d TI pF ((crashGo x.2.1 0 x.1.1, false, zR, zR)).2.2.2.1, .own ⟨1, 2, 0⟩], [(⟨1, 0, 0⟩, .sl T_Disk (.all .w) ((crashGo x.2.1 0 x.1.1, false, zR, zR)).1), (⟨1, 1, 0⟩, .sl T_Vol (.all .w) ((crashGo x.2.1 0 x.1.1, false, zR, zR)).2.2.1.2), (⟨1, 2, 0⟩, .sl T_Vol (.all .w) ((crashGo x.2.1 0 x.1.1, false, zR, zR)).2.2.2.2)])⟩
theorem cCrashPS_ok : CtrOk Proofs.Tryz.prog cCrashPS := by
 have hP := ((((Prg.none ttok mtok).and cCopyD_ok).and cKeep_ok).and cCrashS_ok)
 refine ctr_of_body hP cCrashPS (fn := Proofs.Tryz.f67) (rts := [.cell 4 66]) Proofs.Tryz.func67 rfl (by kernel_rfl) rfl rfl ?_
 rintro ⟨⟨(ds : List Dsk), (op : Bool), ⟨(tg : Int), (l : List Vol_)⟩, ⟨(tg2 : Int), (l2 : List Vol_)⟩⟩, (ks : List Int), ⟨⟩⟩ _ hpre
 try dsimp only [Ty.den, Mode.den, mdens] at hpre
 refine ⟨rfl, ?_⟩
 replace hpre : stripeV ds = true := hpre
 have hml := stripe_len hpre
 refine sw_seq (xr hP 1 rfl (sw_seq (xr hP 2 rfl (sw_seq (sw_seq (xr hP 3 rfl (sw_block (sw_loop (ι := Nat) (fun i => ⟨[.j, .v false [.d (.sl TI) (.all .b) ks], .v false [.ptr ⟨1, 0, 0⟩ 0], .j, .v false [.ptr ⟨1, 1, 0⟩ 0], .v false [.ptr ⟨2, 1, 0⟩ 0], sInt .i64 (i : Int), .j, .j, .j, .j, .j, .j, .j, .j, .j, .j, .j, .j, .j, .j, .j, .j, .j, .j, .j, .j, .j, .j, .j, .j], [(⟨1, 0, 0⟩, .var [.d (.sl T_Disk) (.all .b) ds, .d .bool pF op, .d TI pF tg, .d (.sl T_Vol) (.all .b) l, .d TI pF tg2, .d (.sl T_Vol) (.all .b) l2]), (⟨1, 1, 0⟩, .var [.nils, .d .bool pF false, .d TI pF 0, .nils, .d TI pF 0, .nils]), (⟨2, 1, 0⟩, .var [.own ⟨0, 9, 0⟩, .d .bool pF false, .d TI pF 0, .nils, .d TI pF 0, .nils]), (⟨0, 9, 0⟩, .sl T_Disk (.all .w) (crashGo ks 0 (ds.take i)))], 3, []⟩) (fun i => ds.length - i) (fun i => i ≤ ds.length) 0 ⟨?_, ?_⟩ ?_))))))))
 ·exact Nat.zero_le _
 ·refine ent_ok rfl ?_
  simp [conj, crashGo]
 ·rintro i hi
  refine sw_seq (sw_seq (xr hP 4 rfl (sw_cond rfl (fun c3 => ?_) (fun c3 => ?_))))
  ·have hlt : i < ds.length := by simpa using c3
   have hrd := stripe_all hpre _ (List.getElem_mem hlt)
   obtain ⟨hsh, hwb, _⟩ := rd_parts hrd
   obtain ⟨_, x1, x2, x3, x4⟩ := shaped_iff hsh
   have hdo := drv_ok hsh
   have hk0 := keepA_nn ks i
   have hcv := crashV_ok hrd hk0
   have hnx := crash_next (ks := ks) hlt
   have hcl : (crashGo ks 0 (ds.take i)).length ≤ 4 := by rw [crashGo_len, List.length_take]; omega
   rw [hcv] at hnx
   refine sw_skip (sw_seq (sw_block (xg hP 5 [] rfl ?_ ?_)))
   ·simp [conj, maxL, gE hlt]
    repeat' apply And.intro
    all_goals first | omega | exact hdo | exact hwb | exact hk0 | exact x4 | exact ⟨by omega, by omega, by omega, by omega⟩ | trivial | (show List.length ds[i].2.1 ≤ 1048576; omega) | (show List.length ds[i].2.2.1 ≤ 1048576; omega) | (show List.length ds[i].2.2.2.1 ≤ 1048576; omega) | (show List.length ds[i].2.2.2.2 ≤ 1048576; omega) | (show List.length ds[i].2.2.2.2 ≤ 40; omega) | exact hdo.1 | exact hdo.2.1 | exact hdo.2.2 | exact Int.natCast_nonneg _
   refine xr hP 6 rfl (⟨i + 1, ?_, ?_, ent_ok rfl ?_⟩)
   ·exact hlt
   ·omega
   ·simp [conj, gE hlt]
    exact hnx
  ·obtain rfl : i = ds.length := by simp at c3; omega
   refine sw_exit (sw_seq (xr hP 5 rfl (sw_ret ⟨.inl rfl, _, rfl, ?_⟩)))
   simp [conj, zR]
def cPCrashS : Ctr := ⟨22, [.val true T_Pool (.all .b), .val false (.sl TI) (.all .b)], fun x => True, fun x => (.v true [.own ⟨1, 0, 0⟩, .d .bool pF ((pcrashV x.1 x.2.1)).2.1, .d TI pF ((pcrashV x.1 x.2.1)).2.2.1.1, .own ⟨1, 1, 0⟩, .d TI pF ((pcrashV x.1 x.2.1)).2.2.2.1, .own ⟨1, 2, 0⟩], [(⟨1, 0, 0⟩, .sl T_Disk (.all .w) ((pcrashV x.1 x.2.1)).1), (⟨1, 1, 0⟩, .sl T_Vol (.all .w) ((pcrashV x.1 x.2.1)).2.2.1.2), (⟨1, 2, 0⟩, .sl T_Vol (.all .w) ((pcrashV x.1 x.2.1)).2.2.2.2)])⟩
theorem cPCrashS_ok : CtrOk Proofs.Tryz.prog cPCrashS := by
 have hP := (((Prg.none ttok mtok).and cStripeOkS_ok).and cCrashPS_ok)
 refine ctr_of_body hP cPCrashS (fn := Proofs.Tryz.f22) (rts := [.cell 4 66]) Proofs.Tryz.func22 rfl (by kernel_rfl) rfl rfl ?_
 rintro ⟨⟨(ds : List Dsk), (op : Bool), ⟨(tg : Int), (l : List Vol_)⟩, ⟨(tg2 : Int), (l2 : List Vol_)⟩⟩, (ks : List Int), ⟨⟩⟩ _ _
 try dsimp only [Ty.den, Mode.den, mdens] at _
 refine ⟨rfl, ?_⟩
 refine sw_seq (xr hP 1 rfl (sw_seq (sw_seq (xg hP 2 [] rfl ?_ ?_))))
 ·simp [conj, maxL]
  try dsimp only [Ty.den, Ty.dflt]
  try simp only [rd_eta]
  try trivial
 refine sw_cond rfl (fun c1 => ?_) (fun c1 => ?_)
 ·have hs : ¬ stripeV ds = true := by have h : (!stripeV ds) = true := c1; simpa using h
  have hv : pcrashV (ds, op, (tg, l), (tg2, l2)) ks = ([], false, zR, zR) := if_neg hs
  refine sw_seq (xr hP 3 rfl (sw_ret ⟨.inl rfl, _, rfl, ?_⟩))
  rw [hv]
  simp [conj, zR]
 ·have hs : stripeV ds = true := by have h : (!stripeV ds) = false := c1; simpa using h
  have hv : pcrashV (ds, op, (tg, l), (tg2, l2)) ks = (crashGo ks 0 ds, false, zR, zR) := if_pos hs
  refine sw_skip (sw_seq (xg hP 3 [] rfl ?_ ?_))
  ·simp [conj, maxL]
   try dsimp only [Ty.den, Ty.dflt]
   try simp only [rd_eta]
   exact hs
  refine sw_ret ⟨.inl rfl, _, rfl, ?_⟩
  rw [hv]
  simp [conj, zR]
def cPCrash : Ctr := ⟨25, [.val true T_Pool (.all .b), .val false (.sl TI) (.all .b)], fun x => True, fun x => (.v true [.own ⟨1, 0, 0⟩, .d .bool pF ((pcrashV x.1 x.2.1)).2.1, .d TI pF ((pcrashV x.1 x.2.1)).2.2.1.1, .own ⟨1, 1, 0⟩, .d TI pF ((pcrashV x.1 x.2.1)).2.2.2.1, .own ⟨1, 2, 0⟩], [(⟨1, 0, 0⟩, .sl T_Disk (.all .w) ((pcrashV x.1 x.2.1)).1), (⟨1, 1, 0⟩, .sl T_Vol (.all .w) ((pcrashV x.1 x.2.1)).2.2.1.2), (⟨1, 2, 0⟩, .sl T_Vol (.all .w) ((pcrashV x.1 x.2.1)).2.2.2.2)])⟩
theorem cPCrash_ok : CtrOk Proofs.Tryz.prog cPCrash := by
 have hP := (((Prg.none ttok mtok).and cStripeOk_ok).and cDCrash_ok)
 refine ctr_of_body hP cPCrash (fn := Proofs.Tryz.f25) (rts := [.cell 4 66]) Proofs.Tryz.func25 rfl (by kernel_rfl) rfl rfl ?_
 rintro ⟨⟨(ds : List Dsk), (op : Bool), ⟨(tg : Int), (l : List Vol_)⟩, ⟨(tg2 : Int), (l2 : List Vol_)⟩⟩, (ks : List Int), ⟨⟩⟩ ⟨_, ⟨hkl, _⟩, _⟩ _
 try dsimp only [Ty.den, Mode.den, mdens] at _
 refine ⟨rfl, ?_⟩
 have hkm : ks.length ≤ 140737488355328 := hkl
 refine sw_seq (xr hP 1 rfl (sw_seq (sw_seq (xg hP 2 [] rfl ?_ ?_))))
 ·simp [conj, maxL]
  try dsimp only [Ty.den, Ty.dflt]
  try simp only [rd_eta]
  try trivial
 refine sw_cond rfl (fun c1 => ?_) (fun c1 => ?_)
 ·have hs : ¬ stripeV ds = true := by have h : (!stripeV ds) = true := c1; simpa using h
  have hv : pcrashV (ds, op, (tg, l), (tg2, l2)) ks = ([], false, zR, zR) := if_neg hs
  refine sw_seq (xr hP 3 rfl (sw_ret ⟨.inl rfl, _, rfl, ?_⟩))
  rw [hv]
  simp [conj, zR]
 ·have hs : stripeV ds = true := by have h : (!stripeV ds) = false := c1; simpa using h
  have hv : pcrashV (ds, op, (tg, l), (tg2, l2)) ks = (crashGo ks 0 ds, false, zR, zR) := if_pos hs
  have hml := stripe_len hs
  refine sw_skip (sw_seq (xr hP 3 rfl (sw_seq (sw_seq (xr hP 4 rfl (sw_block (sw_loop (ι := Nat) (fun i => ⟨[.j, .v false [.d (.sl TI) (.all .b) ks], .v false [.ptr ⟨1, 0, 0⟩ 0], .j, .v false [.ptr ⟨1, 1, 0⟩ 0], .v false [.ptr ⟨3, 0, 0⟩ 0], .j, .j, .j, .j, .j, .j, .j, .j, .j, .v false [.d (.sl T_Disk) (.all .b) ds], sInt .i64 (ds.length : Int), sInt .i64 (i : Int), .j, .j, .j, .j, .j, .j, .j, .j, .j, .j, .j, .j, .j, .j, .j, .j, .j, .j, .j, .j, .j, .j, .j], [(⟨1, 0, 0⟩, .var [.d (.sl T_Disk) (.all .b) ds, .d .bool pF op, .d TI pF tg, .d (.sl T_Vol) (.all .b) l, .d TI pF tg2, .d (.sl T_Vol) (.all .b) l2]), (⟨1, 1, 0⟩, .var [.nils, .d .bool pF false, .d TI pF 0, .nils, .d TI pF 0, .nils]), (⟨3, 0, 0⟩, .var [.own ⟨0, 9, 0⟩, .d .bool pF false, .d TI pF 0, .nils, .d TI pF 0, .nils]), (⟨0, 9, 0⟩, .sl T_Disk (.all .w) (crashGo ks 0 (ds.take i)))], 4, []⟩) (fun i => ds.length - i) (fun i => i ≤ ds.length) 0 ⟨?_, ?_⟩ ?_)))))))
  ·exact Nat.zero_le _
  ·refine ent_ok rfl ?_
   simp [conj, crashGo]
  ·rintro i hi
   refine sw_seq (xr hP 5 rfl (sw_seq (sw_cond rfl (fun c5 => ?_) (fun c5 => ?_))))
   ·have hlt : i < ds.length := by simpa using c5
    have hnx := crash_next (ks := ks) hlt
    have hcl : (crashGo ks 0 (ds.take i)).length ≤ 4 := by rw [crashGo_len, List.length_take]; omega
    refine sw_skip (sw_seq (sw_block (sw_seq (xg hP 6 [] rfl ?_ ?_))))
    ·simp [conj, gE hlt]
     repeat' apply And.intro
     all_goals first | omega | trivial
    refine sw_seq (xr hP 7 rfl (sw_seq (sw_seq (xr hP 8 rfl (sw_cond rfl (fun c8 => ?_) (fun c8 => ?_))))))
    ·have hlk : i < ks.length := by have h := c8; simp at h; omega
     have hkv := keepA_max hlk
     rw [← hkv] at hnx
     refine xg hP 9 [] rfl ?_ ?_
     ·simp [conj, gE hlk]
      repeat' apply And.intro
      all_goals first | omega | trivial | exact Int.ofNat_lt.2 hlk
     refine xg hP 10 [] rfl ?_ ?_
     ·simp [conj, maxL]
      repeat' apply And.intro
      all_goals first | omega | trivial
     refine xr hP 11 rfl (⟨i + 1, ?_, ?_, ent_ok rfl ?_⟩)
     ·exact hlt
     ·omega
     ·simp [conj, gE hlt, gE hlk]
      exact hnx
    ·have hlk : ¬ i < ks.length := by have h := c8; simp at h; omega
     rw [keepA_out hlk] at hnx
     refine sw_skip (xg hP 9 [] rfl ?_ ?_)
     ·simp [conj, maxL]
      repeat' apply And.intro
      all_goals first | omega | trivial
     refine xr hP 10 rfl (⟨i + 1, ?_, ?_, ent_ok rfl ?_⟩)
     ·exact hlt
     ·omega
     ·simp [conj, gE hlt]
      exact hnx
   ·obtain rfl : i = ds.length := by simp at c5; omega
    refine sw_exit (sw_seq (xr hP 6 rfl (sw_ret ⟨.inl rfl, _, rfl, ?_⟩)))
    rw [hv]
    simp [conj, zR]
end Go.Sx

namespace Go.Sx
open Go
set_option maxRecDepth 100000
set_option linter.unusedVariables false
set_option linter.unusedSimpArgs false
set_option maxHeartbeats 2000000
def cMkT : Ctr := ⟨111, [.val false TI pF], fun x => x.1 ≤ 1099511627776, fun x => (sStr (mkT x.1), [])⟩
theorem cMkT_ok : CtrOk Proofs.Tryz.prog cMkT := by
 have hP := (Prg.none ttok mtok)
 refine ctr_of_body hP cMkT (fn := Proofs.Tryz.f111) (rts := [.tmp 2]) Proofs.Tryz.func111 rfl (by kernel_rfl) rfl rfl ?_
 rintro ⟨(k : Int), ⟨⟩⟩ _ hpre
 try dsimp only [Ty.den, Mode.den, mdens] at hpre
 refine ⟨rfl, ?_⟩
 replace hpre : k ≤ 1099511627776 := hpre
 refine sw_seq (xr hP 1 rfl (sw_seq (sw_seq (xr hP 2 rfl (sw_cond rfl (fun c1 => ?_) (fun c1 => ?_))))))
 ·replace c1 : k ≤ 0 := of_decide_eq_true c1
  refine sw_seq (xr hP 3 rfl (sw_ret ⟨.inl rfl, _, rfl, ?_⟩))
  simp [conj]
  unfold mkT
  rw [if_pos c1]; rfl
 ·replace c1 : ¬ k ≤ 0 := of_decide_eq_false c1
  refine sw_skip (sw_seq (xr hP 3 rfl (sw_seq (sw_block (sw_loop (ι := Nat × Str) (fun ⟨n, out⟩ => ⟨[sInt .i64 (n : Int), .j, .j, sStr out, .j, .j, .j, .j, .j, .j, .j, .j, .j, .j, .j, .j, .j, .j, .j, .j], [], 3, []⟩) (fun ⟨n, out⟩ => n) (fun ⟨n, out⟩ => out.length + n ≤ 1099511627776 ∧ digX n out = digX k.toNat []) (k.toNat, []) ⟨?_, ?_⟩ ?_)))))
  ·exact ⟨by show 0 + k.toNat ≤ 1099511627776; omega, rfl⟩
  ·refine ent_ok rfl ?_
   simp [conj]
   repeat' apply And.intro
   all_goals first | rfl | exact (Int.max_eq_left (by omega)).symm | omega
  ·rintro ⟨n, out⟩ ⟨hl, hgo⟩
   refine sw_seq (sw_seq (xr hP 4 rfl (sw_cond rfl (fun c4 => ?_) (fun c4 => ?_))))
   ·have hn : n ≠ 0 := by have h : (0 : Int) < (n : Nat) := of_decide_eq_true c4; omega
    have htm : ((n : Nat) : Int).tmod 10 = ((n % 10 : Nat) : Int) := rfl
    have htd : ((n : Nat) : Int).tdiv 10 = ((n / 10 : Nat) : Int) := rfl
    refine sw_skip (sw_block (sw_seq (xg hP 5 [] rfl ?_ ?_)))
    ·simp [conj, maxL, htm, ofBytes]
     repeat' apply And.intro
     all_goals first | assumption | omega
    refine xg hP 6 [] rfl ?_ ?_
    ·simp [conj, htd]
     repeat' apply And.intro
     all_goals first | assumption | omega
    refine ⟨(n / 10, UInt8.ofNat (48 + n % 10) :: out), ?_, ?_, ent_ok rfl ?_⟩
    ·exact ⟨by show (out.length + 1) + n / 10 ≤ 1099511627776; omega, by rw [← hgo, digX_step hn]⟩
    ·show n / 10 < n
     omega
    ·simp only [cj, cl]
     try dsimp only [Ty.den, Ty.dflt]
     repeat' apply And.intro
     all_goals first | trivial | exact htd | rfl
   ·obtain rfl : n = 0 := by have h : ¬ (0 : Int) < (n : Nat) := of_decide_eq_false c4; omega
    refine sw_exit (sw_seq (xg hP 5 [] rfl ?_ ?_))
    ·simp [conj, maxL, bytesL]
     repeat' apply And.intro
     all_goals first | assumption | omega
    refine sw_ret ⟨.inl rfl, _, rfl, ?_⟩
    simp [conj]
    unfold mkT
    rw [if_neg c1, ← hgo, digX_zero]; rfl
def cMkPls : Ctr := ⟨61, [.mu false T_Place (.all .w), .val false TI pF], fun x => 0 ≤ x.2.1 ∧ nxLs mPlc x.2.1 x.1 ≤ 1000000000, fun x => (sInt .i64 (nxLs mPlc x.2.1 x.1), [(⟨0, 0, 0⟩, .sl T_Place (.all .w) (mkLs mPlc x.2.1 x.1))])⟩
theorem cMkPls_ok : CtrOk Proofs.Tryz.prog cMkPls := by
 have hP := (Prg.none ttok mtok)
 refine ctr_of_body hP cMkPls (fn := Proofs.Tryz.f61) (rts := [.tmp 4]) Proofs.Tryz.func61 rfl (by kernel_rfl) rfl rfl ?_
 rintro ⟨(l : List Plc), (k : Int), ⟨⟩⟩ ⟨hdl, _⟩ ⟨h0, h1⟩
 try dsimp only [Ty.den, Mode.den, mdens] at h0
 try dsimp only [Ty.den, Mode.den, mdens] at h1
 refine ⟨rfl, ?_⟩
 have hml : l.length ≤ 140737488355328 := hdl.1
 replace h0 : 0 ≤ k := h0
 replace h1 : nxLs mPlc k l ≤ 1000000000 := h1
 refine sw_seq (xr hP 1 rfl (sw_seq (sw_seq (xr hP 2 rfl (sw_block (sw_loop (ι := Nat) (fun i => ⟨[.v false [.own ⟨0, 0, 0⟩], sInt .i64 (nxLs mPlc k (l.take i)), .j, .j, .j, sInt .i64 (i : Int), .j, .j, .j, .j, .j, .j, .j, .j, .j, .j, .j, .j, .j, .j, .j, .j, .j, .j, .j, .j, .j], [(⟨0, 0, 0⟩, .sl T_Place (.all .w) (mkLs mPlc k (l.take i) ++ l.drop i))], 2, [[.v false [.own ⟨0, 0, 0⟩], .j]]⟩) (fun i => l.length - i) (fun i => i ≤ l.length) 0 ⟨?_, ?_⟩ ?_))))))
 ·exact Nat.zero_le _
 ·refine ent_ok rfl ?_
  simp [conj, mkLs, nxLs]
 ·rintro i hi
  refine sw_seq (sw_seq (xr hP 3 rfl (sw_cond rfl (fun c2 => ?_) (fun c2 => ?_))))
  ·have hcl := mk_clen (m := mPlc) (k := k) hi
   have hlt : i < l.length := by have h : ((i : Nat) : Int) < ((mkLs mPlc k (l.take i) ++ l.drop i).length : Nat) := of_decide_eq_true c2; omega
   have hnx := mk_next (m := mPlc) (k := k) hlt
   have hnn := nx_next (m := mPlc) (k := k) hlt
   obtain ⟨s1, s2, s3⟩ := nx_split mPlc_ok (k := k) hlt
   have hget := mk_get (m := mPlc) (k := k) hlt
   have hgd : ∀ d, (mkLs mPlc k (l.take i) ++ l.drop i)[i]?.getD d = l[i] := fun d => by rw [hget]; rfl
   have hgi : ∀ h, (mkLs mPlc k (l.take i) ++ l.drop i)[i]'h = l[i] := fun h => by have h2 := hget; rw [gE h] at h2; exact Option.some.inj h2
   generalize hQ : (nxLs mPlc k (l.take i)) = Q at *
   replace s2 : Q ≤ Q + 1 + 1 := s2
   replace s3 : Q + 1 + 1 ≤ nxLs mPlc k l := s3
   refine sw_skip (sw_seq (sw_block (sw_seq (xg hP 4 [] rfl ?_ ?_))))
   ·simp [conj, hget, hgd, hgi, hcl, List.getElem?_set, hlt]
    repeat' apply And.intro
    all_goals first | trivial | assumption | omega
   refine sw_seq (xg hP 5 [] rfl ?_ ?_)
   ·simp [conj, hget, hgd, hgi, hcl, List.getElem?_set, hlt]
    repeat' apply And.intro
    all_goals first | trivial | assumption | omega
   refine sw_seq (xg hP 6 [] rfl ?_ ?_)
   ·simp [conj, hget, hgd, hgi, hcl, List.getElem?_set, hlt]
    repeat' apply And.intro
    all_goals first | trivial | assumption | omega
   refine xg hP 7 [] rfl ?_ ?_
   ·simp [conj, hget, hgd, hgi, hcl, List.getElem?_set, hlt]
    repeat' apply And.intro
    all_goals first | trivial | assumption | omega
   refine xg hP 8 [] rfl ?_ ?_
   ·simp only [cj, cl]
    try dsimp only [Ty.den, Ty.dflt]
    repeat' apply And.intro
    all_goals first | rfl | omega | assumption | trivial
   refine ⟨i + 1, ?_, ?_, ent_ok rfl ?_⟩
   ·exact hlt
   ·omega
   ·rw [hnn]
    simp [conj, hget, hgd, hgi, hcl, List.getElem?_set, hlt]
    repeat' apply And.intro
    all_goals first | rfl | exact hnx | omega
  ·have hcl := mk_clen (m := mPlc) (k := k) hi
   obtain rfl : i = l.length := by have h : ¬ ((i : Nat) : Int) < ((mkLs mPlc k (l.take i) ++ l.drop i).length : Nat) := of_decide_eq_false c2; omega
   refine sw_exit (sw_seq (xr hP 4 rfl (sw_ret ⟨.inl rfl, _, rfl, ?_⟩)))
   simp [conj]
def cMkPtrs : Ctr := ⟨158, [.mu false T_Ptr (.all .w), .val false TI pF], fun x => 0 ≤ x.2.1 ∧ nxLs mPtr x.2.1 x.1 ≤ 1000000000, fun x => (sInt .i64 (nxLs mPtr x.2.1 x.1), [(⟨0, 0, 0⟩, .sl T_Ptr (.all .w) (mkLs mPtr x.2.1 x.1))])⟩
theorem cMkPtrs_ok : CtrOk Proofs.Tryz.prog cMkPtrs := by
 have hP := ((Prg.none ttok mtok).and cMkPls_ok)
 refine ctr_of_body hP cMkPtrs (fn := Proofs.Tryz.f158) (rts := [.tmp 4]) Proofs.Tryz.func158 rfl (by kernel_rfl) rfl rfl ?_
 rintro ⟨(l : List Ptr_), (k : Int), ⟨⟩⟩ ⟨hdl, _⟩ ⟨h0, h1⟩
 try dsimp only [Ty.den, Mode.den, mdens] at h0
 try dsimp only [Ty.den, Mode.den, mdens] at h1
 refine ⟨rfl, ?_⟩
 have hml : l.length ≤ 140737488355328 := hdl.1
 replace h0 : 0 ≤ k := h0
 replace h1 : nxLs mPtr k l ≤ 1000000000 := h1
 refine sw_seq (xr hP 1 rfl (sw_seq (sw_seq (xr hP 2 rfl (sw_block (sw_loop (ι := Nat) (fun i => ⟨[.v false [.own ⟨0, 0, 0⟩], sInt .i64 (nxLs mPtr k (l.take i)), .j, .j, .j, sInt .i64 (i : Int), .j, .j, .j, .j, .j, .j, .j, .j, .j, .j, .j, .j, .j, .j, .j, .j, .j, .j, .j, .j, .j, .j, .j, .j, .j, .j, .j, .j], [(⟨0, 0, 0⟩, .sl T_Ptr (.all .w) (mkLs mPtr k (l.take i) ++ l.drop i))], 2, [[.v false [.own ⟨0, 0, 0⟩], .j]]⟩) (fun i => l.length - i) (fun i => i ≤ l.length) 0 ⟨?_, ?_⟩ ?_))))))
 ·exact Nat.zero_le _
 ·refine ent_ok rfl ?_
  simp [conj, mkLs, nxLs]
 ·rintro i hi
  refine sw_seq (sw_seq (xr hP 3 rfl (sw_cond rfl (fun c2 => ?_) (fun c2 => ?_))))
  ·have hcl := mk_clen (m := mPtr) (k := k) hi
   have hlt : i < l.length := by have h : ((i : Nat) : Int) < ((mkLs mPtr k (l.take i) ++ l.drop i).length : Nat) := of_decide_eq_true c2; omega
   have hnx := mk_next (m := mPtr) (k := k) hlt
   have hnn := nx_next (m := mPtr) (k := k) hlt
   obtain ⟨s1, s2, s3⟩ := nx_split mPtr_ok (k := k) hlt
   have hget := mk_get (m := mPtr) (k := k) hlt
   have hgd : ∀ d, (mkLs mPtr k (l.take i) ++ l.drop i)[i]?.getD d = l[i] := fun d => by rw [hget]; rfl
   have hgi : ∀ h, (mkLs mPtr k (l.take i) ++ l.drop i)[i]'h = l[i] := fun h => by have h2 := hget; rw [gE h] at h2; exact Option.some.inj h2
   generalize hQ : (nxLs mPtr k (l.take i)) = Q at *
   have s4 : Q + 1 + 1 ≤ nxLs mPlc (Q + 1 + 1) l[i].2.2 := (mkList_ok mPlc_ok).ge _ _
   replace s3 : nxLs mPlc (Q + 1 + 1) l[i].2.2 ≤ nxLs mPtr k l := s3
   refine sw_skip (sw_seq (sw_block (sw_seq (xg hP 4 [] rfl ?_ ?_))))
   ·simp [conj, hget, hgd, hgi, hcl, List.getElem?_set, hlt]
    repeat' apply And.intro
    all_goals first | trivial | assumption | omega | (show 0 ≤ Q + 1 + 1; omega) | (show nxLs mPlc (Q + 1 + 1) l[i].2.2 ≤ _; omega)
   refine sw_seq (xg hP 5 [] rfl ?_ ?_)
   ·simp [conj, hget, hgd, hgi, hcl, List.getElem?_set, hlt]
    repeat' apply And.intro
    all_goals first | trivial | assumption | omega | (show 0 ≤ Q + 1 + 1; omega) | (show nxLs mPlc (Q + 1 + 1) l[i].2.2 ≤ _; omega)
   refine sw_seq (xg hP 6 [] rfl ?_ ?_)
   ·simp [conj, hget, hgd, hgi, hcl, List.getElem?_set, hlt]
    repeat' apply And.intro
    all_goals first | trivial | assumption | omega | (show 0 ≤ Q + 1 + 1; omega) | (show nxLs mPlc (Q + 1 + 1) l[i].2.2 ≤ _; omega)
   refine sw_seq (xg hP 7 [] rfl ?_ ?_)
   ·simp [conj, hget, hgd, hgi, hcl, List.getElem?_set, hlt]
    repeat' apply And.intro
    all_goals first | trivial | assumption | omega | (show 0 ≤ Q + 1 + 1; omega) | (show nxLs mPlc (Q + 1 + 1) l[i].2.2 ≤ _; omega)
   refine xg hP 8 [] rfl ?_ ?_
   ·simp [conj, hget, hgd, hgi, hcl, List.getElem?_set, hlt]
    repeat' apply And.intro
    all_goals first | trivial | assumption | omega | (show 0 ≤ Q + 1 + 1; omega) | (show nxLs mPlc (Q + 1 + 1) l[i].2.2 ≤ _; omega)
   refine xg hP 9 [] rfl ?_ ?_
   ·simp only [cj, cl]
    try dsimp only [Ty.den, Ty.dflt]
    repeat' apply And.intro
    all_goals first | rfl | omega | assumption | trivial
   refine ⟨i + 1, ?_, ?_, ent_ok rfl ?_⟩
   ·exact hlt
   ·omega
   ·rw [hnn]
    simp [conj, hget, hgd, hgi, hcl, List.getElem?_set, hlt]
    repeat' apply And.intro
    all_goals first | rfl | exact hnx | omega
  ·have hcl := mk_clen (m := mPtr) (k := k) hi
   obtain rfl : i = l.length := by have h : ¬ ((i : Nat) : Int) < ((mkLs mPtr k (l.take i) ++ l.drop i).length : Nat) := of_decide_eq_false c2; omega
   refine sw_exit (sw_seq (xr hP 4 rfl (sw_ret ⟨.inl rfl, _, rfl, ?_⟩)))
   simp [conj]
def cMkVols : Ctr := ⟨126, [.mu false T_Vol (.all .w), .val false TI pF], fun x => 0 ≤ x.2.1 ∧ nxLs mVol x.2.1 x.1 ≤ 1000000000, fun x => (sInt .i64 (nxLs mVol x.2.1 x.1), [(⟨0, 0, 0⟩, .sl T_Vol (.all .w) (mkLs mVol x.2.1 x.1))])⟩
theorem cMkVols_ok : CtrOk Proofs.Tryz.prog cMkVols := by
 have hP := (((Prg.none ttok mtok).and cMkT_ok).and cMkPtrs_ok)
 refine ctr_of_body hP cMkVols (fn := Proofs.Tryz.f126) (rts := [.tmp 4]) Proofs.Tryz.func126 rfl (by kernel_rfl) rfl rfl ?_
 rintro ⟨(l : List Vol_), (k : Int), ⟨⟩⟩ ⟨hdl, _⟩ ⟨h0, h1⟩
 try dsimp only [Ty.den, Mode.den, mdens] at h0
 try dsimp only [Ty.den, Mode.den, mdens] at h1
 refine ⟨rfl, ?_⟩
 have hml : l.length ≤ 140737488355328 := hdl.1
 replace h0 : 0 ≤ k := h0
 replace h1 : nxLs mVol k l ≤ 1000000000 := h1
 refine sw_seq (xr hP 1 rfl (sw_seq (sw_seq (xr hP 2 rfl (sw_block (sw_loop (ι := Nat) (fun i => ⟨[.v false [.own ⟨0, 0, 0⟩], sInt .i64 (nxLs mVol k (l.take i)), .j, .j, .j, sInt .i64 (i : Int), .j, .j, .j, .j, .j, .j, .j, .j, .j, .j, .j, .j, .j, .j, .j, .j, .j, .j, .j, .j, .j, .j], [(⟨0, 0, 0⟩, .sl T_Vol (.all .w) (mkLs mVol k (l.take i) ++ l.drop i))], 2, [[.v false [.own ⟨0, 0, 0⟩], .j]]⟩) (fun i => l.length - i) (fun i => i ≤ l.length) 0 ⟨?_, ?_⟩ ?_))))))
 ·exact Nat.zero_le _
 ·refine ent_ok rfl ?_
  simp [conj, mkLs, nxLs]
 ·rintro i hi
  refine sw_seq (sw_seq (xr hP 3 rfl (sw_cond rfl (fun c2 => ?_) (fun c2 => ?_))))
  ·have hcl := mk_clen (m := mVol) (k := k) hi
   have hlt : i < l.length := by have h : ((i : Nat) : Int) < ((mkLs mVol k (l.take i) ++ l.drop i).length : Nat) := of_decide_eq_true c2; omega
   have hnx := mk_next (m := mVol) (k := k) hlt
   have hnn := nx_next (m := mVol) (k := k) hlt
   obtain ⟨s1, s2, s3⟩ := nx_split mVol_ok (k := k) hlt
   have hget := mk_get (m := mVol) (k := k) hlt
   have hgd : ∀ d, (mkLs mVol k (l.take i) ++ l.drop i)[i]?.getD d = l[i] := fun d => by rw [hget]; rfl
   have hgi : ∀ h, (mkLs mVol k (l.take i) ++ l.drop i)[i]'h = l[i] := fun h => by have h2 := hget; rw [gE h] at h2; exact Option.some.inj h2
   generalize hQ : (nxLs mVol k (l.take i)) = Q at *
   have s4 : Q + 1 ≤ nxLs mPtr (Q + 1) l[i].2 := (mkList_ok mPtr_ok).ge _ _
   replace s3 : nxLs mPtr (Q + 1) l[i].2 ≤ nxLs mVol k l := s3
   refine sw_skip (sw_seq (sw_block (sw_seq (xg hP 4 [] rfl ?_ ?_))))
   ·simp [conj, hget, hgd, hgi, hcl, List.getElem?_set, hlt]
    repeat' apply And.intro
    all_goals first | trivial | assumption | omega | (show Q ≤ 1099511627776; omega) | (show 0 ≤ Q + 1; omega) | (show nxLs mPtr (Q + 1) l[i].2 ≤ _; omega)
   refine sw_seq (xg hP 5 [] rfl ?_ ?_)
   ·simp [conj, hget, hgd, hgi, hcl, List.getElem?_set, hlt]
    repeat' apply And.intro
    all_goals first | trivial | assumption | omega | (show Q ≤ 1099511627776; omega) | (show 0 ≤ Q + 1; omega) | (show nxLs mPtr (Q + 1) l[i].2 ≤ _; omega)
   refine xg hP 6 [] rfl ?_ ?_
   ·simp [conj, hget, hgd, hgi, hcl, List.getElem?_set, hlt]
    repeat' apply And.intro
    all_goals first | trivial | assumption | omega | (show Q ≤ 1099511627776; omega) | (show 0 ≤ Q + 1; omega) | (show nxLs mPtr (Q + 1) l[i].2 ≤ _; omega)
   refine xg hP 7 [] rfl ?_ ?_
   ·simp only [cj, cl]
    try dsimp only [Ty.den, Ty.dflt]
    repeat' apply And.intro
    all_goals first | rfl | omega | assumption | trivial
   refine ⟨i + 1, ?_, ?_, ent_ok rfl ?_⟩
   ·exact hlt
   ·omega
   ·rw [hnn]
    simp [conj, hget, hgd, hgi, hcl, List.getElem?_set, hlt]
    repeat' apply And.intro
    all_goals first | rfl | exact hnx | omega
  ·have hcl := mk_clen (m := mVol) (k := k) hi
   obtain rfl : i = l.length := by have h : ¬ ((i : Nat) : Int) < ((mkLs mVol k (l.take i) ++ l.drop i).length : Nat) := of_decide_eq_false c2; omega
   refine sw_exit (sw_seq (xr hP 4 rfl (sw_ret ⟨.inl rfl, _, rfl, ?_⟩)))
   simp [conj]
def cMkRoot (r : Root_) (k : Int) (a : Id) : Xctr := ⟨72, [(a, ⟨0, 0, 1⟩, .sl T_Vol (.all .w) r.2)], [], [.v true [.d TI pF r.1, .own ⟨0, 0, 1⟩], sInt .i64 k],
  (sInt .i64 (nxLs mVol k r.2), [(⟨0, 0, 1⟩, .sl T_Vol (.all .w) (mkLs mVol k r.2))])⟩
theorem cMkRoot_ok {r : Root_} {k : Int} {a : Id} (h0 : 0 ≤ k) (h1 : nxLs mVol k r.2 ≤ 1000000000) : XOk Proofs.Tryz.prog (cMkRoot r k a) := by
 have hP := ((Prg.none ttok mtok).and cMkVols_ok)
 refine xctr_of_body hP (cMkRoot r k a) (fn := Proofs.Tryz.f72) (rts := [.tmp 4]) Proofs.Tryz.func72 rfl (by kernel_rfl) rfl rfl ?_
 refine ⟨rfl, ?_⟩
 refine sw_seq (xr hP 1 rfl (sw_seq (xg hP 2 [] rfl ?_ ?_)))
 ·simp [conj, maxL]
  try dsimp only [Ty.den, Ty.dflt]
  try simp only [rd_eta]
  exact ⟨h0, h1⟩
 refine sw_seq (xr hP 3 rfl (sw_ret ⟨.inl rfl, _, rfl, ?_⟩))
 simp [conj]
end Go.Sx

namespace Go.Sx
open Go
set_option maxRecDepth 100000
set_option linter.unusedVariables false
set_option linter.unusedSimpArgs false
set_option maxHeartbeats 2000000
def cHdPls : Ctr := ⟨177, [.val false (.sl T_Place) (.all .b), .val false TI pF], fun x => 0 ≤ x.2.1 ∧ nxLs mPlc x.2.1 x.1 ≤ 1000000000, fun x => (sInt .i64 (hdLs mPlc x.2.1 x.1), [])⟩
theorem cHdPls_ok : CtrOk Proofs.Tryz.prog cHdPls := by
 have hP := (Prg.none ttok mtok)
 refine ctr_of_body hP cHdPls (fn := Proofs.Tryz.f177) (rts := [.tmp 4]) Proofs.Tryz.func177 rfl (by kernel_rfl) rfl rfl ?_
 rintro ⟨(l : List Plc), (k : Int), ⟨⟩⟩ ⟨hdl, _⟩ ⟨h0, h1⟩
 try dsimp only [Ty.den, Mode.den, mdens] at h0
 try dsimp only [Ty.den, Mode.den, mdens] at h1
 refine ⟨rfl, ?_⟩
 have hml : l.length ≤ 140737488355328 := hdl.1
 replace h0 : 0 ≤ k := h0
 replace h1 : nxLs mPlc k l ≤ 1000000000 := h1
 refine sw_seq (xr hP 1 rfl (sw_seq (sw_seq (xr hP 2 rfl (sw_block (sw_loop (ι := Nat × Int) (fun ⟨i, q⟩ => ⟨[.v false [.d (.sl T_Place) (.all .b) l], sInt .i64 q, .j, .j, .j, sInt .i64 (i : Int), .j, .j, .j, .j, .j, .j, .j, .j, .j, .j, .j, .j, .j, .j, .j, .j, .j, .j, .j, .j, .j, .j, .j, .j, .j], [], 2, []⟩) (fun ⟨i, q⟩ => l.length - i) (fun ⟨i, q⟩ => i ≤ l.length ∧ 0 ≤ q ∧ hdLs mPlc q (l.drop i) = hdLs mPlc k l ∧ nxLs mPlc q (l.drop i) ≤ 1000000000) (0, k) ⟨?_, ?_⟩ ?_))))))
 ·exact ⟨Nat.zero_le _, h0, rfl, h1⟩
 ·refine ent_ok rfl ?_
  simp [conj]
 ·rintro ⟨i, q⟩ ⟨hi, hq, hgo, hb⟩
  refine sw_seq (sw_seq (xr hP 3 rfl (sw_cond rfl (fun c2 => ?_) (fun c2 => ?_))))
  ·have hlt : i < l.length := by simpa using c2
   obtain ⟨s1, s2, s3⟩ := nx_drop mPlc_ok (q := q) hlt
   rw [s1] at hb
   have hp0 : ¬ q + 1 < 0 := by omega
   replace s2 : q ≤ q + 1 + 1 := s2
   replace s3 : q + 1 + 1 ≤ nxLs mPlc (q + 1 + 1) (l.drop (i + 1)) := s3
   replace hb : nxLs mPlc (q + 1 + 1) (l.drop (i + 1)) ≤ 1000000000 := hb
   refine sw_skip (sw_seq (sw_block (sw_seq (sw_seq (xg hP 4 [] rfl ?_ ?_)))))
   ·simp [conj, gE hlt]
    repeat' apply And.intro
    all_goals first | trivial | assumption | omega
   refine sw_cond rfl (fun c4 => ?_) (fun c4 => ?_)
   ·replace c4 : ¬ l[i].1 = q := by simpa [gE hlt] using c4
    have hn : mPlc.hd q l[i] < 0 := by simp [mPlc, mkPair, mkI, mkStr, mkBool, mkOne, mkList, mkNo, c4, hp0]
    refine sw_seq (xg hP 5 [] rfl ?_ ?_)
    ·simp [conj, gE hlt]
     repeat' apply And.intro
     all_goals first | trivial | assumption | omega
    refine sw_ret ⟨.inl rfl, _, rfl, ?_⟩
    simp [conj]
    exact (hd_hit hlt hgo hn).symm
   ·replace c4 : l[i].1 = q := by simpa [gE hlt] using c4
    refine sw_skip (sw_seq (xg hP 5 [] rfl ?_ ?_))
    ·simp [conj, gE hlt]
     repeat' apply And.intro
     all_goals first | trivial | assumption | omega
    refine sw_seq (sw_seq (xg hP 6 [] rfl ?_ ?_))
    ·simp [conj, gE hlt]
     repeat' apply And.intro
     all_goals first | trivial | assumption | omega
    refine sw_cond rfl (fun c7 => ?_) (fun c7 => ?_)
    ·replace c7 : ¬ l[i].2 = q + 1 := by simpa [gE hlt] using c7
     have hn : mPlc.hd q l[i] < 0 := by simp [mPlc, mkPair, mkI, mkStr, mkBool, mkOne, mkList, mkNo, c4, c7, hp0]
     refine sw_seq (xg hP 7 [] rfl ?_ ?_)
     ·simp [conj, gE hlt]
      repeat' apply And.intro
      all_goals first | trivial | assumption | omega
     refine sw_ret ⟨.inl rfl, _, rfl, ?_⟩
     simp [conj]
     exact (hd_hit hlt hgo hn).symm
    ·replace c7 : l[i].2 = q + 1 := by simpa [gE hlt] using c7
     have hv : mPlc.hd q l[i] = q + 1 + 1 := by simp [mPlc, mkPair, mkI, mkStr, mkBool, mkOne, mkList, mkNo, c4, c7, hp0]
     refine sw_skip (xg hP 7 [] rfl ?_ ?_)
     ·simp [conj, gE hlt]
      repeat' apply And.intro
      all_goals first | trivial | assumption | omega
     refine xg hP 8 [] rfl ?_ ?_
     ·simp only [cj, cl]
      try dsimp only [Ty.den, Ty.dflt]
      repeat' apply And.intro
      all_goals first | rfl | omega | assumption | trivial
     refine ⟨(i + 1, q + 1 + 1), ?_, ?_, ent_ok rfl ?_⟩
     ·have hnn : ¬ mPlc.hd q l[i] < 0 := by rw [hv]; omega
      have hgn := hd_next hlt hgo hnn
      have hpo := hd_pos mPlc_ok hnn
      have hbn : nxLs mPlc (q + 1 + 1) (l.drop (i + 1)) ≤ 1000000000 := by rw [← hv, hpo]; exact hb
      rw [hv] at hgn
      exact ⟨hlt, by show 0 ≤ q + 1 + 1; omega, hgn, hbn⟩
     ·show l.length - (i + 1) < l.length - i
      omega
     ·simp [conj, gE hlt]
  ·obtain rfl : i = l.length := by simp at c2; omega
   refine sw_exit (sw_seq (xr hP 4 rfl (sw_ret ⟨.inl rfl, _, rfl, ?_⟩)))
   simp [conj]
   exact (hd_end hgo).symm
def cHdPtrs : Ctr := ⟨159, [.val false (.sl T_Ptr) (.all .b), .val false TI pF], fun x => 0 ≤ x.2.1 ∧ nxLs mPtr x.2.1 x.1 ≤ 1000000000, fun x => (sInt .i64 (hdLs mPtr x.2.1 x.1), [])⟩
theorem cHdPtrs_ok : CtrOk Proofs.Tryz.prog cHdPtrs := by
 have hP := ((Prg.none ttok mtok).and cHdPls_ok)
 refine ctr_of_body hP cHdPtrs (fn := Proofs.Tryz.f159) (rts := [.tmp 4]) Proofs.Tryz.func159 rfl (by kernel_rfl) rfl rfl ?_
 rintro ⟨(l : List Ptr_), (k : Int), ⟨⟩⟩ ⟨hdl, _⟩ ⟨h0, h1⟩
 try dsimp only [Ty.den, Mode.den, mdens] at h0
 try dsimp only [Ty.den, Mode.den, mdens] at h1
 refine ⟨rfl, ?_⟩
 have hml : l.length ≤ 140737488355328 := hdl.1
 replace h0 : 0 ≤ k := h0
 replace h1 : nxLs mPtr k l ≤ 1000000000 := h1
 refine sw_seq (xr hP 1 rfl (sw_seq (sw_seq (xr hP 2 rfl (sw_block (sw_loop (ι := Nat × Int) (fun ⟨i, q⟩ => ⟨[.v false [.d (.sl T_Ptr) (.all .b) l], sInt .i64 q, .j, .j, .j, sInt .i64 (i : Int), .j, .j, .j, .j, .j, .j, .j, .j, .j, .j, .j, .j, .j, .j, .j, .j, .j, .j, .j, .j, .j, .j, .j, .j, .j, .j, .j, .j, .j, .j, .j, .j, .j, .j], [], 2, []⟩) (fun ⟨i, q⟩ => l.length - i) (fun ⟨i, q⟩ => i ≤ l.length ∧ 0 ≤ q ∧ hdLs mPtr q (l.drop i) = hdLs mPtr k l ∧ nxLs mPtr q (l.drop i) ≤ 1000000000) (0, k) ⟨?_, ?_⟩ ?_))))))
 ·exact ⟨Nat.zero_le _, h0, rfl, h1⟩
 ·refine ent_ok rfl ?_
  simp [conj]
 ·rintro ⟨i, q⟩ ⟨hi, hq, hgo, hb⟩
  refine sw_seq (sw_seq (xr hP 3 rfl (sw_cond rfl (fun c2 => ?_) (fun c2 => ?_))))
  ·have hlt : i < l.length := by simpa using c2
   obtain ⟨s1, s2, s3⟩ := nx_drop mPtr_ok (q := q) hlt
   rw [s1] at hb
   have hp0 : ¬ q + 1 < 0 := by omega
   have hp1 : ¬ q + 1 + 1 < 0 := by omega
   have s4 : q + 1 + 1 ≤ nxLs mPlc (q + 1 + 1) l[i].2.2 := (mkList_ok mPlc_ok).ge _ _
   replace s3 : nxLs mPlc (q + 1 + 1) l[i].2.2 ≤ nxLs mPtr (nxLs mPlc (q + 1 + 1) l[i].2.2) (l.drop (i + 1)) := s3
   have hb2 : nxLs mPtr (nxLs mPlc (q + 1 + 1) l[i].2.2) (l.drop (i + 1)) ≤ 1000000000 := hb
   refine sw_skip (sw_seq (sw_block (sw_seq (sw_seq (xg hP 4 [] rfl ?_ ?_)))))
   ·simp [conj, gE hlt]
    repeat' apply And.intro
    all_goals first | trivial | assumption | omega | (show 0 ≤ q + 1 + 1; omega) | (show nxLs mPlc (q + 1 + 1) l[i].2.2 ≤ _; omega)
   refine sw_cond rfl (fun c4 => ?_) (fun c4 => ?_)
   ·replace c4 : ¬ l[i].1 = q := by simpa [gE hlt] using c4
    have hn : mPtr.hd q l[i] < 0 := by simp [mPtr, mkPair, mkI, mkStr, mkBool, mkOne, mkList, mkNo, c4, hp0, hp1]
    refine sw_seq (xg hP 5 [] rfl ?_ ?_)
    ·simp [conj, gE hlt]
     repeat' apply And.intro
     all_goals first | trivial | assumption | omega | (show 0 ≤ q + 1 + 1; omega) | (show nxLs mPlc (q + 1 + 1) l[i].2.2 ≤ _; omega)
    refine sw_ret ⟨.inl rfl, _, rfl, ?_⟩
    simp [conj]
    exact (hd_hit hlt hgo hn).symm
   ·replace c4 : l[i].1 = q := by simpa [gE hlt] using c4
    refine sw_skip (sw_seq (xg hP 5 [] rfl ?_ ?_))
    ·simp [conj, gE hlt]
     repeat' apply And.intro
     all_goals first | trivial | assumption | omega | (show 0 ≤ q + 1 + 1; omega) | (show nxLs mPlc (q + 1 + 1) l[i].2.2 ≤ _; omega)
    refine sw_seq (sw_seq (xg hP 6 [] rfl ?_ ?_))
    ·simp [conj, gE hlt]
     repeat' apply And.intro
     all_goals first | trivial | assumption | omega | (show 0 ≤ q + 1 + 1; omega) | (show nxLs mPlc (q + 1 + 1) l[i].2.2 ≤ _; omega)
    refine sw_cond rfl (fun c7 => ?_) (fun c7 => ?_)
    ·replace c7 : ¬ l[i].2.1 = q + 1 := by simpa [gE hlt] using c7
     have hn : mPtr.hd q l[i] < 0 := by simp [mPtr, mkPair, mkI, mkStr, mkBool, mkOne, mkList, mkNo, c4, c7, hp0, hp1]
     refine sw_seq (xg hP 7 [] rfl ?_ ?_)
     ·simp [conj, gE hlt]
      repeat' apply And.intro
      all_goals first | trivial | assumption | omega | (show 0 ≤ q + 1 + 1; omega) | (show nxLs mPlc (q + 1 + 1) l[i].2.2 ≤ _; omega)
     refine sw_ret ⟨.inl rfl, _, rfl, ?_⟩
     simp [conj]
     exact (hd_hit hlt hgo hn).symm
    ·replace c7 : l[i].2.1 = q + 1 := by simpa [gE hlt] using c7
     refine sw_skip (sw_seq (xg hP 7 [] rfl ?_ ?_))
     ·simp [conj, gE hlt]
      repeat' apply And.intro
      all_goals first | trivial | assumption | omega | (show 0 ≤ q + 1 + 1; omega) | (show nxLs mPlc (q + 1 + 1) l[i].2.2 ≤ _; omega)
     refine sw_seq (xg hP 8 [] rfl ?_ ?_)
     ·simp [conj, gE hlt]
      repeat' apply And.intro
      all_goals first | trivial | assumption | omega | (show 0 ≤ q + 1 + 1; omega) | (show nxLs mPlc (q + 1 + 1) l[i].2.2 ≤ _; omega)
     refine sw_seq (xg hP 9 [] rfl ?_ ?_)
     ·simp [conj, gE hlt]
      repeat' apply And.intro
      all_goals first | trivial | assumption | omega | (show 0 ≤ q + 1 + 1; omega) | (show nxLs mPlc (q + 1 + 1) l[i].2.2 ≤ _; omega)
     refine sw_cond rfl (fun c11 => ?_) (fun c11 => ?_)
     ·replace c11 : hdLs mPlc (q + 1 + 1) l[i].2.2 < 0 := by simpa [gE hlt] using c11
      have hn : mPtr.hd q l[i] < 0 := by simp [mPtr, mkPair, mkI, mkStr, mkBool, mkOne, mkList, mkNo, c4, c7, c11, hp0, hp1]
      refine sw_seq (xg hP 10 [] rfl ?_ ?_)
      ·simp [conj, gE hlt]
       repeat' apply And.intro
       all_goals first | trivial | assumption | omega | (show 0 ≤ q + 1 + 1; omega) | (show nxLs mPlc (q + 1 + 1) l[i].2.2 ≤ _; omega)
      refine sw_ret ⟨.inl rfl, _, rfl, ?_⟩
      simp [conj]
      exact (hd_hit hlt hgo hn).symm
     ·replace c11 : ¬ hdLs mPlc (q + 1 + 1) l[i].2.2 < 0 := by simpa [gE hlt] using c11
      have e0 := hd_pos (mkList_ok mPlc_ok) c11
      have hv : mPtr.hd q l[i] = hdLs mPlc (q + 1 + 1) l[i].2.2 := by simp [mPtr, mkPair, mkI, mkStr, mkBool, mkOne, mkList, mkNo, c4, c7, c11, hp0, hp1]
      refine sw_skip (xg hP 10 [] rfl ?_ ?_)
      ·simp only [cj, cl]
       try dsimp only [Ty.den, Ty.dflt]
       repeat' apply And.intro
       all_goals first | rfl | omega | assumption | trivial
      refine ⟨(i + 1, hdLs mPlc (q + 1 + 1) l[i].2.2), ?_, ?_, ent_ok rfl ?_⟩
      ·have hnn : ¬ mPtr.hd q l[i] < 0 := by rw [hv]; omega
       have hgn := hd_next hlt hgo hnn
       have hpo := hd_pos mPtr_ok hnn
       have hbn : nxLs mPtr (hdLs mPlc (q + 1 + 1) l[i].2.2) (l.drop (i + 1)) ≤ 1000000000 := by rw [← hv, hpo]; exact hb
       rw [hv] at hgn
       exact ⟨hlt, by show 0 ≤ hdLs mPlc (q + 1 + 1) l[i].2.2; omega, hgn, hbn⟩
      ·show l.length - (i + 1) < l.length - i
       omega
      ·simp [conj, gE hlt]
  ·obtain rfl : i = l.length := by simp at c2; omega
   refine sw_exit (sw_seq (xr hP 4 rfl (sw_ret ⟨.inl rfl, _, rfl, ?_⟩)))
   simp [conj]
   exact (hd_end hgo).symm
def cHdVols : Ctr := ⟨127, [.val false (.sl T_Vol) (.all .b), .val false TI pF], fun x => 0 ≤ x.2.1 ∧ nxLs mVol x.2.1 x.1 ≤ 1000000000, fun x => (sInt .i64 (hdLs mVol x.2.1 x.1), [])⟩
theorem cHdVols_ok : CtrOk Proofs.Tryz.prog cHdVols := by
 have hP := (((Prg.none ttok mtok).and cMkT_ok).and cHdPtrs_ok)
 refine ctr_of_body hP cHdVols (fn := Proofs.Tryz.f127) (rts := [.tmp 4]) Proofs.Tryz.func127 rfl (by kernel_rfl) rfl rfl ?_
 rintro ⟨(l : List Vol_), (k : Int), ⟨⟩⟩ ⟨hdl, _⟩ ⟨h0, h1⟩
 try dsimp only [Ty.den, Mode.den, mdens] at h0
 try dsimp only [Ty.den, Mode.den, mdens] at h1
 refine ⟨rfl, ?_⟩
 have hml : l.length ≤ 140737488355328 := hdl.1
 replace h0 : 0 ≤ k := h0
 replace h1 : nxLs mVol k l ≤ 1000000000 := h1
 refine sw_seq (xr hP 1 rfl (sw_seq (sw_seq (xr hP 2 rfl (sw_block (sw_loop (ι := Nat × Int) (fun ⟨i, q⟩ => ⟨[.v false [.d (.sl T_Vol) (.all .b) l], sInt .i64 q, .j, .j, .j, sInt .i64 (i : Int), .j, .j, .j, .j, .j, .j, .j, .j, .j, .j, .j, .j, .j, .j, .j, .j, .j, .j, .j, .j, .j, .j, .j, .j, .j, .j], [], 2, []⟩) (fun ⟨i, q⟩ => l.length - i) (fun ⟨i, q⟩ => i ≤ l.length ∧ 0 ≤ q ∧ hdLs mVol q (l.drop i) = hdLs mVol k l ∧ nxLs mVol q (l.drop i) ≤ 1000000000) (0, k) ⟨?_, ?_⟩ ?_))))))
 ·exact ⟨Nat.zero_le _, h0, rfl, h1⟩
 ·refine ent_ok rfl ?_
  simp [conj]
 ·rintro ⟨i, q⟩ ⟨hi, hq, hgo, hb⟩
  refine sw_seq (sw_seq (xr hP 3 rfl (sw_cond rfl (fun c2 => ?_) (fun c2 => ?_))))
  ·have hlt : i < l.length := by simpa using c2
   obtain ⟨s1, s2, s3⟩ := nx_drop mVol_ok (q := q) hlt
   rw [s1] at hb
   have hp0 : ¬ q + 1 < 0 := by omega
   have s4 : q + 1 ≤ nxLs mPtr (q + 1) l[i].2 := (mkList_ok mPtr_ok).ge _ _
   replace s3 : nxLs mPtr (q + 1) l[i].2 ≤ nxLs mVol (nxLs mPtr (q + 1) l[i].2) (l.drop (i + 1)) := s3
   have hb2 : nxLs mVol (nxLs mPtr (q + 1) l[i].2) (l.drop (i + 1)) ≤ 1000000000 := hb
   refine sw_skip (sw_seq (sw_block (sw_seq (sw_seq (xg hP 4 [] rfl ?_ ?_)))))
   ·simp [conj, gE hlt]
    repeat' apply And.intro
    all_goals first | trivial | assumption | omega | (show q ≤ 1099511627776; omega) | (show 0 ≤ q + 1; omega) | (show nxLs mPtr (q + 1) l[i].2 ≤ _; omega)
   refine sw_cond rfl (fun c4 => ?_) (fun c4 => ?_)
   ·replace c4 : ¬ l[i].1 = mkT q := by simpa [gE hlt] using c4
    have hn : mVol.hd q l[i] < 0 := by simp [mVol, mkPair, mkI, mkStr, mkBool, mkOne, mkList, mkNo, c4, hp0]
    refine sw_seq (xg hP 5 [] rfl ?_ ?_)
    ·simp [conj, gE hlt]
     repeat' apply And.intro
     all_goals first | trivial | assumption | omega | (show q ≤ 1099511627776; omega) | (show 0 ≤ q + 1; omega) | (show nxLs mPtr (q + 1) l[i].2 ≤ _; omega)
    refine sw_ret ⟨.inl rfl, _, rfl, ?_⟩
    simp [conj]
    exact (hd_hit hlt hgo hn).symm
   ·replace c4 : l[i].1 = mkT q := by simpa [gE hlt] using c4
    refine sw_skip (sw_seq (xg hP 5 [] rfl ?_ ?_))
    ·simp [conj, gE hlt]
     repeat' apply And.intro
     all_goals first | trivial | assumption | omega | (show q ≤ 1099511627776; omega) | (show 0 ≤ q + 1; omega) | (show nxLs mPtr (q + 1) l[i].2 ≤ _; omega)
    refine sw_seq (xg hP 6 [] rfl ?_ ?_)
    ·simp [conj, gE hlt]
     repeat' apply And.intro
     all_goals first | trivial | assumption | omega | (show q ≤ 1099511627776; omega) | (show 0 ≤ q + 1; omega) | (show nxLs mPtr (q + 1) l[i].2 ≤ _; omega)
    refine sw_seq (xg hP 7 [] rfl ?_ ?_)
    ·simp [conj, gE hlt]
     repeat' apply And.intro
     all_goals first | trivial | assumption | omega | (show q ≤ 1099511627776; omega) | (show 0 ≤ q + 1; omega) | (show nxLs mPtr (q + 1) l[i].2 ≤ _; omega)
    refine sw_cond rfl (fun c8 => ?_) (fun c8 => ?_)
    ·replace c8 : hdLs mPtr (q + 1) l[i].2 < 0 := by simpa [gE hlt] using c8
     have hn : mVol.hd q l[i] < 0 := by simp [mVol, mkPair, mkI, mkStr, mkBool, mkOne, mkList, mkNo, c4, c8, hp0]
     refine sw_seq (xg hP 8 [] rfl ?_ ?_)
     ·simp [conj, gE hlt]
      repeat' apply And.intro
      all_goals first | trivial | assumption | omega | (show q ≤ 1099511627776; omega) | (show 0 ≤ q + 1; omega) | (show nxLs mPtr (q + 1) l[i].2 ≤ _; omega)
     refine sw_ret ⟨.inl rfl, _, rfl, ?_⟩
     simp [conj]
     exact (hd_hit hlt hgo hn).symm
    ·replace c8 : ¬ hdLs mPtr (q + 1) l[i].2 < 0 := by simpa [gE hlt] using c8
     have e0 := hd_pos (mkList_ok mPtr_ok) c8
     have hv : mVol.hd q l[i] = hdLs mPtr (q + 1) l[i].2 := by simp [mVol, mkPair, mkI, mkStr, mkBool, mkOne, mkList, mkNo, c4, c8, hp0]
     refine sw_skip (xg hP 8 [] rfl ?_ ?_)
     ·simp only [cj, cl]
      try dsimp only [Ty.den, Ty.dflt]
      repeat' apply And.intro
      all_goals first | rfl | omega | assumption | trivial
     refine ⟨(i + 1, hdLs mPtr (q + 1) l[i].2), ?_, ?_, ent_ok rfl ?_⟩
     ·have hnn : ¬ mVol.hd q l[i] < 0 := by rw [hv]; omega
      have hgn := hd_next hlt hgo hnn
      have hpo := hd_pos mVol_ok hnn
      have hbn : nxLs mVol (hdLs mPtr (q + 1) l[i].2) (l.drop (i + 1)) ≤ 1000000000 := by rw [← hv, hpo]; exact hb
      rw [hv] at hgn
      exact ⟨hlt, by show 0 ≤ hdLs mPtr (q + 1) l[i].2; omega, hgn, hbn⟩
     ·show l.length - (i + 1) < l.length - i
      omega
     ·simp [conj, gE hlt]
  ·obtain rfl : i = l.length := by simp at c2; omega
   refine sw_exit (sw_seq (xr hP 4 rfl (sw_ret ⟨.inl rfl, _, rfl, ?_⟩)))
   simp [conj]
   exact (hd_end hgo).symm
def cHdRoot : Ctr := ⟨73, [.val true T_Root (.all .b), .val false TI pF], fun x => 0 ≤ x.2.1 ∧ nxLs mVol x.2.1 x.1.2 ≤ 1000000000, fun x => (sInt .i64 (hdLs mVol x.2.1 x.1.2), [])⟩
theorem cHdRoot_ok : CtrOk Proofs.Tryz.prog cHdRoot := by
 have hP := ((Prg.none ttok mtok).and cHdVols_ok)
 refine ctr_of_body hP cHdRoot (fn := Proofs.Tryz.f73) (rts := [.tmp 4]) Proofs.Tryz.func73 rfl (by kernel_rfl) rfl rfl ?_
 rintro ⟨⟨(tg : Int), (l : List Vol_)⟩, (k : Int), ⟨⟩⟩ _ ⟨h0, h1⟩
 try dsimp only [Ty.den, Mode.den, mdens] at h0
 try dsimp only [Ty.den, Mode.den, mdens] at h1
 refine ⟨rfl, ?_⟩
 replace h0 : 0 ≤ k := h0
 refine sw_seq (xr hP 1 rfl (sw_seq (xg hP 2 [] rfl ?_ ?_)))
 ·simp [conj, maxL]
  try dsimp only [Ty.den, Ty.dflt]
  try simp only [rd_eta]
  exact ⟨h0, h1⟩
 refine sw_seq (sw_seq (xr hP 3 rfl (sw_cond rfl (fun c2 => ?_) (fun c2 => ?_))))
 ·replace c2 : hdLs mVol k l < 0 := of_decide_eq_true c2
  have hv : hdLs mVol k l = -1 := hd_neg (mkList_ok mVol_ok) h0 c2
  refine sw_seq (xr hP 4 rfl (sw_ret ⟨.inl rfl, _, rfl, ?_⟩))
  simp [conj]
  exact hv.symm
 ·refine sw_skip (sw_seq (xr hP 4 rfl (sw_ret ⟨.inl rfl, _, rfl, ?_⟩)))
  simp [conj]
end Go.Sx
