/- Several texts, one behind the other. -/
import Derived.Test.YtkbgdpdldoopmabGreatDoorMRwtoMRn
set_option linter.all false
namespace Go.Sx
open Go
set_option maxRecDepth 100000
set_option linter.unusedVariables false
set_option linter.unusedSimpArgs false
set_option maxHeartbeats 2000000
def cCutS : Ctr := ⟨20, [.val false .str pF, .val false (.int .u8) pF], fun x => List.length x.1 ≤ 1000000 ∧ 0 ≤ x.2.1 ∧ x.2.1 ≤ 255, fun x => (.v false [.own ⟨1, 0, 0⟩], [(⟨1, 0, 0⟩, .sl .str pF (cutV (UInt8.ofNat x.2.1.toNat) x.1))])⟩
theorem cCutS_ok : CtrOk Proofs.Tryz.prog cCutS := by
 have hP := (Prg.none ttok mtok)
 refine ctr_of_body hP cCutS (fn := Proofs.Tryz.f20) (rts := [.tmp 4]) Proofs.Tryz.func20 rfl (by kernel_rfl) rfl rfl ?_
 rintro ⟨(s : Str), (a : Int), ⟨⟩⟩ _ ⟨hs, ha0, ha1⟩
 try dsimp only [Ty.den, Mode.den, mdens] at hs
 try dsimp only [Ty.den, Mode.den, mdens] at ha0
 try dsimp only [Ty.den, Mode.den, mdens] at ha1
 refine ⟨rfl, ?_⟩
 replace hs : s.length ≤ 1000000 := hs
 replace ha0 : 0 ≤ a := ha0
 replace ha1 : a ≤ 255 := ha1
 refine sw_seq (rd hP 1 rfl (sw_seq (rd hP 2 rfl (sw_seq (sw_seq (rd hP 3 rfl (sw_block (sw_loop (ι := Nat × List Str × Str) (fun ⟨i, w, cur⟩ => ⟨[sStr s, sInt .u8 a, .j, .j, .j, .v false [.own ⟨0, 9, 0⟩], sInt .i64 (i : Int), .j, .j, .j, .j, .j, .j, .j, .j, .j, .j, .j, .j, .j, .j, .j, .j, .j, .j, .j, .j, .j, .j, .j, .j, .j, .j, .j, .j, .j, .j, .j, .j, .j], [(⟨0, 9, 0⟩, .sl .str pF (w ++ [cur]))], 3, []⟩) (fun ⟨i, w, cur⟩ => s.length - i) (fun ⟨i, w, cur⟩ => i ≤ s.length ∧ w.length ≤ i ∧ cur.length ≤ i ∧ w ++ cutGo (UInt8.ofNat a.toNat) cur (s.drop i) = cutV (UInt8.ofNat a.toNat) s) (0, [], []) ⟨?_, ?_⟩ ?_))))))))
 ·exact ⟨Nat.zero_le _, Nat.le_refl _, Nat.le_refl _, rfl⟩
 ·refine ent_ok rfl ?_
  simp [conj, bytesL]
 ·rintro ⟨i, w, cur⟩ ⟨hi, hw, hc, hgo⟩
  refine sw_seq (sw_seq (rd hP 4 rfl (sw_cond rfl (fun c3 => ?_) (fun c3 => ?_))))
  ·have hlt : i < s.length := by simpa using c3
   rw [List.drop_eq_getElem_cons hlt] at hgo
   simp only [cutGo] at hgo
   refine sw_skip (sw_seq (sw_block (sw_seq (rg hP 5 [] rfl ?_ ?_))))
   ·simp only [cj, cl]
    try dsimp only [Ty.den, Ty.dflt]
    repeat' apply And.intro
    all_goals first | omega | trivial
   refine sw_cond rfl (fun c5 => ?_) (fun c5 => ?_)
   ·replace c5 : s[i] = (UInt8.ofNat a.toNat) := by
      have h : decide (((List.getD s i 0).toNat : Int) = a) = true := c5
      have h2 := of_decide_eq_true h
      rw [List.getD_eq_getElem?_getD, gE hlt] at h2
      exact (u8_at ha0 ha1).1 h2
    rw [if_pos c5] at hgo
    refine rg hP 6 [] rfl ?_ ?_
    ·simp [conj, maxL]
     omega
    refine rd hP 7 rfl (⟨(i + 1, w ++ [cur], []), ?_, ?_, ent_ok rfl ?_⟩)
    ·exact ⟨hlt, by simp; omega, Nat.zero_le _, by rw [← hgo, List.append_assoc]; rfl⟩
    ·show s.length - (i + 1) < s.length - i
     omega
    ·simp [conj, bytesL]
   ·replace c5 : ¬ s[i] = (UInt8.ofNat a.toNat) := by
      have h : decide (((List.getD s i 0).toNat : Int) = a) = false := c5
      have h2 := of_decide_eq_false h
      rw [List.getD_eq_getElem?_getD, gE hlt] at h2
      exact fun e => h2 ((u8_at ha0 ha1).2 e)
    rw [if_neg c5] at hgo
    refine rg hP 6 [] rfl ?_ ?_
    ·simp [conj, maxL, gE hlt, ofBytes]
     repeat' apply And.intro
     all_goals first | omega | trivial | exact Int.lt_succ _
    refine rd hP 7 rfl (⟨(i + 1, w, cur ++ [s[i]]), ?_, ?_, ent_ok rfl ?_⟩)
    ·exact ⟨hlt, by omega, by simp; omega, hgo⟩
    ·show s.length - (i + 1) < s.length - i
     omega
    ·simp [conj, gE hlt, ofBytes]
  ·obtain rfl : i = s.length := by simp at c3; omega
   rw [List.drop_length] at hgo
   simp only [cutGo] at hgo
   refine sw_exit (sw_seq (rd hP 5 rfl (sw_ret ⟨.inl rfl, _, rfl, ?_⟩)))
   simp [conj]
   exact hgo
def cNumS : Ctr := ⟨21, [.val false .str pF], fun x => True, fun x => (sInt .i64 (numV x.1), [])⟩
theorem cNumS_ok : CtrOk Proofs.Tryz.prog cNumS := by
 have hP := ((Prg.none ttok mtok).and cIn_ok)
 refine ctr_of_body hP cNumS (fn := Proofs.Tryz.f21) (rts := [.tmp 2]) Proofs.Tryz.func21 rfl (by kernel_rfl) rfl rfl ?_
 rintro ⟨(s : Str), ⟨⟩⟩ ⟨hds, _⟩ _
 try dsimp only [Ty.den, Mode.den, mdens] at _
 refine ⟨rfl, ?_⟩
 have hml : s.length ≤ 140737488355328 := hds
 refine sw_seq (rd hP 1 rfl (sw_seq (rd hP 2 rfl (sw_seq (sw_seq (rd hP 3 rfl (sw_cond rfl (fun c2 => ?_) (fun c2 => ?_))))))))
 ·have hv : ¬ inV (s.length : Int) 1 12 = true := by have h : (!inV (s.length : Int) 1 12) = true := c2; simpa using h
  refine sw_seq (rd hP 4 rfl (sw_ret ⟨.inl rfl, _, rfl, ?_⟩))
  simp [conj]
  exact (if_neg hv).symm
 ·have hv : inV (s.length : Int) 1 12 = true := by have h : (!inV (s.length : Int) 1 12) = false := c2; simpa using h
  have hl12 : s.length ≤ 12 := by simp [inV] at hv; omega
  refine sw_skip (sw_seq (sw_seq (rd hP 4 rfl (sw_block (sw_loop (ι := Nat × Int) (fun ⟨i, n⟩ => ⟨[sStr s, .j, .j, sInt .i64 n, sInt .i64 (i : Int), .j, .j, .j, .j, .j, .j, .j, .j, .j, .j, .j, .j, .j, .j, .j, .j, .j, .j, .j, .j, .j, .j, .j, .j, .j, .j, .j, .j, .j], [], 4, []⟩) (fun ⟨i, n⟩ => s.length - i) (fun ⟨i, n⟩ => i ≤ s.length ∧ 0 ≤ n ∧ n < ((10 ^ i : Nat) : Int) ∧ numGo (s.drop i) n = numGo s 0) (0, 0) ⟨?_, ?_⟩ ?_)))))
  ·exact ⟨Nat.zero_le _, by decide, by decide, rfl⟩
  ·refine ent_ok rfl ?_
   simp [conj]
  ·rintro ⟨i, n⟩ ⟨hi, hn0, hn1, hgo⟩
   refine sw_seq (sw_seq (rd hP 5 rfl (sw_cond rfl (fun c5 => ?_) (fun c5 => ?_))))
   ·have hlt : i < s.length := by simpa using c5
    have hp12 : 10 ^ i ≤ 10 ^ 11 := Nat.pow_le_pow_right (by decide) (show i ≤ 11 by omega)
    have hps : 10 ^ (i + 1) = 10 ^ i * 10 := Nat.pow_succ 10 i
    have hu := s[i].toNat_lt
    rw [List.drop_eq_getElem_cons hlt] at hgo
    simp only [numGo] at hgo
    refine sw_skip (sw_seq (sw_block (sw_seq (sw_seq ?_))))
    refine sw_dec hP 6 [] 4 rfl (fun g7_4 => ?_) (fun g7_4 => ?_)
    ·have hbad : s[i].toNat < 48 ∨ 57 < s[i].toNat := .inl (by have h := g7_4; simp [gE hlt] at h; omega)
     refine rg hP 6 [(4, true)] rfl ?_ ?_
     ·simp [conj, gE hlt]
      repeat' apply And.intro
      all_goals first | omega | trivial | (have h := g7_4; simp [gE hlt] at h; omega)
     refine sw_condT rfl (sw_seq (rd hP 7 rfl (sw_ret ⟨.inl rfl, _, rfl, ?_⟩)))
     simp [conj]
     have hz : numGo s 0 = -1 := by rw [← hgo, if_pos hbad]
     unfold numV
     rw [if_pos hv, hz]
    ·have hg0 : ¬ s[i].toNat < 48 := by have h := g7_4; simp [gE hlt] at h; omega
     refine rg hP 6 [(4, false)] rfl ?_ ?_
     ·simp [conj, gE hlt]
      repeat' apply And.intro
      all_goals first | omega | trivial | (have h := g7_4; simp [gE hlt] at h; omega)
     refine sw_cond rfl (fun c7 => ?_) (fun c7 => ?_)
     ·have hbad : s[i].toNat < 48 ∨ 57 < s[i].toNat := .inr (by have h := c7; simp [gE hlt] at h; omega)
      refine sw_seq (rd hP 7 rfl (sw_ret ⟨.inl rfl, _, rfl, ?_⟩))
      simp [conj]
      have hz : numGo s 0 = -1 := by rw [← hgo, if_pos hbad]
      unfold numV
      rw [if_pos hv, hz]
     ·have hg1 : ¬ 57 < s[i].toNat := by have h := c7; simp [gE hlt] at h; omega
      rw [if_neg (by omega)] at hgo
      refine sw_skip (rg hP 7 [] rfl ?_ ?_)
      ·simp [conj, gE hlt]
       repeat' apply And.intro
       all_goals first | omega | trivial
      refine rd hP 8 rfl (⟨(i + 1, 10 * n + ((s[i].toNat : Int) - 48)), ?_, ?_, ent_ok rfl ?_⟩)
      ·exact ⟨hlt, by show 0 ≤ 10 * n + ((s[i].toNat : Int) - 48); omega, by show 10 * n + ((s[i].toNat : Int) - 48) < ((10 ^ (i + 1) : Nat) : Int); rw [hps]; omega, hgo⟩
      ·show s.length - (i + 1) < s.length - i
       omega
      ·simp [conj, gE hlt]
   ·obtain rfl : i = s.length := by simp at c5; omega
    rw [List.drop_length] at hgo
    simp only [numGo] at hgo
    refine sw_exit (sw_seq (rd hP 6 rfl (sw_ret ⟨.inl rfl, _, rfl, ?_⟩)))
    simp [conj]
    unfold numV
    rw [if_pos hv, ← hgo]
end Go.Sx

namespace Go.Sx
open Go
set_option maxRecDepth 100000
set_option linter.unusedVariables false
set_option linter.unusedSimpArgs false
set_option maxHeartbeats 2000000
def cPtrRd : Ctr := ⟨22, [.val false .str pF], fun x => List.length x.1 ≤ 1000000, fun x => (.v true [.d TI pF (ptrR (cutV 32 x.1)).1, .d TI pF (ptrR (cutV 32 x.1)).2.1, .own ⟨1, 0, 0⟩], [(⟨1, 0, 0⟩, .sl T_Place pF (ptrR (cutV 32 x.1)).2.2)])⟩
theorem cPtrRd_ok : CtrOk Proofs.Tryz.prog cPtrRd := by
 have hP := (((Prg.none ttok mtok).and cCutS_ok).and cNumS_ok)
 refine ctr_of_body hP cPtrRd (fn := Proofs.Tryz.f22) (rts := [.cell 2 50]) Proofs.Tryz.func22 rfl (by kernel_rfl) rfl rfl ?_
 rintro ⟨(s : Str), ⟨⟩⟩ _ hpre
 try dsimp only [Ty.den, Mode.den, mdens] at hpre
 refine ⟨rfl, ?_⟩
 replace hpre : s.length ≤ 1000000 := hpre
 obtain ⟨w, hw⟩ : ∃ w, (cutV 32 s) = w := ⟨_, rfl⟩
 have hw0 : 0 < w.length := hw ▸ List.length_pos_iff.2 cutV_ne
 have hwl : ∀ x ∈ w, x.length ≤ 1000000 := fun x hx => by
   have := cutGo_len' (a := 32) (s := s) (cur := []) x (by rw [← hw] at hx; exact hx)
   simp only [List.length_nil] at this
   omega
 have hwn : w.length ≤ 1000001 := by rw [← hw]; have := cutV_cnt (a := 32) (s := s); omega
 refine sw_seq (rd hP 1 rfl (sw_seq (rg hP 2 [] rfl ?_ ?_)))
 ·simp only [cj, cl]
  try dsimp only [Ty.den, Ty.dflt]
  repeat' apply And.intro
  all_goals first | omega | trivial | exact hpre | (show (0:Int) ≤ 32; decide) | (show (32:Int) ≤ 255; decide)
 refine sw_seq (sw_seq ?_)
 refine sw_ent (st' := ⟨[.j, .j, .v false [.ptr ⟨1, 0, 0⟩ 0], .v false [.own ⟨2, 1, 0⟩], .j, .j, .j, .j, .j, .j, .j, .j, .j, .j, .j, .j, .j, .j, .j, .j, .j, .j, .j, .j, .j, .j, .j, .j, .j, .j, .j, .j, .j, .j, .j, .j, .j, .j, .j, .j, .j, .j, .j, .j, .j, .j, .j, .j, .j, .j, .j, .j, .j, .j, .j, .j, .j, .j, .j, .j, .j, .j], [(⟨1, 0, 0⟩, .var [.d TI pF 0, .d TI pF 0, .d (.sl T_Place) pF []]), (⟨2, 1, 0⟩, .sl .str pF w)], 2, []⟩) (ent_ok rfl ?_) ?_
 ·simp [conj]
  exact hw
 refine sw_dec hP 3 [] 4 rfl (fun g2_4 => ?_) (fun g2_4 => ?_)
 ·have hbad : w.getD 0 [] ≠ tPtr ∨ w.length < 3 := .inl (by have h := g2_4; simp [gE hw0, bytesL] at h; rw [List.getD_eq_getElem?_getD, gE hw0]; exact h)
  refine rg hP 3 [(4, true)] rfl ?_ ?_
  ·simp [conj, gE hw0]
   repeat' apply And.intro
   all_goals first | omega | trivial | (have h := g2_4; simp [gE hw0] at h; exact h)
  refine sw_condT rfl (sw_seq (rd hP 4 rfl (sw_ret ⟨.inl rfl, _, rfl, ?_⟩)))
  have hv : ptrR w = (0, 0, []) := if_pos hbad
  rw [hw, hv]
  simp [conj]
 ·have hg : w.getD 0 [] = tPtr := by have h := g2_4; simp [gE hw0, bytesL] at h; rw [List.getD_eq_getElem?_getD, gE hw0]; exact h
  refine rg hP 3 [(4, false)] rfl ?_ ?_
  ·simp [conj, gE hw0]
   repeat' apply And.intro
   all_goals first | omega | trivial | (have h := g2_4; simp [gE hw0] at h; exact h)
  refine sw_cond rfl (fun c2 => ?_) (fun c2 => ?_)
  ·have hbad : w.getD 0 [] ≠ tPtr ∨ w.length < 3 := .inr (by have h := c2; simp at h; omega)
   refine sw_seq (rd hP 4 rfl (sw_ret ⟨.inl rfl, _, rfl, ?_⟩))
   have hv : ptrR w = (0, 0, []) := if_pos hbad
   rw [hw, hv]
   simp [conj]
  ·have h3 : ¬ w.length < 3 := by have h := c2; simp at h; omega
   have h1 : 1 < w.length := by omega
   have h2 : 2 < w.length := by omega
   have hv : ptrR w = (numV (w.getD 1 []), numV (w.getD 2 []), (w.drop 3).map plcR) := if_neg (fun h => h.elim (fun h => h hg) h3)
   refine sw_skip (sw_seq (rg hP 4 [] rfl ?_ ?_))
   ·simp [conj, gE h1, gE h2]
    repeat' apply And.intro
    all_goals first | omega | trivial | exact Int.ofNat_lt.2 h1 | exact Int.ofNat_lt.2 h2
   refine sw_seq (sw_seq (rd hP 5 rfl (sw_block (sw_loop (ι := Nat) (fun i => ⟨[.j, .j, .v false [.ptr ⟨1, 0, 0⟩ 0], .v false [.own ⟨2, 1, 0⟩], .v false [.ptr ⟨4, 10, 0⟩ 0], sInt .i64 (i : Int), .j, .j, .j, .j, .j, .j, .j, .j, .j, .j, .j, .j, .j, .j, .j, .j, .j, .j, .j, .j, .j, .j, .j, .j, .j, .j, .j, .j, .j, .j, .j, .j, .j, .j, .j, .j, .j, .j, .j, .j, .j, .j, .j, .j, .j, .j, .j, .j, .j, .j, .j, .j, .j, .j, .j, .j], [(⟨1, 0, 0⟩, .var [.d TI pF 0, .d TI pF 0, .d (.sl T_Place) pF []]), (⟨2, 1, 0⟩, .sl .str pF w), (⟨4, 10, 0⟩, .var [.d TI pF (numV (w.getD 1 [])), .d TI pF (numV (w.getD 2 [])), .own ⟨0, 9, 0⟩]), (⟨0, 9, 0⟩, .sl T_Place pF (((List.map plcR w).take i).drop 3))], 5, []⟩) (fun i => w.length - i) (fun i => 3 ≤ i ∧ i ≤ w.length) 3 ⟨?_, ?_⟩ ?_))))
   ·exact ⟨Nat.le_refl _, by omega⟩
   ·refine ent_ok rfl ?_
    simp [conj, gE h1, gE h2]
   ·rintro i ⟨h3i, hi⟩
    refine sw_seq (sw_seq (rd hP 6 rfl (sw_cond rfl (fun c6 => ?_) (fun c6 => ?_))))
    ·have hlt : i < w.length := by simpa using c6
     have hil := hwl _ (List.getElem_mem hlt)
     have hc0 : 0 < (cutV 46 (w[i])).length := List.length_pos_iff.2 cutV_ne
     have hnx : ((List.map plcR w).take (i + 1)).drop 3 = ((List.map plcR w).take i).drop 3 ++ [plcR w[i]] := by rw [dt_next h3i (by simpa using hlt)]; simp
     refine sw_skip (sw_seq (sw_block (sw_seq (rg hP 7 [] rfl ?_ ?_))))
     ·simp [conj, gE hlt]
      repeat' apply And.intro
      all_goals first | omega | trivial | exact hil | (show w[i].length ≤ 1000000; exact hil) | (show (0:Int) ≤ 46; decide) | (show (46:Int) ≤ 255; decide)
     refine sw_seq (rg hP 8 [] rfl ?_ ?_)
     ·simp [conj, gE hlt, gE hc0]
      repeat' apply And.intro
      all_goals first | omega | trivial
     refine sw_seq (sw_seq (rg hP 9 [] rfl ?_ ?_))
     ·simp [conj, gE hlt]
      repeat' apply And.intro
      all_goals first | omega | trivial
     refine sw_cond rfl (fun c10 => ?_) (fun c10 => ?_)
     ·have hl2 : (cutV 46 (w[i])).length = 2 := by have h := c10; simp [gE hlt] at h; omega
      have hc1 : 1 < (cutV 46 (w[i])).length := by omega
      have hpl : plcR (w[i]) = (numV (cutV 46 (w[i]))[0], numV (cutV 46 (w[i]))[1]) := by unfold plcR; rw [if_pos hl2, List.getD_eq_getElem?_getD, List.getD_eq_getElem?_getD, gE hc0, gE hc1]; rfl
      refine rg hP 10 [] rfl ?_ ?_
      ·simp [conj, gE hlt, gE hc1]
       repeat' apply And.intro
       all_goals first | omega | trivial | exact Int.ofNat_lt.2 hc1
      refine rg hP 11 [] rfl ?_ ?_
      ·simp [conj, maxL]
       omega
      refine rd hP 12 rfl (⟨i + 1, ?_, ?_, ent_ok rfl ?_⟩)
      ·exact ⟨by omega, hlt⟩
      ·omega
      ·simp [conj, gE hlt, gE hc0]
       repeat' apply And.intro
       all_goals first | rfl | (rw [hnx, hpl]; done) | (rw [hnx, hpl]; simp [gE hc1]; done)
     ·have hl2 : ¬ (cutV 46 (w[i])).length = 2 := by have h := c10; simp [gE hlt] at h; omega
      have hpl : plcR (w[i]) = (numV (cutV 46 (w[i]))[0], -1) := by unfold plcR; rw [if_neg hl2, List.getD_eq_getElem?_getD, gE hc0]; rfl
      refine sw_skip (rg hP 10 [] rfl ?_ ?_)
      ·simp [conj, maxL]
       omega
      refine rd hP 11 rfl (⟨i + 1, ?_, ?_, ent_ok rfl ?_⟩)
      ·exact ⟨by omega, hlt⟩
      ·omega
      ·simp [conj, gE hlt, gE hc0]
       repeat' apply And.intro
       all_goals first | rfl | (rw [hnx, hpl]; done) | (rw [hnx, hpl]; simp [gE hc1]; done)
    ·obtain rfl : i = w.length := by simp at c6; omega
     refine sw_exit (sw_seq (rd hP 7 rfl (sw_ret ⟨.inl rfl, _, rfl, ?_⟩)))
     rw [hw, hv]
     simp [conj]
     rw [List.take_of_length_le (by simp)]
end Go.Sx

namespace Go.Sx
open Go
set_option maxRecDepth 100000
set_option linter.unusedVariables false
set_option linter.unusedSimpArgs false
set_option maxHeartbeats 2000000
def cReadS : Ctr := ⟨5, [.val false TI pF, .val false .str pF], fun x => True, fun x => (.tup [(true, [.d TI pF (readS x.1 x.2.1).1.1, .own ⟨1, 0, 0⟩]), (false, [.d .bool pF (readS x.1 x.2.1).2])], [(⟨1, 0, 0⟩, .sl T_Vol (.all .w) (readS x.1 x.2.1).1.2)])⟩
theorem cReadS_ok : CtrOk Proofs.Tryz.prog cReadS := by
 have hP := (((((Prg.none ttok mtok).and cCutS_ok).and cNumS_ok).and cPtrRd_ok).and cRootTextS_ok)
 refine ctr_of_body hP cReadS (fn := Proofs.Tryz.f5) (rts := [.cell 4 27, .tmp 5]) Proofs.Tryz.func5 rfl (by kernel_rfl) rfl rfl ?_
 rintro ⟨(d : Int), (t : Str), ⟨⟩⟩ _ _
 try dsimp only [Ty.den, Mode.den, mdens] at _
 refine ⟨rfl, ?_⟩
 refine sw_seq (rd hP 1 rfl (sw_seq (rd hP 2 rfl (sw_seq (sw_seq (rd hP 3 rfl (sw_cond rfl (fun c2 => ?_) (fun c2 => ?_))))))))
 ·have hlong : 700 < t.length := by have h := c2; simp at h; omega
  refine sw_seq (rd hP 4 rfl (sw_ret ⟨.inl rfl, _, rfl, ?_⟩))
  have hv2 : readS d t = ((0, []), false) := if_pos hlong
  simp [conj, hv2]
 ·have hshort : ¬ 700 < t.length := by have h := c2; simp at h; omega
  refine sw_skip (sw_seq (rg hP 4 [] rfl ?_ ?_))
  ·simp only [cj, cl]
   try dsimp only [Ty.den, Ty.dflt]
   repeat' apply And.intro
   all_goals first | omega | trivial | (show t.length ≤ 1000000; omega) | (show (0:Int) ≤ 10; decide) | (show (10:Int) ≤ 255; decide)
  refine sw_seq (sw_seq ?_)
  obtain ⟨ls, hls⟩ : ∃ ls, cutV 10 t = ls := ⟨_, rfl⟩
  have hln : ls.length ≤ 701 := by rw [← hls]; have := cutV_cnt (a := 10) (s := t); omega
  have hll : ∀ x ∈ ls, x.length ≤ 700 := fun x hx => by
    have := cutGo_len' (a := 10) (s := t) (cur := []) x (by rw [← hls] at hx; exact hx)
    simp only [List.length_nil] at this
    omega
  have hpar : parseV t = rdGo true (0, []) (ls.map (cutV 32)) := by unfold parseV; rw [hls]
  refine sw_ent (st' := ⟨[sInt .i64 d, sStr t, .j, .j, .v false [.ptr ⟨1, 0, 0⟩ 0], .j, .v false [.ptr ⟨2, 2, 0⟩ 0], .v false [.own ⟨4, 1, 0⟩], .j, .j, .j, .j, .j, .j, .j, .j, .j, .j, .j, .j, .j, .j, .j, .j, .j, .j, .j, .j, .j, .j, .j, .j, .j, .j, .j, .j, .j, .j, .j, .j, .j, .j, .j, .j, .j, .j, .j, .j, .j, .j, .j, .j, .j, .j, .j, .j, .j, .j, .j, .j, .j, .j, .j, .j, .j, .j, .j, .j, .j, .j, .j, .j, .j, .j, .j, .j, .j, .j, .j, .j, .j, .j, .j, .j, .j, .j, .j, .j, .j, .j, .j, .j, .j, .j, .j, .j, .j, .j, .j, .j, .j, .j, .j, .j, .j, .j, .j, .j, .j, .j, .j, .j], [(⟨1, 0, 0⟩, .var [.d TI pF 0, .d (.sl T_Vol) pF []]), (⟨2, 2, 0⟩, .var [.d TI pF 0, .own ⟨2, 0, 0⟩]), (⟨2, 0, 0⟩, .sl T_Vol (.all .w) []), (⟨4, 1, 0⟩, .sl .str pF ls)], 4, []⟩) (ent_ok rfl ?_) ?_
  ·simp [conj]
   exact hls
  refine rd hP 5 rfl (sw_block (sw_loop (ι := Nat × Root_) (fun ⟨i, o⟩ => ⟨[sInt .i64 d, sStr t, .j, .j, .v false [.ptr ⟨1, 0, 0⟩ 0], .j, .v false [.ptr ⟨2, 2, 0⟩ 0], .v false [.own ⟨4, 1, 0⟩], sInt .i64 (i : Int), .j, .j, .j, .j, .j, .j, .j, .j, .j, .j, .j, .j, .j, .j, .j, .j, .j, .j, .j, .j, .j, .j, .j, .j, .j, .j, .j, .j, .j, .j, .j, .j, .j, .j, .j, .j, .j, .j, .j, .j, .j, .j, .j, .j, .j, .j, .j, .j, .j, .j, .j, .j, .j, .j, .j, .j, .j, .j, .j, .j, .j, .j, .j, .j, .j, .j, .j, .j, .j, .j, .j, .j, .j, .j, .j, .j, .j, .j, .j, .j, .j, .j, .j, .j, .j, .j, .j, .j, .j, .j, .j, .j, .j, .j, .j, .j, .j, .j, .j, .j, .j, .j, .j], [(⟨1, 0, 0⟩, .var [.d TI pF 0, .d (.sl T_Vol) pF []]), (⟨2, 2, 0⟩, .var [.d TI pF o.1, .own ⟨0, 9, 0⟩]), (⟨0, 9, 0⟩, .sl T_Vol (.all .w) o.2), (⟨4, 1, 0⟩, .sl .str pF ls)], 5, []⟩) (fun ⟨i, o⟩ => ls.length - i) (fun ⟨i, o⟩ => i ≤ ls.length ∧ o.2.length ≤ i ∧ (∀ v ∈ o.2, v.2.length ≤ i) ∧ rdGo (decide (i = 0)) o ((ls.drop i).map (cutV 32)) = parseV t) (0, (0, [])) ⟨?_, ?_⟩ ?_))
  ·exact ⟨Nat.zero_le _, Nat.le_refl _, (by intro v hv; cases hv), hpar.symm⟩
  ·refine ent_ok rfl ?_
   simp [conj]
  ·rintro ⟨i, o⟩ ⟨hi, hol, hob, hgo⟩
   refine sw_seq (sw_seq (rd hP 6 rfl (sw_cond rfl (fun c6 => ?_) (fun c6 => ?_))))
   ·have hlt : i < ls.length := by simpa using c6
    have hil := hll _ (List.getElem_mem hlt)
    obtain ⟨w, hw⟩ : ∃ w, cutV 32 ls[i] = w := ⟨_, rfl⟩
    have hw0 : 0 < w.length := hw ▸ List.length_pos_iff.2 cutV_ne
    have hstep : rdGo false (rdStep (decide (i = 0)) o w) ((ls.drop (i + 1)).map (cutV 32)) = parseV t := by rw [List.drop_eq_getElem_cons hlt, List.map_cons, hw] at hgo; exact hgo
    have hg0 : w.getD 0 [] = w[0] := by rw [List.getD_eq_getElem?_getD, gE hw0]; rfl
    refine sw_skip (sw_seq (sw_block (sw_seq (rg hP 7 [] rfl ?_ ?_))))
    ·simp [conj, gE hlt]
     repeat' apply And.intro
     all_goals first | omega | trivial | (show ls[i].length ≤ 1000000; omega) | (show (0:Int) ≤ 32; decide) | (show (32:Int) ≤ 255; decide)
    refine sw_seq ?_
    refine sw_ent (st' := ⟨[sInt .i64 d, sStr t, .j, .j, .v false [.ptr ⟨1, 0, 0⟩ 0], .j, .v false [.ptr ⟨2, 2, 0⟩ 0], .v false [.own ⟨4, 1, 0⟩], sInt .i64 (i : Int), .v false [.own ⟨7, 4, 0⟩], .j, .j, .j, .j, .j, .j, .j, .j, .j, .j, .j, .j, .j, .j, .j, .j, .j, .j, .j, .j, .j, .j, .j, .j, .j, .j, .j, .j, .j, .j, .j, .j, .j, .j, .j, .j, .j, .j, .j, .j, .j, .j, .j, .j, .j, .j, .j, .j, .j, .j, .j, .j, .j, .j, .j, .j, .j, .j, .j, .j, .j, .j, .j, .j, .j, .j, .j, .j, .j, .j, .j, .j, .j, .j, .j, .j, .j, .j, .j, .j, .j, .j, .j, .j, .j, .j, .j, .j, .j, .j, .j, .j, .j, .j, .j, .j, .j, .j, .j, .j, .j, .j], [(⟨1, 0, 0⟩, .var [.d TI pF 0, .d (.sl T_Vol) pF []]), (⟨2, 2, 0⟩, .var [.d TI pF o.1, .own ⟨0, 9, 0⟩]), (⟨0, 9, 0⟩, .sl T_Vol (.all .w) o.2), (⟨4, 1, 0⟩, .sl .str pF ls), (⟨7, 4, 0⟩, .sl .str pF w)], 7, []⟩) (ent_ok rfl ?_) ?_
    ·simp [conj, gE hlt]
     exact hw
    refine rd hP 8 rfl (sw_block (sw_seq ?_))
    refine sw_dec hP 9 [] 2 rfl (fun g10_2 => ?_) (fun g10_2 => ?_)
    ·have hi0 : i = 0 := by have h := g10_2; simp at h; omega
     refine rD hP 9 [(2, true)] rfl (sw_cond rfl (fun c10 => ?_) (fun c10 => ?_))
     ·have hw2 : w.length = 2 := by have h := c10; simp at h; omega
      have h1 : 1 < w.length := by omega
      have he : rdStep (decide (i = 0)) o w = (numV (w.getD 1 []), o.2) := by
        unfold rdStep
        rw [if_pos ⟨decide_eq_true hi0, hw2⟩]
      rw [he] at hstep
      refine rg hP 10 [] rfl ?_ ?_
      ·simp [conj, gE h1]
       repeat' apply And.intro
       all_goals first | omega | trivial | exact Int.ofNat_lt.2 h1
      refine rd hP 11 rfl (⟨(i + 1, (numV (w.getD 1 []), o.2)), ?_, ?_, ent_ok rfl ?_⟩)
      ·exact ⟨hlt, (by show o.2.length ≤ i + 1; omega), fun v hv => Nat.le_succ_of_le (hob v hv), hstep⟩
      ·show ls.length - (i + 1) < ls.length - i
       omega
      ·simp [conj, gE h1]
     ·have ha : ¬ (decide (i = 0) = true ∧ w.length = 2) := fun h => by have h2 := c10; simp at h2; omega
      refine sw_seq ?_
      refine sw_dec hP 10 [] 4 rfl (fun g12_4 => ?_) (fun g12_4 => ?_)
      ·have hnv : w[0] = nV := by have h := g12_4; simp [gE hw0, bytesL] at h; exact h
       refine rg hP 10 [(4, true)] rfl ?_ ?_
       ·simp [conj, gE hw0]
        repeat' apply And.intro
        all_goals first | omega | trivial | (have h := g12_4; simp [gE hw0] at h; exact h)
       refine sw_cond rfl (fun c12 => ?_) (fun c12 => ?_)
       ·have hw2 : w.length = 2 := by have h := c12; simp at h; omega
        have h1 : 1 < w.length := by omega
        have he : rdStep (decide (i = 0)) o w = (o.1, o.2 ++ [(w.getD 1 [], [])]) := by
          unfold rdStep
          rw [if_neg ha, if_pos ⟨hg0.trans hnv, hw2⟩]
        rw [he] at hstep
        refine rg hP 11 [] rfl ?_ ?_
        ·simp [conj, maxL, gE h1]
         repeat' apply And.intro
         all_goals first | omega | trivial | exact Int.ofNat_lt.2 h1
        refine rd hP 12 rfl (⟨(i + 1, (o.1, o.2 ++ [(w.getD 1 [], [])])), ?_, ?_, ent_ok rfl ?_⟩)
        ·exact ⟨hlt, (by simp; omega), blk_snoc hob, hstep⟩
        ·show ls.length - (i + 1) < ls.length - i
         omega
        ·simp [conj, gE h1]
       ·have hb : ¬ (w.getD 0 [] = nV ∧ w.length = 2) := fun h => by have h2 := c12; simp at h2; omega
        refine sw_seq ?_
        refine sw_dec hP 11 [] 2 rfl (fun g14_2 => ?_) (fun g14_2 => ?_)
        ·have hpos : 0 < o.2.length := by have h := g14_2; simp at h; omega
         refine sw_dec hP 11 [(2, true)] 7 rfl (fun g14_7 => ?_) (fun g14_7 => ?_)
         ·have hpt : w[0] = tPtr := by have h := g14_7; simp [gE hw0, bytesL] at h; exact h
          have hk := last_lt hpos
          have he : rdStep (decide (i = 0)) o w = (o.1, o.2.set (o.2.length - 1) ((o.2.getD (o.2.length - 1) ([], [])).1, (o.2.getD (o.2.length - 1) ([], [])).2 ++ [ptrR w])) := by
            unfold rdStep
            rw [if_neg ha, if_neg hb, if_pos ⟨hpos, .inl (hg0.trans hpt)⟩]
          rw [he] at hstep
          refine rg hP 11 [(2, true), (7, true)] rfl ?_ ?_
          ·simp [conj, gE hw0]
           repeat' apply And.intro
           all_goals first | omega | trivial | (have h := g14_7; simp [gE hw0] at h; exact h)
          refine sw_condT rfl (rg hP 12 [] rfl ?_ ?_)
          ·simp [conj, maxL, gE hlt, gE hk]
           repeat' apply And.intro
           all_goals first | omega | trivial | (show ls[i].length ≤ 1000000; omega) | exact Int.sub_lt_self _ (by decide) | exact len40 (hob _ (List.getElem_mem hk)) (by omega)
          refine rd hP 13 rfl (⟨(i + 1, (o.1, o.2.set (o.2.length - 1) ((o.2.getD (o.2.length - 1) ([], [])).1, (o.2.getD (o.2.length - 1) ([], [])).2 ++ [ptrR w]))), ?_, ?_, ent_ok rfl ?_⟩)
          ·exact ⟨hlt, (by simp; omega), blk_set hob hk, hstep⟩
          ·show ls.length - (i + 1) < ls.length - i
           omega
          ·simp [conj, gE hlt, gE hk, hw]
         ·have hpt : ¬ w[0] = tPtr := by have h := g14_7; simp [gE hw0, bytesL] at h; exact h
          refine rg hP 11 [(2, true), (7, false)] rfl ?_ ?_
          ·simp [conj, gE hw0]
           repeat' apply And.intro
           all_goals first | omega | trivial | (have h := g14_7; simp [gE hw0] at h; exact h)
          refine sw_cond rfl (fun c14 => ?_) (fun c14 => ?_)
          ·have hpn : w[0] = nN := by have h := c14; simp [gE hw0, bytesL] at h; exact h
           have hk := last_lt hpos
           have he : rdStep (decide (i = 0)) o w = (o.1, o.2.set (o.2.length - 1) ((o.2.getD (o.2.length - 1) ([], [])).1, (o.2.getD (o.2.length - 1) ([], [])).2 ++ [ptrR w])) := by
             unfold rdStep
             rw [if_neg ha, if_neg hb, if_pos ⟨hpos, .inr (hg0.trans hpn)⟩]
           rw [he] at hstep
           refine rg hP 12 [] rfl ?_ ?_
           ·simp [conj, maxL, gE hlt, gE hk]
            repeat' apply And.intro
            all_goals first | omega | trivial | (show ls[i].length ≤ 1000000; omega) | exact Int.sub_lt_self _ (by decide) | exact len40 (hob _ (List.getElem_mem hk)) (by omega)
           refine rd hP 13 rfl (⟨(i + 1, (o.1, o.2.set (o.2.length - 1) ((o.2.getD (o.2.length - 1) ([], [])).1, (o.2.getD (o.2.length - 1) ([], [])).2 ++ [ptrR w]))), ?_, ?_, ent_ok rfl ?_⟩)
           ·exact ⟨hlt, (by simp; omega), blk_set hob hk, hstep⟩
           ·show ls.length - (i + 1) < ls.length - i
            omega
           ·simp [conj, gE hlt, gE hk, hw]
          ·have hpn : ¬ w[0] = nN := by have h := c14; simp [gE hw0, bytesL] at h; exact h
           have he : rdStep (decide (i = 0)) o w = o := by
             unfold rdStep
             rw [if_neg ha, if_neg hb, if_neg (fun h => h.2.elim (fun h => hpt (hg0.symm.trans h)) (fun h => hpn (hg0.symm.trans h)))]
           rw [he] at hstep
           refine sw_skip (rd hP 12 rfl (⟨(i + 1, o), ?_, ?_, ent_ok rfl ?_⟩))
           ·exact ⟨hlt, (by omega), fun v hv => Nat.le_succ_of_le (hob v hv), hstep⟩
           ·show ls.length - (i + 1) < ls.length - i
            omega
           ·simp [conj]
        ·have hpos : ¬ 0 < o.2.length := by have h := g14_2; simp at h; simp [h]
         have he : rdStep (decide (i = 0)) o w = o := by
           unfold rdStep
           rw [if_neg ha, if_neg hb, if_neg (fun h => hpos h.1)]
         rw [he] at hstep
         refine rD hP 11 [(2, false)] rfl (sw_condF rfl (sw_skip (rd hP 12 rfl (⟨(i + 1, o), ?_, ?_, ent_ok rfl ?_⟩))))
         ·exact ⟨hlt, (by omega), fun v hv => Nat.le_succ_of_le (hob v hv), hstep⟩
         ·show ls.length - (i + 1) < ls.length - i
          omega
         ·simp [conj]
      ·have hnv : ¬ w[0] = nV := by have h := g12_4; simp [gE hw0, bytesL] at h; exact h
       have hb : ¬ (w.getD 0 [] = nV ∧ w.length = 2) := fun h => hnv (by rw [← hg0]; exact h.1)
       refine rg hP 10 [(4, false)] rfl ?_ ?_
       ·simp [conj, gE hw0]
        repeat' apply And.intro
        all_goals first | omega | trivial | (have h := g12_4; simp [gE hw0] at h; exact h)
       refine sw_condF rfl (sw_seq ?_)
       refine sw_dec hP 11 [] 2 rfl (fun g14_2 => ?_) (fun g14_2 => ?_)
       ·have hpos : 0 < o.2.length := by have h := g14_2; simp at h; omega
        refine sw_dec hP 11 [(2, true)] 7 rfl (fun g14_7 => ?_) (fun g14_7 => ?_)
        ·have hpt : w[0] = tPtr := by have h := g14_7; simp [gE hw0, bytesL] at h; exact h
         have hk := last_lt hpos
         have he : rdStep (decide (i = 0)) o w = (o.1, o.2.set (o.2.length - 1) ((o.2.getD (o.2.length - 1) ([], [])).1, (o.2.getD (o.2.length - 1) ([], [])).2 ++ [ptrR w])) := by
           unfold rdStep
           rw [if_neg ha, if_neg hb, if_pos ⟨hpos, .inl (hg0.trans hpt)⟩]
         rw [he] at hstep
         refine rg hP 11 [(2, true), (7, true)] rfl ?_ ?_
         ·simp [conj, gE hw0]
          repeat' apply And.intro
          all_goals first | omega | trivial | (have h := g14_7; simp [gE hw0] at h; exact h)
         refine sw_condT rfl (rg hP 12 [] rfl ?_ ?_)
         ·simp [conj, maxL, gE hlt, gE hk]
          repeat' apply And.intro
          all_goals first | omega | trivial | (show ls[i].length ≤ 1000000; omega) | exact Int.sub_lt_self _ (by decide) | exact len40 (hob _ (List.getElem_mem hk)) (by omega)
         refine rd hP 13 rfl (⟨(i + 1, (o.1, o.2.set (o.2.length - 1) ((o.2.getD (o.2.length - 1) ([], [])).1, (o.2.getD (o.2.length - 1) ([], [])).2 ++ [ptrR w]))), ?_, ?_, ent_ok rfl ?_⟩)
         ·exact ⟨hlt, (by simp; omega), blk_set hob hk, hstep⟩
         ·show ls.length - (i + 1) < ls.length - i
          omega
         ·simp [conj, gE hlt, gE hk, hw]
        ·have hpt : ¬ w[0] = tPtr := by have h := g14_7; simp [gE hw0, bytesL] at h; exact h
         refine rg hP 11 [(2, true), (7, false)] rfl ?_ ?_
         ·simp [conj, gE hw0]
          repeat' apply And.intro
          all_goals first | omega | trivial | (have h := g14_7; simp [gE hw0] at h; exact h)
         refine sw_cond rfl (fun c14 => ?_) (fun c14 => ?_)
         ·have hpn : w[0] = nN := by have h := c14; simp [gE hw0, bytesL] at h; exact h
          have hk := last_lt hpos
          have he : rdStep (decide (i = 0)) o w = (o.1, o.2.set (o.2.length - 1) ((o.2.getD (o.2.length - 1) ([], [])).1, (o.2.getD (o.2.length - 1) ([], [])).2 ++ [ptrR w])) := by
            unfold rdStep
            rw [if_neg ha, if_neg hb, if_pos ⟨hpos, .inr (hg0.trans hpn)⟩]
          rw [he] at hstep
          refine rg hP 12 [] rfl ?_ ?_
          ·simp [conj, maxL, gE hlt, gE hk]
           repeat' apply And.intro
           all_goals first | omega | trivial | (show ls[i].length ≤ 1000000; omega) | exact Int.sub_lt_self _ (by decide) | exact len40 (hob _ (List.getElem_mem hk)) (by omega)
          refine rd hP 13 rfl (⟨(i + 1, (o.1, o.2.set (o.2.length - 1) ((o.2.getD (o.2.length - 1) ([], [])).1, (o.2.getD (o.2.length - 1) ([], [])).2 ++ [ptrR w]))), ?_, ?_, ent_ok rfl ?_⟩)
          ·exact ⟨hlt, (by simp; omega), blk_set hob hk, hstep⟩
          ·show ls.length - (i + 1) < ls.length - i
           omega
          ·simp [conj, gE hlt, gE hk, hw]
         ·have hpn : ¬ w[0] = nN := by have h := c14; simp [gE hw0, bytesL] at h; exact h
          have he : rdStep (decide (i = 0)) o w = o := by
            unfold rdStep
            rw [if_neg ha, if_neg hb, if_neg (fun h => h.2.elim (fun h => hpt (hg0.symm.trans h)) (fun h => hpn (hg0.symm.trans h)))]
          rw [he] at hstep
          refine sw_skip (rd hP 12 rfl (⟨(i + 1, o), ?_, ?_, ent_ok rfl ?_⟩))
          ·exact ⟨hlt, (by omega), fun v hv => Nat.le_succ_of_le (hob v hv), hstep⟩
          ·show ls.length - (i + 1) < ls.length - i
           omega
          ·simp [conj]
       ·have hpos : ¬ 0 < o.2.length := by have h := g14_2; simp at h; simp [h]
        have he : rdStep (decide (i = 0)) o w = o := by
          unfold rdStep
          rw [if_neg ha, if_neg hb, if_neg (fun h => hpos h.1)]
        rw [he] at hstep
        refine rD hP 11 [(2, false)] rfl (sw_condF rfl (sw_skip (rd hP 12 rfl (⟨(i + 1, o), ?_, ?_, ent_ok rfl ?_⟩))))
        ·exact ⟨hlt, (by omega), fun v hv => Nat.le_succ_of_le (hob v hv), hstep⟩
        ·show ls.length - (i + 1) < ls.length - i
         omega
        ·simp [conj]
    ·have hi0 : ¬ i = 0 := by have h := g10_2; simp at h; omega
     have ha : ¬ (decide (i = 0) = true ∧ w.length = 2) := fun h => hi0 (of_decide_eq_true h.1)
     refine rD hP 9 [(2, false)] rfl (sw_condF rfl (sw_seq ?_))
     refine sw_dec hP 10 [] 4 rfl (fun g12_4 => ?_) (fun g12_4 => ?_)
     ·have hnv : w[0] = nV := by have h := g12_4; simp [gE hw0, bytesL] at h; exact h
      refine rg hP 10 [(4, true)] rfl ?_ ?_
      ·simp [conj, gE hw0]
       repeat' apply And.intro
       all_goals first | omega | trivial | (have h := g12_4; simp [gE hw0] at h; exact h)
      refine sw_cond rfl (fun c12 => ?_) (fun c12 => ?_)
      ·have hw2 : w.length = 2 := by have h := c12; simp at h; omega
       have h1 : 1 < w.length := by omega
       have he : rdStep (decide (i = 0)) o w = (o.1, o.2 ++ [(w.getD 1 [], [])]) := by
         unfold rdStep
         rw [if_neg ha, if_pos ⟨hg0.trans hnv, hw2⟩]
       rw [he] at hstep
       refine rg hP 11 [] rfl ?_ ?_
       ·simp [conj, maxL, gE h1]
        repeat' apply And.intro
        all_goals first | omega | trivial | exact Int.ofNat_lt.2 h1
       refine rd hP 12 rfl (⟨(i + 1, (o.1, o.2 ++ [(w.getD 1 [], [])])), ?_, ?_, ent_ok rfl ?_⟩)
       ·exact ⟨hlt, (by simp; omega), blk_snoc hob, hstep⟩
       ·show ls.length - (i + 1) < ls.length - i
        omega
       ·simp [conj, gE h1]
      ·have hb : ¬ (w.getD 0 [] = nV ∧ w.length = 2) := fun h => by have h2 := c12; simp at h2; omega
       refine sw_seq ?_
       refine sw_dec hP 11 [] 2 rfl (fun g14_2 => ?_) (fun g14_2 => ?_)
       ·have hpos : 0 < o.2.length := by have h := g14_2; simp at h; omega
        refine sw_dec hP 11 [(2, true)] 7 rfl (fun g14_7 => ?_) (fun g14_7 => ?_)
        ·have hpt : w[0] = tPtr := by have h := g14_7; simp [gE hw0, bytesL] at h; exact h
         have hk := last_lt hpos
         have he : rdStep (decide (i = 0)) o w = (o.1, o.2.set (o.2.length - 1) ((o.2.getD (o.2.length - 1) ([], [])).1, (o.2.getD (o.2.length - 1) ([], [])).2 ++ [ptrR w])) := by
           unfold rdStep
           rw [if_neg ha, if_neg hb, if_pos ⟨hpos, .inl (hg0.trans hpt)⟩]
         rw [he] at hstep
         refine rg hP 11 [(2, true), (7, true)] rfl ?_ ?_
         ·simp [conj, gE hw0]
          repeat' apply And.intro
          all_goals first | omega | trivial | (have h := g14_7; simp [gE hw0] at h; exact h)
         refine sw_condT rfl (rg hP 12 [] rfl ?_ ?_)
         ·simp [conj, maxL, gE hlt, gE hk]
          repeat' apply And.intro
          all_goals first | omega | trivial | (show ls[i].length ≤ 1000000; omega) | exact Int.sub_lt_self _ (by decide) | exact len40 (hob _ (List.getElem_mem hk)) (by omega)
         refine rd hP 13 rfl (⟨(i + 1, (o.1, o.2.set (o.2.length - 1) ((o.2.getD (o.2.length - 1) ([], [])).1, (o.2.getD (o.2.length - 1) ([], [])).2 ++ [ptrR w]))), ?_, ?_, ent_ok rfl ?_⟩)
         ·exact ⟨hlt, (by simp; omega), blk_set hob hk, hstep⟩
         ·show ls.length - (i + 1) < ls.length - i
          omega
         ·simp [conj, gE hlt, gE hk, hw]
        ·have hpt : ¬ w[0] = tPtr := by have h := g14_7; simp [gE hw0, bytesL] at h; exact h
         refine rg hP 11 [(2, true), (7, false)] rfl ?_ ?_
         ·simp [conj, gE hw0]
          repeat' apply And.intro
          all_goals first | omega | trivial | (have h := g14_7; simp [gE hw0] at h; exact h)
         refine sw_cond rfl (fun c14 => ?_) (fun c14 => ?_)
         ·have hpn : w[0] = nN := by have h := c14; simp [gE hw0, bytesL] at h; exact h
          have hk := last_lt hpos
          have he : rdStep (decide (i = 0)) o w = (o.1, o.2.set (o.2.length - 1) ((o.2.getD (o.2.length - 1) ([], [])).1, (o.2.getD (o.2.length - 1) ([], [])).2 ++ [ptrR w])) := by
            unfold rdStep
            rw [if_neg ha, if_neg hb, if_pos ⟨hpos, .inr (hg0.trans hpn)⟩]
          rw [he] at hstep
          refine rg hP 12 [] rfl ?_ ?_
          ·simp [conj, maxL, gE hlt, gE hk]
           repeat' apply And.intro
           all_goals first | omega | trivial | (show ls[i].length ≤ 1000000; omega) | exact Int.sub_lt_self _ (by decide) | exact len40 (hob _ (List.getElem_mem hk)) (by omega)
          refine rd hP 13 rfl (⟨(i + 1, (o.1, o.2.set (o.2.length - 1) ((o.2.getD (o.2.length - 1) ([], [])).1, (o.2.getD (o.2.length - 1) ([], [])).2 ++ [ptrR w]))), ?_, ?_, ent_ok rfl ?_⟩)
          ·exact ⟨hlt, (by simp; omega), blk_set hob hk, hstep⟩
          ·show ls.length - (i + 1) < ls.length - i
           omega
          ·simp [conj, gE hlt, gE hk, hw]
         ·have hpn : ¬ w[0] = nN := by have h := c14; simp [gE hw0, bytesL] at h; exact h
          have he : rdStep (decide (i = 0)) o w = o := by
            unfold rdStep
            rw [if_neg ha, if_neg hb, if_neg (fun h => h.2.elim (fun h => hpt (hg0.symm.trans h)) (fun h => hpn (hg0.symm.trans h)))]
          rw [he] at hstep
          refine sw_skip (rd hP 12 rfl (⟨(i + 1, o), ?_, ?_, ent_ok rfl ?_⟩))
          ·exact ⟨hlt, (by omega), fun v hv => Nat.le_succ_of_le (hob v hv), hstep⟩
          ·show ls.length - (i + 1) < ls.length - i
           omega
          ·simp [conj]
       ·have hpos : ¬ 0 < o.2.length := by have h := g14_2; simp at h; simp [h]
        have he : rdStep (decide (i = 0)) o w = o := by
          unfold rdStep
          rw [if_neg ha, if_neg hb, if_neg (fun h => hpos h.1)]
        rw [he] at hstep
        refine rD hP 11 [(2, false)] rfl (sw_condF rfl (sw_skip (rd hP 12 rfl (⟨(i + 1, o), ?_, ?_, ent_ok rfl ?_⟩))))
        ·exact ⟨hlt, (by omega), fun v hv => Nat.le_succ_of_le (hob v hv), hstep⟩
        ·show ls.length - (i + 1) < ls.length - i
         omega
        ·simp [conj]
     ·have hnv : ¬ w[0] = nV := by have h := g12_4; simp [gE hw0, bytesL] at h; exact h
      have hb : ¬ (w.getD 0 [] = nV ∧ w.length = 2) := fun h => hnv (by rw [← hg0]; exact h.1)
      refine rg hP 10 [(4, false)] rfl ?_ ?_
      ·simp [conj, gE hw0]
       repeat' apply And.intro
       all_goals first | omega | trivial | (have h := g12_4; simp [gE hw0] at h; exact h)
      refine sw_condF rfl (sw_seq ?_)
      refine sw_dec hP 11 [] 2 rfl (fun g14_2 => ?_) (fun g14_2 => ?_)
      ·have hpos : 0 < o.2.length := by have h := g14_2; simp at h; omega
       refine sw_dec hP 11 [(2, true)] 7 rfl (fun g14_7 => ?_) (fun g14_7 => ?_)
       ·have hpt : w[0] = tPtr := by have h := g14_7; simp [gE hw0, bytesL] at h; exact h
        have hk := last_lt hpos
        have he : rdStep (decide (i = 0)) o w = (o.1, o.2.set (o.2.length - 1) ((o.2.getD (o.2.length - 1) ([], [])).1, (o.2.getD (o.2.length - 1) ([], [])).2 ++ [ptrR w])) := by
          unfold rdStep
          rw [if_neg ha, if_neg hb, if_pos ⟨hpos, .inl (hg0.trans hpt)⟩]
        rw [he] at hstep
        refine rg hP 11 [(2, true), (7, true)] rfl ?_ ?_
        ·simp [conj, gE hw0]
         repeat' apply And.intro
         all_goals first | omega | trivial | (have h := g14_7; simp [gE hw0] at h; exact h)
        refine sw_condT rfl (rg hP 12 [] rfl ?_ ?_)
        ·simp [conj, maxL, gE hlt, gE hk]
         repeat' apply And.intro
         all_goals first | omega | trivial | (show ls[i].length ≤ 1000000; omega) | exact Int.sub_lt_self _ (by decide) | exact len40 (hob _ (List.getElem_mem hk)) (by omega)
        refine rd hP 13 rfl (⟨(i + 1, (o.1, o.2.set (o.2.length - 1) ((o.2.getD (o.2.length - 1) ([], [])).1, (o.2.getD (o.2.length - 1) ([], [])).2 ++ [ptrR w]))), ?_, ?_, ent_ok rfl ?_⟩)
        ·exact ⟨hlt, (by simp; omega), blk_set hob hk, hstep⟩
        ·show ls.length - (i + 1) < ls.length - i
         omega
        ·simp [conj, gE hlt, gE hk, hw]
       ·have hpt : ¬ w[0] = tPtr := by have h := g14_7; simp [gE hw0, bytesL] at h; exact h
        refine rg hP 11 [(2, true), (7, false)] rfl ?_ ?_
        ·simp [conj, gE hw0]
         repeat' apply And.intro
         all_goals first | omega | trivial | (have h := g14_7; simp [gE hw0] at h; exact h)
        refine sw_cond rfl (fun c14 => ?_) (fun c14 => ?_)
        ·have hpn : w[0] = nN := by have h := c14; simp [gE hw0, bytesL] at h; exact h
         have hk := last_lt hpos
         have he : rdStep (decide (i = 0)) o w = (o.1, o.2.set (o.2.length - 1) ((o.2.getD (o.2.length - 1) ([], [])).1, (o.2.getD (o.2.length - 1) ([], [])).2 ++ [ptrR w])) := by
           unfold rdStep
           rw [if_neg ha, if_neg hb, if_pos ⟨hpos, .inr (hg0.trans hpn)⟩]
         rw [he] at hstep
         refine rg hP 12 [] rfl ?_ ?_
         ·simp [conj, maxL, gE hlt, gE hk]
          repeat' apply And.intro
          all_goals first | omega | trivial | (show ls[i].length ≤ 1000000; omega) | exact Int.sub_lt_self _ (by decide) | exact len40 (hob _ (List.getElem_mem hk)) (by omega)
         refine rd hP 13 rfl (⟨(i + 1, (o.1, o.2.set (o.2.length - 1) ((o.2.getD (o.2.length - 1) ([], [])).1, (o.2.getD (o.2.length - 1) ([], [])).2 ++ [ptrR w]))), ?_, ?_, ent_ok rfl ?_⟩)
         ·exact ⟨hlt, (by simp; omega), blk_set hob hk, hstep⟩
         ·show ls.length - (i + 1) < ls.length - i
          omega
         ·simp [conj, gE hlt, gE hk, hw]
        ·have hpn : ¬ w[0] = nN := by have h := c14; simp [gE hw0, bytesL] at h; exact h
         have he : rdStep (decide (i = 0)) o w = o := by
           unfold rdStep
           rw [if_neg ha, if_neg hb, if_neg (fun h => h.2.elim (fun h => hpt (hg0.symm.trans h)) (fun h => hpn (hg0.symm.trans h)))]
         rw [he] at hstep
         refine sw_skip (rd hP 12 rfl (⟨(i + 1, o), ?_, ?_, ent_ok rfl ?_⟩))
         ·exact ⟨hlt, (by omega), fun v hv => Nat.le_succ_of_le (hob v hv), hstep⟩
         ·show ls.length - (i + 1) < ls.length - i
          omega
         ·simp [conj]
      ·have hpos : ¬ 0 < o.2.length := by have h := g14_2; simp at h; simp [h]
       have he : rdStep (decide (i = 0)) o w = o := by
         unfold rdStep
         rw [if_neg ha, if_neg hb, if_neg (fun h => hpos h.1)]
       rw [he] at hstep
       refine rD hP 11 [(2, false)] rfl (sw_condF rfl (sw_skip (rd hP 12 rfl (⟨(i + 1, o), ?_, ?_, ent_ok rfl ?_⟩))))
       ·exact ⟨hlt, (by omega), fun v hv => Nat.le_succ_of_le (hob v hv), hstep⟩
       ·show ls.length - (i + 1) < ls.length - i
        omega
       ·simp [conj]
   ·obtain rfl : i = ls.length := by simp at c6; omega
    rw [List.drop_length] at hgo
    have hv : o = parseV t := hgo
    refine sw_exit (sw_seq (sw_seq ?_))
    refine sw_dec hP 7 [] 5 rfl (fun g16_5 => ?_) (fun g16_5 => ?_)
    ·have hbad : rootT d (parseV t) ≠ t ∨ t = [] := .inl (by have h : (!decide (rootT d o = t)) = true := g16_5; rw [hv] at h; simpa using h)
     refine rD hP 7 [(5, true)] rfl (sw_condT rfl (sw_seq (rd hP 8 rfl (sw_ret ⟨.inl rfl, _, rfl, ?_⟩))))
     have hv2 : readS d t = ((0, []), false) := by unfold readS; rw [if_neg hshort, if_pos hbad]
     simp [conj, hv2]
    ·have hgood : rootT d (parseV t) = t := by have h : (!decide (rootT d o = t)) = false := g16_5; rw [hv] at h; simpa using h
     refine rD hP 7 [(5, false)] rfl (sw_cond rfl (fun c16 => ?_) (fun c16 => ?_))
     ·have hbad : rootT d (parseV t) ≠ t ∨ t = [] := .inr (of_decide_eq_true (show decide (t = []) = true from c16))
      refine sw_seq (rd hP 8 rfl (sw_ret ⟨.inl rfl, _, rfl, ?_⟩))
      have hv2 : readS d t = ((0, []), false) := by unfold readS; rw [if_neg hshort, if_pos hbad]
      simp [conj, hv2]
     ·have hok : ¬ (rootT d (parseV t) ≠ t ∨ t = []) := fun h => h.elim (fun h => h hgood) (of_decide_eq_false (show decide (t = []) = false from c16))
      refine sw_skip (sw_seq (rd hP 8 rfl (sw_ret ⟨.inl rfl, _, rfl, ?_⟩)))
      have hv2 : readS d t = (parseV t, true) := by unfold readS; rw [if_neg hshort, if_neg hok]
      simp [conj, hv2, hv]
end Go.Sx

namespace Go.Sx
open Go
set_option maxRecDepth 100000
set_option linter.unusedVariables false
set_option linter.unusedSimpArgs false
set_option maxHeartbeats 2000000
def cLStrict : Ctr := ⟨3, [.val false TB pF], fun x => True, fun x => (sBool true, [])⟩
theorem cLStrict_ok : CtrOk Proofs.Tryz.prog cLStrict := by
 have hP := (((((((Prg.none ttok mtok).and cDrRd_ok).and cReadS_ok).and cReadI_ok).and cLpaRoot_ok).and cRootOk_ok).and cRootText_ok)
 refine ctr_of_body hP cLStrict (fn := Proofs.Tryz.f3) (rts := [.tmp 2]) Proofs.Tryz.func3 rfl (by kernel_rfl) rfl rfl ?_
 rintro ⟨(code : List Int), ⟨⟩⟩ _ _
 try dsimp only [Ty.den, Mode.den, mdens] at _
 refine ⟨rfl, ?_⟩
 refine sw_seq (rd hP 1 rfl (sw_seq (sw_seq (rd hP 2 rfl (sw_cond rfl (fun c1 => ?_) (fun c1 => ?_))))))
 ·refine sw_seq (rd hP 3 rfl (sw_ret ⟨.inl rfl, _, rfl, ?_⟩))
  simp [conj]
 ·refine sw_skip (sw_seq (rd hP 3 rfl (sw_seq ?_)))
  obtain ⟨d, t, hdt⟩ : ∃ d t, drText code = (d, t) := ⟨_, _, rfl⟩
  obtain ⟨W, hW⟩ : ∃ W, readI d t = W := ⟨_, rfl⟩
  have hS : readS d t = W := by rw [← readI_S, hW]
  refine sw_ent (st' := ⟨[.j, .j, .j, sInt .i64 d, sStr t, .j, .j, .j, .j, .j, .j, .j, .j, .j, .j, .j, .j, .j, .j, .j, .j, .j, .j, .j, .j, .j, .j, .j, .j, .j, .j, .j, .j, .j, .j, .j, .j, .j, .j, .j, .j, .j, .j, .j, .j, .j, .j, .j, .j, .j, .j, .j, .j, .j, .j, .j, .j, .j, .j, .j], [], 3, []⟩) (ent_ok rfl ?_) ?_
  ·simp [conj, hdt]
  refine rd hP 4 rfl (sw_seq (rd hP 5 rfl (sw_seq (sw_seq ?_))))
  refine sw_ent (st' := ⟨[.j, .j, .j, sInt .i64 d, sStr t, .v false [.ptr ⟨4, 6, 0⟩ 0], sBool W.2, .v false [.ptr ⟨5, 6, 0⟩ 0], sBool W.2, .j, .j, .j, .j, .j, .j, .j, .j, .j, .j, .j, .j, .j, .j, .j, .j, .j, .j, .j, .j, .j, .j, .j, .j, .j, .j, .j, .j, .j, .j, .j, .j, .j, .j, .j, .j, .j, .j, .j, .j, .j, .j, .j, .j, .j, .j, .j, .j, .j, .j, .j], [(⟨4, 6, 0⟩, .var [.d TI pF W.1.1, .own ⟨4, 2, 0⟩]), (⟨4, 2, 0⟩, .sl T_Vol (.all .w) W.1.2), (⟨5, 6, 0⟩, .var [.d TI pF W.1.1, .own ⟨5, 2, 0⟩]), (⟨5, 2, 0⟩, .sl T_Vol (.all .w) W.1.2)], 5, []⟩) (ent_ok rfl ?_) ?_
  ·simp [conj, hW, hS]
  refine sw_dec hP 6 [] 3 rfl (fun g6_3 => ?_) (fun g6_3 => ?_)
  ·have h : (!(W.2 == W.2)) = true := g6_3
   simp at h
  ·refine sw_dec hP 6 [(3, false)] 9 rfl (fun g6_9 => ?_) (fun g6_9 => ?_)
   ·have h : (!decide (W.1 = W.1)) = true := g6_9
    simp at h
   ·refine rD hP 6 [(3, false), (9, false)] rfl (sw_cond rfl (fun c6 => ?_) (fun c6 => ?_))
    ·refine sw_seq ?_
     refine sw_dec hP 7 [] 3 rfl (fun g7_3 => ?_) (fun g7_3 => ?_)
     ·refine rD hP 7 [(3, true)] rfl (sw_ret ⟨.inl rfl, _, rfl, ?_⟩)
      simp [conj]
     ·have h : (W.2 == W.2) = false := g7_3
      simp at h
    ·have hok : (readI d t).2 = true := by rw [hW]; have h : (!W.2) = false := c6; simpa using h
     obtain ⟨y1, y2⟩ := readI_yes hok
     rw [hW] at y1 y2
     refine sw_skip (sw_seq ?_)
     refine sw_dec hP 7 [] 3 rfl (fun g8_3 => ?_) (fun g8_3 => ?_)
     ·refine rD hP 7 [(3, true)] rfl (sw_ret ⟨.inl rfl, _, rfl, ?_⟩)
      simp [conj, y2]
     ·have h : rootV d W.1 = false := g8_3
      rw [y1] at h
      cases h
end Go.Sx
