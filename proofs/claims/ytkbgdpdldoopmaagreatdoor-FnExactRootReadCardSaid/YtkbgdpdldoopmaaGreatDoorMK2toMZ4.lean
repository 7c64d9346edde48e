/- Several texts, one behind the other. -/
import Derived.Test.YtkbgdpdldoopmaaGreatDoorMRatoMK1
import Derived.Test.YtkbgdpdldoopmaaGreatDoorMVoltoMRf
import Derived.WalkKit
import Derived.LaidEql
import Derived.Stop.Asserts
import Derived.RowKitTokens
import Derived.Test.YtkbgdpdldoopmaaGreatDoorMOpentoMRt
set_option linter.all false
namespace Go.Sx
open Go
set_option maxRecDepth 100000
set_option linter.unusedVariables false
set_option linter.unusedSimpArgs false
set_option maxHeartbeats 2000000

def cHdPls : Ctr := ⟨93, [.val false (.sl T_Place) (.all .b), .val false TI pF], fun x => 0 ≤ x.2.1 ∧ nxLs mPlc x.2.1 x.1 ≤ 1000000000, fun x => (sInt .i64 (hdLs mPlc x.2.1 x.1), [])⟩
theorem cHdPls_ok : CtrOk Proofs.Tryz.prog cHdPls := by
  have hP := (Prg.none ttok mtok)
  refine ctr_of_body hP cHdPls (fn := Proofs.Tryz.f93) (rts := [.tmp 4]) Proofs.Tryz.func93 rfl (by kernel_rfl) rfl rfl ?_
  rintro ⟨(l : List Plc), (k : Int), ⟨⟩⟩ ⟨hdl, _⟩ ⟨h0, h1⟩
  try dsimp only [Ty.den, Mode.den, mdens] at h0
  try dsimp only [Ty.den, Mode.den, mdens] at h1
  refine ⟨rfl, ?_⟩
  have hml : l.length ≤ 140737488355328 := hdl.1
  replace h0 : 0 ≤ k := h0
  replace h1 : nxLs mPlc k l ≤ 1000000000 := h1
  refine sw_seq ?_
  refine sw_region hP 1 [] rfl (by kernel_rfl) (fun _ => by kernel_rfl) (by first | trivial | (simp [conj]; done) | (simp [conj] at *; (try dsimp only [Ty.den, Ty.dflt] at *); omega)) ?_
  refine sw_seq ?_
  refine sw_seq ?_
  refine sw_region hP 2 [] rfl (by kernel_rfl) (fun _ => by kernel_rfl) (by first | trivial | (simp [conj]; done) | (simp [conj] at *; (try dsimp only [Ty.den, Ty.dflt] at *); omega)) ?_
  refine sw_block ?_
  refine sw_loop (ι := Nat × Int) (fun ⟨i, q⟩ => ⟨[.v false [.d (.sl T_Place) (.all .b) l], sInt .i64 q, .junk, .junk, .junk, sInt .i64 (i : Int), .junk, .junk, .junk, .junk, .junk, .junk, .junk, .junk, .junk, .junk, .junk, .junk, .junk, .junk, .junk, .junk, .junk, .junk, .junk, .junk, .junk, .junk, .junk, .junk, .junk], [], 2, []⟩) (fun ⟨i, q⟩ => l.length - i) (fun ⟨i, q⟩ => i ≤ l.length ∧ 0 ≤ q ∧ hdLs mPlc q (l.drop i) = hdLs mPlc k l ∧ nxLs mPlc q (l.drop i) ≤ 1000000000) (0, k) ⟨?_, ?_⟩ ?_
  · skip
    exact ⟨Nat.zero_le _, h0, rfl, h1⟩
  · refine ent_ok rfl ?_
    simp [conj]
  · rintro ⟨i, q⟩ ⟨hi, hq, hgo, hb⟩
    refine sw_seq ?_
    refine sw_seq ?_
    refine sw_region hP 3 [] rfl (by kernel_rfl) (fun _ => by kernel_rfl) (by first | trivial | (simp [conj]; done) | (simp [conj] at *; (try dsimp only [Ty.den, Ty.dflt] at *); omega)) ?_
    refine sw_cond rfl (fun c2 => ?_) (fun c2 => ?_)
    · skip
      have hlt : i < l.length := by simpa using c2
      obtain ⟨s1, s2, s3⟩ := nx_drop mPlc_ok (q := q) hlt
      rw [s1] at hb
      have hp0 : ¬ q + 1 < 0 := by omega
      replace s2 : q ≤ q + 1 + 1 := s2
      replace s3 : q + 1 + 1 ≤ nxLs mPlc (q + 1 + 1) (l.drop (i + 1)) := s3
      replace hb : nxLs mPlc (q + 1 + 1) (l.drop (i + 1)) ≤ 1000000000 := hb
      refine sw_skip ?_
      refine sw_seq ?_
      refine sw_block ?_
      refine sw_seq ?_
      refine sw_seq ?_
      refine sw_region hP 4 [] rfl (by kernel_rfl) (fun _ => by kernel_rfl) ?_ ?_
      · skip
        simp [conj, List.getElem?_eq_getElem hlt]
        repeat' apply And.intro
        all_goals first | trivial | assumption | omega
      refine sw_cond rfl (fun c4 => ?_) (fun c4 => ?_)
      · skip
        replace c4 : ¬ l[i].1 = q := by simpa [List.getElem?_eq_getElem hlt] using c4
        have hn : mPlc.hd q l[i] < 0 := by simp [mPlc, mkPair, mkI, mkStr, mkBool, mkOne, mkList, mkNo, c4, hp0]
        refine sw_seq ?_
        refine sw_region hP 5 [] rfl (by kernel_rfl) (fun _ => by kernel_rfl) ?_ ?_
        · skip
          simp [conj, List.getElem?_eq_getElem hlt]
          repeat' apply And.intro
          all_goals first | trivial | assumption | omega
        refine sw_ret ⟨.inl rfl, _, rfl, ?_⟩
        simp [conj]
        exact (hd_hit hlt hgo hn).symm
      · skip
        replace c4 : l[i].1 = q := by simpa [List.getElem?_eq_getElem hlt] using c4
        refine sw_skip ?_
        refine sw_seq ?_
        refine sw_region hP 5 [] rfl (by kernel_rfl) (fun _ => by kernel_rfl) ?_ ?_
        · skip
          simp [conj, List.getElem?_eq_getElem hlt]
          repeat' apply And.intro
          all_goals first | trivial | assumption | omega
        refine sw_seq ?_
        refine sw_seq ?_
        refine sw_region hP 6 [] rfl (by kernel_rfl) (fun _ => by kernel_rfl) ?_ ?_
        · skip
          simp [conj, List.getElem?_eq_getElem hlt]
          repeat' apply And.intro
          all_goals first | trivial | assumption | omega
        refine sw_cond rfl (fun c7 => ?_) (fun c7 => ?_)
        · skip
          replace c7 : ¬ l[i].2 = q + 1 := by simpa [List.getElem?_eq_getElem hlt] using c7
          have hn : mPlc.hd q l[i] < 0 := by simp [mPlc, mkPair, mkI, mkStr, mkBool, mkOne, mkList, mkNo, c4, c7, hp0]
          refine sw_seq ?_
          refine sw_region hP 7 [] rfl (by kernel_rfl) (fun _ => by kernel_rfl) ?_ ?_
          · skip
            simp [conj, List.getElem?_eq_getElem hlt]
            repeat' apply And.intro
            all_goals first | trivial | assumption | omega
          refine sw_ret ⟨.inl rfl, _, rfl, ?_⟩
          simp [conj]
          exact (hd_hit hlt hgo hn).symm
        · skip
          replace c7 : l[i].2 = q + 1 := by simpa [List.getElem?_eq_getElem hlt] using c7
          have hv : mPlc.hd q l[i] = q + 1 + 1 := by simp [mPlc, mkPair, mkI, mkStr, mkBool, mkOne, mkList, mkNo, c4, c7, hp0]
          refine sw_skip ?_
          refine sw_region hP 7 [] rfl (by kernel_rfl) (fun _ => by kernel_rfl) ?_ ?_
          · skip
            simp [conj, List.getElem?_eq_getElem hlt]
            repeat' apply And.intro
            all_goals first | trivial | assumption | omega
          refine sw_region hP 8 [] rfl (by kernel_rfl) (fun _ => by kernel_rfl) ?_ ?_
          · skip
            simp only [conj, List.nil_append, List.cons_append, List.append_nil, List.append_assoc, inR_i64, true_and, and_true, Int.toNat_natCast]
            try dsimp only [Ty.den, Ty.dflt]
            repeat' apply And.intro
            all_goals first | rfl | omega | assumption | trivial
          refine ⟨(i + 1, q + 1 + 1), ?_, ?_, ent_ok rfl ?_⟩
          · skip
            have hnn : ¬ mPlc.hd q l[i] < 0 := by rw [hv]; omega
            have hgn := hd_next hlt hgo hnn
            have hpo := hd_pos mPlc_ok hnn
            have hbn : nxLs mPlc (q + 1 + 1) (l.drop (i + 1)) ≤ 1000000000 := by rw [← hv, hpo]; exact hb
            rw [hv] at hgn
            exact ⟨hlt, by show 0 ≤ q + 1 + 1; omega, hgn, hbn⟩
          · skip
            show l.length - (i + 1) < l.length - i
            omega
          · skip
            simp [conj, List.getElem?_eq_getElem hlt]
    · skip
      obtain rfl : i = l.length := by simp at c2; omega
      refine sw_exit ?_
      refine sw_seq ?_
      refine sw_region hP 4 [] rfl (by kernel_rfl) (fun _ => by kernel_rfl) (by first | trivial | (simp [conj]; done) | (simp [conj] at *; (try dsimp only [Ty.den, Ty.dflt] at *); omega)) ?_
      refine sw_ret ⟨.inl rfl, _, rfl, ?_⟩
      simp [conj]
      exact (hd_end hgo).symm

def cHdPtrs : Ctr := ⟨65, [.val false (.sl T_Ptr) (.all .b), .val false TI pF], fun x => 0 ≤ x.2.1 ∧ nxLs mPtr x.2.1 x.1 ≤ 1000000000, fun x => (sInt .i64 (hdLs mPtr x.2.1 x.1), [])⟩
theorem cHdPtrs_ok : CtrOk Proofs.Tryz.prog cHdPtrs := by
  have hP := ((Prg.none ttok mtok).and cHdPls_ok)
  refine ctr_of_body hP cHdPtrs (fn := Proofs.Tryz.f65) (rts := [.tmp 4]) Proofs.Tryz.func65 rfl (by kernel_rfl) rfl rfl ?_
  rintro ⟨(l : List Ptr_), (k : Int), ⟨⟩⟩ ⟨hdl, _⟩ ⟨h0, h1⟩
  try dsimp only [Ty.den, Mode.den, mdens] at h0
  try dsimp only [Ty.den, Mode.den, mdens] at h1
  refine ⟨rfl, ?_⟩
  have hml : l.length ≤ 140737488355328 := hdl.1
  replace h0 : 0 ≤ k := h0
  replace h1 : nxLs mPtr k l ≤ 1000000000 := h1
  refine sw_seq ?_
  refine sw_region hP 1 [] rfl (by kernel_rfl) (fun _ => by kernel_rfl) (by first | trivial | (simp [conj]; done) | (simp [conj] at *; (try dsimp only [Ty.den, Ty.dflt] at *); omega)) ?_
  refine sw_seq ?_
  refine sw_seq ?_
  refine sw_region hP 2 [] rfl (by kernel_rfl) (fun _ => by kernel_rfl) (by first | trivial | (simp [conj]; done) | (simp [conj] at *; (try dsimp only [Ty.den, Ty.dflt] at *); omega)) ?_
  refine sw_block ?_
  refine sw_loop (ι := Nat × Int) (fun ⟨i, q⟩ => ⟨[.v false [.d (.sl T_Ptr) (.all .b) l], sInt .i64 q, .junk, .junk, .junk, sInt .i64 (i : Int), .junk, .junk, .junk, .junk, .junk, .junk, .junk, .junk, .junk, .junk, .junk, .junk, .junk, .junk, .junk, .junk, .junk, .junk, .junk, .junk, .junk, .junk, .junk, .junk, .junk, .junk, .junk, .junk, .junk, .junk, .junk, .junk, .junk, .junk], [], 2, []⟩) (fun ⟨i, q⟩ => l.length - i) (fun ⟨i, q⟩ => i ≤ l.length ∧ 0 ≤ q ∧ hdLs mPtr q (l.drop i) = hdLs mPtr k l ∧ nxLs mPtr q (l.drop i) ≤ 1000000000) (0, k) ⟨?_, ?_⟩ ?_
  · skip
    exact ⟨Nat.zero_le _, h0, rfl, h1⟩
  · refine ent_ok rfl ?_
    simp [conj]
  · rintro ⟨i, q⟩ ⟨hi, hq, hgo, hb⟩
    refine sw_seq ?_
    refine sw_seq ?_
    refine sw_region hP 3 [] rfl (by kernel_rfl) (fun _ => by kernel_rfl) (by first | trivial | (simp [conj]; done) | (simp [conj] at *; (try dsimp only [Ty.den, Ty.dflt] at *); omega)) ?_
    refine sw_cond rfl (fun c2 => ?_) (fun c2 => ?_)
    · skip
      have hlt : i < l.length := by simpa using c2
      obtain ⟨s1, s2, s3⟩ := nx_drop mPtr_ok (q := q) hlt
      rw [s1] at hb
      have hp0 : ¬ q + 1 < 0 := by omega
      have hp1 : ¬ q + 1 + 1 < 0 := by omega
      have s4 : q + 1 + 1 ≤ nxLs mPlc (q + 1 + 1) l[i].2.2 := (mkList_ok mPlc_ok).ge _ _
      replace s3 : nxLs mPlc (q + 1 + 1) l[i].2.2 ≤ nxLs mPtr (nxLs mPlc (q + 1 + 1) l[i].2.2) (l.drop (i + 1)) := s3
      have hb2 : nxLs mPtr (nxLs mPlc (q + 1 + 1) l[i].2.2) (l.drop (i + 1)) ≤ 1000000000 := hb
      refine sw_skip ?_
      refine sw_seq ?_
      refine sw_block ?_
      refine sw_seq ?_
      refine sw_seq ?_
      refine sw_region hP 4 [] rfl (by kernel_rfl) (fun _ => by kernel_rfl) ?_ ?_
      · skip
        simp [conj, List.getElem?_eq_getElem hlt]
        repeat' apply And.intro
        all_goals first | trivial | assumption | omega | (show 0 ≤ q + 1 + 1; omega) | (show nxLs mPlc (q + 1 + 1) l[i].2.2 ≤ _; omega)
      refine sw_cond rfl (fun c4 => ?_) (fun c4 => ?_)
      · skip
        replace c4 : ¬ l[i].1 = q := by simpa [List.getElem?_eq_getElem hlt] using c4
        have hn : mPtr.hd q l[i] < 0 := by simp [mPtr, mkPair, mkI, mkStr, mkBool, mkOne, mkList, mkNo, c4, hp0, hp1]
        refine sw_seq ?_
        refine sw_region hP 5 [] rfl (by kernel_rfl) (fun _ => by kernel_rfl) ?_ ?_
        · skip
          simp [conj, List.getElem?_eq_getElem hlt]
          repeat' apply And.intro
          all_goals first | trivial | assumption | omega | (show 0 ≤ q + 1 + 1; omega) | (show nxLs mPlc (q + 1 + 1) l[i].2.2 ≤ _; omega)
        refine sw_ret ⟨.inl rfl, _, rfl, ?_⟩
        simp [conj]
        exact (hd_hit hlt hgo hn).symm
      · skip
        replace c4 : l[i].1 = q := by simpa [List.getElem?_eq_getElem hlt] using c4
        refine sw_skip ?_
        refine sw_seq ?_
        refine sw_region hP 5 [] rfl (by kernel_rfl) (fun _ => by kernel_rfl) ?_ ?_
        · skip
          simp [conj, List.getElem?_eq_getElem hlt]
          repeat' apply And.intro
          all_goals first | trivial | assumption | omega | (show 0 ≤ q + 1 + 1; omega) | (show nxLs mPlc (q + 1 + 1) l[i].2.2 ≤ _; omega)
        refine sw_seq ?_
        refine sw_seq ?_
        refine sw_region hP 6 [] rfl (by kernel_rfl) (fun _ => by kernel_rfl) ?_ ?_
        · skip
          simp [conj, List.getElem?_eq_getElem hlt]
          repeat' apply And.intro
          all_goals first | trivial | assumption | omega | (show 0 ≤ q + 1 + 1; omega) | (show nxLs mPlc (q + 1 + 1) l[i].2.2 ≤ _; omega)
        refine sw_cond rfl (fun c7 => ?_) (fun c7 => ?_)
        · skip
          replace c7 : ¬ l[i].2.1 = q + 1 := by simpa [List.getElem?_eq_getElem hlt] using c7
          have hn : mPtr.hd q l[i] < 0 := by simp [mPtr, mkPair, mkI, mkStr, mkBool, mkOne, mkList, mkNo, c4, c7, hp0, hp1]
          refine sw_seq ?_
          refine sw_region hP 7 [] rfl (by kernel_rfl) (fun _ => by kernel_rfl) ?_ ?_
          · skip
            simp [conj, List.getElem?_eq_getElem hlt]
            repeat' apply And.intro
            all_goals first | trivial | assumption | omega | (show 0 ≤ q + 1 + 1; omega) | (show nxLs mPlc (q + 1 + 1) l[i].2.2 ≤ _; omega)
          refine sw_ret ⟨.inl rfl, _, rfl, ?_⟩
          simp [conj]
          exact (hd_hit hlt hgo hn).symm
        · skip
          replace c7 : l[i].2.1 = q + 1 := by simpa [List.getElem?_eq_getElem hlt] using c7
          refine sw_skip ?_
          refine sw_seq ?_
          refine sw_region hP 7 [] rfl (by kernel_rfl) (fun _ => by kernel_rfl) ?_ ?_
          · skip
            simp [conj, List.getElem?_eq_getElem hlt]
            repeat' apply And.intro
            all_goals first | trivial | assumption | omega | (show 0 ≤ q + 1 + 1; omega) | (show nxLs mPlc (q + 1 + 1) l[i].2.2 ≤ _; omega)
          refine sw_seq ?_
          refine sw_region hP 8 [] rfl (by kernel_rfl) (fun _ => by kernel_rfl) ?_ ?_
          · skip
            simp [conj, List.getElem?_eq_getElem hlt]
            repeat' apply And.intro
            all_goals first | trivial | assumption | omega | (show 0 ≤ q + 1 + 1; omega) | (show nxLs mPlc (q + 1 + 1) l[i].2.2 ≤ _; omega)
          refine sw_seq ?_
          refine sw_region hP 9 [] rfl (by kernel_rfl) (fun _ => by kernel_rfl) ?_ ?_
          · skip
            simp [conj, List.getElem?_eq_getElem hlt]
            repeat' apply And.intro
            all_goals first | trivial | assumption | omega | (show 0 ≤ q + 1 + 1; omega) | (show nxLs mPlc (q + 1 + 1) l[i].2.2 ≤ _; omega)
          refine sw_cond rfl (fun c11 => ?_) (fun c11 => ?_)
          · skip
            replace c11 : hdLs mPlc (q + 1 + 1) l[i].2.2 < 0 := by simpa [List.getElem?_eq_getElem hlt] using c11
            have hn : mPtr.hd q l[i] < 0 := by simp [mPtr, mkPair, mkI, mkStr, mkBool, mkOne, mkList, mkNo, c4, c7, c11, hp0, hp1]
            refine sw_seq ?_
            refine sw_region hP 10 [] rfl (by kernel_rfl) (fun _ => by kernel_rfl) ?_ ?_
            · skip
              simp [conj, List.getElem?_eq_getElem hlt]
              repeat' apply And.intro
              all_goals first | trivial | assumption | omega | (show 0 ≤ q + 1 + 1; omega) | (show nxLs mPlc (q + 1 + 1) l[i].2.2 ≤ _; omega)
            refine sw_ret ⟨.inl rfl, _, rfl, ?_⟩
            simp [conj]
            exact (hd_hit hlt hgo hn).symm
          · skip
            replace c11 : ¬ hdLs mPlc (q + 1 + 1) l[i].2.2 < 0 := by simpa [List.getElem?_eq_getElem hlt] using c11
            have e0 := hd_pos (mkList_ok mPlc_ok) c11
            have hv : mPtr.hd q l[i] = hdLs mPlc (q + 1 + 1) l[i].2.2 := by simp [mPtr, mkPair, mkI, mkStr, mkBool, mkOne, mkList, mkNo, c4, c7, c11, hp0, hp1]
            refine sw_skip ?_
            refine sw_region hP 10 [] rfl (by kernel_rfl) (fun _ => by kernel_rfl) ?_ ?_
            · skip
              simp only [conj, List.nil_append, List.cons_append, List.append_nil, List.append_assoc, inR_i64, true_and, and_true, Int.toNat_natCast]
              try dsimp only [Ty.den, Ty.dflt]
              repeat' apply And.intro
              all_goals first | rfl | omega | assumption | trivial
            refine ⟨(i + 1, hdLs mPlc (q + 1 + 1) l[i].2.2), ?_, ?_, ent_ok rfl ?_⟩
            · skip
              have hnn : ¬ mPtr.hd q l[i] < 0 := by rw [hv]; omega
              have hgn := hd_next hlt hgo hnn
              have hpo := hd_pos mPtr_ok hnn
              have hbn : nxLs mPtr (hdLs mPlc (q + 1 + 1) l[i].2.2) (l.drop (i + 1)) ≤ 1000000000 := by rw [← hv, hpo]; exact hb
              rw [hv] at hgn
              exact ⟨hlt, by show 0 ≤ hdLs mPlc (q + 1 + 1) l[i].2.2; omega, hgn, hbn⟩
            · skip
              show l.length - (i + 1) < l.length - i
              omega
            · skip
              simp [conj, List.getElem?_eq_getElem hlt]
    · skip
      obtain rfl : i = l.length := by simp at c2; omega
      refine sw_exit ?_
      refine sw_seq ?_
      refine sw_region hP 4 [] rfl (by kernel_rfl) (fun _ => by kernel_rfl) (by first | trivial | (simp [conj]; done) | (simp [conj] at *; (try dsimp only [Ty.den, Ty.dflt] at *); omega)) ?_
      refine sw_ret ⟨.inl rfl, _, rfl, ?_⟩
      simp [conj]
      exact (hd_end hgo).symm

def cHdVols : Ctr := ⟨36, [.val false (.sl T_Vol) (.all .b), .val false TI pF], fun x => 0 ≤ x.2.1 ∧ nxLs mVol x.2.1 x.1 ≤ 1000000000, fun x => (sInt .i64 (hdLs mVol x.2.1 x.1), [])⟩
theorem cHdVols_ok : CtrOk Proofs.Tryz.prog cHdVols := by
  have hP := (((Prg.none ttok mtok).and cMkT_ok).and cHdPtrs_ok)
  refine ctr_of_body hP cHdVols (fn := Proofs.Tryz.f36) (rts := [.tmp 4]) Proofs.Tryz.func36 rfl (by kernel_rfl) rfl rfl ?_
  rintro ⟨(l : List Vol_), (k : Int), ⟨⟩⟩ ⟨hdl, _⟩ ⟨h0, h1⟩
  try dsimp only [Ty.den, Mode.den, mdens] at h0
  try dsimp only [Ty.den, Mode.den, mdens] at h1
  refine ⟨rfl, ?_⟩
  have hml : l.length ≤ 140737488355328 := hdl.1
  replace h0 : 0 ≤ k := h0
  replace h1 : nxLs mVol k l ≤ 1000000000 := h1
  refine sw_seq ?_
  refine sw_region hP 1 [] rfl (by kernel_rfl) (fun _ => by kernel_rfl) (by first | trivial | (simp [conj]; done) | (simp [conj] at *; (try dsimp only [Ty.den, Ty.dflt] at *); omega)) ?_
  refine sw_seq ?_
  refine sw_seq ?_
  refine sw_region hP 2 [] rfl (by kernel_rfl) (fun _ => by kernel_rfl) (by first | trivial | (simp [conj]; done) | (simp [conj] at *; (try dsimp only [Ty.den, Ty.dflt] at *); omega)) ?_
  refine sw_block ?_
  refine sw_loop (ι := Nat × Int) (fun ⟨i, q⟩ => ⟨[.v false [.d (.sl T_Vol) (.all .b) l], sInt .i64 q, .junk, .junk, .junk, sInt .i64 (i : Int), .junk, .junk, .junk, .junk, .junk, .junk, .junk, .junk, .junk, .junk, .junk, .junk, .junk, .junk, .junk, .junk, .junk, .junk, .junk, .junk, .junk, .junk, .junk, .junk, .junk, .junk], [], 2, []⟩) (fun ⟨i, q⟩ => l.length - i) (fun ⟨i, q⟩ => i ≤ l.length ∧ 0 ≤ q ∧ hdLs mVol q (l.drop i) = hdLs mVol k l ∧ nxLs mVol q (l.drop i) ≤ 1000000000) (0, k) ⟨?_, ?_⟩ ?_
  · skip
    exact ⟨Nat.zero_le _, h0, rfl, h1⟩
  · refine ent_ok rfl ?_
    simp [conj]
  · rintro ⟨i, q⟩ ⟨hi, hq, hgo, hb⟩
    refine sw_seq ?_
    refine sw_seq ?_
    refine sw_region hP 3 [] rfl (by kernel_rfl) (fun _ => by kernel_rfl) (by first | trivial | (simp [conj]; done) | (simp [conj] at *; (try dsimp only [Ty.den, Ty.dflt] at *); omega)) ?_
    refine sw_cond rfl (fun c2 => ?_) (fun c2 => ?_)
    · skip
      have hlt : i < l.length := by simpa using c2
      obtain ⟨s1, s2, s3⟩ := nx_drop mVol_ok (q := q) hlt
      rw [s1] at hb
      have hp0 : ¬ q + 1 < 0 := by omega
      have s4 : q + 1 ≤ nxLs mPtr (q + 1) l[i].2 := (mkList_ok mPtr_ok).ge _ _
      replace s3 : nxLs mPtr (q + 1) l[i].2 ≤ nxLs mVol (nxLs mPtr (q + 1) l[i].2) (l.drop (i + 1)) := s3
      have hb2 : nxLs mVol (nxLs mPtr (q + 1) l[i].2) (l.drop (i + 1)) ≤ 1000000000 := hb
      refine sw_skip ?_
      refine sw_seq ?_
      refine sw_block ?_
      refine sw_seq ?_
      refine sw_seq ?_
      refine sw_region hP 4 [] rfl (by kernel_rfl) (fun _ => by kernel_rfl) ?_ ?_
      · skip
        simp [conj, List.getElem?_eq_getElem hlt]
        repeat' apply And.intro
        all_goals first | trivial | assumption | omega | (show q ≤ 1099511627776; omega) | (show 0 ≤ q + 1; omega) | (show nxLs mPtr (q + 1) l[i].2 ≤ _; omega)
      refine sw_cond rfl (fun c4 => ?_) (fun c4 => ?_)
      · skip
        replace c4 : ¬ l[i].1 = mkT q := by simpa [List.getElem?_eq_getElem hlt] using c4
        have hn : mVol.hd q l[i] < 0 := by simp [mVol, mkPair, mkI, mkStr, mkBool, mkOne, mkList, mkNo, c4, hp0]
        refine sw_seq ?_
        refine sw_region hP 5 [] rfl (by kernel_rfl) (fun _ => by kernel_rfl) ?_ ?_
        · skip
          simp [conj, List.getElem?_eq_getElem hlt]
          repeat' apply And.intro
          all_goals first | trivial | assumption | omega | (show q ≤ 1099511627776; omega) | (show 0 ≤ q + 1; omega) | (show nxLs mPtr (q + 1) l[i].2 ≤ _; omega)
        refine sw_ret ⟨.inl rfl, _, rfl, ?_⟩
        simp [conj]
        exact (hd_hit hlt hgo hn).symm
      · skip
        replace c4 : l[i].1 = mkT q := by simpa [List.getElem?_eq_getElem hlt] using c4
        refine sw_skip ?_
        refine sw_seq ?_
        refine sw_region hP 5 [] rfl (by kernel_rfl) (fun _ => by kernel_rfl) ?_ ?_
        · skip
          simp [conj, List.getElem?_eq_getElem hlt]
          repeat' apply And.intro
          all_goals first | trivial | assumption | omega | (show q ≤ 1099511627776; omega) | (show 0 ≤ q + 1; omega) | (show nxLs mPtr (q + 1) l[i].2 ≤ _; omega)
        refine sw_seq ?_
        refine sw_region hP 6 [] rfl (by kernel_rfl) (fun _ => by kernel_rfl) ?_ ?_
        · skip
          simp [conj, List.getElem?_eq_getElem hlt]
          repeat' apply And.intro
          all_goals first | trivial | assumption | omega | (show q ≤ 1099511627776; omega) | (show 0 ≤ q + 1; omega) | (show nxLs mPtr (q + 1) l[i].2 ≤ _; omega)
        refine sw_seq ?_
        refine sw_region hP 7 [] rfl (by kernel_rfl) (fun _ => by kernel_rfl) ?_ ?_
        · skip
          simp [conj, List.getElem?_eq_getElem hlt]
          repeat' apply And.intro
          all_goals first | trivial | assumption | omega | (show q ≤ 1099511627776; omega) | (show 0 ≤ q + 1; omega) | (show nxLs mPtr (q + 1) l[i].2 ≤ _; omega)
        refine sw_cond rfl (fun c8 => ?_) (fun c8 => ?_)
        · skip
          replace c8 : hdLs mPtr (q + 1) l[i].2 < 0 := by simpa [List.getElem?_eq_getElem hlt] using c8
          have hn : mVol.hd q l[i] < 0 := by simp [mVol, mkPair, mkI, mkStr, mkBool, mkOne, mkList, mkNo, c4, c8, hp0]
          refine sw_seq ?_
          refine sw_region hP 8 [] rfl (by kernel_rfl) (fun _ => by kernel_rfl) ?_ ?_
          · skip
            simp [conj, List.getElem?_eq_getElem hlt]
            repeat' apply And.intro
            all_goals first | trivial | assumption | omega | (show q ≤ 1099511627776; omega) | (show 0 ≤ q + 1; omega) | (show nxLs mPtr (q + 1) l[i].2 ≤ _; omega)
          refine sw_ret ⟨.inl rfl, _, rfl, ?_⟩
          simp [conj]
          exact (hd_hit hlt hgo hn).symm
        · skip
          replace c8 : ¬ hdLs mPtr (q + 1) l[i].2 < 0 := by simpa [List.getElem?_eq_getElem hlt] using c8
          have e0 := hd_pos (mkList_ok mPtr_ok) c8
          have hv : mVol.hd q l[i] = hdLs mPtr (q + 1) l[i].2 := by simp [mVol, mkPair, mkI, mkStr, mkBool, mkOne, mkList, mkNo, c4, c8, hp0]
          refine sw_skip ?_
          refine sw_region hP 8 [] rfl (by kernel_rfl) (fun _ => by kernel_rfl) ?_ ?_
          · skip
            simp only [conj, List.nil_append, List.cons_append, List.append_nil, List.append_assoc, inR_i64, true_and, and_true, Int.toNat_natCast]
            try dsimp only [Ty.den, Ty.dflt]
            repeat' apply And.intro
            all_goals first | rfl | omega | assumption | trivial
          refine ⟨(i + 1, hdLs mPtr (q + 1) l[i].2), ?_, ?_, ent_ok rfl ?_⟩
          · skip
            have hnn : ¬ mVol.hd q l[i] < 0 := by rw [hv]; omega
            have hgn := hd_next hlt hgo hnn
            have hpo := hd_pos mVol_ok hnn
            have hbn : nxLs mVol (hdLs mPtr (q + 1) l[i].2) (l.drop (i + 1)) ≤ 1000000000 := by rw [← hv, hpo]; exact hb
            rw [hv] at hgn
            exact ⟨hlt, by show 0 ≤ hdLs mPtr (q + 1) l[i].2; omega, hgn, hbn⟩
          · skip
            show l.length - (i + 1) < l.length - i
            omega
          · skip
            simp [conj, List.getElem?_eq_getElem hlt]
    · skip
      obtain rfl : i = l.length := by simp at c2; omega
      refine sw_exit ?_
      refine sw_seq ?_
      refine sw_region hP 4 [] rfl (by kernel_rfl) (fun _ => by kernel_rfl) (by first | trivial | (simp [conj]; done) | (simp [conj] at *; (try dsimp only [Ty.den, Ty.dflt] at *); omega)) ?_
      refine sw_ret ⟨.inl rfl, _, rfl, ?_⟩
      simp [conj]
      exact (hd_end hgo).symm

def cHdRoot : Ctr := ⟨16, [.val true T_Root (.all .b), .val false TI pF], fun x => 0 ≤ x.2.1 ∧ nxLs mVol x.2.1 x.1.2 ≤ 1000000000, fun x => (sInt .i64 (hdLs mVol x.2.1 x.1.2), [])⟩
theorem cHdRoot_ok : CtrOk Proofs.Tryz.prog cHdRoot := by
  have hP := ((Prg.none ttok mtok).and cHdVols_ok)
  refine ctr_of_body hP cHdRoot (fn := Proofs.Tryz.f16) (rts := [.tmp 4]) Proofs.Tryz.func16 rfl (by kernel_rfl) rfl rfl ?_
  rintro ⟨⟨(tg : Int), (l : List Vol_)⟩, (k : Int), ⟨⟩⟩ _ ⟨h0, h1⟩
  try dsimp only [Ty.den, Mode.den, mdens] at h0
  try dsimp only [Ty.den, Mode.den, mdens] at h1
  refine ⟨rfl, ?_⟩
  replace h0 : 0 ≤ k := h0
  refine sw_seq ?_
  refine sw_region hP 1 [] rfl (by kernel_rfl) (fun _ => by kernel_rfl) (by first | trivial | (simp [conj]; done) | (simp [conj] at *; (try dsimp only [Ty.den, Ty.dflt] at *); omega)) ?_
  refine sw_seq ?_
  refine sw_region hP 2 [] rfl (by kernel_rfl) (fun _ => by kernel_rfl) ?_ ?_
  · skip
    simp [conj, maxL]
    try dsimp only [Ty.den, Ty.dflt]
    try simp only [rd_eta]
    exact ⟨h0, h1⟩
  refine sw_seq ?_
  refine sw_seq ?_
  refine sw_region hP 3 [] rfl (by kernel_rfl) (fun _ => by kernel_rfl) (by first | trivial | (simp [conj]; done) | (simp [conj] at *; (try dsimp only [Ty.den, Ty.dflt] at *); omega)) ?_
  refine sw_cond rfl (fun c2 => ?_) (fun c2 => ?_)
  · skip
    replace c2 : hdLs mVol k l < 0 := of_decide_eq_true c2
    have hv : hdLs mVol k l = -1 := hd_neg (mkList_ok mVol_ok) h0 c2
    refine sw_seq ?_
    refine sw_region hP 4 [] rfl (by kernel_rfl) (fun _ => by kernel_rfl) (by first | trivial | (simp [conj]; done) | (simp [conj] at *; (try dsimp only [Ty.den, Ty.dflt] at *); omega)) ?_
    refine sw_ret ⟨.inl rfl, _, rfl, ?_⟩
    simp [conj]
    exact hv.symm
  · skip
    refine sw_skip ?_
    refine sw_seq ?_
    refine sw_region hP 4 [] rfl (by kernel_rfl) (fun _ => by kernel_rfl) (by first | trivial | (simp [conj]; done) | (simp [conj] at *; (try dsimp only [Ty.den, Ty.dflt] at *); omega)) ?_
    refine sw_ret ⟨.inl rfl, _, rfl, ?_⟩
    simp [conj]
    
end Go.Sx

/- What the shelf says of strings.Split, strings.Cut, strings.HasPrefix, strconv.Atoi, and errors.Is, as contracts of Sx. -/
namespace Go.Sx
open Go Go.RowKit
/-- a contract from a walk by the kit's own means, where nothing that lay has turned, and what is new stays -/
theorem ctr_of_new {P : Program} {c : Ctr} {fn : Func} {body : Code} (hf : P.funcs[c.f]? = some fn) (hb : fn.body = some body) (hn : (fn.name == "runtime.NumGoroutine") = false) (href : noRefs c.ins = true)
    (h : ∀ G w args x, (∀ b, G.g b ≠ .no → b < w.heap.size) → Amb P G.g w → ArgsOk G w 0 c.ins x args → c.pre x → Calls P c.f args.toArray w fun e w' => ∃ v, e = .returned v ∧ Below w.heap.size w w' ∧
      (∀ G' : Gh, (∀ b, w.heap.size ≤ b → b < w'.heap.size → G'.g b = .per) → MtS G' w' (c.post x).1 v) ∧ (c.post x).2 = []) : CtrOk P c := by
  intro G w args x hbnd ham hargs hpre
  have hrun : (callFunc c.f args.toArray).run P w = .ok (.enter c.f args.toArray) w := by
    have hn' : ¬ fn.name = "runtime.NumGoroutine" := by simpa using hn
    simp [callFunc, hf, hn', hb]
  refine ⟨_, _, hrun, .inr (.inl ⟨rfl, ?_⟩)⟩
  intro cs
  obtain ⟨e, w', fr, ⟨v, rfl, hB, hm, hp⟩, h1, h2, h3⟩ := h G w args x hbnd ham hargs hpre cs
  refine ⟨_, w', fr, ?_, h1, h2, h3⟩
  let G' : Gh := ⟨fun _ => .bool false, fun b => if w.heap.size ≤ b ∧ b < w'.heap.size then .per else G.g b⟩
  have hk : ∀ b, G.g b ≠ .no → w'.heap[b]? = w.heap[b]? := fun b hb => hB.block b (hbnd b hb)
  have hg : ∀ b, b < w.heap.size → G'.g b = G.g b := fun b hb => if_neg (by omega)
  have hgn : ∀ b, G.g b ≠ .no → G'.g b = G.g b := fun b hb => hg b (hbnd b hb)
  refine ⟨G', ⟨fun _ h => h.elim, ⟨fun b hb => ⟨(hgn b (by rw [hb]; simp)).trans hb, hk b (by rw [hb]; simp)⟩, fun b hb => ⟨(hgn b (by rw [hb]; simp)).trans hb, hk b (by rw [hb]; simp)⟩⟩, fun b j q hq _ => ⟨(hgn b (by rw [hq]; simp)).trans hq, hk b (by rw [hq]; simp)⟩, fun b hlt hb => ⟨hB.block b hlt, (hg b hlt).trans hb⟩, fun b hb => ?_, fun _ _ => rfl, hB.os, hB.tape, hB.output, hB.size⟩, fun _ => rfl, ?_, hm G' (fun b h1 h2 => if_pos ⟨h1, h2⟩), ?_⟩
  · by_cases hlt : w.heap.size ≤ b ∧ b < w'.heap.size
    · exact hlt.2
    · have : G'.g b = G.g b := if_neg hlt
      rw [this] at hb
      exact Nat.lt_of_lt_of_le (hbnd b hb) hB.size
  · rw [noRefs_ptr href]; intro p hp; cases hp
  · rw [hp]; intro i R hi; cases hi
theorem maxLen_cell {G : Gh} {w : World} (ham : Amb Proofs.Tryz.prog G.g w) : ∃ m, w.cell? ⟨1, 0, none⟩ = some (.int .i64 m) := by
  obtain ⟨_, C, t, fz, h1, m, h2⟩ := ham.1 "internal/bytealg.MaxLen" (fun cs => ∃ m, cs = [.int .i64 m]) (.tail _ (List.mem_cons_self ..)) 1 (by kernel_rfl)
  refine ⟨m, ?_⟩
  have : C = #[.int .i64 m] := Array.ext' h2
  simp [World.cell?, h1, this]
def cPref : Ctr := ⟨82, [.val false .str pF, .val false .str pF], fun _ => True, fun x => (sBool (Lib.hasPrefix x.1 x.2.1), [])⟩
theorem cPref_ok : CtrOk Proofs.Tryz.prog cPref := by
  refine ctr_of_below (fn := Proofs.Tryz.f82) Proofs.Tryz.func82 rfl rfl rfl ?_
  rintro G w args ⟨(s : Str), (p : Str), ⟨⟩⟩ _ _ ⟨v, vs, rfl, ⟨_, cs, rfl, _, ⟨rfl, hl⟩⟩, v2, vs2, rfl, ⟨_, cs2, rfl, _, ⟨rfl, hl2⟩⟩, rfl⟩ _
  refine (Proofs.Tryz.strings_HasPrefix (mkS s) (mkS p) w).mono ?_
  rintro e w' ⟨rfl, rfl⟩
  exact ⟨_, rfl, Below.refl _ _, fun G' => MtS.ofBool, rfl⟩
def cCut : Ctr := ⟨83, [.val false .str pF, .val false .str pF], fun x => List.length x.1 ≤ 1000000, fun x => (.tup [(false, [.d .str pF (Lib.cut x.1 x.2.1).1]), (false, [.d .str pF (Lib.cut x.1 x.2.1).2.1]), (false, [.d .bool pF (Lib.cut x.1 x.2.1).2.2])], [])⟩
theorem cut_len (s a : Str) : (Lib.cut s a).1.length ≤ s.length ∧ (Lib.cut s a).2.1.length ≤ s.length := by
  unfold Lib.cut
  split
  · simp only [List.length_take, List.length_drop]; omega
  · exact ⟨Nat.le_refl _, Nat.zero_le _⟩
theorem size_ok {s : Str} (h : s.length ≤ 1000000) : (mkS s).size < 4294967281 := by
  have : (mkS s).size = s.length := rfl
  omega
theorem maxL_ok {n : Nat} (h : n ≤ 1000000) : n ≤ maxL := by unfold maxL; omega
theorem drewN_below (w : World) (n : Nat) : Below w.heap.size w (w.drewN n) := ⟨rfl, rfl, rfl, Nat.le_refl _, fun _ _ => rfl⟩
theorem cCut_ok : CtrOk Proofs.Tryz.prog cCut := by
  refine ctr_of_below (fn := Proofs.Tryz.f83) Proofs.Tryz.func83 rfl rfl rfl ?_
  rintro G w args ⟨(s : Str), (a : Str), ⟨⟩⟩ _ ham ⟨v, vs, rfl, ⟨_, cs, rfl, _, ⟨rfl, hl⟩⟩, v2, vs2, rfl, ⟨_, cs2, rfl, _, ⟨rfl, hl2⟩⟩, rfl⟩ hpre
  replace hpre : s.length ≤ 1000000 := hpre
  obtain ⟨m, hm⟩ := maxLen_cell ham
  refine (Proofs.Tryz.strings_Cut (mkS s) (mkS a) m w (size_ok hpre) hm).mono ?_
  rintro e w' ⟨rfl, n, rfl⟩
  have hc := cut_len s a
  exact ⟨_, rfl, drewN_below w n, fun G' => ⟨_, rfl, _, _, rfl, (MtS.ofStr (maxL_ok (by show (Lib.cut s a).1.length ≤ _; omega)) : MtS G' _ (sStr (Lib.cut s a).1) _), _, _, rfl, (MtS.ofStr (maxL_ok (by show (Lib.cut s a).2.1.length ≤ _; omega)) : MtS G' _ (sStr (Lib.cut s a).2.1) _), _, _, rfl, (MtS.ofBool : MtS G' _ (sBool (Lib.cut s a).2.2) _), rfl⟩, rfl⟩
def cAtoi : Ctr := ⟨81, [.val false .str pF], fun x => List.length x.1 ≤ 1000000, fun x => (.tup [(false, [.d TI pF (atoN x.1)]), (false, [.d .er pF (atoE x.1)])], [])⟩
theorem errVar_cell {G : Gh} {w : World} (ham : Amb Proofs.Tryz.prog G.g w) : (∃ t p, w.cell? ⟨5, 0, none⟩ = some (.iface t p)) ∧ ∃ t p, w.cell? ⟨6, 0, none⟩ = some (.iface t p) := by
  constructor
  · obtain ⟨_, C, t, fz, h1, t2, p, h2⟩ := ham.1 "strconv.ErrSyntax" (fun cs => ∃ t p, cs = [.iface t p]) (.tail _ (.tail _ (List.mem_cons_self ..))) 5 (by kernel_rfl)
    refine ⟨t2, p, ?_⟩
    have : C = #[.iface t2 p] := Array.ext' h2
    simp [World.cell?, h1, this]
  · obtain ⟨_, C, t, fz, h1, t2, p, h2⟩ := ham.1 "strconv.ErrRange" (fun cs => ∃ t p, cs = [.iface t p]) (.tail _ (.tail _ (.tail _ (List.mem_cons_self ..)))) 6 (by kernel_rfl)
    refine ⟨t2, p, ?_⟩
    have : C = #[.iface t2 p] := Array.ext' h2
    simp [World.cell?, h1, this]
theorem cAtoi_ok : CtrOk Proofs.Tryz.prog cAtoi := by
  refine ctr_of_below (fn := Proofs.Tryz.f81) Proofs.Tryz.func81 rfl rfl rfl ?_
  rintro G w args ⟨(s : Str), ⟨⟩⟩ _ ham ⟨v, vs, rfl, ⟨_, cs, rfl, _, ⟨rfl, hl⟩⟩, rfl⟩ hpre
  replace hpre : s.length ≤ 1000000 := hpre
  have hsz : (mkS s).size = s.length := rfl
  obtain ⟨⟨t5, p5, h5⟩, t6, p6, h6⟩ := errVar_cell ham
  cases h : Lib.atoiAll s with
  | ok n =>
    have hb := Lib.atoiAll_bounds h
    refine (Proofs.Tryz.strconv_Atoi_ok (mkS s) (by omega) n h w).mono ?_
    rintro e w' ⟨rfl, hw⟩
    refine ⟨_, rfl, ?_, fun G' => ⟨_, rfl, _, _, rfl, ?_, _, _, rfl, ?_, rfl⟩, rfl⟩
    · rcases hw with rfl | ⟨t, rfl⟩
      · exact Below.refl _ _
      · exact Lib.bytesWorld_below w 5 t
    · show MtS G' w' (sInt .i64 (atoN s)) _
      unfold atoN
      rw [h]
      exact .ofInt (by rw [inR_i64]; exact hb)
    · show MtS G' w' (.v false [.d .er pF (atoE s)]) _
      unfold atoE
      rw [h]
      exact .of1 rfl ⟨rfl, _, rfl, .inl ⟨rfl, rfl⟩⟩
  | range =>
    refine (Proofs.Tryz.strconv_Atoi_range (mkS s) (by omega) h _ w h6 (.inr ⟨_, _, rfl⟩)).mono ?_
    rintro e w' ⟨N, rfl, _, _, hB⟩
    refine ⟨_, rfl, hB, fun G' => ⟨_, rfl, _, _, rfl, ?_, _, _, rfl, ?_, rfl⟩, rfl⟩
    · show MtS G' w' (sInt .i64 (atoN s)) _
      unfold atoN
      rw [h]
      refine .ofInt ?_
      rw [inR_i64]
      show _ ≤ Lib.atoiSat s ∧ Lib.atoiSat s ≤ _
      unfold Lib.atoiSat
      split <;> decide
    · show MtS G' w' (.v false [.d .er pF (atoE s)]) _
      unfold atoE
      rw [h]
      exact .of1 rfl ⟨rfl, _, rfl, .inr (.inr ⟨rfl, _, _, rfl⟩)⟩
  | _ =>
    refine (Proofs.Tryz.strconv_Atoi_syntax (mkS s) (by omega) h _ w h5 (.inr ⟨_, _, rfl⟩)).mono ?_
    rintro e w' ⟨N, rfl, _, _, hB⟩
    refine ⟨_, rfl, hB, fun G' => ⟨_, rfl, _, _, rfl, ?_, _, _, rfl, ?_, rfl⟩, rfl⟩
    · show MtS G' w' (sInt .i64 (atoN s)) _
      unfold atoN
      rw [h]
      exact .ofInt (by rw [inR_i64]; show (-9223372036854775808 : Int) ≤ 0 ∧ (0 : Int) ≤ 9223372036854775807; decide)
    · show MtS G' w' (.v false [.d .er pF (atoE s)]) _
      unfold atoE
      rw [h]
      exact .of1 rfl ⟨rfl, _, rfl, .inr (.inr ⟨rfl, _, _, rfl⟩)⟩
def cSplit : Ctr := ⟨23, [.val false .str pF, .val false .str pF], fun x => List.length x.1 ≤ 1000000 ∧ List.length x.2.1 = 1, fun x => (.v false [.d (.sl .str) pF (cutV (List.headD x.2.1 0) x.1)], [])⟩
theorem cutGo_len {a : UInt8} : ∀ {s cur : Str}, ∀ x ∈ cutGo a cur s, x.length ≤ cur.length + s.length := by
  intro s
  induction s with
  | nil => intro cur x hx; rw [List.mem_singleton.1 hx]; exact Nat.le_add_right _ _
  | cons c s ih =>
    intro cur x hx
    simp only [cutGo] at hx
    split at hx
    · rcases List.mem_cons.1 hx with rfl | hx
      · exact Nat.le_add_right _ _
      · have := ih x hx
        simp only [List.length_nil, List.length_cons] at this ⊢
        omega
    · have := ih x hx
      simp only [List.length_append, List.length_cons, List.length_nil] at this ⊢
      omega
theorem cutV_len {a : UInt8} {s : Str} : ∀ x ∈ cutV a s, x.length ≤ s.length := fun x hx => by
  have := cutGo_len x hx
  simpa using this
theorem cSplit_ok : CtrOk Proofs.Tryz.prog cSplit := by
  refine ctr_of_new (fn := Proofs.Tryz.f23) Proofs.Tryz.func23 rfl rfl rfl ?_
  rintro G w args ⟨(s : Str), (p : Str), ⟨⟩⟩ _ ham ⟨v, vs, rfl, ⟨_, cs, rfl, _, ⟨rfl, hl⟩⟩, v2, vs2, rfl, ⟨_, cs2, rfl, _, ⟨rfl, hl2⟩⟩, rfl⟩ ⟨hpre, hp1⟩
  replace hpre : s.length ≤ 1000000 := hpre
  obtain ⟨a, rfl⟩ : ∃ a, p = [a] := List.length_eq_one_iff.1 hp1
  obtain ⟨m, hm⟩ := maxLen_cell ham
  refine (Proofs.Tryz.strings_Split (mkS s) (mkS [a]) m w (size_ok hpre) hm (Nat.le_refl _)).mono ?_
  rintro e w' ⟨rfl, rfl⟩
  have hlen : (Lib.splitB (mkS [a]) 0 (Lib.countB (mkS s) (mkS [a])) (mkS s)).length = Lib.countB (mkS s) (mkS [a]) + 1 := Lib.splitB_all (mkS [a]) (Nat.le_refl _) 0 _ (mkS s) rfl
  have hcl : Lib.countB (mkS s) (mkS [a]) ≤ s.length := Lib.countB_le (mkS [a]) (Nat.le_refl _) _ (mkS s) (Nat.le_refl _)
  have hcut : (Lib.splitB (mkS [a]) 0 (Lib.countB (mkS s) (mkS [a])) (mkS s)).map (·.data.toList) = cutV a s := split_cut
  have hcl2 : (cutV a s).length = Lib.countB (mkS s) (mkS [a]) + 1 := by rw [← hcut, List.length_map, hlen]
  refine ⟨_, rfl, (Below.refl _ w).alloc (Nat.le_refl _) _, fun G' hper => ?_, rfl⟩
  have hper0 := hper w.heap.size (Nat.le_refl _) (by simp [World.size_alloc])
  refine .of1 rfl ⟨rfl, some ⟨w.heap.size, 0, none⟩, _, _, rfl, hcl2.symm, Nat.le_refl _, by unfold maxL; omega, fun _ => rfl, .inr ⟨w.heap.size, 0, ((Lib.splitB (mkS [a]) 0 (Lib.countB (mkS s) (mkS [a])) (mkS s)).map Value.string).toArray, 9, (0, 0), rfl, hper0, ?_, ?_, fun h => (by cases h), ?_⟩⟩
  · show (w.heap.push _)[w.heap.size]? = _
    exact Array.getElem?_push_size
  · simp [hlen, Ty.size]
  · intro j x hx
    have hx' : (cutV a s)[j]? = some x := hx
    rw [← hcut, List.getElem?_map, Option.map_eq_some_iff] at hx'
    obtain ⟨y, hy, rfl⟩ := hx'
    have hmem : y.data.toList ∈ cutV a s := by rw [← hcut]; exact List.mem_map_of_mem (List.mem_of_getElem? hy)
    refine ⟨?_, maxL_ok (Nat.le_trans (cutV_len _ hmem) hpre)⟩
    unfold cellsAt
    rw [show (0 + j * Ty.str.size) = j by simp [Ty.size], show Ty.str.size = 1 from rfl]
    simp only [List.toList_toArray]
    rw [List.drop_eq_getElem_cons (by rw [List.length_map]; exact (List.getElem?_eq_some_iff.1 hy).1)]
    simp only [List.take_succ_cons, List.take_zero, List.getElem_map, (List.getElem?_eq_some_iff.1 hy).2]
    rfl
/-! errors.Is -/
open Go.Extern.Stop Go.Stop Go.Extern
theorem isTypeOf (v : Value) (w : World) : (Extern.ReflectliteType.typeOf #[.iface 179 v]).run Proofs.Tryz.prog w = .ok (.iface 111 (.agg #[.pointer (some ⟨9, 179, none⟩)])) w := by kernel_rfl
def cmpX : Array Value → Sem Value := Extern.ReflectliteType.method fun t => do Extern.Rtype.noPackHeld "Comparable" t; pure (.bool (← typeInfo t).comparable)
theorem isComparable (w : World) : (cmpX #[.agg #[.pointer (some ⟨9, 179, none⟩)]]).run Proofs.Tryz.prog w = .ok (.bool true) w := by kernel_rfl
theorem isComp : (Proofs.Tryz.prog.info? 179).map (·.comparable) = some true := by kernel_rfl
theorem isSize : (Proofs.Tryz.prog.info? 181).map (·.size) = some 1 := by kernel_rfl
theorem isMethodComparable (v : Value) (w : World) : (Go.method 314 111 v "Comparable").run Proofs.Tryz.prog w = .ok (170, v) w := by kernel_rfl
set_option maxRecDepth 100000 in
set_option maxHeartbeats 1000000 in
theorem is_same (a : Addr) (w : World) :
    Calls Proofs.Tryz.prog 25 #[.iface 179 (.pointer (some a)), .iface 179 (.pointer (some a))] w fun e w' => e = .returned (.bool true) ∧ w' = w := by
  obtain ⟨i, hi, hcmp⟩ := Option.map_eq_some_iff.1 isComp
  obtain ⟨j, hj, hjs⟩ := Option.map_eq_some_iff.1 isSize
  have h8 := @run_callFunc_extern Proofs.Tryz.prog 53 _ Extern.ReflectliteType.typeOf Proofs.Tryz.func53 (by kernel_rfl) (by kernel_rfl) (by kernel_rfl) (by kernel_rfl)
  have h32 := @run_callFunc_extern Proofs.Tryz.prog 170 _ cmpX Proofs.Tryz.func170 (by kernel_rfl) (by kernel_rfl) (by kernel_rfl) (by kernel_rfl)
  have tT := isTypeOf
  have cT := isComparable
  have mR := isMethodComparable
  have heq := run_eql_iface_ptr_same (P := Proofs.Tryz.prog) w a Proofs.Tryz.underlying46 Proofs.Tryz.underlying179 hi hcmp hj
  open Proofs.Tryz in go_enter func25, ntmps25
  go_wp2
  refine wp_loop_rounds 1 ?_
  rw [rounds_succ]
  go_wp2
  go_ret
  exact ⟨rfl, rfl⟩
set_option maxRecDepth 100000 in
theorem is_nil (b : Addr) (w : World) :
    Calls Proofs.Tryz.prog 25 #[.nilIface, .iface 179 (.pointer (some b))] w fun e w' => e = .returned (.bool false) ∧ w' = w := by
  have hn := run_eql_iface_nil_left (P := Proofs.Tryz.prog) w 179 (.pointer (some b)) Proofs.Tryz.underlying46
  open Proofs.Tryz in go_enter func25, ntmps25
  go_wp2
  go_ret
  exact ⟨rfl, rfl⟩
def cIs : Ctr := ⟨25, [.val false .er pF, .val false .er pF], fun x => x.1 ≤ 1 ∧ x.2.1 = 1, fun x => (sBool (Nat.beq x.1 1), [])⟩
theorem cIs_ok : CtrOk Proofs.Tryz.prog cIs := by
  refine ctr_of_below (fn := Proofs.Tryz.f25) Proofs.Tryz.func25 rfl rfl rfl ?_
  rintro G w args ⟨(e : Nat), (t : Nat), ⟨⟩⟩ _ ham ⟨v, vs, rfl, ⟨_, cs, rfl, _, ⟨u, rfl, h1⟩⟩, v2, vs2, rfl, ⟨_, cs2, rfl, _, ⟨u2, rfl, h2⟩⟩, rfl⟩ ⟨hp1, hp2⟩
  replace hp1 : e ≤ 1 := hp1
  replace hp2 : t = 1 := hp2
  subst hp2
  rcases h2 with h2 | ⟨_, hg, C, t2, fz, A, hh, hC, rfl⟩ | h2
  · exact absurd (show (1 : Nat) = 0 from h2.1) (by decide)
  · rcases h1 with ⟨he, rfl⟩ | ⟨he, _, C', t3, fz', A', hh', hC', rfl⟩ | h1
    · replace he : e = 0 := he
      subst he
      refine (is_nil A w).mono ?_
      rintro e w' ⟨rfl, rfl⟩
      exact ⟨_, rfl, Below.refl _ _, fun G' => MtS.ofBool, rfl⟩
    · replace he : e = 1 := he
      subst he
      rw [hh] at hh'
      simp only [Option.some.injEq, Obj.cells.injEq] at hh'
      rw [← hh'.1, hC] at hC'
      simp only [List.cons.injEq, Value.iface.injEq, Value.pointer.injEq, Option.some.injEq, and_true, true_and] at hC'
      subst hC'
      refine (is_same A w).mono ?_
      rintro e w' ⟨rfl, rfl⟩
      exact ⟨_, rfl, Below.refl _ _, fun G' => MtS.ofBool, rfl⟩
    · have : e = 2 := h1.1
      omega
  · exact absurd (show (1 : Nat) = 2 from h2.1) (by decide)
end Go.Sx

namespace Go.Sx
open Go
set_option maxRecDepth 100000
set_option linter.unusedVariables false
set_option linter.unusedSimpArgs false
set_option maxHeartbeats 2000000

def cNextI : Ctr := ⟨51, [.ref T_rootReader pF, .val false .str pF], fun x => RdOk x.1 ∧ List.length x.2.1 ≤ 1000, fun x => (sBool (nextI x.2.1 x.1), [(⟨0, 0, 0⟩, .var [.d (.sl .str) pF x.1.1, .d .er pF x.1.2])])⟩
theorem cNextI_ok : CtrOk Proofs.Tryz.prog cNextI := by
  have hP := ((Prg.none ttok mtok).and cPref_ok)
  refine ctr_of_body hP cNextI (fn := Proofs.Tryz.f51) (rts := [.tmp 4]) Proofs.Tryz.func51 rfl (by kernel_rfl) rfl rfl ?_
  rintro ⟨⟨(ls : List Str), (er : Nat)⟩, (f : Str), ⟨⟩⟩ _ ⟨hpre, hfl⟩
  try dsimp only [Ty.den, Mode.den, mdens] at hpre
  try dsimp only [Ty.den, Mode.den, mdens] at hfl
  refine ⟨rfl, ?_⟩
  replace hpre : RdOk (ls, er) := hpre
  replace hfl : f.length ≤ 1000 := hfl
  have hl : ∀ l ∈ ls, l.length ≤ 700 := hpre.1
  have hn : ls.length ≤ 701 := hpre.2
  refine sw_seq ?_
  refine sw_region hP 1 [] rfl (by kernel_rfl) (fun _ => by kernel_rfl) (by first | trivial | (simp [conj]; done) | (simp [conj] at *; (try dsimp only [Ty.den, Ty.dflt] at *); omega)) ?_
  refine sw_seq ?_
  refine sw_dec hP 2 [] 6 rfl (fun g1_6 => ?_) (fun g1_6 => ?_)
  · skip
    have hlt : 0 < ls.length := by simpa using g1_6
    have h0 := hl _ (List.getElem_mem hlt)
    have hne : ¬ ls = [] := by intro e; rw [e] at hlt; cases hlt
    refine sw_region hP 2 [(6, true)] rfl (by kernel_rfl) (fun _ => by kernel_rfl) ?_ ?_
    · skip
      simp [conj, maxL, bytesL, List.getElem?_eq_getElem hlt]
      repeat' apply And.intro
      all_goals first | omega | trivial
    refine sw_ret ⟨.inl rfl, _, rfl, ?_⟩
    simp [conj, nextI, hne, bytesL, List.getElem?_eq_getElem hlt]
  · skip
    obtain rfl : ls = [] := by have h : decide ((0 : Int) < (ls.length : Int)) = false := g1_6; simpa using h
    refine sw_region hP 2 [(6, false)] rfl (by kernel_rfl) (fun _ => by kernel_rfl) ?_ ?_
    · skip
      simp [conj]
    refine sw_ret ⟨.inl rfl, _, rfl, ?_⟩
    simp [conj, nextI]

def cWordsI : Ctr := ⟨50, [.ref T_rootReader pF, .val false .str pF], fun x => RdOk x.1, fun x => (.v false [.d (.sl .str) pF (wordsI x.2.1 x.1).1], [(⟨0, 0, 0⟩, .var [.d (.sl .str) pF (wordsI x.2.1 x.1).2.1, .d .er pF (wordsI x.2.1 x.1).2.2])])⟩
theorem cWordsI_ok : CtrOk Proofs.Tryz.prog cWordsI := by
  have hP := ((Prg.none ttok mtok).and cSplit_ok)
  refine ctr_of_body hP cWordsI (fn := Proofs.Tryz.f50) (rts := [.tmp 4]) Proofs.Tryz.func50 rfl (by kernel_rfl) rfl rfl ?_
  rintro ⟨⟨(ls : List Str), (er : Nat)⟩, (f : Str), ⟨⟩⟩ _ hpre
  try dsimp only [Ty.den, Mode.den, mdens] at hpre
  refine ⟨rfl, ?_⟩
  replace hpre : RdOk (ls, er) := hpre
  have hl : ∀ l ∈ ls, l.length ≤ 700 := hpre.1
  have hn : ls.length ≤ 701 := hpre.2
  refine sw_seq ?_
  refine sw_region hP 1 [] rfl (by kernel_rfl) (fun _ => by kernel_rfl) (by first | trivial | (simp [conj]; done) | (simp [conj] at *; (try dsimp only [Ty.den, Ty.dflt] at *); omega)) ?_
  refine sw_seq ?_
  refine sw_seq ?_
  refine sw_region hP 2 [] rfl (by kernel_rfl) (fun _ => by kernel_rfl) (by first | trivial | (simp [conj]; done) | (simp [conj] at *; (try dsimp only [Ty.den, Ty.dflt] at *); omega)) ?_
  refine sw_cond rfl (fun c1 => ?_) (fun c1 => ?_)
  · skip
    have hlt : ls.length = 0 := by simpa using c1
    obtain rfl : ls = [] := List.eq_nil_of_length_eq_zero hlt
    refine sw_seq ?_
    refine sw_region hP 3 [] rfl (by kernel_rfl) (fun _ => by kernel_rfl) (by first | trivial | (simp [conj]; done) | (simp [conj] at *; (try dsimp only [Ty.den, Ty.dflt] at *); omega)) ?_
    refine sw_seq ?_
    refine sw_region hP 4 [] rfl (by kernel_rfl) (fun _ => by kernel_rfl) (by first | trivial | (simp [conj]; done) | (simp [conj] at *; (try dsimp only [Ty.den, Ty.dflt] at *); omega)) ?_
    refine sw_ret ⟨.inl rfl, _, rfl, ?_⟩
    simp [conj, wordsI]
  · skip
    have hlt : 0 < ls.length := by
      rcases Nat.eq_zero_or_pos ls.length with h | h
      · simp [h] at c1
      · exact h
    have h0 := hl _ (List.getElem_mem hlt)
    have hcv := List.length_pos_iff.2 (cutV_ne (a := 32) (s := ls[0]))
    refine sw_skip ?_
    refine sw_seq ?_
    refine sw_region hP 3 [] rfl (by kernel_rfl) (fun _ => by kernel_rfl) ?_ ?_
    · skip
      simp [conj, List.getElem?_eq_getElem hlt, bytesL]
      repeat' apply And.intro
      all_goals first | omega | trivial | (show List.length ls[0] ≤ 1000000; omega)
    refine sw_seq ?_
    refine sw_region hP 4 [] rfl (by kernel_rfl) (fun _ => by kernel_rfl) ?_ ?_
    · skip
      simp [conj, List.getElem?_eq_getElem hlt]
      repeat' apply And.intro
      all_goals first | omega | trivial
    refine sw_seq ?_
    refine sw_seq ?_
    refine sw_region hP 5 [] rfl (by kernel_rfl) (fun _ => by kernel_rfl) ?_ ?_
    · skip
      simp [conj, List.getElem?_eq_getElem hlt, bytesL]
      repeat' apply And.intro
      all_goals first | omega | trivial
    refine sw_cond rfl (fun c6 => ?_) (fun c6 => ?_)
    · skip
      have hw : ¬ (cutV 32 ls[0])[0] = f := by simpa [List.getElem?_eq_getElem hlt, bytesL, List.getElem?_eq_getElem hcv] using c6
      refine sw_region hP 6 [] rfl (by kernel_rfl) (fun _ => by kernel_rfl) (by first | trivial | (simp [conj]; done) | (simp [conj] at *; (try dsimp only [Ty.den, Ty.dflt] at *); omega)) ?_
      refine sw_seq ?_
      refine sw_region hP 7 [] rfl (by kernel_rfl) (fun _ => by kernel_rfl) ?_ ?_
      · skip
        simp [conj, List.getElem?_eq_getElem hlt, bytesL]
        repeat' apply And.intro
        all_goals first | omega | trivial
      refine sw_ret ⟨.inl rfl, _, rfl, ?_⟩
      have hne : ¬ ls.length = 0 := by omega
      simp [conj, wordsI, hne, List.getElem?_eq_getElem hlt, List.getElem?_eq_getElem hcv, hw, bytesL]
    · skip
      have hw : (cutV 32 ls[0])[0] = f := by simpa [List.getElem?_eq_getElem hlt, bytesL, List.getElem?_eq_getElem hcv] using c6
      refine sw_skip ?_
      refine sw_seq ?_
      refine sw_region hP 6 [] rfl (by kernel_rfl) (fun _ => by kernel_rfl) ?_ ?_
      · skip
        simp [conj, List.getElem?_eq_getElem hlt, bytesL]
        repeat' apply And.intro
        all_goals first | omega | trivial
      refine sw_ret ⟨.inl rfl, _, rfl, ?_⟩
      have hne : ¬ ls.length = 0 := by omega
      simp [conj, wordsI, hne, List.getElem?_eq_getElem hlt, List.getElem?_eq_getElem hcv, hw, bytesL]

def cNumI : Ctr := ⟨48, [.ref T_rootReader pF, .val false .str pF], fun x => List.length x.2.1 ≤ 1000000, fun x => (sInt .i64 (numI x.2.1 x.1).1, [(⟨0, 0, 0⟩, .var [.d (.sl .str) pF (numI x.2.1 x.1).2.1, .d .er pF (numI x.2.1 x.1).2.2])])⟩
theorem cNumI_ok : CtrOk Proofs.Tryz.prog cNumI := by
  have hP := ((Prg.none ttok mtok).and cAtoi_ok)
  refine ctr_of_body hP cNumI (fn := Proofs.Tryz.f48) (rts := [.tmp 4]) Proofs.Tryz.func48 rfl (by kernel_rfl) rfl rfl ?_
  rintro ⟨⟨(ls : List Str), (er : Nat)⟩, (f : Str), ⟨⟩⟩ _ hpre
  try dsimp only [Ty.den, Mode.den, mdens] at hpre
  refine ⟨rfl, ?_⟩
  replace hpre : f.length ≤ 1000000 := hpre
  refine sw_seq ?_
  refine sw_region hP 1 [] rfl (by kernel_rfl) (fun _ => by kernel_rfl) (by first | trivial | (simp [conj]; done) | (simp [conj] at *; (try dsimp only [Ty.den, Ty.dflt] at *); omega)) ?_
  refine sw_seq ?_
  refine sw_region hP 2 [] rfl (by kernel_rfl) (fun _ => by kernel_rfl) ?_ ?_
  · skip
    simp only [conj, List.nil_append, List.cons_append, List.append_nil, List.append_assoc, inR_i64, true_and, and_true, Int.toNat_natCast]
    try dsimp only [Ty.den, Ty.dflt]
    repeat' apply And.intro
    all_goals first | omega | assumption | trivial
  refine sw_seq ?_
  refine sw_seq ?_
  refine sw_region hP 3 [] rfl (by kernel_rfl) (fun _ => by kernel_rfl) (by first | trivial | (simp [conj]; done) | (simp [conj] at *; (try dsimp only [Ty.den, Ty.dflt] at *); omega)) ?_
  refine sw_cond rfl (fun c2 => ?_) (fun c2 => ?_)
  · skip
    have he : ¬ atoE f = 0 := by have h : (!Nat.beq (atoE f) 0) = true := c2; intro e; rw [e] at h; cases h
    refine sw_region hP 4 [] rfl (by kernel_rfl) (fun _ => by kernel_rfl) (by first | trivial | (simp [conj]; done) | (simp [conj] at *; (try dsimp only [Ty.den, Ty.dflt] at *); omega)) ?_
    refine sw_seq ?_
    refine sw_region hP 5 [] rfl (by kernel_rfl) (fun _ => by kernel_rfl) (by first | trivial | (simp [conj]; done) | (simp [conj] at *; (try dsimp only [Ty.den, Ty.dflt] at *); omega)) ?_
    refine sw_ret ⟨.inl rfl, _, rfl, ?_⟩
    simp [conj, numI, he]
  · skip
    have he : atoE f = 0 := by have h : (!Nat.beq (atoE f) 0) = false := c2; simpa using h
    refine sw_skip ?_
    refine sw_seq ?_
    refine sw_region hP 4 [] rfl (by kernel_rfl) (fun _ => by kernel_rfl) (by first | trivial | (simp [conj]; done) | (simp [conj] at *; (try dsimp only [Ty.den, Ty.dflt] at *); omega)) ?_
    refine sw_ret ⟨.inl rfl, _, rfl, ?_⟩
    simp [conj, numI, he]

def cOnlyI : Ctr := ⟨49, [.ref T_rootReader pF, .val false (.sl .str) pF], fun x => True, fun x => (sStr (onlyI x.2.1 x.1).1, [(⟨0, 0, 0⟩, .var [.d (.sl .str) pF (onlyI x.2.1 x.1).2.1, .d .er pF (onlyI x.2.1 x.1).2.2])])⟩
theorem cOnlyI_ok : CtrOk Proofs.Tryz.prog cOnlyI := by
  have hP := (Prg.none ttok mtok)
  refine ctr_of_body hP cOnlyI (fn := Proofs.Tryz.f49) (rts := [.tmp 4]) Proofs.Tryz.func49 rfl (by kernel_rfl) rfl rfl ?_
  rintro ⟨⟨(ls : List Str), (er : Nat)⟩, (ws : List Str), ⟨⟩⟩ _ _
  try dsimp only [Ty.den, Mode.den, mdens] at _
  refine ⟨rfl, ?_⟩
  refine sw_seq ?_
  refine sw_region hP 1 [] rfl (by kernel_rfl) (fun _ => by kernel_rfl) (by first | trivial | (simp [conj]; done) | (simp [conj] at *; (try dsimp only [Ty.den, Ty.dflt] at *); omega)) ?_
  refine sw_seq ?_
  refine sw_seq ?_
  refine sw_region hP 2 [] rfl (by kernel_rfl) (fun _ => by kernel_rfl) (by first | trivial | (simp [conj]; done) | (simp [conj] at *; (try dsimp only [Ty.den, Ty.dflt] at *); omega)) ?_
  refine sw_cond rfl (fun c1 => ?_) (fun c1 => ?_)
  · skip
    have hw : ¬ ws.length = 1 := by have h := c1; simp at h; omega
    refine sw_seq ?_
    refine sw_region hP 3 [] rfl (by kernel_rfl) (fun _ => by kernel_rfl) (by first | trivial | (simp [conj]; done) | (simp [conj] at *; (try dsimp only [Ty.den, Ty.dflt] at *); omega)) ?_
    refine sw_seq ?_
    refine sw_region hP 4 [] rfl (by kernel_rfl) (fun _ => by kernel_rfl) (by first | trivial | (simp [conj]; done) | (simp [conj] at *; (try dsimp only [Ty.den, Ty.dflt] at *); omega)) ?_
    refine sw_ret ⟨.inl rfl, _, rfl, ?_⟩
    simp [conj, onlyI, hw, bytesL]
  · skip
    have hw : ws.length = 1 := by have h := c1; simp at h; omega
    have hlt : 0 < ws.length := by omega
    refine sw_skip ?_
    refine sw_seq ?_
    refine sw_region hP 3 [] rfl (by kernel_rfl) (fun _ => by kernel_rfl) ?_ ?_
    · skip
      simp [conj, List.getElem?_eq_getElem hlt]
      repeat' apply And.intro
      all_goals first | omega | trivial
    refine sw_ret ⟨.inl rfl, _, rfl, ?_⟩
    simp [conj, onlyI, hw, bytesL]
end Go.Sx

namespace Go.Sx
open Go
set_option maxRecDepth 100000
set_option linter.unusedVariables false
set_option linter.unusedSimpArgs false
set_option maxHeartbeats 2000000

def cPtrI : Ctr := ⟨52, [.ref T_rootReader pF], fun x => RdOk x.1, fun x => (.v true [.d TI pF (ptrI x.1).1.1, .d TI pF (ptrI x.1).1.2.1, .own ⟨1, 0, 0⟩], [(⟨0, 0, 0⟩, .var [.d (.sl .str) pF (ptrI x.1).2.1, .d .er pF (ptrI x.1).2.2]), (⟨1, 0, 0⟩, .sl T_Place pF (ptrI x.1).1.2.2)])⟩
theorem cPtrI_ok : CtrOk Proofs.Tryz.prog cPtrI := by
  have hP := (((((Prg.none ttok mtok).and cNextI_ok).and cWordsI_ok).and cNumI_ok).and cCut_ok)
  refine ctr_of_body hP cPtrI (fn := Proofs.Tryz.f52) (rts := [.cell 2 57]) Proofs.Tryz.func52 rfl (by kernel_rfl) rfl rfl ?_
  rintro ⟨⟨(ls : List Str), (er : Nat)⟩, ⟨⟩⟩ _ hpre
  try dsimp only [Ty.den, Mode.den, mdens] at hpre
  refine ⟨rfl, ?_⟩
  replace hpre : RdOk (ls, er) := hpre
  refine sw_seq ?_
  refine sw_region hP 1 [] rfl (by kernel_rfl) (fun _ => by kernel_rfl) (by first | trivial | (simp [conj]; done) | (simp [conj] at *; (try dsimp only [Ty.den, Ty.dflt] at *); omega)) ?_
  refine sw_seq ?_
  refine sw_seq ?_
  refine sw_region hP 2 [] rfl (by kernel_rfl) (fun _ => by kernel_rfl) ?_ ?_
  · skip
    simp only [conj, List.nil_append, List.cons_append, List.append_nil, List.append_assoc, inR_i64, true_and, and_true, Int.toNat_natCast]
    try dsimp only [Ty.den, Ty.dflt]
    repeat' apply And.intro
    all_goals first | omega | assumption | trivial | exact hpre | (show 4 ≤ 1000; decide)
  refine sw_cond rfl (fun c1 => ?_) (fun c1 => ?_)
  · skip
    replace c1 : nextI nN (ls, er) = true := c1
    refine sw_seq ?_
    refine sw_region hP 3 [] rfl (by kernel_rfl) (fun _ => by kernel_rfl) ?_ ?_
    · skip
      simp only [conj, List.nil_append, List.cons_append, List.append_nil, List.append_assoc, inR_i64, true_and, and_true, Int.toNat_natCast]
      try dsimp only [Ty.den, Ty.dflt]
      repeat' apply And.intro
      all_goals first | omega | assumption | trivial | exact hpre
    refine sw_seq ?_
    refine sw_region hP 4 [] rfl (by kernel_rfl) (fun _ => by kernel_rfl) (by first | trivial | (simp [conj]; done) | (simp [conj] at *; (try dsimp only [Ty.den, Ty.dflt] at *); omega)) ?_
    refine sw_ret ⟨.inl rfl, _, rfl, ?_⟩
    have hv : ptrI (ls, er) = ((0, 0, []), (wordsI nN (ls, er)).2) := by
      unfold ptrI
      rw [if_pos c1]
    rw [hv]
    simp [conj, bytesL, nN]
  · skip
    replace c1 : ¬ nextI nN (ls, er) = true := by have h : nextI nN (ls, er) = false := c1; rw [h]; decide
    refine sw_skip ?_
    refine sw_seq ?_
    refine sw_region hP 3 [] rfl (by kernel_rfl) (fun _ => by kernel_rfl) ?_ ?_
    · skip
      simp only [conj, List.nil_append, List.cons_append, List.append_nil, List.append_assoc, inR_i64, true_and, and_true, Int.toNat_natCast]
      try dsimp only [Ty.den, Ty.dflt]
      repeat' apply And.intro
      all_goals first | omega | assumption | trivial | exact hpre
    refine sw_seq ?_
    refine sw_seq ?_
    obtain ⟨q, hq⟩ : ∃ q, wordsI tPtr (ls, er) = q := ⟨_, rfl⟩
    have hqo : RdOk q.2 := hq ▸ (words_ok hpre).1
    have hql : (∀ w ∈ q.1, w.length ≤ 700) ∧ q.1.length ≤ 701 := hq ▸ words_len hpre
    refine sw_ent (st' := ⟨[.v false [.ptr ⟨0, 0, 0⟩ 0], .junk, .v false [.ptr ⟨1, 0, 0⟩ 0], .v false [.d (.sl .str) pF q.1], .junk, .junk, .junk, .junk, .junk, .junk, .junk, .junk, .junk, .junk, .junk, .junk, .junk, .junk, .junk, .junk, .junk, .junk, .junk, .junk, .junk, .junk, .junk, .junk, .junk, .junk, .junk, .junk, .junk, .junk, .junk, .junk, .junk, .junk, .junk, .junk, .junk, .junk, .junk, .junk, .junk, .junk, .junk, .junk, .junk, .junk, .junk, .junk, .junk, .junk, .junk, .junk, .junk, .junk, .junk, .junk, .junk, .junk, .junk], [(⟨0, 0, 0⟩, .var [.d (.sl .str) pF q.2.1, .d .er pF q.2.2]), (⟨1, 0, 0⟩, .var [.d TI pF 0, .d TI pF 0, .d (.sl T_Place) pF []])], 3, [[.v false [.ptr ⟨0, 0, 0⟩ 0]]]⟩) (ent_ok rfl ?_) ?_
    · skip
      simp [conj, ← hq, bytesL, tPtr]
    refine sw_region hP 4 [] rfl (by kernel_rfl) (fun _ => by kernel_rfl) (by first | trivial | (simp [conj]; done) | (simp [conj] at *; (try dsimp only [Ty.den, Ty.dflt] at *); omega)) ?_
    refine sw_cond rfl (fun c5 => ?_) (fun c5 => ?_)
    · skip
      replace c5 : q.1.length < 2 := by have h := c5; simp at h; omega
      refine sw_seq ?_
      refine sw_region hP 5 [] rfl (by kernel_rfl) (fun _ => by kernel_rfl) (by first | trivial | (simp [conj]; done) | (simp [conj] at *; (try dsimp only [Ty.den, Ty.dflt] at *); omega)) ?_
      refine sw_seq ?_
      refine sw_region hP 6 [] rfl (by kernel_rfl) (fun _ => by kernel_rfl) (by first | trivial | (simp [conj]; done) | (simp [conj] at *; (try dsimp only [Ty.den, Ty.dflt] at *); omega)) ?_
      refine sw_ret ⟨.inl rfl, _, rfl, ?_⟩
      have hv : ptrI (ls, er) = ((0, 0, []), (q.2.1, 1)) := by
        unfold ptrI
        simp only [hq]
        rw [if_neg c1, if_pos c5]
      simp [conj, hv]
    · skip
      replace c5 : ¬ q.1.length < 2 := by have h := c5; simp at h; omega
      have h0 : 0 < q.1.length := by omega
      have h1 : 1 < q.1.length := by omega
      have l0 := hql.1 _ (List.getElem_mem h0)
      have l1 := hql.1 _ (List.getElem_mem h1)
      have hl2 : (q.1.drop 2).length ≤ 701 := by rw [List.length_drop]; omega
      refine sw_skip ?_
      refine sw_seq ?_
      refine sw_region hP 5 [] rfl (by kernel_rfl) (fun _ => by kernel_rfl) ?_ ?_
      · skip
        simp [conj, List.getElem?_eq_getElem h0, List.getElem?_eq_getElem h1]
        repeat' apply And.intro
        all_goals first | omega | trivial | exact Int.ofNat_lt.2 h1 | exact Int.ofNat_lt.2 h0 | (show List.length q.1[0] ≤ 1000000; omega) | (show List.length q.1[1] ≤ 1000000; omega)
      refine sw_seq ?_
      refine sw_seq ?_
      refine sw_region hP 6 [] rfl (by kernel_rfl) (fun _ => by kernel_rfl) ?_ ?_
      · skip
        simp [conj]
        repeat' apply And.intro
        all_goals first | omega | trivial
      refine sw_block ?_
      refine sw_loop (ι := Nat × List Plc × RdS) (fun ⟨i, out, s⟩ => ⟨[.v false [.ptr ⟨0, 0, 0⟩ 0], .junk, .v false [.ptr ⟨1, 0, 0⟩ 0], .junk, .v false [.ptr ⟨5, 11, 0⟩ 0], .junk, .junk, .junk, .junk, .junk, .junk, .junk, .junk, .junk, .junk, .junk, .junk, .junk, .junk, .junk, .junk, .junk, .junk, .junk, .junk, .junk, .junk, .junk, .junk, .junk, .junk, .junk, .junk, .junk, .junk, .junk, .junk, .v false [.d (.sl .str) pF (q.1.drop 2)], sInt .i64 ((q.1.drop 2).length : Int), sInt .i64 (i : Int), .junk, .junk, .junk, .junk, .junk, .junk, .junk, .junk, .junk, .junk, .junk, .junk, .junk, .junk, .junk, .junk, .junk, .junk, .junk, .junk, .junk, .junk, .junk], [(⟨0, 0, 0⟩, .var [.d (.sl .str) pF s.1, .d .er pF s.2]), (⟨1, 0, 0⟩, .var [.d TI pF 0, .d TI pF 0, .d (.sl T_Place) pF []]), (⟨5, 11, 0⟩, .var [.d TI pF (atoN (q.1.getD 0 [])), .d TI pF (atoN (q.1.getD 1 [])), .own ⟨0, 9, 0⟩]), (⟨0, 9, 0⟩, .sl T_Place pF out)], 6, [[.v false [.ptr ⟨0, 0, 0⟩ 0]]]⟩) (fun ⟨i, out, s⟩ => (q.1.drop 2).length - i) (fun ⟨i, out, s⟩ => i ≤ (q.1.drop 2).length ∧ out.length = i ∧ plcsI ((q.1.drop 2).drop i) out s = (plcsI (q.1.drop 2) [] (numI (q.1.getD 1 []) (numI (q.1.getD 0 []) q.2).2).2)) (0, [], (numI (q.1.getD 1 []) (numI (q.1.getD 0 []) q.2).2).2) ⟨?_, ?_⟩ ?_
      · skip
        exact ⟨Nat.zero_le _, rfl, rfl⟩
      · refine ent_ok rfl ?_
        simp [conj, numI, List.getElem?_eq_getElem h0, List.getElem?_eq_getElem h1]
      · rintro ⟨i, out, s⟩ ⟨hi, hol, hgo⟩
        refine sw_seq ?_
        refine sw_region hP 7 [] rfl (by kernel_rfl) (fun _ => by kernel_rfl) (by first | trivial | (simp [conj]; done) | (simp [conj] at *; (try dsimp only [Ty.den, Ty.dflt] at *); omega)) ?_
        refine sw_seq ?_
        refine sw_cond rfl (fun c10 => ?_) (fun c10 => ?_)
        · skip
          have hlt : i < (q.1.drop 2).length := by have h := c10; simp at h; simp; omega
          have hwl : ((q.1.drop 2).getD i []).length ≤ 700 := by
            rw [List.getD_eq_getElem?_getD, List.getElem?_eq_getElem hlt]
            exact hql.1 _ (List.mem_of_mem_drop (List.getElem_mem hlt))
          have hcl := cut_len ((q.1.drop 2).getD i []) [46]
          refine sw_skip ?_
          refine sw_seq ?_
          refine sw_block ?_
          refine sw_seq ?_
          refine sw_region hP 8 [] rfl (by kernel_rfl) (fun _ => by kernel_rfl) ?_ ?_
          · skip
            simp [conj]
            repeat' apply And.intro
            all_goals first | omega | trivial | (simpa using hlt)
          refine sw_seq ?_
          refine sw_region hP 9 [] rfl (by kernel_rfl) (fun _ => by kernel_rfl) ?_ ?_
          · skip
            simp only [conj, List.nil_append, List.cons_append, List.append_nil, List.append_assoc, inR_i64, true_and, and_true, Int.toNat_natCast]
            try dsimp only [Ty.den, Ty.dflt]
            repeat' apply And.intro
            all_goals first | (show List.length ((q.1.drop 2).getD i []) ≤ 1000000; omega) | trivial
          refine sw_region hP 10 [] rfl (by kernel_rfl) (fun _ => by kernel_rfl) ?_ ?_
          · skip
            simp only [conj, List.nil_append, List.cons_append, List.append_nil, List.append_assoc, inR_i64, true_and, and_true, Int.toNat_natCast]
            try dsimp only [Ty.den, Ty.dflt]
            simp only [maxL]
            repeat' apply And.intro
            all_goals first | omega | (show List.length (Lib.cut ((q.1.drop 2).getD i []) [46]).1 ≤ 1000000; omega) | (show List.length (Lib.cut ((q.1.drop 2).getD i []) [46]).2.1 ≤ 1000000; omega) | trivial | (simp; omega)
          refine sw_region hP 11 [] rfl (by kernel_rfl) (fun _ => by kernel_rfl) (by first | trivial | (simp [conj]; done) | (simp [conj] at *; (try dsimp only [Ty.den, Ty.dflt] at *); omega)) ?_
          refine ⟨(i + 1, out ++ [(atoN (Lib.cut ((q.1.drop 2).getD i []) [46]).1, atoN (Lib.cut ((q.1.drop 2).getD i []) [46]).2.1)], (numI (Lib.cut ((q.1.drop 2).getD i []) [46]).2.1 (numI (Lib.cut ((q.1.drop 2).getD i []) [46]).1 s).2).2), ?_, ?_, ent_ok rfl ?_⟩
          · skip
            exact ⟨hlt, by simp [hol], plcs_next hlt hgo⟩
          · skip
            show (q.1.drop 2).length - (i + 1) < (q.1.drop 2).length - i
            omega
          · skip
            simp [conj, numI, bytesL]
            exact ⟨⟨rfl, rfl⟩, rfl⟩
        · skip
          obtain rfl : i = (q.1.drop 2).length := by have h := c10; simp at h; simp at hi; simp; omega
          replace hgo := plcs_end hgo
          refine sw_exit ?_
          refine sw_seq ?_
          refine sw_region hP 8 [] rfl (by kernel_rfl) (fun _ => by kernel_rfl) (by first | trivial | (simp [conj]; done) | (simp [conj] at *; (try dsimp only [Ty.den, Ty.dflt] at *); omega)) ?_
          refine sw_ret ⟨.inl rfl, _, rfl, ?_⟩
          have hv : ptrI (ls, er) = ((atoN (q.1.getD 0 []), atoN (q.1.getD 1 []), out), s) := by
            unfold ptrI
            simp only [hq]
            rw [if_neg c1, if_neg c5, ← hgo]
          simp [conj, hv]
end Go.Sx

namespace Go.Sx
open Go
set_option maxRecDepth 100000
set_option linter.unusedVariables false
set_option linter.unusedSimpArgs false
set_option maxHeartbeats 2000000

def cRootI : Ctr := ⟨24, [.ref T_rootReader pF], fun x => RdOk x.1, fun x => (.v true [.d TI pF (rootI x.1).1.1, .own ⟨1, 0, 0⟩], [(⟨0, 0, 0⟩, .var [.d (.sl .str) pF (rootI x.1).2.1, .d .er pF (rootI x.1).2.2]), (⟨1, 0, 0⟩, .sl T_Vol (.all .w) (rootI x.1).1.2)])⟩
theorem cRootI_ok : CtrOk Proofs.Tryz.prog cRootI := by
  have hP := ((((((Prg.none ttok mtok).and cNextI_ok).and cWordsI_ok).and cOnlyI_ok).and cNumI_ok).and cPtrI_ok)
  refine ctr_of_body hP cRootI (fn := Proofs.Tryz.f24) (rts := [.cell 2 25]) Proofs.Tryz.func24 rfl (by kernel_rfl) rfl rfl ?_
  rintro ⟨⟨(ls : List Str), (er : Nat)⟩, ⟨⟩⟩ _ hpre
  try dsimp only [Ty.den, Mode.den, mdens] at hpre
  refine ⟨rfl, ?_⟩
  replace hpre : RdOk (ls, er) := hpre
  obtain ⟨x1, x2, _⟩ := words_ok (f := nR) hpre
  obtain ⟨y1, y2⟩ := only_ok (ws := (wordsI nR (ls, er)).1) x1
  obtain ⟨z1, z2⟩ := num_ok (f := (onlyI (wordsI nR (ls, er)).1 (wordsI nR (ls, er)).2).1) y1
  have yl := only_len (s := (wordsI nR (ls, er)).2) (words_len (f := nR) hpre).1
  have hll : ls.length ≤ 701 := hpre.2
  refine sw_seq ?_
  refine sw_region hP 1 [] rfl (by kernel_rfl) (fun _ => by kernel_rfl) (by first | trivial | (simp [conj]; done) | (simp [conj] at *; (try dsimp only [Ty.den, Ty.dflt] at *); omega)) ?_
  refine sw_seq ?_
  refine sw_region hP 2 [] rfl (by kernel_rfl) (fun _ => by kernel_rfl) ?_ ?_
  · skip
    simp only [conj, List.nil_append, List.cons_append, List.append_nil, List.append_assoc, inR_i64, true_and, and_true, Int.toNat_natCast]
    try dsimp only [Ty.den, Ty.dflt]
    repeat' apply And.intro
    all_goals first | omega | assumption | trivial | exact hpre | exact hs | exact (words_ok hpre).1 | exact (words_ok hs).1 | exact hu | (simp [nR]; done) | (simp [nV]; done) | (show List.length (onlyI (wordsI nR (ls, er)).1 (wordsI nR (ls, er)).2).1 ≤ 1000000; omega)
  refine sw_seq ?_
  refine sw_block ?_
  refine sw_loop (ι := Nat × List Vol_ × RdS) (fun ⟨n, vs, s⟩ => ⟨[.v false [.ptr ⟨0, 0, 0⟩ 0], .junk, .v false [.ptr ⟨1, 0, 0⟩ 0], .v false [.ptr ⟨2, 7, 0⟩ 0], .junk, .junk, .junk, .junk, .junk, .junk, .junk, .junk, .junk, .junk, .junk, .junk, .junk, .junk, .junk, .junk, .junk, .junk, .junk, .junk, .junk, .junk, .junk, .junk, .junk, .junk, .junk, .junk, .junk, .junk, .junk, .junk, .junk, .junk, .junk, .junk, .junk, .junk, .junk], [(⟨0, 0, 0⟩, .var [.d (.sl .str) pF s.1, .d .er pF s.2]), (⟨1, 0, 0⟩, .var [.d TI pF 0, .d (.sl T_Vol) pF []]), (⟨2, 7, 0⟩, .var [.d TI pF (numI (onlyI (wordsI nR (ls, er)).1 (wordsI nR (ls, er)).2).1 (onlyI (wordsI nR (ls, er)).1 (wordsI nR (ls, er)).2).2).1, .own ⟨0, 9, 0⟩]), (⟨0, 9, 0⟩, .sl T_Vol (.all .w) vs)], 2, [[.v false [.ptr ⟨0, 0, 0⟩ 0]]]⟩) (fun ⟨n, vs, s⟩ => n) (fun ⟨n, vs, s⟩ => RdOk s ∧ s.1.length ≤ n ∧ vs.length + n ≤ 701 ∧ volsI n vs s = (volsI ls.length [] (numI (onlyI (wordsI nR (ls, er)).1 (wordsI nR (ls, er)).2).1 (onlyI (wordsI nR (ls, er)).1 (wordsI nR (ls, er)).2).2).2)) (ls.length, [], (numI (onlyI (wordsI nR (ls, er)).1 (wordsI nR (ls, er)).2).1 (onlyI (wordsI nR (ls, er)).1 (wordsI nR (ls, er)).2).2).2) ⟨?_, ?_⟩ ?_
  · skip
    exact ⟨z1, by show (numI (onlyI (wordsI nR (ls, er)).1 (wordsI nR (ls, er)).2).1 (onlyI (wordsI nR (ls, er)).1 (wordsI nR (ls, er)).2).2).2.1.length ≤ ls.length; rw [z2, y2]; exact x2, by show 0 + ls.length ≤ 701; omega, rfl⟩
  · refine ent_ok rfl ?_
    simp [conj, bytesL, nR]
    try rfl
  · rintro ⟨n, vs, s⟩ ⟨hs, hsl, hvl, hgo⟩
    refine sw_seq ?_
    refine sw_seq ?_
    refine sw_dec hP 3 [] 5 rfl (fun g2_5 => ?_) (fun g2_5 => ?_)
    · skip
      have he : s.2 = 0 := Nat.eq_of_beq_eq_true g2_5
      refine sw_region hP 3 [(5, true)] rfl (by kernel_rfl) (fun _ => by kernel_rfl) ?_ ?_
      · skip
        simp only [conj, List.nil_append, List.cons_append, List.append_nil, List.append_assoc, inR_i64, true_and, and_true, Int.toNat_natCast]
        try dsimp only [Ty.den, Ty.dflt]
        repeat' apply And.intro
        all_goals first | omega | assumption | trivial | exact hpre | exact hs | exact (words_ok hpre).1 | exact (words_ok hs).1 | exact hu | (simp [nR]; done) | (simp [nV]; done) | (show 3 ≤ 1000; decide) | exact g2_5
      refine sw_cond rfl (fun c2 => ?_) (fun c2 => ?_)
      · skip
        have hnx : nextI nV s = true := c2
        have hp := nextI_pos hnx
        obtain ⟨m, rfl⟩ : ∃ m, n = m + 1 := ⟨n - 1, by omega⟩
        simp only [volsI] at hgo
        rw [if_pos ⟨he, hnx⟩] at hgo
        obtain ⟨w1, w2, w3⟩ := words_ok (f := nV) hs
        have w4 := w3 hp
        have wl := words_len (f := nV) hs
        obtain ⟨o1, o2⟩ := only_ok (ws := (wordsI nV s).1) w1
        have ol := only_len (s := (wordsI nV s).2) wl.1
        refine sw_skip ?_
        refine sw_block ?_
        refine sw_seq ?_
        refine sw_region hP 4 [] rfl (by kernel_rfl) (fun _ => by kernel_rfl) ?_ ?_
        · skip
          simp only [conj, List.nil_append, List.cons_append, List.append_nil, List.append_assoc, inR_i64, true_and, and_true, Int.toNat_natCast]
          try dsimp only [Ty.den, Ty.dflt]
          repeat' apply And.intro
          all_goals first | omega | assumption | trivial | exact hpre | exact hs | exact (words_ok hpre).1 | exact (words_ok hs).1 | exact hu | (simp [nR]; done) | (simp [nV]; done)
        refine sw_seq ?_
        refine sw_seq ?_
        refine sw_region hP 5 [] rfl (by kernel_rfl) (fun _ => by kernel_rfl) (by first | trivial | (simp [conj]; done) | (simp [conj] at *; (try dsimp only [Ty.den, Ty.dflt] at *); omega)) ?_
        refine sw_block ?_
        refine sw_loop (ι := Nat × List Ptr_ × RdS) (fun ⟨k, bl, u⟩ => ⟨[.v false [.ptr ⟨0, 0, 0⟩ 0], .junk, .v false [.ptr ⟨1, 0, 0⟩ 0], .v false [.ptr ⟨2, 7, 0⟩ 0], .v false [.ptr ⟨4, 5, 0⟩ 0], .junk, .junk, .junk, .junk, .junk, .junk, .junk, .junk, .junk, .junk, .junk, .junk, .junk, .junk, .junk, .junk, .junk, .junk, .junk, .junk, .junk, sInt .i64 (k : Int), .junk, .junk, .junk, .junk, .junk, .junk, .junk, .junk, .junk, .junk, .junk, .junk, .junk, .junk, .junk, .junk], [(⟨0, 0, 0⟩, .var [.d (.sl .str) pF u.1, .d .er pF u.2]), (⟨1, 0, 0⟩, .var [.d TI pF 0, .d (.sl T_Vol) pF []]), (⟨2, 7, 0⟩, .var [.d TI pF (numI (onlyI (wordsI nR (ls, er)).1 (wordsI nR (ls, er)).2).1 (onlyI (wordsI nR (ls, er)).1 (wordsI nR (ls, er)).2).2).1, .own ⟨0, 9, 0⟩]), (⟨0, 9, 0⟩, .sl T_Vol (.all .w) vs), (⟨4, 5, 0⟩, .var [.d .str pF (onlyI (wordsI nV s).1 (wordsI nV s).2).1, .own ⟨0, 8, 0⟩]), (⟨0, 8, 0⟩, .sl T_Ptr (.all .w) bl)], 5, [[.v false [.ptr ⟨0, 0, 0⟩ 0]]]⟩) (fun ⟨k, bl, u⟩ => 3 - k) (fun ⟨k, bl, u⟩ => k ≤ 3 ∧ bl.length = k ∧ RdOk u ∧ u.1.length ≤ (onlyI (wordsI nV s).1 (wordsI nV s).2).2.1.length ∧ blksI (3 - k) bl u = (blksI 3 [] (onlyI (wordsI nV s).1 (wordsI nV s).2).2)) (0, [], (onlyI (wordsI nV s).1 (wordsI nV s).2).2) ⟨?_, ?_⟩ ?_
        · skip
          exact ⟨Nat.zero_le _, rfl, o1, Nat.le_refl _, rfl⟩
        · refine ent_ok rfl ?_
          simp [conj, bytesL, nV]
          try rfl
        · rintro ⟨k, bl, u⟩ ⟨hk, hbl, hu, hul, hgk⟩
          refine sw_seq ?_
          refine sw_region hP 6 [] rfl (by kernel_rfl) (fun _ => by kernel_rfl) (by first | trivial | (simp [conj]; done) | (simp [conj] at *; (try dsimp only [Ty.den, Ty.dflt] at *); omega)) ?_
          refine sw_seq ?_
          refine sw_cond rfl (fun c5 => ?_) (fun c5 => ?_)
          · skip
            have hk3 : k < 3 := by have h := c5; simp at h; omega
            obtain ⟨j, hj⟩ : ∃ j, 3 - k = j + 1 := ⟨2 - k, by omega⟩
            have hj2 : 3 - (k + 1) = j := by omega
            rw [hj] at hgk
            simp only [blksI] at hgk
            obtain ⟨p1, p2⟩ := ptrI_ok hu
            refine sw_skip ?_
            refine sw_seq ?_
            refine sw_block ?_
            refine sw_region hP 7 [] rfl (by kernel_rfl) (fun _ => by kernel_rfl) ?_ ?_
            · skip
              simp only [conj, List.nil_append, List.cons_append, List.append_nil, List.append_assoc, inR_i64, true_and, and_true, Int.toNat_natCast]
              try dsimp only [Ty.den, Ty.dflt]
              repeat' apply And.intro
              all_goals first | omega | assumption | trivial | exact hpre | exact hs | exact (words_ok hpre).1 | exact (words_ok hs).1 | exact hu | (simp [nR]; done) | (simp [nV]; done) | (simp only [maxL]; simp; omega)
            refine sw_region hP 8 [] rfl (by kernel_rfl) (fun _ => by kernel_rfl) (by first | trivial | (simp [conj]; done) | (simp [conj] at *; (try dsimp only [Ty.den, Ty.dflt] at *); omega)) ?_
            refine ⟨(k + 1, bl ++ [(ptrI u).1], (ptrI u).2), ?_, ?_, ent_ok rfl ?_⟩
            · skip
              exact ⟨hk3, by simp [hbl], p1, Nat.le_trans p2 hul, by show blksI (3 - (k + 1)) _ _ = _; rw [hj2]; exact hgk⟩
            · skip
              show 3 - (k + 1) < 3 - k
              omega
            · skip
              simp [conj]
          · skip
            obtain rfl : k = 3 := by have h := c5; simp at h; omega
            replace hgk : (bl, u) = (blksI 3 [] (onlyI (wordsI nV s).1 (wordsI nV s).2).2) := hgk
            rw [← hgk] at hgo
            refine sw_exit ?_
            refine sw_region hP 7 [] rfl (by kernel_rfl) (fun _ => by kernel_rfl) ?_ ?_
            · skip
              simp only [conj, List.nil_append, List.cons_append, List.append_nil, List.append_assoc, inR_i64, true_and, and_true, Int.toNat_natCast]
              try dsimp only [Ty.den, Ty.dflt]
              repeat' apply And.intro
              all_goals first | omega | assumption | trivial | exact hpre | exact hs | exact (words_ok hpre).1 | exact (words_ok hs).1 | exact hu | (simp [nR]; done) | (simp [nV]; done) | (simp only [maxL]; simp; omega)
            refine ⟨(m, vs ++ [((onlyI (wordsI nV s).1 (wordsI nV s).2).1, bl)], u), ?_, ?_, ent_ok rfl ?_⟩
            · skip
              exact ⟨hu, by show u.1.length ≤ m; rw [o2] at hul; omega, by simp; omega, hgo⟩
            · skip
              show m < m + 1
              omega
            · skip
              simp [conj, bytesL, nV]
      · skip
        have he2 : ¬ (s.2 = 0 ∧ nextI nV s = true) := by
          intro h
          have h2 : nextI nV s = false := c2
          rw [h.2] at h2
          cases h2
        rw [volsI_stop he2] at hgo
        refine sw_exit ?_
        refine sw_seq ?_
        refine sw_region hP 4 [] rfl (by kernel_rfl) (fun _ => by kernel_rfl) (by first | trivial | (simp [conj]; done) | (simp [conj] at *; (try dsimp only [Ty.den, Ty.dflt] at *); omega)) ?_
        refine sw_ret ⟨.inl rfl, _, rfl, ?_⟩
        have hv : rootI (ls, er) = (((numI (onlyI (wordsI nR (ls, er)).1 (wordsI nR (ls, er)).2).1 (onlyI (wordsI nR (ls, er)).1 (wordsI nR (ls, er)).2).2).1, vs), s) := by
          show (((numI (onlyI (wordsI nR (ls, er)).1 (wordsI nR (ls, er)).2).1 (onlyI (wordsI nR (ls, er)).1 (wordsI nR (ls, er)).2).2).1, (volsI ls.length [] (numI (onlyI (wordsI nR (ls, er)).1 (wordsI nR (ls, er)).2).1 (onlyI (wordsI nR (ls, er)).1 (wordsI nR (ls, er)).2).2).2).1), (volsI ls.length [] (numI (onlyI (wordsI nR (ls, er)).1 (wordsI nR (ls, er)).2).1 (onlyI (wordsI nR (ls, er)).1 (wordsI nR (ls, er)).2).2).2).2) = _
          rw [← hgo]
        simp [conj, hv]
    · skip
      have he : ¬ (s.2 = 0 ∧ nextI nV s = true) := by
        intro h
        have h2 : Nat.beq s.2 0 = false := g2_5
        rw [h.1] at h2
        cases h2
      rw [volsI_stop he] at hgo
      refine sw_region hP 3 [(5, false)] rfl (by kernel_rfl) (fun _ => by kernel_rfl) ?_ ?_
      · skip
        simp only [conj, List.nil_append, List.cons_append, List.append_nil, List.append_assoc, inR_i64, true_and, and_true, Int.toNat_natCast]
        try dsimp only [Ty.den, Ty.dflt]
        repeat' apply And.intro
        all_goals first | omega | assumption | trivial | exact hpre | exact hs | exact (words_ok hpre).1 | exact (words_ok hs).1 | exact hu | (simp [nR]; done) | (simp [nV]; done) | (show 3 ≤ 1000; decide) | exact g2_5
      refine sw_condF rfl ?_
      refine sw_exit ?_
      refine sw_seq ?_
      refine sw_region hP 4 [] rfl (by kernel_rfl) (fun _ => by kernel_rfl) (by first | trivial | (simp [conj]; done) | (simp [conj] at *; (try dsimp only [Ty.den, Ty.dflt] at *); omega)) ?_
      refine sw_ret ⟨.inl rfl, _, rfl, ?_⟩
      have hv : rootI (ls, er) = (((numI (onlyI (wordsI nR (ls, er)).1 (wordsI nR (ls, er)).2).1 (onlyI (wordsI nR (ls, er)).1 (wordsI nR (ls, er)).2).2).1, vs), s) := by
        show (((numI (onlyI (wordsI nR (ls, er)).1 (wordsI nR (ls, er)).2).1 (onlyI (wordsI nR (ls, er)).1 (wordsI nR (ls, er)).2).2).1, (volsI ls.length [] (numI (onlyI (wordsI nR (ls, er)).1 (wordsI nR (ls, er)).2).1 (onlyI (wordsI nR (ls, er)).1 (wordsI nR (ls, er)).2).2).2).1), (volsI ls.length [] (numI (onlyI (wordsI nR (ls, er)).1 (wordsI nR (ls, er)).2).1 (onlyI (wordsI nR (ls, er)).1 (wordsI nR (ls, er)).2).2).2).2) = _
        rw [← hgo]
      simp [conj, hv]
end Go.Sx

namespace Go.Sx
open Go
set_option maxRecDepth 100000
set_option linter.unusedVariables false
set_option linter.unusedSimpArgs false
set_option maxHeartbeats 2000000

def cLine : Ctr := ⟨41, [.val true T_Ptr (.all .b)], fun x => ∃ d, ptrV d x.1 = true, fun x => (sStr (lineV x.1), [])⟩
theorem cLine_ok : CtrOk Proofs.Tryz.prog cLine := by
  have hP := ((((Prg.none ttok mtok).and cNone_ok).and cItoa_ok).and cJoin_ok)
  refine ctr_of_body hP cLine (fn := Proofs.Tryz.f41) (rts := [.tmp 2]) Proofs.Tryz.func41 rfl (by kernel_rfl) rfl rfl ?_
  rintro ⟨⟨(sz : Int), (sm : Int), (pl : List Plc)⟩, ⟨⟩⟩ ⟨⟨hz0, hm0, hpl0⟩, _⟩ ⟨d, hpre⟩
  try dsimp only [Ty.den, Mode.den, mdens] at d
  try dsimp only [Ty.den, Mode.den, mdens] at hpre
  refine ⟨rfl, ?_⟩
  replace hpre : ptrV d ((sz, sm, pl) : Ptr_) = true := hpre
  have hl4 : pl.length ≤ 4 := ptrV_len hpre
  have hi1 : (itoaV sz).length ≤ 21 := itoaV_len hz0
  have hi2 : (itoaV sm).length ≤ 21 := itoaV_len hm0
  refine sw_seq ?_
  refine sw_region hP 1 [] rfl (by kernel_rfl) (fun _ => by kernel_rfl) (by first | trivial | (simp [conj]; done) | (simp [conj] at *; (try dsimp only [Ty.den, Ty.dflt] at *); omega)) ?_
  refine sw_seq ?_
  refine sw_seq ?_
  refine sw_region hP 2 [] rfl (by kernel_rfl) (fun _ => by kernel_rfl) ?_ ?_
  · skip
    simp only [conj, List.nil_append, List.cons_append, List.append_nil, List.append_assoc, inR_i64, true_and, and_true, Int.toNat_natCast]
    try dsimp only [Ty.den, Ty.dflt]
    repeat' apply And.intro
    all_goals first | trivial | assumption | omega | exact decide_eq_true ‹_› | exact decide_eq_false ‹_› | (simp [*]; done)
  refine sw_cond rfl (fun c1 => ?_) (fun c1 => ?_)
  · skip
    replace c1 : noneV ((sz, sm, pl) : Ptr_) = true := c1
    refine sw_seq ?_
    refine sw_region hP 3 [] rfl (by kernel_rfl) (fun _ => by kernel_rfl) (by first | trivial | (simp [conj]; done) | (simp [conj] at *; (try dsimp only [Ty.den, Ty.dflt] at *); omega)) ?_
    refine sw_ret ⟨.inl rfl, _, rfl, ?_⟩
    simp [conj, lineV, c1]
    try rfl
  · skip
    replace c1 : noneV ((sz, sm, pl) : Ptr_) = false := c1
    have hjl : (Lib.join (wordsV ((sz, sm, pl) : Ptr_)) [32]).length ≤ 290 := join_len hz0 hm0 hpl0.2 hl4
    refine sw_skip ?_
    refine sw_seq ?_
    refine sw_region hP 3 [] rfl (by kernel_rfl) (fun _ => by kernel_rfl) ?_ ?_
    · skip
      simp only [conj, List.nil_append, List.cons_append, List.append_nil, List.append_assoc, inR_i64, true_and, and_true, Int.toNat_natCast]
      try dsimp only [Ty.den, Ty.dflt]
      repeat' apply And.intro
      all_goals first | trivial | assumption | omega | exact decide_eq_true ‹_› | exact decide_eq_false ‹_› | (simp [*]; done)
    refine sw_seq ?_
    refine sw_seq ?_
    refine sw_region hP 4 [] rfl (by kernel_rfl) (fun _ => by kernel_rfl) (by first | trivial | (simp [conj]; done) | (simp [conj] at *; (try dsimp only [Ty.den, Ty.dflt] at *); omega)) ?_
    refine sw_block ?_
    refine sw_loop (ι := Nat) (fun i => ⟨[.junk, .v false [.ptr ⟨1, 0, 0⟩ 0], .junk, .v false [.own ⟨0, 9, 0⟩], .junk, .junk, .junk, .junk, .junk, .junk, .junk, .junk, .junk, .junk, .junk, .junk, .v false [.d (.sl T_Place) (.all .b) pl], sInt .i64 (pl.length : Int), sInt .i64 (i : Int), .junk, .junk, .junk, .junk, .junk, .junk, .junk, .junk, .junk, .junk, .junk, .junk, .junk, .junk, .junk, .junk, .junk, .junk], [(⟨1, 0, 0⟩, .var [.d TI pF sz, .d TI pF sm, .d (.sl T_Place) (.all .b) pl]), (⟨0, 9, 0⟩, .sl .str pF ([tPtr, itoaV sz, itoaV sm] ++ (pl.take i).map wordV))], 4, []⟩) (fun i => pl.length - i) (fun i => i ≤ pl.length) 0 ⟨?_, ?_⟩ ?_
    · skip
      exact Nat.zero_le _
    · refine ent_ok rfl ?_
      simp [conj, bytesL]
      try rfl
    · rintro i hi
      refine sw_seq ?_
      refine sw_region hP 5 [] rfl (by kernel_rfl) (fun _ => by kernel_rfl) (by first | trivial | (simp [conj]; done) | (simp [conj] at *; (try dsimp only [Ty.den, Ty.dflt] at *); omega)) ?_
      refine sw_seq ?_
      refine sw_cond rfl (fun c5 => ?_) (fun c5 => ?_)
      · skip
        have hlt : i < pl.length := by simpa using c5
        have hin := hpl0.2 _ (List.getElem_mem hlt)
        have hi3 : (itoaV pl[i].1).length ≤ 21 := itoaV_len hin.1
        have hi4 : (itoaV pl[i].2).length ≤ 21 := itoaV_len hin.2
        refine sw_skip ?_
        refine sw_seq ?_
        refine sw_block ?_
        refine sw_seq ?_
        refine sw_region hP 6 [] rfl (by kernel_rfl) (fun _ => by kernel_rfl) ?_ ?_
        · skip
          simp [conj, List.getElem?_eq_getElem hlt]
          exact hlt
        refine sw_region hP 7 [] rfl (by kernel_rfl) (fun _ => by kernel_rfl) ?_ ?_
        · skip
          simp [conj, maxL, bytesL, List.getElem?_eq_getElem hlt]
          repeat' apply And.intro
          all_goals first | omega | trivial
        refine sw_region hP 8 [] rfl (by kernel_rfl) (fun _ => by kernel_rfl) (by first | trivial | (simp [conj]; done) | (simp [conj] at *; (try dsimp only [Ty.den, Ty.dflt] at *); omega)) ?_
        refine ⟨i + 1, ?_, ?_, ent_ok rfl ?_⟩
        · skip
          exact hlt
        · skip
          omega
        · skip
          simp [conj, bytesL, List.getElem?_eq_getElem hlt]
          exact words_next hlt
      · skip
        obtain rfl : i = pl.length := by simp at c5; omega
        refine sw_exit ?_
        refine sw_seq ?_
        refine sw_region hP 6 [] rfl (by kernel_rfl) (fun _ => by kernel_rfl) ?_ ?_
        · skip
          simp [conj, maxL, bytesL]
          exact ⟨by show (Lib.join (wordsV ((sz, sm, pl) : Ptr_)) [32]).length ≤ 1000000; omega, by show (Lib.join (wordsV ((sz, sm, pl) : Ptr_)) [32]).length ≤ _; omega⟩
        refine sw_ret ⟨.inl rfl, _, rfl, ?_⟩
        simp [conj, lineV, c1]
        try rfl

def cText_ : Ctr := ⟨18, [.val true T_Root (.all .b)], fun x => ∃ d, rootV d x.1 = true, fun x => (sStr (sealV (bodyV x.1)), [])⟩
theorem cText__ok : CtrOk Proofs.Tryz.prog cText_ := by
  have hP := ((((Prg.none ttok mtok).and cItoa_ok).and cLine_ok).and cWeigh_ok)
  refine ctr_of_body hP cText_ (fn := Proofs.Tryz.f18) (rts := [.tmp 2]) Proofs.Tryz.func18 rfl (by kernel_rfl) rfl rfl ?_
  rintro ⟨⟨(tg : Int), (l : List Vol_)⟩, ⟨⟩⟩ ⟨⟨ht0, hl0⟩, _⟩ ⟨d, hpre⟩
  try dsimp only [Ty.den, Mode.den, mdens] at d
  try dsimp only [Ty.den, Mode.den, mdens] at hpre
  refine ⟨rfl, ?_⟩
  replace hpre : rootV d ((tg, l) : Root_) = true := hpre
  have hs := rootV_small hpre
  have hb := hs.1
  have hi1 : (itoaV tg).length ≤ 21 := itoaV_len ht0
  have hml : l.length ≤ 4 := hs.1
  refine sw_seq ?_
  refine sw_region hP 1 [] rfl (by kernel_rfl) (fun _ => by kernel_rfl) (by first | trivial | (simp [conj]; done) | (simp [conj] at *; (try dsimp only [Ty.den, Ty.dflt] at *); omega)) ?_
  refine sw_seq ?_
  refine sw_region hP 2 [] rfl (by kernel_rfl) (fun _ => by kernel_rfl) ?_ ?_
  · skip
    simp [conj, maxL, bytesL]
    repeat' apply And.intro
    all_goals first | omega | trivial
  refine sw_seq ?_
  refine sw_seq ?_
  refine sw_region hP 3 [] rfl (by kernel_rfl) (fun _ => by kernel_rfl) (by first | trivial | (simp [conj]; done) | (simp [conj] at *; (try dsimp only [Ty.den, Ty.dflt] at *); omega)) ?_
  refine sw_block ?_
  refine sw_loop (ι := Nat × Str) (fun ⟨i, o⟩ => ⟨[.junk, .v false [.ptr ⟨1, 0, 0⟩ 0], .junk, sStr o, .junk, .junk, .junk, .junk, .junk, .junk, .junk, .junk, .junk, .junk, .v false [.d (.sl T_Vol) (.all .b) l], sInt .i64 (l.length : Int), sInt .i64 (i : Int), .junk, .junk, .junk, .junk, .junk, .junk, .junk, .junk, .junk, .junk, .junk, .junk, .junk, .junk, .junk, .junk, .junk, .junk, .junk, .junk, .junk, .junk, .junk, .junk, .junk, .junk, .junk, .junk, .junk], [(⟨1, 0, 0⟩, .var [.d TI pF tg, .d (.sl T_Vol) (.all .b) l])], 3, []⟩) (fun ⟨i, o⟩ => l.length - i) (fun ⟨i, o⟩ => i ≤ l.length ∧ o ++ catGo volT (l.drop i) = bodyV ((tg, l) : Root_) ∧ o.length ≤ 27 + i * 1000) (0, tRoot ++ itoaV tg ++ [10]) ⟨?_, ?_⟩ ?_
  · skip
    exact ⟨Nat.zero_le _, rfl, by simp [tRoot]; omega⟩
  · refine ent_ok rfl ?_
    simp [conj, bytesL]
    try rfl
  · rintro ⟨i, o⟩ ⟨hi, hgo, hol⟩
    refine sw_seq ?_
    refine sw_region hP 4 [] rfl (by kernel_rfl) (fun _ => by kernel_rfl) (by first | trivial | (simp [conj]; done) | (simp [conj] at *; (try dsimp only [Ty.den, Ty.dflt] at *); omega)) ?_
    refine sw_seq ?_
    refine sw_cond rfl (fun c3 => ?_) (fun c3 => ?_)
    · skip
      have hlt : i < l.length := by simpa using c3
      obtain ⟨hn3, hb3, hpv⟩ := hs.2 _ (List.getElem_mem hlt)
      refine sw_skip ?_
      refine sw_seq ?_
      refine sw_block ?_
      refine sw_seq ?_
      refine sw_region hP 5 [] rfl (by kernel_rfl) (fun _ => by kernel_rfl) ?_ ?_
      · skip
        simp [conj, List.getElem?_eq_getElem hlt]
        exact hlt
      refine sw_seq ?_
      refine sw_region hP 6 [] rfl (by kernel_rfl) (fun _ => by kernel_rfl) ?_ ?_
      · skip
        simp [conj, maxL, bytesL, List.getElem?_eq_getElem hlt]
        repeat' apply And.intro
        all_goals first | omega | trivial
      refine sw_seq ?_
      refine sw_region hP 7 [] rfl (by kernel_rfl) (fun _ => by kernel_rfl) (by first | trivial | (simp [conj]; done) | (simp [conj] at *; (try dsimp only [Ty.den, Ty.dflt] at *); omega)) ?_
      refine sw_block ?_
      refine sw_loop (ι := Nat × Str) (fun ⟨j, o⟩ => ⟨[.junk, .v false [.ptr ⟨1, 0, 0⟩ 0], .junk, sStr o, .junk, .v false [.ptr ⟨0, 9, 2⟩ 0], .junk, .junk, .junk, .junk, .junk, .junk, .junk, .junk, .v false [.d (.sl T_Vol) (.all .b) l], sInt .i64 (l.length : Int), sInt .i64 (i : Int), .junk, .junk, .junk, .junk, .junk, .junk, .junk, .junk, .junk, .junk, .v false [.d (.sl T_Ptr) (.all .b) l[i].2], sInt .i64 (l[i].2.length : Int), sInt .i64 (j : Int), .junk, .junk, .junk, .junk, .junk, .junk, .junk, .junk, .junk, .junk, .junk, .junk, .junk, .junk, .junk, .junk], [(⟨1, 0, 0⟩, .var [.d TI pF tg, .d (.sl T_Vol) (.all .b) l]), (⟨0, 9, 2⟩, .var [.d .str pF l[i].1, .d (.sl T_Ptr) (.all .b) l[i].2])], 7, []⟩) (fun ⟨j, o⟩ => l[i].2.length - j) (fun ⟨j, o⟩ => j ≤ l[i].2.length ∧ (o ++ catGo lineV (l[i].2.drop j)) ++ catGo volT (l.drop (i + 1)) = bodyV ((tg, l) : Root_) ∧ o.length ≤ 27 + i * 1000 + 8 + j * 300) (0, o ++ (tVol ++ l[i].1 ++ [10])) ⟨?_, ?_⟩ ?_
      · skip
        exact ⟨Nat.zero_le _, vol_in hlt hgo, by simp [tVol]; omega⟩
      · refine ent_ok rfl ?_
        simp [conj, bytesL, List.getElem?_eq_getElem hlt]
        try rfl
      · rintro ⟨j, o⟩ ⟨hj, hgo2, hol2⟩
        refine sw_seq ?_
        refine sw_region hP 8 [] rfl (by kernel_rfl) (fun _ => by kernel_rfl) (by first | trivial | (simp [conj]; done) | (simp [conj] at *; (try dsimp only [Ty.den, Ty.dflt] at *); omega)) ?_
        refine sw_seq ?_
        refine sw_cond rfl (fun c7 => ?_) (fun c7 => ?_)
        · skip
          have hlj : j < l[i].2.length := by simpa using c7
          have hpj := hpv _ (List.getElem_mem hlj)
          obtain ⟨dd, hpd⟩ := hpj
          have hok := (hl0.2 _ (List.getElem_mem hlt)).2.2 _ (List.getElem_mem hlj)
          have hll := lineV_len' hok.1 hok.2.1 hok.2.2.2 hpd
          refine sw_skip ?_
          refine sw_seq ?_
          refine sw_block ?_
          refine sw_seq ?_
          refine sw_region hP 9 [] rfl (by kernel_rfl) (fun _ => by kernel_rfl) ?_ ?_
          · skip
            simp [conj, List.getElem?_eq_getElem hlj]
            exact hlj
          refine sw_region hP 10 [] rfl (by kernel_rfl) (fun _ => by kernel_rfl) ?_ ?_
          · skip
            simp [conj, maxL, List.getElem?_eq_getElem hlj]
            exact ⟨⟨dd, hpd⟩, by have h : List.length (lineV l[i].2[j]) ≤ 300 := hll; show o.length + List.length (lineV l[i].2[j]) ≤ 140737488355328; omega⟩
          refine sw_region hP 11 [] rfl (by kernel_rfl) (fun _ => by kernel_rfl) (by first | trivial | (simp [conj]; done) | (simp [conj] at *; (try dsimp only [Ty.den, Ty.dflt] at *); omega)) ?_
          refine ⟨(j + 1, o ++ lineV l[i].2[j]), ?_, ?_, ent_ok rfl ?_⟩
          · skip
            exact ⟨hlj, vol_line hlj hgo2, by simp; omega⟩
          · skip
            show l[i].2.length - (j + 1) < l[i].2.length - j
            omega
          · skip
            simp [conj, List.getElem?_eq_getElem hlj]
        · skip
          obtain rfl : j = l[i].2.length := by simp at c7; omega
          refine sw_exit ?_
          refine sw_region hP 9 [] rfl (by kernel_rfl) (fun _ => by kernel_rfl) (by first | trivial | (simp [conj]; done) | (simp [conj] at *; (try dsimp only [Ty.den, Ty.dflt] at *); omega)) ?_
          refine ⟨(i + 1, o), ?_, ?_, ent_ok rfl ?_⟩
          · skip
            exact ⟨hlt, vol_out hgo2, by show o.length ≤ 27 + (i + 1) * 1000; omega⟩
          · skip
            show l.length - (i + 1) < l.length - i
            omega
          · skip
            simp [conj]
    · skip
      obtain rfl : i = l.length := by simp at c3; omega
      have hv := cat_end hgo
      subst hv
      have hw := weighV_bd (s := bodyV ((tg, l) : Root_)) (by omega)
      have hi2 : (itoaV (weighV (bodyV ((tg, l) : Root_)))).length ≤ 21 := itoaV_len (by rw [inR_i64]; omega)
      refine sw_exit ?_
      refine sw_seq ?_
      refine sw_region hP 5 [] rfl (by kernel_rfl) (fun _ => by kernel_rfl) ?_ ?_
      · skip
        simp [conj, maxL, bytesL]
        repeat' apply And.intro
        all_goals first | omega | (show List.length (bodyV ((tg, l) : Root_)) ≤ 1000000; omega) | trivial
      refine sw_ret ⟨.inl rfl, _, rfl, ?_⟩
      simp [conj, sealV, bytesL]
      rfl

def cRootText : Ctr := ⟨7, [.val false TI pF, .val true T_Root (.all .b)], fun x => True, fun x => (sStr (rootT x.1 x.2.1), [])⟩
theorem cRootText_ok : CtrOk Proofs.Tryz.prog cRootText := by
  have hP := (((Prg.none ttok mtok).and cRootOk_ok).and cText__ok)
  refine ctr_of_body hP cRootText (fn := Proofs.Tryz.f7) (rts := [.tmp 4]) Proofs.Tryz.func7 rfl (by kernel_rfl) rfl rfl ?_
  rintro ⟨(d : Int), ⟨(tg : Int), (l : List Vol_)⟩, ⟨⟩⟩ _ _
  try dsimp only [Ty.den, Mode.den, mdens] at _
  refine ⟨rfl, ?_⟩
  refine sw_seq ?_
  refine sw_region hP 1 [] rfl (by kernel_rfl) (fun _ => by kernel_rfl) (by first | trivial | (simp [conj]; done) | (simp [conj] at *; (try dsimp only [Ty.den, Ty.dflt] at *); omega)) ?_
  refine sw_seq ?_
  refine sw_seq ?_
  refine sw_region hP 2 [] rfl (by kernel_rfl) (fun _ => by kernel_rfl) ?_ ?_
  · skip
    simp only [conj, List.nil_append, List.cons_append, List.append_nil, List.append_assoc, inR_i64, true_and, and_true, Int.toNat_natCast]
    try dsimp only [Ty.den, Ty.dflt]
    repeat' apply And.intro
    all_goals first | trivial | assumption | omega | exact decide_eq_true ‹_› | exact decide_eq_false ‹_› | (simp [*]; done)
  refine sw_cond rfl (fun c1 => ?_) (fun c1 => ?_)
  · skip
    replace c1 : rootV d ((tg, l) : Root_) = false := by have h : (!rootV d ((tg, l) : Root_)) = true := c1; simpa using h
    refine sw_seq ?_
    refine sw_region hP 3 [] rfl (by kernel_rfl) (fun _ => by kernel_rfl) (by first | trivial | (simp [conj]; done) | (simp [conj] at *; (try dsimp only [Ty.den, Ty.dflt] at *); omega)) ?_
    refine sw_ret ⟨.inl rfl, _, rfl, ?_⟩
    simp [conj, rootT, c1, bytesL]
  · skip
    replace c1 : rootV d ((tg, l) : Root_) = true := by have h : (!rootV d ((tg, l) : Root_)) = false := c1; simpa using h
    refine sw_skip ?_
    refine sw_seq ?_
    refine sw_region hP 3 [] rfl (by kernel_rfl) (fun _ => by kernel_rfl) ?_ ?_
    · skip
      simp [conj]
      exact ⟨d, c1⟩
    refine sw_ret ⟨.inl rfl, _, rfl, ?_⟩
    simp [conj, rootT, c1, bytesL]
end Go.Sx

namespace Go.Sx
open Go
set_option maxRecDepth 100000
set_option linter.unusedVariables false
set_option linter.unusedSimpArgs false
set_option maxHeartbeats 2000000

def cReadI : Ctr := ⟨9, [.val false TI pF, .val false .str pF], fun x => True, fun x => (.tup [(true, [.d TI pF (readI x.1 x.2.1).1.1, .own ⟨1, 0, 0⟩]), (false, [.d .bool pF (readI x.1 x.2.1).2])], [(⟨1, 0, 0⟩, .sl T_Vol (.all .w) (readI x.1 x.2.1).1.2)])⟩
theorem cReadI_ok : CtrOk Proofs.Tryz.prog cReadI := by
  have hP := (((((Prg.none ttok mtok).and cSplit_ok).and cRootI_ok).and cIs_ok).and cRootText_ok)
  refine ctr_of_body hP cReadI (fn := Proofs.Tryz.f9) (rts := [.cell 4 25, .tmp 5]) Proofs.Tryz.func9 rfl (by kernel_rfl) rfl rfl ?_
  rintro ⟨(d : Int), (t : Str), ⟨⟩⟩ _ _
  try dsimp only [Ty.den, Mode.den, mdens] at _
  refine ⟨rfl, ?_⟩
  refine sw_seq ?_
  refine sw_region hP 1 [] rfl (by kernel_rfl) (fun _ => by kernel_rfl) (by first | trivial | (simp [conj]; done) | (simp [conj] at *; (try dsimp only [Ty.den, Ty.dflt] at *); omega)) ?_
  refine sw_seq ?_
  refine sw_seq ?_
  refine sw_dec hP 2 [] 3 rfl (fun g1_3 => ?_) (fun g1_3 => ?_)
  · skip
    have hz : 700 < t.length ∨ t = [] := .inl (by have h := g1_3; simp at h; omega)
    refine sw_region hP 2 [(3, true)] rfl (by kernel_rfl) (fun _ => by kernel_rfl) (by first | trivial | (simp [conj]; done) | (simp [conj] at *; (try dsimp only [Ty.den, Ty.dflt] at *); omega)) ?_
    refine sw_condT rfl ?_
    refine sw_seq ?_
    refine sw_region hP 3 [] rfl (by kernel_rfl) (fun _ => by kernel_rfl) (by first | trivial | (simp [conj]; done) | (simp [conj] at *; (try dsimp only [Ty.den, Ty.dflt] at *); omega)) ?_
    refine sw_ret ⟨.inl rfl, _, rfl, ?_⟩
    have hv : readI d t = ((0, []), false) := by unfold readI; rw [if_pos hz]
    simp [conj, hv]
  · skip
    have hz0 : ¬ 700 < t.length := by have h := g1_3; simp at h; omega
    refine sw_region hP 2 [(3, false)] rfl (by kernel_rfl) (fun _ => by kernel_rfl) (by first | trivial | (simp [conj]; done) | (simp [conj] at *; (try dsimp only [Ty.den, Ty.dflt] at *); omega)) ?_
    refine sw_cond rfl (fun c1 => ?_) (fun c1 => ?_)
    · skip
      have hz : 700 < t.length ∨ t = [] :=   .inr (of_decide_eq_true (show decide (t = []) = true from c1))
      refine sw_seq ?_
      refine sw_region hP 3 [] rfl (by kernel_rfl) (fun _ => by kernel_rfl) (by first | trivial | (simp [conj]; done) | (simp [conj] at *; (try dsimp only [Ty.den, Ty.dflt] at *); omega)) ?_
      refine sw_ret ⟨.inl rfl, _, rfl, ?_⟩
      have hv : readI d t = ((0, []), false) := by unfold readI; rw [if_pos hz]
      simp [conj, hv]
    · skip
      have hz1 : ¬ t = [] := of_decide_eq_false (show decide (t = []) = false from c1)
      have hz : ¬ (700 < t.length ∨ t = []) := fun h => h.elim hz0 hz1
      have hrd := cut_ok (t := t) (by omega)
      refine sw_skip ?_
      refine sw_seq ?_
      refine sw_region hP 3 [] rfl (by kernel_rfl) (fun _ => by kernel_rfl) ?_ ?_
      · skip
        simp only [conj, List.nil_append, List.cons_append, List.append_nil, List.append_assoc, inR_i64, true_and, and_true, Int.toNat_natCast]
        try dsimp only [Ty.den, Ty.dflt]
        repeat' apply And.intro
        all_goals first | omega | assumption | trivial | (show t.length ≤ 1000000; omega)
      refine sw_seq ?_
      refine sw_region hP 4 [] rfl (by kernel_rfl) (fun _ => by kernel_rfl) ?_ ?_
      · skip
        simp only [conj, List.nil_append, List.cons_append, List.append_nil, List.append_assoc, inR_i64, true_and, and_true, Int.toNat_natCast]
        try dsimp only [Ty.den, Ty.dflt]
        repeat' apply And.intro
        all_goals first | omega | assumption | trivial | exact hrd
      refine sw_seq ?_
      refine sw_seq ?_
      obtain ⟨q, hq⟩ : ∃ q, (rootI (cutV 10 t, 0)) = q := ⟨_, rfl⟩
      have hqo : RdOk q.2 := hq ▸ rootI_ok hrd
      have hqe := hqo.er
      refine sw_ent (st' := ⟨[sInt .i64 d, .v false [.d .str pF t], .junk, .junk, .v false [.ptr ⟨1, 0, 0⟩ 0], .junk, .v false [.ptr ⟨3, 3, 0⟩ 0], .v false [.ptr ⟨4, 2, 0⟩ 0], .junk, .junk, .junk, .junk, .junk, .junk, .junk, .junk, .junk, .junk, .junk, .v false [.ptr ⟨3, 3, 0⟩ 0], .junk, .junk, .junk, .junk, .junk, .junk, .junk, .junk, .junk, .junk, .junk, .junk, .junk, .junk, .junk, .junk, .junk], [(⟨1, 0, 0⟩, .var [.d TI pF 0, .d (.sl T_Vol) pF []]), (⟨3, 3, 0⟩, .var [.d (.sl .str) pF q.2.1, .d .er pF q.2.2]), (⟨4, 2, 0⟩, .var [.d TI pF q.1.1, .own ⟨0, 9, 0⟩]), (⟨0, 9, 0⟩, .sl T_Vol (.all .w) q.1.2)], 4, []⟩) (ent_ok rfl ?_) ?_
      · skip
        simp [conj, ← hq, bytesL]
        try rfl
      refine sw_dec hP 5 [] 6 rfl (fun g5_6 => ?_) (fun g5_6 => ?_)
      · skip
        have hbad : q.2.2 = 1 ∨ rootT d q.1 ≠ t := .inl (Nat.eq_of_beq_eq_true g5_6)
        refine sw_region hP 5 [(6, true)] rfl (by kernel_rfl) (fun _ => by kernel_rfl) ?_ ?_
        · skip
          simp only [conj, List.nil_append, List.cons_append, List.append_nil, List.append_assoc, inR_i64, true_and, and_true, Int.toNat_natCast]
          try dsimp only [Ty.den, Ty.dflt]
          repeat' apply And.intro
          all_goals first | omega | assumption | trivial | exact g5_6
        refine sw_condT rfl ?_
        refine sw_seq ?_
        refine sw_region hP 6 [] rfl (by kernel_rfl) (fun _ => by kernel_rfl) (by first | trivial | (simp [conj]; done) | (simp [conj] at *; (try dsimp only [Ty.den, Ty.dflt] at *); omega)) ?_
        refine sw_ret ⟨.inl rfl, _, rfl, ?_⟩
        have hv : readI d t = ((0, []), false) := by unfold readI; rw [if_neg hz]; simp only [hq]; rw [if_pos hbad]
        simp [conj, hv]
      · skip
        have hne1 : ¬ q.2.2 = 1 := by
          intro h
          have h2 : Nat.beq q.2.2 1 = false := g5_6
          rw [h] at h2
          cases h2
        refine sw_region hP 5 [(6, false)] rfl (by kernel_rfl) (fun _ => by kernel_rfl) ?_ ?_
        · skip
          simp only [conj, List.nil_append, List.cons_append, List.append_nil, List.append_assoc, inR_i64, true_and, and_true, Int.toNat_natCast]
          try dsimp only [Ty.den, Ty.dflt]
          repeat' apply And.intro
          all_goals first | omega | assumption | trivial | exact g5_6
        refine sw_cond rfl (fun c5 => ?_) (fun c5 => ?_)
        · skip
          have hbad : q.2.2 = 1 ∨ rootT d q.1 ≠ t := .inr (by have h : (!decide (rootT d q.1 = t)) = true := c5; simpa using h)
          refine sw_seq ?_
          refine sw_region hP 6 [] rfl (by kernel_rfl) (fun _ => by kernel_rfl) (by first | trivial | (simp [conj]; done) | (simp [conj] at *; (try dsimp only [Ty.den, Ty.dflt] at *); omega)) ?_
          refine sw_ret ⟨.inl rfl, _, rfl, ?_⟩
          have hv : readI d t = ((0, []), false) := by unfold readI; rw [if_neg hz]; simp only [hq]; rw [if_pos hbad]
          simp [conj, hv]
        · skip
          have hgood : ¬ (q.2.2 = 1 ∨ rootT d q.1 ≠ t) := by
            have h : (!decide (rootT d q.1 = t)) = false := c5
            intro h2
            rcases h2 with h2 | h2
            · exact hne1 h2
            · simp at h; exact h2 h
          refine sw_skip ?_
          refine sw_seq ?_
          refine sw_region hP 6 [] rfl (by kernel_rfl) (fun _ => by kernel_rfl) (by first | trivial | (simp [conj]; done) | (simp [conj] at *; (try dsimp only [Ty.den, Ty.dflt] at *); omega)) ?_
          refine sw_ret ⟨.inl rfl, _, rfl, ?_⟩
          have hv : readI d t = (q.1, true) := by unfold readI; rw [if_neg hz]; simp only [hq]; rw [if_neg hgood]
          simp [conj, hv]
end Go.Sx

namespace Go.Sx
open Go
set_option maxRecDepth 100000
set_option linter.unusedVariables false
set_option linter.unusedSimpArgs false
set_option maxHeartbeats 2000000

def cEqPlc : Ctr := ⟨146, [.val true T_Place pF, .val true T_Place pF], fun x => True, fun x => (sBool (decide ((x.1 : Plc) = x.2.1)), [])⟩
theorem cEqPlc_ok : CtrOk Proofs.Tryz.prog cEqPlc := by
  have hP := (Prg.none ttok mtok)
  refine ctr_of_body hP cEqPlc (fn := Proofs.Tryz.f146) (rts := [.tmp 4]) Proofs.Tryz.func146 rfl (by kernel_rfl) rfl rfl ?_
  rintro ⟨⟨(a : Int), (b : Int)⟩, ⟨(c : Int), (e : Int)⟩, ⟨⟩⟩ _ _
  try dsimp only [Ty.den, Mode.den, mdens] at _
  refine ⟨rfl, ?_⟩
  refine sw_seq ?_
  refine sw_region hP 1 [] rfl (by kernel_rfl) (fun _ => by kernel_rfl) (by first | trivial | (simp [conj]; done) | (simp [conj] at *; (try dsimp only [Ty.den, Ty.dflt] at *); omega)) ?_
  refine sw_seq ?_
  refine sw_seq ?_
  refine sw_region hP 2 [] rfl (by kernel_rfl) (fun _ => by kernel_rfl) (by first | trivial | (simp [conj]; done) | (simp [conj] at *; (try dsimp only [Ty.den, Ty.dflt] at *); omega)) ?_
  refine sw_cond rfl (fun c1 => ?_) (fun c1 => ?_)
  · skip
    replace c1 : ¬ a = c := by simpa using c1
    refine sw_seq ?_
    refine sw_region hP 3 [] rfl (by kernel_rfl) (fun _ => by kernel_rfl) (by first | trivial | (simp [conj]; done) | (simp [conj] at *; (try dsimp only [Ty.den, Ty.dflt] at *); omega)) ?_
    refine sw_ret ⟨.inl rfl, _, rfl, ?_⟩
    simp [conj, *]
  · skip
    replace c1 : a = c := by simpa using c1
    refine sw_skip ?_
    refine sw_seq ?_
    refine sw_seq ?_
    refine sw_region hP 3 [] rfl (by kernel_rfl) (fun _ => by kernel_rfl) (by first | trivial | (simp [conj]; done) | (simp [conj] at *; (try dsimp only [Ty.den, Ty.dflt] at *); omega)) ?_
    refine sw_cond rfl (fun c3 => ?_) (fun c3 => ?_)
    · skip
      replace c3 : ¬ b = e := by simpa using c3
      refine sw_seq ?_
      refine sw_region hP 4 [] rfl (by kernel_rfl) (fun _ => by kernel_rfl) (by first | trivial | (simp [conj]; done) | (simp [conj] at *; (try dsimp only [Ty.den, Ty.dflt] at *); omega)) ?_
      refine sw_ret ⟨.inl rfl, _, rfl, ?_⟩
      simp [conj, *]
    · skip
      replace c3 : b = e := by simpa using c3
      refine sw_skip ?_
      refine sw_seq ?_
      refine sw_region hP 4 [] rfl (by kernel_rfl) (fun _ => by kernel_rfl) (by first | trivial | (simp [conj]; done) | (simp [conj] at *; (try dsimp only [Ty.den, Ty.dflt] at *); omega)) ?_
      refine sw_ret ⟨.inl rfl, _, rfl, ?_⟩
      simp [conj, *]

def cEqPls : Ctr := ⟨132, [.val false (.sl T_Place) (.all .b), .val false (.sl T_Place) (.all .b)], fun x => True, fun x => (sBool (decide ((x.1 : List Plc) = x.2.1)), [])⟩
theorem cEqPls_ok : CtrOk Proofs.Tryz.prog cEqPls := by
  have hP := ((Prg.none ttok mtok).and cEqPlc_ok)
  refine ctr_of_body hP cEqPls (fn := Proofs.Tryz.f132) (rts := [.tmp 4]) Proofs.Tryz.func132 rfl (by kernel_rfl) rfl rfl ?_
  rintro ⟨(a : List Plc), (b : List Plc), ⟨⟩⟩ ⟨hda, hdb, _⟩ _
  try dsimp only [Ty.den, Mode.den, mdens] at _
  refine ⟨rfl, ?_⟩
  have hml : a.length ≤ 140737488355328 := hda.1
  have hmb : b.length ≤ 140737488355328 := hdb.1
  refine sw_seq ?_
  refine sw_region hP 1 [] rfl (by kernel_rfl) (fun _ => by kernel_rfl) (by first | trivial | (simp [conj]; done) | (simp [conj] at *; (try dsimp only [Ty.den, Ty.dflt] at *); omega)) ?_
  refine sw_seq ?_
  refine sw_seq ?_
  refine sw_region hP 2 [] rfl (by kernel_rfl) (fun _ => by kernel_rfl) (by first | trivial | (simp [conj]; done) | (simp [conj] at *; (try dsimp only [Ty.den, Ty.dflt] at *); omega)) ?_
  refine sw_cond rfl (fun c1 => ?_) (fun c1 => ?_)
  · skip
    replace c1 : ¬ a.length = b.length := by simp at c1; omega
    refine sw_seq ?_
    refine sw_region hP 3 [] rfl (by kernel_rfl) (fun _ => by kernel_rfl) (by first | trivial | (simp [conj]; done) | (simp [conj] at *; (try dsimp only [Ty.den, Ty.dflt] at *); omega)) ?_
    refine sw_ret ⟨.inl rfl, _, rfl, ?_⟩
    have hv := eqL_len c1
    simp [conj, hv]
  · skip
    replace c1 : a.length = b.length := by simp at c1; omega
    refine sw_skip ?_
    refine sw_seq ?_
    refine sw_seq ?_
    refine sw_region hP 3 [] rfl (by kernel_rfl) (fun _ => by kernel_rfl) (by first | trivial | (simp [conj]; done) | (simp [conj] at *; (try dsimp only [Ty.den, Ty.dflt] at *); omega)) ?_
    refine sw_block ?_
    refine sw_loop (ι := Nat) (fun i => ⟨[.v false [.d (.sl T_Place) (.all .b) a], .v false [.d (.sl T_Place) (.all .b) b], .junk, .junk, .junk, sInt .i64 (i : Int), .junk, .junk, .junk, .junk, .junk, .junk, .junk, .junk, .junk, .junk, .junk, .junk, .junk, .junk, .junk, .junk, .junk, .junk, .junk, .junk, .junk], [], 3, []⟩) (fun i => a.length - i) (fun i => i ≤ a.length ∧ decide (a.drop i = b.drop i) = decide (a = b)) 0 ⟨?_, ?_⟩ ?_
    · skip
      exact ⟨Nat.zero_le _, rfl⟩
    · refine ent_ok rfl ?_
      first | trivial | (simp [conj]; done) | (simp [conj] at *; (try dsimp only [Ty.den, Ty.dflt] at *); omega)
    · rintro i ⟨hi, hgo⟩
      refine sw_seq ?_
      refine sw_seq ?_
      refine sw_region hP 4 [] rfl (by kernel_rfl) (fun _ => by kernel_rfl) (by first | trivial | (simp [conj]; done) | (simp [conj] at *; (try dsimp only [Ty.den, Ty.dflt] at *); omega)) ?_
      refine sw_cond rfl (fun c4 => ?_) (fun c4 => ?_)
      · skip
        have hlt : i < a.length := by simpa using c4
        have hlt2 : i < b.length := by omega
        refine sw_skip ?_
        refine sw_seq ?_
        refine sw_block ?_
        refine sw_seq ?_
        refine sw_region hP 5 [] rfl (by kernel_rfl) (fun _ => by kernel_rfl) ?_ ?_
        · skip
          simp [conj, List.getElem?_eq_getElem hlt, List.getElem?_eq_getElem hlt2]
          repeat' apply And.intro
          all_goals first | omega | trivial
        refine sw_cond rfl (fun c6 => ?_) (fun c6 => ?_)
        · skip
          replace c6 : ¬ a[i] = b[i] := by intro e; simp [List.getElem?_eq_getElem hlt, List.getElem?_eq_getElem hlt2, e] at c6
          refine sw_seq ?_
          refine sw_region hP 6 [] rfl (by kernel_rfl) (fun _ => by kernel_rfl) (by first | trivial | (simp [conj]; done) | (simp [conj] at *; (try dsimp only [Ty.den, Ty.dflt] at *); omega)) ?_
          refine sw_ret ⟨.inl rfl, _, rfl, ?_⟩
          have hv := eqL_hit hlt hlt2 hgo c6
          simp [conj, hv]
        · skip
          replace c6 : a[i] = b[i] := by
            have h := c6
            simp [List.getElem?_eq_getElem hlt, List.getElem?_eq_getElem hlt2] at h
            exact Prod.ext h.1 h.2
          refine sw_skip ?_
          refine sw_region hP 6 [] rfl (by kernel_rfl) (fun _ => by kernel_rfl) (by first | trivial | (simp [conj]; done) | (simp [conj] at *; (try dsimp only [Ty.den, Ty.dflt] at *); omega)) ?_
          refine ⟨i + 1, ?_, ?_, ent_ok rfl ?_⟩
          · skip
            exact ⟨hlt, eqL_next hlt hlt2 hgo c6⟩
          · skip
            omega
          · skip
            simp [conj]
      · skip
        obtain rfl : i = a.length := by simp at c4; omega
        refine sw_exit ?_
        refine sw_seq ?_
        refine sw_region hP 5 [] rfl (by kernel_rfl) (fun _ => by kernel_rfl) (by first | trivial | (simp [conj]; done) | (simp [conj] at *; (try dsimp only [Ty.den, Ty.dflt] at *); omega)) ?_
        refine sw_ret ⟨.inl rfl, _, rfl, ?_⟩
        have hv := eqL_end c1 hgo
        simp [conj, hv]

def cEqPtr : Ctr := ⟨112, [.val true T_Ptr (.all .b), .val true T_Ptr (.all .b)], fun x => True, fun x => (sBool (decide ((x.1 : Ptr_) = x.2.1)), [])⟩
theorem cEqPtr_ok : CtrOk Proofs.Tryz.prog cEqPtr := by
  have hP := ((Prg.none ttok mtok).and cEqPls_ok)
  refine ctr_of_body hP cEqPtr (fn := Proofs.Tryz.f112) (rts := [.tmp 4]) Proofs.Tryz.func112 rfl (by kernel_rfl) rfl rfl ?_
  rintro ⟨⟨(sz : Int), (sm : Int), (pl : List Plc)⟩, ⟨(sz2 : Int), (sm2 : Int), (pl2 : List Plc)⟩, ⟨⟩⟩ _ _
  try dsimp only [Ty.den, Mode.den, mdens] at _
  refine ⟨rfl, ?_⟩
  refine sw_seq ?_
  refine sw_region hP 1 [] rfl (by kernel_rfl) (fun _ => by kernel_rfl) (by first | trivial | (simp [conj]; done) | (simp [conj] at *; (try dsimp only [Ty.den, Ty.dflt] at *); omega)) ?_
  refine sw_seq ?_
  refine sw_seq ?_
  refine sw_region hP 2 [] rfl (by kernel_rfl) (fun _ => by kernel_rfl) (by first | trivial | (simp [conj]; done) | (simp [conj] at *; (try dsimp only [Ty.den, Ty.dflt] at *); omega)) ?_
  refine sw_cond rfl (fun c1 => ?_) (fun c1 => ?_)
  · skip
    replace c1 : ¬ sz = sz2 := by simpa using c1
    refine sw_seq ?_
    refine sw_region hP 3 [] rfl (by kernel_rfl) (fun _ => by kernel_rfl) (by first | trivial | (simp [conj]; done) | (simp [conj] at *; (try dsimp only [Ty.den, Ty.dflt] at *); omega)) ?_
    refine sw_ret ⟨.inl rfl, _, rfl, ?_⟩
    simp [conj, *]
  · skip
    replace c1 : sz = sz2 := by simpa using c1
    refine sw_skip ?_
    refine sw_seq ?_
    refine sw_seq ?_
    refine sw_region hP 3 [] rfl (by kernel_rfl) (fun _ => by kernel_rfl) (by first | trivial | (simp [conj]; done) | (simp [conj] at *; (try dsimp only [Ty.den, Ty.dflt] at *); omega)) ?_
    refine sw_cond rfl (fun c3 => ?_) (fun c3 => ?_)
    · skip
      replace c3 : ¬ sm = sm2 := by simpa using c3
      refine sw_seq ?_
      refine sw_region hP 4 [] rfl (by kernel_rfl) (fun _ => by kernel_rfl) (by first | trivial | (simp [conj]; done) | (simp [conj] at *; (try dsimp only [Ty.den, Ty.dflt] at *); omega)) ?_
      refine sw_ret ⟨.inl rfl, _, rfl, ?_⟩
      simp [conj, *]
    · skip
      replace c3 : sm = sm2 := by simpa using c3
      refine sw_skip ?_
      refine sw_seq ?_
      refine sw_seq ?_
      refine sw_region hP 4 [] rfl (by kernel_rfl) (fun _ => by kernel_rfl) ?_ ?_
      · skip
        simp [conj, maxL]
        try dsimp only [Ty.den, Ty.dflt]
        try simp only [rd_eta]
        trivial
      refine sw_cond rfl (fun c5 => ?_) (fun c5 => ?_)
      · skip
        replace c5 : ¬ pl = pl2 := by simpa using c5
        refine sw_seq ?_
        refine sw_region hP 5 [] rfl (by kernel_rfl) (fun _ => by kernel_rfl) (by first | trivial | (simp [conj]; done) | (simp [conj] at *; (try dsimp only [Ty.den, Ty.dflt] at *); omega)) ?_
        refine sw_ret ⟨.inl rfl, _, rfl, ?_⟩
        simp [conj, *]
      · skip
        replace c5 : pl = pl2 := by simpa using c5
        refine sw_skip ?_
        refine sw_seq ?_
        refine sw_region hP 5 [] rfl (by kernel_rfl) (fun _ => by kernel_rfl) (by first | trivial | (simp [conj]; done) | (simp [conj] at *; (try dsimp only [Ty.den, Ty.dflt] at *); omega)) ?_
        refine sw_ret ⟨.inl rfl, _, rfl, ?_⟩
        simp [conj, *]

def cEqPtrs : Ctr := ⟨91, [.val false (.sl T_Ptr) (.all .b), .val false (.sl T_Ptr) (.all .b)], fun x => True, fun x => (sBool (decide ((x.1 : List Ptr_) = x.2.1)), [])⟩
theorem cEqPtrs_ok : CtrOk Proofs.Tryz.prog cEqPtrs := by
  have hP := ((Prg.none ttok mtok).and cEqPtr_ok)
  refine ctr_of_body hP cEqPtrs (fn := Proofs.Tryz.f91) (rts := [.tmp 4]) Proofs.Tryz.func91 rfl (by kernel_rfl) rfl rfl ?_
  rintro ⟨(a : List Ptr_), (b : List Ptr_), ⟨⟩⟩ ⟨hda, hdb, _⟩ _
  try dsimp only [Ty.den, Mode.den, mdens] at _
  refine ⟨rfl, ?_⟩
  have hml : a.length ≤ 140737488355328 := hda.1
  have hmb : b.length ≤ 140737488355328 := hdb.1
  refine sw_seq ?_
  refine sw_region hP 1 [] rfl (by kernel_rfl) (fun _ => by kernel_rfl) (by first | trivial | (simp [conj]; done) | (simp [conj] at *; (try dsimp only [Ty.den, Ty.dflt] at *); omega)) ?_
  refine sw_seq ?_
  refine sw_seq ?_
  refine sw_region hP 2 [] rfl (by kernel_rfl) (fun _ => by kernel_rfl) (by first | trivial | (simp [conj]; done) | (simp [conj] at *; (try dsimp only [Ty.den, Ty.dflt] at *); omega)) ?_
  refine sw_cond rfl (fun c1 => ?_) (fun c1 => ?_)
  · skip
    replace c1 : ¬ a.length = b.length := by simp at c1; omega
    refine sw_seq ?_
    refine sw_region hP 3 [] rfl (by kernel_rfl) (fun _ => by kernel_rfl) (by first | trivial | (simp [conj]; done) | (simp [conj] at *; (try dsimp only [Ty.den, Ty.dflt] at *); omega)) ?_
    refine sw_ret ⟨.inl rfl, _, rfl, ?_⟩
    have hv := eqL_len c1
    simp [conj, hv]
  · skip
    replace c1 : a.length = b.length := by simp at c1; omega
    refine sw_skip ?_
    refine sw_seq ?_
    refine sw_seq ?_
    refine sw_region hP 3 [] rfl (by kernel_rfl) (fun _ => by kernel_rfl) (by first | trivial | (simp [conj]; done) | (simp [conj] at *; (try dsimp only [Ty.den, Ty.dflt] at *); omega)) ?_
    refine sw_block ?_
    refine sw_loop (ι := Nat) (fun i => ⟨[.v false [.d (.sl T_Ptr) (.all .b) a], .v false [.d (.sl T_Ptr) (.all .b) b], .junk, .junk, .junk, sInt .i64 (i : Int), .junk, .junk, .junk, .junk, .junk, .junk, .junk, .junk, .junk, .junk, .junk, .junk, .junk, .junk, .junk, .junk, .junk, .junk, .junk, .junk, .junk], [], 3, []⟩) (fun i => a.length - i) (fun i => i ≤ a.length ∧ decide (a.drop i = b.drop i) = decide (a = b)) 0 ⟨?_, ?_⟩ ?_
    · skip
      exact ⟨Nat.zero_le _, rfl⟩
    · refine ent_ok rfl ?_
      first | trivial | (simp [conj]; done) | (simp [conj] at *; (try dsimp only [Ty.den, Ty.dflt] at *); omega)
    · rintro i ⟨hi, hgo⟩
      refine sw_seq ?_
      refine sw_seq ?_
      refine sw_region hP 4 [] rfl (by kernel_rfl) (fun _ => by kernel_rfl) (by first | trivial | (simp [conj]; done) | (simp [conj] at *; (try dsimp only [Ty.den, Ty.dflt] at *); omega)) ?_
      refine sw_cond rfl (fun c4 => ?_) (fun c4 => ?_)
      · skip
        have hlt : i < a.length := by simpa using c4
        have hlt2 : i < b.length := by omega
        refine sw_skip ?_
        refine sw_seq ?_
        refine sw_block ?_
        refine sw_seq ?_
        refine sw_region hP 5 [] rfl (by kernel_rfl) (fun _ => by kernel_rfl) ?_ ?_
        · skip
          simp [conj, List.getElem?_eq_getElem hlt, List.getElem?_eq_getElem hlt2]
          repeat' apply And.intro
          all_goals first | omega | trivial
        refine sw_cond rfl (fun c6 => ?_) (fun c6 => ?_)
        · skip
          replace c6 : ¬ a[i] = b[i] := by intro e; simp [List.getElem?_eq_getElem hlt, List.getElem?_eq_getElem hlt2, e] at c6
          refine sw_seq ?_
          refine sw_region hP 6 [] rfl (by kernel_rfl) (fun _ => by kernel_rfl) (by first | trivial | (simp [conj]; done) | (simp [conj] at *; (try dsimp only [Ty.den, Ty.dflt] at *); omega)) ?_
          refine sw_ret ⟨.inl rfl, _, rfl, ?_⟩
          have hv := eqL_hit hlt hlt2 hgo c6
          simp [conj, hv]
        · skip
          replace c6 : a[i] = b[i] := by
            have h := c6
            simp [List.getElem?_eq_getElem hlt, List.getElem?_eq_getElem hlt2] at h
            exact Prod.ext h.1 (Prod.ext h.2.1 h.2.2)
          refine sw_skip ?_
          refine sw_region hP 6 [] rfl (by kernel_rfl) (fun _ => by kernel_rfl) (by first | trivial | (simp [conj]; done) | (simp [conj] at *; (try dsimp only [Ty.den, Ty.dflt] at *); omega)) ?_
          refine ⟨i + 1, ?_, ?_, ent_ok rfl ?_⟩
          · skip
            exact ⟨hlt, eqL_next hlt hlt2 hgo c6⟩
          · skip
            omega
          · skip
            simp [conj]
      · skip
        obtain rfl : i = a.length := by simp at c4; omega
        refine sw_exit ?_
        refine sw_seq ?_
        refine sw_region hP 5 [] rfl (by kernel_rfl) (fun _ => by kernel_rfl) (by first | trivial | (simp [conj]; done) | (simp [conj] at *; (try dsimp only [Ty.den, Ty.dflt] at *); omega)) ?_
        refine sw_ret ⟨.inl rfl, _, rfl, ?_⟩
        have hv := eqL_end c1 hgo
        simp [conj, hv]

def cEqVol : Ctr := ⟨62, [.val true T_Vol (.all .b), .val true T_Vol (.all .b)], fun x => True, fun x => (sBool (decide ((x.1 : Vol_) = x.2.1)), [])⟩
theorem cEqVol_ok : CtrOk Proofs.Tryz.prog cEqVol := by
  have hP := ((Prg.none ttok mtok).and cEqPtrs_ok)
  refine ctr_of_body hP cEqVol (fn := Proofs.Tryz.f62) (rts := [.tmp 4]) Proofs.Tryz.func62 rfl (by kernel_rfl) rfl rfl ?_
  rintro ⟨⟨(nm : Str), (bl : List Ptr_)⟩, ⟨(nm2 : Str), (bl2 : List Ptr_)⟩, ⟨⟩⟩ _ _
  try dsimp only [Ty.den, Mode.den, mdens] at _
  refine ⟨rfl, ?_⟩
  refine sw_seq ?_
  refine sw_region hP 1 [] rfl (by kernel_rfl) (fun _ => by kernel_rfl) (by first | trivial | (simp [conj]; done) | (simp [conj] at *; (try dsimp only [Ty.den, Ty.dflt] at *); omega)) ?_
  refine sw_seq ?_
  refine sw_seq ?_
  refine sw_region hP 2 [] rfl (by kernel_rfl) (fun _ => by kernel_rfl) (by first | trivial | (simp [conj]; done) | (simp [conj] at *; (try dsimp only [Ty.den, Ty.dflt] at *); omega)) ?_
  refine sw_cond rfl (fun c1 => ?_) (fun c1 => ?_)
  · skip
    replace c1 : ¬ nm = nm2 := by simpa using c1
    refine sw_seq ?_
    refine sw_region hP 3 [] rfl (by kernel_rfl) (fun _ => by kernel_rfl) (by first | trivial | (simp [conj]; done) | (simp [conj] at *; (try dsimp only [Ty.den, Ty.dflt] at *); omega)) ?_
    refine sw_ret ⟨.inl rfl, _, rfl, ?_⟩
    simp [conj, *]
  · skip
    replace c1 : nm = nm2 := by simpa using c1
    refine sw_skip ?_
    refine sw_seq ?_
    refine sw_seq ?_
    refine sw_region hP 3 [] rfl (by kernel_rfl) (fun _ => by kernel_rfl) ?_ ?_
    · skip
      simp [conj, maxL]
      try dsimp only [Ty.den, Ty.dflt]
      try simp only [rd_eta]
      trivial
    refine sw_cond rfl (fun c3 => ?_) (fun c3 => ?_)
    · skip
      replace c3 : ¬ bl = bl2 := by simpa using c3
      refine sw_seq ?_
      refine sw_region hP 4 [] rfl (by kernel_rfl) (fun _ => by kernel_rfl) (by first | trivial | (simp [conj]; done) | (simp [conj] at *; (try dsimp only [Ty.den, Ty.dflt] at *); omega)) ?_
      refine sw_ret ⟨.inl rfl, _, rfl, ?_⟩
      simp [conj, *]
    · skip
      replace c3 : bl = bl2 := by simpa using c3
      refine sw_skip ?_
      refine sw_seq ?_
      refine sw_region hP 4 [] rfl (by kernel_rfl) (fun _ => by kernel_rfl) (by first | trivial | (simp [conj]; done) | (simp [conj] at *; (try dsimp only [Ty.den, Ty.dflt] at *); omega)) ?_
      refine sw_ret ⟨.inl rfl, _, rfl, ?_⟩
      simp [conj, *]

def cEqVols : Ctr := ⟨34, [.val false (.sl T_Vol) (.all .b), .val false (.sl T_Vol) (.all .b)], fun x => True, fun x => (sBool (decide ((x.1 : List Vol_) = x.2.1)), [])⟩
theorem cEqVols_ok : CtrOk Proofs.Tryz.prog cEqVols := by
  have hP := ((Prg.none ttok mtok).and cEqVol_ok)
  refine ctr_of_body hP cEqVols (fn := Proofs.Tryz.f34) (rts := [.tmp 4]) Proofs.Tryz.func34 rfl (by kernel_rfl) rfl rfl ?_
  rintro ⟨(a : List Vol_), (b : List Vol_), ⟨⟩⟩ ⟨hda, hdb, _⟩ _
  try dsimp only [Ty.den, Mode.den, mdens] at _
  refine ⟨rfl, ?_⟩
  have hml : a.length ≤ 140737488355328 := hda.1
  have hmb : b.length ≤ 140737488355328 := hdb.1
  refine sw_seq ?_
  refine sw_region hP 1 [] rfl (by kernel_rfl) (fun _ => by kernel_rfl) (by first | trivial | (simp [conj]; done) | (simp [conj] at *; (try dsimp only [Ty.den, Ty.dflt] at *); omega)) ?_
  refine sw_seq ?_
  refine sw_seq ?_
  refine sw_region hP 2 [] rfl (by kernel_rfl) (fun _ => by kernel_rfl) (by first | trivial | (simp [conj]; done) | (simp [conj] at *; (try dsimp only [Ty.den, Ty.dflt] at *); omega)) ?_
  refine sw_cond rfl (fun c1 => ?_) (fun c1 => ?_)
  · skip
    replace c1 : ¬ a.length = b.length := by simp at c1; omega
    refine sw_seq ?_
    refine sw_region hP 3 [] rfl (by kernel_rfl) (fun _ => by kernel_rfl) (by first | trivial | (simp [conj]; done) | (simp [conj] at *; (try dsimp only [Ty.den, Ty.dflt] at *); omega)) ?_
    refine sw_ret ⟨.inl rfl, _, rfl, ?_⟩
    have hv := eqL_len c1
    simp [conj, hv]
  · skip
    replace c1 : a.length = b.length := by simp at c1; omega
    refine sw_skip ?_
    refine sw_seq ?_
    refine sw_seq ?_
    refine sw_region hP 3 [] rfl (by kernel_rfl) (fun _ => by kernel_rfl) (by first | trivial | (simp [conj]; done) | (simp [conj] at *; (try dsimp only [Ty.den, Ty.dflt] at *); omega)) ?_
    refine sw_block ?_
    refine sw_loop (ι := Nat) (fun i => ⟨[.v false [.d (.sl T_Vol) (.all .b) a], .v false [.d (.sl T_Vol) (.all .b) b], .junk, .junk, .junk, sInt .i64 (i : Int), .junk, .junk, .junk, .junk, .junk, .junk, .junk, .junk, .junk, .junk, .junk, .junk, .junk, .junk, .junk, .junk, .junk, .junk, .junk, .junk, .junk], [], 3, []⟩) (fun i => a.length - i) (fun i => i ≤ a.length ∧ decide (a.drop i = b.drop i) = decide (a = b)) 0 ⟨?_, ?_⟩ ?_
    · skip
      exact ⟨Nat.zero_le _, rfl⟩
    · refine ent_ok rfl ?_
      first | trivial | (simp [conj]; done) | (simp [conj] at *; (try dsimp only [Ty.den, Ty.dflt] at *); omega)
    · rintro i ⟨hi, hgo⟩
      refine sw_seq ?_
      refine sw_seq ?_
      refine sw_region hP 4 [] rfl (by kernel_rfl) (fun _ => by kernel_rfl) (by first | trivial | (simp [conj]; done) | (simp [conj] at *; (try dsimp only [Ty.den, Ty.dflt] at *); omega)) ?_
      refine sw_cond rfl (fun c4 => ?_) (fun c4 => ?_)
      · skip
        have hlt : i < a.length := by simpa using c4
        have hlt2 : i < b.length := by omega
        refine sw_skip ?_
        refine sw_seq ?_
        refine sw_block ?_
        refine sw_seq ?_
        refine sw_region hP 5 [] rfl (by kernel_rfl) (fun _ => by kernel_rfl) ?_ ?_
        · skip
          simp [conj, List.getElem?_eq_getElem hlt, List.getElem?_eq_getElem hlt2]
          repeat' apply And.intro
          all_goals first | omega | trivial
        refine sw_cond rfl (fun c6 => ?_) (fun c6 => ?_)
        · skip
          replace c6 : ¬ a[i] = b[i] := by intro e; simp [List.getElem?_eq_getElem hlt, List.getElem?_eq_getElem hlt2, e] at c6
          refine sw_seq ?_
          refine sw_region hP 6 [] rfl (by kernel_rfl) (fun _ => by kernel_rfl) (by first | trivial | (simp [conj]; done) | (simp [conj] at *; (try dsimp only [Ty.den, Ty.dflt] at *); omega)) ?_
          refine sw_ret ⟨.inl rfl, _, rfl, ?_⟩
          have hv := eqL_hit hlt hlt2 hgo c6
          simp [conj, hv]
        · skip
          replace c6 : a[i] = b[i] := by
            have h := c6
            simp [List.getElem?_eq_getElem hlt, List.getElem?_eq_getElem hlt2] at h
            exact Prod.ext h.1 h.2
          refine sw_skip ?_
          refine sw_region hP 6 [] rfl (by kernel_rfl) (fun _ => by kernel_rfl) (by first | trivial | (simp [conj]; done) | (simp [conj] at *; (try dsimp only [Ty.den, Ty.dflt] at *); omega)) ?_
          refine ⟨i + 1, ?_, ?_, ent_ok rfl ?_⟩
          · skip
            exact ⟨hlt, eqL_next hlt hlt2 hgo c6⟩
          · skip
            omega
          · skip
            simp [conj]
      · skip
        obtain rfl : i = a.length := by simp at c4; omega
        refine sw_exit ?_
        refine sw_seq ?_
        refine sw_region hP 5 [] rfl (by kernel_rfl) (fun _ => by kernel_rfl) (by first | trivial | (simp [conj]; done) | (simp [conj] at *; (try dsimp only [Ty.den, Ty.dflt] at *); omega)) ?_
        refine sw_ret ⟨.inl rfl, _, rfl, ?_⟩
        have hv := eqL_end c1 hgo
        simp [conj, hv]

def cEqRoot : Ctr := ⟨14, [.val true T_Root (.all .b), .val true T_Root (.all .b)], fun x => True, fun x => (sBool (decide ((x.1 : Root_) = x.2.1)), [])⟩
theorem cEqRoot_ok : CtrOk Proofs.Tryz.prog cEqRoot := by
  have hP := ((Prg.none ttok mtok).and cEqVols_ok)
  refine ctr_of_body hP cEqRoot (fn := Proofs.Tryz.f14) (rts := [.tmp 4]) Proofs.Tryz.func14 rfl (by kernel_rfl) rfl rfl ?_
  rintro ⟨⟨(tg : Int), (l : List Vol_)⟩, ⟨(tg2 : Int), (l2 : List Vol_)⟩, ⟨⟩⟩ _ _
  try dsimp only [Ty.den, Mode.den, mdens] at _
  refine ⟨rfl, ?_⟩
  refine sw_seq ?_
  refine sw_region hP 1 [] rfl (by kernel_rfl) (fun _ => by kernel_rfl) (by first | trivial | (simp [conj]; done) | (simp [conj] at *; (try dsimp only [Ty.den, Ty.dflt] at *); omega)) ?_
  refine sw_seq ?_
  refine sw_seq ?_
  refine sw_region hP 2 [] rfl (by kernel_rfl) (fun _ => by kernel_rfl) (by first | trivial | (simp [conj]; done) | (simp [conj] at *; (try dsimp only [Ty.den, Ty.dflt] at *); omega)) ?_
  refine sw_cond rfl (fun c1 => ?_) (fun c1 => ?_)
  · skip
    replace c1 : ¬ tg = tg2 := by simpa using c1
    refine sw_seq ?_
    refine sw_region hP 3 [] rfl (by kernel_rfl) (fun _ => by kernel_rfl) (by first | trivial | (simp [conj]; done) | (simp [conj] at *; (try dsimp only [Ty.den, Ty.dflt] at *); omega)) ?_
    refine sw_ret ⟨.inl rfl, _, rfl, ?_⟩
    simp [conj, *]
  · skip
    replace c1 : tg = tg2 := by simpa using c1
    refine sw_skip ?_
    refine sw_seq ?_
    refine sw_seq ?_
    refine sw_region hP 3 [] rfl (by kernel_rfl) (fun _ => by kernel_rfl) ?_ ?_
    · skip
      simp [conj, maxL]
      try dsimp only [Ty.den, Ty.dflt]
      try simp only [rd_eta]
      trivial
    refine sw_cond rfl (fun c3 => ?_) (fun c3 => ?_)
    · skip
      replace c3 : ¬ l = l2 := by simpa using c3
      refine sw_seq ?_
      refine sw_region hP 4 [] rfl (by kernel_rfl) (fun _ => by kernel_rfl) (by first | trivial | (simp [conj]; done) | (simp [conj] at *; (try dsimp only [Ty.den, Ty.dflt] at *); omega)) ?_
      refine sw_ret ⟨.inl rfl, _, rfl, ?_⟩
      simp [conj, *]
    · skip
      replace c3 : l = l2 := by simpa using c3
      refine sw_skip ?_
      refine sw_seq ?_
      refine sw_region hP 4 [] rfl (by kernel_rfl) (fun _ => by kernel_rfl) (by first | trivial | (simp [conj]; done) | (simp [conj] at *; (try dsimp only [Ty.den, Ty.dflt] at *); omega)) ?_
      refine sw_ret ⟨.inl rfl, _, rfl, ?_⟩
      simp [conj, *]
end Go.Sx

namespace Go.Sx
open Go
set_option maxRecDepth 100000
set_option linter.unusedVariables false
set_option linter.unusedSimpArgs false
set_option maxHeartbeats 2000000

def cXRead : Ctr := ⟨5, [.val false TI pF, .val false .str pF], fun x => True, fun x => (sBool true, [])⟩
theorem cXRead_ok : CtrOk Proofs.Tryz.prog cXRead := by
  have hP := (((((Prg.none ttok mtok).and cReadS_ok).and cReadI_ok).and cEqRoot_ok).and cHdRoot_ok)
  refine ctr_of_body hP cXRead (fn := Proofs.Tryz.f5) (rts := [.tmp 4]) Proofs.Tryz.func5 rfl (by kernel_rfl) rfl rfl ?_
  rintro ⟨(d : Int), (t : Str), ⟨⟩⟩ _ _
  try dsimp only [Ty.den, Mode.den, mdens] at _
  refine ⟨rfl, ?_⟩
  refine sw_seq ?_
  refine sw_region hP 1 [] rfl (by kernel_rfl) (fun _ => by kernel_rfl) (by first | trivial | (simp [conj]; done) | (simp [conj] at *; (try dsimp only [Ty.den, Ty.dflt] at *); omega)) ?_
  refine sw_seq ?_
  refine sw_seq ?_
  refine sw_region hP 2 [] rfl (by kernel_rfl) (fun _ => by kernel_rfl) (by first | trivial | (simp [conj]; done) | (simp [conj] at *; (try dsimp only [Ty.den, Ty.dflt] at *); omega)) ?_
  refine sw_cond rfl (fun c1 => ?_) (fun c1 => ?_)
  · skip
    refine sw_seq ?_
    refine sw_region hP 3 [] rfl (by kernel_rfl) (fun _ => by kernel_rfl) (by first | trivial | (simp [conj]; done) | (simp [conj] at *; (try dsimp only [Ty.den, Ty.dflt] at *); omega)) ?_
    refine sw_ret ⟨.inl rfl, _, rfl, ?_⟩
    simp [conj]
  · skip
    obtain ⟨W, hW⟩ : ∃ W, readI d t = W := ⟨_, rfl⟩
    have hS : readS d t = W := by rw [← readI_S, hW]
    have hft := fitV_nx (hW ▸ readI_fit (d := d) (t := t))
    have hh : hdLs mVol 1 (mkLs mVol 1 W.1.2) = nxLs mVol 1 W.1.2 := (mkList_ok mVol_ok).hm 1 _ (by decide)
    have hmm : nxLs mVol 1 (mkLs mVol 1 W.1.2) = nxLs mVol 1 W.1.2 := (mkList_ok mVol_ok).nm 1 _
    refine sw_skip ?_
    refine sw_seq ?_
    refine sw_region hP 3 [] rfl (by kernel_rfl) (fun _ => by kernel_rfl) (by first | trivial | (simp [conj]; done) | (simp [conj] at *; (try dsimp only [Ty.den, Ty.dflt] at *); omega)) ?_
    refine sw_seq ?_
    refine sw_region hP 4 [] rfl (by kernel_rfl) (fun _ => by kernel_rfl) (by first | trivial | (simp [conj]; done) | (simp [conj] at *; (try dsimp only [Ty.den, Ty.dflt] at *); omega)) ?_
    refine sw_seq ?_
    refine sw_seq ?_
    refine sw_ent (st' := ⟨[sInt .i64 d, sStr t, .junk, .junk, .junk, .v false [.ptr ⟨3, 6, 0⟩ 0], sBool W.2, .v false [.ptr ⟨4, 6, 0⟩ 0], sBool W.2, .junk, .junk, .junk, .junk, .junk, .junk, .junk, .junk, .junk, .junk, .junk, .junk, .junk, .junk, .junk, .junk, .junk, .junk, .junk, .junk, .junk, .junk, .junk, .junk, .junk, .junk, .junk, .junk, .junk, .junk, .junk, .junk, .junk, .junk, .junk, .junk, .junk, .junk, .junk, .junk, .junk, .junk, .junk, .junk, .junk, .junk, .junk, .junk, .junk, .junk, .junk, .junk, .junk, .junk, .junk, .junk, .junk, .junk, .junk, .junk, .junk, .junk], [(⟨3, 6, 0⟩, .var [.d TI pF W.1.1, .own ⟨3, 2, 0⟩]), (⟨3, 2, 0⟩, .sl T_Vol (.all .w) W.1.2), (⟨4, 6, 0⟩, .var [.d TI pF W.1.1, .own ⟨4, 2, 0⟩]), (⟨4, 2, 0⟩, .sl T_Vol (.all .w) W.1.2)], 4, []⟩) (ent_ok rfl ?_) ?_
    · skip
      simp [conj, hW, hS]
    refine sw_dec hP 5 [] 4 rfl (fun g5_4 => ?_) (fun g5_4 => ?_)
    · skip
      have h : (!decide (W.1 = W.1)) = true := g5_4
      simp at h
    · skip
      refine sw_region hP 5 [(4, false)] rfl (by kernel_rfl) (fun _ => by kernel_rfl) ?_ ?_
      · skip
        simp [conj, maxL]
        try dsimp only [Ty.den, Ty.dflt]
        try simp only [rd_eta]
        try trivial
      refine sw_cond rfl (fun c5 => ?_) (fun c5 => ?_)
      · skip
        simp at c5
      · skip
        refine sw_skip ?_
        refine sw_seq ?_
        refine sw_region hP 6 [] rfl (by kernel_rfl) (fun _ => by kernel_rfl) (by first | trivial | (simp [conj]; done) | (simp [conj] at *; (try dsimp only [Ty.den, Ty.dflt] at *); omega)) ?_
        refine sw_seq ?_
        replace hP := hP.andX (cMkRoot_ok (r := W.1) (k := 1) (a := ⟨4, 2, 0⟩) (by decide) (by omega))
        refine sw_region hP 7 [] rfl (by kernel_rfl) (fun _ => by kernel_rfl) (by first | trivial | (simp [conj]; done) | (simp [conj] at *; (try dsimp only [Ty.den, Ty.dflt] at *); omega)) ?_
        refine sw_seq ?_
        refine sw_region hP 8 [] rfl (by kernel_rfl) (fun _ => by kernel_rfl) (by first | trivial | (simp [conj]; done) | (simp [conj] at *; (try dsimp only [Ty.den, Ty.dflt] at *); omega)) ?_
        refine sw_seq ?_
        refine sw_region hP 9 [] rfl (by kernel_rfl) (fun _ => by kernel_rfl) ?_ ?_
        · skip
          simp [conj, maxL]
          try dsimp only [Ty.den, Ty.dflt]
          try simp only [rd_eta]
          exact ⟨by show (0 : Int) ≤ 1; decide, by show nxLs mVol 1 (mkLs mVol 1 W.1.2) ≤ 1000000000; omega⟩
        refine sw_seq ?_
        refine sw_seq ?_
        refine sw_ent (st' := ⟨[sInt .i64 d, sStr t, .junk, .junk, .junk, .v false [.ptr ⟨3, 6, 0⟩ 0], sBool W.2, .v false [.ptr ⟨4, 6, 0⟩ 0], sBool W.2, sInt .i64 (nxLs mVol 1 W.1.2), sInt .i64 (nxLs mVol 1 W.1.2), .junk, .junk, .junk, .junk, .junk, .junk, .junk, .junk, .junk, .junk, .junk, .junk, .junk, .junk, .junk, .junk, .junk, .junk, .junk, .junk, .junk, .junk, .junk, .junk, .junk, .junk, .junk, .junk, .junk, .junk, .junk, .junk, .junk, .junk, .junk, .junk, .junk, .junk, .junk, .junk, .junk, .junk, .junk, .junk, .junk, .junk, .junk, .junk, .junk, .junk, .junk, .junk, .junk, .junk, .junk, .junk, .junk, .junk, .junk, .junk], [(⟨3, 6, 0⟩, .var [.d TI pF W.1.1, .own ⟨3, 2, 0⟩]), (⟨3, 2, 0⟩, .sl T_Vol (.all .w) W.1.2), (⟨4, 6, 0⟩, .var [.d TI pF W.1.1, .own ⟨4, 2, 0⟩]), (⟨4, 2, 0⟩, .sl T_Vol (.all .w) (mkLs mVol 1 W.1.2))], 9, []⟩) (ent_ok rfl ?_) ?_
        · skip
          simp [conj]
          try exact hh
        refine sw_region hP 10 [] rfl (by kernel_rfl) (fun _ => by kernel_rfl) (by first | trivial | (simp [conj]; done) | (simp [conj] at *; (try dsimp only [Ty.den, Ty.dflt] at *); omega)) ?_
        refine sw_cond rfl (fun c11 => ?_) (fun c11 => ?_)
        · skip
          have h : (nxLs mVol 1 W.1.2) < 0 := of_decide_eq_true c11
          omega
        · skip
          refine sw_skip ?_
          refine sw_seq ?_
          refine sw_seq ?_
          refine sw_region hP 11 [] rfl (by kernel_rfl) (fun _ => by kernel_rfl) (by first | trivial | (simp [conj]; done) | (simp [conj] at *; (try dsimp only [Ty.den, Ty.dflt] at *); omega)) ?_
          refine sw_cond rfl (fun c13 => ?_) (fun c13 => ?_)
          · skip
            simp at c13
          · skip
            refine sw_skip ?_
            refine sw_seq ?_
            refine sw_region hP 12 [] rfl (by kernel_rfl) (fun _ => by kernel_rfl) (by first | trivial | (simp [conj]; done) | (simp [conj] at *; (try dsimp only [Ty.den, Ty.dflt] at *); omega)) ?_
            refine sw_seq ?_
            refine sw_seq ?_
            refine sw_ent (st' := ⟨[sInt .i64 d, sStr t, .junk, .junk, .junk, .v false [.ptr ⟨3, 6, 0⟩ 0], sBool W.2, .v false [.ptr ⟨4, 6, 0⟩ 0], sBool W.2, sInt .i64 (nxLs mVol 1 W.1.2), sInt .i64 (nxLs mVol 1 W.1.2), .v false [.ptr ⟨12, 6, 0⟩ 0], sBool W.2, .junk, .junk, .junk, .junk, .junk, .junk, .junk, .junk, .junk, .junk, .junk, .junk, .junk, .junk, .junk, .junk, .junk, .junk, .junk, .junk, .junk, .junk, .junk, .junk, .junk, .junk, .junk, .junk, .junk, .junk, .junk, .junk, .junk, .junk, .junk, .junk, .junk, .junk, .junk, .junk, .junk, .junk, .junk, .junk, .junk, .junk, .junk, .junk, .junk, .junk, .junk, .junk, .junk, .junk, .junk, .junk, .junk, .junk], [(⟨3, 6, 0⟩, .var [.d TI pF W.1.1, .own ⟨3, 2, 0⟩]), (⟨3, 2, 0⟩, .sl T_Vol (.all .w) W.1.2), (⟨4, 6, 0⟩, .var [.d TI pF W.1.1, .own ⟨4, 2, 0⟩]), (⟨4, 2, 0⟩, .sl T_Vol (.all .w) (mkLs mVol 1 W.1.2)), (⟨12, 6, 0⟩, .var [.d TI pF W.1.1, .own ⟨12, 2, 0⟩]), (⟨12, 2, 0⟩, .sl T_Vol (.all .w) W.1.2)], 12, []⟩) (ent_ok rfl ?_) ?_
            · skip
              simp [conj, hW]
            refine sw_dec hP 13 [] 4 rfl (fun g16_4 => ?_) (fun g16_4 => ?_)
            · skip
              have h : (!decide (W.1 = W.1)) = true := g16_4
              simp at h
            · skip
              refine sw_region hP 13 [(4, false)] rfl (by kernel_rfl) (fun _ => by kernel_rfl) ?_ ?_
              · skip
                simp [conj, maxL]
                try dsimp only [Ty.den, Ty.dflt]
                try simp only [rd_eta]
                try trivial
              refine sw_cond rfl (fun c16 => ?_) (fun c16 => ?_)
              · skip
                simp at c16
              · skip
                refine sw_skip ?_
                refine sw_seq ?_
                refine sw_region hP 14 [] rfl (by kernel_rfl) (fun _ => by kernel_rfl) (by first | trivial | (simp [conj]; done) | (simp [conj] at *; (try dsimp only [Ty.den, Ty.dflt] at *); omega)) ?_
                refine sw_seq ?_
                refine sw_region hP 15 [] rfl (by kernel_rfl) (fun _ => by kernel_rfl) ?_ ?_
                · skip
                  simp [conj, maxL]
                  try dsimp only [Ty.den, Ty.dflt]
                  try simp only [rd_eta]
                  exact ⟨by show (0 : Int) ≤ 1; decide, by show nxLs mVol 1 (mkLs mVol 1 W.1.2) ≤ 1000000000; omega⟩
                refine sw_seq ?_
                refine sw_seq ?_
                refine sw_ent (st' := ⟨[.junk, .junk, .junk, .junk, .junk, .v false [.ptr ⟨3, 6, 0⟩ 0], .junk, .v false [.ptr ⟨4, 6, 0⟩ 0], .junk, sInt .i64 (nxLs mVol 1 W.1.2), sInt .i64 (nxLs mVol 1 W.1.2), .v false [.ptr ⟨12, 6, 0⟩ 0], .junk, .junk, .junk, .junk, .junk, .junk, .junk, .junk, .junk, .junk, .junk, .junk, .junk, .junk, .junk, .junk, .junk, .junk, .junk, .junk, .junk, .junk, .junk, .junk, .junk, .junk, .junk, .junk, .junk, .junk, .junk, .junk, .junk, .junk, .junk, .junk, .junk, .junk, .junk, .junk, .junk, .junk, .junk, .junk, .junk, .junk, .junk, .junk, .junk, .junk, .junk, .junk, .junk, .junk, .junk, .junk, .junk, .junk, .junk], [], 15, []⟩) (ent_ok rfl ?_) ?_
                · skip
                  simp [conj]
                  try exact hh
                refine sw_region hP 16 [] rfl (by kernel_rfl) (fun _ => by kernel_rfl) (by first | trivial | (simp [conj]; done) | (simp [conj] at *; (try dsimp only [Ty.den, Ty.dflt] at *); omega)) ?_
                refine sw_cond rfl (fun c20 => ?_) (fun c20 => ?_)
                · skip
                  have h : (nxLs mVol 1 W.1.2) < 0 := of_decide_eq_true c20
                  omega
                · skip
                  refine sw_skip ?_
                  refine sw_seq ?_
                  refine sw_seq ?_
                  refine sw_region hP 17 [] rfl (by kernel_rfl) (fun _ => by kernel_rfl) (by first | trivial | (simp [conj]; done) | (simp [conj] at *; (try dsimp only [Ty.den, Ty.dflt] at *); omega)) ?_
                  refine sw_cond rfl (fun c22 => ?_) (fun c22 => ?_)
                  · skip
                    simp at c22
                  · skip
                    refine sw_skip ?_
                    refine sw_seq ?_
                    refine sw_region hP 18 [] rfl (by kernel_rfl) (fun _ => by kernel_rfl) (by first | trivial | (simp [conj]; done) | (simp [conj] at *; (try dsimp only [Ty.den, Ty.dflt] at *); omega)) ?_
                    refine sw_ret ⟨.inl rfl, _, rfl, ?_⟩
                    simp [conj]
end Go.Sx
