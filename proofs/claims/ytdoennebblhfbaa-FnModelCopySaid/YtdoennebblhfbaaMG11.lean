import Derived.Test.YtdoennebblhfbaaMG7
import Derived.Test.YtdoennebblhfbaaMPl
set_option linter.all false
namespace Go.Sx
open Go
set_option maxRecDepth 100000
set_option linter.unusedVariables false
set_option linter.unusedSimpArgs false
set_option maxHeartbeats 4000000

def cLCopy : Ctr := ⟨6, [.val false TB pF], fun _ => True, fun x => (sBool true, [])⟩
theorem cLCopy_ok : CtrOk Proofs.Try.prog cLCopy := by
  have hP := ((((((((Prg.none ttok mtok).and cDCopy_ok).and cCopyM_ok).and cICopy_ok).and cModels_ok).and cIWrite_ok).and cIRead_ok).and cOkI_ok)
  refine ctr_of_body hP cLCopy (fn := Proofs.Try.f6) (rts := [.tmp 2]) Proofs.Try.func6 rfl (by kernel_rfl) rfl rfl ?_
  rintro ⟨(code : List Int), ⟨⟩⟩ ⟨hdc, _⟩ hpre
  try dsimp only [Ty.den, Mode.den, mdens] at hpre
  refine ⟨rfl, ?_⟩
  obtain ⟨m, frm, name, hmn⟩ : ∃ m frm name, dCopy code = (m, frm, name) := ⟨_, _, _, rfl⟩
  have hcl : code.length ≤ 140737488355328 := hdc.1
  have hw : thoughtV (clCopy frm name) m = copyV m frm name := thought_copy
  refine sw_seq ?_
  refine sw_region hP 1 [] rfl (by kernel_rfl) (fun _ => by kernel_rfl) (by first | trivial | (simp [conj]; done) | (simp [conj] at *; (try dsimp only [Ty.den, Ty.dflt] at *); omega)) ?_
  refine sw_seq ?_
  refine sw_seq ?_
  refine sw_region hP 2 [] rfl (by kernel_rfl) (fun _ => by kernel_rfl) (by first | trivial | (simp [conj]; done) | (simp [conj] at *; (try dsimp only [Ty.den, Ty.dflt] at *); omega)) ?_
  refine sw_cond rfl (fun c1 => ?_) (fun c1 => ?_)
  · skip
    refine sw_seq ?_
    refine sw_region hP 3 [] rfl (by kernel_rfl) (fun _ => by kernel_rfl) (by first | trivial | (simp [conj]; done) | (simp [conj] at *; (try dsimp only [Ty.den, Ty.dflt] at *); omega)) ?_
    refine sw_ret ⟨.inl rfl, _, rfl, ?_⟩
    simp [conj]
    try exact hg
  · skip
    refine sw_skip ?_
    refine sw_seq ?_
    refine sw_region hP 3 [] rfl (by kernel_rfl) (fun _ => by kernel_rfl) (by first | trivial | (simp [conj]; done) | (simp [conj] at *; (try dsimp only [Ty.den, Ty.dflt] at *); omega)) ?_
    refine sw_seq ?_
    refine sw_ent (st' := ⟨[.junk, .junk, .junk, .v false [.ptr ⟨3, 6, 0⟩ 0], sStr frm, sStr name, .junk, .junk, .junk, .junk, .junk, .junk, .junk, .junk, .junk, .junk, .junk, .junk, .junk, .junk, .junk, .junk, .junk, .junk, .junk, .junk, .junk, .junk, .junk, .junk, .junk, .junk, .junk, .junk, .junk, .junk, .junk, .junk, .junk, .junk, .junk, .junk, .junk, .junk, .junk, .junk, .junk, .junk, .junk, .junk, .junk, .junk, .junk, .junk, .junk, .junk, .junk, .junk, .junk, .junk, .junk, .junk, .junk, .junk, .junk, .junk, .junk, .junk, .junk, .junk, .junk, .junk, .junk, .junk, .junk, .junk, .junk, .junk, .junk, .junk, .junk, .junk, .junk, .junk, .junk, .junk, .junk, .junk, .junk, .junk, .junk, .junk, .junk, .junk, .junk, .junk, .junk, .junk, .junk, .junk, .junk, .junk, .junk, .junk, .junk, .junk, .junk, .junk, .junk, .junk, .junk, .junk, .junk, .junk, .junk, .junk], [(⟨3, 6, 0⟩, .var [.d T_Model pF m])], 3, []⟩) (ent_ok rfl ?_) ?_
    · skip
      simp [conj, hmn]
    refine sw_region hP 4 [] rfl (by kernel_rfl) (fun _ => by kernel_rfl) trivial ?_
    refine sw_seq ?_
    refine sw_region hP 5 [] rfl (by kernel_rfl) (fun _ => by kernel_rfl) trivial ?_
    refine sw_seq ?_
    refine sw_seq ?_
    refine sw_ent (st' := ⟨[.junk, .junk, .junk, .v false [.ptr ⟨3, 6, 0⟩ 0], sStr frm, sStr name, .v false [.ptr ⟨4, 7, 0⟩ 0], sInt .i64 (copyV m frm name).2, .v false [.ptr ⟨5, 7, 0⟩ 0], sInt .i64 (copyV m frm name).2, .junk, .junk, .junk, .junk, .junk, .junk, .junk, .junk, .junk, .junk, .junk, .junk, .junk, .junk, .junk, .junk, .junk, .junk, .junk, .junk, .junk, .junk, .junk, .junk, .junk, .junk, .junk, .junk, .junk, .junk, .junk, .junk, .junk, .junk, .junk, .junk, .junk, .junk, .junk, .junk, .junk, .junk, .junk, .junk, .junk, .junk, .junk, .junk, .junk, .junk, .junk, .junk, .junk, .junk, .junk, .junk, .junk, .junk, .junk, .junk, .junk, .junk, .junk, .junk, .junk, .junk, .junk, .junk, .junk, .junk, .junk, .junk, .junk, .junk, .junk, .junk, .junk, .junk, .junk, .junk, .junk, .junk, .junk, .junk, .junk, .junk, .junk, .junk, .junk, .junk, .junk, .junk, .junk, .junk, .junk, .junk, .junk, .junk, .junk, .junk, .junk, .junk, .junk, .junk, .junk, .junk], [(⟨3, 6, 0⟩, .var [.d T_Model pF m]), (⟨4, 7, 0⟩, .var [.own ⟨4, 3, 0⟩]), (⟨4, 3, 0⟩, .sl T_Shelf (.all .w) (copyV m frm name).1), (⟨5, 7, 0⟩, .var [.d T_Model pF (copyV m frm name).1])], 5, []⟩) (ent_ok rfl ?_) ?_
    · skip
      simp [conj, hw]
    refine sw_dec hP 6 [] 3 rfl (fun g6_3 => ?_) (fun g6_3 => ?_)
    · skip
      simp at g6_3
    · skip
      refine sw_dec hP 6 [(3, false)] 9 rfl (fun g6_9 => ?_) (fun g6_9 => ?_)
      · skip
        simp at g6_9
      · skip
        refine sw_region hP 6 [(3, false), (9, false)] rfl (by kernel_rfl) (fun _ => by kernel_rfl) (by first | trivial | (simp [conj]; done) | (simp [conj] at *; (try dsimp only [Ty.den, Ty.dflt] at *); omega)) ?_
        refine sw_cond rfl (fun c6 => ?_) (fun c6 => ?_)
        · skip
          refine sw_seq ?_
          refine sw_dec hP 7 [] 3 rfl (fun g7_3 => ?_) (fun g7_3 => ?_)
          · skip
            refine sw_region hP 7 [(3, true)] rfl (by kernel_rfl) (fun _ => by kernel_rfl) (by first | trivial | (simp [conj]; done) | (simp [conj] at *; (try dsimp only [Ty.den, Ty.dflt] at *); omega)) ?_
            refine sw_ret ⟨.inl rfl, _, rfl, ?_⟩
            simp [conj]
            try exact hg
          · skip
            simp at g7_3
        · skip
          replace c6 : (copyV m frm name).2 = 0 := by simpa using c6
          obtain ⟨hg, hx, hl⟩ := law_copy (other := [111, 116, 104, 101, 114]) c6 (by decide)
          have hw2 : thoughtV (clWrite frm 0 [111, 116, 104, 101, 114]) (copyV m frm name).1 = writeV (copyV m frm name).1 frm 0 [111, 116, 104, 101, 114] := thought_write
          refine sw_skip ?_
          refine sw_seq ?_
          refine sw_region hP 7 [] rfl (by kernel_rfl) (fun _ => by kernel_rfl) ?_ ?_
          · skip
            simp [conj, maxL]
            try dsimp only [Ty.den, Ty.dflt]
            try simp only [rd_eta]
            trivial
          refine sw_seq ?_
          refine sw_seq ?_
          refine sw_ent (st' := ⟨[.junk, .junk, .junk, .v false [.ptr ⟨3, 6, 0⟩ 0], sStr frm, sStr name, .v false [.ptr ⟨4, 7, 0⟩ 0], .junk, .v false [.ptr ⟨5, 7, 0⟩ 0], .junk, .v false [.ptr ⟨7, 6, 0⟩ 0], sInt .i64 0, .junk, .junk, .junk, .junk, .junk, .junk, .junk, .junk, .junk, .junk, .junk, .junk, .junk, .junk, .junk, .junk, .junk, .junk, .junk, .junk, .junk, .junk, .junk, .junk, .junk, .junk, .junk, .junk, .junk, .junk, .junk, .junk, .junk, .junk, .junk, .junk, .junk, .junk, .junk, .junk, .junk, .junk, .junk, .junk, .junk, .junk, .junk, .junk, .junk, .junk, .junk, .junk, .junk, .junk, .junk, .junk, .junk, .junk, .junk, .junk, .junk, .junk, .junk, .junk, .junk, .junk, .junk, .junk, .junk, .junk, .junk, .junk, .junk, .junk, .junk, .junk, .junk, .junk, .junk, .junk, .junk, .junk, .junk, .junk, .junk, .junk, .junk, .junk, .junk, .junk, .junk, .junk, .junk, .junk, .junk, .junk, .junk, .junk, .junk, .junk, .junk, .junk, .junk, .junk], [(⟨5, 7, 0⟩, .var [.d T_Model pF (copyV m frm name).1]), (⟨7, 6, 0⟩, .var [.d T_Model pF (writeV (copyV m frm name).1 frm 0 [111, 116, 104, 101, 114]).1])], 7, []⟩) (ent_ok rfl ?_) ?_
          · skip
            simp [conj]
            exact ⟨congrArg Prod.fst hw2, (congrArg Prod.snd hw2).trans hx⟩
          refine sw_region hP 8 [] rfl (by kernel_rfl) (fun _ => by kernel_rfl) (by first | trivial | (simp [conj]; done) | (simp [conj] at *; (try dsimp only [Ty.den, Ty.dflt] at *); omega)) ?_
          refine sw_block ?_
          refine sw_loop (ι := Nat) (fun j => ⟨[.junk, .junk, .junk, .v false [.ptr ⟨3, 6, 0⟩ 0], sStr frm, sStr name, .v false [.ptr ⟨4, 7, 0⟩ 0], .junk, .v false [.ptr ⟨5, 7, 0⟩ 0], .junk, .v false [.ptr ⟨7, 6, 0⟩ 0], sInt .i64 0, sInt .i64 (j : Int), .junk, .junk, .junk, .junk, .junk, .junk, .junk, .junk, .junk, .junk, .junk, .junk, .junk, .junk, .junk, .junk, .junk, .junk, .junk, .junk, .junk, .junk, .junk, .junk, .junk, .junk, .junk, .junk, .junk, .junk, .junk, .junk, .junk, .junk, .junk, .junk, .junk, .junk, .junk, .junk, .junk, .junk, .junk, .junk, .junk, .junk, .junk, .junk, .junk, .junk, .junk, .junk, .junk, .junk, .junk, .junk, .junk, .junk, .junk, .junk, .junk, .junk, .junk, .junk, .junk, .junk, .junk, .junk, .junk, .junk, .junk, .junk, .junk, .junk, .junk, .junk, .junk, .junk, .junk, .junk, .junk, .junk, .junk, .junk, .junk, .junk, .junk, .junk, .junk, .junk, .junk, .junk, .junk, .junk, .junk, .junk, .junk, .junk, .junk, .junk, .junk, .junk, .junk], [(⟨5, 7, 0⟩, .var [.d T_Model pF (copyV m frm name).1]), (⟨7, 6, 0⟩, .var [.d T_Model pF (writeV (copyV m frm name).1 frm 0 [111, 116, 104, 101, 114]).1])], 8, []⟩) (fun j => 3 - j) (fun j => j ≤ 3) 0 ⟨?_, ?_⟩ ?_
          · skip
            exact Nat.zero_le _
          · refine ent_ok rfl ?_
            simp [conj]
          · rintro j hj
            refine sw_seq ?_
            refine sw_seq ?_
            refine sw_region hP 9 [] rfl (by kernel_rfl) (fun _ => by kernel_rfl) (by first | trivial | (simp [conj]; done) | (simp [conj] at *; (try dsimp only [Ty.den, Ty.dflt] at *); omega)) ?_
            refine sw_cond rfl (fun c10 => ?_) (fun c10 => ?_)
            · skip
              have hj3 : j < 3 := by have h : ((j : Nat) : Int) < 3 := of_decide_eq_true c10; omega
              refine sw_skip ?_
              refine sw_seq ?_
              refine sw_block ?_
              refine sw_seq ?_
              refine sw_region hP 10 [] rfl (by kernel_rfl) (fun _ => by kernel_rfl) ?_ ?_
              · skip
                simp [conj, maxL]
                try dsimp only [Ty.den, Ty.dflt]
                try simp only [rd_eta]
                repeat' apply And.intro
                all_goals first | rfl | assumption | omega | trivial
              refine sw_seq ?_
              refine sw_region hP 11 [] rfl (by kernel_rfl) (fun _ => by kernel_rfl) ?_ ?_
              · skip
                simp [conj, maxL]
                try dsimp only [Ty.den, Ty.dflt]
                try simp only [rd_eta]
                repeat' apply And.intro
                all_goals first | rfl | assumption | omega | trivial
              refine sw_seq ?_
              refine sw_region hP 12 [] rfl (by kernel_rfl) (fun _ => by kernel_rfl) ?_ ?_
              · skip
                simp [conj, maxL]
                try dsimp only [Ty.den, Ty.dflt]
                try simp only [rd_eta]
                repeat' apply And.intro
                all_goals first | rfl | assumption | omega | trivial
              refine sw_seq ?_
              obtain ⟨t, e1, e2, e3⟩ := hl (j : Int) (by omega) (by omega)
              refine sw_ent (st' := ⟨[.junk, .junk, .junk, .v false [.ptr ⟨3, 6, 0⟩ 0], sStr frm, sStr name, .v false [.ptr ⟨4, 7, 0⟩ 0], .junk, .v false [.ptr ⟨5, 7, 0⟩ 0], .junk, .v false [.ptr ⟨7, 6, 0⟩ 0], sInt .i64 0, sInt .i64 (j : Int), sStr t, sInt .i64 0, sStr t, sInt .i64 0, sStr t, sInt .i64 0, .junk, .junk, .junk, .junk, .junk, .junk, .junk, .junk, .junk, .junk, .junk, .junk, .junk, .junk, .junk, .junk, .junk, .junk, .junk, .junk, .junk, .junk, .junk, .junk, .junk, .junk, .junk, .junk, .junk, .junk, .junk, .junk, .junk, .junk, .junk, .junk, .junk, .junk, .junk, .junk, .junk, .junk, .junk, .junk, .junk, .junk, .junk, .junk, .junk, .junk, .junk, .junk, .junk, .junk, .junk, .junk, .junk, .junk, .junk, .junk, .junk, .junk, .junk, .junk, .junk, .junk, .junk, .junk, .junk, .junk, .junk, .junk, .junk, .junk, .junk, .junk, .junk, .junk, .junk, .junk, .junk, .junk, .junk, .junk, .junk, .junk, .junk, .junk, .junk, .junk, .junk, .junk, .junk, .junk, .junk, .junk, .junk], [(⟨5, 7, 0⟩, .var [.d T_Model pF (copyV m frm name).1]), (⟨7, 6, 0⟩, .var [.d T_Model pF (writeV (copyV m frm name).1 frm 0 [111, 116, 104, 101, 114]).1])], 12, []⟩) (ent_ok rfl ?_) ?_
              · skip
                simp [conj, e1, e2, e3]
              refine sw_dec hP 13 [] 3 rfl (fun g15_3 => ?_) (fun g15_3 => ?_)
              · skip
                simp at g15_3
              · skip
                refine sw_dec hP 13 [(3, false)] 8 rfl (fun g15_8 => ?_) (fun g15_8 => ?_)
                · skip
                  simp at g15_8
                · skip
                  refine sw_region hP 13 [(3, false), (8, false)] rfl (by kernel_rfl) (fun _ => by kernel_rfl) ?_ ?_
                  · skip
                    simp [conj, maxL] at *
                    try dsimp only [Ty.den, Ty.dflt] at *
                    try simp only [rd_eta] at *
                    repeat' apply And.intro
                    all_goals first | trivial | rfl | assumption | omega
                  refine sw_cond rfl (fun c15 => ?_) (fun c15 => ?_)
                  · skip
                    simp at c15
                  · skip
                    refine sw_skip ?_
                    refine sw_region hP 14 [] rfl (by kernel_rfl) (fun _ => by kernel_rfl) (by first | trivial | (simp [conj]; done) | (simp [conj] at *; (try dsimp only [Ty.den, Ty.dflt] at *); omega)) ?_
                    refine ⟨j + 1, ?_, ?_, ent_ok rfl ?_⟩
                    · skip
                      exact hj3
                    · skip
                      omega
                    · skip
                      simp [conj, maxL]
                      try dsimp only [Ty.den, Ty.dflt]
                      try simp only [rd_eta]
                      repeat' apply And.intro
                      all_goals first | rfl | assumption | omega
            · skip
              refine sw_exit ?_
              refine sw_seq ?_
              refine sw_dec hP 10 [] 2 rfl (fun g17_2 => ?_) (fun g17_2 => ?_)
              · skip
                refine sw_region hP 10 [(2, true)] rfl (by kernel_rfl) (fun _ => by kernel_rfl) (by first | trivial | (simp [conj]; done) | (simp [conj] at *; (try dsimp only [Ty.den, Ty.dflt] at *); omega)) ?_
                refine sw_ret ⟨.inl rfl, _, rfl, ?_⟩
                simp [conj]
                try exact hg
              · skip
                simp at g17_2
end Go.Sx
