import Derived.Test.YtdoennebblhfbaaMG7
import Derived.Test.YtdoennebblhfbaaMPl
set_option linter.all false
namespace Go.Sx
open Go
set_option maxRecDepth 100000
set_option linter.unusedVariables false
set_option linter.unusedSimpArgs false
set_option maxHeartbeats 4000000

def cLLess : Ctr := ⟨4, [.val false TB pF], fun _ => True, fun x => (sBool true, [])⟩
theorem cLLess_ok : CtrOk Proofs.Try.prog cLLess := by
  have hP := (((((((Prg.none ttok mtok).and cDDrop_ok).and cDrop_ok).and cIDrop_ok).and cModels_ok).and cIRead_ok).and cOkI_ok)
  refine ctr_of_body hP cLLess (fn := Proofs.Try.f4) (rts := [.tmp 2]) Proofs.Try.func4 rfl (by kernel_rfl) rfl rfl ?_
  rintro ⟨(code : List Int), ⟨⟩⟩ ⟨hdc, _⟩ hpre
  try dsimp only [Ty.den, Mode.den, mdens] at hpre
  refine ⟨rfl, ?_⟩
  obtain ⟨m, name, hmn⟩ : ∃ m name, dDrop code = (m, name) := ⟨_, _, rfl⟩
  have hcl : code.length ≤ 140737488355328 := hdc.1
  have hw : thoughtV (clDrop name) m = dropV m name := thought_drop
  refine sw_seq ?_
  refine sw_region hP 1 [] rfl (by kernel_rfl) (fun _ => by kernel_rfl) (by first | trivial | (simp [conj]; done) | (simp [conj] at *; (try dsimp only [Ty.den, Ty.dflt] at *); omega)) ?_
  refine sw_seq ?_
  refine sw_seq ?_
  refine sw_region hP 2 [] rfl (by kernel_rfl) (fun _ => by kernel_rfl) (by first | trivial | (simp [conj]; done) | (simp [conj] at *; (try dsimp only [Ty.den, Ty.dflt] at *); omega)) ?_
  refine sw_cond rfl (fun c1 => ?_) (fun c1 => ?_)
  · skip
    refine sw_seq ?_
    refine sw_region hP 3 [] rfl (by kernel_rfl) (fun _ => by kernel_rfl) (by first | trivial | (simp [conj]; done) | (simp [conj] at *; (try dsimp only [Ty.den, Ty.dflt] at *); omega)) ?_
    refine sw_ret ⟨.inl rfl, _, rfl, ?_⟩
    simp [conj]
    try exact hg
  · skip
    refine sw_skip ?_
    refine sw_seq ?_
    refine sw_region hP 3 [] rfl (by kernel_rfl) (fun _ => by kernel_rfl) (by first | trivial | (simp [conj]; done) | (simp [conj] at *; (try dsimp only [Ty.den, Ty.dflt] at *); omega)) ?_
    refine sw_seq ?_
    refine sw_ent (st' := ⟨[.junk, .junk, .junk, .v false [.ptr ⟨3, 5, 0⟩ 0], sStr name, .junk, .junk, .junk, .junk, .junk, .junk, .junk, .junk, .junk, .junk, .junk, .junk, .junk, .junk, .junk, .junk, .junk, .junk, .junk, .junk, .junk, .junk, .junk, .junk, .junk, .junk, .junk, .junk, .junk, .junk, .junk, .junk, .junk, .junk, .junk, .junk, .junk, .junk, .junk, .junk, .junk, .junk, .junk, .junk, .junk, .junk, .junk, .junk, .junk, .junk, .junk, .junk, .junk, .junk, .junk, .junk, .junk, .junk, .junk, .junk, .junk, .junk, .junk, .junk, .junk, .junk, .junk, .junk, .junk, .junk, .junk, .junk, .junk, .junk, .junk, .junk, .junk, .junk, .junk, .junk, .junk, .junk, .junk, .junk, .junk, .junk, .junk, .junk, .junk, .junk, .junk, .junk, .junk, .junk, .junk, .junk, .junk, .junk, .junk, .junk, .junk, .junk, .junk, .junk, .junk, .junk, .junk, .junk, .junk, .junk, .junk, .junk, .junk, .junk, .junk, .junk], [(⟨3, 5, 0⟩, .var [.d T_Model pF m])], 3, []⟩) (ent_ok rfl ?_) ?_
    · skip
      simp [conj, hmn]
    refine sw_region hP 4 [] rfl (by kernel_rfl) (fun _ => by kernel_rfl) trivial ?_
    refine sw_seq ?_
    refine sw_region hP 5 [] rfl (by kernel_rfl) (fun _ => by kernel_rfl) trivial ?_
    refine sw_seq ?_
    refine sw_seq ?_
    refine sw_ent (st' := ⟨[.junk, .junk, .junk, .v false [.ptr ⟨3, 5, 0⟩ 0], sStr name, .v false [.ptr ⟨4, 6, 0⟩ 0], sInt .i64 (dropV m name).2, .v false [.ptr ⟨5, 6, 0⟩ 0], sInt .i64 (dropV m name).2, .junk, .junk, .junk, .junk, .junk, .junk, .junk, .junk, .junk, .junk, .junk, .junk, .junk, .junk, .junk, .junk, .junk, .junk, .junk, .junk, .junk, .junk, .junk, .junk, .junk, .junk, .junk, .junk, .junk, .junk, .junk, .junk, .junk, .junk, .junk, .junk, .junk, .junk, .junk, .junk, .junk, .junk, .junk, .junk, .junk, .junk, .junk, .junk, .junk, .junk, .junk, .junk, .junk, .junk, .junk, .junk, .junk, .junk, .junk, .junk, .junk, .junk, .junk, .junk, .junk, .junk, .junk, .junk, .junk, .junk, .junk, .junk, .junk, .junk, .junk, .junk, .junk, .junk, .junk, .junk, .junk, .junk, .junk, .junk, .junk, .junk, .junk, .junk, .junk, .junk, .junk, .junk, .junk, .junk, .junk, .junk, .junk, .junk, .junk, .junk, .junk, .junk, .junk, .junk, .junk, .junk, .junk, .junk, .junk, .junk, .junk, .junk], [(⟨3, 5, 0⟩, .var [.d T_Model pF m]), (⟨4, 6, 0⟩, .var [.own ⟨4, 2, 0⟩]), (⟨4, 2, 0⟩, .sl T_Shelf (.all .w) (dropV m name).1), (⟨5, 6, 0⟩, .var [.d T_Model pF (dropV m name).1])], 5, []⟩) (ent_ok rfl ?_) ?_
    · skip
      simp [conj, hw]
    refine sw_dec hP 6 [] 3 rfl (fun g6_3 => ?_) (fun g6_3 => ?_)
    · skip
      simp at g6_3
    · skip
      refine sw_dec hP 6 [(3, false)] 9 rfl (fun g6_9 => ?_) (fun g6_9 => ?_)
      · skip
        simp at g6_9
      · skip
        refine sw_region hP 6 [(3, false), (9, false)] rfl (by kernel_rfl) (fun _ => by kernel_rfl) (by first | trivial | (simp [conj]; done) | (simp [conj] at *; (try dsimp only [Ty.den, Ty.dflt] at *); omega)) ?_
        refine sw_cond rfl (fun c6 => ?_) (fun c6 => ?_)
        · skip
          refine sw_seq ?_
          refine sw_dec hP 7 [] 3 rfl (fun g7_3 => ?_) (fun g7_3 => ?_)
          · skip
            refine sw_region hP 7 [(3, true)] rfl (by kernel_rfl) (fun _ => by kernel_rfl) (by first | trivial | (simp [conj]; done) | (simp [conj] at *; (try dsimp only [Ty.den, Ty.dflt] at *); omega)) ?_
            refine sw_ret ⟨.inl rfl, _, rfl, ?_⟩
            simp [conj]
            try exact hg
          · skip
            simp at g7_3
        · skip
          replace c6 : (dropV m name).2 = 0 := by simpa using c6
          obtain ⟨hg, hlen, hl⟩ := law_less c6
          have h4 := mok_len4 (dropV_zero c6).1
          refine sw_skip ?_
          refine sw_seq ?_
          refine sw_seq ?_
          refine sw_region hP 7 [] rfl (by kernel_rfl) (fun _ => by kernel_rfl) (by first | trivial | (simp [conj]; done) | (simp [conj] at *; (try dsimp only [Ty.den, Ty.dflt] at *); omega)) ?_
          refine sw_block ?_
          refine sw_loop (ι := Nat) (fun i => ⟨[.junk, .junk, .junk, .v false [.ptr ⟨3, 5, 0⟩ 0], sStr name, .v false [.ptr ⟨4, 6, 0⟩ 0], .junk, .v false [.ptr ⟨5, 6, 0⟩ 0], .junk, sInt .i64 (i : Int), .junk, .junk, .junk, .junk, .junk, .junk, .junk, .junk, .junk, .junk, .junk, .junk, .junk, .junk, .junk, .junk, .junk, .junk, .junk, .junk, .junk, .junk, .junk, .junk, .junk, .junk, .junk, .junk, .junk, .junk, .junk, .junk, .junk, .junk, .junk, .junk, .junk, .junk, .junk, .junk, .junk, .junk, .junk, .junk, .junk, .junk, .junk, .junk, .junk, .junk, .junk, .junk, .junk, .junk, .junk, .junk, .junk, .junk, .junk, .junk, .junk, .junk, .junk, .junk, .junk, .junk, .junk, .junk, .junk, .junk, .junk, .junk, .junk, .junk, .junk, .junk, .junk, .junk, .junk, .junk, .junk, .junk, .junk, .junk, .junk, .junk, .junk, .junk, .junk, .junk, .junk, .junk, .junk, .junk, .junk, .junk, .junk, .junk, .junk, .junk, .junk, .junk, .junk, .junk, .junk, .junk, .junk, .junk, .junk, .junk, .junk], [(⟨3, 5, 0⟩, .var [.d T_Model pF m]), (⟨5, 6, 0⟩, .var [.d T_Model pF (dropV m name).1])], 7, []⟩) (fun i => m.length - i) (fun i => i ≤ m.length) 0 ⟨?_, ?_⟩ ?_
          · skip
            exact Nat.zero_le _
          · refine ent_ok rfl ?_
            simp [conj]
          · rintro i hi
            refine sw_seq ?_
            refine sw_seq ?_
            refine sw_region hP 8 [] rfl (by kernel_rfl) (fun _ => by kernel_rfl) (by first | trivial | (simp [conj]; done) | (simp [conj] at *; (try dsimp only [Ty.den, Ty.dflt] at *); omega)) ?_
            refine sw_cond rfl (fun c9 => ?_) (fun c9 => ?_)
            · skip
              have hlt : i < m.length := by simpa using c9
              refine sw_skip ?_
              refine sw_seq ?_
              refine sw_block ?_
              refine sw_seq ?_
              refine sw_region hP 9 [] rfl (by kernel_rfl) (fun _ => by kernel_rfl) (by first | trivial | (simp [conj]; done) | (simp [conj] at *; (try dsimp only [Ty.den, Ty.dflt] at *); omega)) ?_
              refine sw_block ?_
              refine sw_loop (ι := Nat) (fun j => ⟨[.junk, .junk, .junk, .v false [.ptr ⟨3, 5, 0⟩ 0], sStr name, .v false [.ptr ⟨4, 6, 0⟩ 0], .junk, .v false [.ptr ⟨5, 6, 0⟩ 0], .junk, sInt .i64 (i : Int), sInt .i64 (j : Int), .junk, .junk, .junk, .junk, .junk, .junk, .junk, .junk, .junk, .junk, .junk, .junk, .junk, .junk, .junk, .junk, .junk, .junk, .junk, .junk, .junk, .junk, .junk, .junk, .junk, .junk, .junk, .junk, .junk, .junk, .junk, .junk, .junk, .junk, .junk, .junk, .junk, .junk, .junk, .junk, .junk, .junk, .junk, .junk, .junk, .junk, .junk, .junk, .junk, .junk, .junk, .junk, .junk, .junk, .junk, .junk, .junk, .junk, .junk, .junk, .junk, .junk, .junk, .junk, .junk, .junk, .junk, .junk, .junk, .junk, .junk, .junk, .junk, .junk, .junk, .junk, .junk, .junk, .junk, .junk, .junk, .junk, .junk, .junk, .junk, .junk, .junk, .junk, .junk, .junk, .junk, .junk, .junk, .junk, .junk, .junk, .junk, .junk, .junk, .junk, .junk, .junk, .junk, .junk, .junk, .junk, .junk, .junk, .junk, .junk], [(⟨3, 5, 0⟩, .var [.d T_Model pF m]), (⟨5, 6, 0⟩, .var [.d T_Model pF (dropV m name).1])], 9, []⟩) (fun j => 3 - j) (fun j => j ≤ 3) 0 ⟨?_, ?_⟩ ?_
              · skip
                exact Nat.zero_le _
              · refine ent_ok rfl ?_
                simp [conj]
              · rintro j hj
                refine sw_seq ?_
                refine sw_seq ?_
                refine sw_dec hP 10 [] 2 rfl (fun g12_2 => ?_) (fun g12_2 => ?_)
                · skip
                  have hj3 : j < 3 := by have h : ((j : Nat) : Int) < 3 := of_decide_eq_true g12_2; omega
                  refine sw_region hP 10 [(2, true)] rfl (by kernel_rfl) (fun _ => by kernel_rfl) ?_ ?_
                  · skip
                    simp [conj, maxL] at *
                    try dsimp only [Ty.den, Ty.dflt] at *
                    try simp only [rd_eta] at *
                    try first | assumption | omega | trivial
                  refine sw_cond rfl (fun c12 => ?_) (fun c12 => ?_)
                  · skip
                    have hne : ¬ m[i].1 = name := by simpa [List.getElem?_eq_getElem hlt] using c12
                    have he := hl i hlt (j : Int) (by omega) (by omega) hne
                    refine sw_skip ?_
                    refine sw_seq ?_
                    refine sw_block ?_
                    refine sw_seq ?_
                    refine sw_region hP 11 [] rfl (by kernel_rfl) (fun _ => by kernel_rfl) ?_ ?_
                    · skip
                      simp [conj, maxL]
                      try dsimp only [Ty.den, Ty.dflt]
                      try simp only [rd_eta]
                      repeat' apply And.intro
                      all_goals first | rfl | assumption | omega | trivial
                    refine sw_seq ?_
                    refine sw_region hP 12 [] rfl (by kernel_rfl) (fun _ => by kernel_rfl) ?_ ?_
                    · skip
                      simp [conj, maxL]
                      try dsimp only [Ty.den, Ty.dflt]
                      try simp only [rd_eta]
                      repeat' apply And.intro
                      all_goals first | rfl | assumption | omega | trivial
                    refine sw_seq ?_
                    refine sw_ent (st' := ⟨[.junk, .junk, .junk, .v false [.ptr ⟨3, 5, 0⟩ 0], sStr name, .v false [.ptr ⟨4, 6, 0⟩ 0], .junk, .v false [.ptr ⟨5, 6, 0⟩ 0], .junk, sInt .i64 (i : Int), sInt .i64 (j : Int), sStr (readV m m[i].1 j).1, sInt .i64 (readV m m[i].1 j).2, sStr (readV m m[i].1 j).1, sInt .i64 (readV m m[i].1 j).2, .junk, .junk, .junk, .junk, .junk, .junk, .junk, .junk, .junk, .junk, .junk, .junk, .junk, .junk, .junk, .junk, .junk, .junk, .junk, .junk, .junk, .junk, .junk, .junk, .junk, .junk, .junk, .junk, .junk, .junk, .junk, .junk, .junk, .junk, .junk, .junk, .junk, .junk, .junk, .junk, .junk, .junk, .junk, .junk, .junk, .junk, .junk, .junk, .junk, .junk, .junk, .junk, .junk, .junk, .junk, .junk, .junk, .junk, .junk, .junk, .junk, .junk, .junk, .junk, .junk, .junk, .junk, .junk, .junk, .junk, .junk, .junk, .junk, .junk, .junk, .junk, .junk, .junk, .junk, .junk, .junk, .junk, .junk, .junk, .junk, .junk, .junk, .junk, .junk, .junk, .junk, .junk, .junk, .junk, .junk, .junk, .junk, .junk, .junk, .junk, .junk, .junk, .junk, .junk, .junk, .junk], [(⟨3, 5, 0⟩, .var [.d T_Model pF m]), (⟨5, 6, 0⟩, .var [.d T_Model pF (dropV m name).1])], 12, []⟩) (ent_ok rfl ?_) ?_
                    · skip
                      simp [conj, List.getElem?_eq_getElem hlt, he]
                    refine sw_dec hP 13 [] 3 rfl (fun g16_3 => ?_) (fun g16_3 => ?_)
                    · skip
                      simp at g16_3
                    · skip
                      refine sw_region hP 13 [(3, false)] rfl (by kernel_rfl) (fun _ => by kernel_rfl) (by first | trivial | (simp [conj]; done) | (simp [conj] at *; (try dsimp only [Ty.den, Ty.dflt] at *); omega)) ?_
                      refine sw_cond rfl (fun c16 => ?_) (fun c16 => ?_)
                      · skip
                        simp at c16
                      · skip
                        refine sw_skip ?_
                        refine sw_region hP 14 [] rfl (by kernel_rfl) (fun _ => by kernel_rfl) (by first | trivial | (simp [conj]; done) | (simp [conj] at *; (try dsimp only [Ty.den, Ty.dflt] at *); omega)) ?_
                        refine ⟨j + 1, ?_, ?_, ent_ok rfl ?_⟩
                        · skip
                          exact hj3
                        · skip
                          omega
                        · skip
                          simp [conj, maxL]
                          try dsimp only [Ty.den, Ty.dflt]
                          try simp only [rd_eta]
                          repeat' apply And.intro
                          all_goals first | rfl | assumption | omega
                  · skip
                    refine sw_exit ?_
                    refine sw_region hP 11 [] rfl (by kernel_rfl) (fun _ => by kernel_rfl) (by first | trivial | (simp [conj]; done) | (simp [conj] at *; (try dsimp only [Ty.den, Ty.dflt] at *); omega)) ?_
                    refine ⟨i + 1, ?_, ?_, ent_ok rfl ?_⟩
                    · skip
                      exact hlt
                    · skip
                      omega
                    · skip
                      simp [conj, maxL]
                      try dsimp only [Ty.den, Ty.dflt]
                      try simp only [rd_eta]
                      repeat' apply And.intro
                      all_goals first | rfl | assumption | omega
                · skip
                  refine sw_region hP 10 [(2, false)] rfl (by kernel_rfl) (fun _ => by kernel_rfl) ?_ ?_
                  · skip
                    simp [conj, maxL] at *
                    try dsimp only [Ty.den, Ty.dflt] at *
                    try simp only [rd_eta] at *
                    try first | assumption | omega | trivial
                  refine sw_condF rfl ?_
                  refine sw_exit ?_
                  refine sw_region hP 11 [] rfl (by kernel_rfl) (fun _ => by kernel_rfl) (by first | trivial | (simp [conj]; done) | (simp [conj] at *; (try dsimp only [Ty.den, Ty.dflt] at *); omega)) ?_
                  refine ⟨i + 1, ?_, ?_, ent_ok rfl ?_⟩
                  · skip
                    exact hlt
                  · skip
                    omega
                  · skip
                    simp [conj, maxL]
                    try dsimp only [Ty.den, Ty.dflt]
                    try simp only [rd_eta]
                    repeat' apply And.intro
                    all_goals first | rfl | assumption | omega
            · skip
              obtain rfl : i = m.length := by simp at c9; omega
              refine sw_exit ?_
              refine sw_seq ?_
              refine sw_dec hP 9 [] 8 rfl (fun g18_8 => ?_) (fun g18_8 => ?_)
              · skip
                refine sw_region hP 9 [(8, true)] rfl (by kernel_rfl) (fun _ => by kernel_rfl) ?_ ?_
                · skip
                  simp [conj, maxL] at *
                  try dsimp only [Ty.den, Ty.dflt] at *
                  try simp only [rd_eta] at *
                  repeat' apply And.intro
                  all_goals first | trivial | rfl | assumption | omega
                refine sw_ret ⟨.inl rfl, _, rfl, ?_⟩
                simp [conj]
                try exact hg
              · skip
                have h : ¬ (((dropV m name).1.length : Nat) : Int) = (m.length : Nat) - 1 := of_decide_eq_false g18_8
                omega
end Go.Sx
