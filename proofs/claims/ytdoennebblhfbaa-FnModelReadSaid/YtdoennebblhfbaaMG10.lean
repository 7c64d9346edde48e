import Derived.Test.YtdoennebblhfbaaMG7
import Derived.Test.YtdoennebblhfbaaMPl
set_option linter.all false
namespace Go.Sx
open Go
set_option maxRecDepth 100000
set_option linter.unusedVariables false
set_option linter.unusedSimpArgs false
set_option maxHeartbeats 4000000

def cLRead : Ctr := ⟨3, [.val false TB pF], fun _ => True, fun x => (sBool true, [])⟩
theorem cLRead_ok : CtrOk Proofs.Try.prog cLRead := by
  have hP := (((((((Prg.none ttok mtok).and cDWrite_ok).and cWrite_ok).and cIWrite_ok).and cModels_ok).and cIRead_ok).and cOkI_ok)
  refine ctr_of_body hP cLRead (fn := Proofs.Try.f3) (rts := [.tmp 2]) Proofs.Try.func3 rfl (by kernel_rfl) rfl rfl ?_
  rintro ⟨(code : List Int), ⟨⟩⟩ ⟨hdc, _⟩ hpre
  try dsimp only [Ty.den, Mode.den, mdens] at hpre
  refine ⟨rfl, ?_⟩
  obtain ⟨m, name, block, text, hmn⟩ : ∃ m name block text, dWrite code = (m, name, block, text) := ⟨_, _, _, _, rfl⟩
  have hcl : code.length ≤ 140737488355328 := hdc.1
  have hw : thoughtV (clWrite name block text) m = writeV m name block text := thought_write
  refine sw_seq ?_
  refine sw_region hP 1 [] rfl (by kernel_rfl) (fun _ => by kernel_rfl) (by first | trivial | (simp [conj]; done) | (simp [conj] at *; (try dsimp only [Ty.den, Ty.dflt] at *); omega)) ?_
  refine sw_seq ?_
  refine sw_seq ?_
  refine sw_region hP 2 [] rfl (by kernel_rfl) (fun _ => by kernel_rfl) (by first | trivial | (simp [conj]; done) | (simp [conj] at *; (try dsimp only [Ty.den, Ty.dflt] at *); omega)) ?_
  refine sw_cond rfl (fun c1 => ?_) (fun c1 => ?_)
  · skip
    refine sw_seq ?_
    refine sw_region hP 3 [] rfl (by kernel_rfl) (fun _ => by kernel_rfl) (by first | trivial | (simp [conj]; done) | (simp [conj] at *; (try dsimp only [Ty.den, Ty.dflt] at *); omega)) ?_
    refine sw_ret ⟨.inl rfl, _, rfl, ?_⟩
    simp [conj]
    try exact hg
  · skip
    refine sw_skip ?_
    refine sw_seq ?_
    refine sw_region hP 3 [] rfl (by kernel_rfl) (fun _ => by kernel_rfl) (by first | trivial | (simp [conj]; done) | (simp [conj] at *; (try dsimp only [Ty.den, Ty.dflt] at *); omega)) ?_
    refine sw_seq ?_
    refine sw_ent (st' := ⟨[.junk, .junk, .junk, .v false [.ptr ⟨3, 7, 0⟩ 0], sStr name, sInt .i64 block, sStr text, .junk, .junk, .junk, .junk, .junk, .junk, .junk, .junk, .junk, .junk, .junk, .junk, .junk, .junk, .junk, .junk, .junk, .junk, .junk, .junk, .junk, .junk, .junk, .junk, .junk, .junk, .junk, .junk, .junk, .junk, .junk, .junk, .junk, .junk, .junk, .junk, .junk, .junk, .junk, .junk, .junk, .junk, .junk, .junk, .junk, .junk, .junk, .junk, .junk, .junk, .junk, .junk, .junk, .junk, .junk, .junk, .junk, .junk, .junk, .junk, .junk, .junk, .junk, .junk, .junk, .junk, .junk, .junk, .junk, .junk, .junk, .junk, .junk, .junk, .junk, .junk, .junk, .junk, .junk, .junk, .junk, .junk, .junk, .junk, .junk, .junk, .junk, .junk, .junk, .junk, .junk, .junk, .junk, .junk, .junk, .junk, .junk, .junk, .junk, .junk, .junk, .junk, .junk, .junk, .junk, .junk, .junk, .junk, .junk, .junk, .junk, .junk, .junk, .junk, .junk], [(⟨3, 7, 0⟩, .var [.d T_Model pF m])], 3, []⟩) (ent_ok rfl ?_) ?_
    · skip
      simp [conj, hmn]
    refine sw_region hP 4 [] rfl (by kernel_rfl) (fun _ => by kernel_rfl) trivial ?_
    refine sw_seq ?_
    refine sw_region hP 5 [] rfl (by kernel_rfl) (fun _ => by kernel_rfl) trivial ?_
    refine sw_seq ?_
    refine sw_seq ?_
    refine sw_ent (st' := ⟨[.junk, .junk, .junk, .v false [.ptr ⟨3, 7, 0⟩ 0], sStr name, sInt .i64 block, sStr text, .v false [.ptr ⟨4, 8, 0⟩ 0], sInt .i64 (writeV m name block text).2, .v false [.ptr ⟨5, 8, 0⟩ 0], sInt .i64 (writeV m name block text).2, .junk, .junk, .junk, .junk, .junk, .junk, .junk, .junk, .junk, .junk, .junk, .junk, .junk, .junk, .junk, .junk, .junk, .junk, .junk, .junk, .junk, .junk, .junk, .junk, .junk, .junk, .junk, .junk, .junk, .junk, .junk, .junk, .junk, .junk, .junk, .junk, .junk, .junk, .junk, .junk, .junk, .junk, .junk, .junk, .junk, .junk, .junk, .junk, .junk, .junk, .junk, .junk, .junk, .junk, .junk, .junk, .junk, .junk, .junk, .junk, .junk, .junk, .junk, .junk, .junk, .junk, .junk, .junk, .junk, .junk, .junk, .junk, .junk, .junk, .junk, .junk, .junk, .junk, .junk, .junk, .junk, .junk, .junk, .junk, .junk, .junk, .junk, .junk, .junk, .junk, .junk, .junk, .junk, .junk, .junk, .junk, .junk, .junk, .junk, .junk, .junk, .junk, .junk, .junk, .junk, .junk, .junk, .junk, .junk, .junk, .junk], [(⟨3, 7, 0⟩, .var [.d T_Model pF m]), (⟨4, 8, 0⟩, .var [.own ⟨4, 4, 0⟩]), (⟨4, 4, 0⟩, .sl T_Shelf (.all .w) (writeV m name block text).1), (⟨5, 8, 0⟩, .var [.d T_Model pF (writeV m name block text).1])], 5, []⟩) (ent_ok rfl ?_) ?_
    · skip
      simp [conj, hw]
    refine sw_dec hP 6 [] 3 rfl (fun g6_3 => ?_) (fun g6_3 => ?_)
    · skip
      simp at g6_3
    · skip
      refine sw_dec hP 6 [(3, false)] 9 rfl (fun g6_9 => ?_) (fun g6_9 => ?_)
      · skip
        simp at g6_9
      · skip
        refine sw_region hP 6 [(3, false), (9, false)] rfl (by kernel_rfl) (fun _ => by kernel_rfl) (by first | trivial | (simp [conj]; done) | (simp [conj] at *; (try dsimp only [Ty.den, Ty.dflt] at *); omega)) ?_
        refine sw_cond rfl (fun c6 => ?_) (fun c6 => ?_)
        · skip
          refine sw_seq ?_
          refine sw_dec hP 7 [] 3 rfl (fun g7_3 => ?_) (fun g7_3 => ?_)
          · skip
            refine sw_region hP 7 [(3, true)] rfl (by kernel_rfl) (fun _ => by kernel_rfl) (by first | trivial | (simp [conj]; done) | (simp [conj] at *; (try dsimp only [Ty.den, Ty.dflt] at *); omega)) ?_
            refine sw_ret ⟨.inl rfl, _, rfl, ?_⟩
            simp [conj]
            try exact hg
          · skip
            simp at g7_3
        · skip
          replace c6 : (writeV m name block text).2 = 0 := by simpa using c6
          obtain ⟨hg, hl⟩ := law_read c6
          have h4 := mok_len4 (writeV_zero c6).1
          refine sw_skip ?_
          refine sw_seq ?_
          refine sw_seq ?_
          refine sw_region hP 7 [] rfl (by kernel_rfl) (fun _ => by kernel_rfl) (by first | trivial | (simp [conj]; done) | (simp [conj] at *; (try dsimp only [Ty.den, Ty.dflt] at *); omega)) ?_
          refine sw_block ?_
          refine sw_loop (ι := Nat) (fun i => ⟨[.junk, .junk, .junk, .v false [.ptr ⟨3, 7, 0⟩ 0], sStr name, sInt .i64 block, sStr text, .v false [.ptr ⟨4, 8, 0⟩ 0], .junk, .v false [.ptr ⟨5, 8, 0⟩ 0], .junk, sInt .i64 (i : Int), .junk, .junk, .junk, .junk, .junk, .junk, .junk, .junk, .junk, .junk, .junk, .junk, .junk, .junk, .junk, .junk, .junk, .junk, .junk, .junk, .junk, .junk, .junk, .junk, .junk, .junk, .junk, .junk, .junk, .junk, .junk, .junk, .junk, .junk, .junk, .junk, .junk, .junk, .junk, .junk, .junk, .junk, .junk, .junk, .junk, .junk, .junk, .junk, .junk, .junk, .junk, .junk, .junk, .junk, .junk, .junk, .junk, .junk, .junk, .junk, .junk, .junk, .junk, .junk, .junk, .junk, .junk, .junk, .junk, .junk, .junk, .junk, .junk, .junk, .junk, .junk, .junk, .junk, .junk, .junk, .junk, .junk, .junk, .junk, .junk, .junk, .junk, .junk, .junk, .junk, .junk, .junk, .junk, .junk, .junk, .junk, .junk, .junk, .junk, .junk, .junk, .junk, .junk, .junk, .junk, .junk, .junk, .junk, .junk, .junk], [(⟨3, 7, 0⟩, .var [.d T_Model pF m]), (⟨5, 8, 0⟩, .var [.d T_Model pF (writeV m name block text).1])], 7, []⟩) (fun i => m.length - i) (fun i => i ≤ m.length) 0 ⟨?_, ?_⟩ ?_
          · skip
            exact Nat.zero_le _
          · refine ent_ok rfl ?_
            simp [conj]
          · rintro i hi
            refine sw_seq ?_
            refine sw_seq ?_
            refine sw_region hP 8 [] rfl (by kernel_rfl) (fun _ => by kernel_rfl) (by first | trivial | (simp [conj]; done) | (simp [conj] at *; (try dsimp only [Ty.den, Ty.dflt] at *); omega)) ?_
            refine sw_cond rfl (fun c9 => ?_) (fun c9 => ?_)
            · skip
              have hlt : i < m.length := by simpa using c9
              refine sw_skip ?_
              refine sw_seq ?_
              refine sw_block ?_
              refine sw_seq ?_
              refine sw_region hP 9 [] rfl (by kernel_rfl) (fun _ => by kernel_rfl) (by first | trivial | (simp [conj]; done) | (simp [conj] at *; (try dsimp only [Ty.den, Ty.dflt] at *); omega)) ?_
              refine sw_block ?_
              refine sw_loop (ι := Nat) (fun j => ⟨[.junk, .junk, .junk, .v false [.ptr ⟨3, 7, 0⟩ 0], sStr name, sInt .i64 block, sStr text, .v false [.ptr ⟨4, 8, 0⟩ 0], .junk, .v false [.ptr ⟨5, 8, 0⟩ 0], .junk, sInt .i64 (i : Int), sInt .i64 (j : Int), .junk, .junk, .junk, .junk, .junk, .junk, .junk, .junk, .junk, .junk, .junk, .junk, .junk, .junk, .junk, .junk, .junk, .junk, .junk, .junk, .junk, .junk, .junk, .junk, .junk, .junk, .junk, .junk, .junk, .junk, .junk, .junk, .junk, .junk, .junk, .junk, .junk, .junk, .junk, .junk, .junk, .junk, .junk, .junk, .junk, .junk, .junk, .junk, .junk, .junk, .junk, .junk, .junk, .junk, .junk, .junk, .junk, .junk, .junk, .junk, .junk, .junk, .junk, .junk, .junk, .junk, .junk, .junk, .junk, .junk, .junk, .junk, .junk, .junk, .junk, .junk, .junk, .junk, .junk, .junk, .junk, .junk, .junk, .junk, .junk, .junk, .junk, .junk, .junk, .junk, .junk, .junk, .junk, .junk, .junk, .junk, .junk, .junk, .junk, .junk, .junk, .junk, .junk, .junk, .junk, .junk, .junk, .junk, .junk], [(⟨3, 7, 0⟩, .var [.d T_Model pF m]), (⟨5, 8, 0⟩, .var [.d T_Model pF (writeV m name block text).1])], 9, []⟩) (fun j => 3 - j) (fun j => j ≤ 3) 0 ⟨?_, ?_⟩ ?_
              · skip
                exact Nat.zero_le _
              · refine ent_ok rfl ?_
                simp [conj]
              · rintro j hj
                refine sw_seq ?_
                refine sw_seq ?_
                refine sw_region hP 10 [] rfl (by kernel_rfl) (fun _ => by kernel_rfl) (by first | trivial | (simp [conj]; done) | (simp [conj] at *; (try dsimp only [Ty.den, Ty.dflt] at *); omega)) ?_
                refine sw_cond rfl (fun c12 => ?_) (fun c12 => ?_)
                · skip
                  have hj3 : j < 3 := by have h : ((j : Nat) : Int) < 3 := of_decide_eq_true c12; omega
                  obtain ⟨hl1, hl2⟩ := hl i hlt (j : Int) (by omega) (by omega)
                  refine sw_skip ?_
                  refine sw_seq ?_
                  refine sw_block ?_
                  refine sw_seq ?_
                  refine sw_region hP 11 [] rfl (by kernel_rfl) (fun _ => by kernel_rfl) ?_ ?_
                  · skip
                    simp [conj, maxL]
                    try dsimp only [Ty.den, Ty.dflt]
                    try simp only [rd_eta]
                    repeat' apply And.intro
                    all_goals first | rfl | assumption | omega | trivial
                  refine sw_seq ?_
                  refine sw_region hP 12 [] rfl (by kernel_rfl) (fun _ => by kernel_rfl) ?_ ?_
                  · skip
                    simp [conj, maxL]
                    try dsimp only [Ty.den, Ty.dflt]
                    try simp only [rd_eta]
                    repeat' apply And.intro
                    all_goals first | rfl | assumption | omega | trivial
                  refine sw_seq ?_
                  refine sw_seq ?_
                  refine sw_ent (st' := ⟨[.junk, .junk, .junk, .v false [.ptr ⟨3, 7, 0⟩ 0], sStr name, sInt .i64 block, sStr text, .v false [.ptr ⟨4, 8, 0⟩ 0], .junk, .v false [.ptr ⟨5, 8, 0⟩ 0], .junk, sInt .i64 (i : Int), sInt .i64 (j : Int), sStr (readV m m[i].1 j).1, .junk, sStr (readV (writeV m name block text).1 m[i].1 j).1, sInt .i64 0, .junk, .junk, .junk, .junk, .junk, .junk, .junk, .junk, .junk, .junk, .junk, .junk, .junk, .junk, .junk, .junk, .junk, .junk, .junk, .junk, .junk, .junk, .junk, .junk, .junk, .junk, .junk, .junk, .junk, .junk, .junk, .junk, .junk, .junk, .junk, .junk, .junk, .junk, .junk, .junk, .junk, .junk, .junk, .junk, .junk, .junk, .junk, .junk, .junk, .junk, .junk, .junk, .junk, .junk, .junk, .junk, .junk, .junk, .junk, .junk, .junk, .junk, .junk, .junk, .junk, .junk, .junk, .junk, .junk, .junk, .junk, .junk, .junk, .junk, .junk, .junk, .junk, .junk, .junk, .junk, .junk, .junk, .junk, .junk, .junk, .junk, .junk, .junk, .junk, .junk, .junk, .junk, .junk, .junk, .junk, .junk, .junk, .junk, .junk, .junk, .junk, .junk, .junk, .junk, .junk], [(⟨3, 7, 0⟩, .var [.d T_Model pF m]), (⟨5, 8, 0⟩, .var [.d T_Model pF (writeV m name block text).1])], 12, []⟩) (ent_ok rfl ?_) ?_
                  · skip
                    simp [conj, List.getElem?_eq_getElem hlt, hl1]
                  refine sw_dec hP 13 [] 8 rfl (fun g16_8 => ?_) (fun g16_8 => ?_)
                  · skip
                    have hn : m[i].1 = name := by simpa [List.getElem?_eq_getElem hlt] using g16_8
                    refine sw_region hP 13 [(8, true)] rfl (by kernel_rfl) (fun _ => by kernel_rfl) ?_ ?_
                    · skip
                      simp [conj, maxL] at *
                      try dsimp only [Ty.den, Ty.dflt] at *
                      try simp only [rd_eta] at *
                      repeat' apply And.intro
                      all_goals first | trivial | rfl | assumption | omega
                    refine sw_cond rfl (fun c16 => ?_) (fun c16 => ?_)
                    · skip
                      have hj2 : ((j : Nat) : Int) = block := of_decide_eq_true c16
                      have he : (readV (writeV m name block text).1 m[i].1 j).1 = text := by rw [hl2, if_pos ⟨hn, hj2⟩]
                      refine sw_region hP 14 [] rfl (by kernel_rfl) (fun _ => by kernel_rfl) (by first | trivial | (simp [conj]; done) | (simp [conj] at *; (try dsimp only [Ty.den, Ty.dflt] at *); omega)) ?_
                      refine sw_seq ?_
                      refine sw_dec hP 15 [] 3 rfl (fun g18_3 => ?_) (fun g18_3 => ?_)
                      · skip
                        simp [he] at g18_3
                      · skip
                        refine sw_region hP 15 [(3, false)] rfl (by kernel_rfl) (fun _ => by kernel_rfl) (by first | trivial | (simp [conj]; done) | (simp [conj] at *; (try dsimp only [Ty.den, Ty.dflt] at *); omega)) ?_
                        refine sw_cond rfl (fun c18 => ?_) (fun c18 => ?_)
                        · skip
                          simp at c18
                        · skip
                          refine sw_skip ?_
                          refine sw_region hP 16 [] rfl (by kernel_rfl) (fun _ => by kernel_rfl) (by first | trivial | (simp [conj]; done) | (simp [conj] at *; (try dsimp only [Ty.den, Ty.dflt] at *); omega)) ?_
                          refine ⟨j + 1, ?_, ?_, ent_ok rfl ?_⟩
                          · skip
                            exact hj3
                          · skip
                            omega
                          · skip
                            simp [conj, maxL]
                            try dsimp only [Ty.den, Ty.dflt]
                            try simp only [rd_eta]
                            repeat' apply And.intro
                            all_goals first | rfl | assumption | omega
                    · skip
                      have hj2 : ¬ ((j : Nat) : Int) = block := of_decide_eq_false c16
                      have he : (readV (writeV m name block text).1 m[i].1 j).1 = (readV m m[i].1 j).1 := by rw [hl2, if_neg (fun h => hj2 h.2)]
                      refine sw_skip ?_
                      refine sw_seq ?_
                      refine sw_dec hP 14 [] 3 rfl (fun g18_3 => ?_) (fun g18_3 => ?_)
                      · skip
                        simp [he] at g18_3
                      · skip
                        refine sw_region hP 14 [(3, false)] rfl (by kernel_rfl) (fun _ => by kernel_rfl) (by first | trivial | (simp [conj]; done) | (simp [conj] at *; (try dsimp only [Ty.den, Ty.dflt] at *); omega)) ?_
                        refine sw_cond rfl (fun c18 => ?_) (fun c18 => ?_)
                        · skip
                          simp at c18
                        · skip
                          refine sw_skip ?_
                          refine sw_region hP 15 [] rfl (by kernel_rfl) (fun _ => by kernel_rfl) (by first | trivial | (simp [conj]; done) | (simp [conj] at *; (try dsimp only [Ty.den, Ty.dflt] at *); omega)) ?_
                          refine ⟨j + 1, ?_, ?_, ent_ok rfl ?_⟩
                          · skip
                            exact hj3
                          · skip
                            omega
                          · skip
                            simp [conj, maxL]
                            try dsimp only [Ty.den, Ty.dflt]
                            try simp only [rd_eta]
                            repeat' apply And.intro
                            all_goals first | rfl | assumption | omega
                  · skip
                    have hn : ¬ m[i].1 = name := by simpa [List.getElem?_eq_getElem hlt] using g16_8
                    have he : (readV (writeV m name block text).1 m[i].1 j).1 = (readV m m[i].1 j).1 := by rw [hl2, if_neg (fun h => hn h.1)]
                    refine sw_region hP 13 [(8, false)] rfl (by kernel_rfl) (fun _ => by kernel_rfl) ?_ ?_
                    · skip
                      simp [conj, maxL] at *
                      try dsimp only [Ty.den, Ty.dflt] at *
                      try simp only [rd_eta] at *
                      repeat' apply And.intro
                      all_goals first | trivial | rfl | assumption | omega
                    refine sw_condF rfl ?_
                    refine sw_skip ?_
                    refine sw_seq ?_
                    refine sw_dec hP 14 [] 3 rfl (fun g18_3 => ?_) (fun g18_3 => ?_)
                    · skip
                      simp [he] at g18_3
                    · skip
                      refine sw_region hP 14 [(3, false)] rfl (by kernel_rfl) (fun _ => by kernel_rfl) (by first | trivial | (simp [conj]; done) | (simp [conj] at *; (try dsimp only [Ty.den, Ty.dflt] at *); omega)) ?_
                      refine sw_cond rfl (fun c18 => ?_) (fun c18 => ?_)
                      · skip
                        simp at c18
                      · skip
                        refine sw_skip ?_
                        refine sw_region hP 15 [] rfl (by kernel_rfl) (fun _ => by kernel_rfl) (by first | trivial | (simp [conj]; done) | (simp [conj] at *; (try dsimp only [Ty.den, Ty.dflt] at *); omega)) ?_
                        refine ⟨j + 1, ?_, ?_, ent_ok rfl ?_⟩
                        · skip
                          exact hj3
                        · skip
                          omega
                        · skip
                          simp [conj, maxL]
                          try dsimp only [Ty.den, Ty.dflt]
                          try simp only [rd_eta]
                          repeat' apply And.intro
                          all_goals first | rfl | assumption | omega
                · skip
                  refine sw_exit ?_
                  refine sw_region hP 11 [] rfl (by kernel_rfl) (fun _ => by kernel_rfl) (by first | trivial | (simp [conj]; done) | (simp [conj] at *; (try dsimp only [Ty.den, Ty.dflt] at *); omega)) ?_
                  refine ⟨i + 1, ?_, ?_, ent_ok rfl ?_⟩
                  · skip
                    exact hlt
                  · skip
                    omega
                  · skip
                    simp [conj, maxL]
                    try dsimp only [Ty.den, Ty.dflt]
                    try simp only [rd_eta]
                    repeat' apply And.intro
                    all_goals first | rfl | assumption | omega
            · skip
              obtain rfl : i = m.length := by simp at c9; omega
              refine sw_exit ?_
              refine sw_seq ?_
              refine sw_region hP 9 [] rfl (by kernel_rfl) (fun _ => by kernel_rfl) (by first | trivial | (simp [conj]; done) | (simp [conj] at *; (try dsimp only [Ty.den, Ty.dflt] at *); omega)) ?_
              refine sw_ret ⟨.inl rfl, _, rfl, ?_⟩
              simp [conj]
              try exact hg
end Go.Sx
