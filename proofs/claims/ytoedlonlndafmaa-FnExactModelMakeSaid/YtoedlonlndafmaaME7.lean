import Derived.Test.YtoedlonlndafmaaME5
import Derived.Test.YtoedlonlndafmaaMPz
set_option linter.all false
namespace Go.Sx
open Go
set_option maxRecDepth 100000
set_option linter.unusedVariables false
set_option linter.unusedSimpArgs false
set_option maxHeartbeats 4000000

def cXMake : Ctr := ⟨4, [.val true TL_Model pF, .val false .str pF], fun _ => True, fun x => (sBool true, [])⟩
theorem cXMake_ok : CtrOk Proofs.Try.prog cXMake := by
  have hP := ((((((((Prg.none ttok mtok).and cSzM_ok).and cToM_ok).and cMake_ok).and cIMake_ok).and cEqM_ok).and cMkM_ok).and cHdM_ok)
  refine ctr_of_body hP cXMake (fn := Proofs.Try.f4) (rts := [.tmp 4]) Proofs.Try.func4 rfl (by kernel_rfl) rfl rfl ?_
  rintro ⟨(m : List Shf), (name : Str), ⟨⟩⟩ ⟨_, hdn, _⟩ hpre
  try dsimp only [Ty.den, Mode.den, mdens] at hpre
  refine ⟨rfl, ?_⟩
  have hnl : name.length ≤ 140737488355328 := hdn
  have hw : thoughtV (clMake name) m = makeV m name := thought_make
  refine sw_seq ?_
  refine sw_region hP 1 [] rfl (by kernel_rfl) (fun _ => by kernel_rfl) (by first | trivial | (simp [conj]; done) | (simp [conj] at *; (try dsimp only [Ty.den, Ty.dflt] at *); omega)) ?_
  refine sw_seq ?_
  refine sw_seq ?_
  refine sw_region hP 2 [] rfl (by kernel_rfl) (fun _ => by kernel_rfl) (by first | trivial | (simp [conj]; done) | (simp [conj] at *; (try dsimp only [Ty.den, Ty.dflt] at *); omega)) ?_
  refine sw_cond rfl (fun c1 => ?_) (fun c1 => ?_)
  · skip
    refine sw_seq ?_
    refine sw_region hP 3 [] rfl (by kernel_rfl) (fun _ => by kernel_rfl) (by first | trivial | (simp [conj]; done) | (simp [conj] at *; (try dsimp only [Ty.den, Ty.dflt] at *); omega)) ?_
    refine sw_ret ⟨.inl rfl, _, rfl, ?_⟩
    simp [conj]
  · skip
    refine sw_skip ?_
    refine sw_seq ?_
    refine sw_region hP 3 [] rfl (by kernel_rfl) (fun _ => by kernel_rfl) (by first | trivial | (simp [conj]; done) | (simp [conj] at *; (try dsimp only [Ty.den, Ty.dflt] at *); omega)) ?_
    refine sw_seq ?_
    refine sw_region hP 4 [] rfl (by kernel_rfl) (fun _ => by kernel_rfl) ?_ ?_
    · skip
      simp [conj, maxL]
      try dsimp only [Ty.den, Ty.dflt]
      try simp only [rd_eta]
      exact ⟨by show (0 : Int) ≤ 1048576; decide, by show (1048576 : Int) ≤ 1048576; decide⟩
    refine sw_seq ?_
    refine sw_seq ?_
    refine sw_region hP 5 [] rfl (by kernel_rfl) (fun _ => by kernel_rfl) (by first | trivial | (simp [conj]; done) | (simp [conj] at *; (try dsimp only [Ty.den, Ty.dflt] at *); omega)) ?_
    refine sw_cond rfl (fun c5 => ?_) (fun c5 => ?_)
    · skip
      refine sw_seq ?_
      refine sw_region hP 6 [] rfl (by kernel_rfl) (fun _ => by kernel_rfl) (by first | trivial | (simp [conj]; done) | (simp [conj] at *; (try dsimp only [Ty.den, Ty.dflt] at *); omega)) ?_
      refine sw_ret ⟨.inl rfl, _, rfl, ?_⟩
      simp [conj]
    · skip
      replace c5 : 0 ≤ szM m 1048576 := by have h : ¬ szM m 1048576 < 0 := of_decide_eq_false c5; omega
      have hs := szM_small c5
      have hm1 := szM_mk c5
      have hge1 : 1 ≤ mkN 1 m := mkN_ge
      have hm2 : mkN 1 (makeV m name).1 ≤ 1099511627776 := fit_mk1 makeV_fit
      have hge2 : 1 ≤ mkN 1 (makeV m name).1 := mkN_ge
      have hh : hdS 1 (mrkS 1 (makeV m name).1) = mkN 1 (makeV m name).1 := hdS_mk (by decide)
      have hmm : mkN 1 (mrkS 1 (makeV m name).1) = mkN 1 (makeV m name).1 := mkN_mrkS
      refine sw_skip ?_
      refine sw_seq ?_
      refine sw_region hP 6 [] rfl (by kernel_rfl) (fun _ => by kernel_rfl) ?_ ?_
      · skip
        simp [conj, maxL]
        try dsimp only [Ty.den, Ty.dflt]
        try simp only [rd_eta]
        first | exact hs | exact ⟨hs, trivial⟩
      refine sw_seq ?_
      refine sw_region hP 7 [] rfl (by kernel_rfl) (fun _ => by kernel_rfl) ?_ ?_
      · skip
        simp [conj, maxL]
        try dsimp only [Ty.den, Ty.dflt]
        try simp only [rd_eta]
        first | exact hs | exact ⟨hs, trivial⟩
      refine sw_seq ?_
      refine sw_region hP 8 [] rfl (by kernel_rfl) (fun _ => by kernel_rfl) ?_ ?_
      · skip
        simp [conj, maxL]
        try dsimp only [Ty.den, Ty.dflt]
        try simp only [rd_eta]
        try trivial
      refine sw_seq ?_
      refine sw_seq ?_
      refine sw_ent (st' := ⟨[.junk, sStr name, .v false [.ptr ⟨1, 0, 0⟩ 0], .junk, .junk, .junk, .v false [.ptr ⟨6, 7, 0⟩ 0], sInt .i64 (makeV m name).2, .v false [.ptr ⟨7, 2, 0⟩ 0], .v false [.ptr ⟨8, 6, 0⟩ 0], sInt .i64 (makeV m name).2, .junk, .junk, .junk, .junk, .junk, .junk, .junk, .junk, .junk, .junk, .junk, .junk, .junk, .junk, .junk, .junk, .junk, .junk, .junk, .junk, .junk, .junk, .junk, .junk, .junk, .junk, .junk, .junk, .junk, .junk, .junk, .junk, .junk, .junk, .junk, .junk, .junk, .junk, .junk, .junk, .junk, .junk, .junk, .junk, .junk, .junk, .junk, .junk, .junk, .junk, .junk, .junk, .junk, .junk, .junk, .junk, .junk, .junk, .junk, .junk, .junk, .junk, .junk, .junk, .junk, .junk, .junk, .junk, .junk, .junk, .junk, .junk, .junk, .junk, .junk, .junk, .junk, .junk, .junk, .junk, .junk, .junk, .junk, .junk, .junk, .junk, .junk, .junk, .junk, .junk, .junk, .junk, .junk], [(⟨1, 0, 0⟩, .var [.d TL_Model pF m]), (⟨6, 7, 0⟩, .var [.own ⟨6, 3, 0⟩]), (⟨6, 3, 0⟩, .sl T_Shelf (.all .w) (makeV m name).1), (⟨7, 2, 0⟩, .var [.own ⟨7, 1, 0⟩]), (⟨7, 1, 0⟩, .sl T_Shelf (.all .w) m), (⟨8, 6, 0⟩, .var [.own ⟨8, 2, 0⟩]), (⟨8, 2, 0⟩, .sl T_Shelf (.all .w) (makeV m name).1)], 8, []⟩) (ent_ok rfl ?_) ?_
      · skip
        simp [conj, hw]
      refine sw_dec hP 9 [] 4 rfl (fun g10_4 => ?_) (fun g10_4 => ?_)
      · skip
        simp at g10_4
      · skip
        refine sw_region hP 9 [(4, false)] rfl (by kernel_rfl) (fun _ => by kernel_rfl) (by first | trivial | (simp [conj]; done) | (simp [conj] at *; (try dsimp only [Ty.den, Ty.dflt] at *); omega)) ?_
        refine sw_cond rfl (fun c10 => ?_) (fun c10 => ?_)
        · skip
          simp at c10
        · skip
          refine sw_skip ?_
          refine sw_seq ?_
          refine sw_seq ?_
          refine sw_region hP 10 [] rfl (by kernel_rfl) (fun _ => by kernel_rfl) ?_ ?_
          · skip
            simp [conj, maxL]
            try dsimp only [Ty.den, Ty.dflt]
            try simp only [rd_eta]
            first | exact hs | exact ⟨hs, trivial⟩
          refine sw_cond rfl (fun c12 => ?_) (fun c12 => ?_)
          · skip
            simp at c12
          · skip
            refine sw_skip ?_
            refine sw_seq ?_
            refine sw_region hP 11 [] rfl (by kernel_rfl) (fun _ => by kernel_rfl) (by first | trivial | (simp [conj]; done) | (simp [conj] at *; (try dsimp only [Ty.den, Ty.dflt] at *); omega)) ?_
            refine sw_seq ?_
            refine sw_region hP 12 [] rfl (by kernel_rfl) (fun _ => by kernel_rfl) ?_ ?_
            · skip
              simp [conj, maxL]
              try dsimp only [Ty.den, Ty.dflt]
              try simp only [rd_eta]
              exact ⟨by show (0 : Int) ≤ 1; decide, hm1⟩
            refine sw_seq ?_
            refine sw_seq ?_
            refine sw_ent (st' := ⟨[.junk, sStr name, .v false [.ptr ⟨1, 0, 0⟩ 0], .junk, .junk, .junk, .v false [.ptr ⟨6, 7, 0⟩ 0], sInt .i64 (makeV m name).2, .v false [.ptr ⟨7, 2, 0⟩ 0], .v false [.ptr ⟨8, 6, 0⟩ 0], sInt .i64 (makeV m name).2, sInt .i64 (mkN 1 m), .junk, .junk, .junk, .junk, .junk, .junk, .junk, .junk, .junk, .junk, .junk, .junk, .junk, .junk, .junk, .junk, .junk, .junk, .junk, .junk, .junk, .junk, .junk, .junk, .junk, .junk, .junk, .junk, .junk, .junk, .junk, .junk, .junk, .junk, .junk, .junk, .junk, .junk, .junk, .junk, .junk, .junk, .junk, .junk, .junk, .junk, .junk, .junk, .junk, .junk, .junk, .junk, .junk, .junk, .junk, .junk, .junk, .junk, .junk, .junk, .junk, .junk, .junk, .junk, .junk, .junk, .junk, .junk, .junk, .junk, .junk, .junk, .junk, .junk, .junk, .junk, .junk, .junk, .junk, .junk, .junk, .junk, .junk, .junk, .junk, .junk, .junk, .junk, .junk, .junk, .junk, .junk], [(⟨1, 0, 0⟩, .var [.d TL_Model pF m]), (⟨6, 7, 0⟩, .var [.own ⟨6, 3, 0⟩]), (⟨6, 3, 0⟩, .sl T_Shelf (.all .w) (makeV m name).1), (⟨7, 2, 0⟩, .var [.own ⟨7, 1, 0⟩]), (⟨7, 1, 0⟩, .sl T_Shelf (.all .w) (mrkS 1 m)), (⟨8, 6, 0⟩, .var [.own ⟨8, 2, 0⟩]), (⟨8, 2, 0⟩, .sl T_Shelf (.all .w) (makeV m name).1)], 12, []⟩) (ent_ok rfl ?_) ?_
            · skip
              simp [conj]
            refine sw_dec hP 13 [] 2 rfl (fun g16_2 => ?_) (fun g16_2 => ?_)
            · skip
              have h : mkN 1 m < 0 := of_decide_eq_true g16_2
              omega
            · skip
              refine sw_dec hP 13 [(2, false)] 8 rfl (fun g16_8 => ?_) (fun g16_8 => ?_)
              · skip
                simp at g16_8
              · skip
                refine sw_region hP 13 [(2, false), (8, false)] rfl (by kernel_rfl) (fun _ => by kernel_rfl) (by first | trivial | (simp [conj]; done) | (simp [conj] at *; (try dsimp only [Ty.den, Ty.dflt] at *); omega)) ?_
                refine sw_cond rfl (fun c16 => ?_) (fun c16 => ?_)
                · skip
                  simp at c16
                · skip
                  refine sw_skip ?_
                  refine sw_seq ?_
                  refine sw_region hP 14 [] rfl (by kernel_rfl) (fun _ => by kernel_rfl) (by first | trivial | (simp [conj]; done) | (simp [conj] at *; (try dsimp only [Ty.den, Ty.dflt] at *); omega)) ?_
                  refine sw_seq ?_
                  refine sw_region hP 15 [] rfl (by kernel_rfl) (fun _ => by kernel_rfl) ?_ ?_
                  · skip
                    simp [conj, maxL]
                    try dsimp only [Ty.den, Ty.dflt]
                    try simp only [rd_eta]
                    exact ⟨by show (0 : Int) ≤ 1; decide, hm2⟩
                  refine sw_seq ?_
                  refine sw_region hP 16 [] rfl (by kernel_rfl) (fun _ => by kernel_rfl) (by first | trivial | (simp [conj]; done) | (simp [conj] at *; (try dsimp only [Ty.den, Ty.dflt] at *); omega)) ?_
                  refine sw_seq ?_
                  refine sw_region hP 17 [] rfl (by kernel_rfl) (fun _ => by kernel_rfl) ?_ ?_
                  · skip
                    simp [conj, maxL]
                    try dsimp only [Ty.den, Ty.dflt]
                    try simp only [rd_eta]
                    exact ⟨by show (0 : Int) ≤ 1; decide, by show mkN 1 (mrkS 1 (makeV m name).1) ≤ _; omega⟩
                  refine sw_seq ?_
                  refine sw_seq ?_
                  refine sw_ent (st' := ⟨[.junk, sStr name, .v false [.ptr ⟨1, 0, 0⟩ 0], .junk, .junk, .junk, .v false [.ptr ⟨6, 7, 0⟩ 0], sInt .i64 (makeV m name).2, .v false [.ptr ⟨7, 2, 0⟩ 0], .v false [.ptr ⟨8, 6, 0⟩ 0], sInt .i64 (makeV m name).2, .junk, sInt .i64 (mkN 1 (makeV m name).1), sInt .i64 (mkN 1 (makeV m name).1), .junk, .junk, .junk, .junk, .junk, .junk, .junk, .junk, .junk, .junk, .junk, .junk, .junk, .junk, .junk, .junk, .junk, .junk, .junk, .junk, .junk, .junk, .junk, .junk, .junk, .junk, .junk, .junk, .junk, .junk, .junk, .junk, .junk, .junk, .junk, .junk, .junk, .junk, .junk, .junk, .junk, .junk, .junk, .junk, .junk, .junk, .junk, .junk, .junk, .junk, .junk, .junk, .junk, .junk, .junk, .junk, .junk, .junk, .junk, .junk, .junk, .junk, .junk, .junk, .junk, .junk, .junk, .junk, .junk, .junk, .junk, .junk, .junk, .junk, .junk, .junk, .junk, .junk, .junk, .junk, .junk, .junk, .junk, .junk, .junk, .junk, .junk, .junk, .junk, .junk], [(⟨1, 0, 0⟩, .var [.d TL_Model pF m]), (⟨6, 7, 0⟩, .var [.own ⟨6, 3, 0⟩]), (⟨6, 3, 0⟩, .sl T_Shelf (.all .w) (makeV m name).1), (⟨7, 2, 0⟩, .var [.own ⟨7, 1, 0⟩]), (⟨7, 1, 0⟩, .sl T_Shelf (.all .w) (mrkS 1 m)), (⟨8, 6, 0⟩, .var [.own ⟨8, 2, 0⟩]), (⟨8, 2, 0⟩, .sl T_Shelf (.all .w) (mrkS 1 (makeV m name).1))], 17, []⟩) (ent_ok rfl ?_) ?_
                  · skip
                    simp [conj, hh]
                  refine sw_region hP 18 [] rfl (by kernel_rfl) (fun _ => by kernel_rfl) (by first | trivial | (simp [conj]; done) | (simp [conj] at *; (try dsimp only [Ty.den, Ty.dflt] at *); omega)) ?_
                  refine sw_cond rfl (fun c22 => ?_) (fun c22 => ?_)
                  · skip
                    have h : mkN 1 (makeV m name).1 < 0 := of_decide_eq_true c22
                    omega
                  · skip
                    refine sw_skip ?_
                    refine sw_seq ?_
                    refine sw_seq ?_
                    refine sw_region hP 19 [] rfl (by kernel_rfl) (fun _ => by kernel_rfl) (by first | trivial | (simp [conj]; done) | (simp [conj] at *; (try dsimp only [Ty.den, Ty.dflt] at *); omega)) ?_
                    refine sw_cond rfl (fun c24 => ?_) (fun c24 => ?_)
                    · skip
                      simp at c24
                    · skip
                      refine sw_skip ?_
                      refine sw_seq ?_
                      refine sw_region hP 20 [] rfl (by kernel_rfl) (fun _ => by kernel_rfl) ?_ ?_
                      · skip
                        simp [conj, maxL]
                        try dsimp only [Ty.den, Ty.dflt]
                        try simp only [rd_eta]
                        first | exact hs | exact ⟨hs, trivial⟩
                      refine sw_seq ?_
                      refine sw_seq ?_
                      refine sw_ent (st' := ⟨[.junk, sStr name, .v false [.ptr ⟨1, 0, 0⟩ 0], .junk, .junk, .junk, .v false [.ptr ⟨6, 7, 0⟩ 0], sInt .i64 (makeV m name).2, .v false [.ptr ⟨7, 2, 0⟩ 0], .v false [.ptr ⟨8, 6, 0⟩ 0], .junk, .junk, sInt .i64 (mkN 1 (makeV m name).1), sInt .i64 (mkN 1 (makeV m name).1), .v false [.ptr ⟨20, 7, 0⟩ 0], sInt .i64 (makeV m name).2, .junk, .junk, .junk, .junk, .junk, .junk, .junk, .junk, .junk, .junk, .junk, .junk, .junk, .junk, .junk, .junk, .junk, .junk, .junk, .junk, .junk, .junk, .junk, .junk, .junk, .junk, .junk, .junk, .junk, .junk, .junk, .junk, .junk, .junk, .junk, .junk, .junk, .junk, .junk, .junk, .junk, .junk, .junk, .junk, .junk, .junk, .junk, .junk, .junk, .junk, .junk, .junk, .junk, .junk, .junk, .junk, .junk, .junk, .junk, .junk, .junk, .junk, .junk, .junk, .junk, .junk, .junk, .junk, .junk, .junk, .junk, .junk, .junk, .junk, .junk, .junk, .junk, .junk, .junk, .junk, .junk, .junk, .junk, .junk, .junk, .junk, .junk, .junk], [(⟨1, 0, 0⟩, .var [.d TL_Model pF m]), (⟨6, 7, 0⟩, .var [.own ⟨6, 3, 0⟩]), (⟨6, 3, 0⟩, .sl T_Shelf (.all .w) (makeV m name).1), (⟨7, 2, 0⟩, .var [.own ⟨7, 1, 0⟩]), (⟨7, 1, 0⟩, .sl T_Shelf (.all .w) (mrkS 1 m)), (⟨8, 6, 0⟩, .var [.own ⟨8, 2, 0⟩]), (⟨8, 2, 0⟩, .sl T_Shelf (.all .w) (mrkS 1 (makeV m name).1)), (⟨20, 7, 0⟩, .var [.own ⟨20, 3, 0⟩]), (⟨20, 3, 0⟩, .sl T_Shelf (.all .w) (makeV m name).1)], 20, []⟩) (ent_ok rfl ?_) ?_
                      · skip
                        simp [conj, hw]
                      refine sw_dec hP 21 [] 4 rfl (fun g27_4 => ?_) (fun g27_4 => ?_)
                      · skip
                        simp at g27_4
                      · skip
                        refine sw_region hP 21 [(4, false)] rfl (by kernel_rfl) (fun _ => by kernel_rfl) (by first | trivial | (simp [conj]; done) | (simp [conj] at *; (try dsimp only [Ty.den, Ty.dflt] at *); omega)) ?_
                        refine sw_cond rfl (fun c27 => ?_) (fun c27 => ?_)
                        · skip
                          simp at c27
                        · skip
                          refine sw_skip ?_
                          refine sw_seq ?_
                          refine sw_region hP 22 [] rfl (by kernel_rfl) (fun _ => by kernel_rfl) (by first | trivial | (simp [conj]; done) | (simp [conj] at *; (try dsimp only [Ty.den, Ty.dflt] at *); omega)) ?_
                          refine sw_seq ?_
                          refine sw_region hP 23 [] rfl (by kernel_rfl) (fun _ => by kernel_rfl) ?_ ?_
                          · skip
                            simp [conj, maxL]
                            try dsimp only [Ty.den, Ty.dflt]
                            try simp only [rd_eta]
                            exact ⟨by show (0 : Int) ≤ 1; decide, by show mkN 1 (mrkS 1 (makeV m name).1) ≤ _; omega⟩
                          refine sw_seq ?_
                          refine sw_seq ?_
                          refine sw_ent (st' := ⟨[.junk, sStr name, .v false [.ptr ⟨1, 0, 0⟩ 0], .junk, .junk, .junk, .v false [.ptr ⟨6, 7, 0⟩ 0], .junk, .v false [.ptr ⟨7, 2, 0⟩ 0], .v false [.ptr ⟨8, 6, 0⟩ 0], .junk, .junk, sInt .i64 (mkN 1 (makeV m name).1), sInt .i64 (mkN 1 (makeV m name).1), .v false [.ptr ⟨20, 7, 0⟩ 0], .junk, .junk, .junk, .junk, .junk, .junk, .junk, .junk, .junk, .junk, .junk, .junk, .junk, .junk, .junk, .junk, .junk, .junk, .junk, .junk, .junk, .junk, .junk, .junk, .junk, .junk, .junk, .junk, .junk, .junk, .junk, .junk, .junk, .junk, .junk, .junk, .junk, .junk, .junk, .junk, .junk, .junk, .junk, .junk, .junk, .junk, .junk, .junk, .junk, .junk, .junk, .junk, .junk, .junk, .junk, .junk, .junk, .junk, .junk, .junk, .junk, .junk, .junk, .junk, .junk, .junk, .junk, .junk, .junk, .junk, .junk, .junk, .junk, .junk, .junk, .junk, .junk, .junk, .junk, .junk, .junk, .junk, .junk, .junk, .junk, .junk, .junk, .junk, .junk], [], 23, []⟩) (ent_ok rfl ?_) ?_
                          · skip
                            simp [conj, hh]
                          refine sw_region hP 24 [] rfl (by kernel_rfl) (fun _ => by kernel_rfl) (by first | trivial | (simp [conj]; done) | (simp [conj] at *; (try dsimp only [Ty.den, Ty.dflt] at *); omega)) ?_
                          refine sw_cond rfl (fun c31 => ?_) (fun c31 => ?_)
                          · skip
                            have h : mkN 1 (makeV m name).1 < 0 := of_decide_eq_true c31
                            omega
                          · skip
                            refine sw_skip ?_
                            refine sw_seq ?_
                            refine sw_seq ?_
                            refine sw_region hP 25 [] rfl (by kernel_rfl) (fun _ => by kernel_rfl) (by first | trivial | (simp [conj]; done) | (simp [conj] at *; (try dsimp only [Ty.den, Ty.dflt] at *); omega)) ?_
                            refine sw_cond rfl (fun c33 => ?_) (fun c33 => ?_)
                            · skip
                              simp at c33
                            · skip
                              refine sw_skip ?_
                              refine sw_seq ?_
                              refine sw_region hP 26 [] rfl (by kernel_rfl) (fun _ => by kernel_rfl) (by first | trivial | (simp [conj]; done) | (simp [conj] at *; (try dsimp only [Ty.den, Ty.dflt] at *); omega)) ?_
                              refine sw_ret ⟨.inl rfl, _, rfl, ?_⟩
                              simp [conj]
end Go.Sx
