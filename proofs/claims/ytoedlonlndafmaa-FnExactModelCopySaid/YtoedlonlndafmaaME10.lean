import Derived.Test.YtoedlonlndafmaaME5
import Derived.Test.YtoedlonlndafmaaME9
import Derived.Test.YtoedlonlndafmaaMPz
set_option linter.all false
namespace Go.Sx
open Go
set_option maxRecDepth 100000
set_option linter.unusedVariables false
set_option linter.unusedSimpArgs false
set_option maxHeartbeats 4000000

theorem copyV_fit {m : List Shf} {frm name : Str} : Fit (copyV m frm name).1 := by
  unfold copyV
  split
  · exact fit_nil
  · rename_i hm
    have hm' : mokV m = true := by simpa using hm
    have hf := mok_fit hm'
    have h4 := mok_len4 hm'
    split
    · exact hf
    · simp only
      split
      · refine ⟨by simp only [List.length_append, List.length_cons, List.length_nil]; omega, fun s hs => ?_⟩
        rcases List.mem_append.1 hs with h | h
        · exact hf.2 s h
        · rw [List.mem_singleton.1 h]
          simp only [List.getD_eq_getElem?_getD]
          cases hg : m[(findV m frm).toNat]? with
          | none => exact Nat.zero_le _
          | some y => exact hf.2 y (List.mem_of_getElem? hg)
      · exact hf
def cXCopy : Ctr := ⟨6, [.val true TL_Model pF, .val false .str pF, .val false .str pF], fun _ => True, fun x => (sBool true, [])⟩
theorem cXCopy_ok : CtrOk Proofs.Try.prog cXCopy := by
  have hP := ((((((((Prg.none ttok mtok).and cSzM_ok).and cToM_ok).and cCopyM_ok).and cICopy_ok).and cEqM_ok).and cMkM_ok).and cHdM_ok)
  refine ctr_of_body hP cXCopy (fn := Proofs.Try.f6) (rts := [.tmp 6]) Proofs.Try.func6 rfl (by kernel_rfl) rfl rfl ?_
  rintro ⟨(m : List Shf), (frm : Str), (name : Str), ⟨⟩⟩ ⟨_, hdn, hdt, _⟩ hpre
  try dsimp only [Ty.den, Mode.den, mdens] at hpre
  refine ⟨rfl, ?_⟩
  have hnl : frm.length ≤ 140737488355328 := hdn
  have htl : name.length ≤ 140737488355328 := hdt
  have hw : thoughtV (clCopy frm name) m = copyV m frm name := thought_copy
  refine sw_seq ?_
  refine sw_region hP 1 [] rfl (by kernel_rfl) (fun _ => by kernel_rfl) (by first | trivial | (simp [conj]; done) | (simp [conj] at *; (try dsimp only [Ty.den, Ty.dflt] at *); omega)) ?_
  refine sw_seq ?_
  refine sw_seq ?_
  refine sw_region hP 2 [] rfl (by kernel_rfl) (fun _ => by kernel_rfl) (by first | trivial | (simp [conj]; done) | (simp [conj] at *; (try dsimp only [Ty.den, Ty.dflt] at *); omega)) ?_
  refine sw_cond rfl (fun c1 => ?_) (fun c1 => ?_)
  · skip
    refine sw_seq ?_
    refine sw_region hP 3 [] rfl (by kernel_rfl) (fun _ => by kernel_rfl) (by first | trivial | (simp [conj]; done) | (simp [conj] at *; (try dsimp only [Ty.den, Ty.dflt] at *); omega)) ?_
    refine sw_ret ⟨.inl rfl, _, rfl, ?_⟩
    simp [conj]
  · skip
    refine sw_skip ?_
    refine sw_seq ?_
    refine sw_seq ?_
    refine sw_region hP 3 [] rfl (by kernel_rfl) (fun _ => by kernel_rfl) (by first | trivial | (simp [conj]; done) | (simp [conj] at *; (try dsimp only [Ty.den, Ty.dflt] at *); omega)) ?_
    refine sw_cond rfl (fun c3 => ?_) (fun c3 => ?_)
    · skip
      refine sw_seq ?_
      refine sw_region hP 4 [] rfl (by kernel_rfl) (fun _ => by kernel_rfl) (by first | trivial | (simp [conj]; done) | (simp [conj] at *; (try dsimp only [Ty.den, Ty.dflt] at *); omega)) ?_
      refine sw_ret ⟨.inl rfl, _, rfl, ?_⟩
      simp [conj]
    · skip
      refine sw_skip ?_
      refine sw_seq ?_
      refine sw_region hP 4 [] rfl (by kernel_rfl) (fun _ => by kernel_rfl) (by first | trivial | (simp [conj]; done) | (simp [conj] at *; (try dsimp only [Ty.den, Ty.dflt] at *); omega)) ?_
      refine sw_seq ?_
      refine sw_region hP 5 [] rfl (by kernel_rfl) (fun _ => by kernel_rfl) ?_ ?_
      · skip
        simp [conj, maxL]
        try dsimp only [Ty.den, Ty.dflt]
        try simp only [rd_eta]
        exact ⟨by show (0 : Int) ≤ 1048576; decide, by show (1048576 : Int) ≤ 1048576; decide⟩
      refine sw_seq ?_
      refine sw_seq ?_
      refine sw_region hP 6 [] rfl (by kernel_rfl) (fun _ => by kernel_rfl) (by first | trivial | (simp [conj]; done) | (simp [conj] at *; (try dsimp only [Ty.den, Ty.dflt] at *); omega)) ?_
      refine sw_cond rfl (fun c7 => ?_) (fun c7 => ?_)
      · skip
        refine sw_seq ?_
        refine sw_region hP 7 [] rfl (by kernel_rfl) (fun _ => by kernel_rfl) (by first | trivial | (simp [conj]; done) | (simp [conj] at *; (try dsimp only [Ty.den, Ty.dflt] at *); omega)) ?_
        refine sw_ret ⟨.inl rfl, _, rfl, ?_⟩
        simp [conj]
      · skip
        replace c7 : 0 ≤ szM m 1048576 := by have h : ¬ szM m 1048576 < 0 := of_decide_eq_false c7; omega
        have hs := szM_small c7
        have hm1 := szM_mk c7
        have hge1 : 1 ≤ mkN 1 m := mkN_ge
        have hm2 : mkN 1 (copyV m frm name).1 ≤ 1099511627776 := fit_mk1 copyV_fit
        have hge2 : 1 ≤ mkN 1 (copyV m frm name).1 := mkN_ge
        have hh : hdS 1 (mrkS 1 (copyV m frm name).1) = mkN 1 (copyV m frm name).1 := hdS_mk (by decide)
        have hmm : mkN 1 (mrkS 1 (copyV m frm name).1) = mkN 1 (copyV m frm name).1 := mkN_mrkS
        refine sw_skip ?_
        refine sw_seq ?_
        refine sw_region hP 7 [] rfl (by kernel_rfl) (fun _ => by kernel_rfl) ?_ ?_
        · skip
          simp [conj, maxL]
          try dsimp only [Ty.den, Ty.dflt]
          try simp only [rd_eta]
          first | exact hs | exact ⟨hs, trivial⟩
        refine sw_seq ?_
        refine sw_region hP 8 [] rfl (by kernel_rfl) (fun _ => by kernel_rfl) ?_ ?_
        · skip
          simp [conj, maxL]
          try dsimp only [Ty.den, Ty.dflt]
          try simp only [rd_eta]
          first | exact hs | exact ⟨hs, trivial⟩
        refine sw_seq ?_
        refine sw_region hP 9 [] rfl (by kernel_rfl) (fun _ => by kernel_rfl) ?_ ?_
        · skip
          simp [conj, maxL]
          try dsimp only [Ty.den, Ty.dflt]
          try simp only [rd_eta]
          try trivial
        refine sw_seq ?_
        refine sw_seq ?_
        refine sw_ent (st' := ⟨[.junk, sStr frm, sStr name, .v false [.ptr ⟨1, 0, 0⟩ 0], .junk, .junk, .junk, .junk, .v false [.ptr ⟨7, 8, 0⟩ 0], sInt .i64 (copyV m frm name).2, .v false [.ptr ⟨8, 2, 0⟩ 0], .v false [.ptr ⟨9, 7, 0⟩ 0], sInt .i64 (copyV m frm name).2, .junk, .junk, .junk, .junk, .junk, .junk, .junk, .junk, .junk, .junk, .junk, .junk, .junk, .junk, .junk, .junk, .junk, .junk, .junk, .junk, .junk, .junk, .junk, .junk, .junk, .junk, .junk, .junk, .junk, .junk, .junk, .junk, .junk, .junk, .junk, .junk, .junk, .junk, .junk, .junk, .junk, .junk, .junk, .junk, .junk, .junk, .junk, .junk, .junk, .junk, .junk, .junk, .junk, .junk, .junk, .junk, .junk, .junk, .junk, .junk, .junk, .junk, .junk, .junk, .junk, .junk, .junk, .junk, .junk, .junk, .junk, .junk, .junk, .junk, .junk, .junk, .junk, .junk, .junk, .junk, .junk, .junk, .junk, .junk, .junk, .junk, .junk, .junk, .junk, .junk, .junk, .junk, .junk, .junk, .junk, .junk, .junk, .junk, .junk], [(⟨1, 0, 0⟩, .var [.d TL_Model pF m]), (⟨7, 8, 0⟩, .var [.own ⟨7, 4, 0⟩]), (⟨7, 4, 0⟩, .sl T_Shelf (.all .w) (copyV m frm name).1), (⟨8, 2, 0⟩, .var [.own ⟨8, 1, 0⟩]), (⟨8, 1, 0⟩, .sl T_Shelf (.all .w) m), (⟨9, 7, 0⟩, .var [.own ⟨9, 3, 0⟩]), (⟨9, 3, 0⟩, .sl T_Shelf (.all .w) (copyV m frm name).1)], 9, []⟩) (ent_ok rfl ?_) ?_
        · skip
          simp [conj, hw]
        refine sw_dec hP 10 [] 4 rfl (fun g12_4 => ?_) (fun g12_4 => ?_)
        · skip
          simp at g12_4
        · skip
          refine sw_region hP 10 [(4, false)] rfl (by kernel_rfl) (fun _ => by kernel_rfl) (by first | trivial | (simp [conj]; done) | (simp [conj] at *; (try dsimp only [Ty.den, Ty.dflt] at *); omega)) ?_
          refine sw_cond rfl (fun c12 => ?_) (fun c12 => ?_)
          · skip
            simp at c12
          · skip
            refine sw_skip ?_
            refine sw_seq ?_
            refine sw_seq ?_
            refine sw_region hP 11 [] rfl (by kernel_rfl) (fun _ => by kernel_rfl) ?_ ?_
            · skip
              simp [conj, maxL]
              try dsimp only [Ty.den, Ty.dflt]
              try simp only [rd_eta]
              first | exact hs | exact ⟨hs, trivial⟩
            refine sw_cond rfl (fun c14 => ?_) (fun c14 => ?_)
            · skip
              simp at c14
            · skip
              refine sw_skip ?_
              refine sw_seq ?_
              refine sw_region hP 12 [] rfl (by kernel_rfl) (fun _ => by kernel_rfl) (by first | trivial | (simp [conj]; done) | (simp [conj] at *; (try dsimp only [Ty.den, Ty.dflt] at *); omega)) ?_
              refine sw_seq ?_
              refine sw_region hP 13 [] rfl (by kernel_rfl) (fun _ => by kernel_rfl) ?_ ?_
              · skip
                simp [conj, maxL]
                try dsimp only [Ty.den, Ty.dflt]
                try simp only [rd_eta]
                exact ⟨by show (0 : Int) ≤ 1; decide, hm1⟩
              refine sw_seq ?_
              refine sw_seq ?_
              refine sw_ent (st' := ⟨[.junk, sStr frm, sStr name, .v false [.ptr ⟨1, 0, 0⟩ 0], .junk, .junk, .junk, .junk, .v false [.ptr ⟨7, 8, 0⟩ 0], sInt .i64 (copyV m frm name).2, .v false [.ptr ⟨8, 2, 0⟩ 0], .v false [.ptr ⟨9, 7, 0⟩ 0], sInt .i64 (copyV m frm name).2, sInt .i64 (mkN 1 m), .junk, .junk, .junk, .junk, .junk, .junk, .junk, .junk, .junk, .junk, .junk, .junk, .junk, .junk, .junk, .junk, .junk, .junk, .junk, .junk, .junk, .junk, .junk, .junk, .junk, .junk, .junk, .junk, .junk, .junk, .junk, .junk, .junk, .junk, .junk, .junk, .junk, .junk, .junk, .junk, .junk, .junk, .junk, .junk, .junk, .junk, .junk, .junk, .junk, .junk, .junk, .junk, .junk, .junk, .junk, .junk, .junk, .junk, .junk, .junk, .junk, .junk, .junk, .junk, .junk, .junk, .junk, .junk, .junk, .junk, .junk, .junk, .junk, .junk, .junk, .junk, .junk, .junk, .junk, .junk, .junk, .junk, .junk, .junk, .junk, .junk, .junk, .junk, .junk, .junk, .junk, .junk, .junk, .junk, .junk, .junk, .junk, .junk], [(⟨1, 0, 0⟩, .var [.d TL_Model pF m]), (⟨7, 8, 0⟩, .var [.own ⟨7, 4, 0⟩]), (⟨7, 4, 0⟩, .sl T_Shelf (.all .w) (copyV m frm name).1), (⟨8, 2, 0⟩, .var [.own ⟨8, 1, 0⟩]), (⟨8, 1, 0⟩, .sl T_Shelf (.all .w) (mrkS 1 m)), (⟨9, 7, 0⟩, .var [.own ⟨9, 3, 0⟩]), (⟨9, 3, 0⟩, .sl T_Shelf (.all .w) (copyV m frm name).1)], 13, []⟩) (ent_ok rfl ?_) ?_
              · skip
                simp [conj]
              refine sw_dec hP 14 [] 2 rfl (fun g18_2 => ?_) (fun g18_2 => ?_)
              · skip
                have h : mkN 1 m < 0 := of_decide_eq_true g18_2
                omega
              · skip
                refine sw_dec hP 14 [(2, false)] 8 rfl (fun g18_8 => ?_) (fun g18_8 => ?_)
                · skip
                  simp at g18_8
                · skip
                  refine sw_region hP 14 [(2, false), (8, false)] rfl (by kernel_rfl) (fun _ => by kernel_rfl) (by first | trivial | (simp [conj]; done) | (simp [conj] at *; (try dsimp only [Ty.den, Ty.dflt] at *); omega)) ?_
                  refine sw_cond rfl (fun c18 => ?_) (fun c18 => ?_)
                  · skip
                    simp at c18
                  · skip
                    refine sw_skip ?_
                    refine sw_seq ?_
                    refine sw_region hP 15 [] rfl (by kernel_rfl) (fun _ => by kernel_rfl) (by first | trivial | (simp [conj]; done) | (simp [conj] at *; (try dsimp only [Ty.den, Ty.dflt] at *); omega)) ?_
                    refine sw_seq ?_
                    refine sw_region hP 16 [] rfl (by kernel_rfl) (fun _ => by kernel_rfl) ?_ ?_
                    · skip
                      simp [conj, maxL]
                      try dsimp only [Ty.den, Ty.dflt]
                      try simp only [rd_eta]
                      exact ⟨by show (0 : Int) ≤ 1; decide, hm2⟩
                    refine sw_seq ?_
                    refine sw_region hP 17 [] rfl (by kernel_rfl) (fun _ => by kernel_rfl) (by first | trivial | (simp [conj]; done) | (simp [conj] at *; (try dsimp only [Ty.den, Ty.dflt] at *); omega)) ?_
                    refine sw_seq ?_
                    refine sw_region hP 18 [] rfl (by kernel_rfl) (fun _ => by kernel_rfl) ?_ ?_
                    · skip
                      simp [conj, maxL]
                      try dsimp only [Ty.den, Ty.dflt]
                      try simp only [rd_eta]
                      exact ⟨by show (0 : Int) ≤ 1; decide, by show mkN 1 (mrkS 1 (copyV m frm name).1) ≤ _; omega⟩
                    refine sw_seq ?_
                    refine sw_seq ?_
                    refine sw_ent (st' := ⟨[.junk, sStr frm, sStr name, .v false [.ptr ⟨1, 0, 0⟩ 0], .junk, .junk, .junk, .junk, .v false [.ptr ⟨7, 8, 0⟩ 0], sInt .i64 (copyV m frm name).2, .v false [.ptr ⟨8, 2, 0⟩ 0], .v false [.ptr ⟨9, 7, 0⟩ 0], sInt .i64 (copyV m frm name).2, .junk, sInt .i64 (mkN 1 (copyV m frm name).1), sInt .i64 (mkN 1 (copyV m frm name).1), .junk, .junk, .junk, .junk, .junk, .junk, .junk, .junk, .junk, .junk, .junk, .junk, .junk, .junk, .junk, .junk, .junk, .junk, .junk, .junk, .junk, .junk, .junk, .junk, .junk, .junk, .junk, .junk, .junk, .junk, .junk, .junk, .junk, .junk, .junk, .junk, .junk, .junk, .junk, .junk, .junk, .junk, .junk, .junk, .junk, .junk, .junk, .junk, .junk, .junk, .junk, .junk, .junk, .junk, .junk, .junk, .junk, .junk, .junk, .junk, .junk, .junk, .junk, .junk, .junk, .junk, .junk, .junk, .junk, .junk, .junk, .junk, .junk, .junk, .junk, .junk, .junk, .junk, .junk, .junk, .junk, .junk, .junk, .junk, .junk, .junk, .junk, .junk, .junk, .junk, .junk, .junk, .junk, .junk, .junk, .junk], [(⟨1, 0, 0⟩, .var [.d TL_Model pF m]), (⟨7, 8, 0⟩, .var [.own ⟨7, 4, 0⟩]), (⟨7, 4, 0⟩, .sl T_Shelf (.all .w) (copyV m frm name).1), (⟨8, 2, 0⟩, .var [.own ⟨8, 1, 0⟩]), (⟨8, 1, 0⟩, .sl T_Shelf (.all .w) (mrkS 1 m)), (⟨9, 7, 0⟩, .var [.own ⟨9, 3, 0⟩]), (⟨9, 3, 0⟩, .sl T_Shelf (.all .w) (mrkS 1 (copyV m frm name).1))], 18, []⟩) (ent_ok rfl ?_) ?_
                    · skip
                      simp [conj, hh]
                    refine sw_region hP 19 [] rfl (by kernel_rfl) (fun _ => by kernel_rfl) (by first | trivial | (simp [conj]; done) | (simp [conj] at *; (try dsimp only [Ty.den, Ty.dflt] at *); omega)) ?_
                    refine sw_cond rfl (fun c24 => ?_) (fun c24 => ?_)
                    · skip
                      have h : mkN 1 (copyV m frm name).1 < 0 := of_decide_eq_true c24
                      omega
                    · skip
                      refine sw_skip ?_
                      refine sw_seq ?_
                      refine sw_seq ?_
                      refine sw_region hP 20 [] rfl (by kernel_rfl) (fun _ => by kernel_rfl) (by first | trivial | (simp [conj]; done) | (simp [conj] at *; (try dsimp only [Ty.den, Ty.dflt] at *); omega)) ?_
                      refine sw_cond rfl (fun c26 => ?_) (fun c26 => ?_)
                      · skip
                        simp at c26
                      · skip
                        refine sw_skip ?_
                        refine sw_seq ?_
                        refine sw_region hP 21 [] rfl (by kernel_rfl) (fun _ => by kernel_rfl) ?_ ?_
                        · skip
                          simp [conj, maxL]
                          try dsimp only [Ty.den, Ty.dflt]
                          try simp only [rd_eta]
                          first | exact hs | exact ⟨hs, trivial⟩
                        refine sw_seq ?_
                        refine sw_seq ?_
                        refine sw_ent (st' := ⟨[.junk, sStr frm, sStr name, .v false [.ptr ⟨1, 0, 0⟩ 0], .junk, .junk, .junk, .junk, .v false [.ptr ⟨7, 8, 0⟩ 0], sInt .i64 (copyV m frm name).2, .v false [.ptr ⟨8, 2, 0⟩ 0], .v false [.ptr ⟨9, 7, 0⟩ 0], .junk, .junk, sInt .i64 (mkN 1 (copyV m frm name).1), sInt .i64 (mkN 1 (copyV m frm name).1), .v false [.ptr ⟨21, 8, 0⟩ 0], sInt .i64 (copyV m frm name).2, .junk, .junk, .junk, .junk, .junk, .junk, .junk, .junk, .junk, .junk, .junk, .junk, .junk, .junk, .junk, .junk, .junk, .junk, .junk, .junk, .junk, .junk, .junk, .junk, .junk, .junk, .junk, .junk, .junk, .junk, .junk, .junk, .junk, .junk, .junk, .junk, .junk, .junk, .junk, .junk, .junk, .junk, .junk, .junk, .junk, .junk, .junk, .junk, .junk, .junk, .junk, .junk, .junk, .junk, .junk, .junk, .junk, .junk, .junk, .junk, .junk, .junk, .junk, .junk, .junk, .junk, .junk, .junk, .junk, .junk, .junk, .junk, .junk, .junk, .junk, .junk, .junk, .junk, .junk, .junk, .junk, .junk, .junk, .junk, .junk, .junk, .junk, .junk, .junk, .junk, .junk, .junk, .junk, .junk], [(⟨1, 0, 0⟩, .var [.d TL_Model pF m]), (⟨7, 8, 0⟩, .var [.own ⟨7, 4, 0⟩]), (⟨7, 4, 0⟩, .sl T_Shelf (.all .w) (copyV m frm name).1), (⟨8, 2, 0⟩, .var [.own ⟨8, 1, 0⟩]), (⟨8, 1, 0⟩, .sl T_Shelf (.all .w) (mrkS 1 m)), (⟨9, 7, 0⟩, .var [.own ⟨9, 3, 0⟩]), (⟨9, 3, 0⟩, .sl T_Shelf (.all .w) (mrkS 1 (copyV m frm name).1)), (⟨21, 8, 0⟩, .var [.own ⟨21, 4, 0⟩]), (⟨21, 4, 0⟩, .sl T_Shelf (.all .w) (copyV m frm name).1)], 21, []⟩) (ent_ok rfl ?_) ?_
                        · skip
                          simp [conj, hw]
                        refine sw_dec hP 22 [] 4 rfl (fun g29_4 => ?_) (fun g29_4 => ?_)
                        · skip
                          simp at g29_4
                        · skip
                          refine sw_region hP 22 [(4, false)] rfl (by kernel_rfl) (fun _ => by kernel_rfl) (by first | trivial | (simp [conj]; done) | (simp [conj] at *; (try dsimp only [Ty.den, Ty.dflt] at *); omega)) ?_
                          refine sw_cond rfl (fun c29 => ?_) (fun c29 => ?_)
                          · skip
                            simp at c29
                          · skip
                            refine sw_skip ?_
                            refine sw_seq ?_
                            refine sw_region hP 23 [] rfl (by kernel_rfl) (fun _ => by kernel_rfl) (by first | trivial | (simp [conj]; done) | (simp [conj] at *; (try dsimp only [Ty.den, Ty.dflt] at *); omega)) ?_
                            refine sw_seq ?_
                            refine sw_region hP 24 [] rfl (by kernel_rfl) (fun _ => by kernel_rfl) ?_ ?_
                            · skip
                              simp [conj, maxL]
                              try dsimp only [Ty.den, Ty.dflt]
                              try simp only [rd_eta]
                              exact ⟨by show (0 : Int) ≤ 1; decide, by show mkN 1 (mrkS 1 (copyV m frm name).1) ≤ _; omega⟩
                            refine sw_seq ?_
                            refine sw_seq ?_
                            refine sw_ent (st' := ⟨[.junk, sStr frm, sStr name, .v false [.ptr ⟨1, 0, 0⟩ 0], .junk, .junk, .junk, .junk, .v false [.ptr ⟨7, 8, 0⟩ 0], .junk, .v false [.ptr ⟨8, 2, 0⟩ 0], .v false [.ptr ⟨9, 7, 0⟩ 0], .junk, .junk, sInt .i64 (mkN 1 (copyV m frm name).1), sInt .i64 (mkN 1 (copyV m frm name).1), .v false [.ptr ⟨21, 8, 0⟩ 0], .junk, .junk, .junk, .junk, .junk, .junk, .junk, .junk, .junk, .junk, .junk, .junk, .junk, .junk, .junk, .junk, .junk, .junk, .junk, .junk, .junk, .junk, .junk, .junk, .junk, .junk, .junk, .junk, .junk, .junk, .junk, .junk, .junk, .junk, .junk, .junk, .junk, .junk, .junk, .junk, .junk, .junk, .junk, .junk, .junk, .junk, .junk, .junk, .junk, .junk, .junk, .junk, .junk, .junk, .junk, .junk, .junk, .junk, .junk, .junk, .junk, .junk, .junk, .junk, .junk, .junk, .junk, .junk, .junk, .junk, .junk, .junk, .junk, .junk, .junk, .junk, .junk, .junk, .junk, .junk, .junk, .junk, .junk, .junk, .junk, .junk, .junk, .junk, .junk, .junk, .junk, .junk, .junk, .junk, .junk], [], 24, []⟩) (ent_ok rfl ?_) ?_
                            · skip
                              simp [conj, hh]
                            refine sw_region hP 25 [] rfl (by kernel_rfl) (fun _ => by kernel_rfl) (by first | trivial | (simp [conj]; done) | (simp [conj] at *; (try dsimp only [Ty.den, Ty.dflt] at *); omega)) ?_
                            refine sw_cond rfl (fun c33 => ?_) (fun c33 => ?_)
                            · skip
                              have h : mkN 1 (copyV m frm name).1 < 0 := of_decide_eq_true c33
                              omega
                            · skip
                              refine sw_skip ?_
                              refine sw_seq ?_
                              refine sw_seq ?_
                              refine sw_region hP 26 [] rfl (by kernel_rfl) (fun _ => by kernel_rfl) (by first | trivial | (simp [conj]; done) | (simp [conj] at *; (try dsimp only [Ty.den, Ty.dflt] at *); omega)) ?_
                              refine sw_cond rfl (fun c35 => ?_) (fun c35 => ?_)
                              · skip
                                simp at c35
                              · skip
                                refine sw_skip ?_
                                refine sw_seq ?_
                                refine sw_region hP 27 [] rfl (by kernel_rfl) (fun _ => by kernel_rfl) (by first | trivial | (simp [conj]; done) | (simp [conj] at *; (try dsimp only [Ty.den, Ty.dflt] at *); omega)) ?_
                                refine sw_ret ⟨.inl rfl, _, rfl, ?_⟩
                                simp [conj]
end Go.Sx
