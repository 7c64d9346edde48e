import Derived.Test.YtbnmeeajooljmaaMD5
import Derived.Test.YtbnmeeajooljmaaMPq
set_option linter.all false
namespace Go.Sx
open Go
set_option maxRecDepth 100000
set_option linter.unusedVariables false
set_option linter.unusedSimpArgs false
set_option maxHeartbeats 2000000

def cIn : Ctr := ⟨62, [.val false TI pF, .val false TI pF, .val false TI pF], fun _ => True, fun x => (sBool (inV x.1 x.2.1 x.2.2.1), [])⟩
theorem cIn_ok : CtrOk Proofs.Try.prog cIn := by
  have hP := (Prg.none ttok mtok)
  refine ctr_of_body hP cIn (fn := Proofs.Try.f62) (rts := [.tmp 6]) Proofs.Try.func62 rfl (by kernel_rfl) rfl rfl ?_
  rintro ⟨(n : Int), (a : Int), (b : Int), ⟨⟩⟩ _ hpre
  try dsimp only [Ty.den, Mode.den, mdens] at hpre
  refine ⟨rfl, ?_⟩
  refine sw_seq ?_
  refine sw_region hP 1 [] rfl (by kernel_rfl) (fun _ => by kernel_rfl) (by first | trivial | (simp [conj]; done) | (simp [conj] at *; (try dsimp only [Ty.den, Ty.dflt] at *); omega)) ?_
  refine sw_seq ?_
  refine sw_dec hP 2 [] 3 rfl (fun g1_3 => ?_) (fun g1_3 => ?_)
  · skip
    refine sw_region hP 2 [(3, true)] rfl (by kernel_rfl) (fun _ => by kernel_rfl) (by first | trivial | (simp [conj]; done) | (simp [conj] at *; (try dsimp only [Ty.den, Ty.dflt] at *); omega)) ?_
    refine sw_ret ⟨.inl rfl, _, rfl, ?_⟩
    simp [conj, inV] at *
    first | done | omega | (intros; omega)
  · skip
    refine sw_region hP 2 [(3, false)] rfl (by kernel_rfl) (fun _ => by kernel_rfl) (by first | trivial | (simp [conj]; done) | (simp [conj] at *; (try dsimp only [Ty.den, Ty.dflt] at *); omega)) ?_
    refine sw_ret ⟨.inl rfl, _, rfl, ?_⟩
    simp [conj, inV] at *
    first | done | omega | (intros; omega)

def cPutS : Ctr := ⟨38, [.val true T_Put pF], fun _ => True, fun x => (sBool (putV x.1), [])⟩
theorem cPutS_ok : CtrOk Proofs.Try.prog cPutS := by
  have hP := ((Prg.none ttok mtok).and cIn_ok)
  refine ctr_of_body hP cPutS (fn := Proofs.Try.f38) (rts := [.tmp 2]) Proofs.Try.func38 rfl (by kernel_rfl) rfl rfl ?_
  rintro ⟨⟨(rn : Bool), (at_ : Int), (tx : Str)⟩, ⟨⟩⟩ _ hpre
  try dsimp only [Ty.den, Mode.den, mdens] at hpre
  refine ⟨rfl, ?_⟩
  refine sw_seq ?_
  refine sw_region hP 1 [] rfl (by kernel_rfl) (fun _ => by kernel_rfl) (by first | trivial | (simp [conj]; done) | (simp [conj] at *; (try dsimp only [Ty.den, Ty.dflt] at *); omega)) ?_
  refine sw_seq ?_
  refine sw_seq ?_
  refine sw_region hP 2 [] rfl (by kernel_rfl) (fun _ => by kernel_rfl) ?_ ?_
  · skip
    simp [conj]
    repeat' apply And.intro
    all_goals first | trivial | assumption | omega | (simp_all; done) | (simp_all; omega)
  refine sw_cond rfl (fun c1 => ?_) (fun c1 => ?_)
  · skip
    refine sw_seq ?_
    refine sw_dec hP 3 [] 3 rfl (fun g2_3 => ?_) (fun g2_3 => ?_)
    · skip
      refine sw_region hP 3 [(3, true)] rfl (by kernel_rfl) (fun _ => by kernel_rfl) ?_ ?_
      · skip
        simp [conj]
        repeat' apply And.intro
        all_goals first | trivial | assumption | omega | (simp_all; done) | (simp_all; omega)
      refine sw_ret ⟨.inl rfl, _, rfl, ?_⟩
      simp [conj, putV, inV] at *
      first | (simp [*]; done) | (simp [*]; intros; have h := g2_3 (by assumption); omega) | (simp [*]; intros; have h := g3_3 (by assumption); omega) | (simp [*]; omega) | (simp [*]; intros; omega) | (simp only [*, if_true, Bool.false_eq_true, if_false]; refine Bool.eq_iff_iff.2 ?_; simp; omega)
    · skip
      refine sw_region hP 3 [(3, false)] rfl (by kernel_rfl) (fun _ => by kernel_rfl) ?_ ?_
      · skip
        simp [conj]
        repeat' apply And.intro
        all_goals first | trivial | assumption | omega | (simp_all; done) | (simp_all; omega)
      refine sw_ret ⟨.inl rfl, _, rfl, ?_⟩
      simp [conj, putV, inV] at *
      first | (simp [*]; done) | (simp [*]; intros; have h := g2_3 (by assumption); omega) | (simp [*]; intros; have h := g3_3 (by assumption); omega) | (simp [*]; omega) | (simp [*]; intros; omega) | (simp only [*, if_true, Bool.false_eq_true, if_false]; refine Bool.eq_iff_iff.2 ?_; simp; omega)
  · skip
    refine sw_skip ?_
    refine sw_seq ?_
    refine sw_dec hP 3 [] 3 rfl (fun g3_3 => ?_) (fun g3_3 => ?_)
    · skip
      refine sw_region hP 3 [(3, true)] rfl (by kernel_rfl) (fun _ => by kernel_rfl) ?_ ?_
      · skip
        simp [conj]
        repeat' apply And.intro
        all_goals first | trivial | assumption | omega | (simp_all; done) | (simp_all; omega)
      refine sw_ret ⟨.inl rfl, _, rfl, ?_⟩
      simp [conj, putV, inV] at *
      first | (simp [*]; done) | (simp [*]; intros; have h := g2_3 (by assumption); omega) | (simp [*]; intros; have h := g3_3 (by assumption); omega) | (simp [*]; omega) | (simp [*]; intros; omega) | (simp only [*, if_true, Bool.false_eq_true, if_false]; refine Bool.eq_iff_iff.2 ?_; simp; omega)
    · skip
      refine sw_region hP 3 [(3, false)] rfl (by kernel_rfl) (fun _ => by kernel_rfl) ?_ ?_
      · skip
        simp [conj]
        repeat' apply And.intro
        all_goals first | trivial | assumption | omega | (simp_all; done) | (simp_all; omega)
      refine sw_ret ⟨.inl rfl, _, rfl, ?_⟩
      simp [conj, putV, inV] at *
      first | (simp [*]; done) | (simp [*]; intros; have h := g2_3 (by assumption); omega) | (simp [*]; intros; have h := g3_3 (by assumption); omega) | (simp [*]; omega) | (simp [*]; intros; omega) | (simp only [*, if_true, Bool.false_eq_true, if_false]; refine Bool.eq_iff_iff.2 ?_; simp; omega)

def cDok : Ctr := ⟨28, [.val true T_Disk (.all .b)], fun _ => True, fun x => (sBool (rdV x.1), [])⟩
theorem cDok_ok : CtrOk Proofs.Try.prog cDok := by
  have hP := (((Prg.none ttok mtok).and cIn_ok).and cPutS_ok)
  refine ctr_of_body hP cDok (fn := Proofs.Try.f28) (rts := [.tmp 2]) Proofs.Try.func28 rfl (by kernel_rfl) rfl rfl ?_
  rintro ⟨⟨(st : Int), (sl : List Str), (rg : List Str), (sp : List Bool), (wt : List Put)⟩, ⟨⟩⟩ _ hpre
  try dsimp only [Ty.den, Mode.den, mdens] at hpre
  refine ⟨rfl, ?_⟩
  refine sw_seq ?_
  refine sw_region hP 1 [] rfl (by kernel_rfl) (fun _ => by kernel_rfl) (by first | trivial | (simp [conj]; done) | (simp [conj] at *; (try dsimp only [Ty.den, Ty.dflt] at *); omega)) ?_
  refine sw_seq ?_
  refine sw_seq ?_
  refine sw_dec hP 2 [] 4 rfl (fun g1_4 => ?_) (fun g1_4 => ?_)
  · skip
    replace g1_4 : stV st = false := by have h := g1_4; simp [inV] at h; simp [stV]; omega
    refine sw_region hP 2 [(4, true)] rfl (by kernel_rfl) (fun _ => by kernel_rfl) ?_ ?_
    · skip
      simp [conj]
      repeat' apply And.intro
      all_goals first | assumption | omega | trivial | (simp_all [stV]; done) | (simp_all [stV]; omega)
    refine sw_condT rfl ?_
    refine sw_seq ?_
    refine sw_region hP 3 [] rfl (by kernel_rfl) (fun _ => by kernel_rfl) (by first | trivial | (simp [conj]; done) | (simp [conj] at *; (try dsimp only [Ty.den, Ty.dflt] at *); omega)) ?_
    refine sw_ret ⟨.inl rfl, _, rfl, ?_⟩
    simp [conj]
    rw [← dok_eq]
    have h : shapedV ((st, sl, rg, sp, wt) : Dsk) = false := by simp [shapedV, *]
    simp [dokV, h]
  · skip
    replace g1_4 : stV st = true := by have h := g1_4; simp [inV] at h; simp [stV]; omega
    refine sw_dec hP 2 [(4, false)] 10 rfl (fun g1_10 => ?_) (fun g1_10 => ?_)
    · skip
      replace g1_10 : ¬ sl.length = 12 := by have h := g1_10; simp at h; omega
      refine sw_region hP 2 [(4, false), (10, true)] rfl (by kernel_rfl) (fun _ => by kernel_rfl) ?_ ?_
      · skip
        simp [conj]
        repeat' apply And.intro
        all_goals first | assumption | omega | trivial | (simp_all [stV]; done) | (simp_all [stV]; omega)
      refine sw_condT rfl ?_
      refine sw_seq ?_
      refine sw_region hP 3 [] rfl (by kernel_rfl) (fun _ => by kernel_rfl) (by first | trivial | (simp [conj]; done) | (simp [conj] at *; (try dsimp only [Ty.den, Ty.dflt] at *); omega)) ?_
      refine sw_ret ⟨.inl rfl, _, rfl, ?_⟩
      simp [conj]
      rw [← dok_eq]
      have h : shapedV ((st, sl, rg, sp, wt) : Dsk) = false := by simp [shapedV, *]
      simp [dokV, h]
    · skip
      replace g1_10 : sl.length = 12 := by have h := g1_10; simp at h; omega
      refine sw_dec hP 2 [(4, false), (10, false)] 16 rfl (fun g1_16 => ?_) (fun g1_16 => ?_)
      · skip
        replace g1_16 : ¬ rg.length = 2 := by have h := g1_16; simp at h; omega
        refine sw_region hP 2 [(4, false), (10, false), (16, true)] rfl (by kernel_rfl) (fun _ => by kernel_rfl) ?_ ?_
        · skip
          simp [conj]
          repeat' apply And.intro
          all_goals first | assumption | omega | trivial | (simp_all [stV]; done) | (simp_all [stV]; omega)
        refine sw_condT rfl ?_
        refine sw_seq ?_
        refine sw_region hP 3 [] rfl (by kernel_rfl) (fun _ => by kernel_rfl) (by first | trivial | (simp [conj]; done) | (simp [conj] at *; (try dsimp only [Ty.den, Ty.dflt] at *); omega)) ?_
        refine sw_ret ⟨.inl rfl, _, rfl, ?_⟩
        simp [conj]
        rw [← dok_eq]
        have h : shapedV ((st, sl, rg, sp, wt) : Dsk) = false := by simp [shapedV, *]
        simp [dokV, h]
      · skip
        replace g1_16 : rg.length = 2 := by have h := g1_16; simp at h; omega
        refine sw_dec hP 2 [(4, false), (10, false), (16, false)] 22 rfl (fun g1_22 => ?_) (fun g1_22 => ?_)
        · skip
          replace g1_22 : ¬ sp.length = 12 := by have h := g1_22; simp at h; omega
          refine sw_region hP 2 [(4, false), (10, false), (16, false), (22, true)] rfl (by kernel_rfl) (fun _ => by kernel_rfl) ?_ ?_
          · skip
            simp [conj]
            repeat' apply And.intro
            all_goals first | assumption | omega | trivial | (simp_all [stV]; done) | (simp_all [stV]; omega)
          refine sw_condT rfl ?_
          refine sw_seq ?_
          refine sw_region hP 3 [] rfl (by kernel_rfl) (fun _ => by kernel_rfl) (by first | trivial | (simp [conj]; done) | (simp [conj] at *; (try dsimp only [Ty.den, Ty.dflt] at *); omega)) ?_
          refine sw_ret ⟨.inl rfl, _, rfl, ?_⟩
          simp [conj]
          rw [← dok_eq]
          have h : shapedV ((st, sl, rg, sp, wt) : Dsk) = false := by simp [shapedV, *]
          simp [dokV, h]
        · skip
          replace g1_22 : sp.length = 12 := by have h := g1_22; simp at h; omega
          refine sw_region hP 2 [(4, false), (10, false), (16, false), (22, false)] rfl (by kernel_rfl) (fun _ => by kernel_rfl) ?_ ?_
          · skip
            simp [conj]
            repeat' apply And.intro
            all_goals first | assumption | omega | trivial | (simp_all [stV]; done) | (simp_all [stV]; omega)
          refine sw_cond rfl (fun c1 => ?_) (fun c1 => ?_)
          · skip
            replace c1 : ¬ wt.length ≤ 40 := by have h := c1; simp at h; omega
            refine sw_seq ?_
            refine sw_region hP 3 [] rfl (by kernel_rfl) (fun _ => by kernel_rfl) (by first | trivial | (simp [conj]; done) | (simp [conj] at *; (try dsimp only [Ty.den, Ty.dflt] at *); omega)) ?_
            refine sw_ret ⟨.inl rfl, _, rfl, ?_⟩
            simp [conj]
            rw [← dok_eq]
            have h : shapedV ((st, sl, rg, sp, wt) : Dsk) = false := by simp [shapedV, *]
            simp [dokV, h]
          · skip
            replace c1 : wt.length ≤ 40 := by have h := c1; simp at h; omega
            have hsh : shapedV ((st, sl, rg, sp, wt) : Dsk) = true := by simp [shapedV, *]
            refine sw_skip ?_
            refine sw_seq ?_
            refine sw_seq ?_
            refine sw_region hP 3 [] rfl (by kernel_rfl) (fun _ => by kernel_rfl) (by first | trivial | (simp [conj]; done) | (simp [conj] at *; (try dsimp only [Ty.den, Ty.dflt] at *); omega)) ?_
            refine sw_block ?_
            refine sw_loop (ι := Nat) (fun i => ⟨[.junk, .v false [.ptr ⟨1, 0, 0⟩ 0], .junk, sInt .i64 (i : Int), .junk, .junk, .junk, .junk, .junk, .junk, .junk, .junk, .junk, .junk, .junk, .junk, .junk, .junk, .junk, .junk, .junk, .junk, .junk, .junk, .junk, .junk, .junk, .junk, .junk, .junk, .junk, .junk, .junk, .junk, .junk, .junk, .junk, .junk, .junk, .junk, .junk, .junk, .junk, .junk, .junk, .junk, .junk, .junk, .junk, .junk, .junk, .junk, .junk, .junk, .junk, .junk, .junk, .junk, .junk, .junk, .junk, .junk, .junk, .junk, .junk, .junk, .junk, .junk, .junk, .junk, .junk, .junk, .junk, .junk, .junk, .junk, .junk, .junk, .junk, .junk, .junk, .junk, .junk, .junk, .junk, .junk, .junk, .junk, .junk, .junk, .junk, .junk, .junk, .junk, .junk, .junk, .junk, .junk, .junk, .junk, .junk, .junk, .junk, .junk, .junk, .junk, .junk, .junk, .junk, .junk, .junk, .junk, .junk, .junk, .junk, .junk, .junk, .junk, .junk, .junk, .junk, .junk, .junk, .junk, .junk], [(⟨1, 0, 0⟩, .var [.d TI pF st, .d (.sl .str) (.all .b) sl, .d (.sl .str) (.all .b) rg, .d (.sl .bool) (.all .b) sp, .d (.sl T_Put) (.all .b) wt])], 3, []⟩) (fun i => sl.length - i) (fun i => i ≤ sl.length ∧ slotsS (decide (st = 1)) (sl.drop i) (sp.drop i) = slotsS (decide (st = 1)) sl sp) 0 ⟨?_, ?_⟩ ?_
            · skip
              exact ⟨Nat.zero_le _, rfl⟩
            · refine ent_ok rfl ?_
              first | trivial | (simp [conj]; done) | (simp [conj] at *; (try dsimp only [Ty.den, Ty.dflt] at *); omega)
            · rintro i ⟨hi, hgo⟩
              refine sw_seq ?_
              refine sw_seq ?_
              refine sw_region hP 4 [] rfl (by kernel_rfl) (fun _ => by kernel_rfl) (by first | trivial | (simp [conj]; done) | (simp [conj] at *; (try dsimp only [Ty.den, Ty.dflt] at *); omega)) ?_
              refine sw_cond rfl (fun c4 => ?_) (fun c4 => ?_)
              · skip
                have hlt : i < sl.length := by simpa using c4
                have hlt2 : i < sp.length := by omega
                refine sw_skip ?_
                refine sw_seq ?_
                refine sw_block ?_
                refine sw_seq ?_
                refine sw_region hP 5 [] rfl (by kernel_rfl) (fun _ => by kernel_rfl) ?_ ?_
                · skip
                  simp [conj, List.getElem?_eq_getElem hlt, List.getElem?_eq_getElem hlt2]
                  repeat' apply And.intro
                  all_goals first | assumption | omega | trivial | (simp_all; done) | (simp_all; omega)
                refine sw_seq ?_
                refine sw_dec hP 6 [] 2 rfl (fun g7_2 => ?_) (fun g7_2 => ?_)
                · skip
                  have hne : ¬ sl[i] = [] := by have h := g7_2; simp [List.getElem?_eq_getElem hlt, List.getElem?_eq_getElem hlt2] at h; exact h
                  replace g7_2 : ¬ sl[i].length = 0 := fun e => hne (List.eq_nil_of_length_eq_zero e)
                  refine sw_dec hP 6 [(2, true)] 6 rfl (fun g7_6 => ?_) (fun g7_6 => ?_)
                  · skip
                    replace g7_6 : ¬ sl[i].length = 3 := by have h := g7_6; simp [List.getElem?_eq_getElem hlt, List.getElem?_eq_getElem hlt2] at h; omega
                    refine sw_region hP 6 [(2, true), (6, true)] rfl (by kernel_rfl) (fun _ => by kernel_rfl) ?_ ?_
                    · skip
                      simp [conj, List.getElem?_eq_getElem hlt, List.getElem?_eq_getElem hlt2]
                      repeat' apply And.intro
                      all_goals first | assumption | omega | trivial | (simp_all; done) | (simp_all; omega)
                    refine sw_condT rfl ?_
                    refine sw_seq ?_
                    refine sw_region hP 7 [] rfl (by kernel_rfl) (fun _ => by kernel_rfl) (by first | trivial | (simp [conj]; done) | (simp [conj] at *; (try dsimp only [Ty.den, Ty.dflt] at *); omega)) ?_
                    refine sw_ret ⟨.inl rfl, _, rfl, ?_⟩
                    simp [conj]
                    rw [← dok_eq]
                    have h := slotsS_hit hlt hlt2 hgo (by simp [slotS, *])
                    simp [dokV, h]
                  · skip
                    replace g7_6 : sl[i].length = 3 := by have h := g7_6; simp [List.getElem?_eq_getElem hlt, List.getElem?_eq_getElem hlt2] at h; omega
                    refine sw_dec hP 6 [(2, true), (6, false)] 12 rfl (fun g7_12 => ?_) (fun g7_12 => ?_)
                    · skip
                      replace g7_12 : sp[i] = true := by have h := g7_12; simp [List.getElem?_eq_getElem hlt, List.getElem?_eq_getElem hlt2] at h; exact h
                      refine sw_dec hP 6 [(2, true), (6, false), (12, true)] 17 rfl (fun g7_17 => ?_) (fun g7_17 => ?_)
                      · skip
                        exfalso
                        have h := g7_17; simp [List.getElem?_eq_getElem hlt, List.getElem?_eq_getElem hlt2] at h; exact hne h
                      · skip
                        refine sw_dec hP 6 [(2, true), (6, false), (12, true), (17, false)] 21 rfl (fun g7_21 => ?_) (fun g7_21 => ?_)
                        · skip
                          replace g7_21 : st = 1 := of_decide_eq_true g7_21
                          refine sw_region hP 6 [(2, true), (6, false), (12, true), (17, false), (21, true)] rfl (by kernel_rfl) (fun _ => by kernel_rfl) ?_ ?_
                          · skip
                            simp [conj, List.getElem?_eq_getElem hlt, List.getElem?_eq_getElem hlt2]
                            repeat' apply And.intro
                            all_goals first | assumption | omega | trivial | (simp_all; done) | (simp_all; omega)
                          refine sw_cond rfl (fun c7 => ?_) (fun c7 => ?_)
                          · skip
                            refine sw_seq ?_
                            refine sw_region hP 7 [] rfl (by kernel_rfl) (fun _ => by kernel_rfl) (by first | trivial | (simp [conj]; done) | (simp [conj] at *; (try dsimp only [Ty.den, Ty.dflt] at *); omega)) ?_
                            refine sw_ret ⟨.inl rfl, _, rfl, ?_⟩
                            simp [conj]
                            rw [← dok_eq]
                            have h := slotsS_hit hlt hlt2 hgo (by simp [slotS, *])
                            simp [dokV, h]
                          · skip
                            exfalso
                            have h := c7; simp [List.getElem?_eq_getElem hlt, List.getElem?_eq_getElem hlt2] at h; first | omega | exact hne h | exact h hne
                        · skip
                          replace g7_21 : ¬ st = 1 := of_decide_eq_false g7_21
                          refine sw_region hP 6 [(2, true), (6, false), (12, true), (17, false), (21, false)] rfl (by kernel_rfl) (fun _ => by kernel_rfl) ?_ ?_
                          · skip
                            simp [conj, List.getElem?_eq_getElem hlt, List.getElem?_eq_getElem hlt2]
                            repeat' apply And.intro
                            all_goals first | assumption | omega | trivial | (simp_all; done) | (simp_all; omega)
                          refine sw_condF rfl ?_
                          refine sw_skip ?_
                          refine sw_region hP 7 [] rfl (by kernel_rfl) (fun _ => by kernel_rfl) (by first | trivial | (simp [conj]; done) | (simp [conj] at *; (try dsimp only [Ty.den, Ty.dflt] at *); omega)) ?_
                          refine ⟨i + 1, ?_, ?_, ent_ok rfl ?_⟩
                          · skip
                            exact ⟨hlt, slotsS_next hlt hlt2 hgo (by simp [slotS, *])⟩
                          · skip
                            omega
                          · skip
                            simp [conj]
                    · skip
                      replace g7_12 : sp[i] = false := by have h := g7_12; simp [List.getElem?_eq_getElem hlt, List.getElem?_eq_getElem hlt2] at h; exact h
                      refine sw_dec hP 6 [(2, true), (6, false), (12, false)] 21 rfl (fun g7_21 => ?_) (fun g7_21 => ?_)
                      · skip
                        replace g7_21 : st = 1 := of_decide_eq_true g7_21
                        refine sw_region hP 6 [(2, true), (6, false), (12, false), (21, true)] rfl (by kernel_rfl) (fun _ => by kernel_rfl) ?_ ?_
                        · skip
                          simp [conj, List.getElem?_eq_getElem hlt, List.getElem?_eq_getElem hlt2]
                          repeat' apply And.intro
                          all_goals first | assumption | omega | trivial | (simp_all; done) | (simp_all; omega)
                        refine sw_cond rfl (fun c7 => ?_) (fun c7 => ?_)
                        · skip
                          refine sw_seq ?_
                          refine sw_region hP 7 [] rfl (by kernel_rfl) (fun _ => by kernel_rfl) (by first | trivial | (simp [conj]; done) | (simp [conj] at *; (try dsimp only [Ty.den, Ty.dflt] at *); omega)) ?_
                          refine sw_ret ⟨.inl rfl, _, rfl, ?_⟩
                          simp [conj]
                          rw [← dok_eq]
                          have h := slotsS_hit hlt hlt2 hgo (by simp [slotS, *])
                          simp [dokV, h]
                        · skip
                          exfalso
                          have h := c7; simp [List.getElem?_eq_getElem hlt, List.getElem?_eq_getElem hlt2] at h; first | omega | exact hne h | exact h hne
                      · skip
                        replace g7_21 : ¬ st = 1 := of_decide_eq_false g7_21
                        refine sw_region hP 6 [(2, true), (6, false), (12, false), (21, false)] rfl (by kernel_rfl) (fun _ => by kernel_rfl) ?_ ?_
                        · skip
                          simp [conj, List.getElem?_eq_getElem hlt, List.getElem?_eq_getElem hlt2]
                          repeat' apply And.intro
                          all_goals first | assumption | omega | trivial | (simp_all; done) | (simp_all; omega)
                        refine sw_condF rfl ?_
                        refine sw_skip ?_
                        refine sw_region hP 7 [] rfl (by kernel_rfl) (fun _ => by kernel_rfl) (by first | trivial | (simp [conj]; done) | (simp [conj] at *; (try dsimp only [Ty.den, Ty.dflt] at *); omega)) ?_
                        refine ⟨i + 1, ?_, ?_, ent_ok rfl ?_⟩
                        · skip
                          exact ⟨hlt, slotsS_next hlt hlt2 hgo (by simp [slotS, *])⟩
                        · skip
                          omega
                        · skip
                          simp [conj]
                · skip
                  have hne : sl[i] = [] := by have h := g7_2; simp [List.getElem?_eq_getElem hlt, List.getElem?_eq_getElem hlt2] at h; exact h
                  replace g7_2 : sl[i].length = 0 := by rw [hne]; rfl
                  refine sw_dec hP 6 [(2, false)] 12 rfl (fun g7_12 => ?_) (fun g7_12 => ?_)
                  · skip
                    replace g7_12 : sp[i] = true := by have h := g7_12; simp [List.getElem?_eq_getElem hlt, List.getElem?_eq_getElem hlt2] at h; exact h
                    refine sw_dec hP 6 [(2, false), (12, true)] 17 rfl (fun g7_17 => ?_) (fun g7_17 => ?_)
                    · skip
                      refine sw_region hP 6 [(2, false), (12, true), (17, true)] rfl (by kernel_rfl) (fun _ => by kernel_rfl) ?_ ?_
                      · skip
                        simp [conj, List.getElem?_eq_getElem hlt, List.getElem?_eq_getElem hlt2]
                        repeat' apply And.intro
                        all_goals first | assumption | omega | trivial | (simp_all; done) | (simp_all; omega)
                      refine sw_condT rfl ?_
                      refine sw_seq ?_
                      refine sw_region hP 7 [] rfl (by kernel_rfl) (fun _ => by kernel_rfl) (by first | trivial | (simp [conj]; done) | (simp [conj] at *; (try dsimp only [Ty.den, Ty.dflt] at *); omega)) ?_
                      refine sw_ret ⟨.inl rfl, _, rfl, ?_⟩
                      simp [conj]
                      rw [← dok_eq]
                      have h := slotsS_hit hlt hlt2 hgo (by simp [slotS, *])
                      simp [dokV, h]
                    · skip
                      exfalso
                      have h := g7_17; simp [List.getElem?_eq_getElem hlt, List.getElem?_eq_getElem hlt2] at h; exact h hne
                  · skip
                    replace g7_12 : sp[i] = false := by have h := g7_12; simp [List.getElem?_eq_getElem hlt, List.getElem?_eq_getElem hlt2] at h; exact h
                    refine sw_dec hP 6 [(2, false), (12, false)] 21 rfl (fun g7_21 => ?_) (fun g7_21 => ?_)
                    · skip
                      replace g7_21 : st = 1 := of_decide_eq_true g7_21
                      refine sw_region hP 6 [(2, false), (12, false), (21, true)] rfl (by kernel_rfl) (fun _ => by kernel_rfl) ?_ ?_
                      · skip
                        simp [conj, List.getElem?_eq_getElem hlt, List.getElem?_eq_getElem hlt2]
                        repeat' apply And.intro
                        all_goals first | assumption | omega | trivial | (simp_all; done) | (simp_all; omega)
                      refine sw_cond rfl (fun c7 => ?_) (fun c7 => ?_)
                      · skip
                        exfalso
                        have h := c7; simp [List.getElem?_eq_getElem hlt, List.getElem?_eq_getElem hlt2] at h; first | omega | exact hne h | exact h hne
                      · skip
                        refine sw_skip ?_
                        refine sw_region hP 7 [] rfl (by kernel_rfl) (fun _ => by kernel_rfl) (by first | trivial | (simp [conj]; done) | (simp [conj] at *; (try dsimp only [Ty.den, Ty.dflt] at *); omega)) ?_
                        refine ⟨i + 1, ?_, ?_, ent_ok rfl ?_⟩
                        · skip
                          exact ⟨hlt, slotsS_next hlt hlt2 hgo (by simp [slotS, *])⟩
                        · skip
                          omega
                        · skip
                          simp [conj]
                    · skip
                      replace g7_21 : ¬ st = 1 := of_decide_eq_false g7_21
                      refine sw_region hP 6 [(2, false), (12, false), (21, false)] rfl (by kernel_rfl) (fun _ => by kernel_rfl) ?_ ?_
                      · skip
                        simp [conj, List.getElem?_eq_getElem hlt, List.getElem?_eq_getElem hlt2]
                        repeat' apply And.intro
                        all_goals first | assumption | omega | trivial | (simp_all; done) | (simp_all; omega)
                      refine sw_condF rfl ?_
                      refine sw_skip ?_
                      refine sw_region hP 7 [] rfl (by kernel_rfl) (fun _ => by kernel_rfl) (by first | trivial | (simp [conj]; done) | (simp [conj] at *; (try dsimp only [Ty.den, Ty.dflt] at *); omega)) ?_
                      refine ⟨i + 1, ?_, ?_, ent_ok rfl ?_⟩
                      · skip
                        exact ⟨hlt, slotsS_next hlt hlt2 hgo (by simp [slotS, *])⟩
                      · skip
                        omega
                      · skip
                        simp [conj]
              · skip
                obtain rfl : i = sl.length := by simp at c4; omega
                have hS := slotsS_end hgo
                refine sw_exit ?_
                refine sw_seq ?_
                refine sw_seq ?_
                refine sw_region hP 5 [] rfl (by kernel_rfl) (fun _ => by kernel_rfl) (by first | trivial | (simp [conj]; done) | (simp [conj] at *; (try dsimp only [Ty.den, Ty.dflt] at *); omega)) ?_
                refine sw_block ?_
                refine sw_loop (ι := Nat) (fun i => ⟨[.junk, .v false [.ptr ⟨1, 0, 0⟩ 0], .junk, .junk, .junk, sInt .i64 (i : Int), .junk, .junk, .junk, .junk, .junk, .junk, .junk, .junk, .junk, .junk, .junk, .junk, .junk, .junk, .junk, .junk, .junk, .junk, .junk, .junk, .junk, .junk, .junk, .junk, .junk, .junk, .junk, .junk, .junk, .junk, .junk, .junk, .junk, .junk, .junk, .junk, .junk, .junk, .junk, .junk, .junk, .junk, .junk, .junk, .junk, .junk, .junk, .junk, .junk, .junk, .junk, .junk, .junk, .junk, .junk, .junk, .junk, .junk, .junk, .junk, .junk, .junk, .junk, .junk, .junk, .junk, .junk, .junk, .junk, .junk, .junk, .junk, .junk, .junk, .junk, .junk, .junk, .junk, .junk, .junk, .junk, .junk, .junk, .junk, .junk, .junk, .junk, .junk, .junk, .junk, .junk, .junk, .junk, .junk, .junk, .junk, .junk, .junk, .junk, .junk, .junk, .junk, .junk, .junk, .junk, .junk, .junk, .junk, .junk, .junk, .junk, .junk, .junk, .junk, .junk, .junk, .junk, .junk, .junk], [(⟨1, 0, 0⟩, .var [.d TI pF st, .d (.sl .str) (.all .b) sl, .d (.sl .str) (.all .b) rg, .d (.sl .bool) (.all .b) sp, .d (.sl T_Put) (.all .b) wt])], 5, []⟩) (fun i => rg.length - i) (fun i => i ≤ rg.length ∧ (rg.drop i).any (ringS (decide (st = 1))) = rg.any (ringS (decide (st = 1)))) 0 ⟨?_, ?_⟩ ?_
                · skip
                  exact ⟨Nat.zero_le _, rfl⟩
                · refine ent_ok rfl ?_
                  first | trivial | (simp [conj]; done) | (simp [conj] at *; (try dsimp only [Ty.den, Ty.dflt] at *); omega)
                · rintro i ⟨hi, hgo⟩
                  refine sw_seq ?_
                  refine sw_seq ?_
                  refine sw_region hP 6 [] rfl (by kernel_rfl) (fun _ => by kernel_rfl) (by first | trivial | (simp [conj]; done) | (simp [conj] at *; (try dsimp only [Ty.den, Ty.dflt] at *); omega)) ?_
                  refine sw_cond rfl (fun c10 => ?_) (fun c10 => ?_)
                  · skip
                    have hlt : i < rg.length := by simpa using c10
                    refine sw_skip ?_
                    refine sw_seq ?_
                    refine sw_block ?_
                    refine sw_seq ?_
                    refine sw_dec hP 7 [] 7 rfl (fun g12_7 => ?_) (fun g12_7 => ?_)
                    · skip
                      replace g12_7 : 700 < rg[i].length := by have h := g12_7; simp [List.getElem?_eq_getElem hlt] at h; omega
                      refine sw_region hP 7 [(7, true)] rfl (by kernel_rfl) (fun _ => by kernel_rfl) ?_ ?_
                      · skip
                        simp [conj, List.getElem?_eq_getElem hlt]
                        repeat' apply And.intro
                        all_goals first | assumption | omega | trivial | (simp_all; done) | (simp_all; omega)
                      refine sw_condT rfl ?_
                      refine sw_seq ?_
                      refine sw_region hP 8 [] rfl (by kernel_rfl) (fun _ => by kernel_rfl) (by first | trivial | (simp [conj]; done) | (simp [conj] at *; (try dsimp only [Ty.den, Ty.dflt] at *); omega)) ?_
                      refine sw_ret ⟨.inl rfl, _, rfl, ?_⟩
                      simp [conj]
                      rw [← dok_eq]
                      have h := any_hit hlt hgo (by simp [ringS, *])
                      simp [dokV, h]
                    · skip
                      replace g12_7 : ¬ 700 < rg[i].length := by have h := g12_7; simp [List.getElem?_eq_getElem hlt] at h; omega
                      refine sw_dec hP 7 [(7, false)] 11 rfl (fun g12_11 => ?_) (fun g12_11 => ?_)
                      · skip
                        replace g12_11 : st = 1 := of_decide_eq_true g12_11
                        refine sw_region hP 7 [(7, false), (11, true)] rfl (by kernel_rfl) (fun _ => by kernel_rfl) ?_ ?_
                        · skip
                          simp [conj, List.getElem?_eq_getElem hlt]
                          repeat' apply And.intro
                          all_goals first | assumption | omega | trivial | (simp_all; done) | (simp_all; omega)
                        refine sw_cond rfl (fun c12 => ?_) (fun c12 => ?_)
                        · skip
                          replace c12 : 0 < rg[i].length := by have h := c12; simp [List.getElem?_eq_getElem hlt] at h; first | omega | exact List.length_pos_iff.2 h
                          refine sw_seq ?_
                          refine sw_region hP 8 [] rfl (by kernel_rfl) (fun _ => by kernel_rfl) (by first | trivial | (simp [conj]; done) | (simp [conj] at *; (try dsimp only [Ty.den, Ty.dflt] at *); omega)) ?_
                          refine sw_ret ⟨.inl rfl, _, rfl, ?_⟩
                          simp [conj]
                          rw [← dok_eq]
                          have h := any_hit hlt hgo (by simp [ringS, *])
                          simp [dokV, h]
                        · skip
                          replace c12 : ¬ 0 < rg[i].length := by have h := c12; simp [List.getElem?_eq_getElem hlt] at h; first | omega | (rw [h]; simp)
                          refine sw_skip ?_
                          refine sw_region hP 8 [] rfl (by kernel_rfl) (fun _ => by kernel_rfl) (by first | trivial | (simp [conj]; done) | (simp [conj] at *; (try dsimp only [Ty.den, Ty.dflt] at *); omega)) ?_
                          refine ⟨i + 1, ?_, ?_, ent_ok rfl ?_⟩
                          · skip
                            exact ⟨hlt, any_next hlt hgo (by simp [ringS, *]; try omega)⟩
                          · skip
                            omega
                          · skip
                            simp [conj]
                      · skip
                        replace g12_11 : ¬ st = 1 := of_decide_eq_false g12_11
                        refine sw_region hP 7 [(7, false), (11, false)] rfl (by kernel_rfl) (fun _ => by kernel_rfl) ?_ ?_
                        · skip
                          simp [conj, List.getElem?_eq_getElem hlt]
                          repeat' apply And.intro
                          all_goals first | assumption | omega | trivial | (simp_all; done) | (simp_all; omega)
                        refine sw_condF rfl ?_
                        refine sw_skip ?_
                        refine sw_region hP 8 [] rfl (by kernel_rfl) (fun _ => by kernel_rfl) (by first | trivial | (simp [conj]; done) | (simp [conj] at *; (try dsimp only [Ty.den, Ty.dflt] at *); omega)) ?_
                        refine ⟨i + 1, ?_, ?_, ent_ok rfl ?_⟩
                        · skip
                          exact ⟨hlt, any_next hlt hgo (by simp [ringS, *]; try omega)⟩
                        · skip
                          omega
                        · skip
                          simp [conj]
                  · skip
                    obtain rfl : i = rg.length := by simp at c10; omega
                    have hR := any_end hgo
                    refine sw_exit ?_
                    refine sw_seq ?_
                    refine sw_seq ?_
                    refine sw_region hP 7 [] rfl (by kernel_rfl) (fun _ => by kernel_rfl) (by first | trivial | (simp [conj]; done) | (simp [conj] at *; (try dsimp only [Ty.den, Ty.dflt] at *); omega)) ?_
                    refine sw_block ?_
                    refine sw_loop (ι := Nat) (fun i => ⟨[.junk, .v false [.ptr ⟨1, 0, 0⟩ 0], .junk, .junk, .junk, .junk, sInt .i64 (i : Int), .junk, .junk, .junk, .junk, .junk, .junk, .junk, .junk, .junk, .junk, .junk, .junk, .junk, .junk, .junk, .junk, .junk, .junk, .junk, .junk, .junk, .junk, .junk, .junk, .junk, .junk, .junk, .junk, .junk, .junk, .junk, .junk, .junk, .junk, .junk, .junk, .junk, .junk, .junk, .junk, .junk, .junk, .junk, .junk, .junk, .junk, .junk, .junk, .junk, .junk, .junk, .junk, .junk, .junk, .junk, .junk, .junk, .junk, .junk, .junk, .junk, .junk, .junk, .junk, .junk, .junk, .junk, .junk, .junk, .junk, .junk, .junk, .junk, .junk, .junk, .junk, .junk, .junk, .junk, .junk, .junk, .junk, .junk, .junk, .junk, .junk, .junk, .junk, .junk, .junk, .junk, .junk, .junk, .junk, .junk, .junk, .junk, .junk, .junk, .junk, .junk, .junk, .junk, .junk, .junk, .junk, .junk, .junk, .junk, .junk, .junk, .junk, .junk, .junk, .junk, .junk, .junk, .junk], [(⟨1, 0, 0⟩, .var [.d TI pF st, .d (.sl .str) (.all .b) sl, .d (.sl .str) (.all .b) rg, .d (.sl .bool) (.all .b) sp, .d (.sl T_Put) (.all .b) wt])], 7, []⟩) (fun i => wt.length - i) (fun i => i ≤ wt.length ∧ (wt.drop i).any badP = wt.any badP) 0 ⟨?_, ?_⟩ ?_
                    · skip
                      exact ⟨Nat.zero_le _, rfl⟩
                    · refine ent_ok rfl ?_
                      first | trivial | (simp [conj]; done) | (simp [conj] at *; (try dsimp only [Ty.den, Ty.dflt] at *); omega)
                    · rintro i ⟨hi, hgo⟩
                      refine sw_seq ?_
                      refine sw_seq ?_
                      refine sw_region hP 8 [] rfl (by kernel_rfl) (fun _ => by kernel_rfl) (by first | trivial | (simp [conj]; done) | (simp [conj] at *; (try dsimp only [Ty.den, Ty.dflt] at *); omega)) ?_
                      refine sw_cond rfl (fun c15 => ?_) (fun c15 => ?_)
                      · skip
                        have hlt : i < wt.length := by simpa using c15
                        refine sw_skip ?_
                        refine sw_seq ?_
                        refine sw_block ?_
                        refine sw_seq ?_
                        refine sw_region hP 9 [] rfl (by kernel_rfl) (fun _ => by kernel_rfl) ?_ ?_
                        · skip
                          simp [conj, List.getElem?_eq_getElem hlt]
                          repeat' apply And.intro
                          all_goals first | assumption | omega | trivial | (simp_all; done) | (simp_all; omega)
                        refine sw_cond rfl (fun c17 => ?_) (fun c17 => ?_)
                        · skip
                          replace c17 : badP wt[i] = true := by have h := c17; simp [List.getElem?_eq_getElem hlt] at h; simpa [badP] using h
                          refine sw_seq ?_
                          refine sw_region hP 10 [] rfl (by kernel_rfl) (fun _ => by kernel_rfl) (by first | trivial | (simp [conj]; done) | (simp [conj] at *; (try dsimp only [Ty.den, Ty.dflt] at *); omega)) ?_
                          refine sw_ret ⟨.inl rfl, _, rfl, ?_⟩
                          simp [conj]
                          rw [← dok_eq]
                          have h := any_hit hlt hgo c17
                          simp [dokV, h]
                        · skip
                          replace c17 : badP wt[i] = false := by have h := c17; simp [List.getElem?_eq_getElem hlt] at h; simpa [badP] using h
                          refine sw_skip ?_
                          refine sw_region hP 10 [] rfl (by kernel_rfl) (fun _ => by kernel_rfl) (by first | trivial | (simp [conj]; done) | (simp [conj] at *; (try dsimp only [Ty.den, Ty.dflt] at *); omega)) ?_
                          refine ⟨i + 1, ?_, ?_, ent_ok rfl ?_⟩
                          · skip
                            exact ⟨hlt, any_next hlt hgo c17⟩
                          · skip
                            omega
                          · skip
                            simp [conj]
                      · skip
                        obtain rfl : i = wt.length := by simp at c15; omega
                        have hW := any_end hgo
                        refine sw_exit ?_
                        refine sw_seq ?_
                        refine sw_dec hP 9 [] 3 rfl (fun g19_3 => ?_) (fun g19_3 => ?_)
                        · skip
                          replace g19_3 : ¬ st = 1 := by have h := g19_3; simpa using h
                          refine sw_region hP 9 [(3, true)] rfl (by kernel_rfl) (fun _ => by kernel_rfl) ?_ ?_
                          · skip
                            simp [conj]
                            repeat' apply And.intro
                            all_goals first | assumption | omega | trivial | (simp_all [stV]; done) | (simp_all [stV]; omega)
                          refine sw_ret ⟨.inl rfl, _, rfl, ?_⟩
                          simp [conj]
                          rw [← dok_eq]
                          have h : dokV ((st, sl, rg, sp, wt) : Dsk) = (decide (¬ st = 1) || decide (wt.length = 0)) := by unfold dokV; dsimp only; rw [hsh, hS, hR, hW]; rfl
                          rw [h]
                          simp [g19_3]
                        · skip
                          replace g19_3 : st = 1 := by have h := g19_3; simpa using h
                          refine sw_region hP 9 [(3, false)] rfl (by kernel_rfl) (fun _ => by kernel_rfl) ?_ ?_
                          · skip
                            simp [conj]
                            repeat' apply And.intro
                            all_goals first | assumption | omega | trivial | (simp_all [stV]; done) | (simp_all [stV]; omega)
                          refine sw_ret ⟨.inl rfl, _, rfl, ?_⟩
                          simp [conj]
                          rw [← dok_eq]
                          have h : dokV ((st, sl, rg, sp, wt) : Dsk) = (decide (¬ st = 1) || decide (wt.length = 0)) := by unfold dokV; dsimp only; rw [hsh, hS, hR, hW]; rfl
                          rw [h]
                          simp [g19_3]
end Go.Sx
