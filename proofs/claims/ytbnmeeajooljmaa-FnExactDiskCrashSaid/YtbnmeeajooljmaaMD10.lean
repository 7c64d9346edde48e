import Derived.Test.YtbnmeeajooljmaaMD9
set_option linter.all false
namespace Go.Sx
open Go
set_option maxRecDepth 100000
set_option linter.unusedVariables false
set_option linter.unusedSimpArgs false
set_option maxHeartbeats 4000000

def cXCrash : Ctr := ⟨5, [.val true TL_Disk pF, .val false TI pF], fun _ => True, fun x => (sBool true, [])⟩
theorem cXCrash_ok : CtrOk Proofs.Try.prog cXCrash := by
  have hP := (((((((Prg.none ttok mtok).and cSzD_ok).and cToD_ok).and cSCrash_ok).and cDCrash_ok).and cEqD_ok).and cHdD_ok)
  refine ctr_of_body hP cXCrash (fn := Proofs.Try.f5) (rts := [.tmp 4]) Proofs.Try.func5 rfl (by kernel_rfl) rfl rfl ?_
  rintro ⟨⟨(st : Int), (sl : List Str), (rg : List Str), (sp : List Bool), (wt : List Put)⟩, (keep : Int), ⟨⟩⟩ _ hpre
  try dsimp only [Ty.den, Mode.den, mdens] at hpre
  refine ⟨rfl, ?_⟩
  refine sw_seq ?_
  refine sw_region hP 1 [] rfl (by kernel_rfl) (fun _ => by kernel_rfl) (by first | trivial | (simp [conj]; done) | (simp [conj] at *; (try dsimp only [Ty.den, Ty.dflt] at *); omega)) ?_
  refine sw_seq ?_
  refine sw_region hP 2 [] rfl (by kernel_rfl) (fun _ => by kernel_rfl) (by first | trivial | (simp [conj]; done) | (simp [conj] at *; (try dsimp only [Ty.den, Ty.dflt] at *); omega)) ?_
  refine sw_seq ?_
  refine sw_region hP 3 [] rfl (by kernel_rfl) (fun _ => by kernel_rfl) ?_ ?_
  · skip
    simp [conj, maxL]
    try dsimp only [Ty.den, Ty.dflt]
    try simp only [rd_eta]
    exact ⟨by show (0 : Int) ≤ 1048576; decide, by show (1048576 : Int) ≤ 1048576; decide⟩
  refine sw_seq ?_
  refine sw_seq ?_
  refine sw_region hP 4 [] rfl (by kernel_rfl) (fun _ => by kernel_rfl) (by first | trivial | (simp [conj]; done) | (simp [conj] at *; (try dsimp only [Ty.den, Ty.dflt] at *); omega)) ?_
  refine sw_cond rfl (fun c3 => ?_) (fun c3 => ?_)
  · skip
    refine sw_seq ?_
    refine sw_region hP 5 [] rfl (by kernel_rfl) (fun _ => by kernel_rfl) (by first | trivial | (simp [conj]; done) | (simp [conj] at *; (try dsimp only [Ty.den, Ty.dflt] at *); omega)) ?_
    refine sw_ret ⟨.inl rfl, _, rfl, ?_⟩
    simp [conj]
  · skip
    replace c3 : 0 ≤ szD ((st, sl, rg, sp, wt) : Dsk) 1048576 := by have h : ¬ szD ((st, sl, rg, sp, wt) : Dsk) 1048576 < 0 := of_decide_eq_false c3; omega
    have hs := szD_small c3
    have hm1 := small_mk1 hs
    have hm2 := fit_mk1 (crashV_fit (d := ((st, sl, rg, sp, wt) : Dsk)) (k := keep))
    have hh : hdD 1 (mkD 1 (crashV ((st, sl, rg, sp, wt) : Dsk) keep)) = mkDN 1 (crashV ((st, sl, rg, sp, wt) : Dsk) keep) := hdD_mk (by decide)
    have hmm : mkDN 1 (mkD 1 (crashV ((st, sl, rg, sp, wt) : Dsk) keep)) = mkDN 1 (crashV ((st, sl, rg, sp, wt) : Dsk) keep) := mkDN_mkD
    refine sw_skip ?_
    refine sw_seq ?_
    refine sw_region hP 5 [] rfl (by kernel_rfl) (fun _ => by kernel_rfl) ?_ ?_
    · skip
      simp [conj, maxL]
      try dsimp only [Ty.den, Ty.dflt]
      try simp only [rd_eta]
      repeat' apply And.intro
      all_goals first | exact hs.1 | exact hs.2.1 | exact hs.2.2.1 | exact hs.2.2.2 | trivial
    refine sw_seq ?_
    refine sw_region hP 6 [] rfl (by kernel_rfl) (fun _ => by kernel_rfl) ?_ ?_
    · skip
      simp [conj, maxL]
      try dsimp only [Ty.den, Ty.dflt]
      try simp only [rd_eta]
      repeat' apply And.intro
      all_goals first | exact hs.1 | exact hs.2.1 | exact hs.2.2.1 | exact hs.2.2.2 | trivial
    refine sw_seq ?_
    refine sw_region hP 7 [] rfl (by kernel_rfl) (fun _ => by kernel_rfl) ?_ ?_
    · skip
      simp [conj, maxL]
      try dsimp only [Ty.den, Ty.dflt]
      try simp only [rd_eta]
      try trivial
    refine sw_seq ?_
    refine sw_seq ?_
    refine sw_region hP 8 [] rfl (by kernel_rfl) (fun _ => by kernel_rfl) ?_ ?_
    · skip
      simp [conj, maxL]
      try dsimp only [Ty.den, Ty.dflt]
      try simp only [rd_eta]
      try trivial
    refine sw_cond rfl (fun c8 => ?_) (fun c8 => ?_)
    · skip
      have h : (!eqDV (crashV ((st, sl, rg, sp, wt) : Dsk) keep) (crashV ((st, sl, rg, sp, wt) : Dsk) keep)) = true := c8
      rw [eqDV_self] at h
      cases h
    · skip
      refine sw_skip ?_
      refine sw_seq ?_
      refine sw_seq ?_
      refine sw_ent (st' := ⟨[.junk, sInt .i64 keep, .v false [.ptr ⟨1, 0, 0⟩ 0], .junk, .junk, .junk, .v false [.ptr ⟨5, 4, 0⟩ 0], .v false [.ptr ⟨6, 2, 0⟩ 0], .v false [.ptr ⟨7, 3, 0⟩ 0], .junk, .junk, .junk, .junk, .junk, .junk, .junk, .junk, .junk, .junk, .junk, .junk, .junk, .junk, .junk, .junk, .junk, .junk, .junk, .junk, .junk, .junk, .junk, .junk, .junk, .junk, .junk, .junk, .junk, .junk, .junk, .junk, .junk, .junk, .junk, .junk, .junk, .junk, .junk, .junk, .junk, .junk, .junk, .junk, .junk, .junk, .junk, .junk, .junk, .junk, .junk, .junk, .junk, .junk, .junk, .junk, .junk, .junk, .junk, .junk, .junk, .junk, .junk, .junk, .junk], [(⟨1, 0, 0⟩, .var [.d TI pF st, .d (.sl .str) pF sl, .d (.sl .str) pF rg, .d (.sl .bool) pF sp, .d (.sl T_Put) pF wt]), (⟨5, 4, 0⟩, .var [.d TI pF ((crashV ((st, sl, rg, sp, wt) : Dsk) keep)).1, .own ⟨5, 3, 0⟩, .own ⟨5, 3, 64⟩, .own ⟨5, 3, 128⟩, .own ⟨5, 3, 192⟩]), (⟨5, 3, 0⟩, .sl .str (.all .w) ((crashV ((st, sl, rg, sp, wt) : Dsk) keep)).2.1), (⟨5, 3, 64⟩, .sl .str (.all .w) ((crashV ((st, sl, rg, sp, wt) : Dsk) keep)).2.2.1), (⟨5, 3, 128⟩, .sl .bool (.all .w) ((crashV ((st, sl, rg, sp, wt) : Dsk) keep)).2.2.2.1), (⟨5, 3, 192⟩, .sl T_Put (.all .w) ((crashV ((st, sl, rg, sp, wt) : Dsk) keep)).2.2.2.2), (⟨6, 2, 0⟩, .var [.d TI pF (((st, sl, rg, sp, wt) : Dsk)).1, .own ⟨6, 1, 0⟩, .own ⟨6, 1, 64⟩, .own ⟨6, 1, 128⟩, .own ⟨6, 1, 192⟩]), (⟨6, 1, 0⟩, .sl .str (.all .w) (((st, sl, rg, sp, wt) : Dsk)).2.1), (⟨6, 1, 64⟩, .sl .str (.all .w) (((st, sl, rg, sp, wt) : Dsk)).2.2.1), (⟨6, 1, 128⟩, .sl .bool (.all .w) (((st, sl, rg, sp, wt) : Dsk)).2.2.2.1), (⟨6, 1, 192⟩, .sl T_Put (.all .w) (((st, sl, rg, sp, wt) : Dsk)).2.2.2.2), (⟨7, 3, 0⟩, .var [.d TI pF ((crashV ((st, sl, rg, sp, wt) : Dsk) keep)).1, .own ⟨7, 2, 0⟩, .own ⟨7, 2, 64⟩, .own ⟨7, 2, 128⟩, .own ⟨7, 2, 192⟩]), (⟨7, 2, 0⟩, .sl .str (.all .w) ((crashV ((st, sl, rg, sp, wt) : Dsk) keep)).2.1), (⟨7, 2, 64⟩, .sl .str (.all .w) ((crashV ((st, sl, rg, sp, wt) : Dsk) keep)).2.2.1), (⟨7, 2, 128⟩, .sl .bool (.all .w) ((crashV ((st, sl, rg, sp, wt) : Dsk) keep)).2.2.2.1), (⟨7, 2, 192⟩, .sl T_Put (.all .w) ((crashV ((st, sl, rg, sp, wt) : Dsk) keep)).2.2.2.2)], 8, []⟩) (ent_ok rfl ?_) ?_
      · skip
        simp [conj, mkD]
      refine sw_region hP 9 [] rfl (by kernel_rfl) (fun _ => by kernel_rfl) ?_ ?_
      · skip
        simp [conj, maxL]
        try dsimp only [Ty.den, Ty.dflt]
        try simp only [rd_eta]
        repeat' apply And.intro
        all_goals first | exact hs.1 | exact hs.2.1 | exact hs.2.2.1 | exact hs.2.2.2 | trivial
      refine sw_cond rfl (fun c10 => ?_) (fun c10 => ?_)
      · skip
        have h : (!eqDV ((st, sl, rg, sp, wt) : Dsk) ((st, sl, rg, sp, wt) : Dsk)) = true := c10
        rw [eqDV_self] at h
        cases h
      · skip
        refine sw_skip ?_
        refine sw_seq ?_
        refine sw_region hP 10 [] rfl (by kernel_rfl) (fun _ => by kernel_rfl) (by first | trivial | (simp [conj]; done) | (simp [conj] at *; (try dsimp only [Ty.den, Ty.dflt] at *); omega)) ?_
        refine sw_seq ?_
        replace hP := hP.andX (cMkD_ok (d := ((st, sl, rg, sp, wt) : Dsk)) (k := 1) (a := ⟨6, 1, 0⟩) (b := ⟨6, 1, 64⟩) (c := ⟨6, 1, 128⟩) (e := ⟨6, 1, 192⟩) (by decide) (by omega))
        refine sw_region hP 11 [] rfl (by kernel_rfl) (fun _ => by kernel_rfl) ?_ ?_
        · skip
          simp only [conj, List.nil_append, List.cons_append, List.append_nil, List.append_assoc, inR_i64, true_and, and_true, Int.toNat_natCast]
          try dsimp only [Ty.den, Ty.dflt]
          repeat' apply And.intro
          all_goals first | rfl | omega | assumption | trivial
        refine sw_seq ?_
        refine sw_seq ?_
        refine sw_ent (st' := ⟨[.junk, sInt .i64 keep, .v false [.ptr ⟨1, 0, 0⟩ 0], .junk, .junk, .junk, .v false [.ptr ⟨5, 4, 0⟩ 0], .v false [.ptr ⟨6, 2, 0⟩ 0], .v false [.ptr ⟨7, 3, 0⟩ 0], sInt .i64 (mkDN 1 ((st, sl, rg, sp, wt) : Dsk)), .junk, .junk, .junk, .junk, .junk, .junk, .junk, .junk, .junk, .junk, .junk, .junk, .junk, .junk, .junk, .junk, .junk, .junk, .junk, .junk, .junk, .junk, .junk, .junk, .junk, .junk, .junk, .junk, .junk, .junk, .junk, .junk, .junk, .junk, .junk, .junk, .junk, .junk, .junk, .junk, .junk, .junk, .junk, .junk, .junk, .junk, .junk, .junk, .junk, .junk, .junk, .junk, .junk, .junk, .junk, .junk, .junk, .junk, .junk, .junk, .junk, .junk, .junk, .junk], [(⟨1, 0, 0⟩, .var [.d TI pF st, .d (.sl .str) pF sl, .d (.sl .str) pF rg, .d (.sl .bool) pF sp, .d (.sl T_Put) pF wt]), (⟨5, 4, 0⟩, .var [.d TI pF ((crashV ((st, sl, rg, sp, wt) : Dsk) keep)).1, .own ⟨5, 3, 0⟩, .own ⟨5, 3, 64⟩, .own ⟨5, 3, 128⟩, .own ⟨5, 3, 192⟩]), (⟨5, 3, 0⟩, .sl .str (.all .w) ((crashV ((st, sl, rg, sp, wt) : Dsk) keep)).2.1), (⟨5, 3, 64⟩, .sl .str (.all .w) ((crashV ((st, sl, rg, sp, wt) : Dsk) keep)).2.2.1), (⟨5, 3, 128⟩, .sl .bool (.all .w) ((crashV ((st, sl, rg, sp, wt) : Dsk) keep)).2.2.2.1), (⟨5, 3, 192⟩, .sl T_Put (.all .w) ((crashV ((st, sl, rg, sp, wt) : Dsk) keep)).2.2.2.2), (⟨6, 2, 0⟩, .var [.d TI pF ((mkD 1 ((st, sl, rg, sp, wt) : Dsk))).1, .own ⟨6, 1, 0⟩, .own ⟨6, 1, 64⟩, .own ⟨6, 1, 128⟩, .own ⟨6, 1, 192⟩]), (⟨6, 1, 0⟩, .sl .str (.all .w) ((mkD 1 ((st, sl, rg, sp, wt) : Dsk))).2.1), (⟨6, 1, 64⟩, .sl .str (.all .w) ((mkD 1 ((st, sl, rg, sp, wt) : Dsk))).2.2.1), (⟨6, 1, 128⟩, .sl .bool (.all .w) ((mkD 1 ((st, sl, rg, sp, wt) : Dsk))).2.2.2.1), (⟨6, 1, 192⟩, .sl T_Put (.all .w) ((mkD 1 ((st, sl, rg, sp, wt) : Dsk))).2.2.2.2), (⟨7, 3, 0⟩, .var [.d TI pF ((crashV ((st, sl, rg, sp, wt) : Dsk) keep)).1, .own ⟨7, 2, 0⟩, .own ⟨7, 2, 64⟩, .own ⟨7, 2, 128⟩, .own ⟨7, 2, 192⟩]), (⟨7, 2, 0⟩, .sl .str (.all .w) ((crashV ((st, sl, rg, sp, wt) : Dsk) keep)).2.1), (⟨7, 2, 64⟩, .sl .str (.all .w) ((crashV ((st, sl, rg, sp, wt) : Dsk) keep)).2.2.1), (⟨7, 2, 128⟩, .sl .bool (.all .w) ((crashV ((st, sl, rg, sp, wt) : Dsk) keep)).2.2.2.1), (⟨7, 2, 192⟩, .sl T_Put (.all .w) ((crashV ((st, sl, rg, sp, wt) : Dsk) keep)).2.2.2.2)], 11, []⟩) (ent_ok rfl ?_) ?_
        · skip
          simp [conj, mkD]
        refine sw_dec hP 12 [] 2 rfl (fun g14_2 => ?_) (fun g14_2 => ?_)
        · skip
          have h : mkDN 1 ((st, sl, rg, sp, wt) : Dsk) < 0 := of_decide_eq_true g14_2
          omega
        · skip
          refine sw_region hP 12 [(2, false)] rfl (by kernel_rfl) (fun _ => by kernel_rfl) ?_ ?_
          · skip
            simp [conj, maxL]
            try dsimp only [Ty.den, Ty.dflt]
            try simp only [rd_eta]
            first | exact ⟨by omega, trivial⟩ | trivial
          refine sw_cond rfl (fun c14 => ?_) (fun c14 => ?_)
          · skip
            have h : (!eqDV (crashV ((st, sl, rg, sp, wt) : Dsk) keep) (crashV ((st, sl, rg, sp, wt) : Dsk) keep)) = true := c14
            rw [eqDV_self] at h
            cases h
          · skip
            refine sw_skip ?_
            refine sw_seq ?_
            refine sw_region hP 13 [] rfl (by kernel_rfl) (fun _ => by kernel_rfl) (by first | trivial | (simp [conj]; done) | (simp [conj] at *; (try dsimp only [Ty.den, Ty.dflt] at *); omega)) ?_
            refine sw_seq ?_
            replace hP := hP.andX (cMkD_ok (d := (crashV ((st, sl, rg, sp, wt) : Dsk) keep)) (k := 1) (a := ⟨7, 2, 0⟩) (b := ⟨7, 2, 64⟩) (c := ⟨7, 2, 128⟩) (e := ⟨7, 2, 192⟩) (by decide) (by omega))
            refine sw_region hP 14 [] rfl (by kernel_rfl) (fun _ => by kernel_rfl) ?_ ?_
            · skip
              simp only [conj, List.nil_append, List.cons_append, List.append_nil, List.append_assoc, inR_i64, true_and, and_true, Int.toNat_natCast]
              try dsimp only [Ty.den, Ty.dflt]
              repeat' apply And.intro
              all_goals first | rfl | omega | assumption | trivial
            refine sw_seq ?_
            refine sw_region hP 15 [] rfl (by kernel_rfl) (fun _ => by kernel_rfl) (by first | trivial | (simp [conj]; done) | (simp [conj] at *; (try dsimp only [Ty.den, Ty.dflt] at *); omega)) ?_
            refine sw_seq ?_
            refine sw_region hP 16 [] rfl (by kernel_rfl) (fun _ => by kernel_rfl) ?_ ?_
            · skip
              simp [conj, maxL]
              try dsimp only [Ty.den, Ty.dflt]
              try simp only [rd_eta]
              exact ⟨by show (0 : Int) ≤ 1; decide, by show mkDN 1 (mkD 1 (crashV ((st, sl, rg, sp, wt) : Dsk) keep)) ≤ 1000000000; omega⟩
            refine sw_seq ?_
            refine sw_seq ?_
            refine sw_ent (st' := ⟨[.junk, sInt .i64 keep, .v false [.ptr ⟨1, 0, 0⟩ 0], .junk, .junk, .junk, .v false [.ptr ⟨5, 4, 0⟩ 0], .v false [.ptr ⟨6, 2, 0⟩ 0], .v false [.ptr ⟨7, 3, 0⟩ 0], .junk, sInt .i64 (mkDN 1 (crashV ((st, sl, rg, sp, wt) : Dsk) keep)), sInt .i64 (mkDN 1 (crashV ((st, sl, rg, sp, wt) : Dsk) keep)), .junk, .junk, .junk, .junk, .junk, .junk, .junk, .junk, .junk, .junk, .junk, .junk, .junk, .junk, .junk, .junk, .junk, .junk, .junk, .junk, .junk, .junk, .junk, .junk, .junk, .junk, .junk, .junk, .junk, .junk, .junk, .junk, .junk, .junk, .junk, .junk, .junk, .junk, .junk, .junk, .junk, .junk, .junk, .junk, .junk, .junk, .junk, .junk, .junk, .junk, .junk, .junk, .junk, .junk, .junk, .junk, .junk, .junk, .junk, .junk, .junk, .junk], [(⟨1, 0, 0⟩, .var [.d TI pF st, .d (.sl .str) pF sl, .d (.sl .str) pF rg, .d (.sl .bool) pF sp, .d (.sl T_Put) pF wt]), (⟨5, 4, 0⟩, .var [.d TI pF ((crashV ((st, sl, rg, sp, wt) : Dsk) keep)).1, .own ⟨5, 3, 0⟩, .own ⟨5, 3, 64⟩, .own ⟨5, 3, 128⟩, .own ⟨5, 3, 192⟩]), (⟨5, 3, 0⟩, .sl .str (.all .w) ((crashV ((st, sl, rg, sp, wt) : Dsk) keep)).2.1), (⟨5, 3, 64⟩, .sl .str (.all .w) ((crashV ((st, sl, rg, sp, wt) : Dsk) keep)).2.2.1), (⟨5, 3, 128⟩, .sl .bool (.all .w) ((crashV ((st, sl, rg, sp, wt) : Dsk) keep)).2.2.2.1), (⟨5, 3, 192⟩, .sl T_Put (.all .w) ((crashV ((st, sl, rg, sp, wt) : Dsk) keep)).2.2.2.2), (⟨6, 2, 0⟩, .var [.d TI pF ((mkD 1 ((st, sl, rg, sp, wt) : Dsk))).1, .own ⟨6, 1, 0⟩, .own ⟨6, 1, 64⟩, .own ⟨6, 1, 128⟩, .own ⟨6, 1, 192⟩]), (⟨6, 1, 0⟩, .sl .str (.all .w) ((mkD 1 ((st, sl, rg, sp, wt) : Dsk))).2.1), (⟨6, 1, 64⟩, .sl .str (.all .w) ((mkD 1 ((st, sl, rg, sp, wt) : Dsk))).2.2.1), (⟨6, 1, 128⟩, .sl .bool (.all .w) ((mkD 1 ((st, sl, rg, sp, wt) : Dsk))).2.2.2.1), (⟨6, 1, 192⟩, .sl T_Put (.all .w) ((mkD 1 ((st, sl, rg, sp, wt) : Dsk))).2.2.2.2), (⟨7, 3, 0⟩, .var [.d TI pF ((mkD 1 (crashV ((st, sl, rg, sp, wt) : Dsk) keep))).1, .own ⟨7, 2, 0⟩, .own ⟨7, 2, 64⟩, .own ⟨7, 2, 128⟩, .own ⟨7, 2, 192⟩]), (⟨7, 2, 0⟩, .sl .str (.all .w) ((mkD 1 (crashV ((st, sl, rg, sp, wt) : Dsk) keep))).2.1), (⟨7, 2, 64⟩, .sl .str (.all .w) ((mkD 1 (crashV ((st, sl, rg, sp, wt) : Dsk) keep))).2.2.1), (⟨7, 2, 128⟩, .sl .bool (.all .w) ((mkD 1 (crashV ((st, sl, rg, sp, wt) : Dsk) keep))).2.2.2.1), (⟨7, 2, 192⟩, .sl T_Put (.all .w) ((mkD 1 (crashV ((st, sl, rg, sp, wt) : Dsk) keep))).2.2.2.2)], 16, []⟩) (ent_ok rfl ?_) ?_
            · skip
              simp [conj, mkD]
              try exact hh
            refine sw_region hP 17 [] rfl (by kernel_rfl) (fun _ => by kernel_rfl) (by first | trivial | (simp [conj]; done) | (simp [conj] at *; (try dsimp only [Ty.den, Ty.dflt] at *); omega)) ?_
            refine sw_cond rfl (fun c20 => ?_) (fun c20 => ?_)
            · skip
              have h : mkDN 1 (crashV ((st, sl, rg, sp, wt) : Dsk) keep) < 0 := of_decide_eq_true c20
              omega
            · skip
              refine sw_skip ?_
              refine sw_seq ?_
              refine sw_seq ?_
              refine sw_region hP 18 [] rfl (by kernel_rfl) (fun _ => by kernel_rfl) (by first | trivial | (simp [conj]; done) | (simp [conj] at *; (try dsimp only [Ty.den, Ty.dflt] at *); omega)) ?_
              refine sw_cond rfl (fun c22 => ?_) (fun c22 => ?_)
              · skip
                simp at c22
              · skip
                refine sw_skip ?_
                refine sw_seq ?_
                refine sw_region hP 19 [] rfl (by kernel_rfl) (fun _ => by kernel_rfl) ?_ ?_
                · skip
                  simp [conj, maxL]
                  try dsimp only [Ty.den, Ty.dflt]
                  try simp only [rd_eta]
                  repeat' apply And.intro
                  all_goals first | exact hs.1 | exact hs.2.1 | exact hs.2.2.1 | exact hs.2.2.2 | trivial
                refine sw_seq ?_
                refine sw_seq ?_
                refine sw_ent (st' := ⟨[.junk, .junk, .v false [.ptr ⟨1, 0, 0⟩ 0], .junk, .junk, .junk, .v false [.ptr ⟨5, 4, 0⟩ 0], .v false [.ptr ⟨6, 2, 0⟩ 0], .v false [.ptr ⟨7, 3, 0⟩ 0], .junk, sInt .i64 (mkDN 1 (crashV ((st, sl, rg, sp, wt) : Dsk) keep)), .junk, .v false [.ptr ⟨19, 4, 0⟩ 0], .junk, .junk, .junk, .junk, .junk, .junk, .junk, .junk, .junk, .junk, .junk, .junk, .junk, .junk, .junk, .junk, .junk, .junk, .junk, .junk, .junk, .junk, .junk, .junk, .junk, .junk, .junk, .junk, .junk, .junk, .junk, .junk, .junk, .junk, .junk, .junk, .junk, .junk, .junk, .junk, .junk, .junk, .junk, .junk, .junk, .junk, .junk, .junk, .junk, .junk, .junk, .junk, .junk, .junk, .junk, .junk, .junk, .junk, .junk, .junk, .junk], [(⟨1, 0, 0⟩, .var [.d TI pF st, .d (.sl .str) pF sl, .d (.sl .str) pF rg, .d (.sl .bool) pF sp, .d (.sl T_Put) pF wt]), (⟨5, 4, 0⟩, .var [.d TI pF ((crashV ((st, sl, rg, sp, wt) : Dsk) keep)).1, .own ⟨5, 3, 0⟩, .own ⟨5, 3, 64⟩, .own ⟨5, 3, 128⟩, .own ⟨5, 3, 192⟩]), (⟨5, 3, 0⟩, .sl .str (.all .w) ((crashV ((st, sl, rg, sp, wt) : Dsk) keep)).2.1), (⟨5, 3, 64⟩, .sl .str (.all .w) ((crashV ((st, sl, rg, sp, wt) : Dsk) keep)).2.2.1), (⟨5, 3, 128⟩, .sl .bool (.all .w) ((crashV ((st, sl, rg, sp, wt) : Dsk) keep)).2.2.2.1), (⟨5, 3, 192⟩, .sl T_Put (.all .w) ((crashV ((st, sl, rg, sp, wt) : Dsk) keep)).2.2.2.2), (⟨6, 2, 0⟩, .var [.d TI pF ((mkD 1 ((st, sl, rg, sp, wt) : Dsk))).1, .own ⟨6, 1, 0⟩, .own ⟨6, 1, 64⟩, .own ⟨6, 1, 128⟩, .own ⟨6, 1, 192⟩]), (⟨6, 1, 0⟩, .sl .str (.all .w) ((mkD 1 ((st, sl, rg, sp, wt) : Dsk))).2.1), (⟨6, 1, 64⟩, .sl .str (.all .w) ((mkD 1 ((st, sl, rg, sp, wt) : Dsk))).2.2.1), (⟨6, 1, 128⟩, .sl .bool (.all .w) ((mkD 1 ((st, sl, rg, sp, wt) : Dsk))).2.2.2.1), (⟨6, 1, 192⟩, .sl T_Put (.all .w) ((mkD 1 ((st, sl, rg, sp, wt) : Dsk))).2.2.2.2), (⟨7, 3, 0⟩, .var [.d TI pF ((mkD 1 (crashV ((st, sl, rg, sp, wt) : Dsk) keep))).1, .own ⟨7, 2, 0⟩, .own ⟨7, 2, 64⟩, .own ⟨7, 2, 128⟩, .own ⟨7, 2, 192⟩]), (⟨7, 2, 0⟩, .sl .str (.all .w) ((mkD 1 (crashV ((st, sl, rg, sp, wt) : Dsk) keep))).2.1), (⟨7, 2, 64⟩, .sl .str (.all .w) ((mkD 1 (crashV ((st, sl, rg, sp, wt) : Dsk) keep))).2.2.1), (⟨7, 2, 128⟩, .sl .bool (.all .w) ((mkD 1 (crashV ((st, sl, rg, sp, wt) : Dsk) keep))).2.2.2.1), (⟨7, 2, 192⟩, .sl T_Put (.all .w) ((mkD 1 (crashV ((st, sl, rg, sp, wt) : Dsk) keep))).2.2.2.2), (⟨19, 4, 0⟩, .var [.d TI pF ((crashV ((st, sl, rg, sp, wt) : Dsk) keep)).1, .own ⟨19, 3, 0⟩, .own ⟨19, 3, 64⟩, .own ⟨19, 3, 128⟩, .own ⟨19, 3, 192⟩]), (⟨19, 3, 0⟩, .sl .str (.all .w) ((crashV ((st, sl, rg, sp, wt) : Dsk) keep)).2.1), (⟨19, 3, 64⟩, .sl .str (.all .w) ((crashV ((st, sl, rg, sp, wt) : Dsk) keep)).2.2.1), (⟨19, 3, 128⟩, .sl .bool (.all .w) ((crashV ((st, sl, rg, sp, wt) : Dsk) keep)).2.2.2.1), (⟨19, 3, 192⟩, .sl T_Put (.all .w) ((crashV ((st, sl, rg, sp, wt) : Dsk) keep)).2.2.2.2)], 19, []⟩) (ent_ok rfl ?_) ?_
                · skip
                  simp [conj, mkD]
                refine sw_region hP 20 [] rfl (by kernel_rfl) (fun _ => by kernel_rfl) ?_ ?_
                · skip
                  simp [conj, maxL]
                  try dsimp only [Ty.den, Ty.dflt]
                  try simp only [rd_eta]
                  try trivial
                refine sw_cond rfl (fun c25 => ?_) (fun c25 => ?_)
                · skip
                  have h : (!eqDV (crashV ((st, sl, rg, sp, wt) : Dsk) keep) (crashV ((st, sl, rg, sp, wt) : Dsk) keep)) = true := c25
                  rw [eqDV_self] at h
                  cases h
                · skip
                  refine sw_skip ?_
                  refine sw_seq ?_
                  refine sw_region hP 21 [] rfl (by kernel_rfl) (fun _ => by kernel_rfl) (by first | trivial | (simp [conj]; done) | (simp [conj] at *; (try dsimp only [Ty.den, Ty.dflt] at *); omega)) ?_
                  refine sw_seq ?_
                  refine sw_region hP 22 [] rfl (by kernel_rfl) (fun _ => by kernel_rfl) ?_ ?_
                  · skip
                    simp [conj, maxL]
                    try dsimp only [Ty.den, Ty.dflt]
                    try simp only [rd_eta]
                    exact ⟨by show (0 : Int) ≤ 1; decide, by show mkDN 1 (mkD 1 (crashV ((st, sl, rg, sp, wt) : Dsk) keep)) ≤ 1000000000; omega⟩
                  refine sw_seq ?_
                  refine sw_seq ?_
                  refine sw_ent (st' := ⟨[.junk, .junk, .v false [.ptr ⟨1, 0, 0⟩ 0], .junk, .junk, .junk, .v false [.ptr ⟨5, 4, 0⟩ 0], .v false [.ptr ⟨6, 2, 0⟩ 0], .v false [.ptr ⟨7, 3, 0⟩ 0], .junk, sInt .i64 (mkDN 1 (crashV ((st, sl, rg, sp, wt) : Dsk) keep)), sInt .i64 (mkDN 1 (crashV ((st, sl, rg, sp, wt) : Dsk) keep)), .v false [.ptr ⟨19, 4, 0⟩ 0], .junk, .junk, .junk, .junk, .junk, .junk, .junk, .junk, .junk, .junk, .junk, .junk, .junk, .junk, .junk, .junk, .junk, .junk, .junk, .junk, .junk, .junk, .junk, .junk, .junk, .junk, .junk, .junk, .junk, .junk, .junk, .junk, .junk, .junk, .junk, .junk, .junk, .junk, .junk, .junk, .junk, .junk, .junk, .junk, .junk, .junk, .junk, .junk, .junk, .junk, .junk, .junk, .junk, .junk, .junk, .junk, .junk, .junk, .junk, .junk, .junk], [], 22, []⟩) (ent_ok rfl ?_) ?_
                  · skip
                    simp [conj, mkD]
                    try exact hh
                  refine sw_region hP 23 [] rfl (by kernel_rfl) (fun _ => by kernel_rfl) (by first | trivial | (simp [conj]; done) | (simp [conj] at *; (try dsimp only [Ty.den, Ty.dflt] at *); omega)) ?_
                  refine sw_cond rfl (fun c29 => ?_) (fun c29 => ?_)
                  · skip
                    have h : mkDN 1 (crashV ((st, sl, rg, sp, wt) : Dsk) keep) < 0 := of_decide_eq_true c29
                    omega
                  · skip
                    refine sw_skip ?_
                    refine sw_seq ?_
                    refine sw_seq ?_
                    refine sw_region hP 24 [] rfl (by kernel_rfl) (fun _ => by kernel_rfl) (by first | trivial | (simp [conj]; done) | (simp [conj] at *; (try dsimp only [Ty.den, Ty.dflt] at *); omega)) ?_
                    refine sw_cond rfl (fun c31 => ?_) (fun c31 => ?_)
                    · skip
                      simp at c31
                    · skip
                      refine sw_skip ?_
                      refine sw_seq ?_
                      refine sw_region hP 25 [] rfl (by kernel_rfl) (fun _ => by kernel_rfl) (by first | trivial | (simp [conj]; done) | (simp [conj] at *; (try dsimp only [Ty.den, Ty.dflt] at *); omega)) ?_
                      refine sw_ret ⟨.inl rfl, _, rfl, ?_⟩
                      simp [conj]
end Go.Sx
