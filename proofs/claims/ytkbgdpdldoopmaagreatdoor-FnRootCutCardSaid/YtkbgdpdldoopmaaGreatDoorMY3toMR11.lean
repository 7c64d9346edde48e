/- Several texts, one behind the other. -/
import Derived.Test.YtkbgdpdldoopmaaGreatDoorMR2toMY2
import Derived.Test.YtkbgdpdldoopmaaGreatDoorMOpentoMVol2
set_option linter.all false
namespace Go.Sx
open Go
set_option maxRecDepth 100000
set_option linter.unusedVariables false
set_option linter.unusedSimpArgs false
set_option maxHeartbeats 2000000

def cRootI : Ctr := ⟨24, [.ref T_rootReader pF], fun x => RdOk x.1, fun x => (.v true [.d TI pF (rootI x.1).1.1, .own ⟨1, 0, 0⟩], [(⟨0, 0, 0⟩, .var [.d (.sl .str) pF (rootI x.1).2.1, .d .er pF (rootI x.1).2.2]), (⟨1, 0, 0⟩, .sl T_Vol (.all .w) (rootI x.1).1.2)])⟩
theorem cRootI_ok : CtrOk Proofs.Tryz.prog cRootI := by
  have hP := ((((((Prg.none ttok mtok).and cNextI_ok).and cWordsI_ok).and cOnlyI_ok).and cNumI_ok).and cPtrI_ok)
  refine ctr_of_body hP cRootI (fn := Proofs.Tryz.f24) (rts := [.cell 2 25]) Proofs.Tryz.func24 rfl (by kernel_rfl) rfl rfl ?_
  rintro ⟨⟨(ls : List Str), (er : Nat)⟩, ⟨⟩⟩ _ hpre
  try dsimp only [Ty.den, Mode.den, mdens] at hpre
  refine ⟨rfl, ?_⟩
  replace hpre : RdOk (ls, er) := hpre
  obtain ⟨x1, x2, _⟩ := words_ok (f := nR) hpre
  obtain ⟨y1, y2⟩ := only_ok (ws := (wordsI nR (ls, er)).1) x1
  obtain ⟨z1, z2⟩ := num_ok (f := (onlyI (wordsI nR (ls, er)).1 (wordsI nR (ls, er)).2).1) y1
  have yl := only_len (s := (wordsI nR (ls, er)).2) (words_len (f := nR) hpre).1
  have hll : ls.length ≤ 701 := hpre.2
  refine sw_seq ?_
  refine sw_region hP 1 [] rfl (by kernel_rfl) (fun _ => by kernel_rfl) (by first | trivial | (simp [conj]; done) | (simp [conj] at *; (try dsimp only [Ty.den, Ty.dflt] at *); omega)) ?_
  refine sw_seq ?_
  refine sw_region hP 2 [] rfl (by kernel_rfl) (fun _ => by kernel_rfl) ?_ ?_
  · skip
    simp only [conj, List.nil_append, List.cons_append, List.append_nil, List.append_assoc, inR_i64, true_and, and_true, Int.toNat_natCast]
    try dsimp only [Ty.den, Ty.dflt]
    repeat' apply And.intro
    all_goals first | omega | assumption | trivial | exact hpre | exact hs | exact (words_ok hpre).1 | exact (words_ok hs).1 | exact hu | (simp [nR]; done) | (simp [nV]; done) | (show List.length (onlyI (wordsI nR (ls, er)).1 (wordsI nR (ls, er)).2).1 ≤ 1000000; omega)
  refine sw_seq ?_
  refine sw_block ?_
  refine sw_loop (ι := Nat × List Vol_ × RdS) (fun ⟨n, vs, s⟩ => ⟨[.v false [.ptr ⟨0, 0, 0⟩ 0], .junk, .v false [.ptr ⟨1, 0, 0⟩ 0], .v false [.ptr ⟨2, 7, 0⟩ 0], .junk, .junk, .junk, .junk, .junk, .junk, .junk, .junk, .junk, .junk, .junk, .junk, .junk, .junk, .junk, .junk, .junk, .junk, .junk, .junk, .junk, .junk, .junk, .junk, .junk, .junk, .junk, .junk, .junk, .junk, .junk, .junk, .junk, .junk, .junk, .junk, .junk, .junk, .junk], [(⟨0, 0, 0⟩, .var [.d (.sl .str) pF s.1, .d .er pF s.2]), (⟨1, 0, 0⟩, .var [.d TI pF 0, .d (.sl T_Vol) pF []]), (⟨2, 7, 0⟩, .var [.d TI pF (numI (onlyI (wordsI nR (ls, er)).1 (wordsI nR (ls, er)).2).1 (onlyI (wordsI nR (ls, er)).1 (wordsI nR (ls, er)).2).2).1, .own ⟨0, 9, 0⟩]), (⟨0, 9, 0⟩, .sl T_Vol (.all .w) vs)], 2, [[.v false [.ptr ⟨0, 0, 0⟩ 0]]]⟩) (fun ⟨n, vs, s⟩ => n) (fun ⟨n, vs, s⟩ => RdOk s ∧ s.1.length ≤ n ∧ vs.length + n ≤ 701 ∧ volsI n vs s = (volsI ls.length [] (numI (onlyI (wordsI nR (ls, er)).1 (wordsI nR (ls, er)).2).1 (onlyI (wordsI nR (ls, er)).1 (wordsI nR (ls, er)).2).2).2)) (ls.length, [], (numI (onlyI (wordsI nR (ls, er)).1 (wordsI nR (ls, er)).2).1 (onlyI (wordsI nR (ls, er)).1 (wordsI nR (ls, er)).2).2).2) ⟨?_, ?_⟩ ?_
  · skip
    exact ⟨z1, by show (numI (onlyI (wordsI nR (ls, er)).1 (wordsI nR (ls, er)).2).1 (onlyI (wordsI nR (ls, er)).1 (wordsI nR (ls, er)).2).2).2.1.length ≤ ls.length; rw [z2, y2]; exact x2, by show 0 + ls.length ≤ 701; omega, rfl⟩
  · refine ent_ok rfl ?_
    simp [conj, bytesL, nR]
    try rfl
  · rintro ⟨n, vs, s⟩ ⟨hs, hsl, hvl, hgo⟩
    refine sw_seq ?_
    refine sw_seq ?_
    refine sw_dec hP 3 [] 5 rfl (fun g2_5 => ?_) (fun g2_5 => ?_)
    · skip
      have he : s.2 = 0 := Nat.eq_of_beq_eq_true g2_5
      refine sw_region hP 3 [(5, true)] rfl (by kernel_rfl) (fun _ => by kernel_rfl) ?_ ?_
      · skip
        simp only [conj, List.nil_append, List.cons_append, List.append_nil, List.append_assoc, inR_i64, true_and, and_true, Int.toNat_natCast]
        try dsimp only [Ty.den, Ty.dflt]
        repeat' apply And.intro
        all_goals first | omega | assumption | trivial | exact hpre | exact hs | exact (words_ok hpre).1 | exact (words_ok hs).1 | exact hu | (simp [nR]; done) | (simp [nV]; done) | (show 3 ≤ 1000; decide) | exact g2_5
      refine sw_cond rfl (fun c2 => ?_) (fun c2 => ?_)
      · skip
        have hnx : nextI nV s = true := c2
        have hp := nextI_pos hnx
        obtain ⟨m, rfl⟩ : ∃ m, n = m + 1 := ⟨n - 1, by omega⟩
        simp only [volsI] at hgo
        rw [if_pos ⟨he, hnx⟩] at hgo
        obtain ⟨w1, w2, w3⟩ := words_ok (f := nV) hs
        have w4 := w3 hp
        have wl := words_len (f := nV) hs
        obtain ⟨o1, o2⟩ := only_ok (ws := (wordsI nV s).1) w1
        have ol := only_len (s := (wordsI nV s).2) wl.1
        refine sw_skip ?_
        refine sw_block ?_
        refine sw_seq ?_
        refine sw_region hP 4 [] rfl (by kernel_rfl) (fun _ => by kernel_rfl) ?_ ?_
        · skip
          simp only [conj, List.nil_append, List.cons_append, List.append_nil, List.append_assoc, inR_i64, true_and, and_true, Int.toNat_natCast]
          try dsimp only [Ty.den, Ty.dflt]
          repeat' apply And.intro
          all_goals first | omega | assumption | trivial | exact hpre | exact hs | exact (words_ok hpre).1 | exact (words_ok hs).1 | exact hu | (simp [nR]; done) | (simp [nV]; done)
        refine sw_seq ?_
        refine sw_seq ?_
        refine sw_region hP 5 [] rfl (by kernel_rfl) (fun _ => by kernel_rfl) (by first | trivial | (simp [conj]; done) | (simp [conj] at *; (try dsimp only [Ty.den, Ty.dflt] at *); omega)) ?_
        refine sw_block ?_
        refine sw_loop (ι := Nat × List Ptr_ × RdS) (fun ⟨k, bl, u⟩ => ⟨[.v false [.ptr ⟨0, 0, 0⟩ 0], .junk, .v false [.ptr ⟨1, 0, 0⟩ 0], .v false [.ptr ⟨2, 7, 0⟩ 0], .v false [.ptr ⟨4, 5, 0⟩ 0], .junk, .junk, .junk, .junk, .junk, .junk, .junk, .junk, .junk, .junk, .junk, .junk, .junk, .junk, .junk, .junk, .junk, .junk, .junk, .junk, .junk, sInt .i64 (k : Int), .junk, .junk, .junk, .junk, .junk, .junk, .junk, .junk, .junk, .junk, .junk, .junk, .junk, .junk, .junk, .junk], [(⟨0, 0, 0⟩, .var [.d (.sl .str) pF u.1, .d .er pF u.2]), (⟨1, 0, 0⟩, .var [.d TI pF 0, .d (.sl T_Vol) pF []]), (⟨2, 7, 0⟩, .var [.d TI pF (numI (onlyI (wordsI nR (ls, er)).1 (wordsI nR (ls, er)).2).1 (onlyI (wordsI nR (ls, er)).1 (wordsI nR (ls, er)).2).2).1, .own ⟨0, 9, 0⟩]), (⟨0, 9, 0⟩, .sl T_Vol (.all .w) vs), (⟨4, 5, 0⟩, .var [.d .str pF (onlyI (wordsI nV s).1 (wordsI nV s).2).1, .own ⟨0, 8, 0⟩]), (⟨0, 8, 0⟩, .sl T_Ptr (.all .w) bl)], 5, [[.v false [.ptr ⟨0, 0, 0⟩ 0]]]⟩) (fun ⟨k, bl, u⟩ => 3 - k) (fun ⟨k, bl, u⟩ => k ≤ 3 ∧ bl.length = k ∧ RdOk u ∧ u.1.length ≤ (onlyI (wordsI nV s).1 (wordsI nV s).2).2.1.length ∧ blksI (3 - k) bl u = (blksI 3 [] (onlyI (wordsI nV s).1 (wordsI nV s).2).2)) (0, [], (onlyI (wordsI nV s).1 (wordsI nV s).2).2) ⟨?_, ?_⟩ ?_
        · skip
          exact ⟨Nat.zero_le _, rfl, o1, Nat.le_refl _, rfl⟩
        · refine ent_ok rfl ?_
          simp [conj, bytesL, nV]
          try rfl
        · rintro ⟨k, bl, u⟩ ⟨hk, hbl, hu, hul, hgk⟩
          refine sw_seq ?_
          refine sw_region hP 6 [] rfl (by kernel_rfl) (fun _ => by kernel_rfl) (by first | trivial | (simp [conj]; done) | (simp [conj] at *; (try dsimp only [Ty.den, Ty.dflt] at *); omega)) ?_
          refine sw_seq ?_
          refine sw_cond rfl (fun c5 => ?_) (fun c5 => ?_)
          · skip
            have hk3 : k < 3 := by have h := c5; simp at h; omega
            obtain ⟨j, hj⟩ : ∃ j, 3 - k = j + 1 := ⟨2 - k, by omega⟩
            have hj2 : 3 - (k + 1) = j := by omega
            rw [hj] at hgk
            simp only [blksI] at hgk
            obtain ⟨p1, p2⟩ := ptrI_ok hu
            refine sw_skip ?_
            refine sw_seq ?_
            refine sw_block ?_
            refine sw_region hP 7 [] rfl (by kernel_rfl) (fun _ => by kernel_rfl) ?_ ?_
            · skip
              simp only [conj, List.nil_append, List.cons_append, List.append_nil, List.append_assoc, inR_i64, true_and, and_true, Int.toNat_natCast]
              try dsimp only [Ty.den, Ty.dflt]
              repeat' apply And.intro
              all_goals first | omega | assumption | trivial | exact hpre | exact hs | exact (words_ok hpre).1 | exact (words_ok hs).1 | exact hu | (simp [nR]; done) | (simp [nV]; done) | (simp only [maxL]; simp; omega)
            refine sw_region hP 8 [] rfl (by kernel_rfl) (fun _ => by kernel_rfl) (by first | trivial | (simp [conj]; done) | (simp [conj] at *; (try dsimp only [Ty.den, Ty.dflt] at *); omega)) ?_
            refine ⟨(k + 1, bl ++ [(ptrI u).1], (ptrI u).2), ?_, ?_, ent_ok rfl ?_⟩
            · skip
              exact ⟨hk3, by simp [hbl], p1, Nat.le_trans p2 hul, by show blksI (3 - (k + 1)) _ _ = _; rw [hj2]; exact hgk⟩
            · skip
              show 3 - (k + 1) < 3 - k
              omega
            · skip
              simp [conj]
          · skip
            obtain rfl : k = 3 := by have h := c5; simp at h; omega
            replace hgk : (bl, u) = (blksI 3 [] (onlyI (wordsI nV s).1 (wordsI nV s).2).2) := hgk
            rw [← hgk] at hgo
            refine sw_exit ?_
            refine sw_region hP 7 [] rfl (by kernel_rfl) (fun _ => by kernel_rfl) ?_ ?_
            · skip
              simp only [conj, List.nil_append, List.cons_append, List.append_nil, List.append_assoc, inR_i64, true_and, and_true, Int.toNat_natCast]
              try dsimp only [Ty.den, Ty.dflt]
              repeat' apply And.intro
              all_goals first | omega | assumption | trivial | exact hpre | exact hs | exact (words_ok hpre).1 | exact (words_ok hs).1 | exact hu | (simp [nR]; done) | (simp [nV]; done) | (simp only [maxL]; simp; omega)
            refine ⟨(m, vs ++ [((onlyI (wordsI nV s).1 (wordsI nV s).2).1, bl)], u), ?_, ?_, ent_ok rfl ?_⟩
            · skip
              exact ⟨hu, by show u.1.length ≤ m; rw [o2] at hul; omega, by simp; omega, hgo⟩
            · skip
              show m < m + 1
              omega
            · skip
              simp [conj, bytesL, nV]
      · skip
        have he2 : ¬ (s.2 = 0 ∧ nextI nV s = true) := by
          intro h
          have h2 : nextI nV s = false := c2
          rw [h.2] at h2
          cases h2
        rw [volsI_stop he2] at hgo
        refine sw_exit ?_
        refine sw_seq ?_
        refine sw_region hP 4 [] rfl (by kernel_rfl) (fun _ => by kernel_rfl) (by first | trivial | (simp [conj]; done) | (simp [conj] at *; (try dsimp only [Ty.den, Ty.dflt] at *); omega)) ?_
        refine sw_ret ⟨.inl rfl, _, rfl, ?_⟩
        have hv : rootI (ls, er) = (((numI (onlyI (wordsI nR (ls, er)).1 (wordsI nR (ls, er)).2).1 (onlyI (wordsI nR (ls, er)).1 (wordsI nR (ls, er)).2).2).1, vs), s) := by
          show (((numI (onlyI (wordsI nR (ls, er)).1 (wordsI nR (ls, er)).2).1 (onlyI (wordsI nR (ls, er)).1 (wordsI nR (ls, er)).2).2).1, (volsI ls.length [] (numI (onlyI (wordsI nR (ls, er)).1 (wordsI nR (ls, er)).2).1 (onlyI (wordsI nR (ls, er)).1 (wordsI nR (ls, er)).2).2).2).1), (volsI ls.length [] (numI (onlyI (wordsI nR (ls, er)).1 (wordsI nR (ls, er)).2).1 (onlyI (wordsI nR (ls, er)).1 (wordsI nR (ls, er)).2).2).2).2) = _
          rw [← hgo]
        simp [conj, hv]
    · skip
      have he : ¬ (s.2 = 0 ∧ nextI nV s = true) := by
        intro h
        have h2 : Nat.beq s.2 0 = false := g2_5
        rw [h.1] at h2
        cases h2
      rw [volsI_stop he] at hgo
      refine sw_region hP 3 [(5, false)] rfl (by kernel_rfl) (fun _ => by kernel_rfl) ?_ ?_
      · skip
        simp only [conj, List.nil_append, List.cons_append, List.append_nil, List.append_assoc, inR_i64, true_and, and_true, Int.toNat_natCast]
        try dsimp only [Ty.den, Ty.dflt]
        repeat' apply And.intro
        all_goals first | omega | assumption | trivial | exact hpre | exact hs | exact (words_ok hpre).1 | exact (words_ok hs).1 | exact hu | (simp [nR]; done) | (simp [nV]; done) | (show 3 ≤ 1000; decide) | exact g2_5
      refine sw_condF rfl ?_
      refine sw_exit ?_
      refine sw_seq ?_
      refine sw_region hP 4 [] rfl (by kernel_rfl) (fun _ => by kernel_rfl) (by first | trivial | (simp [conj]; done) | (simp [conj] at *; (try dsimp only [Ty.den, Ty.dflt] at *); omega)) ?_
      refine sw_ret ⟨.inl rfl, _, rfl, ?_⟩
      have hv : rootI (ls, er) = (((numI (onlyI (wordsI nR (ls, er)).1 (wordsI nR (ls, er)).2).1 (onlyI (wordsI nR (ls, er)).1 (wordsI nR (ls, er)).2).2).1, vs), s) := by
        show (((numI (onlyI (wordsI nR (ls, er)).1 (wordsI nR (ls, er)).2).1 (onlyI (wordsI nR (ls, er)).1 (wordsI nR (ls, er)).2).2).1, (volsI ls.length [] (numI (onlyI (wordsI nR (ls, er)).1 (wordsI nR (ls, er)).2).1 (onlyI (wordsI nR (ls, er)).1 (wordsI nR (ls, er)).2).2).2).1), (volsI ls.length [] (numI (onlyI (wordsI nR (ls, er)).1 (wordsI nR (ls, er)).2).1 (onlyI (wordsI nR (ls, er)).1 (wordsI nR (ls, er)).2).2).2).2) = _
        rw [← hgo]
      simp [conj, hv]
end Go.Sx

namespace Go.Sx
open Go
set_option maxRecDepth 100000
set_option linter.unusedVariables false
set_option linter.unusedSimpArgs false
set_option maxHeartbeats 2000000

def cLine : Ctr := ⟨41, [.val true T_Ptr (.all .b)], fun x => ∃ d, ptrV d x.1 = true, fun x => (sStr (lineV x.1), [])⟩
theorem cLine_ok : CtrOk Proofs.Tryz.prog cLine := by
  have hP := ((((Prg.none ttok mtok).and cNone_ok).and cItoa_ok).and cJoin_ok)
  refine ctr_of_body hP cLine (fn := Proofs.Tryz.f41) (rts := [.tmp 2]) Proofs.Tryz.func41 rfl (by kernel_rfl) rfl rfl ?_
  rintro ⟨⟨(sz : Int), (sm : Int), (pl : List Plc)⟩, ⟨⟩⟩ ⟨⟨hz0, hm0, hpl0⟩, _⟩ ⟨d, hpre⟩
  try dsimp only [Ty.den, Mode.den, mdens] at d
  try dsimp only [Ty.den, Mode.den, mdens] at hpre
  refine ⟨rfl, ?_⟩
  replace hpre : ptrV d ((sz, sm, pl) : Ptr_) = true := hpre
  have hl4 : pl.length ≤ 4 := ptrV_len hpre
  have hi1 : (itoaV sz).length ≤ 21 := itoaV_len hz0
  have hi2 : (itoaV sm).length ≤ 21 := itoaV_len hm0
  refine sw_seq ?_
  refine sw_region hP 1 [] rfl (by kernel_rfl) (fun _ => by kernel_rfl) (by first | trivial | (simp [conj]; done) | (simp [conj] at *; (try dsimp only [Ty.den, Ty.dflt] at *); omega)) ?_
  refine sw_seq ?_
  refine sw_seq ?_
  refine sw_region hP 2 [] rfl (by kernel_rfl) (fun _ => by kernel_rfl) ?_ ?_
  · skip
    simp only [conj, List.nil_append, List.cons_append, List.append_nil, List.append_assoc, inR_i64, true_and, and_true, Int.toNat_natCast]
    try dsimp only [Ty.den, Ty.dflt]
    repeat' apply And.intro
    all_goals first | trivial | assumption | omega | exact decide_eq_true ‹_› | exact decide_eq_false ‹_› | (simp [*]; done)
  refine sw_cond rfl (fun c1 => ?_) (fun c1 => ?_)
  · skip
    replace c1 : noneV ((sz, sm, pl) : Ptr_) = true := c1
    refine sw_seq ?_
    refine sw_region hP 3 [] rfl (by kernel_rfl) (fun _ => by kernel_rfl) (by first | trivial | (simp [conj]; done) | (simp [conj] at *; (try dsimp only [Ty.den, Ty.dflt] at *); omega)) ?_
    refine sw_ret ⟨.inl rfl, _, rfl, ?_⟩
    simp [conj, lineV, c1]
    try rfl
  · skip
    replace c1 : noneV ((sz, sm, pl) : Ptr_) = false := c1
    have hjl : (Lib.join (wordsV ((sz, sm, pl) : Ptr_)) [32]).length ≤ 290 := join_len hz0 hm0 hpl0.2 hl4
    refine sw_skip ?_
    refine sw_seq ?_
    refine sw_region hP 3 [] rfl (by kernel_rfl) (fun _ => by kernel_rfl) ?_ ?_
    · skip
      simp only [conj, List.nil_append, List.cons_append, List.append_nil, List.append_assoc, inR_i64, true_and, and_true, Int.toNat_natCast]
      try dsimp only [Ty.den, Ty.dflt]
      repeat' apply And.intro
      all_goals first | trivial | assumption | omega | exact decide_eq_true ‹_› | exact decide_eq_false ‹_› | (simp [*]; done)
    refine sw_seq ?_
    refine sw_seq ?_
    refine sw_region hP 4 [] rfl (by kernel_rfl) (fun _ => by kernel_rfl) (by first | trivial | (simp [conj]; done) | (simp [conj] at *; (try dsimp only [Ty.den, Ty.dflt] at *); omega)) ?_
    refine sw_block ?_
    refine sw_loop (ι := Nat) (fun i => ⟨[.junk, .v false [.ptr ⟨1, 0, 0⟩ 0], .junk, .v false [.own ⟨0, 9, 0⟩], .junk, .junk, .junk, .junk, .junk, .junk, .junk, .junk, .junk, .junk, .junk, .junk, .v false [.d (.sl T_Place) (.all .b) pl], sInt .i64 (pl.length : Int), sInt .i64 (i : Int), .junk, .junk, .junk, .junk, .junk, .junk, .junk, .junk, .junk, .junk, .junk, .junk, .junk, .junk, .junk, .junk, .junk, .junk], [(⟨1, 0, 0⟩, .var [.d TI pF sz, .d TI pF sm, .d (.sl T_Place) (.all .b) pl]), (⟨0, 9, 0⟩, .sl .str pF ([tPtr, itoaV sz, itoaV sm] ++ (pl.take i).map wordV))], 4, []⟩) (fun i => pl.length - i) (fun i => i ≤ pl.length) 0 ⟨?_, ?_⟩ ?_
    · skip
      exact Nat.zero_le _
    · refine ent_ok rfl ?_
      simp [conj, bytesL]
      try rfl
    · rintro i hi
      refine sw_seq ?_
      refine sw_region hP 5 [] rfl (by kernel_rfl) (fun _ => by kernel_rfl) (by first | trivial | (simp [conj]; done) | (simp [conj] at *; (try dsimp only [Ty.den, Ty.dflt] at *); omega)) ?_
      refine sw_seq ?_
      refine sw_cond rfl (fun c5 => ?_) (fun c5 => ?_)
      · skip
        have hlt : i < pl.length := by simpa using c5
        have hin := hpl0.2 _ (List.getElem_mem hlt)
        have hi3 : (itoaV pl[i].1).length ≤ 21 := itoaV_len hin.1
        have hi4 : (itoaV pl[i].2).length ≤ 21 := itoaV_len hin.2
        refine sw_skip ?_
        refine sw_seq ?_
        refine sw_block ?_
        refine sw_seq ?_
        refine sw_region hP 6 [] rfl (by kernel_rfl) (fun _ => by kernel_rfl) ?_ ?_
        · skip
          simp [conj, List.getElem?_eq_getElem hlt]
          exact hlt
        refine sw_region hP 7 [] rfl (by kernel_rfl) (fun _ => by kernel_rfl) ?_ ?_
        · skip
          simp [conj, maxL, bytesL, List.getElem?_eq_getElem hlt]
          repeat' apply And.intro
          all_goals first | omega | trivial
        refine sw_region hP 8 [] rfl (by kernel_rfl) (fun _ => by kernel_rfl) (by first | trivial | (simp [conj]; done) | (simp [conj] at *; (try dsimp only [Ty.den, Ty.dflt] at *); omega)) ?_
        refine ⟨i + 1, ?_, ?_, ent_ok rfl ?_⟩
        · skip
          exact hlt
        · skip
          omega
        · skip
          simp [conj, bytesL, List.getElem?_eq_getElem hlt]
          exact words_next hlt
      · skip
        obtain rfl : i = pl.length := by simp at c5; omega
        refine sw_exit ?_
        refine sw_seq ?_
        refine sw_region hP 6 [] rfl (by kernel_rfl) (fun _ => by kernel_rfl) ?_ ?_
        · skip
          simp [conj, maxL, bytesL]
          exact ⟨by show (Lib.join (wordsV ((sz, sm, pl) : Ptr_)) [32]).length ≤ 1000000; omega, by show (Lib.join (wordsV ((sz, sm, pl) : Ptr_)) [32]).length ≤ _; omega⟩
        refine sw_ret ⟨.inl rfl, _, rfl, ?_⟩
        simp [conj, lineV, c1]
        try rfl

def cText_ : Ctr := ⟨18, [.val true T_Root (.all .b)], fun x => ∃ d, rootV d x.1 = true, fun x => (sStr (sealV (bodyV x.1)), [])⟩
theorem cText__ok : CtrOk Proofs.Tryz.prog cText_ := by
  have hP := ((((Prg.none ttok mtok).and cItoa_ok).and cLine_ok).and cWeigh_ok)
  refine ctr_of_body hP cText_ (fn := Proofs.Tryz.f18) (rts := [.tmp 2]) Proofs.Tryz.func18 rfl (by kernel_rfl) rfl rfl ?_
  rintro ⟨⟨(tg : Int), (l : List Vol_)⟩, ⟨⟩⟩ ⟨⟨ht0, hl0⟩, _⟩ ⟨d, hpre⟩
  try dsimp only [Ty.den, Mode.den, mdens] at d
  try dsimp only [Ty.den, Mode.den, mdens] at hpre
  refine ⟨rfl, ?_⟩
  replace hpre : rootV d ((tg, l) : Root_) = true := hpre
  have hs := rootV_small hpre
  have hb := hs.1
  have hi1 : (itoaV tg).length ≤ 21 := itoaV_len ht0
  have hml : l.length ≤ 4 := hs.1
  refine sw_seq ?_
  refine sw_region hP 1 [] rfl (by kernel_rfl) (fun _ => by kernel_rfl) (by first | trivial | (simp [conj]; done) | (simp [conj] at *; (try dsimp only [Ty.den, Ty.dflt] at *); omega)) ?_
  refine sw_seq ?_
  refine sw_region hP 2 [] rfl (by kernel_rfl) (fun _ => by kernel_rfl) ?_ ?_
  · skip
    simp [conj, maxL, bytesL]
    repeat' apply And.intro
    all_goals first | omega | trivial
  refine sw_seq ?_
  refine sw_seq ?_
  refine sw_region hP 3 [] rfl (by kernel_rfl) (fun _ => by kernel_rfl) (by first | trivial | (simp [conj]; done) | (simp [conj] at *; (try dsimp only [Ty.den, Ty.dflt] at *); omega)) ?_
  refine sw_block ?_
  refine sw_loop (ι := Nat × Str) (fun ⟨i, o⟩ => ⟨[.junk, .v false [.ptr ⟨1, 0, 0⟩ 0], .junk, sStr o, .junk, .junk, .junk, .junk, .junk, .junk, .junk, .junk, .junk, .junk, .v false [.d (.sl T_Vol) (.all .b) l], sInt .i64 (l.length : Int), sInt .i64 (i : Int), .junk, .junk, .junk, .junk, .junk, .junk, .junk, .junk, .junk, .junk, .junk, .junk, .junk, .junk, .junk, .junk, .junk, .junk, .junk, .junk, .junk, .junk, .junk, .junk, .junk, .junk, .junk, .junk, .junk], [(⟨1, 0, 0⟩, .var [.d TI pF tg, .d (.sl T_Vol) (.all .b) l])], 3, []⟩) (fun ⟨i, o⟩ => l.length - i) (fun ⟨i, o⟩ => i ≤ l.length ∧ o ++ catGo volT (l.drop i) = bodyV ((tg, l) : Root_) ∧ o.length ≤ 27 + i * 1000) (0, tRoot ++ itoaV tg ++ [10]) ⟨?_, ?_⟩ ?_
  · skip
    exact ⟨Nat.zero_le _, rfl, by simp [tRoot]; omega⟩
  · refine ent_ok rfl ?_
    simp [conj, bytesL]
    try rfl
  · rintro ⟨i, o⟩ ⟨hi, hgo, hol⟩
    refine sw_seq ?_
    refine sw_region hP 4 [] rfl (by kernel_rfl) (fun _ => by kernel_rfl) (by first | trivial | (simp [conj]; done) | (simp [conj] at *; (try dsimp only [Ty.den, Ty.dflt] at *); omega)) ?_
    refine sw_seq ?_
    refine sw_cond rfl (fun c3 => ?_) (fun c3 => ?_)
    · skip
      have hlt : i < l.length := by simpa using c3
      obtain ⟨hn3, hb3, hpv⟩ := hs.2 _ (List.getElem_mem hlt)
      refine sw_skip ?_
      refine sw_seq ?_
      refine sw_block ?_
      refine sw_seq ?_
      refine sw_region hP 5 [] rfl (by kernel_rfl) (fun _ => by kernel_rfl) ?_ ?_
      · skip
        simp [conj, List.getElem?_eq_getElem hlt]
        exact hlt
      refine sw_seq ?_
      refine sw_region hP 6 [] rfl (by kernel_rfl) (fun _ => by kernel_rfl) ?_ ?_
      · skip
        simp [conj, maxL, bytesL, List.getElem?_eq_getElem hlt]
        repeat' apply And.intro
        all_goals first | omega | trivial
      refine sw_seq ?_
      refine sw_region hP 7 [] rfl (by kernel_rfl) (fun _ => by kernel_rfl) (by first | trivial | (simp [conj]; done) | (simp [conj] at *; (try dsimp only [Ty.den, Ty.dflt] at *); omega)) ?_
      refine sw_block ?_
      refine sw_loop (ι := Nat × Str) (fun ⟨j, o⟩ => ⟨[.junk, .v false [.ptr ⟨1, 0, 0⟩ 0], .junk, sStr o, .junk, .v false [.ptr ⟨0, 9, 2⟩ 0], .junk, .junk, .junk, .junk, .junk, .junk, .junk, .junk, .v false [.d (.sl T_Vol) (.all .b) l], sInt .i64 (l.length : Int), sInt .i64 (i : Int), .junk, .junk, .junk, .junk, .junk, .junk, .junk, .junk, .junk, .junk, .v false [.d (.sl T_Ptr) (.all .b) l[i].2], sInt .i64 (l[i].2.length : Int), sInt .i64 (j : Int), .junk, .junk, .junk, .junk, .junk, .junk, .junk, .junk, .junk, .junk, .junk, .junk, .junk, .junk, .junk, .junk], [(⟨1, 0, 0⟩, .var [.d TI pF tg, .d (.sl T_Vol) (.all .b) l]), (⟨0, 9, 2⟩, .var [.d .str pF l[i].1, .d (.sl T_Ptr) (.all .b) l[i].2])], 7, []⟩) (fun ⟨j, o⟩ => l[i].2.length - j) (fun ⟨j, o⟩ => j ≤ l[i].2.length ∧ (o ++ catGo lineV (l[i].2.drop j)) ++ catGo volT (l.drop (i + 1)) = bodyV ((tg, l) : Root_) ∧ o.length ≤ 27 + i * 1000 + 8 + j * 300) (0, o ++ (tVol ++ l[i].1 ++ [10])) ⟨?_, ?_⟩ ?_
      · skip
        exact ⟨Nat.zero_le _, vol_in hlt hgo, by simp [tVol]; omega⟩
      · refine ent_ok rfl ?_
        simp [conj, bytesL, List.getElem?_eq_getElem hlt]
        try rfl
      · rintro ⟨j, o⟩ ⟨hj, hgo2, hol2⟩
        refine sw_seq ?_
        refine sw_region hP 8 [] rfl (by kernel_rfl) (fun _ => by kernel_rfl) (by first | trivial | (simp [conj]; done) | (simp [conj] at *; (try dsimp only [Ty.den, Ty.dflt] at *); omega)) ?_
        refine sw_seq ?_
        refine sw_cond rfl (fun c7 => ?_) (fun c7 => ?_)
        · skip
          have hlj : j < l[i].2.length := by simpa using c7
          have hpj := hpv _ (List.getElem_mem hlj)
          obtain ⟨dd, hpd⟩ := hpj
          have hok := (hl0.2 _ (List.getElem_mem hlt)).2.2 _ (List.getElem_mem hlj)
          have hll := lineV_len' hok.1 hok.2.1 hok.2.2.2 hpd
          refine sw_skip ?_
          refine sw_seq ?_
          refine sw_block ?_
          refine sw_seq ?_
          refine sw_region hP 9 [] rfl (by kernel_rfl) (fun _ => by kernel_rfl) ?_ ?_
          · skip
            simp [conj, List.getElem?_eq_getElem hlj]
            exact hlj
          refine sw_region hP 10 [] rfl (by kernel_rfl) (fun _ => by kernel_rfl) ?_ ?_
          · skip
            simp [conj, maxL, List.getElem?_eq_getElem hlj]
            exact ⟨⟨dd, hpd⟩, by have h : List.length (lineV l[i].2[j]) ≤ 300 := hll; show o.length + List.length (lineV l[i].2[j]) ≤ 140737488355328; omega⟩
          refine sw_region hP 11 [] rfl (by kernel_rfl) (fun _ => by kernel_rfl) (by first | trivial | (simp [conj]; done) | (simp [conj] at *; (try dsimp only [Ty.den, Ty.dflt] at *); omega)) ?_
          refine ⟨(j + 1, o ++ lineV l[i].2[j]), ?_, ?_, ent_ok rfl ?_⟩
          · skip
            exact ⟨hlj, vol_line hlj hgo2, by simp; omega⟩
          · skip
            show l[i].2.length - (j + 1) < l[i].2.length - j
            omega
          · skip
            simp [conj, List.getElem?_eq_getElem hlj]
        · skip
          obtain rfl : j = l[i].2.length := by simp at c7; omega
          refine sw_exit ?_
          refine sw_region hP 9 [] rfl (by kernel_rfl) (fun _ => by kernel_rfl) (by first | trivial | (simp [conj]; done) | (simp [conj] at *; (try dsimp only [Ty.den, Ty.dflt] at *); omega)) ?_
          refine ⟨(i + 1, o), ?_, ?_, ent_ok rfl ?_⟩
          · skip
            exact ⟨hlt, vol_out hgo2, by show o.length ≤ 27 + (i + 1) * 1000; omega⟩
          · skip
            show l.length - (i + 1) < l.length - i
            omega
          · skip
            simp [conj]
    · skip
      obtain rfl : i = l.length := by simp at c3; omega
      have hv := cat_end hgo
      subst hv
      have hw := weighV_bd (s := bodyV ((tg, l) : Root_)) (by omega)
      have hi2 : (itoaV (weighV (bodyV ((tg, l) : Root_)))).length ≤ 21 := itoaV_len (by rw [inR_i64]; omega)
      refine sw_exit ?_
      refine sw_seq ?_
      refine sw_region hP 5 [] rfl (by kernel_rfl) (fun _ => by kernel_rfl) ?_ ?_
      · skip
        simp [conj, maxL, bytesL]
        repeat' apply And.intro
        all_goals first | omega | (show List.length (bodyV ((tg, l) : Root_)) ≤ 1000000; omega) | trivial
      refine sw_ret ⟨.inl rfl, _, rfl, ?_⟩
      simp [conj, sealV, bytesL]
      rfl

def cRootText : Ctr := ⟨7, [.val false TI pF, .val true T_Root (.all .b)], fun x => True, fun x => (sStr (rootT x.1 x.2.1), [])⟩
theorem cRootText_ok : CtrOk Proofs.Tryz.prog cRootText := by
  have hP := (((Prg.none ttok mtok).and cRootOk_ok).and cText__ok)
  refine ctr_of_body hP cRootText (fn := Proofs.Tryz.f7) (rts := [.tmp 4]) Proofs.Tryz.func7 rfl (by kernel_rfl) rfl rfl ?_
  rintro ⟨(d : Int), ⟨(tg : Int), (l : List Vol_)⟩, ⟨⟩⟩ _ _
  try dsimp only [Ty.den, Mode.den, mdens] at _
  refine ⟨rfl, ?_⟩
  refine sw_seq ?_
  refine sw_region hP 1 [] rfl (by kernel_rfl) (fun _ => by kernel_rfl) (by first | trivial | (simp [conj]; done) | (simp [conj] at *; (try dsimp only [Ty.den, Ty.dflt] at *); omega)) ?_
  refine sw_seq ?_
  refine sw_seq ?_
  refine sw_region hP 2 [] rfl (by kernel_rfl) (fun _ => by kernel_rfl) ?_ ?_
  · skip
    simp only [conj, List.nil_append, List.cons_append, List.append_nil, List.append_assoc, inR_i64, true_and, and_true, Int.toNat_natCast]
    try dsimp only [Ty.den, Ty.dflt]
    repeat' apply And.intro
    all_goals first | trivial | assumption | omega | exact decide_eq_true ‹_› | exact decide_eq_false ‹_› | (simp [*]; done)
  refine sw_cond rfl (fun c1 => ?_) (fun c1 => ?_)
  · skip
    replace c1 : rootV d ((tg, l) : Root_) = false := by have h : (!rootV d ((tg, l) : Root_)) = true := c1; simpa using h
    refine sw_seq ?_
    refine sw_region hP 3 [] rfl (by kernel_rfl) (fun _ => by kernel_rfl) (by first | trivial | (simp [conj]; done) | (simp [conj] at *; (try dsimp only [Ty.den, Ty.dflt] at *); omega)) ?_
    refine sw_ret ⟨.inl rfl, _, rfl, ?_⟩
    simp [conj, rootT, c1, bytesL]
  · skip
    replace c1 : rootV d ((tg, l) : Root_) = true := by have h : (!rootV d ((tg, l) : Root_)) = false := c1; simpa using h
    refine sw_skip ?_
    refine sw_seq ?_
    refine sw_region hP 3 [] rfl (by kernel_rfl) (fun _ => by kernel_rfl) ?_ ?_
    · skip
      simp [conj]
      exact ⟨d, c1⟩
    refine sw_ret ⟨.inl rfl, _, rfl, ?_⟩
    simp [conj, rootT, c1, bytesL]
end Go.Sx

namespace Go.Sx
open Go
set_option maxRecDepth 100000
set_option linter.unusedVariables false
set_option linter.unusedSimpArgs false
set_option maxHeartbeats 2000000

def cReadI : Ctr := ⟨9, [.val false TI pF, .val false .str pF], fun x => True, fun x => (.tup [(true, [.d TI pF (readI x.1 x.2.1).1.1, .own ⟨1, 0, 0⟩]), (false, [.d .bool pF (readI x.1 x.2.1).2])], [(⟨1, 0, 0⟩, .sl T_Vol (.all .w) (readI x.1 x.2.1).1.2)])⟩
theorem cReadI_ok : CtrOk Proofs.Tryz.prog cReadI := by
  have hP := (((((Prg.none ttok mtok).and cSplit_ok).and cRootI_ok).and cIs_ok).and cRootText_ok)
  refine ctr_of_body hP cReadI (fn := Proofs.Tryz.f9) (rts := [.cell 4 25, .tmp 5]) Proofs.Tryz.func9 rfl (by kernel_rfl) rfl rfl ?_
  rintro ⟨(d : Int), (t : Str), ⟨⟩⟩ _ _
  try dsimp only [Ty.den, Mode.den, mdens] at _
  refine ⟨rfl, ?_⟩
  refine sw_seq ?_
  refine sw_region hP 1 [] rfl (by kernel_rfl) (fun _ => by kernel_rfl) (by first | trivial | (simp [conj]; done) | (simp [conj] at *; (try dsimp only [Ty.den, Ty.dflt] at *); omega)) ?_
  refine sw_seq ?_
  refine sw_seq ?_
  refine sw_dec hP 2 [] 3 rfl (fun g1_3 => ?_) (fun g1_3 => ?_)
  · skip
    have hz : 700 < t.length ∨ t = [] := .inl (by have h := g1_3; simp at h; omega)
    refine sw_region hP 2 [(3, true)] rfl (by kernel_rfl) (fun _ => by kernel_rfl) (by first | trivial | (simp [conj]; done) | (simp [conj] at *; (try dsimp only [Ty.den, Ty.dflt] at *); omega)) ?_
    refine sw_condT rfl ?_
    refine sw_seq ?_
    refine sw_region hP 3 [] rfl (by kernel_rfl) (fun _ => by kernel_rfl) (by first | trivial | (simp [conj]; done) | (simp [conj] at *; (try dsimp only [Ty.den, Ty.dflt] at *); omega)) ?_
    refine sw_ret ⟨.inl rfl, _, rfl, ?_⟩
    have hv : readI d t = ((0, []), false) := by unfold readI; rw [if_pos hz]
    simp [conj, hv]
  · skip
    have hz0 : ¬ 700 < t.length := by have h := g1_3; simp at h; omega
    refine sw_region hP 2 [(3, false)] rfl (by kernel_rfl) (fun _ => by kernel_rfl) (by first | trivial | (simp [conj]; done) | (simp [conj] at *; (try dsimp only [Ty.den, Ty.dflt] at *); omega)) ?_
    refine sw_cond rfl (fun c1 => ?_) (fun c1 => ?_)
    · skip
      have hz : 700 < t.length ∨ t = [] :=   .inr (of_decide_eq_true (show decide (t = []) = true from c1))
      refine sw_seq ?_
      refine sw_region hP 3 [] rfl (by kernel_rfl) (fun _ => by kernel_rfl) (by first | trivial | (simp [conj]; done) | (simp [conj] at *; (try dsimp only [Ty.den, Ty.dflt] at *); omega)) ?_
      refine sw_ret ⟨.inl rfl, _, rfl, ?_⟩
      have hv : readI d t = ((0, []), false) := by unfold readI; rw [if_pos hz]
      simp [conj, hv]
    · skip
      have hz1 : ¬ t = [] := of_decide_eq_false (show decide (t = []) = false from c1)
      have hz : ¬ (700 < t.length ∨ t = []) := fun h => h.elim hz0 hz1
      have hrd := cut_ok (t := t) (by omega)
      refine sw_skip ?_
      refine sw_seq ?_
      refine sw_region hP 3 [] rfl (by kernel_rfl) (fun _ => by kernel_rfl) ?_ ?_
      · skip
        simp only [conj, List.nil_append, List.cons_append, List.append_nil, List.append_assoc, inR_i64, true_and, and_true, Int.toNat_natCast]
        try dsimp only [Ty.den, Ty.dflt]
        repeat' apply And.intro
        all_goals first | omega | assumption | trivial | (show t.length ≤ 1000000; omega)
      refine sw_seq ?_
      refine sw_region hP 4 [] rfl (by kernel_rfl) (fun _ => by kernel_rfl) ?_ ?_
      · skip
        simp only [conj, List.nil_append, List.cons_append, List.append_nil, List.append_assoc, inR_i64, true_and, and_true, Int.toNat_natCast]
        try dsimp only [Ty.den, Ty.dflt]
        repeat' apply And.intro
        all_goals first | omega | assumption | trivial | exact hrd
      refine sw_seq ?_
      refine sw_seq ?_
      obtain ⟨q, hq⟩ : ∃ q, (rootI (cutV 10 t, 0)) = q := ⟨_, rfl⟩
      have hqo : RdOk q.2 := hq ▸ rootI_ok hrd
      have hqe := hqo.er
      refine sw_ent (st' := ⟨[sInt .i64 d, .v false [.d .str pF t], .junk, .junk, .v false [.ptr ⟨1, 0, 0⟩ 0], .junk, .v false [.ptr ⟨3, 3, 0⟩ 0], .v false [.ptr ⟨4, 2, 0⟩ 0], .junk, .junk, .junk, .junk, .junk, .junk, .junk, .junk, .junk, .junk, .junk, .v false [.ptr ⟨3, 3, 0⟩ 0], .junk, .junk, .junk, .junk, .junk, .junk, .junk, .junk, .junk, .junk, .junk, .junk, .junk, .junk, .junk, .junk, .junk], [(⟨1, 0, 0⟩, .var [.d TI pF 0, .d (.sl T_Vol) pF []]), (⟨3, 3, 0⟩, .var [.d (.sl .str) pF q.2.1, .d .er pF q.2.2]), (⟨4, 2, 0⟩, .var [.d TI pF q.1.1, .own ⟨0, 9, 0⟩]), (⟨0, 9, 0⟩, .sl T_Vol (.all .w) q.1.2)], 4, []⟩) (ent_ok rfl ?_) ?_
      · skip
        simp [conj, ← hq, bytesL]
        try rfl
      refine sw_dec hP 5 [] 6 rfl (fun g5_6 => ?_) (fun g5_6 => ?_)
      · skip
        have hbad : q.2.2 = 1 ∨ rootT d q.1 ≠ t := .inl (Nat.eq_of_beq_eq_true g5_6)
        refine sw_region hP 5 [(6, true)] rfl (by kernel_rfl) (fun _ => by kernel_rfl) ?_ ?_
        · skip
          simp only [conj, List.nil_append, List.cons_append, List.append_nil, List.append_assoc, inR_i64, true_and, and_true, Int.toNat_natCast]
          try dsimp only [Ty.den, Ty.dflt]
          repeat' apply And.intro
          all_goals first | omega | assumption | trivial | exact g5_6
        refine sw_condT rfl ?_
        refine sw_seq ?_
        refine sw_region hP 6 [] rfl (by kernel_rfl) (fun _ => by kernel_rfl) (by first | trivial | (simp [conj]; done) | (simp [conj] at *; (try dsimp only [Ty.den, Ty.dflt] at *); omega)) ?_
        refine sw_ret ⟨.inl rfl, _, rfl, ?_⟩
        have hv : readI d t = ((0, []), false) := by unfold readI; rw [if_neg hz]; simp only [hq]; rw [if_pos hbad]
        simp [conj, hv]
      · skip
        have hne1 : ¬ q.2.2 = 1 := by
          intro h
          have h2 : Nat.beq q.2.2 1 = false := g5_6
          rw [h] at h2
          cases h2
        refine sw_region hP 5 [(6, false)] rfl (by kernel_rfl) (fun _ => by kernel_rfl) ?_ ?_
        · skip
          simp only [conj, List.nil_append, List.cons_append, List.append_nil, List.append_assoc, inR_i64, true_and, and_true, Int.toNat_natCast]
          try dsimp only [Ty.den, Ty.dflt]
          repeat' apply And.intro
          all_goals first | omega | assumption | trivial | exact g5_6
        refine sw_cond rfl (fun c5 => ?_) (fun c5 => ?_)
        · skip
          have hbad : q.2.2 = 1 ∨ rootT d q.1 ≠ t := .inr (by have h : (!decide (rootT d q.1 = t)) = true := c5; simpa using h)
          refine sw_seq ?_
          refine sw_region hP 6 [] rfl (by kernel_rfl) (fun _ => by kernel_rfl) (by first | trivial | (simp [conj]; done) | (simp [conj] at *; (try dsimp only [Ty.den, Ty.dflt] at *); omega)) ?_
          refine sw_ret ⟨.inl rfl, _, rfl, ?_⟩
          have hv : readI d t = ((0, []), false) := by unfold readI; rw [if_neg hz]; simp only [hq]; rw [if_pos hbad]
          simp [conj, hv]
        · skip
          have hgood : ¬ (q.2.2 = 1 ∨ rootT d q.1 ≠ t) := by
            have h : (!decide (rootT d q.1 = t)) = false := c5
            intro h2
            rcases h2 with h2 | h2
            · exact hne1 h2
            · simp at h; exact h2 h
          refine sw_skip ?_
          refine sw_seq ?_
          refine sw_region hP 6 [] rfl (by kernel_rfl) (fun _ => by kernel_rfl) (by first | trivial | (simp [conj]; done) | (simp [conj] at *; (try dsimp only [Ty.den, Ty.dflt] at *); omega)) ?_
          refine sw_ret ⟨.inl rfl, _, rfl, ?_⟩
          have hv : readI d t = (q.1, true) := by unfold readI; rw [if_neg hz]; simp only [hq]; rw [if_neg hgood]
          simp [conj, hv]
end Go.Sx

namespace Go.Sx
open Go
set_option maxRecDepth 100000
set_option linter.unusedVariables false
set_option linter.unusedSimpArgs false
set_option maxHeartbeats 2000000

def cIn : Ctr := ⟨44, [.val false TI pF, .val false TI pF, .val false TI pF], fun x => True, fun x => (sBool (inV x.1 x.2.1 x.2.2.1), [])⟩
theorem cIn_ok : CtrOk Proofs.Tryz.prog cIn := by
  have hP := (Prg.none ttok mtok)
  refine ctr_of_body hP cIn (fn := Proofs.Tryz.f44) (rts := [.tmp 6]) Proofs.Tryz.func44 rfl (by kernel_rfl) rfl rfl ?_
  rintro ⟨(n : Int), (lo : Int), (hi : Int), ⟨⟩⟩ _ _
  try dsimp only [Ty.den, Mode.den, mdens] at _
  refine ⟨rfl, ?_⟩
  refine sw_seq ?_
  refine sw_region hP 1 [] rfl (by kernel_rfl) (fun _ => by kernel_rfl) (by first | trivial | (simp [conj]; done) | (simp [conj] at *; (try dsimp only [Ty.den, Ty.dflt] at *); omega)) ?_
  refine sw_seq ?_
  refine sw_dec hP 2 [] 3 rfl (fun g1_3 => ?_) (fun g1_3 => ?_)
  · skip
    refine sw_region hP 2 [(3, true)] rfl (by kernel_rfl) (fun _ => by kernel_rfl) (by first | trivial | (simp [conj]; done) | (simp [conj] at *; (try dsimp only [Ty.den, Ty.dflt] at *); omega)) ?_
    refine sw_ret ⟨.inl rfl, _, rfl, ?_⟩
    simp [conj] at *
    simp [inV, *]
    try omega
  · skip
    refine sw_region hP 2 [(3, false)] rfl (by kernel_rfl) (fun _ => by kernel_rfl) (by first | trivial | (simp [conj]; done) | (simp [conj] at *; (try dsimp only [Ty.den, Ty.dflt] at *); omega)) ?_
    refine sw_ret ⟨.inl rfl, _, rfl, ?_⟩
    simp [conj] at *
    simp [inV, *]
    try omega

def cDisks : Ctr := ⟨43, [.val false TI pF], fun x => True, fun x => (sBool (poolV x.1), [])⟩
theorem cDisks_ok : CtrOk Proofs.Tryz.prog cDisks := by
  have hP := ((Prg.none ttok mtok).and cIn_ok)
  refine ctr_of_body hP cDisks (fn := Proofs.Tryz.f43) (rts := [.tmp 2]) Proofs.Tryz.func43 rfl (by kernel_rfl) rfl rfl ?_
  rintro ⟨(n : Int), ⟨⟩⟩ _ _
  try dsimp only [Ty.den, Mode.den, mdens] at _
  refine ⟨rfl, ?_⟩
  refine sw_seq ?_
  refine sw_region hP 1 [] rfl (by kernel_rfl) (fun _ => by kernel_rfl) (by first | trivial | (simp [conj]; done) | (simp [conj] at *; (try dsimp only [Ty.den, Ty.dflt] at *); omega)) ?_
  refine sw_seq ?_
  refine sw_region hP 2 [] rfl (by kernel_rfl) (fun _ => by kernel_rfl) ?_ ?_
  · skip
    simp only [conj, List.nil_append, List.cons_append, List.append_nil, List.append_assoc, inR_i64, true_and, and_true, Int.toNat_natCast]
    try dsimp only [Ty.den, Ty.dflt]
    repeat' apply And.intro
    all_goals first | trivial | assumption | omega | exact decide_eq_true ‹_› | exact decide_eq_false ‹_› | (simp [*]; done)
  refine sw_ret ⟨.inl rfl, _, rfl, ?_⟩
  simp [conj, poolV]

def cName : Ctr := ⟨73, [.val false .str pF], fun x => True, fun x => (sBool (nameV x.1), [])⟩
theorem cName_ok : CtrOk Proofs.Tryz.prog cName := by
  have hP := ((Prg.none ttok mtok).and cIn_ok)
  refine ctr_of_body hP cName (fn := Proofs.Tryz.f73) (rts := [.tmp 2]) Proofs.Tryz.func73 rfl (by kernel_rfl) rfl rfl ?_
  rintro ⟨(s : Str), ⟨⟩⟩ ⟨hds, _⟩ hpre
  try dsimp only [Ty.den, Mode.den, mdens] at hpre
  refine ⟨rfl, ?_⟩
  have hml : s.length ≤ 140737488355328 := hds
  refine sw_seq ?_
  refine sw_region hP 1 [] rfl (by kernel_rfl) (fun _ => by kernel_rfl) (by first | trivial | (simp [conj]; done) | (simp [conj] at *; (try dsimp only [Ty.den, Ty.dflt] at *); omega)) ?_
  refine sw_seq ?_
  refine sw_seq ?_
  refine sw_region hP 2 [] rfl (by kernel_rfl) (fun _ => by kernel_rfl) ?_ ?_
  · skip
    exact trivial
  refine sw_cond rfl (fun c1 => ?_) (fun c1 => ?_)
  · skip
    refine sw_seq ?_
    refine sw_region hP 3 [] rfl (by kernel_rfl) (fun _ => by kernel_rfl) (by first | trivial | (simp [conj]; done) | (simp [conj] at *; (try dsimp only [Ty.den, Ty.dflt] at *); omega)) ?_
    refine sw_ret ⟨.inl rfl, _, rfl, ?_⟩
    first | (simp at c1; simp [conj, nameV, c1]; done) | (simp [List.getElem?_eq_getElem hlt] at g6_4; simp only [conj, nameV, hin, all_hit hlt hgo (lower_l g6_4)]; rfl) | (simp [List.getElem?_eq_getElem hlt] at c6; simp only [conj, nameV, hin, all_hit hlt hgo (lower_h c6)]; rfl) | (simp only [conj, nameV, hin, all_end hgo]; rfl)
  · skip
    refine sw_skip ?_
    refine sw_seq ?_
    refine sw_seq ?_
    refine sw_region hP 3 [] rfl (by kernel_rfl) (fun _ => by kernel_rfl) (by first | trivial | (simp [conj]; done) | (simp [conj] at *; (try dsimp only [Ty.den, Ty.dflt] at *); omega)) ?_
    refine sw_block ?_
    refine sw_loop (ι := Nat) (fun i => ⟨[.v false [.d .str pF s], .junk, .junk, sInt .i64 (i : Int), .junk, .junk, .junk, .junk, .junk, .junk, .junk, .junk, .junk, .junk, .junk, .junk, .junk, .junk, .junk, .junk, .junk, .junk, .junk, .junk], [], 3, []⟩) (fun i => s.length - i) (fun i => i ≤ s.length ∧ (inV s.length 1 3 = true) ∧ (s.drop i).all lower = s.all lower) 0 ⟨?_, ?_⟩ ?_
    · skip
      refine ⟨Nat.zero_le _, ?_, rfl⟩
      simpa using c1
    · refine ent_ok rfl ?_
      first | trivial | (simp [conj]; done) | (simp [conj] at *; (try dsimp only [Ty.den, Ty.dflt] at *); omega)
    · rintro i ⟨hi, hin, hgo⟩
      refine sw_seq ?_
      refine sw_seq ?_
      refine sw_region hP 4 [] rfl (by kernel_rfl) (fun _ => by kernel_rfl) (by first | trivial | (simp [conj]; done) | (simp [conj] at *; (try dsimp only [Ty.den, Ty.dflt] at *); omega)) ?_
      refine sw_cond rfl (fun c4 => ?_) (fun c4 => ?_)
      · skip
        have hlt : i < s.length := by simpa using c4
        refine sw_skip ?_
        refine sw_seq ?_
        refine sw_block ?_
        refine sw_seq ?_
        refine sw_dec hP 5 [] 4 rfl (fun g6_4 => ?_) (fun g6_4 => ?_)
        · skip
          refine sw_region hP 5 [(4, true)] rfl (by kernel_rfl) (fun _ => by kernel_rfl) (by first | trivial | (simp [conj]; done) | (simp [conj] at *; (try dsimp only [Ty.den, Ty.dflt] at *); omega)) ?_
          refine sw_condT rfl ?_
          refine sw_seq ?_
          refine sw_region hP 6 [] rfl (by kernel_rfl) (fun _ => by kernel_rfl) (by first | trivial | (simp [conj]; done) | (simp [conj] at *; (try dsimp only [Ty.den, Ty.dflt] at *); omega)) ?_
          refine sw_ret ⟨.inl rfl, _, rfl, ?_⟩
          first | (simp at c1; simp [conj, nameV, c1]; done) | (simp [List.getElem?_eq_getElem hlt] at g6_4; simp only [conj, nameV, hin, all_hit hlt hgo (lower_l g6_4)]; rfl) | (simp [List.getElem?_eq_getElem hlt] at c6; simp only [conj, nameV, hin, all_hit hlt hgo (lower_h c6)]; rfl) | (simp only [conj, nameV, hin, all_end hgo]; rfl)
        · skip
          refine sw_region hP 5 [(4, false)] rfl (by kernel_rfl) (fun _ => by kernel_rfl) (by first | trivial | (simp [conj]; done) | (simp [conj] at *; (try dsimp only [Ty.den, Ty.dflt] at *); omega)) ?_
          refine sw_cond rfl (fun c6 => ?_) (fun c6 => ?_)
          · skip
            refine sw_seq ?_
            refine sw_region hP 6 [] rfl (by kernel_rfl) (fun _ => by kernel_rfl) (by first | trivial | (simp [conj]; done) | (simp [conj] at *; (try dsimp only [Ty.den, Ty.dflt] at *); omega)) ?_
            refine sw_ret ⟨.inl rfl, _, rfl, ?_⟩
            first | (simp at c1; simp [conj, nameV, c1]; done) | (simp [List.getElem?_eq_getElem hlt] at g6_4; simp only [conj, nameV, hin, all_hit hlt hgo (lower_l g6_4)]; rfl) | (simp [List.getElem?_eq_getElem hlt] at c6; simp only [conj, nameV, hin, all_hit hlt hgo (lower_h c6)]; rfl) | (simp only [conj, nameV, hin, all_end hgo]; rfl)
          · skip
            refine sw_skip ?_
            refine sw_region hP 6 [] rfl (by kernel_rfl) (fun _ => by kernel_rfl) (by first | trivial | (simp [conj]; done) | (simp [conj] at *; (try dsimp only [Ty.den, Ty.dflt] at *); omega)) ?_
            refine ⟨i + 1, ?_, ?_, ent_ok rfl ?_⟩
            · skip
              simp [List.getElem?_eq_getElem hlt] at g6_4 c6
              exact ⟨hlt, hin, all_next hlt hgo (lower_t g6_4 c6)⟩
            · skip
              omega
            · skip
              simp [conj]
      · skip
        obtain rfl : i = s.length := by simp at c4; omega
        refine sw_exit ?_
        refine sw_seq ?_
        refine sw_region hP 5 [] rfl (by kernel_rfl) (fun _ => by kernel_rfl) (by first | trivial | (simp [conj]; done) | (simp [conj] at *; (try dsimp only [Ty.den, Ty.dflt] at *); omega)) ?_
        refine sw_ret ⟨.inl rfl, _, rfl, ?_⟩
        first | (simp at c1; simp [conj, nameV, c1]; done) | (simp [List.getElem?_eq_getElem hlt] at g6_4; simp only [conj, nameV, hin, all_hit hlt hgo (lower_l g6_4)]; rfl) | (simp [List.getElem?_eq_getElem hlt] at c6; simp only [conj, nameV, hin, all_hit hlt hgo (lower_h c6)]; rfl) | (simp only [conj, nameV, hin, all_end hgo]; rfl)

def cColsS : Ctr := ⟨102, [.val false TI pF], fun x => 0 ≤ x.1 ∧ x.1 ≤ 1000000, fun x => (sInt .i64 (colsV x.1), [])⟩
theorem cColsS_ok : CtrOk Proofs.Tryz.prog cColsS := by
  have hP := (Prg.none ttok mtok)
  refine ctr_of_body hP cColsS (fn := Proofs.Tryz.f102) (rts := [.tmp 2]) Proofs.Tryz.func102 rfl (by kernel_rfl) rfl rfl ?_
  rintro ⟨(n : Int), ⟨⟩⟩ _ ⟨h0, h1⟩
  try dsimp only [Ty.den, Mode.den, mdens] at h0
  try dsimp only [Ty.den, Mode.den, mdens] at h1
  refine ⟨rfl, ?_⟩
  have hq := colsV_bd h0 h1
  unfold colsV at hq
  refine sw_seq ?_
  refine sw_region hP 1 [] rfl (by kernel_rfl) (fun _ => by kernel_rfl) (by first | trivial | (simp [conj]; done) | (simp [conj] at *; (try dsimp only [Ty.den, Ty.dflt] at *); omega)) ?_
  refine sw_seq ?_
  refine sw_region hP 2 [] rfl (by kernel_rfl) (fun _ => by kernel_rfl) ?_ ?_
  · skip
    simp only [conj, List.nil_append, List.cons_append, List.append_nil, List.append_assoc, inR_i64, true_and, and_true, Int.toNat_natCast]
    try dsimp only [Ty.den, Ty.dflt]
    repeat' apply And.intro
    all_goals first | rfl | omega | assumption | trivial
  refine sw_ret ⟨.inl rfl, _, rfl, ?_⟩
  simp [conj, colsV]

def cPtrS : Ctr := ⟨75, [.val false TI pF, .val true T_Ptr (.all .b)], fun x => poolV x.1 = true, fun x => (sBool (ptrW x.1 x.2.1), [])⟩
theorem cPtrS_ok : CtrOk Proofs.Tryz.prog cPtrS := by
  have hP := (((Prg.none ttok mtok).and cIn_ok).and cColsS_ok)
  refine ctr_of_body hP cPtrS (fn := Proofs.Tryz.f75) (rts := [.tmp 4]) Proofs.Tryz.func75 rfl (by kernel_rfl) rfl rfl ?_
  rintro ⟨(d : Int), ⟨(sz : Int), (sm : Int), (pl : List Plc)⟩, ⟨⟩⟩ ⟨_, ⟨_, _, hpl0⟩, _⟩ hpre
  try dsimp only [Ty.den, Mode.den, mdens] at hpre
  refine ⟨rfl, ?_⟩
  replace hpre : poolV d = true := hpre
  have hml : pl.length ≤ 140737488355328 := hpl0.1
  have hb : 3 ≤ d ∧ d ≤ 4 := by simpa [poolV, inV] using hpre
  have hmm := sMin_bd d hb
  have hmv : mostV d = 3 * (d - 1) := by unfold mostV; rw [hmm]
  refine sw_seq ?_
  refine sw_region hP 1 [] rfl (by kernel_rfl) (fun _ => by kernel_rfl) (by first | trivial | (simp [conj]; done) | (simp [conj] at *; (try dsimp only [Ty.den, Ty.dflt] at *); omega)) ?_
  refine sw_seq ?_
  refine sw_seq ?_
  refine sw_region hP 2 [] rfl (by kernel_rfl) (fun _ => by kernel_rfl) (by first | trivial | (simp [conj]; done) | (simp [conj] at *; (try dsimp only [Ty.den, Ty.dflt] at *); omega)) ?_
  refine sw_cond rfl (fun c1 => ?_) (fun c1 => ?_)
  · skip
    replace c1 : sz = 0 := of_decide_eq_true c1
    refine sw_seq ?_
    refine sw_dec hP 3 [] 3 rfl (fun g2_3 => ?_) (fun g2_3 => ?_)
    · skip
      replace g2_3 : sm = 0 := of_decide_eq_true g2_3
      refine sw_region hP 3 [(3, true)] rfl (by kernel_rfl) (fun _ => by kernel_rfl) ?_ ?_
      · skip
        simp only [conj, List.nil_append, List.cons_append, List.append_nil, List.append_assoc, inR_i64, true_and, and_true, Int.toNat_natCast]
        try dsimp only [Ty.den, Ty.dflt]
        repeat' apply And.intro
        all_goals first | trivial | assumption | omega | exact decide_eq_true ‹_› | exact decide_eq_false ‹_› | (simp [*]; done)
      refine sw_ret ⟨.inl rfl, _, rfl, ?_⟩
      simp [conj, ptrW, c1, *]
      try omega
    · skip
      replace g2_3 : ¬ sm = 0 := of_decide_eq_false g2_3
      refine sw_region hP 3 [(3, false)] rfl (by kernel_rfl) (fun _ => by kernel_rfl) ?_ ?_
      · skip
        simp only [conj, List.nil_append, List.cons_append, List.append_nil, List.append_assoc, inR_i64, true_and, and_true, Int.toNat_natCast]
        try dsimp only [Ty.den, Ty.dflt]
        repeat' apply And.intro
        all_goals first | trivial | assumption | omega | exact decide_eq_true ‹_› | exact decide_eq_false ‹_› | (simp [*]; done)
      refine sw_ret ⟨.inl rfl, _, rfl, ?_⟩
      simp [conj, ptrW, c1, *]
      try omega
  · skip
    replace c1 : ¬ sz = 0 := of_decide_eq_false c1
    refine sw_skip ?_
    refine sw_seq ?_
    refine sw_seq ?_
    refine sw_dec hP 3 [] 8 rfl (fun g3_8 => ?_) (fun g3_8 => ?_)
    · skip
      have k8 : inV sz 1 (mostV d) = false := by have h : (!inV sz 1 (mostV d)) = true := g3_8; simpa using h
      have hsz : sizeV d ((sz, sm, pl) : Ptr_) = false := by simp [sizeV, k8]
      refine sw_region hP 3 [(8, true)] rfl (by kernel_rfl) (fun _ => by kernel_rfl) ?_ ?_
      · skip
        simp only [conj, List.nil_append, List.cons_append, List.append_nil, List.append_assoc, inR_i64, true_and, and_true, Int.toNat_natCast]
        try dsimp only [Ty.den, Ty.dflt]
        repeat' apply And.intro
        all_goals first | trivial | assumption | omega | (show 0 ≤ sz; omega) | (show sz ≤ 1000000; omega) | (show _ ≤ mostV d; omega) | (show mostV d ≤ _; omega) | exact g3_8 | exact g3_14
      refine sw_condT rfl ?_
      refine sw_seq ?_
      refine sw_region hP 4 [] rfl (by kernel_rfl) (fun _ => by kernel_rfl) (by first | trivial | (simp [conj]; done) | (simp [conj] at *; (try dsimp only [Ty.den, Ty.dflt] at *); omega)) ?_
      refine sw_ret ⟨.inl rfl, _, rfl, ?_⟩
      simp [conj, ptrW, c1, hsz]
    · skip
      have k8 : inV sz 1 (mostV d) = true := by have h : (!inV sz 1 (mostV d)) = false := g3_8; simpa using h
      have hs1 : 1 ≤ sz ∧ sz ≤ mostV d := by simpa [inV] using k8
      have hcb := colsV_bd (n := sz) (by omega) (by omega)
      refine sw_dec hP 3 [(8, false)] 14 rfl (fun g3_14 => ?_) (fun g3_14 => ?_)
      · skip
        have k14 : inV sm 0 1000000000 = false := by have h : (!inV sm 0 1000000000) = true := g3_14; simpa using h
        have hsz : sizeV d ((sz, sm, pl) : Ptr_) = false := by simp [sizeV, k14]
        refine sw_region hP 3 [(8, false), (14, true)] rfl (by kernel_rfl) (fun _ => by kernel_rfl) ?_ ?_
        · skip
          simp only [conj, List.nil_append, List.cons_append, List.append_nil, List.append_assoc, inR_i64, true_and, and_true, Int.toNat_natCast]
          try dsimp only [Ty.den, Ty.dflt]
          repeat' apply And.intro
          all_goals first | trivial | assumption | omega | (show 0 ≤ sz; omega) | (show sz ≤ 1000000; omega) | (show _ ≤ mostV d; omega) | (show mostV d ≤ _; omega) | exact g3_8 | exact g3_14
        refine sw_condT rfl ?_
        refine sw_seq ?_
        refine sw_region hP 4 [] rfl (by kernel_rfl) (fun _ => by kernel_rfl) (by first | trivial | (simp [conj]; done) | (simp [conj] at *; (try dsimp only [Ty.den, Ty.dflt] at *); omega)) ?_
        refine sw_ret ⟨.inl rfl, _, rfl, ?_⟩
        simp [conj, ptrW, c1, hsz]
      · skip
        have k14 : inV sm 0 1000000000 = true := by have h : (!inV sm 0 1000000000) = false := g3_14; simpa using h
        refine sw_region hP 3 [(8, false), (14, false)] rfl (by kernel_rfl) (fun _ => by kernel_rfl) ?_ ?_
        · skip
          simp only [conj, List.nil_append, List.cons_append, List.append_nil, List.append_assoc, inR_i64, true_and, and_true, Int.toNat_natCast]
          try dsimp only [Ty.den, Ty.dflt]
          repeat' apply And.intro
          all_goals first | trivial | assumption | omega | (show 0 ≤ sz; omega) | (show sz ≤ 1000000; omega) | (show _ ≤ mostV d; omega) | (show mostV d ≤ _; omega) | exact g3_8 | exact g3_14
        refine sw_cond rfl (fun c3 => ?_) (fun c3 => ?_)
        · skip
          have hsz : sizeV d ((sz, sm, pl) : Ptr_) = false := by
            have h : (!decide ((pl.length : Int) = colsV sz + 1)) = true := c3
            simp [sizeV] at h ⊢; intros; omega
          refine sw_seq ?_
          refine sw_region hP 4 [] rfl (by kernel_rfl) (fun _ => by kernel_rfl) (by first | trivial | (simp [conj]; done) | (simp [conj] at *; (try dsimp only [Ty.den, Ty.dflt] at *); omega)) ?_
          refine sw_ret ⟨.inl rfl, _, rfl, ?_⟩
          simp [conj, ptrW, c1, hsz]
        · skip
          have hsz : sizeV d ((sz, sm, pl) : Ptr_) = true := by
            have h : (!decide ((pl.length : Int) = colsV sz + 1)) = false := c3
            simp [sizeV, k8, k14] at h ⊢; omega
          refine sw_skip ?_
          refine sw_seq ?_
          refine sw_seq ?_
          refine sw_region hP 4 [] rfl (by kernel_rfl) (fun _ => by kernel_rfl) (by first | trivial | (simp [conj]; done) | (simp [conj] at *; (try dsimp only [Ty.den, Ty.dflt] at *); omega)) ?_
          refine sw_block ?_
          refine sw_loop (ι := Nat) (fun i => ⟨[sInt .i64 d, .junk, .junk, .v false [.ptr ⟨1, 0, 0⟩ 0], .junk, sInt .i64 (i : Int), .junk, .junk, .junk, .junk, .junk, .junk, .junk, .junk, .junk, .junk, .junk, .junk, .junk, .junk, .junk, .junk, .junk, .junk, .junk, .junk, .junk, .junk, .junk, .junk, .junk, .junk, .junk, .junk, .junk, .junk, .junk, .junk, .junk, .junk, .junk, .junk, .junk, .junk, .junk, .junk, .junk, .junk, .junk, .junk, .junk, .junk, .junk, .junk, .junk, .junk, .junk, .junk, .junk, .junk, .junk, .junk, .junk, .junk, .junk, .junk, .junk, .junk, .junk, .junk, .junk, .junk, .junk, .junk, .junk, .junk, .junk, .junk, .junk, .junk, .junk, .junk, .junk, .junk, .junk, .junk, .junk, .junk], [(⟨1, 0, 0⟩, .var [.d TI pF sz, .d TI pF sm, .d (.sl T_Place) (.all .b) pl])], 4, []⟩) (fun i => pl.length - i) (fun i => i ≤ pl.length ∧ chkGo (placeF d) (pl.take i) (pl.drop i) = chk (placeF d) pl) 0 ⟨?_, ?_⟩ ?_
          · skip
            exact ⟨Nat.zero_le _, rfl⟩
          · refine ent_ok rfl ?_
            simp [conj]
          · rintro i ⟨hi, hgo⟩
            refine sw_seq ?_
            refine sw_seq ?_
            refine sw_region hP 5 [] rfl (by kernel_rfl) (fun _ => by kernel_rfl) (by first | trivial | (simp [conj]; done) | (simp [conj] at *; (try dsimp only [Ty.den, Ty.dflt] at *); omega)) ?_
            refine sw_cond rfl (fun c6 => ?_) (fun c6 => ?_)
            · skip
              have hlt : i < pl.length := by simpa using c6
              refine sw_skip ?_
              refine sw_seq ?_
              refine sw_block ?_
              refine sw_seq ?_
              refine sw_seq ?_
              refine sw_dec hP 6 [] 10 rfl (fun g8_10 => ?_) (fun g8_10 => ?_)
              · skip
                replace g8_10 : inV pl[i].1 0 (d - 1) = false := by simpa [List.getElem?_eq_getElem hlt] using g8_10
                have hf : placeF d (pl.take i) pl[i] = false := by simp [placeF, placeV_no1 g8_10]
                refine sw_region hP 6 [(10, true)] rfl (by kernel_rfl) (fun _ => by kernel_rfl) ?_ ?_
                · skip
                  simp [conj, List.getElem?_eq_getElem hlt]
                  repeat' apply And.intro
                  all_goals first | omega | assumption | (simp [*]; done) | trivial
                refine sw_condT rfl ?_
                refine sw_seq ?_
                refine sw_region hP 7 [] rfl (by kernel_rfl) (fun _ => by kernel_rfl) (by first | trivial | (simp [conj]; done) | (simp [conj] at *; (try dsimp only [Ty.den, Ty.dflt] at *); omega)) ?_
                refine sw_ret ⟨.inl rfl, _, rfl, ?_⟩
                have hv := chk_hit hlt hgo hf
                simp [conj, ptrW, c1, hsz, hv]
              · skip
                replace g8_10 : inV pl[i].1 0 (d - 1) = true := by simpa [List.getElem?_eq_getElem hlt] using g8_10
                refine sw_region hP 6 [(10, false)] rfl (by kernel_rfl) (fun _ => by kernel_rfl) ?_ ?_
                · skip
                  simp [conj, List.getElem?_eq_getElem hlt]
                  repeat' apply And.intro
                  all_goals first | omega | assumption | (simp [*]; done) | trivial
                refine sw_cond rfl (fun c8 => ?_) (fun c8 => ?_)
                · skip
                  replace c8 : inV pl[i].2 0 11 = false := by simpa [List.getElem?_eq_getElem hlt] using c8
                  have hf : placeF d (pl.take i) pl[i] = false := by simp [placeF, placeV_no2 c8]
                  refine sw_seq ?_
                  refine sw_region hP 7 [] rfl (by kernel_rfl) (fun _ => by kernel_rfl) (by first | trivial | (simp [conj]; done) | (simp [conj] at *; (try dsimp only [Ty.den, Ty.dflt] at *); omega)) ?_
                  refine sw_ret ⟨.inl rfl, _, rfl, ?_⟩
                  have hv := chk_hit hlt hgo hf
                  simp [conj, ptrW, c1, hsz, hv]
                · skip
                  replace c8 : inV pl[i].2 0 11 = true := by simpa [List.getElem?_eq_getElem hlt] using c8
                  have hpv : placeV d pl[i] = true := placeV_yes g8_10 c8
                  refine sw_skip ?_
                  refine sw_seq ?_
                  refine sw_region hP 7 [] rfl (by kernel_rfl) (fun _ => by kernel_rfl) (by first | trivial | (simp [conj]; done) | (simp [conj] at *; (try dsimp only [Ty.den, Ty.dflt] at *); omega)) ?_
                  refine sw_block ?_
                  refine sw_loop (ι := Nat) (fun k => ⟨[sInt .i64 d, .junk, .junk, .v false [.ptr ⟨1, 0, 0⟩ 0], .junk, sInt .i64 (i : Int), sInt .i64 (k : Int), .junk, .junk, .junk, .junk, .junk, .junk, .junk, .junk, .junk, .junk, .junk, .junk, .junk, .junk, .junk, .junk, .junk, .junk, .junk, .junk, .junk, .junk, .junk, .junk, .junk, .junk, .junk, .junk, .junk, .junk, .junk, .junk, .junk, .junk, .junk, .junk, .junk, .junk, .junk, .junk, .junk, .junk, .junk, .junk, .junk, .junk, .junk, .junk, .junk, .junk, .junk, .junk, .junk, .junk, .junk, .junk, .junk, .junk, .junk, .junk, .junk, .junk, .junk, .junk, .junk, .junk, .junk, .junk, .junk, .junk, .junk, .junk, .junk, .junk, .junk, .junk, .junk, .junk, .junk, .junk, .junk], [(⟨1, 0, 0⟩, .var [.d TI pF sz, .d TI pF sm, .d (.sl T_Place) (.all .b) pl])], 7, []⟩) (fun k => i - k) (fun k => k ≤ i ∧ (pl.take k).any (fun q : Plc => decide (q.1 = pl[i].1)) = false) 0 ⟨?_, ?_⟩ ?_
                  · skip
                    exact ⟨Nat.zero_le _, rfl⟩
                  · refine ent_ok rfl ?_
                    simp [conj]
                  · rintro k ⟨hk, hgk⟩
                    refine sw_seq ?_
                    refine sw_seq ?_
                    refine sw_region hP 8 [] rfl (by kernel_rfl) (fun _ => by kernel_rfl) (by first | trivial | (simp [conj]; done) | (simp [conj] at *; (try dsimp only [Ty.den, Ty.dflt] at *); omega)) ?_
                    refine sw_cond rfl (fun c11 => ?_) (fun c11 => ?_)
                    · skip
                      have hki : k < i := by simpa using c11
                      have hlk : k < pl.length := by omega
                      refine sw_skip ?_
                      refine sw_seq ?_
                      refine sw_block ?_
                      refine sw_seq ?_
                      refine sw_region hP 9 [] rfl (by kernel_rfl) (fun _ => by kernel_rfl) ?_ ?_
                      · skip
                        simp [conj, List.getElem?_eq_getElem hlt, List.getElem?_eq_getElem hlk]
                        repeat' apply And.intro
                        all_goals first | omega | trivial
                      refine sw_cond rfl (fun c13 => ?_) (fun c13 => ?_)
                      · skip
                        replace c13 : (fun q : Plc => decide (q.1 = pl[i].1)) pl[k] = true := by simpa [List.getElem?_eq_getElem hlt, List.getElem?_eq_getElem hlk] using c13
                        have hf : placeF d (pl.take i) pl[i] = false := by unfold placeF; rw [any_hit hki hlk c13]; simp
                        refine sw_seq ?_
                        refine sw_region hP 10 [] rfl (by kernel_rfl) (fun _ => by kernel_rfl) (by first | trivial | (simp [conj]; done) | (simp [conj] at *; (try dsimp only [Ty.den, Ty.dflt] at *); omega)) ?_
                        refine sw_ret ⟨.inl rfl, _, rfl, ?_⟩
                        have hv := chk_hit hlt hgo hf
                        simp [conj, ptrW, c1, hsz, hv]
                      · skip
                        replace c13 : (fun q : Plc => decide (q.1 = pl[i].1)) pl[k] = false := by simpa [List.getElem?_eq_getElem hlt, List.getElem?_eq_getElem hlk] using c13
                        refine sw_skip ?_
                        refine sw_region hP 10 [] rfl (by kernel_rfl) (fun _ => by kernel_rfl) (by first | trivial | (simp [conj]; done) | (simp [conj] at *; (try dsimp only [Ty.den, Ty.dflt] at *); omega)) ?_
                        refine ⟨k + 1, ?_, ?_, ent_ok rfl ?_⟩
                        · skip
                          exact ⟨hki, any_next hlk hgk c13⟩
                        · skip
                          omega
                        · skip
                          simp [conj]
                    · skip
                      obtain rfl : k = i := by simp at c11; omega
                      have hf : placeF d (pl.take k) pl[k] = true := by unfold placeF; rw [hpv, hgk]; rfl
                      refine sw_exit ?_
                      refine sw_region hP 9 [] rfl (by kernel_rfl) (fun _ => by kernel_rfl) (by first | trivial | (simp [conj]; done) | (simp [conj] at *; (try dsimp only [Ty.den, Ty.dflt] at *); omega)) ?_
                      refine ⟨k + 1, ?_, ?_, ent_ok rfl ?_⟩
                      · skip
                        exact ⟨hlt, chk_next hlt hgo hf⟩
                      · skip
                        omega
                      · skip
                        simp [conj]
            · skip
              obtain rfl : i = pl.length := by simp at c6; omega
              refine sw_exit ?_
              refine sw_seq ?_
              refine sw_region hP 6 [] rfl (by kernel_rfl) (fun _ => by kernel_rfl) (by first | trivial | (simp [conj]; done) | (simp [conj] at *; (try dsimp only [Ty.den, Ty.dflt] at *); omega)) ?_
              refine sw_ret ⟨.inl rfl, _, rfl, ?_⟩
              have hv := chk_end hgo
              simp [conj, ptrW, c1, hsz, hv]

def cMeet : Ctr := ⟨76, [.val true T_Ptr (.all .b), .val true T_Ptr (.all .b)], fun x => True, fun x => (sBool (meetV x.1 x.2.1), [])⟩
theorem cMeet_ok : CtrOk Proofs.Tryz.prog cMeet := by
  have hP := (Prg.none ttok mtok)
  refine ctr_of_body hP cMeet (fn := Proofs.Tryz.f76) (rts := [.tmp 4]) Proofs.Tryz.func76 rfl (by kernel_rfl) rfl rfl ?_
  rintro ⟨⟨(sz : Int), (sm : Int), (pl : List Plc)⟩, ⟨(sz2 : Int), (sm2 : Int), (pl2 : List Plc)⟩, ⟨⟩⟩ ⟨⟨_, _, h1⟩, ⟨_, _, h2⟩, _⟩ _
  try dsimp only [Ty.den, Mode.den, mdens] at _
  refine ⟨rfl, ?_⟩
  have hm1 : pl.length ≤ 140737488355328 := h1.1
  have hm2 : pl2.length ≤ 140737488355328 := h2.1
  refine sw_seq ?_
  refine sw_region hP 1 [] rfl (by kernel_rfl) (fun _ => by kernel_rfl) (by first | trivial | (simp [conj]; done) | (simp [conj] at *; (try dsimp only [Ty.den, Ty.dflt] at *); omega)) ?_
  refine sw_seq ?_
  refine sw_seq ?_
  refine sw_region hP 2 [] rfl (by kernel_rfl) (fun _ => by kernel_rfl) (by first | trivial | (simp [conj]; done) | (simp [conj] at *; (try dsimp only [Ty.den, Ty.dflt] at *); omega)) ?_
  refine sw_block ?_
  refine sw_loop (ι := Nat) (fun i => ⟨[.junk, .junk, .v false [.ptr ⟨1, 0, 0⟩ 0], .v false [.ptr ⟨1, 1, 0⟩ 0], .junk, sInt .i64 (i : Int), .junk, .junk, .junk, .junk, .junk, .junk, .junk, .junk, .junk, .junk, .junk, .junk, .junk, .junk, .junk, .junk, .junk, .junk, .junk, .junk, .junk, .junk, .junk, .junk, .junk, .junk], [(⟨1, 0, 0⟩, .var [.d TI pF sz, .d TI pF sm, .d (.sl T_Place) (.all .b) pl]), (⟨1, 1, 0⟩, .var [.d TI pF sz2, .d TI pF sm2, .d (.sl T_Place) (.all .b) pl2])], 2, []⟩) (fun i => pl.length - i) (fun i => i ≤ pl.length ∧ (pl.take i).any (fun a : Plc => pl2.any fun b => decide (a = b)) = false) 0 ⟨?_, ?_⟩ ?_
  · skip
    exact ⟨Nat.zero_le _, rfl⟩
  · refine ent_ok rfl ?_
    simp [conj]
  · rintro i ⟨hi, hgo⟩
    refine sw_seq ?_
    refine sw_seq ?_
    refine sw_region hP 3 [] rfl (by kernel_rfl) (fun _ => by kernel_rfl) (by first | trivial | (simp [conj]; done) | (simp [conj] at *; (try dsimp only [Ty.den, Ty.dflt] at *); omega)) ?_
    refine sw_cond rfl (fun c2 => ?_) (fun c2 => ?_)
    · skip
      have hlt : i < pl.length := by simpa using c2
      refine sw_skip ?_
      refine sw_seq ?_
      refine sw_block ?_
      refine sw_seq ?_
      refine sw_region hP 4 [] rfl (by kernel_rfl) (fun _ => by kernel_rfl) (by first | trivial | (simp [conj]; done) | (simp [conj] at *; (try dsimp only [Ty.den, Ty.dflt] at *); omega)) ?_
      refine sw_block ?_
      refine sw_loop (ι := Nat) (fun k => ⟨[.junk, .junk, .v false [.ptr ⟨1, 0, 0⟩ 0], .v false [.ptr ⟨1, 1, 0⟩ 0], .junk, sInt .i64 (i : Int), sInt .i64 (k : Int), .junk, .junk, .junk, .junk, .junk, .junk, .junk, .junk, .junk, .junk, .junk, .junk, .junk, .junk, .junk, .junk, .junk, .junk, .junk, .junk, .junk, .junk, .junk, .junk, .junk], [(⟨1, 0, 0⟩, .var [.d TI pF sz, .d TI pF sm, .d (.sl T_Place) (.all .b) pl]), (⟨1, 1, 0⟩, .var [.d TI pF sz2, .d TI pF sm2, .d (.sl T_Place) (.all .b) pl2])], 4, []⟩) (fun k => pl2.length - k) (fun k => k ≤ pl2.length ∧ (pl2.take k).any (fun b : Plc => decide (pl[i] = b)) = false) 0 ⟨?_, ?_⟩ ?_
      · skip
        exact ⟨Nat.zero_le _, rfl⟩
      · refine ent_ok rfl ?_
        simp [conj]
      · rintro k ⟨hk, hgk⟩
        refine sw_seq ?_
        refine sw_seq ?_
        refine sw_region hP 5 [] rfl (by kernel_rfl) (fun _ => by kernel_rfl) (by first | trivial | (simp [conj]; done) | (simp [conj] at *; (try dsimp only [Ty.den, Ty.dflt] at *); omega)) ?_
        refine sw_cond rfl (fun c5 => ?_) (fun c5 => ?_)
        · skip
          have hlk : k < pl2.length := by simpa using c5
          refine sw_skip ?_
          refine sw_seq ?_
          refine sw_block ?_
          refine sw_seq ?_
          refine sw_region hP 6 [] rfl (by kernel_rfl) (fun _ => by kernel_rfl) ?_ ?_
          · skip
            simp [conj, List.getElem?_eq_getElem hlt, List.getElem?_eq_getElem hlk]
            repeat' apply And.intro
            all_goals first | omega | trivial
          refine sw_cond rfl (fun c7 => ?_) (fun c7 => ?_)
          · skip
            have he : (fun b : Plc => decide (pl[i] = b)) pl2[k] = true := by
              have h := c7
              simp [List.getElem?_eq_getElem hlt, List.getElem?_eq_getElem hlk] at h
              simp only [decide_eq_true_eq]
              exact Prod.ext h.1 h.2
            have hv : meetV ((sz, sm, pl) : Ptr_) (sz2, sm2, pl2) = true := any_hit' (p := (fun a : Plc => pl2.any fun b => decide (a = b))) hlt (any_hit' (p := (fun b : Plc => decide (pl[i] = b))) hlk he)
            refine sw_seq ?_
            refine sw_region hP 7 [] rfl (by kernel_rfl) (fun _ => by kernel_rfl) (by first | trivial | (simp [conj]; done) | (simp [conj] at *; (try dsimp only [Ty.den, Ty.dflt] at *); omega)) ?_
            refine sw_ret ⟨.inl rfl, _, rfl, ?_⟩
            simp [conj, hv]
          · skip
            have he : (fun b : Plc => decide (pl[i] = b)) pl2[k] = false := by
              simp only [decide_eq_false_iff_not]
              intro e
              simp [List.getElem?_eq_getElem hlt, List.getElem?_eq_getElem hlk, e] at c7
            refine sw_skip ?_
            refine sw_region hP 7 [] rfl (by kernel_rfl) (fun _ => by kernel_rfl) (by first | trivial | (simp [conj]; done) | (simp [conj] at *; (try dsimp only [Ty.den, Ty.dflt] at *); omega)) ?_
            refine ⟨k + 1, ?_, ?_, ent_ok rfl ?_⟩
            · skip
              exact ⟨hlk, any_next hlk hgk he⟩
            · skip
              omega
            · skip
              simp [conj]
        · skip
          obtain rfl : k = pl2.length := by simp at c5; omega
          have hf := any_end hgk
          refine sw_exit ?_
          refine sw_region hP 6 [] rfl (by kernel_rfl) (fun _ => by kernel_rfl) (by first | trivial | (simp [conj]; done) | (simp [conj] at *; (try dsimp only [Ty.den, Ty.dflt] at *); omega)) ?_
          refine ⟨i + 1, ?_, ?_, ent_ok rfl ?_⟩
          · skip
            exact ⟨hlt, any_next hlt hgo hf⟩
          · skip
            omega
          · skip
            simp [conj]
    · skip
      obtain rfl : i = pl.length := by simp at c2; omega
      refine sw_exit ?_
      refine sw_seq ?_
      refine sw_region hP 4 [] rfl (by kernel_rfl) (fun _ => by kernel_rfl) (by first | trivial | (simp [conj]; done) | (simp [conj] at *; (try dsimp only [Ty.den, Ty.dflt] at *); omega)) ?_
      refine sw_ret ⟨.inl rfl, _, rfl, ?_⟩
      have hv : meetV ((sz, sm, pl) : Ptr_) (sz2, sm2, pl2) = false := any_end hgo
      simp [conj, hv]

def cSameS : Ctr := ⟨77, [.val true T_Ptr (.all .b), .val true T_Ptr (.all .b)], fun x => True, fun x => (sBool (decide ((x.1 : Ptr_) = x.2.1)), [])⟩
theorem cSameS_ok : CtrOk Proofs.Tryz.prog cSameS := by
  have hP := (Prg.none ttok mtok)
  refine ctr_of_body hP cSameS (fn := Proofs.Tryz.f77) (rts := [.tmp 4]) Proofs.Tryz.func77 rfl (by kernel_rfl) rfl rfl ?_
  rintro ⟨⟨(sz : Int), (sm : Int), (pl : List Plc)⟩, ⟨(sz2 : Int), (sm2 : Int), (pl2 : List Plc)⟩, ⟨⟩⟩ ⟨⟨_, _, h1⟩, ⟨_, _, h2⟩, _⟩ _
  try dsimp only [Ty.den, Mode.den, mdens] at _
  refine ⟨rfl, ?_⟩
  have hm1 : pl.length ≤ 140737488355328 := h1.1
  have hm2 : pl2.length ≤ 140737488355328 := h2.1
  refine sw_seq ?_
  refine sw_region hP 1 [] rfl (by kernel_rfl) (fun _ => by kernel_rfl) (by first | trivial | (simp [conj]; done) | (simp [conj] at *; (try dsimp only [Ty.den, Ty.dflt] at *); omega)) ?_
  refine sw_seq ?_
  refine sw_seq ?_
  refine sw_dec hP 2 [] 5 rfl (fun g1_5 => ?_) (fun g1_5 => ?_)
  · skip
    have k5 : ¬ sz = sz2 := by simpa using g1_5
    refine sw_region hP 2 [(5, true)] rfl (by kernel_rfl) (fun _ => by kernel_rfl) ?_ ?_
    · skip
      simp only [conj, List.nil_append, List.cons_append, List.append_nil, List.append_assoc, inR_i64, true_and, and_true, Int.toNat_natCast]
      try dsimp only [Ty.den, Ty.dflt]
      repeat' apply And.intro
      all_goals first | trivial | exact g1_5 | exact g1_12 | assumption
    refine sw_condT rfl ?_
    refine sw_seq ?_
    refine sw_region hP 3 [] rfl (by kernel_rfl) (fun _ => by kernel_rfl) (by first | trivial | (simp [conj]; done) | (simp [conj] at *; (try dsimp only [Ty.den, Ty.dflt] at *); omega)) ?_
    refine sw_ret ⟨.inl rfl, _, rfl, ?_⟩
    simp [conj, Prod.ext_iff, k5]
  · skip
    have k5 : sz = sz2 := by simpa using g1_5
    refine sw_dec hP 2 [(5, false)] 12 rfl (fun g1_12 => ?_) (fun g1_12 => ?_)
    · skip
      have k12 : ¬ sm = sm2 := by simpa using g1_12
      refine sw_region hP 2 [(5, false), (12, true)] rfl (by kernel_rfl) (fun _ => by kernel_rfl) ?_ ?_
      · skip
        simp only [conj, List.nil_append, List.cons_append, List.append_nil, List.append_assoc, inR_i64, true_and, and_true, Int.toNat_natCast]
        try dsimp only [Ty.den, Ty.dflt]
        repeat' apply And.intro
        all_goals first | trivial | exact g1_5 | exact g1_12 | assumption
      refine sw_condT rfl ?_
      refine sw_seq ?_
      refine sw_region hP 3 [] rfl (by kernel_rfl) (fun _ => by kernel_rfl) (by first | trivial | (simp [conj]; done) | (simp [conj] at *; (try dsimp only [Ty.den, Ty.dflt] at *); omega)) ?_
      refine sw_ret ⟨.inl rfl, _, rfl, ?_⟩
      simp [conj, Prod.ext_iff, k12]
    · skip
      have k12 : sm = sm2 := by simpa using g1_12
      refine sw_region hP 2 [(5, false), (12, false)] rfl (by kernel_rfl) (fun _ => by kernel_rfl) ?_ ?_
      · skip
        simp only [conj, List.nil_append, List.cons_append, List.append_nil, List.append_assoc, inR_i64, true_and, and_true, Int.toNat_natCast]
        try dsimp only [Ty.den, Ty.dflt]
        repeat' apply And.intro
        all_goals first | trivial | exact g1_5 | exact g1_12 | assumption
      refine sw_cond rfl (fun c1 => ?_) (fun c1 => ?_)
      · skip
        replace c1 : ¬ pl.length = pl2.length := by simp at c1; omega
        refine sw_seq ?_
        refine sw_region hP 3 [] rfl (by kernel_rfl) (fun _ => by kernel_rfl) (by first | trivial | (simp [conj]; done) | (simp [conj] at *; (try dsimp only [Ty.den, Ty.dflt] at *); omega)) ?_
        refine sw_ret ⟨.inl rfl, _, rfl, ?_⟩
        have hv := eqL_len c1
        replace hv : ¬ pl = pl2 := of_decide_eq_false hv
        simp [conj, Prod.ext_iff, hv]
      · skip
        replace c1 : pl.length = pl2.length := by simp at c1; omega
        refine sw_skip ?_
        refine sw_seq ?_
        refine sw_seq ?_
        refine sw_region hP 3 [] rfl (by kernel_rfl) (fun _ => by kernel_rfl) (by first | trivial | (simp [conj]; done) | (simp [conj] at *; (try dsimp only [Ty.den, Ty.dflt] at *); omega)) ?_
        refine sw_block ?_
        refine sw_loop (ι := Nat) (fun i => ⟨[.junk, .junk, .v false [.ptr ⟨1, 0, 0⟩ 0], .v false [.ptr ⟨1, 1, 0⟩ 0], .junk, sInt .i64 (i : Int), .junk, .junk, .junk, .junk, .junk, .junk, .junk, .junk, .junk, .junk, .junk, .junk, .junk, .junk, .junk, .junk, .junk, .junk, .junk, .junk, .junk, .junk, .junk, .junk, .junk, .junk, .junk, .junk, .junk, .junk, .junk, .junk, .junk, .junk, .junk, .junk, .junk, .junk, .junk], [(⟨1, 0, 0⟩, .var [.d TI pF sz, .d TI pF sm, .d (.sl T_Place) (.all .b) pl]), (⟨1, 1, 0⟩, .var [.d TI pF sz2, .d TI pF sm2, .d (.sl T_Place) (.all .b) pl2])], 3, []⟩) (fun i => pl.length - i) (fun i => i ≤ pl.length ∧ decide (pl.drop i = pl2.drop i) = decide (pl = pl2)) 0 ⟨?_, ?_⟩ ?_
        · skip
          exact ⟨Nat.zero_le _, rfl⟩
        · refine ent_ok rfl ?_
          simp [conj]
        · rintro i ⟨hi, hgo⟩
          refine sw_seq ?_
          refine sw_seq ?_
          refine sw_region hP 4 [] rfl (by kernel_rfl) (fun _ => by kernel_rfl) (by first | trivial | (simp [conj]; done) | (simp [conj] at *; (try dsimp only [Ty.den, Ty.dflt] at *); omega)) ?_
          refine sw_cond rfl (fun c4 => ?_) (fun c4 => ?_)
          · skip
            have hlt : i < pl.length := by simpa using c4
            have hlt2 : i < pl2.length := by omega
            refine sw_skip ?_
            refine sw_seq ?_
            refine sw_block ?_
            refine sw_seq ?_
            refine sw_region hP 5 [] rfl (by kernel_rfl) (fun _ => by kernel_rfl) ?_ ?_
            · skip
              simp [conj, List.getElem?_eq_getElem hlt, List.getElem?_eq_getElem hlt2]
              repeat' apply And.intro
              all_goals first | omega | trivial
            refine sw_cond rfl (fun c6 => ?_) (fun c6 => ?_)
            · skip
              replace c6 : ¬ pl[i] = pl2[i] := by intro e; simp [List.getElem?_eq_getElem hlt, List.getElem?_eq_getElem hlt2, e] at c6
              refine sw_seq ?_
              refine sw_region hP 6 [] rfl (by kernel_rfl) (fun _ => by kernel_rfl) (by first | trivial | (simp [conj]; done) | (simp [conj] at *; (try dsimp only [Ty.den, Ty.dflt] at *); omega)) ?_
              refine sw_ret ⟨.inl rfl, _, rfl, ?_⟩
              have hv := eqL_hit hlt hlt2 hgo c6
              replace hv : ¬ pl = pl2 := of_decide_eq_false hv
              simp [conj, Prod.ext_iff, hv]
            · skip
              replace c6 : pl[i] = pl2[i] := by have h := c6; simp [List.getElem?_eq_getElem hlt, List.getElem?_eq_getElem hlt2] at h; exact Prod.ext h.1 h.2
              refine sw_skip ?_
              refine sw_region hP 6 [] rfl (by kernel_rfl) (fun _ => by kernel_rfl) (by first | trivial | (simp [conj]; done) | (simp [conj] at *; (try dsimp only [Ty.den, Ty.dflt] at *); omega)) ?_
              refine ⟨i + 1, ?_, ?_, ent_ok rfl ?_⟩
              · skip
                exact ⟨hlt, eqL_next hlt hlt2 hgo c6⟩
              · skip
                omega
              · skip
                simp [conj]
          · skip
            obtain rfl : i = pl.length := by simp at c4; omega
            refine sw_exit ?_
            refine sw_seq ?_
            refine sw_region hP 5 [] rfl (by kernel_rfl) (fun _ => by kernel_rfl) (by first | trivial | (simp [conj]; done) | (simp [conj] at *; (try dsimp only [Ty.den, Ty.dflt] at *); omega)) ?_
            refine sw_ret ⟨.inl rfl, _, rfl, ?_⟩
            have hv := eqL_end c1 hgo
            replace hv : pl = pl2 := of_decide_eq_true hv
            simp [conj, k5, k12, hv]

def cAll : Ctr := ⟨74, [.val true T_Root (.all .b)], fun x => SmallV x.1.2, fun x => (.v false [.own ⟨1, 0, 0⟩], [(⟨1, 0, 0⟩, .sl T_Ptr (.all .b) (blksOf x.1.2))])⟩
theorem cAll_ok : CtrOk Proofs.Tryz.prog cAll := by
  have hP := (Prg.none ttok mtok)
  refine ctr_of_body hP cAll (fn := Proofs.Tryz.f74) (rts := [.tmp 2]) Proofs.Tryz.func74 rfl (by kernel_rfl) rfl rfl ?_
  rintro ⟨⟨(tg : Int), (l : List Vol_)⟩, ⟨⟩⟩ _ hpre
  try dsimp only [Ty.den, Mode.den, mdens] at hpre
  refine ⟨rfl, ?_⟩
  replace hpre : SmallV l := hpre
  have hml : l.length ≤ 100 := hpre.1
  refine sw_seq ?_
  refine sw_region hP 1 [] rfl (by kernel_rfl) (fun _ => by kernel_rfl) (by first | trivial | (simp [conj]; done) | (simp [conj] at *; (try dsimp only [Ty.den, Ty.dflt] at *); omega)) ?_
  refine sw_seq ?_
  refine sw_region hP 2 [] rfl (by kernel_rfl) (fun _ => by kernel_rfl) (by first | trivial | (simp [conj]; done) | (simp [conj] at *; (try dsimp only [Ty.den, Ty.dflt] at *); omega)) ?_
  refine sw_seq ?_
  refine sw_seq ?_
  refine sw_region hP 3 [] rfl (by kernel_rfl) (fun _ => by kernel_rfl) (by first | trivial | (simp [conj]; done) | (simp [conj] at *; (try dsimp only [Ty.den, Ty.dflt] at *); omega)) ?_
  refine sw_block ?_
  refine sw_loop (ι := Nat) (fun i => ⟨[.junk, .v false [.ptr ⟨1, 0, 0⟩ 0], .junk, .v false [.own ⟨0, 9, 0⟩], sInt .i64 (i : Int), .junk, .junk, .junk, .junk, .junk, .junk, .junk, .junk, .junk, .junk, .junk, .junk, .junk, .junk, .junk, .junk, .junk], [(⟨1, 0, 0⟩, .var [.d TI pF tg, .d (.sl T_Vol) (.all .b) l]), (⟨0, 9, 0⟩, .sl T_Ptr (.all .b) (blksOf (l.take i)))], 3, []⟩) (fun i => l.length - i) (fun i => i ≤ l.length) 0 ⟨?_, ?_⟩ ?_
  · skip
    exact Nat.zero_le _
  · refine ent_ok rfl ?_
    simp [conj, blksOf]
  · rintro i hi
    refine sw_seq ?_
    refine sw_seq ?_
    refine sw_region hP 4 [] rfl (by kernel_rfl) (fun _ => by kernel_rfl) (by first | trivial | (simp [conj]; done) | (simp [conj] at *; (try dsimp only [Ty.den, Ty.dflt] at *); omega)) ?_
    refine sw_cond rfl (fun c3 => ?_) (fun c3 => ?_)
    · skip
      have hlt : i < l.length := by simpa using c3
      have hb1 := blks_len hpre (i := i)
      have hb2 := hpre.2 _ (List.getElem_mem hlt)
      refine sw_skip ?_
      refine sw_seq ?_
      refine sw_block ?_
      refine sw_region hP 5 [] rfl (by kernel_rfl) (fun _ => by kernel_rfl) ?_ ?_
      · skip
        simp [conj, maxL, List.getElem?_eq_getElem hlt]
        omega
      refine sw_region hP 6 [] rfl (by kernel_rfl) (fun _ => by kernel_rfl) (by first | trivial | (simp [conj]; done) | (simp [conj] at *; (try dsimp only [Ty.den, Ty.dflt] at *); omega)) ?_
      refine ⟨i + 1, ?_, ?_, ent_ok rfl ?_⟩
      · skip
        exact hlt
      · skip
        omega
      · skip
        simp [conj, List.getElem?_eq_getElem hlt]
        exact flat_next hlt
    · skip
      obtain rfl : i = l.length := by simp at c3; omega
      refine sw_exit ?_
      refine sw_seq ?_
      refine sw_region hP 5 [] rfl (by kernel_rfl) (fun _ => by kernel_rfl) (by first | trivial | (simp [conj]; done) | (simp [conj] at *; (try dsimp only [Ty.den, Ty.dflt] at *); omega)) ?_
      refine sw_ret ⟨.inl rfl, _, rfl, ?_⟩
      simp [conj]
end Go.Sx

namespace Go.Sx
open Go
set_option maxRecDepth 100000
set_option linter.unusedVariables false
set_option linter.unusedSimpArgs false
set_option maxHeartbeats 2000000

def cOpen : Ctr := ⟨37, [.val false TB pF], fun _ => True, fun x => (.v false [.ptr ⟨1, 0, 0⟩ 0], [(⟨1, 0, 0⟩, rdA (List.take 2000 x.1, 0))])⟩
theorem cOpen_ok : CtrOk Proofs.Tryz.prog cOpen := by
  have hP := (Prg.none ttok mtok)
  refine ctr_of_body hP cOpen (fn := Proofs.Tryz.f37) (rts := [.tmp 2]) Proofs.Tryz.func37 rfl (by kernel_rfl) rfl rfl ?_
  rintro ⟨(code : List Int), ⟨⟩⟩ hd hpre
  try dsimp only [Ty.den, Mode.den, mdens] at hpre
  refine ⟨rfl, ?_⟩
  refine sw_seq ?_
  refine sw_region hP 1 [] rfl (by kernel_rfl) (fun _ => by kernel_rfl) (by first | trivial | (simp [conj]; done) | (simp [conj] at *; (try dsimp only [Ty.den, Ty.dflt] at *); omega)) ?_
  refine sw_seq ?_
  refine sw_seq ?_
  refine sw_region hP 2 [] rfl (by kernel_rfl) (fun _ => by kernel_rfl) (by first | trivial | (simp [conj]; done) | (simp [conj] at *; (try dsimp only [Ty.den, Ty.dflt] at *); omega)) ?_
  refine sw_cond rfl (fun c1 => ?_) (fun c1 => ?_)
  · skip
    refine sw_region hP 3 [] rfl (by kernel_rfl) (fun _ => by kernel_rfl) (by first | trivial | (simp [conj]; done) | (simp [conj] at *; (try dsimp only [Ty.den, Ty.dflt] at *); omega)) ?_
    refine sw_seq ?_
    refine sw_region hP 4 [] rfl (by kernel_rfl) (fun _ => by kernel_rfl) (by first | trivial | (simp [conj]; done) | (simp [conj] at *; (try dsimp only [Ty.den, Ty.dflt] at *); omega)) ?_
    refine sw_ret ⟨.inl rfl, _, rfl, ?_⟩
    simp [conj] at *
    try (rw [List.take_of_length_le (by omega)])
  · skip
    refine sw_skip ?_
    refine sw_seq ?_
    refine sw_region hP 3 [] rfl (by kernel_rfl) (fun _ => by kernel_rfl) (by first | trivial | (simp [conj]; done) | (simp [conj] at *; (try dsimp only [Ty.den, Ty.dflt] at *); omega)) ?_
    refine sw_ret ⟨.inl rfl, _, rfl, ?_⟩
    simp [conj] at *
    try (rw [List.take_of_length_le (by omega)])

def cPick : Ctr := ⟨66, [.ref T_l6Rd pF, .val false TI pF], fun x => ROk x.1 1, fun x => (sInt .i64 (pk x.1 x.2.1), [(⟨0, 0, 0⟩, rdA (nx x.1))])⟩
theorem cPick_ok : CtrOk Proofs.Tryz.prog cPick := by
  have hP := (Prg.none ttok mtok)
  refine ctr_of_body hP cPick (fn := Proofs.Tryz.f66) (rts := [.tmp 4]) Proofs.Tryz.func66 rfl (by kernel_rfl) rfl rfl ?_
  rintro ⟨⟨(b : List Int), (p : Int)⟩, (n : Int), ⟨⟩⟩ hd hpre
  try dsimp only [Ty.den, Mode.den, mdens] at hpre
  refine ⟨rfl, ?_⟩
  have h0 : 0 ≤ p := hpre.p0
  have h1 : p + 1 ≤ 1099511627776 := hpre.p1
  have hl : b.length ≤ 2000 := hpre.len
  have hb : BOk b := hpre.b
  refine sw_seq ?_
  refine sw_region hP 1 [] rfl (by kernel_rfl) (fun _ => by kernel_rfl) (by first | trivial | (simp [conj]; done) | (simp [conj] at *; (try dsimp only [Ty.den, Ty.dflt] at *); omega)) ?_
  refine sw_seq ?_
  refine sw_region hP 2 [] rfl (by kernel_rfl) (fun _ => by kernel_rfl) (by first | trivial | (simp [conj]; done) | (simp [conj] at *; (try dsimp only [Ty.den, Ty.dflt] at *); omega)) ?_
  refine sw_seq ?_
  refine sw_seq ?_
  refine sw_dec hP 3 [] 2 rfl (fun g2_2 => ?_) (fun g2_2 => ?_)
  · skip
    refine sw_region hP 3 [(2, true)] rfl (by kernel_rfl) (fun _ => by kernel_rfl) (by first | trivial | (simp [conj]; done) | (simp [conj] at *; (try dsimp only [Ty.den, Ty.dflt] at *); omega)) ?_
    refine sw_condT rfl ?_
    refine sw_seq ?_
    refine sw_region hP 4 [] rfl (by kernel_rfl) (fun _ => by kernel_rfl) (by first | trivial | (simp [conj]; done) | (simp [conj] at *; (try dsimp only [Ty.den, Ty.dflt] at *); omega)) ?_
    refine sw_ret ⟨.inl rfl, _, rfl, ?_⟩
    simp [conj, maxL] at *
    try dsimp only [Ty.den, Ty.dflt] at *
    try simp only [rd_eta] at *
    simp [pk, pickV, nx, pickX]
    first | omega | (intros; omega) | (intro _ hh; exact absurd c2 hh) | (rw [if_neg (by omega)]; first | (rw [if_neg c2, if_pos c5]; done) | (rw [if_neg c2, if_neg (by omega)]; done) | (intros; simp_all; done))
  · skip
    refine sw_region hP 3 [(2, false)] rfl (by kernel_rfl) (fun _ => by kernel_rfl) (by first | trivial | (simp [conj]; done) | (simp [conj] at *; (try dsimp only [Ty.den, Ty.dflt] at *); omega)) ?_
    refine sw_cond rfl (fun c2 => ?_) (fun c2 => ?_)
    · skip
      refine sw_seq ?_
      refine sw_region hP 4 [] rfl (by kernel_rfl) (fun _ => by kernel_rfl) (by first | trivial | (simp [conj]; done) | (simp [conj] at *; (try dsimp only [Ty.den, Ty.dflt] at *); omega)) ?_
      refine sw_ret ⟨.inl rfl, _, rfl, ?_⟩
      simp [conj, maxL] at *
      try dsimp only [Ty.den, Ty.dflt] at *
      try simp only [rd_eta] at *
      simp [pk, pickV, nx, pickX]
      first | omega | (intros; omega) | (intro _ hh; exact absurd c2 hh) | (rw [if_neg (by omega)]; first | (rw [if_neg c2, if_pos c5]; done) | (rw [if_neg c2, if_neg (by omega)]; done) | (intros; simp_all; done))
    · skip
      refine sw_skip ?_
      refine sw_seq ?_
      refine sw_region hP 4 [] rfl (by kernel_rfl) (fun _ => by kernel_rfl) (by first | trivial | (simp [conj]; done) | (simp [conj] at *; (try dsimp only [Ty.den, Ty.dflt] at *); omega)) ?_
      refine sw_seq ?_
      refine sw_seq ?_
      refine sw_region hP 5 [] rfl (by kernel_rfl) (fun _ => by kernel_rfl) (by first | trivial | (simp [conj]; done) | (simp [conj] at *; (try dsimp only [Ty.den, Ty.dflt] at *); omega)) ?_
      refine sw_cond rfl (fun c5 => ?_) (fun c5 => ?_)
      · skip
        refine sw_seq ?_
        refine sw_region hP 6 [] rfl (by kernel_rfl) (fun _ => by kernel_rfl) ?_ ?_
        · skip
          simp [conj] at *
          dsimp only [Ty.den, Ty.dflt] at *
          have := getD_b' hb p.toNat
          omega
        refine sw_ret ⟨.inl rfl, _, rfl, ?_⟩
        simp [conj, maxL] at *
        try dsimp only [Ty.den, Ty.dflt] at *
        try simp only [rd_eta] at *
        simp [pk, pickV, nx, pickX]
        first | omega | (intros; omega) | (intro _ hh; exact absurd c2 hh) | (rw [if_neg (by omega)]; first | (rw [if_neg c2, if_pos c5]; done) | (rw [if_neg c2, if_neg (by omega)]; done) | (intros; simp_all; done))
      · skip
        refine sw_skip ?_
        refine sw_seq ?_
        refine sw_region hP 6 [] rfl (by kernel_rfl) (fun _ => by kernel_rfl) ?_ ?_
        · skip
          simp [conj] at *
          dsimp only [Ty.den, Ty.dflt] at *
          have hlp : 0 < b.length := List.length_pos_iff.2 c2
          have a1 := getD_b' hb (Int.tmod p b.length).toNat
          have a2 := getD_b' hb (Int.tmod (p * 7 + 3) b.length).toNat
          have a3 := tmod_ix (a := p) (n := b.length) h0 (by omega)
          have a4 := tmod_ix (a := p * 7 + 3) (n := b.length) (by omega) (by omega)
          have a5 : 0 ≤ Int.tdiv p b.length ∧ Int.tdiv p b.length ≤ p := ⟨Int.tdiv_nonneg h0 (by omega), Int.tdiv_le_self _ h0⟩
          repeat' apply And.intro
          all_goals first | assumption | omega
        refine sw_seq ?_
        refine sw_region hP 7 [] rfl (by kernel_rfl) (fun _ => by kernel_rfl) ?_ ?_
        · skip
          have a5 := pickX_bd hpre (by omega)
          simp only [pickX, List.getD_eq_getElem?_getD] at a5
          have a6 : 0 ≤ (pickX b p).tdiv 64 ∧ (pickX b p).tdiv 64 ≤ pickX b p := ⟨Int.tdiv_nonneg a5.1 (by omega), Int.tdiv_le_self _ a5.1⟩
          simp only [pickX, List.getD_eq_getElem?_getD] at a6
          simp [conj] at *
          dsimp only [Ty.den, Ty.dflt] at *
          omega
        refine sw_seq ?_
        refine sw_region hP 8 [] rfl (by kernel_rfl) (fun _ => by kernel_rfl) (by first | trivial | (simp [conj]; done) | (simp [conj] at *; (try dsimp only [Ty.den, Ty.dflt] at *); omega)) ?_
        refine sw_ret ⟨.inl rfl, _, rfl, ?_⟩
        simp [conj, maxL] at *
        try dsimp only [Ty.den, Ty.dflt] at *
        try simp only [rd_eta] at *
        simp [pk, pickV, nx, pickX]
        first | omega | (intros; omega) | (intro _ hh; exact absurd c2 hh) | (rw [if_neg (by omega)]; first | (rw [if_neg c2, if_pos c5]; done) | (rw [if_neg c2, if_neg (by omega)]; done) | (intros; simp_all; done))

def cOf : Ctr := ⟨94, [.ref T_l6Rd pF, .val false (.sl .str) (.all .b)], fun x => ROk x.1 1 ∧ 0 < List.length x.2.1, fun x => (sStr (List.getD x.2.1 (pk x.1 (List.length x.2.1 : Int)).toNat []), [(⟨0, 0, 0⟩, rdA (nx x.1))])⟩
theorem cOf_ok : CtrOk Proofs.Tryz.prog cOf := by
  have hP := ((Prg.none ttok mtok).and cPick_ok)
  refine ctr_of_body hP cOf (fn := Proofs.Tryz.f94) (rts := [.tmp 4]) Proofs.Tryz.func94 rfl (by kernel_rfl) rfl rfl ?_
  rintro ⟨⟨(b : List Int), (p : Int)⟩, (l : List Str), ⟨⟩⟩ hd ⟨hr, hl⟩
  try dsimp only [Ty.den, Mode.den, mdens] at hr
  try dsimp only [Ty.den, Mode.den, mdens] at hl
  refine ⟨rfl, ?_⟩
  refine sw_seq ?_
  refine sw_region hP 1 [] rfl (by kernel_rfl) (fun _ => by kernel_rfl) (by first | trivial | (simp [conj]; done) | (simp [conj] at *; (try dsimp only [Ty.den, Ty.dflt] at *); omega)) ?_
  refine sw_seq ?_
  refine sw_region hP 2 [] rfl (by kernel_rfl) (fun _ => by kernel_rfl) ?_ ?_
  · skip
    have := pk_bd hr (by omega) (n := List.length l) (by omega)
    simp [conj] at *
    exact ⟨hr, this⟩
  refine sw_ret ⟨.inl rfl, _, rfl, ?_⟩
  first | trivial | (simp [conj]; done) | (simp [conj] at *; (try dsimp only [Ty.den, Ty.dflt] at *); omega)

def cText : Ctr := ⟨113, [.ref T_l6Rd pF, .val false TI pF], fun x => ROk x.1 (2 * x.2.1 + 3) ∧ 0 ≤ x.2.1 ∧ x.2.1 ≤ 1000, fun x => (sStr (textV x.1 x.2.1), [(⟨0, 0, 0⟩, rdA (textR x.1 x.2.1))])⟩
theorem cText_ok : CtrOk Proofs.Tryz.prog cText := by
  have hP := ((Prg.none ttok mtok).and cPick_ok)
  refine ctr_of_body hP cText (fn := Proofs.Tryz.f113) (rts := [.tmp 4]) Proofs.Tryz.func113 rfl (by kernel_rfl) rfl rfl ?_
  rintro ⟨(r : Rd), (most : Int), ⟨⟩⟩ hd ⟨hr, h0, h1⟩
  try dsimp only [Ty.den, Mode.den, mdens] at hr
  try dsimp only [Ty.den, Mode.den, mdens] at h0
  try dsimp only [Ty.den, Mode.den, mdens] at h1
  refine ⟨rfl, ?_⟩
  have hn := pk_bd hr (by omega) (n := most + 1) (by omega)
  refine sw_seq ?_
  refine sw_region hP 1 [] rfl (by kernel_rfl) (fun _ => by kernel_rfl) (by first | trivial | (simp [conj]; done) | (simp [conj] at *; (try dsimp only [Ty.den, Ty.dflt] at *); omega)) ?_
  refine sw_seq ?_
  refine sw_region hP 2 [] rfl (by kernel_rfl) (fun _ => by kernel_rfl) (by first | trivial | (simp [conj]; done) | (simp [conj] at *; (try dsimp only [Ty.den, Ty.dflt] at *); omega)) ?_
  refine sw_seq ?_
  refine sw_seq ?_
  refine sw_region hP 3 [] rfl (by kernel_rfl) (fun _ => by kernel_rfl) ?_ ?_
  · skip
    simp [conj]
    exact ⟨by omega, hr.le (by omega)⟩
  refine sw_block ?_
  refine sw_loop (ι := Nat × Rd × List Int) (fun ⟨k, R, out⟩ => ⟨[.v false [.ptr ⟨0, 0, 0⟩ 0], .junk, .junk, .junk, .junk, .v false [.own ⟨0, 9, 0⟩], sInt .i64 (k : Int), .junk, .junk, .junk, .junk, .junk, .junk, .junk, .junk, .junk, .junk, .junk, .junk, .junk, .junk, .junk, .junk, .junk, .junk, .junk, .junk, .junk, .junk, .junk], [(⟨0, 0, 0⟩, rdA R), (⟨0, 9, 0⟩, .sl (.int .u8) pF out)], 3, [[.v false [.ptr ⟨0, 0, 0⟩ 0], .junk]]⟩) (fun ⟨k, R, out⟩ => k) (fun ⟨k, R, out⟩ => ROk R (2 * k + 1) ∧ textGo k R out = textGo (pk r (most + 1)).toNat (nx r) [] ∧ out.length + k ≤ 1001) ((pk r (most + 1)).toNat, nx r, []) ⟨?_, ?_⟩ ?_
  · skip
    refine ⟨hr.nx (by omega), rfl, ?_⟩
    simp; omega
  · refine ent_ok rfl ?_
    simp [conj, maxL]
    try dsimp only [Ty.den, Ty.dflt]
    try simp only [rd_eta]
    omega
  · rintro ⟨k, R, out⟩ ⟨hR, hgo, hlen⟩
    refine sw_seq ?_
    refine sw_seq ?_
    refine sw_region hP 4 [] rfl (by kernel_rfl) (fun _ => by kernel_rfl) (by first | trivial | (simp [conj]; done) | (simp [conj] at *; (try dsimp only [Ty.den, Ty.dflt] at *); omega)) ?_
    refine sw_cond rfl (fun c3 => ?_) (fun c3 => ?_)
    · skip
      obtain ⟨k, rfl⟩ : ∃ m, k = m + 1 := ⟨k - 1, by simp at c3; omega⟩
      refine sw_skip ?_
      refine sw_seq ?_
      refine sw_block ?_
      refine sw_region hP 5 [] rfl (by kernel_rfl) (fun _ => by kernel_rfl) ?_ ?_
      · skip
        have ha := pk_bd hR (by omega) (n := 6) (by omega)
        have hR1 : ROk (nx R) (2 * k + 2) := hR.nx (by omega)
        have hb := pk_bd hR1 (by omega) (n := 3) (by omega)
        have hb2 : pk (nx R) 3 ≤ 255 := by omega
        simp [conj, maxL]
        try dsimp only [Ty.den, Ty.dflt]
        try simp only [rd_eta]
        repeat' apply And.intro
        all_goals first | assumption | omega | exact hR.le (by omega) | exact hR1.le (by omega) | exact hb.1 | exact hb2 | exact ha.1 | exact ha.2
      refine sw_region hP 6 [] rfl (by kernel_rfl) (fun _ => by kernel_rfl) (by first | trivial | (simp [conj]; done) | (simp [conj] at *; (try dsimp only [Ty.den, Ty.dflt] at *); omega)) ?_
      refine ⟨(k, nx (nx R), out ++ [(([97, 98, 122, 0, 255, 128] : List Int).getD (pk R 6).toNat 0 + pk (nx R) 3) % 256]), ?_, ?_, ent_ok rfl ?_⟩
      · skip
        exact ⟨(hR.nx (m' := 2 * k + 2) (by omega)).nx (by omega), hgo, by simp; omega⟩
      · skip
        exact Nat.lt_succ_self k
      · skip
        simp [conj, maxL]
        try dsimp only [Ty.den, Ty.dflt]
        try simp only [rd_eta]
        try rfl
    · skip
      refine sw_exit ?_
      refine sw_seq ?_
      refine sw_region hP 5 [] rfl (by kernel_rfl) (fun _ => by kernel_rfl) (by first | trivial | (simp [conj]; done) | (simp [conj] at *; (try dsimp only [Ty.den, Ty.dflt] at *); omega)) ?_
      refine sw_ret ⟨.inl rfl, _, rfl, ?_⟩
      obtain rfl : k = 0 := by simp at c3; omega
      simp only [textGo] at hgo
      simp [conj, textV, textR, ← hgo]

def cDisksD : Ctr := ⟨38, [.ref T_l6Rd pF], fun x => ROk x.1 1, fun x => (sInt .i64 (3 + pk x.1 2), [(⟨0, 0, 0⟩, rdA (nx x.1))])⟩
theorem cDisksD_ok : CtrOk Proofs.Tryz.prog cDisksD := by
  have hP := ((Prg.none ttok mtok).and cPick_ok)
  refine ctr_of_body hP cDisksD (fn := Proofs.Tryz.f38) (rts := [.tmp 2]) Proofs.Tryz.func38 rfl (by kernel_rfl) rfl rfl ?_
  rintro ⟨(R : Rd), ⟨⟩⟩ _ hpre
  try dsimp only [Ty.den, Mode.den, mdens] at hpre
  refine ⟨rfl, ?_⟩
  replace hpre : ROk R 1 := hpre
  have hb := pk_bd hpre (by omega) (n := 2) (by omega)
  refine sw_seq ?_
  refine sw_region hP 1 [] rfl (by kernel_rfl) (fun _ => by kernel_rfl) (by first | trivial | (simp [conj]; done) | (simp [conj] at *; (try dsimp only [Ty.den, Ty.dflt] at *); omega)) ?_
  refine sw_seq ?_
  refine sw_region hP 2 [] rfl (by kernel_rfl) (fun _ => by kernel_rfl) ?_ ?_
  · skip
    simp only [conj, List.nil_append, List.cons_append, List.append_nil, List.append_assoc, inR_i64, true_and, and_true, Int.toNat_natCast]
    try dsimp only [Ty.den, Ty.dflt]
    repeat' apply And.intro
    all_goals first | omega | exact hpre | (show _ ≤ 3 + pk R 2; omega) | (show 3 + pk R 2 ≤ _; omega) | trivial
  refine sw_ret ⟨.inl rfl, _, rfl, ?_⟩
  simp [conj]

def cSumOf : Ctr := ⟨133, [.val false .str pF], fun x => True, fun x => (sInt .i64 (weighV (List.take 9 x.1)), [])⟩
theorem cSumOf_ok : CtrOk Proofs.Tryz.prog cSumOf := by
  have hP := (Prg.none ttok mtok)
  refine ctr_of_body hP cSumOf (fn := Proofs.Tryz.f133) (rts := [.tmp 2]) Proofs.Tryz.func133 rfl (by kernel_rfl) rfl rfl ?_
  rintro ⟨(s : Str), ⟨⟩⟩ ⟨hds, _⟩ _
  try dsimp only [Ty.den, Mode.den, mdens] at _
  refine ⟨rfl, ?_⟩
  have hml : s.length ≤ 140737488355328 := hds
  have hc9 : (s.take 9).length ≤ 9 := List.length_take_le _ _
  refine sw_seq ?_
  refine sw_region hP 1 [] rfl (by kernel_rfl) (fun _ => by kernel_rfl) (by first | trivial | (simp [conj]; done) | (simp [conj] at *; (try dsimp only [Ty.den, Ty.dflt] at *); omega)) ?_
  refine sw_seq ?_
  refine sw_region hP 2 [] rfl (by kernel_rfl) (fun _ => by kernel_rfl) (by first | trivial | (simp [conj]; done) | (simp [conj] at *; (try dsimp only [Ty.den, Ty.dflt] at *); omega)) ?_
  refine sw_seq ?_
  refine sw_seq ?_
  refine sw_region hP 3 [] rfl (by kernel_rfl) (fun _ => by kernel_rfl) (by first | trivial | (simp [conj]; done) | (simp [conj] at *; (try dsimp only [Ty.den, Ty.dflt] at *); omega)) ?_
  refine sw_block ?_
  refine sw_loop (ι := Nat × Int) (fun ⟨i, n⟩ => ⟨[sStr s, .junk, .junk, sInt .i64 n, sInt .i64 (i : Int), .junk, .junk, .junk, .junk, .junk, .junk, .junk, .junk, .junk, .junk, .junk, .junk, .junk, .junk, .junk, .junk, .junk, .junk, .junk, .junk, .junk], [], 3, []⟩) (fun ⟨i, n⟩ => 9 - i) (fun ⟨i, n⟩ => i ≤ (s.take 9).length ∧ n + weighGo ((s.take 9).drop i) i = weighV (s.take 9) ∧ 0 ≤ n ∧ n ≤ (i : Int) * 300000000) (0, 0) ⟨?_, ?_⟩ ?_
  · skip
    exact ⟨Nat.zero_le _, by simp [weighV], by decide, by decide⟩
  · refine ent_ok rfl ?_
    simp [conj]
  · rintro ⟨i, n⟩ ⟨hi, hgo, hn0, hn1⟩
    refine sw_seq ?_
    refine sw_seq ?_
    refine sw_dec hP 4 [] 4 rfl (fun g3_4 => ?_) (fun g3_4 => ?_)
    · skip
      have k4 : i < s.length := by simpa using g3_4
      refine sw_region hP 4 [(4, true)] rfl (by kernel_rfl) (fun _ => by kernel_rfl) ?_ ?_
      · skip
        simp only [conj, List.nil_append, List.cons_append, List.append_nil, List.append_assoc, inR_i64, true_and, and_true, Int.toNat_natCast]
        try dsimp only [Ty.den, Ty.dflt]
        repeat' apply And.intro
        all_goals first | exact g3_4 | omega | trivial
      refine sw_cond rfl (fun c3 => ?_) (fun c3 => ?_)
      · skip
        have h9 : i < 9 := by have h := c3; simp at h; omega
        have hlt : i < s.length := k4
        have hlt9 : i < (s.take 9).length := by rw [List.length_take]; omega
        have hg9 : (s.take 9)[i] = s[i] := by simp
        have hone := weigh_one (c := s[i]) (i := i) (by omega)
        have hnx := weigh_next hlt9 hgo
        rw [hg9] at hnx
        refine sw_skip ?_
        refine sw_seq ?_
        refine sw_block ?_
        refine sw_region hP 5 [] rfl (by kernel_rfl) (fun _ => by kernel_rfl) ?_ ?_
        · skip
          simp [conj, List.getElem?_eq_getElem hlt]
          have hu : s[i].toNat < 256 := s[i].toNat_lt
          repeat' apply And.intro
          all_goals omega
        refine sw_region hP 6 [] rfl (by kernel_rfl) (fun _ => by kernel_rfl) (by first | trivial | (simp [conj]; done) | (simp [conj] at *; (try dsimp only [Ty.den, Ty.dflt] at *); omega)) ?_
        refine ⟨(i + 1, n + (s[i].toNat : Int) * (65536 + (i : Int) + 1)), ?_, ?_, ent_ok rfl ?_⟩
        · skip
          exact ⟨hlt9, hnx, by show 0 ≤ n + (s[i].toNat : Int) * (65536 + (i : Int) + 1); omega, by show n + (s[i].toNat : Int) * (65536 + (i : Int) + 1) ≤ ((i + 1 : Nat) : Int) * 300000000; omega⟩
        · skip
          show 9 - (i + 1) < 9 - i
          omega
        · skip
          simp [conj, List.getElem?_eq_getElem hlt]
      · skip
        have h9 : ¬ i < 9 := by have h := c3; simp at h; omega
        obtain rfl : i = (s.take 9).length := by rw [List.length_take] at hi ⊢; omega
        have hv := weigh_end hgo
        refine sw_exit ?_
        refine sw_seq ?_
        refine sw_region hP 5 [] rfl (by kernel_rfl) (fun _ => by kernel_rfl) (by first | trivial | (simp [conj]; done) | (simp [conj] at *; (try dsimp only [Ty.den, Ty.dflt] at *); omega)) ?_
        refine sw_ret ⟨.inl rfl, _, rfl, ?_⟩
        simp [conj, hv]
    · skip
      have k4 : ¬ i < s.length := by simpa using g3_4
      obtain rfl : i = (s.take 9).length := by rw [List.length_take] at hi ⊢; omega
      have hv := weigh_end hgo
      refine sw_region hP 4 [(4, false)] rfl (by kernel_rfl) (fun _ => by kernel_rfl) ?_ ?_
      · skip
        simp only [conj, List.nil_append, List.cons_append, List.append_nil, List.append_assoc, inR_i64, true_and, and_true, Int.toNat_natCast]
        try dsimp only [Ty.den, Ty.dflt]
        repeat' apply And.intro
        all_goals first | exact g3_4 | omega | trivial
      refine sw_condF rfl ?_
      refine sw_exit ?_
      refine sw_seq ?_
      refine sw_region hP 5 [] rfl (by kernel_rfl) (fun _ => by kernel_rfl) (by first | trivial | (simp [conj]; done) | (simp [conj] at *; (try dsimp only [Ty.den, Ty.dflt] at *); omega)) ?_
      refine sw_ret ⟨.inl rfl, _, rfl, ?_⟩
      simp [conj, hv]

def cPlaces : Ctr := ⟨115, [.ref T_l6Rd pF, .val false TI pF, .val false TI pF], fun x => ROk x.1 6 ∧ (3 ≤ x.2.1 ∧ x.2.1 ≤ 4) ∧ 0 ≤ x.2.2.1 ∧ x.2.2.1 ≤ 4, fun x => (.v false [.own ⟨1, 0, 0⟩], [(⟨0, 0, 0⟩, rdA (plcD x.1 x.2.1 x.2.2.1).2), (⟨1, 0, 0⟩, .sl T_Place pF (plcD x.1 x.2.1 x.2.2.1).1)])⟩
theorem cPlaces_ok : CtrOk Proofs.Tryz.prog cPlaces := by
  have hP := ((Prg.none ttok mtok).and cPick_ok)
  refine ctr_of_body hP cPlaces (fn := Proofs.Tryz.f115) (rts := [.tmp 6]) Proofs.Tryz.func115 rfl (by kernel_rfl) rfl rfl ?_
  rintro ⟨(R : Rd), (d : Int), (c : Int), ⟨⟩⟩ _ ⟨hr, hd3, hc0, hc1⟩
  try dsimp only [Ty.den, Mode.den, mdens] at hr
  try dsimp only [Ty.den, Mode.den, mdens] at hd3
  try dsimp only [Ty.den, Mode.den, mdens] at hc0
  try dsimp only [Ty.den, Mode.den, mdens] at hc1
  refine ⟨rfl, ?_⟩
  replace hr : ROk R 6 := hr
  replace hd3 : 3 ≤ d ∧ d ≤ 4 := hd3
  have hb := pk_bd hr (by omega) (n := d) (by omega)
  refine sw_seq ?_
  refine sw_region hP 1 [] rfl (by kernel_rfl) (fun _ => by kernel_rfl) (by first | trivial | (simp [conj]; done) | (simp [conj] at *; (try dsimp only [Ty.den, Ty.dflt] at *); omega)) ?_
  refine sw_seq ?_
  refine sw_region hP 2 [] rfl (by kernel_rfl) (fun _ => by kernel_rfl) (by first | trivial | (simp [conj]; done) | (simp [conj] at *; (try dsimp only [Ty.den, Ty.dflt] at *); omega)) ?_
  refine sw_seq ?_
  refine sw_region hP 3 [] rfl (by kernel_rfl) (fun _ => by kernel_rfl) ?_ ?_
  · skip
    simp only [conj, List.nil_append, List.cons_append, List.append_nil, List.append_assoc, inR_i64, true_and, and_true, Int.toNat_natCast]
    try dsimp only [Ty.den, Ty.dflt]
    repeat' apply And.intro
    all_goals first | omega | exact hr.le (by omega) | trivial
  refine sw_seq ?_
  refine sw_seq ?_
  refine sw_region hP 4 [] rfl (by kernel_rfl) (fun _ => by kernel_rfl) (by first | trivial | (simp [conj]; done) | (simp [conj] at *; (try dsimp only [Ty.den, Ty.dflt] at *); omega)) ?_
  refine sw_block ?_
  refine sw_loop (ι := Nat × Rd × List Plc) (fun ⟨i, Q, out⟩ => ⟨[.v false [.ptr ⟨0, 0, 0⟩ 0], sInt .i64 d, sInt .i64 c, .junk, .junk, .junk, .junk, .v false [.own ⟨0, 9, 0⟩], sInt .i64 (pk R d), sInt .i64 (i : Int), .junk, .junk, .junk, .junk, .junk, .junk, .junk, .junk, .junk, .junk, .junk, .junk, .junk, .junk, .junk, .junk, .junk, .junk, .junk, .junk, .junk], [(⟨0, 0, 0⟩, rdA Q), (⟨0, 9, 0⟩, .sl T_Place pF out)], 4, [[.v false [.ptr ⟨0, 0, 0⟩ 0], .junk, .junk]]⟩) (fun ⟨i, Q, out⟩ => c.toNat - i) (fun ⟨i, Q, out⟩ => i ≤ c.toNat ∧ ROk Q (5 - (i : Int)) ∧ plcGo d (pk R d) (c.toNat - i) i Q out = (plcD R d c) ∧ out.length ≤ i) (0, nx R, []) ⟨?_, ?_⟩ ?_
  · skip
    exact ⟨Nat.zero_le _, hr.nx (by omega), rfl, Nat.le_refl _⟩
  · refine ent_ok rfl ?_
    simp [conj]
  · rintro ⟨i, Q, out⟩ ⟨hi, hQ, hgo, hol⟩
    refine sw_seq ?_
    refine sw_seq ?_
    refine sw_region hP 5 [] rfl (by kernel_rfl) (fun _ => by kernel_rfl) (by first | trivial | (simp [conj]; done) | (simp [conj] at *; (try dsimp only [Ty.den, Ty.dflt] at *); omega)) ?_
    refine sw_cond rfl (fun c4 => ?_) (fun c4 => ?_)
    · skip
      have hlt : i < c.toNat := by have h : ((i : Nat) : Int) < c := of_decide_eq_true c4; omega
      obtain ⟨n, hn⟩ : ∃ n, c.toNat - i = n + 1 := ⟨c.toNat - i - 1, by omega⟩
      have hb2 := pk_bd hQ (by omega) (n := 12) (by omega)
      rw [hn] at hgo
      have ht := tmod_ix (a := pk R d + (i : Int)) (n := d) (by omega) (by omega)
      have hn2 : c.toNat - (i + 1) = n := by omega
      refine sw_skip ?_
      refine sw_seq ?_
      refine sw_block ?_
      refine sw_region hP 6 [] rfl (by kernel_rfl) (fun _ => by kernel_rfl) ?_ ?_
      · skip
        simp only [conj, List.nil_append, List.cons_append, List.append_nil, List.append_assoc, inR_i64, true_and, and_true, Int.toNat_natCast]
        try dsimp only [Ty.den, Ty.dflt]
        simp only [maxL]
        repeat' apply And.intro
        all_goals first | omega | exact hQ.le (by omega) | trivial | (show (out.length + 1) * 16 ≤ 140737488355328; omega)
      refine sw_region hP 7 [] rfl (by kernel_rfl) (fun _ => by kernel_rfl) (by first | trivial | (simp [conj]; done) | (simp [conj] at *; (try dsimp only [Ty.den, Ty.dflt] at *); omega)) ?_
      refine ⟨(i + 1, nx Q, out ++ [((pk R d + (i : Int)).tmod d, pk Q 12)]), ?_, ?_, ent_ok rfl ?_⟩
      · skip
        exact ⟨hlt, hQ.nx (by push_cast; omega), by show plcGo d (pk R d) (c.toNat - (i + 1)) _ _ _ = _; rw [hn2]; exact hgo, by simp; omega⟩
      · skip
        show c.toNat - (i + 1) < c.toNat - i
        omega
      · skip
        simp [conj]
    · skip
      obtain rfl : i = c.toNat := by have h : ¬ ((i : Nat) : Int) < c := of_decide_eq_false c4; omega
      rw [Nat.sub_self] at hgo
      have hv1 : out = (plcD R d c).1 := by rw [← hgo]; rfl
      have hv2 : Q = (plcD R d c).2 := by rw [← hgo]; rfl
      refine sw_exit ?_
      refine sw_seq ?_
      refine sw_region hP 6 [] rfl (by kernel_rfl) (fun _ => by kernel_rfl) (by first | trivial | (simp [conj]; done) | (simp [conj] at *; (try dsimp only [Ty.den, Ty.dflt] at *); omega)) ?_
      refine sw_ret ⟨.inl rfl, _, rfl, ?_⟩
      rw [← hv1, ← hv2]
      simp [conj]

def cL11 : Ctr := ⟨114, [.val false .str pF, .val false (.sl T_Place) (.all .b)], fun x => List.length x.2.1 ≤ 1000000, fun x => (.v true [.d TI pF (List.length x.1 : Int), .d TI pF (weighV (List.take 9 x.1)), .own ⟨1, 0, 0⟩], [(⟨1, 0, 0⟩, .sl T_Place pF x.2.1)])⟩
theorem cL11_ok : CtrOk Proofs.Tryz.prog cL11 := by
  have hP := ((Prg.none ttok mtok).and cSumOf_ok)
  refine ctr_of_body hP cL11 (fn := Proofs.Tryz.f114) (rts := [.cell 4 57]) Proofs.Tryz.func114 rfl (by kernel_rfl) rfl rfl ?_
  rintro ⟨(s : Str), (l : List Plc), ⟨⟩⟩ _ hpre
  try dsimp only [Ty.den, Mode.den, mdens] at hpre
  refine ⟨rfl, ?_⟩
  replace hpre : l.length ≤ 1000000 := hpre
  refine sw_seq ?_
  refine sw_region hP 1 [] rfl (by kernel_rfl) (fun _ => by kernel_rfl) (by first | trivial | (simp [conj]; done) | (simp [conj] at *; (try dsimp only [Ty.den, Ty.dflt] at *); omega)) ?_
  refine sw_seq ?_
  refine sw_region hP 2 [] rfl (by kernel_rfl) (fun _ => by kernel_rfl) ?_ ?_
  · skip
    simp [conj, maxL]
    repeat' apply And.intro
    all_goals first | omega | trivial
  refine sw_ret ⟨.inl rfl, _, rfl, ?_⟩
  simp [conj]
end Go.Sx

namespace Go.Sx
open Go
set_option maxRecDepth 100000
set_option linter.unusedVariables false
set_option linter.unusedSimpArgs false
set_option maxHeartbeats 2000000

def cPtrO : Ctr := ⟨96, [.ref T_l6Rd pF, .val false TI pF], fun x => ROk x.1 30 ∧ 3 ≤ x.2.1 ∧ x.2.1 ≤ 4, fun x => (.v true [.d TI pF (ptrD x.1 x.2.1).1.1, .d TI pF (ptrD x.1 x.2.1).1.2.1, .own ⟨1, 0, 0⟩], [(⟨0, 0, 0⟩, rdA (ptrD x.1 x.2.1).2), (⟨1, 0, 0⟩, .sl T_Place pF (ptrD x.1 x.2.1).1.2.2)])⟩
theorem cPtrO_ok : CtrOk Proofs.Tryz.prog cPtrO := by
  have hP := (((((Prg.none ttok mtok).and cText_ok).and cColsS_ok).and cPlaces_ok).and cL11_ok)
  refine ctr_of_body hP cPtrO (fn := Proofs.Tryz.f96) (rts := [.cell 4 57]) Proofs.Tryz.func96 rfl (by kernel_rfl) rfl rfl ?_
  rintro ⟨(R : Rd), (d : Int), ⟨⟩⟩ _ ⟨hr, hd3⟩
  try dsimp only [Ty.den, Mode.den, mdens] at hr
  try dsimp only [Ty.den, Mode.den, mdens] at hd3
  refine ⟨rfl, ?_⟩
  replace hr : ROk R 30 := hr
  replace hd3 : 3 ≤ d ∧ d ≤ 4 := hd3
  have hmm := sMin_bd d hd3
  have hl := ptrT_len hr hd3
  have hcl := colsV_le (n := ((ptrT R d).length : Int)) (by omega) (by omega)
  have htl : (textV R (3 * sMin 3 (d - 1) - 1)).length ≤ 8 := by have h := textV_len hr (by decide) (most := (3 * sMin 3 (d - 1) - 1)) (by omega); omega
  have hT : ROk (textR R (3 * sMin 3 (d - 1) - 1)) 6 := textR_ok hr (by decide) (by omega) (by omega)
  have hpl := ptrD_len hr hd3
  refine sw_seq ?_
  refine sw_region hP 1 [] rfl (by kernel_rfl) (fun _ => by kernel_rfl) (by first | trivial | (simp [conj]; done) | (simp [conj] at *; (try dsimp only [Ty.den, Ty.dflt] at *); omega)) ?_
  refine sw_seq ?_
  refine sw_region hP 2 [] rfl (by kernel_rfl) (fun _ => by kernel_rfl) ?_ ?_
  · skip
    simp only [conj, List.nil_append, List.cons_append, List.append_nil, List.append_assoc, inR_i64, true_and, and_true, Int.toNat_natCast]
    try dsimp only [Ty.den, Ty.dflt]
    simp only [maxL, bytesL]
    repeat' apply And.intro
    all_goals first | omega | (show ROk R (2 * (3 * sMin 3 (d - 1) - 1) + 3); exact hr.le (by omega)) | (show _ ≤ (3 * sMin 3 (d - 1) - 1); omega) | (show (3 * sMin 3 (d - 1) - 1) ≤ _; omega) | (show _ ≤ 3 * sMin 3 (d - 1); omega) | (show 3 * sMin 3 (d - 1) ≤ _; omega) | (show (textV R (3 * sMin 3 (d - 1) - 1)).length + 1 ≤ 140737488355328; omega) | trivial
  refine sw_seq ?_
  refine sw_region hP 3 [] rfl (by kernel_rfl) (fun _ => by kernel_rfl) ?_ ?_
  · skip
    simp only [conj, List.nil_append, List.cons_append, List.append_nil, List.append_assoc, inR_i64, true_and, and_true, Int.toNat_natCast]
    try dsimp only [Ty.den, Ty.dflt]
    repeat' apply And.intro
    all_goals first | omega | exact hT | exact hd3.1 | exact hd3.2 | (show 0 ≤ ((ptrT R d).length : Int); omega) | (show ((ptrT R d).length : Int) ≤ 1000000; omega) | (show _ ≤ colsV ((ptrT R d).length : Int) + 1; omega) | (show colsV ((ptrT R d).length : Int) + 1 ≤ _; omega) | (show List.length (ptrD R d).1.2.2 ≤ 1000000; omega) | trivial
  refine sw_ret ⟨.inl rfl, _, rfl, ?_⟩
  simp [conj, ptrD, ptrT, bytesL]

def cPtrP : Ctr := ⟨96, [.ref T_l6Rd pF, .val false TI pF], fun x => ROk x.1 30 ∧ 3 ≤ x.2.1 ∧ x.2.1 ≤ 4, fun x => (.v true [.d TI pF (ptrD x.1 x.2.1).1.1, .d TI pF (ptrD x.1 x.2.1).1.2.1, .d (.sl T_Place) pF (ptrD x.1 x.2.1).1.2.2], [(⟨0, 0, 0⟩, rdA (ptrD x.1 x.2.1).2)])⟩
theorem cPtrP_ok : CtrOk Proofs.Tryz.prog cPtrP := by
  have hP := (((((Prg.none ttok mtok).and cText_ok).and cColsS_ok).and cPlaces_ok).and cL11_ok)
  refine ctr_of_body hP cPtrP (fn := Proofs.Tryz.f96) (rts := [.cell 4 57]) Proofs.Tryz.func96 rfl (by kernel_rfl) rfl rfl ?_
  rintro ⟨(R : Rd), (d : Int), ⟨⟩⟩ _ ⟨hr, hd3⟩
  try dsimp only [Ty.den, Mode.den, mdens] at hr
  try dsimp only [Ty.den, Mode.den, mdens] at hd3
  refine ⟨rfl, ?_⟩
  replace hr : ROk R 30 := hr
  replace hd3 : 3 ≤ d ∧ d ≤ 4 := hd3
  have hmm := sMin_bd d hd3
  have hl := ptrT_len hr hd3
  have hcl := colsV_le (n := ((ptrT R d).length : Int)) (by omega) (by omega)
  have htl : (textV R (3 * sMin 3 (d - 1) - 1)).length ≤ 8 := by have h := textV_len hr (by decide) (most := (3 * sMin 3 (d - 1) - 1)) (by omega); omega
  have hT : ROk (textR R (3 * sMin 3 (d - 1) - 1)) 6 := textR_ok hr (by decide) (by omega) (by omega)
  have hpl := ptrD_len hr hd3
  refine sw_seq ?_
  refine sw_region hP 1 [] rfl (by kernel_rfl) (fun _ => by kernel_rfl) (by first | trivial | (simp [conj]; done) | (simp [conj] at *; (try dsimp only [Ty.den, Ty.dflt] at *); omega)) ?_
  refine sw_seq ?_
  refine sw_region hP 2 [] rfl (by kernel_rfl) (fun _ => by kernel_rfl) ?_ ?_
  · skip
    simp only [conj, List.nil_append, List.cons_append, List.append_nil, List.append_assoc, inR_i64, true_and, and_true, Int.toNat_natCast]
    try dsimp only [Ty.den, Ty.dflt]
    simp only [maxL, bytesL]
    repeat' apply And.intro
    all_goals first | omega | (show ROk R (2 * (3 * sMin 3 (d - 1) - 1) + 3); exact hr.le (by omega)) | (show _ ≤ (3 * sMin 3 (d - 1) - 1); omega) | (show (3 * sMin 3 (d - 1) - 1) ≤ _; omega) | (show _ ≤ 3 * sMin 3 (d - 1); omega) | (show 3 * sMin 3 (d - 1) ≤ _; omega) | (show (textV R (3 * sMin 3 (d - 1) - 1)).length + 1 ≤ 140737488355328; omega) | trivial
  refine sw_seq ?_
  refine sw_region hP 3 [] rfl (by kernel_rfl) (fun _ => by kernel_rfl) ?_ ?_
  · skip
    simp only [conj, List.nil_append, List.cons_append, List.append_nil, List.append_assoc, inR_i64, true_and, and_true, Int.toNat_natCast]
    try dsimp only [Ty.den, Ty.dflt]
    repeat' apply And.intro
    all_goals first | omega | exact hT | exact hd3.1 | exact hd3.2 | (show 0 ≤ ((ptrT R d).length : Int); omega) | (show ((ptrT R d).length : Int) ≤ 1000000; omega) | (show _ ≤ colsV ((ptrT R d).length : Int) + 1; omega) | (show colsV ((ptrT R d).length : Int) + 1 ≤ _; omega) | (show List.length (ptrD R d).1.2.2 ≤ 1000000; omega) | trivial
  refine sw_frz ⟨3, 8, 0⟩ rfl ?_
  refine sw_ret ⟨.inl rfl, _, rfl, ?_⟩
  simp [conj, ptrD, ptrT, bytesL]

def cSome : Ctr := ⟨68, [.ref T_l6Rd pF, .val false TI pF], fun x => ROk x.1 40 ∧ 3 ≤ x.2.1 ∧ x.2.1 ≤ 4, fun x => (.v true [.d TI pF (someD x.1 x.2.1).1.1, .d TI pF (someD x.1 x.2.1).1.2.1, .d (.sl T_Place) pF (someD x.1 x.2.1).1.2.2], [(⟨0, 0, 0⟩, rdA (someD x.1 x.2.1).2)])⟩
theorem cSome_ok : CtrOk Proofs.Tryz.prog cSome := by
  have hP := (((Prg.none ttok mtok).and cPick_ok).and cPtrO_ok)
  refine ctr_of_body hP cSome (fn := Proofs.Tryz.f68) (rts := [.cell 4 57]) Proofs.Tryz.func68 rfl (by kernel_rfl) rfl rfl ?_
  rintro ⟨(R : Rd), (d : Int), ⟨⟩⟩ _ ⟨hr, hd3⟩
  try dsimp only [Ty.den, Mode.den, mdens] at hr
  try dsimp only [Ty.den, Mode.den, mdens] at hd3
  refine ⟨rfl, ?_⟩
  replace hr : ROk R 40 := hr
  replace hd3 : 3 ≤ d ∧ d ≤ 4 := hd3
  refine sw_seq ?_
  refine sw_region hP 1 [] rfl (by kernel_rfl) (fun _ => by kernel_rfl) (by first | trivial | (simp [conj]; done) | (simp [conj] at *; (try dsimp only [Ty.den, Ty.dflt] at *); omega)) ?_
  refine sw_seq ?_
  refine sw_seq ?_
  refine sw_region hP 2 [] rfl (by kernel_rfl) (fun _ => by kernel_rfl) ?_ ?_
  · skip
    simp only [conj, List.nil_append, List.cons_append, List.append_nil, List.append_assoc, inR_i64, true_and, and_true, Int.toNat_natCast]
    try dsimp only [Ty.den, Ty.dflt]
    repeat' apply And.intro
    all_goals first | omega | assumption | exact hr.le (by omega) | exact hr.le (by omega) | (show ROk R _; exact hr.le (by omega)) | (simp [conj]; omega) | trivial
  refine sw_cond rfl (fun c1 => ?_) (fun c1 => ?_)
  · skip
    replace c1 : pk R 5 = 0 := by simpa using c1
    refine sw_seq ?_
    refine sw_region hP 3 [] rfl (by kernel_rfl) (fun _ => by kernel_rfl) (by first | trivial | (simp [conj]; done) | (simp [conj] at *; (try dsimp only [Ty.den, Ty.dflt] at *); omega)) ?_
    refine sw_ret ⟨.inl rfl, _, rfl, ?_⟩
    simp [conj, someD, zP, *]
  · skip
    replace c1 : ¬ pk R 5 = 0 := by simpa using c1
    refine sw_skip ?_
    refine sw_seq ?_
    refine sw_region hP 3 [] rfl (by kernel_rfl) (fun _ => by kernel_rfl) ?_ ?_
    · skip
      simp only [conj, List.nil_append, List.cons_append, List.append_nil, List.append_assoc, inR_i64, true_and, and_true, Int.toNat_natCast]
      try dsimp only [Ty.den, Ty.dflt]
      repeat' apply And.intro
      all_goals first | omega | assumption | exact hd3.1 | exact hr.le (by omega) | (show ROk R _; exact hr.le (by omega)) | (simp [conj]; omega) | trivial | exact hr.nx (by omega) | exact hd3.2
    refine sw_seq ?_
    refine sw_seq ?_
    obtain ⟨q, hq⟩ : ∃ q, ptrD (nx R) d = q := ⟨_, rfl⟩
    have hqo : ROk q.2 9 := hq ▸ ptrD_ok (m := 9) (by omega) (hr.nx (by omega)) hd3
    have hql : 2 ≤ q.1.2.2.length ∧ q.1.2.2.length ≤ 4 := hq ▸ ptrD_len (hr.nx (by omega)) hd3
    have hq3 : ROk (nx q.2) 8 := hqo.nx (by omega)
    have b14 := pk_bd hq3 (by omega) (n := 14) (by omega)
    have b3 := pk_bd hq3 (by omega) (n := 3) (by omega)
    have b2 := pk_bd hq3 (by omega) (n := 2) (by omega)
    refine sw_ent (st' := ⟨[.v false [.ptr ⟨0, 0, 0⟩ 0], sInt .i64 d, .junk, .junk, .v false [.ptr ⟨1, 0, 0⟩ 0], .v false [.ptr ⟨3, 3, 0⟩ 0], .junk, .junk, .junk, .junk, .junk, .junk, .junk, .junk, .junk, .junk, .junk, .junk, .junk, .junk, .junk, .junk, .junk, .junk, .junk, .junk, .junk, .junk, .junk, .junk, .junk, .junk, .junk, .junk, .junk, .junk, .junk, .junk, .junk, .junk, .junk, .junk, .junk, .junk, .junk, .junk, .junk, .junk, .junk, .junk, .junk, .junk, .junk, .junk, .junk, .junk], [(⟨0, 0, 0⟩, rdA q.2), (⟨1, 0, 0⟩, .var [.d TI pF 0, .d TI pF 0, .d (.sl T_Place) pF []]), (⟨3, 2, 0⟩, .sl T_Place pF q.1.2.2), (⟨3, 3, 0⟩, .var [.d TI pF q.1.1, .d TI pF q.1.2.1, .own ⟨3, 2, 0⟩])], 3, [[.v false [.ptr ⟨0, 0, 0⟩ 0], .junk]]⟩) (ent_ok rfl ?_) ?_
    · skip
      simp [conj, hq]
    refine sw_region hP 4 [] rfl (by kernel_rfl) (fun _ => by kernel_rfl) ?_ ?_
    · skip
      simp only [conj, List.nil_append, List.cons_append, List.append_nil, List.append_assoc, inR_i64, true_and, and_true, Int.toNat_natCast]
      try dsimp only [Ty.den, Ty.dflt]
      repeat' apply And.intro
      all_goals first | omega | assumption | exact hqo.le (by omega) | exact hr.le (by omega) | (show ROk R _; exact hr.le (by omega)) | (simp [conj]; omega) | trivial
    refine sw_block ?_
    refine sw_seq ?_
    refine sw_region hP 5 [] rfl (by kernel_rfl) (fun _ => by kernel_rfl) (by first | trivial | (simp [conj]; done) | (simp [conj] at *; (try dsimp only [Ty.den, Ty.dflt] at *); omega)) ?_
    refine sw_cond rfl (fun c5 => ?_) (fun c5 => ?_)
    · skip
      replace c5 : pk q.2 20 = 0 := by simpa using c5
      refine sw_region hP 6 [] rfl (by kernel_rfl) (fun _ => by kernel_rfl) ?_ ?_
      · skip
        simp only [conj, List.nil_append, List.cons_append, List.append_nil, List.append_assoc, inR_i64, true_and, and_true, Int.toNat_natCast]
        try dsimp only [Ty.den, Ty.dflt]
        repeat' apply And.intro
        all_goals first | omega | assumption | exact hq3.le (by omega) | exact hr.le (by omega) | (show ROk R _; exact hr.le (by omega)) | (simp [conj]; omega) | trivial | (show _ ≤ pk (nx q.2) 14 - 1; omega) | (show pk (nx q.2) 14 - 1 ≤ _; omega)
      refine sw_seq ?_
      refine sw_region hP 7 [] rfl (by kernel_rfl) (fun _ => by kernel_rfl) (by first | trivial | (simp [conj]; done) | (simp [conj] at *; (try dsimp only [Ty.den, Ty.dflt] at *); omega)) ?_
      refine sw_frz ⟨3, 2, 0⟩ rfl ?_
      refine sw_ret ⟨.inl rfl, _, rfl, ?_⟩
      simp [conj, someD, zP, hq, aS, aT, *]
      try rfl
    · skip
      replace c5 : ¬ pk q.2 20 = 0 := by simpa using c5
      refine sw_seq ?_
      refine sw_region hP 6 [] rfl (by kernel_rfl) (fun _ => by kernel_rfl) (by first | trivial | (simp [conj]; done) | (simp [conj] at *; (try dsimp only [Ty.den, Ty.dflt] at *); omega)) ?_
      refine sw_cond rfl (fun c7 => ?_) (fun c7 => ?_)
      · skip
        replace c7 : pk q.2 20 = 1 := by simpa using c7
        refine sw_region hP 7 [] rfl (by kernel_rfl) (fun _ => by kernel_rfl) ?_ ?_
        · skip
          simp only [conj, List.nil_append, List.cons_append, List.append_nil, List.append_assoc, inR_i64, true_and, and_true, Int.toNat_natCast]
          try dsimp only [Ty.den, Ty.dflt]
          repeat' apply And.intro
          all_goals first | omega | assumption | exact hq3.le (by omega) | exact hr.le (by omega) | (show ROk R _; exact hr.le (by omega)) | (simp [conj]; omega) | trivial | (show 0 ≤ pk (nx q.2) 3; omega) | (show pk (nx q.2) 3 < 3; omega) | (show (pk (nx q.2) 3).toNat < 3; omega)
        refine sw_seq ?_
        refine sw_region hP 8 [] rfl (by kernel_rfl) (fun _ => by kernel_rfl) (by first | trivial | (simp [conj]; done) | (simp [conj] at *; (try dsimp only [Ty.den, Ty.dflt] at *); omega)) ?_
        refine sw_frz ⟨3, 2, 0⟩ rfl ?_
        refine sw_ret ⟨.inl rfl, _, rfl, ?_⟩
        simp [conj, someD, zP, hq, aS, aT, *]
        try rfl
      · skip
        replace c7 : ¬ pk q.2 20 = 1 := by simpa using c7
        refine sw_seq ?_
        refine sw_region hP 7 [] rfl (by kernel_rfl) (fun _ => by kernel_rfl) (by first | trivial | (simp [conj]; done) | (simp [conj] at *; (try dsimp only [Ty.den, Ty.dflt] at *); omega)) ?_
        refine sw_cond rfl (fun c9 => ?_) (fun c9 => ?_)
        · skip
          replace c9 : pk q.2 20 = 2 := by simpa using c9
          refine sw_region hP 8 [] rfl (by kernel_rfl) (fun _ => by kernel_rfl) ?_ ?_
          · skip
            simp only [conj, List.nil_append, List.cons_append, List.append_nil, List.append_assoc, inR_i64, true_and, and_true, Int.toNat_natCast]
            try dsimp only [Ty.den, Ty.dflt]
            repeat' apply And.intro
            all_goals first | omega | assumption | exact hq3.le (by omega) | exact hr.le (by omega) | (show ROk R _; exact hr.le (by omega)) | (simp [conj]; omega) | trivial | (show 0 ≤ pk (nx q.2) 2; omega) | (show pk (nx q.2) 2 < 2; omega) | (show (pk (nx q.2) 2).toNat < 2; omega)
          refine sw_seq ?_
          refine sw_region hP 9 [] rfl (by kernel_rfl) (fun _ => by kernel_rfl) (by first | trivial | (simp [conj]; done) | (simp [conj] at *; (try dsimp only [Ty.den, Ty.dflt] at *); omega)) ?_
          refine sw_frz ⟨3, 2, 0⟩ rfl ?_
          refine sw_ret ⟨.inl rfl, _, rfl, ?_⟩
          simp [conj, someD, zP, hq, aS, aT, *]
          try rfl
        · skip
          replace c9 : ¬ pk q.2 20 = 2 := by simpa using c9
          refine sw_seq ?_
          refine sw_region hP 8 [] rfl (by kernel_rfl) (fun _ => by kernel_rfl) (by first | trivial | (simp [conj]; done) | (simp [conj] at *; (try dsimp only [Ty.den, Ty.dflt] at *); omega)) ?_
          refine sw_cond rfl (fun c11 => ?_) (fun c11 => ?_)
          · skip
            replace c11 : pk q.2 20 = 3 := by simpa using c11
            refine sw_region hP 9 [] rfl (by kernel_rfl) (fun _ => by kernel_rfl) ?_ ?_
            · skip
              simp only [conj, List.nil_append, List.cons_append, List.append_nil, List.append_assoc, inR_i64, true_and, and_true, Int.toNat_natCast]
              try dsimp only [Ty.den, Ty.dflt]
              repeat' apply And.intro
              all_goals first | omega | assumption | exact hq3.le (by omega) | exact hr.le (by omega) | (show ROk R _; exact hr.le (by omega)) | (simp [conj]; omega) | trivial
            refine sw_seq ?_
            refine sw_region hP 10 [] rfl (by kernel_rfl) (fun _ => by kernel_rfl) (by first | trivial | (simp [conj]; done) | (simp [conj] at *; (try dsimp only [Ty.den, Ty.dflt] at *); omega)) ?_
            refine sw_frz ⟨3, 2, 0⟩ rfl ?_
            refine sw_ret ⟨.inl rfl, _, rfl, ?_⟩
            simp [conj, someD, zP, hq, aS, aT, *]
            try rfl
          · skip
            replace c11 : ¬ pk q.2 20 = 3 := by simpa using c11
            refine sw_seq ?_
            refine sw_region hP 9 [] rfl (by kernel_rfl) (fun _ => by kernel_rfl) (by first | trivial | (simp [conj]; done) | (simp [conj] at *; (try dsimp only [Ty.den, Ty.dflt] at *); omega)) ?_
            refine sw_cond rfl (fun c13 => ?_) (fun c13 => ?_)
            · skip
              replace c13 : pk q.2 20 = 4 := by simpa using c13
              refine sw_frz ⟨3, 2, 0⟩ rfl ?_
              refine sw_region hP 10 [] rfl (by kernel_rfl) (fun _ => by kernel_rfl) ?_ ?_
              · skip
                simp only [conj, List.nil_append, List.cons_append, List.append_nil, List.append_assoc, inR_i64, true_and, and_true, Int.toNat_natCast]
                try dsimp only [Ty.den, Ty.dflt]
                repeat' apply And.intro
                all_goals first | omega | assumption | exact hq3.le (by omega) | exact hr.le (by omega) | (show ROk R _; exact hr.le (by omega)) | (simp [conj]; omega) | trivial
              refine sw_seq ?_
              refine sw_region hP 11 [] rfl (by kernel_rfl) (fun _ => by kernel_rfl) (by first | trivial | (simp [conj]; done) | (simp [conj] at *; (try dsimp only [Ty.den, Ty.dflt] at *); omega)) ?_
              refine sw_ret ⟨.inl rfl, _, rfl, ?_⟩
              simp [conj, someD, zP, hq, aS, aT, *]
              try rfl
            · skip
              replace c13 : ¬ pk q.2 20 = 4 := by simpa using c13
              refine sw_skip ?_
              refine sw_seq ?_
              refine sw_region hP 10 [] rfl (by kernel_rfl) (fun _ => by kernel_rfl) (by first | trivial | (simp [conj]; done) | (simp [conj] at *; (try dsimp only [Ty.den, Ty.dflt] at *); omega)) ?_
              refine sw_frz ⟨3, 2, 0⟩ rfl ?_
              refine sw_ret ⟨.inl rfl, _, rfl, ?_⟩
              simp [conj, someD, zP, hq, aS, aT, *]
              try rfl
end Go.Sx

namespace Go.Sx
open Go
set_option maxRecDepth 100000
set_option linter.unusedVariables false
set_option linter.unusedSimpArgs false
set_option maxHeartbeats 2000000

def cFind : Ctr := ⟨95, [.val true T_Root (.all .b), .val false .str pF], fun x => True, fun x => (sInt .i64 (idxF (fun v : Vol_ => decide (v.1 = x.2.1)) x.1.2), [])⟩
theorem cFind_ok : CtrOk Proofs.Tryz.prog cFind := by
  have hP := (Prg.none ttok mtok)
  refine ctr_of_body hP cFind (fn := Proofs.Tryz.f95) (rts := [.tmp 4]) Proofs.Tryz.func95 rfl (by kernel_rfl) rfl rfl ?_
  rintro ⟨⟨(tg : Int), (l : List Vol_)⟩, (s : Str), ⟨⟩⟩ ⟨⟨_, hdl⟩, _⟩ _
  try dsimp only [Ty.den, Mode.den, mdens] at _
  refine ⟨rfl, ?_⟩
  have hml : l.length ≤ 140737488355328 := hdl.1
  refine sw_seq ?_
  refine sw_region hP 1 [] rfl (by kernel_rfl) (fun _ => by kernel_rfl) (by first | trivial | (simp [conj]; done) | (simp [conj] at *; (try dsimp only [Ty.den, Ty.dflt] at *); omega)) ?_
  refine sw_seq ?_
  refine sw_seq ?_
  refine sw_region hP 2 [] rfl (by kernel_rfl) (fun _ => by kernel_rfl) (by first | trivial | (simp [conj]; done) | (simp [conj] at *; (try dsimp only [Ty.den, Ty.dflt] at *); omega)) ?_
  refine sw_block ?_
  refine sw_loop (ι := Nat) (fun i => ⟨[.junk, .v false [.d .str pF s], .v false [.ptr ⟨1, 0, 0⟩ 0], .junk, .junk, sInt .i64 (i : Int), .junk, .junk, .junk, .junk, .junk, .junk, .junk, .junk, .junk, .junk, .junk, .junk, .junk, .junk, .junk, .junk], [(⟨1, 0, 0⟩, .var [.d TI pF tg, .d (.sl T_Vol) (.all .b) l])], 2, []⟩) (fun i => l.length - i) (fun i => i ≤ l.length ∧ idxFGo (fun v : Vol_ => decide (v.1 = s)) (l.drop i) i = idxF (fun v : Vol_ => decide (v.1 = s)) l) 0 ⟨?_, ?_⟩ ?_
  · skip
    exact ⟨Nat.zero_le _, rfl⟩
  · refine ent_ok rfl ?_
    simp [conj]
  · rintro i ⟨hi, hgo⟩
    refine sw_seq ?_
    refine sw_seq ?_
    refine sw_region hP 3 [] rfl (by kernel_rfl) (fun _ => by kernel_rfl) (by first | trivial | (simp [conj]; done) | (simp [conj] at *; (try dsimp only [Ty.den, Ty.dflt] at *); omega)) ?_
    refine sw_cond rfl (fun c2 => ?_) (fun c2 => ?_)
    · skip
      have hlt : i < l.length := by simpa using c2
      refine sw_skip ?_
      refine sw_seq ?_
      refine sw_block ?_
      refine sw_seq ?_
      refine sw_region hP 4 [] rfl (by kernel_rfl) (fun _ => by kernel_rfl) ?_ ?_
      · skip
        simp [conj, List.getElem?_eq_getElem hlt]
        repeat' apply And.intro
        all_goals first | omega | trivial
      refine sw_cond rfl (fun c4 => ?_) (fun c4 => ?_)
      · skip
        replace c4 : (fun v : Vol_ => decide (v.1 = s)) l[i] = true := by simpa [List.getElem?_eq_getElem hlt] using c4
        have hv := idxF_hit hlt hgo c4
        refine sw_seq ?_
        refine sw_region hP 5 [] rfl (by kernel_rfl) (fun _ => by kernel_rfl) (by first | trivial | (simp [conj]; done) | (simp [conj] at *; (try dsimp only [Ty.den, Ty.dflt] at *); omega)) ?_
        refine sw_ret ⟨.inl rfl, _, rfl, ?_⟩
        simp [conj, hv]
      · skip
        replace c4 : (fun v : Vol_ => decide (v.1 = s)) l[i] = false := by simpa [List.getElem?_eq_getElem hlt] using c4
        refine sw_skip ?_
        refine sw_region hP 5 [] rfl (by kernel_rfl) (fun _ => by kernel_rfl) (by first | trivial | (simp [conj]; done) | (simp [conj] at *; (try dsimp only [Ty.den, Ty.dflt] at *); omega)) ?_
        refine ⟨i + 1, ?_, ?_, ent_ok rfl ?_⟩
        · skip
          exact ⟨hlt, idxF_next hlt hgo c4⟩
        · skip
          omega
        · skip
          simp [conj]
    · skip
      obtain rfl : i = l.length := by simp at c2; omega
      refine sw_exit ?_
      refine sw_seq ?_
      refine sw_region hP 4 [] rfl (by kernel_rfl) (fun _ => by kernel_rfl) (by first | trivial | (simp [conj]; done) | (simp [conj] at *; (try dsimp only [Ty.den, Ty.dflt] at *); omega)) ?_
      refine sw_ret ⟨.inl rfl, _, rfl, ?_⟩
      have hv := idxF_end hgo
      simp [conj, hv]

def cAllP : Ctr := ⟨74, [.val true T_Root (.pr (.all .p) (.sl .b (.pr (.all .p) (.sl .b (.all .p)))))], fun x => SmallV x.1.2, fun x => (.v false [.own ⟨1, 0, 0⟩], [(⟨1, 0, 0⟩, .sl T_Ptr pF (blksOf x.1.2))])⟩
theorem cAllP_ok : CtrOk Proofs.Tryz.prog cAllP := by
  have hP := (Prg.none ttok mtok)
  refine ctr_of_body hP cAllP (fn := Proofs.Tryz.f74) (rts := [.tmp 2]) Proofs.Tryz.func74 rfl (by kernel_rfl) rfl rfl ?_
  rintro ⟨⟨(tg : Int), (l : List Vol_)⟩, ⟨⟩⟩ _ hpre
  try dsimp only [Ty.den, Mode.den, mdens] at hpre
  refine ⟨rfl, ?_⟩
  replace hpre : SmallV l := hpre
  have hml : l.length ≤ 100 := hpre.1
  refine sw_seq ?_
  refine sw_region hP 1 [] rfl (by kernel_rfl) (fun _ => by kernel_rfl) (by first | trivial | (simp [conj]; done) | (simp [conj] at *; (try dsimp only [Ty.den, Ty.dflt] at *); omega)) ?_
  refine sw_seq ?_
  refine sw_region hP 2 [] rfl (by kernel_rfl) (fun _ => by kernel_rfl) (by first | trivial | (simp [conj]; done) | (simp [conj] at *; (try dsimp only [Ty.den, Ty.dflt] at *); omega)) ?_
  refine sw_seq ?_
  refine sw_seq ?_
  refine sw_region hP 3 [] rfl (by kernel_rfl) (fun _ => by kernel_rfl) (by first | trivial | (simp [conj]; done) | (simp [conj] at *; (try dsimp only [Ty.den, Ty.dflt] at *); omega)) ?_
  refine sw_block ?_
  refine sw_loop (ι := Nat) (fun i => ⟨[.junk, .v false [.ptr ⟨1, 0, 0⟩ 0], .junk, .v false [.own ⟨0, 9, 0⟩], sInt .i64 (i : Int), .junk, .junk, .junk, .junk, .junk, .junk, .junk, .junk, .junk, .junk, .junk, .junk, .junk, .junk, .junk, .junk, .junk], [(⟨1, 0, 0⟩, .var [.d TI pF tg, .d (.sl T_Vol) (.sl .b (.pr (.all .p) (.sl .b (.all .p)))) l]), (⟨0, 9, 0⟩, .sl T_Ptr pF (blksOf (l.take i)))], 3, []⟩) (fun i => l.length - i) (fun i => i ≤ l.length) 0 ⟨?_, ?_⟩ ?_
  · skip
    exact Nat.zero_le _
  · refine ent_ok rfl ?_
    simp [conj, blksOf]
  · rintro i hi
    refine sw_seq ?_
    refine sw_seq ?_
    refine sw_region hP 4 [] rfl (by kernel_rfl) (fun _ => by kernel_rfl) (by first | trivial | (simp [conj]; done) | (simp [conj] at *; (try dsimp only [Ty.den, Ty.dflt] at *); omega)) ?_
    refine sw_cond rfl (fun c3 => ?_) (fun c3 => ?_)
    · skip
      have hlt : i < l.length := by simpa using c3
      have hb1 := blks_len hpre (i := i)
      have hb2 := hpre.2 _ (List.getElem_mem hlt)
      refine sw_skip ?_
      refine sw_seq ?_
      refine sw_block ?_
      refine sw_region hP 5 [] rfl (by kernel_rfl) (fun _ => by kernel_rfl) ?_ ?_
      · skip
        simp [conj, maxL, List.getElem?_eq_getElem hlt]
        omega
      refine sw_region hP 6 [] rfl (by kernel_rfl) (fun _ => by kernel_rfl) (by first | trivial | (simp [conj]; done) | (simp [conj] at *; (try dsimp only [Ty.den, Ty.dflt] at *); omega)) ?_
      refine ⟨i + 1, ?_, ?_, ent_ok rfl ?_⟩
      · skip
        exact hlt
      · skip
        omega
      · skip
        simp [conj, List.getElem?_eq_getElem hlt]
        exact flat_next hlt
    · skip
      obtain rfl : i = l.length := by simp at c3; omega
      refine sw_exit ?_
      refine sw_seq ?_
      refine sw_region hP 5 [] rfl (by kernel_rfl) (fun _ => by kernel_rfl) (by first | trivial | (simp [conj]; done) | (simp [conj] at *; (try dsimp only [Ty.den, Ty.dflt] at *); omega)) ?_
      refine sw_ret ⟨.inl rfl, _, rfl, ?_⟩
      simp [conj]

def cRootD : Ctr := ⟨67, [.ref T_l6Rd pF, .val false TI pF], fun x => ROk x.1 700 ∧ 3 ≤ x.2.1 ∧ x.2.1 ≤ 4, fun x => (.v true [.d TI pF (rootD x.1 x.2.1).1.1, .own ⟨1, 0, 0⟩], [(⟨0, 0, 0⟩, rdA (rootD x.1 x.2.1).2), (⟨1, 0, 0⟩, .sl T_Vol (.pr (.all .p) (.sl .w (.all .p))) (rootD x.1 x.2.1).1.2)])⟩
theorem cRootD_ok : CtrOk Proofs.Tryz.prog cRootD := by
  have hP := (((((((Prg.none ttok mtok).and cPick_ok).and cOf_ok).and cFind_ok).and cPtrP_ok).and cAllP_ok).and cMeet_ok)
  refine ctr_of_body hP cRootD (fn := Proofs.Tryz.f67) (rts := [.cell 4 25]) Proofs.Tryz.func67 rfl (by kernel_rfl) rfl rfl ?_
  rintro ⟨(R : Rd), (d : Int), ⟨⟩⟩ _ ⟨hr, hd3⟩
  try dsimp only [Ty.den, Mode.den, mdens] at hr
  try dsimp only [Ty.den, Mode.den, mdens] at hd3
  refine ⟨rfl, ?_⟩
  replace hr : ROk R 700 := hr
  replace hd3 : 3 ≤ d ∧ d ≤ 4 := hd3
  have hr1 : ROk (nx R) 699 := hr.nx (by omega)
  have hr2 : ROk (nx (nx R)) 698 := hr1.nx (by omega)
  have b5 := pk_bd hr1 (by omega) (n := 5) (by omega)
  refine sw_seq ?_
  refine sw_region hP 1 [] rfl (by kernel_rfl) (fun _ => by kernel_rfl) (by first | trivial | (simp [conj]; done) | (simp [conj] at *; (try dsimp only [Ty.den, Ty.dflt] at *); omega)) ?_
  refine sw_seq ?_
  refine sw_region hP 2 [] rfl (by kernel_rfl) (fun _ => by kernel_rfl) ?_ ?_
  · skip
    simp only [conj, List.nil_append, List.cons_append, List.append_nil, List.append_assoc, inR_i64, true_and, and_true, Int.toNat_natCast]
    try dsimp only [Ty.den, Ty.dflt]
    repeat' apply And.intro
    all_goals first | omega | assumption | exact hr.le (by omega) | trivial
  refine sw_seq ?_
  refine sw_seq ?_
  refine sw_region hP 3 [] rfl (by kernel_rfl) (fun _ => by kernel_rfl) ?_ ?_
  · skip
    simp only [conj, List.nil_append, List.cons_append, List.append_nil, List.append_assoc, inR_i64, true_and, and_true, Int.toNat_natCast]
    try dsimp only [Ty.den, Ty.dflt]
    repeat' apply And.intro
    all_goals first | omega | assumption | exact hr1.le (by omega) | trivial
  refine sw_block ?_
  refine sw_loop (ι := Nat × List Vol_ × Rd) (fun ⟨m, vs, Q⟩ => ⟨[.v false [.ptr ⟨0, 0, 0⟩ 0], sInt .i64 d, .junk, .junk, .v false [.ptr ⟨1, 0, 0⟩ 0], .v false [.ptr ⟨2, 4, 0⟩ 0], sInt .i64 (m : Int), .junk, .junk, .junk, .junk, .junk, .junk, .junk, .junk, .junk, .junk, .junk, .junk, .junk, .junk, .junk, .junk, .junk, .junk, .junk, .junk, .junk, .junk, .junk, .junk, .junk, .junk, .junk, .junk, .junk, .junk, .junk, .junk, .junk, .junk, .junk, .junk, .junk, .junk, .junk, .junk, .junk, .junk, .junk, .junk, .junk, .junk, .junk, .junk, .junk, .junk, .junk, .junk, .junk, .junk, .junk, .junk, .junk, .junk, .junk, .junk, .junk, .junk, .junk, .junk, .junk, .junk, .junk, .junk, .junk, .junk, .junk, .junk, .junk, .junk, .junk, .junk, .junk, .junk, .junk, .junk, .junk, .junk, .junk, .junk, .junk, .junk, .junk, .junk, .junk, .junk, .junk, .junk, .junk, .junk, .junk, .junk, .junk, .junk, .junk, .junk, .junk, .junk, .junk], [(⟨0, 0, 0⟩, rdA Q), (⟨1, 0, 0⟩, .var [.d TI pF 0, .d (.sl T_Vol) pF []]), (⟨2, 4, 0⟩, .var [.d TI pF (pk R 9), .own ⟨0, 9, 0⟩]), (⟨0, 9, 0⟩, .sl T_Vol (.pr (.all .p) (.sl .w (.all .p))) vs)], 3, [[.v false [.ptr ⟨0, 0, 0⟩ 0], .junk]]⟩) (fun ⟨m, vs, Q⟩ => m) (fun ⟨m, vs, Q⟩ => ROk Q (130 * m) ∧ vs.length + m ≤ 4 ∧ (∀ v ∈ vs, v.2.length = 3) ∧ volGo d m vs Q = (volGo d (pk (nx R) 5).toNat [] (nx (nx R)))) ((pk (nx R) 5).toNat, [], nx (nx R)) ⟨?_, ?_⟩ ?_
  · skip
    exact ⟨hr2.le (by omega), by show 0 + (pk (nx R) 5).toNat ≤ 4; omega, by simp, rfl⟩
  · refine ent_ok rfl ?_
    simp [conj]
    show pk (nx R) 5 = max (pk (nx R) 5) 0
    omega
  · rintro ⟨m, vs, Q⟩ ⟨hQ, hvl, hv3, hgo⟩
    refine sw_seq ?_
    refine sw_seq ?_
    refine sw_region hP 4 [] rfl (by kernel_rfl) (fun _ => by kernel_rfl) (by first | trivial | (simp [conj]; done) | (simp [conj] at *; (try dsimp only [Ty.den, Ty.dflt] at *); omega)) ?_
    refine sw_cond rfl (fun c3 => ?_) (fun c3 => ?_)
    · skip
      obtain ⟨n, rfl⟩ : ∃ n, m = n + 1 := ⟨m - 1, by have h := c3; simp at h; omega⟩
      have hQ1 : ROk (nx Q) (130 * n + 121) := hQ.nx (by push_cast; omega)
      have hal := blksOf_len (by omega) hv3
      have hsm := vols_small (by omega) hv3
      simp only [volGo] at hgo
      have h6 := pk_bd hQ (by omega) (n := 6) (by omega)
      refine sw_skip ?_
      refine sw_seq ?_
      refine sw_block ?_
      refine sw_seq ?_
      refine sw_region hP 5 [] rfl (by kernel_rfl) (fun _ => by kernel_rfl) ?_ ?_
      · skip
        simp only [conj, List.nil_append, List.cons_append, List.append_nil, List.append_assoc, inR_i64, true_and, and_true, Int.toNat_natCast]
        try dsimp only [Ty.den, Ty.dflt]
        repeat' apply And.intro
        all_goals first | omega | assumption | exact hQ.le (by push_cast; omega) | trivial | (show 0 < 6; decide)
      refine sw_seq ?_
      refine sw_seq ?_
      refine sw_ent (st' := ⟨[.v false [.ptr ⟨0, 0, 0⟩ 0], sInt .i64 d, .junk, .junk, .v false [.ptr ⟨1, 0, 0⟩ 0], .v false [.ptr ⟨2, 4, 0⟩ 0], sInt .i64 (((n + 1 : Nat)) : Int), .v false [.ptr ⟨5, 5, 0⟩ 0], .junk, .junk, .junk, .junk, .junk, .junk, .junk, .junk, .junk, .junk, .junk, .junk, .junk, .junk, .junk, .junk, .junk, .junk, .junk, .junk, .junk, .junk, .junk, .junk, .junk, .junk, .junk, .junk, .junk, .junk, .junk, .junk, .junk, .junk, .junk, .junk, .junk, .junk, .junk, .junk, .junk, .junk, .junk, .junk, .junk, .junk, .junk, .junk, .junk, .junk, .junk, .junk, .junk, .junk, .junk, .junk, .junk, .junk, .junk, .junk, .junk, .junk, .junk, .junk, .junk, .junk, .junk, .junk, .junk, .junk, .junk, .junk, .junk, .junk, .junk, .junk, .junk, .junk, .junk, .junk, .junk, .junk, .junk, .junk, .junk, .junk, .junk, .junk, .junk, .junk, .junk, .junk, .junk, .junk, .junk, .junk, .junk, .junk, .junk, .junk, .junk, .junk], [(⟨0, 0, 0⟩, rdA (nx Q)), (⟨1, 0, 0⟩, .var [.d TI pF 0, .d (.sl T_Vol) pF []]), (⟨2, 4, 0⟩, .var [.d TI pF (pk R 9), .own ⟨0, 9, 0⟩]), (⟨0, 9, 0⟩, .sl T_Vol (.pr (.all .p) (.sl .w (.all .p))) vs), (⟨5, 5, 0⟩, .var [.d .str pF (nmD Q), .own ⟨5, 3, 0⟩]), (⟨5, 3, 0⟩, .sl T_Ptr pF [zP, zP, zP])], 5, [[.v false [.ptr ⟨0, 0, 0⟩ 0], .junk]]⟩) (ent_ok rfl ?_) ?_
      · skip
        simp [conj, nmD, nms, bytesL, zP]
      refine sw_region hP 6 [] rfl (by kernel_rfl) (fun _ => by kernel_rfl) (by first | trivial | (simp [conj]; done) | (simp [conj] at *; (try dsimp only [Ty.den, Ty.dflt] at *); omega)) ?_
      refine sw_cond rfl (fun c6 => ?_) (fun c6 => ?_)
      · skip
        have hn : hasN_ vs (nmD Q) = true := by rw [hasN_idx]; exact c6
        rw [if_pos hn] at hgo
        refine sw_exit ?_
        refine sw_region hP 7 [] rfl (by kernel_rfl) (fun _ => by kernel_rfl) (by first | trivial | (simp [conj]; done) | (simp [conj] at *; (try dsimp only [Ty.den, Ty.dflt] at *); omega)) ?_
        refine ⟨(n, vs, nx Q), ?_, ?_, ent_ok rfl ?_⟩
        · skip
          exact ⟨hQ.nx (by push_cast; omega), by show vs.length + n ≤ 4; omega, hv3, hgo⟩
        · skip
          show n < n + 1
          omega
        · skip
          simp [conj]
      · skip
        have hn : ¬ hasN_ vs (nmD Q) = true := by
          have h6c : decide (0 ≤ idxF (fun v : Vol_ => decide (v.1 = nmD Q)) vs) = false := c6
          rw [hasN_idx, h6c]; decide
        rw [if_neg hn] at hgo
        refine sw_skip ?_
        refine sw_seq ?_
        refine sw_seq ?_
        refine sw_region hP 7 [] rfl (by kernel_rfl) (fun _ => by kernel_rfl) (by first | trivial | (simp [conj]; done) | (simp [conj] at *; (try dsimp only [Ty.den, Ty.dflt] at *); omega)) ?_
        refine sw_block ?_
        refine sw_loop (ι := Nat × List Ptr_ × Rd) (fun ⟨k, bl, P⟩ => ⟨[.v false [.ptr ⟨0, 0, 0⟩ 0], sInt .i64 d, .junk, .junk, .v false [.ptr ⟨1, 0, 0⟩ 0], .v false [.ptr ⟨2, 4, 0⟩ 0], sInt .i64 (((n + 1 : Nat)) : Int), .v false [.ptr ⟨5, 5, 0⟩ 0], sInt .i64 (k : Int), .junk, .junk, .junk, .junk, .junk, .junk, .junk, .junk, .junk, .junk, .junk, .junk, .junk, .junk, .junk, .junk, .junk, .junk, .junk, .junk, .junk, .junk, .junk, .junk, .junk, .junk, .junk, .junk, .junk, .junk, .junk, .junk, .junk, .junk, .junk, .junk, .junk, .junk, .junk, .junk, .junk, .junk, .junk, .junk, .junk, .junk, .junk, .junk, .junk, .junk, .junk, .junk, .junk, .junk, .junk, .junk, .junk, .junk, .junk, .junk, .junk, .junk, .junk, .junk, .junk, .junk, .junk, .junk, .junk, .junk, .junk, .junk, .junk, .junk, .junk, .junk, .junk, .junk, .junk, .junk, .junk, .junk, .junk, .junk, .junk, .junk, .junk, .junk, .junk, .junk, .junk, .junk, .junk, .junk, .junk, .junk, .junk, .junk, .junk, .junk, .junk], [(⟨0, 0, 0⟩, rdA P), (⟨1, 0, 0⟩, .var [.d TI pF 0, .d (.sl T_Vol) pF []]), (⟨2, 4, 0⟩, .var [.d TI pF (pk R 9), .own ⟨0, 9, 0⟩]), (⟨0, 9, 0⟩, .sl T_Vol (.pr (.all .p) (.sl .w (.all .p))) vs), (⟨5, 5, 0⟩, .var [.d .str pF (nmD Q), .own ⟨5, 3, 0⟩]), (⟨5, 3, 0⟩, .sl T_Ptr pF bl)], 7, [[.v false [.ptr ⟨0, 0, 0⟩ 0], .junk]]⟩) (fun ⟨k, bl, P⟩ => 3 - k) (fun ⟨k, bl, P⟩ => k ≤ 3 ∧ bl.length = 3 ∧ ROk P (130 * n + 40 * (3 - k : Nat)) ∧ blkGo d (blksOf vs) (3 - k) k bl P = (blkGo d (blksOf vs) 3 0 [zP, zP, zP] (nx Q))) (0, [zP, zP, zP], nx Q) ⟨?_, ?_⟩ ?_
        · skip
          exact ⟨Nat.zero_le _, rfl, hQ1.le (by omega), rfl⟩
        · refine ent_ok rfl ?_
          simp [conj]
        · rintro ⟨k, bl, P⟩ ⟨hk, hbl, hRP, hgk⟩
          refine sw_seq ?_
          refine sw_seq ?_
          refine sw_region hP 8 [] rfl (by kernel_rfl) (fun _ => by kernel_rfl) (by first | trivial | (simp [conj]; done) | (simp [conj] at *; (try dsimp only [Ty.den, Ty.dflt] at *); omega)) ?_
          refine sw_cond rfl (fun c8 => ?_) (fun c8 => ?_)
          · skip
            have hk3 : k < 3 := by have h := c8; simp at h; omega
            obtain ⟨j, hj⟩ : ∃ j, 3 - k = j + 1 := ⟨2 - k, by omega⟩
            have hj2 : 3 - (k + 1) = j := by omega
            rw [hj] at hgk hRP
            simp only [blkGo] at hgk
            refine sw_skip ?_
            refine sw_seq ?_
            refine sw_block ?_
            refine sw_seq ?_
            refine sw_region hP 9 [] rfl (by kernel_rfl) (fun _ => by kernel_rfl) ?_ ?_
            · skip
              simp only [conj, List.nil_append, List.cons_append, List.append_nil, List.append_assoc, inR_i64, true_and, and_true, Int.toNat_natCast]
              try dsimp only [Ty.den, Ty.dflt]
              repeat' apply And.intro
              all_goals first | omega | assumption | exact hRP.le (by push_cast; omega) | trivial | exact hd3.1 | exact hd3.2
            refine sw_seq ?_
            obtain ⟨q, hq⟩ : ∃ q, ptrD P d = q := ⟨_, rfl⟩
            have hqo : ROk q.2 (130 * n + 40 * j + 10) := hq ▸ ptrD_ok (by omega) (hRP.le (by push_cast; omega)) hd3
            have hqo2 : ROk (ptrD P d).2 1 := by rw [hq]; exact hqo.le (by omega)
            have hqx : ROk (nx q.2) (130 * n + 40 * j + 9) := hqo.nx (by omega)
            have hbs := blkStep_ok (m := 130 * n + 40 * j) (all := blksOf vs) (bl := bl) (k := k) (R := P) (by omega) (hRP.le (by push_cast; omega)) hd3
            refine sw_region hP 10 [] rfl (by kernel_rfl) (fun _ => by kernel_rfl) ?_ ?_
            · skip
              simp only [conj, List.nil_append, List.cons_append, List.append_nil, List.append_assoc, inR_i64, true_and, and_true, Int.toNat_natCast]
              try dsimp only [Ty.den, Ty.dflt]
              repeat' apply And.intro
              all_goals first | omega | assumption | exact hqo2 | trivial
            refine sw_seq ?_
            refine sw_region hP 11 [] rfl (by kernel_rfl) (fun _ => by kernel_rfl) ?_ ?_
            · skip
              simp only [conj, List.nil_append, List.cons_append, List.append_nil, List.append_assoc, inR_i64, true_and, and_true, Int.toNat_natCast]
              try dsimp only [Ty.den, Ty.dflt]
              repeat' apply And.intro
              all_goals first | omega | assumption | exact hsm.1 | trivial | exact hsm.2
            refine sw_seq ?_
            refine sw_seq ?_
            refine sw_region hP 12 [] rfl (by kernel_rfl) (fun _ => by kernel_rfl) (by first | trivial | (simp [conj]; done) | (simp [conj] at *; (try dsimp only [Ty.den, Ty.dflt] at *); omega)) ?_
            refine sw_block ?_
            refine sw_loop (ι := Nat) (fun i => ⟨[.v false [.ptr ⟨0, 0, 0⟩ 0], sInt .i64 d, .junk, .junk, .v false [.ptr ⟨1, 0, 0⟩ 0], .v false [.ptr ⟨2, 4, 0⟩ 0], sInt .i64 (((n + 1 : Nat)) : Int), .v false [.ptr ⟨5, 5, 0⟩ 0], sInt .i64 (k : Int), .v false [.ptr ⟨9, 3, 0⟩ 0], sBool (decide (0 < pk q.2 3) && meetsNo q.1 ((blksOf vs).take i)), .v false [.own ⟨11, 1, 0⟩], sInt .i64 (i : Int), .junk, .junk, .junk, .junk, .junk, .junk, .junk, .junk, .junk, .junk, .junk, .junk, .junk, .junk, .junk, .junk, .junk, .junk, .junk, .junk, .junk, .junk, .junk, .junk, .junk, .junk, .junk, .junk, .junk, .junk, .junk, .junk, .junk, .junk, .junk, .junk, .junk, .junk, .junk, .junk, .junk, .junk, .junk, .junk, .junk, .junk, .junk, .junk, .junk, .junk, .junk, .junk, .junk, .junk, .junk, .junk, .junk, .junk, .junk, .junk, .junk, .junk, .junk, .junk, .junk, .junk, .junk, .junk, .junk, .junk, .junk, .junk, .junk, .junk, .junk, .junk, .junk, .junk, .junk, .junk, .junk, .junk, .junk, .junk, .junk, .junk, .junk, .junk, .junk, .junk, .junk, .junk, .junk, .junk, .junk, .junk, .junk], [(⟨0, 0, 0⟩, rdA (nx q.2)), (⟨1, 0, 0⟩, .var [.d TI pF 0, .d (.sl T_Vol) pF []]), (⟨2, 4, 0⟩, .var [.d TI pF (pk R 9), .own ⟨0, 9, 0⟩]), (⟨0, 9, 0⟩, .sl T_Vol (.pr (.all .p) (.sl .w (.all .p))) vs), (⟨5, 5, 0⟩, .var [.d .str pF (nmD Q), .own ⟨5, 3, 0⟩]), (⟨5, 3, 0⟩, .sl T_Ptr pF bl), (⟨9, 3, 0⟩, .var [.d TI pF q.1.1, .d TI pF q.1.2.1, .d (.sl T_Place) pF q.1.2.2]), (⟨11, 1, 0⟩, .sl T_Ptr pF (blksOf vs))], 12, [[.v false [.ptr ⟨0, 0, 0⟩ 0], .junk]]⟩) (fun i => (blksOf vs).length - i) (fun i => i ≤ (blksOf vs).length) 0 ⟨?_, ?_⟩ ?_
            · skip
              exact Nat.zero_le _
            · refine ent_ok rfl ?_
              simp [conj, hq, meetsNo]
            · rintro i hi
              refine sw_seq ?_
              refine sw_seq ?_
              refine sw_region hP 13 [] rfl (by kernel_rfl) (fun _ => by kernel_rfl) (by first | trivial | (simp [conj]; done) | (simp [conj] at *; (try dsimp only [Ty.den, Ty.dflt] at *); omega)) ?_
              refine sw_cond rfl (fun c14 => ?_) (fun c14 => ?_)
              · skip
                have hlt : i < (blksOf vs).length := by simpa using c14
                refine sw_skip ?_
                refine sw_seq ?_
                refine sw_block ?_
                refine sw_dec hP 14 [] 1 rfl (fun g16_1 => ?_) (fun g16_1 => ?_)
                · skip
                  replace g16_1 : (decide (0 < pk q.2 3) && meetsNo q.1 ((blksOf vs).take i)) = true := g16_1
                  refine sw_region hP 14 [(1, true)] rfl (by kernel_rfl) (fun _ => by kernel_rfl) ?_ ?_
                  · skip
                    have g := g16_1
                    simp at g
                    simp [conj, List.getElem?_eq_getElem hlt]
                    repeat' apply And.intro
                    all_goals first | omega | trivial | exact g | exact g.1 | exact g.2
                  refine sw_region hP 15 [] rfl (by kernel_rfl) (fun _ => by kernel_rfl) (by first | trivial | (simp [conj]; done) | (simp [conj] at *; (try dsimp only [Ty.den, Ty.dflt] at *); omega)) ?_
                  refine ⟨i + 1, ?_, ?_, ent_ok rfl ?_⟩
                  · skip
                    exact hlt
                  · skip
                    omega
                  · skip
                    rw [mN_next hlt]
                    simp [conj, g16_1, List.getElem?_eq_getElem hlt]
                · skip
                  replace g16_1 : (decide (0 < pk q.2 3) && meetsNo q.1 ((blksOf vs).take i)) = false := g16_1
                  refine sw_region hP 14 [(1, false)] rfl (by kernel_rfl) (fun _ => by kernel_rfl) ?_ ?_
                  · skip
                    have g := g16_1
                    simp at g
                    simp [conj, List.getElem?_eq_getElem hlt]
                    repeat' apply And.intro
                    all_goals first | omega | trivial | exact g | exact g.1 | exact g.2
                  refine sw_region hP 15 [] rfl (by kernel_rfl) (fun _ => by kernel_rfl) (by first | trivial | (simp [conj]; done) | (simp [conj] at *; (try dsimp only [Ty.den, Ty.dflt] at *); omega)) ?_
                  refine ⟨i + 1, ?_, ?_, ent_ok rfl ?_⟩
                  · skip
                    exact hlt
                  · skip
                    omega
                  · skip
                    rw [mN_next hlt]
                    simp [conj, g16_1]
              · skip
                obtain rfl : i = (blksOf vs).length := by simp at c14; omega
                refine sw_exit ?_
                refine sw_seq ?_
                refine sw_seq ?_
                refine sw_region hP 14 [] rfl (by kernel_rfl) (fun _ => by kernel_rfl) (by first | trivial | (simp [conj]; done) | (simp [conj] at *; (try dsimp only [Ty.den, Ty.dflt] at *); omega)) ?_
                refine sw_block ?_
                refine sw_loop (ι := Nat) (fun i => ⟨[.v false [.ptr ⟨0, 0, 0⟩ 0], sInt .i64 d, .junk, .junk, .v false [.ptr ⟨1, 0, 0⟩ 0], .v false [.ptr ⟨2, 4, 0⟩ 0], sInt .i64 (((n + 1 : Nat)) : Int), .v false [.ptr ⟨5, 5, 0⟩ 0], sInt .i64 (k : Int), .v false [.ptr ⟨9, 3, 0⟩ 0], sBool ((decide (0 < pk q.2 3) && meetsNo q.1 (blksOf vs)) && meetsNo q.1 (bl.take i)), .v false [.own ⟨11, 1, 0⟩], .junk, sInt .i64 (i : Int), .junk, .junk, .junk, .junk, .junk, .junk, .junk, .junk, .junk, .junk, .junk, .junk, .junk, .junk, .junk, .junk, .junk, .junk, .junk, .junk, .junk, .junk, .junk, .junk, .junk, .junk, .junk, .junk, .junk, .junk, .junk, .junk, .junk, .junk, .junk, .junk, .junk, .junk, .junk, .junk, .junk, .junk, .junk, .junk, .junk, .junk, .junk, .junk, .junk, .junk, .junk, .junk, .junk, .junk, .junk, .junk, .junk, .junk, .junk, .junk, .junk, .junk, .junk, .junk, .junk, .junk, .junk, .junk, .junk, .junk, .junk, .junk, .junk, .junk, .junk, .junk, .junk, .junk, .junk, .junk, .junk, .junk, .junk, .junk, .junk, .junk, .junk, .junk, .junk, .junk, .junk, .junk, .junk, .junk, .junk, .junk], [(⟨0, 0, 0⟩, rdA (nx q.2)), (⟨1, 0, 0⟩, .var [.d TI pF 0, .d (.sl T_Vol) pF []]), (⟨2, 4, 0⟩, .var [.d TI pF (pk R 9), .own ⟨0, 9, 0⟩]), (⟨0, 9, 0⟩, .sl T_Vol (.pr (.all .p) (.sl .w (.all .p))) vs), (⟨5, 5, 0⟩, .var [.d .str pF (nmD Q), .own ⟨5, 3, 0⟩]), (⟨5, 3, 0⟩, .sl T_Ptr pF bl), (⟨9, 3, 0⟩, .var [.d TI pF q.1.1, .d TI pF q.1.2.1, .d (.sl T_Place) pF q.1.2.2]), (⟨11, 1, 0⟩, .sl T_Ptr pF (blksOf vs))], 14, [[.v false [.ptr ⟨0, 0, 0⟩ 0], .junk]]⟩) (fun i => k - i) (fun i => i ≤ k) 0 ⟨?_, ?_⟩ ?_
                · skip
                  exact Nat.zero_le _
                · refine ent_ok rfl ?_
                  simp [conj, meetsNo]
                · rintro i hi
                  refine sw_seq ?_
                  refine sw_seq ?_
                  refine sw_region hP 15 [] rfl (by kernel_rfl) (fun _ => by kernel_rfl) (by first | trivial | (simp [conj]; done) | (simp [conj] at *; (try dsimp only [Ty.den, Ty.dflt] at *); omega)) ?_
                  refine sw_cond rfl (fun c18 => ?_) (fun c18 => ?_)
                  · skip
                    have hik : i < k := by simpa using c18
                    have hlt : i < bl.length := by omega
                    refine sw_skip ?_
                    refine sw_seq ?_
                    refine sw_block ?_
                    refine sw_dec hP 16 [] 1 rfl (fun g20_1 => ?_) (fun g20_1 => ?_)
                    · skip
                      replace g20_1 : ((decide (0 < pk q.2 3) && meetsNo q.1 (blksOf vs)) && meetsNo q.1 (bl.take i)) = true := g20_1
                      refine sw_region hP 16 [(1, true)] rfl (by kernel_rfl) (fun _ => by kernel_rfl) ?_ ?_
                      · skip
                        have g := g20_1
                        simp at g
                        simp [conj, List.getElem?_eq_getElem hlt]
                        repeat' apply And.intro
                        all_goals first | omega | trivial | exact g | exact g.2 | exact g.1 | exact g.1.1 | exact g.1.2
                      refine sw_region hP 17 [] rfl (by kernel_rfl) (fun _ => by kernel_rfl) (by first | trivial | (simp [conj]; done) | (simp [conj] at *; (try dsimp only [Ty.den, Ty.dflt] at *); omega)) ?_
                      refine ⟨i + 1, ?_, ?_, ent_ok rfl ?_⟩
                      · skip
                        exact hik
                      · skip
                        omega
                      · skip
                        rw [mN_next hlt]
                        simp [conj, g20_1, List.getElem?_eq_getElem hlt]
                    · skip
                      replace g20_1 : ((decide (0 < pk q.2 3) && meetsNo q.1 (blksOf vs)) && meetsNo q.1 (bl.take i)) = false := g20_1
                      refine sw_region hP 16 [(1, false)] rfl (by kernel_rfl) (fun _ => by kernel_rfl) ?_ ?_
                      · skip
                        have g := g20_1
                        simp at g
                        simp [conj, List.getElem?_eq_getElem hlt]
                        repeat' apply And.intro
                        all_goals first | omega | trivial | exact g | exact g.2 | exact g.1 | exact g.1.1 | exact g.1.2
                      refine sw_region hP 17 [] rfl (by kernel_rfl) (fun _ => by kernel_rfl) (by first | trivial | (simp [conj]; done) | (simp [conj] at *; (try dsimp only [Ty.den, Ty.dflt] at *); omega)) ?_
                      refine ⟨i + 1, ?_, ?_, ent_ok rfl ?_⟩
                      · skip
                        exact hik
                      · skip
                        omega
                      · skip
                        rw [mN_next hlt]
                        simp [conj, g20_1]
                  · skip
                    obtain rfl : k = i := by simp at c18; omega
                    refine sw_exit ?_
                    refine sw_seq ?_
                    refine sw_region hP 16 [] rfl (by kernel_rfl) (fun _ => by kernel_rfl) (by first | trivial | (simp [conj]; done) | (simp [conj] at *; (try dsimp only [Ty.den, Ty.dflt] at *); omega)) ?_
                    refine sw_cond rfl (fun c21 => ?_) (fun c21 => ?_)
                    · skip
                      have hc : clrB P d (blksOf vs) k bl = true := by unfold clrB; rw [hq]; exact c21
                      refine sw_region hP 17 [] rfl (by kernel_rfl) (fun _ => by kernel_rfl) ?_ ?_
                      · skip
                        simp only [conj, List.nil_append, List.cons_append, List.append_nil, List.append_assoc, inR_i64, true_and, and_true, Int.toNat_natCast]
                        try dsimp only [Ty.den, Ty.dflt]
                        repeat' apply And.intro
                        all_goals first | omega | trivial
                      refine sw_region hP 18 [] rfl (by kernel_rfl) (fun _ => by kernel_rfl) (by first | trivial | (simp [conj]; done) | (simp [conj] at *; (try dsimp only [Ty.den, Ty.dflt] at *); omega)) ?_
                      refine ⟨(k + 1, bl.set k q.1, nx q.2), ?_, ?_, ent_ok rfl ?_⟩
                      · skip
                        have hst : blkStep d (blksOf vs) k bl P = (bl.set k q.1, nx q.2) := by
                          unfold blkStep
                          simp only [hq]
                          rw [if_pos hc]
                        rw [hst] at hbs hgk
                        exact ⟨hk3, hbs.2.trans hbl, hbs.1.le (by omega), by show blkGo d _ (3 - (k + 1)) _ _ _ = _; rw [hj2]; exact hgk⟩
                      · skip
                        show 3 - (k + 1) < 3 - k
                        omega
                      · skip
                        simp [conj]
                    · skip
                      have hc : ¬ clrB P d (blksOf vs) k bl = true := by unfold clrB; rw [hq]; intro h; rw [h] at c21; cases c21
                      refine sw_seq ?_
                      refine sw_dec hP 17 [] 3 rfl (fun g23_3 => ?_) (fun g23_3 => ?_)
                      · skip
                        have hln : 0 < (blksOf vs).length := by simpa using g23_3
                        have hqy : ROk (nx (nx q.2)) (130 * n + 40 * j + 8) := hqx.nx (by omega)
                        have hby := pk_bd hqy (by omega) (n := ((blksOf vs).length : Int)) (by omega)
                        refine sw_region hP 17 [(3, true)] rfl (by kernel_rfl) (fun _ => by kernel_rfl) ?_ ?_
                        · skip
                          simp only [conj, List.nil_append, List.cons_append, List.append_nil, List.append_assoc, inR_i64, true_and, and_true, Int.toNat_natCast]
                          try dsimp only [Ty.den, Ty.dflt]
                          repeat' apply And.intro
                          all_goals first | omega | assumption | exact hqx.le (by omega) | trivial
                        refine sw_cond rfl (fun c23 => ?_) (fun c23 => ?_)
                        · skip
                          have hp0 : pk (nx q.2) 2 = 0 := by simpa using c23
                          refine sw_region hP 18 [] rfl (by kernel_rfl) (fun _ => by kernel_rfl) ?_ ?_
                          · skip
                            simp only [conj, List.nil_append, List.cons_append, List.append_nil, List.append_assoc, inR_i64, true_and, and_true, Int.toNat_natCast]
                            try dsimp only [Ty.den, Ty.dflt]
                            repeat' apply And.intro
                            all_goals first | omega | assumption | exact hqy.le (by omega) | trivial | (show 0 ≤ pk (nx (nx q.2)) ((blksOf vs).length : Int); omega) | (show pk (nx (nx q.2)) ((blksOf vs).length : Int) < _; omega) | (show (pk (nx (nx q.2)) ((blksOf vs).length : Int)).toNat < (blksOf vs).length; omega)
                          refine sw_region hP 19 [] rfl (by kernel_rfl) (fun _ => by kernel_rfl) (by first | trivial | (simp [conj]; done) | (simp [conj] at *; (try dsimp only [Ty.den, Ty.dflt] at *); omega)) ?_
                          refine ⟨(k + 1, bl.set k ((blksOf vs).getD (pk (nx (nx q.2)) (blksOf vs).length).toNat zP), nx (nx (nx q.2))), ?_, ?_, ent_ok rfl ?_⟩
                          · skip
                            have hst : blkStep d (blksOf vs) k bl P = (bl.set k ((blksOf vs).getD (pk (nx (nx q.2)) (blksOf vs).length).toNat zP), nx (nx (nx q.2))) := by
                              unfold blkStep
                              simp only [hq]
                              rw [if_neg hc, if_pos hln, if_pos hp0]
                            rw [hst] at hbs hgk
                            exact ⟨hk3, hbs.2.trans hbl, hbs.1.le (by omega), by show blkGo d _ (3 - (k + 1)) _ _ _ = _; rw [hj2]; exact hgk⟩
                          · skip
                            show 3 - (k + 1) < 3 - k
                            omega
                          · skip
                            simp [conj]
                            rfl
                        · skip
                          have hp0 : ¬ pk (nx q.2) 2 = 0 := by simpa using c23
                          refine sw_skip ?_
                          refine sw_region hP 18 [] rfl (by kernel_rfl) (fun _ => by kernel_rfl) (by first | trivial | (simp [conj]; done) | (simp [conj] at *; (try dsimp only [Ty.den, Ty.dflt] at *); omega)) ?_
                          refine ⟨(k + 1, bl, nx (nx q.2)), ?_, ?_, ent_ok rfl ?_⟩
                          · skip
                            have hst : blkStep d (blksOf vs) k bl P = (bl, nx (nx q.2)) := by
                              unfold blkStep
                              simp only [hq]
                              rw [if_neg hc, if_pos hln, if_neg hp0]
                            rw [hst] at hbs hgk
                            exact ⟨hk3, hbs.2.trans hbl, hbs.1.le (by omega), by show blkGo d _ (3 - (k + 1)) _ _ _ = _; rw [hj2]; exact hgk⟩
                          · skip
                            show 3 - (k + 1) < 3 - k
                            omega
                          · skip
                            simp [conj]
                      · skip
                        have hln : ¬ 0 < (blksOf vs).length := by simpa using g23_3
                        refine sw_region hP 17 [(3, false)] rfl (by kernel_rfl) (fun _ => by kernel_rfl) ?_ ?_
                        · skip
                          simp only [conj, List.nil_append, List.cons_append, List.append_nil, List.append_assoc, inR_i64, true_and, and_true, Int.toNat_natCast]
                          try dsimp only [Ty.den, Ty.dflt]
                          repeat' apply And.intro
                          all_goals first | omega | assumption | exact hqx.le (by omega) | trivial
                        refine sw_condF rfl ?_
                        refine sw_skip ?_
                        refine sw_region hP 18 [] rfl (by kernel_rfl) (fun _ => by kernel_rfl) (by first | trivial | (simp [conj]; done) | (simp [conj] at *; (try dsimp only [Ty.den, Ty.dflt] at *); omega)) ?_
                        refine ⟨(k + 1, bl, nx q.2), ?_, ?_, ent_ok rfl ?_⟩
                        · skip
                          have hst : blkStep d (blksOf vs) k bl P = (bl, nx q.2) := by
                            unfold blkStep
                            simp only [hq]
                            rw [if_neg hc, if_neg hln]
                          rw [hst] at hbs hgk
                          exact ⟨hk3, hbs.2.trans hbl, hbs.1.le (by omega), by show blkGo d _ (3 - (k + 1)) _ _ _ = _; rw [hj2]; exact hgk⟩
                        · skip
                          show 3 - (k + 1) < 3 - k
                          omega
                        · skip
                          simp [conj]
          · skip
            obtain rfl : k = 3 := by have h := c8; simp at h; omega
            replace hgk : (bl, P) = (blkGo d (blksOf vs) 3 0 [zP, zP, zP] (nx Q)) := hgk
            rw [← hgk] at hgo
            refine sw_exit ?_
            refine sw_region hP 9 [] rfl (by kernel_rfl) (fun _ => by kernel_rfl) ?_ ?_
            · skip
              simp only [conj, List.nil_append, List.cons_append, List.append_nil, List.append_assoc, inR_i64, true_and, and_true, Int.toNat_natCast]
              try dsimp only [Ty.den, Ty.dflt]
              simp only [maxL]
              repeat' apply And.intro
              all_goals first | omega | (show _ ≤ (9223372036854775807 : Int); simp; omega) | (simp; omega) | trivial
            refine sw_region hP 10 [] rfl (by kernel_rfl) (fun _ => by kernel_rfl) (by first | trivial | (simp [conj]; done) | (simp [conj] at *; (try dsimp only [Ty.den, Ty.dflt] at *); omega)) ?_
            refine ⟨(n, vs ++ [(nmD Q, bl)], P), ?_, ?_, ent_ok rfl ?_⟩
            · skip
              exact ⟨hRP.le (by omega), by simp; omega, fun v hv => by
                  rcases List.mem_append.1 hv with hv | hv
                  · exact hv3 v hv
                  · rw [List.mem_singleton.1 hv]; exact hbl, hgo⟩
            · skip
              show n < n + 1
              omega
            · skip
              simp [conj]
    · skip
      obtain rfl : m = 0 := by have h := c3; simp at h; omega
      replace hgo : (vs, Q) = (volGo d (pk (nx R) 5).toNat [] (nx (nx R))) := hgo
      refine sw_exit ?_
      refine sw_seq ?_
      refine sw_region hP 5 [] rfl (by kernel_rfl) (fun _ => by kernel_rfl) (by first | trivial | (simp [conj]; done) | (simp [conj] at *; (try dsimp only [Ty.den, Ty.dflt] at *); omega)) ?_
      refine sw_ret ⟨.inl rfl, _, rfl, ?_⟩
      have e1 := congrArg Prod.fst hgo
      have e2 := congrArg Prod.snd hgo
      simp only at e1 e2
      simp [conj, rootD, ← e1, ← e2]
end Go.Sx
