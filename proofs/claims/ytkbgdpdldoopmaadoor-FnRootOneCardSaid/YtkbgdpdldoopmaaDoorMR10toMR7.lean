/- Several texts, one behind the other. -/
import Derived.Test.YtkbgdpdldoopmaaDoorMShelftoMR9
import Derived.Test.YtkbgdpdldoopmaaDoorMOpentoMWei
set_option linter.all false
namespace Go.Sx
open Go
set_option maxRecDepth 100000
set_option linter.unusedVariables false
set_option linter.unusedSimpArgs false
set_option maxHeartbeats 2000000

def cPtrO : Ctr := ⟨47, [.ref T_l6Rd pF, .val false TI pF], fun x => ROk x.1 30 ∧ 3 ≤ x.2.1 ∧ x.2.1 ≤ 4, fun x => (.v true [.d TI pF (ptrD x.1 x.2.1).1.1, .d TI pF (ptrD x.1 x.2.1).1.2.1, .own ⟨1, 0, 0⟩], [(⟨0, 0, 0⟩, rdA (ptrD x.1 x.2.1).2), (⟨1, 0, 0⟩, .sl T_Place pF (ptrD x.1 x.2.1).1.2.2)])⟩
theorem cPtrO_ok : CtrOk Proofs.Tryd.prog cPtrO := by
  have hP := (((((Prg.none ttok mtok).and cText_ok).and cColsS_ok).and cPlaces_ok).and cL11_ok)
  refine ctr_of_body hP cPtrO (fn := Proofs.Tryd.f47) (rts := [.cell 4 30]) Proofs.Tryd.func47 rfl (by kernel_rfl) rfl rfl ?_
  rintro ⟨(R : Rd), (d : Int), ⟨⟩⟩ _ ⟨hr, hd3⟩
  try dsimp only [Ty.den, Mode.den, mdens] at hr
  try dsimp only [Ty.den, Mode.den, mdens] at hd3
  refine ⟨rfl, ?_⟩
  replace hr : ROk R 30 := hr
  replace hd3 : 3 ≤ d ∧ d ≤ 4 := hd3
  have hmm := sMin_bd d hd3
  have hl := ptrT_len hr hd3
  have hcl := colsV_le (n := ((ptrT R d).length : Int)) (by omega) (by omega)
  have htl : (textV R (3 * sMin 3 (d - 1) - 1)).length ≤ 8 := by have h := textV_len hr (by decide) (most := (3 * sMin 3 (d - 1) - 1)) (by omega); omega
  have hT : ROk (textR R (3 * sMin 3 (d - 1) - 1)) 6 := textR_ok hr (by decide) (by omega) (by omega)
  have hpl := ptrD_len hr hd3
  refine sw_seq ?_
  refine sw_region hP 1 [] rfl (by kernel_rfl) (fun _ => by kernel_rfl) (by first | trivial | (simp [conj]; done) | (simp [conj] at *; (try dsimp only [Ty.den, Ty.dflt] at *); omega)) ?_
  refine sw_seq ?_
  refine sw_region hP 2 [] rfl (by kernel_rfl) (fun _ => by kernel_rfl) ?_ ?_
  · skip
    simp only [conj, List.nil_append, List.cons_append, List.append_nil, List.append_assoc, inR_i64, true_and, and_true, Int.toNat_natCast]
    try dsimp only [Ty.den, Ty.dflt]
    simp only [maxL, bytesL]
    repeat' apply And.intro
    all_goals first | omega | (show ROk R (2 * (3 * sMin 3 (d - 1) - 1) + 3); exact hr.le (by omega)) | (show _ ≤ (3 * sMin 3 (d - 1) - 1); omega) | (show (3 * sMin 3 (d - 1) - 1) ≤ _; omega) | (show _ ≤ 3 * sMin 3 (d - 1); omega) | (show 3 * sMin 3 (d - 1) ≤ _; omega) | (show (textV R (3 * sMin 3 (d - 1) - 1)).length + 1 ≤ 140737488355328; omega) | trivial
  refine sw_seq ?_
  refine sw_region hP 3 [] rfl (by kernel_rfl) (fun _ => by kernel_rfl) ?_ ?_
  · skip
    simp only [conj, List.nil_append, List.cons_append, List.append_nil, List.append_assoc, inR_i64, true_and, and_true, Int.toNat_natCast]
    try dsimp only [Ty.den, Ty.dflt]
    repeat' apply And.intro
    all_goals first | omega | exact hT | exact hd3.1 | exact hd3.2 | (show 0 ≤ ((ptrT R d).length : Int); omega) | (show ((ptrT R d).length : Int) ≤ 1000000; omega) | (show _ ≤ colsV ((ptrT R d).length : Int) + 1; omega) | (show colsV ((ptrT R d).length : Int) + 1 ≤ _; omega) | (show List.length (ptrD R d).1.2.2 ≤ 1000000; omega) | trivial
  refine sw_ret ⟨.inl rfl, _, rfl, ?_⟩
  simp [conj, ptrD, ptrT, bytesL]

def cPtrP : Ctr := ⟨47, [.ref T_l6Rd pF, .val false TI pF], fun x => ROk x.1 30 ∧ 3 ≤ x.2.1 ∧ x.2.1 ≤ 4, fun x => (.v true [.d TI pF (ptrD x.1 x.2.1).1.1, .d TI pF (ptrD x.1 x.2.1).1.2.1, .d (.sl T_Place) pF (ptrD x.1 x.2.1).1.2.2], [(⟨0, 0, 0⟩, rdA (ptrD x.1 x.2.1).2)])⟩
theorem cPtrP_ok : CtrOk Proofs.Tryd.prog cPtrP := by
  have hP := (((((Prg.none ttok mtok).and cText_ok).and cColsS_ok).and cPlaces_ok).and cL11_ok)
  refine ctr_of_body hP cPtrP (fn := Proofs.Tryd.f47) (rts := [.cell 4 30]) Proofs.Tryd.func47 rfl (by kernel_rfl) rfl rfl ?_
  rintro ⟨(R : Rd), (d : Int), ⟨⟩⟩ _ ⟨hr, hd3⟩
  try dsimp only [Ty.den, Mode.den, mdens] at hr
  try dsimp only [Ty.den, Mode.den, mdens] at hd3
  refine ⟨rfl, ?_⟩
  replace hr : ROk R 30 := hr
  replace hd3 : 3 ≤ d ∧ d ≤ 4 := hd3
  have hmm := sMin_bd d hd3
  have hl := ptrT_len hr hd3
  have hcl := colsV_le (n := ((ptrT R d).length : Int)) (by omega) (by omega)
  have htl : (textV R (3 * sMin 3 (d - 1) - 1)).length ≤ 8 := by have h := textV_len hr (by decide) (most := (3 * sMin 3 (d - 1) - 1)) (by omega); omega
  have hT : ROk (textR R (3 * sMin 3 (d - 1) - 1)) 6 := textR_ok hr (by decide) (by omega) (by omega)
  have hpl := ptrD_len hr hd3
  refine sw_seq ?_
  refine sw_region hP 1 [] rfl (by kernel_rfl) (fun _ => by kernel_rfl) (by first | trivial | (simp [conj]; done) | (simp [conj] at *; (try dsimp only [Ty.den, Ty.dflt] at *); omega)) ?_
  refine sw_seq ?_
  refine sw_region hP 2 [] rfl (by kernel_rfl) (fun _ => by kernel_rfl) ?_ ?_
  · skip
    simp only [conj, List.nil_append, List.cons_append, List.append_nil, List.append_assoc, inR_i64, true_and, and_true, Int.toNat_natCast]
    try dsimp only [Ty.den, Ty.dflt]
    simp only [maxL, bytesL]
    repeat' apply And.intro
    all_goals first | omega | (show ROk R (2 * (3 * sMin 3 (d - 1) - 1) + 3); exact hr.le (by omega)) | (show _ ≤ (3 * sMin 3 (d - 1) - 1); omega) | (show (3 * sMin 3 (d - 1) - 1) ≤ _; omega) | (show _ ≤ 3 * sMin 3 (d - 1); omega) | (show 3 * sMin 3 (d - 1) ≤ _; omega) | (show (textV R (3 * sMin 3 (d - 1) - 1)).length + 1 ≤ 140737488355328; omega) | trivial
  refine sw_seq ?_
  refine sw_region hP 3 [] rfl (by kernel_rfl) (fun _ => by kernel_rfl) ?_ ?_
  · skip
    simp only [conj, List.nil_append, List.cons_append, List.append_nil, List.append_assoc, inR_i64, true_and, and_true, Int.toNat_natCast]
    try dsimp only [Ty.den, Ty.dflt]
    repeat' apply And.intro
    all_goals first | omega | exact hT | exact hd3.1 | exact hd3.2 | (show 0 ≤ ((ptrT R d).length : Int); omega) | (show ((ptrT R d).length : Int) ≤ 1000000; omega) | (show _ ≤ colsV ((ptrT R d).length : Int) + 1; omega) | (show colsV ((ptrT R d).length : Int) + 1 ≤ _; omega) | (show List.length (ptrD R d).1.2.2 ≤ 1000000; omega) | trivial
  refine sw_frz ⟨3, 8, 0⟩ rfl ?_
  refine sw_ret ⟨.inl rfl, _, rfl, ?_⟩
  simp [conj, ptrD, ptrT, bytesL]

def cSome : Ctr := ⟨22, [.ref T_l6Rd pF, .val false TI pF], fun x => ROk x.1 40 ∧ 3 ≤ x.2.1 ∧ x.2.1 ≤ 4, fun x => (.v true [.d TI pF (someD x.1 x.2.1).1.1, .d TI pF (someD x.1 x.2.1).1.2.1, .d (.sl T_Place) pF (someD x.1 x.2.1).1.2.2], [(⟨0, 0, 0⟩, rdA (someD x.1 x.2.1).2)])⟩
theorem cSome_ok : CtrOk Proofs.Tryd.prog cSome := by
  have hP := (((Prg.none ttok mtok).and cPick_ok).and cPtrO_ok)
  refine ctr_of_body hP cSome (fn := Proofs.Tryd.f22) (rts := [.cell 4 30]) Proofs.Tryd.func22 rfl (by kernel_rfl) rfl rfl ?_
  rintro ⟨(R : Rd), (d : Int), ⟨⟩⟩ _ ⟨hr, hd3⟩
  try dsimp only [Ty.den, Mode.den, mdens] at hr
  try dsimp only [Ty.den, Mode.den, mdens] at hd3
  refine ⟨rfl, ?_⟩
  replace hr : ROk R 40 := hr
  replace hd3 : 3 ≤ d ∧ d ≤ 4 := hd3
  refine sw_seq ?_
  refine sw_region hP 1 [] rfl (by kernel_rfl) (fun _ => by kernel_rfl) (by first | trivial | (simp [conj]; done) | (simp [conj] at *; (try dsimp only [Ty.den, Ty.dflt] at *); omega)) ?_
  refine sw_seq ?_
  refine sw_seq ?_
  refine sw_region hP 2 [] rfl (by kernel_rfl) (fun _ => by kernel_rfl) ?_ ?_
  · skip
    simp only [conj, List.nil_append, List.cons_append, List.append_nil, List.append_assoc, inR_i64, true_and, and_true, Int.toNat_natCast]
    try dsimp only [Ty.den, Ty.dflt]
    repeat' apply And.intro
    all_goals first | omega | assumption | exact hr.le (by omega) | exact hr.le (by omega) | (show ROk R _; exact hr.le (by omega)) | (simp [conj]; omega) | trivial
  refine sw_cond rfl (fun c1 => ?_) (fun c1 => ?_)
  · skip
    replace c1 : pk R 5 = 0 := by simpa using c1
    refine sw_seq ?_
    refine sw_region hP 3 [] rfl (by kernel_rfl) (fun _ => by kernel_rfl) (by first | trivial | (simp [conj]; done) | (simp [conj] at *; (try dsimp only [Ty.den, Ty.dflt] at *); omega)) ?_
    refine sw_ret ⟨.inl rfl, _, rfl, ?_⟩
    simp [conj, someD, zP, *]
  · skip
    replace c1 : ¬ pk R 5 = 0 := by simpa using c1
    refine sw_skip ?_
    refine sw_seq ?_
    refine sw_region hP 3 [] rfl (by kernel_rfl) (fun _ => by kernel_rfl) ?_ ?_
    · skip
      simp only [conj, List.nil_append, List.cons_append, List.append_nil, List.append_assoc, inR_i64, true_and, and_true, Int.toNat_natCast]
      try dsimp only [Ty.den, Ty.dflt]
      repeat' apply And.intro
      all_goals first | omega | assumption | exact hd3.1 | exact hr.le (by omega) | (show ROk R _; exact hr.le (by omega)) | (simp [conj]; omega) | trivial | exact hr.nx (by omega) | exact hd3.2
    refine sw_seq ?_
    refine sw_seq ?_
    obtain ⟨q, hq⟩ : ∃ q, ptrD (nx R) d = q := ⟨_, rfl⟩
    have hqo : ROk q.2 9 := hq ▸ ptrD_ok (m := 9) (by omega) (hr.nx (by omega)) hd3
    have hql : 2 ≤ q.1.2.2.length ∧ q.1.2.2.length ≤ 4 := hq ▸ ptrD_len (hr.nx (by omega)) hd3
    have hq3 : ROk (nx q.2) 8 := hqo.nx (by omega)
    have b14 := pk_bd hq3 (by omega) (n := 14) (by omega)
    have b3 := pk_bd hq3 (by omega) (n := 3) (by omega)
    have b2 := pk_bd hq3 (by omega) (n := 2) (by omega)
    refine sw_ent (st' := ⟨[.v false [.ptr ⟨0, 0, 0⟩ 0], sInt .i64 d, .junk, .junk, .v false [.ptr ⟨1, 0, 0⟩ 0], .v false [.ptr ⟨3, 3, 0⟩ 0], .junk, .junk, .junk, .junk, .junk, .junk, .junk, .junk, .junk, .junk, .junk, .junk, .junk, .junk, .junk, .junk, .junk, .junk, .junk, .junk, .junk, .junk, .junk, .junk, .junk, .junk, .junk, .junk, .junk, .junk, .junk, .junk, .junk, .junk, .junk, .junk, .junk, .junk, .junk, .junk, .junk, .junk, .junk, .junk, .junk, .junk, .junk, .junk, .junk, .junk], [(⟨0, 0, 0⟩, rdA q.2), (⟨1, 0, 0⟩, .var [.d TI pF 0, .d TI pF 0, .d (.sl T_Place) pF []]), (⟨3, 2, 0⟩, .sl T_Place pF q.1.2.2), (⟨3, 3, 0⟩, .var [.d TI pF q.1.1, .d TI pF q.1.2.1, .own ⟨3, 2, 0⟩])], 3, [[.v false [.ptr ⟨0, 0, 0⟩ 0], .junk]]⟩) (ent_ok rfl ?_) ?_
    · skip
      simp [conj, hq]
    refine sw_region hP 4 [] rfl (by kernel_rfl) (fun _ => by kernel_rfl) ?_ ?_
    · skip
      simp only [conj, List.nil_append, List.cons_append, List.append_nil, List.append_assoc, inR_i64, true_and, and_true, Int.toNat_natCast]
      try dsimp only [Ty.den, Ty.dflt]
      repeat' apply And.intro
      all_goals first | omega | assumption | exact hqo.le (by omega) | exact hr.le (by omega) | (show ROk R _; exact hr.le (by omega)) | (simp [conj]; omega) | trivial
    refine sw_block ?_
    refine sw_seq ?_
    refine sw_region hP 5 [] rfl (by kernel_rfl) (fun _ => by kernel_rfl) (by first | trivial | (simp [conj]; done) | (simp [conj] at *; (try dsimp only [Ty.den, Ty.dflt] at *); omega)) ?_
    refine sw_cond rfl (fun c5 => ?_) (fun c5 => ?_)
    · skip
      replace c5 : pk q.2 20 = 0 := by simpa using c5
      refine sw_region hP 6 [] rfl (by kernel_rfl) (fun _ => by kernel_rfl) ?_ ?_
      · skip
        simp only [conj, List.nil_append, List.cons_append, List.append_nil, List.append_assoc, inR_i64, true_and, and_true, Int.toNat_natCast]
        try dsimp only [Ty.den, Ty.dflt]
        repeat' apply And.intro
        all_goals first | omega | assumption | exact hq3.le (by omega) | exact hr.le (by omega) | (show ROk R _; exact hr.le (by omega)) | (simp [conj]; omega) | trivial | (show _ ≤ pk (nx q.2) 14 - 1; omega) | (show pk (nx q.2) 14 - 1 ≤ _; omega)
      refine sw_seq ?_
      refine sw_region hP 7 [] rfl (by kernel_rfl) (fun _ => by kernel_rfl) (by first | trivial | (simp [conj]; done) | (simp [conj] at *; (try dsimp only [Ty.den, Ty.dflt] at *); omega)) ?_
      refine sw_frz ⟨3, 2, 0⟩ rfl ?_
      refine sw_ret ⟨.inl rfl, _, rfl, ?_⟩
      simp [conj, someD, zP, hq, aS, aT, *]
      try rfl
    · skip
      replace c5 : ¬ pk q.2 20 = 0 := by simpa using c5
      refine sw_seq ?_
      refine sw_region hP 6 [] rfl (by kernel_rfl) (fun _ => by kernel_rfl) (by first | trivial | (simp [conj]; done) | (simp [conj] at *; (try dsimp only [Ty.den, Ty.dflt] at *); omega)) ?_
      refine sw_cond rfl (fun c7 => ?_) (fun c7 => ?_)
      · skip
        replace c7 : pk q.2 20 = 1 := by simpa using c7
        refine sw_region hP 7 [] rfl (by kernel_rfl) (fun _ => by kernel_rfl) ?_ ?_
        · skip
          simp only [conj, List.nil_append, List.cons_append, List.append_nil, List.append_assoc, inR_i64, true_and, and_true, Int.toNat_natCast]
          try dsimp only [Ty.den, Ty.dflt]
          repeat' apply And.intro
          all_goals first | omega | assumption | exact hq3.le (by omega) | exact hr.le (by omega) | (show ROk R _; exact hr.le (by omega)) | (simp [conj]; omega) | trivial | (show 0 ≤ pk (nx q.2) 3; omega) | (show pk (nx q.2) 3 < 3; omega) | (show (pk (nx q.2) 3).toNat < 3; omega)
        refine sw_seq ?_
        refine sw_region hP 8 [] rfl (by kernel_rfl) (fun _ => by kernel_rfl) (by first | trivial | (simp [conj]; done) | (simp [conj] at *; (try dsimp only [Ty.den, Ty.dflt] at *); omega)) ?_
        refine sw_frz ⟨3, 2, 0⟩ rfl ?_
        refine sw_ret ⟨.inl rfl, _, rfl, ?_⟩
        simp [conj, someD, zP, hq, aS, aT, *]
        try rfl
      · skip
        replace c7 : ¬ pk q.2 20 = 1 := by simpa using c7
        refine sw_seq ?_
        refine sw_region hP 7 [] rfl (by kernel_rfl) (fun _ => by kernel_rfl) (by first | trivial | (simp [conj]; done) | (simp [conj] at *; (try dsimp only [Ty.den, Ty.dflt] at *); omega)) ?_
        refine sw_cond rfl (fun c9 => ?_) (fun c9 => ?_)
        · skip
          replace c9 : pk q.2 20 = 2 := by simpa using c9
          refine sw_region hP 8 [] rfl (by kernel_rfl) (fun _ => by kernel_rfl) ?_ ?_
          · skip
            simp only [conj, List.nil_append, List.cons_append, List.append_nil, List.append_assoc, inR_i64, true_and, and_true, Int.toNat_natCast]
            try dsimp only [Ty.den, Ty.dflt]
            repeat' apply And.intro
            all_goals first | omega | assumption | exact hq3.le (by omega) | exact hr.le (by omega) | (show ROk R _; exact hr.le (by omega)) | (simp [conj]; omega) | trivial | (show 0 ≤ pk (nx q.2) 2; omega) | (show pk (nx q.2) 2 < 2; omega) | (show (pk (nx q.2) 2).toNat < 2; omega)
          refine sw_seq ?_
          refine sw_region hP 9 [] rfl (by kernel_rfl) (fun _ => by kernel_rfl) (by first | trivial | (simp [conj]; done) | (simp [conj] at *; (try dsimp only [Ty.den, Ty.dflt] at *); omega)) ?_
          refine sw_frz ⟨3, 2, 0⟩ rfl ?_
          refine sw_ret ⟨.inl rfl, _, rfl, ?_⟩
          simp [conj, someD, zP, hq, aS, aT, *]
          try rfl
        · skip
          replace c9 : ¬ pk q.2 20 = 2 := by simpa using c9
          refine sw_seq ?_
          refine sw_region hP 8 [] rfl (by kernel_rfl) (fun _ => by kernel_rfl) (by first | trivial | (simp [conj]; done) | (simp [conj] at *; (try dsimp only [Ty.den, Ty.dflt] at *); omega)) ?_
          refine sw_cond rfl (fun c11 => ?_) (fun c11 => ?_)
          · skip
            replace c11 : pk q.2 20 = 3 := by simpa using c11
            refine sw_region hP 9 [] rfl (by kernel_rfl) (fun _ => by kernel_rfl) ?_ ?_
            · skip
              simp only [conj, List.nil_append, List.cons_append, List.append_nil, List.append_assoc, inR_i64, true_and, and_true, Int.toNat_natCast]
              try dsimp only [Ty.den, Ty.dflt]
              repeat' apply And.intro
              all_goals first | omega | assumption | exact hq3.le (by omega) | exact hr.le (by omega) | (show ROk R _; exact hr.le (by omega)) | (simp [conj]; omega) | trivial
            refine sw_seq ?_
            refine sw_region hP 10 [] rfl (by kernel_rfl) (fun _ => by kernel_rfl) (by first | trivial | (simp [conj]; done) | (simp [conj] at *; (try dsimp only [Ty.den, Ty.dflt] at *); omega)) ?_
            refine sw_frz ⟨3, 2, 0⟩ rfl ?_
            refine sw_ret ⟨.inl rfl, _, rfl, ?_⟩
            simp [conj, someD, zP, hq, aS, aT, *]
            try rfl
          · skip
            replace c11 : ¬ pk q.2 20 = 3 := by simpa using c11
            refine sw_seq ?_
            refine sw_region hP 9 [] rfl (by kernel_rfl) (fun _ => by kernel_rfl) (by first | trivial | (simp [conj]; done) | (simp [conj] at *; (try dsimp only [Ty.den, Ty.dflt] at *); omega)) ?_
            refine sw_cond rfl (fun c13 => ?_) (fun c13 => ?_)
            · skip
              replace c13 : pk q.2 20 = 4 := by simpa using c13
              refine sw_frz ⟨3, 2, 0⟩ rfl ?_
              refine sw_region hP 10 [] rfl (by kernel_rfl) (fun _ => by kernel_rfl) ?_ ?_
              · skip
                simp only [conj, List.nil_append, List.cons_append, List.append_nil, List.append_assoc, inR_i64, true_and, and_true, Int.toNat_natCast]
                try dsimp only [Ty.den, Ty.dflt]
                repeat' apply And.intro
                all_goals first | omega | assumption | exact hq3.le (by omega) | exact hr.le (by omega) | (show ROk R _; exact hr.le (by omega)) | (simp [conj]; omega) | trivial
              refine sw_seq ?_
              refine sw_region hP 11 [] rfl (by kernel_rfl) (fun _ => by kernel_rfl) (by first | trivial | (simp [conj]; done) | (simp [conj] at *; (try dsimp only [Ty.den, Ty.dflt] at *); omega)) ?_
              refine sw_ret ⟨.inl rfl, _, rfl, ?_⟩
              simp [conj, someD, zP, hq, aS, aT, *]
              try rfl
            · skip
              replace c13 : ¬ pk q.2 20 = 4 := by simpa using c13
              refine sw_skip ?_
              refine sw_seq ?_
              refine sw_region hP 10 [] rfl (by kernel_rfl) (fun _ => by kernel_rfl) (by first | trivial | (simp [conj]; done) | (simp [conj] at *; (try dsimp only [Ty.den, Ty.dflt] at *); omega)) ?_
              refine sw_frz ⟨3, 2, 0⟩ rfl ?_
              refine sw_ret ⟨.inl rfl, _, rfl, ?_⟩
              simp [conj, someD, zP, hq, aS, aT, *]
              try rfl
end Go.Sx

/- Roots drawn: loops' plain lemmas. -/
namespace Go.Sx
open Go
theorem idxFGo_bd {α : Type} {p : α → Bool} : ∀ {l : List α} {i : Nat}, -1 ≤ idxFGo p l i ∧ idxFGo p l i ≤ ((i + l.length : Nat) : Int) := by
  intro l
  induction l with
  | nil => intro i; simp only [idxFGo]; omega
  | cons a l ih =>
    intro i
    simp only [idxFGo]
    have h := ih (i := i + 1)
    rw [List.length_cons]
    split
    · omega
    · omega
theorem hasN_idx {vs : List Vol_} {nm : Str} : hasN_ vs nm = decide (0 ≤ idxF (fun v : Vol_ => decide (v.1 = nm)) vs) := idxF_any.symm
theorem mN_next {c : Bool} {p : Ptr_} {l : List Ptr_} {i : Nat} (hlt : i < l.length) : (c && meetsNo p (l.take (i + 1))) = ((c && meetsNo p (l.take i)) && !meetV p l[i]) := by
  unfold meetsNo
  rw [List.take_succ_eq_append_getElem hlt, List.all_append]
  simp [Bool.and_assoc]
theorem mN_zero {p : Ptr_} {l : List Ptr_} : meetsNo p (l.take 0) = true := rfl
theorem mN_end {p : Ptr_} {l : List Ptr_} : meetsNo p (l.take l.length) = meetsNo p l := by rw [List.take_length]
theorem vols_small {vs : List Vol_} (h1 : vs.length ≤ 4) (h2 : ∀ v ∈ vs, v.2.length = 3) : SmallV vs := ⟨by omega, fun v hv => by have := h2 v hv; omega⟩
theorem blksOf_len {vs : List Vol_} (h1 : vs.length ≤ 4) (h2 : ∀ v ∈ vs, v.2.length = 3) : (blksOf vs).length ≤ 12 := by
  have : ∀ (vs : List Vol_), (∀ v ∈ vs, v.2.length = 3) → (blksOf vs).length = vs.length * 3 := by
    intro vs
    induction vs with
    | nil => intro _; rfl
    | cons v vs ih =>
      intro h
      have h3 := ih (fun w hw => h w (List.mem_cons_of_mem _ hw))
      have h4 := h v List.mem_cons_self
      simp only [blksOf, List.flatMap_cons, List.length_append, List.length_cons] at h3 ⊢
      omega
  have := this vs h2
  omega
end Go.Sx

namespace Go.Sx
open Go
set_option maxRecDepth 100000
set_option linter.unusedVariables false
set_option linter.unusedSimpArgs false
set_option maxHeartbeats 2000000

def cFind : Ctr := ⟨68, [.val true T_Root (.all .b), .val false .str pF], fun x => True, fun x => (sInt .i64 (idxF (fun v : Vol_ => decide (v.1 = x.2.1)) x.1.2), [])⟩
theorem cFind_ok : CtrOk Proofs.Tryd.prog cFind := by
  have hP := (Prg.none ttok mtok)
  refine ctr_of_body hP cFind (fn := Proofs.Tryd.f68) (rts := [.tmp 4]) Proofs.Tryd.func68 rfl (by kernel_rfl) rfl rfl ?_
  rintro ⟨⟨(tg : Int), (l : List Vol_)⟩, (s : Str), ⟨⟩⟩ ⟨⟨_, hdl⟩, _⟩ _
  try dsimp only [Ty.den, Mode.den, mdens] at _
  refine ⟨rfl, ?_⟩
  have hml : l.length ≤ 140737488355328 := hdl.1
  refine sw_seq ?_
  refine sw_region hP 1 [] rfl (by kernel_rfl) (fun _ => by kernel_rfl) (by first | trivial | (simp [conj]; done) | (simp [conj] at *; (try dsimp only [Ty.den, Ty.dflt] at *); omega)) ?_
  refine sw_seq ?_
  refine sw_seq ?_
  refine sw_region hP 2 [] rfl (by kernel_rfl) (fun _ => by kernel_rfl) (by first | trivial | (simp [conj]; done) | (simp [conj] at *; (try dsimp only [Ty.den, Ty.dflt] at *); omega)) ?_
  refine sw_block ?_
  refine sw_loop (ι := Nat) (fun i => ⟨[.junk, .v false [.d .str pF s], .v false [.ptr ⟨1, 0, 0⟩ 0], .junk, .junk, sInt .i64 (i : Int), .junk, .junk, .junk, .junk, .junk, .junk, .junk, .junk, .junk, .junk, .junk, .junk, .junk, .junk, .junk, .junk], [(⟨1, 0, 0⟩, .var [.d TI pF tg, .d (.sl T_Vol) (.all .b) l])], 2, []⟩) (fun i => l.length - i) (fun i => i ≤ l.length ∧ idxFGo (fun v : Vol_ => decide (v.1 = s)) (l.drop i) i = idxF (fun v : Vol_ => decide (v.1 = s)) l) 0 ⟨?_, ?_⟩ ?_
  · skip
    exact ⟨Nat.zero_le _, rfl⟩
  · refine ent_ok rfl ?_
    simp [conj]
  · rintro i ⟨hi, hgo⟩
    refine sw_seq ?_
    refine sw_seq ?_
    refine sw_region hP 3 [] rfl (by kernel_rfl) (fun _ => by kernel_rfl) (by first | trivial | (simp [conj]; done) | (simp [conj] at *; (try dsimp only [Ty.den, Ty.dflt] at *); omega)) ?_
    refine sw_cond rfl (fun c2 => ?_) (fun c2 => ?_)
    · skip
      have hlt : i < l.length := by simpa using c2
      refine sw_skip ?_
      refine sw_seq ?_
      refine sw_block ?_
      refine sw_seq ?_
      refine sw_region hP 4 [] rfl (by kernel_rfl) (fun _ => by kernel_rfl) ?_ ?_
      · skip
        simp [conj, List.getElem?_eq_getElem hlt]
        repeat' apply And.intro
        all_goals first | omega | trivial
      refine sw_cond rfl (fun c4 => ?_) (fun c4 => ?_)
      · skip
        replace c4 : (fun v : Vol_ => decide (v.1 = s)) l[i] = true := by simpa [List.getElem?_eq_getElem hlt] using c4
        have hv := idxF_hit hlt hgo c4
        refine sw_seq ?_
        refine sw_region hP 5 [] rfl (by kernel_rfl) (fun _ => by kernel_rfl) (by first | trivial | (simp [conj]; done) | (simp [conj] at *; (try dsimp only [Ty.den, Ty.dflt] at *); omega)) ?_
        refine sw_ret ⟨.inl rfl, _, rfl, ?_⟩
        simp [conj, hv]
      · skip
        replace c4 : (fun v : Vol_ => decide (v.1 = s)) l[i] = false := by simpa [List.getElem?_eq_getElem hlt] using c4
        refine sw_skip ?_
        refine sw_region hP 5 [] rfl (by kernel_rfl) (fun _ => by kernel_rfl) (by first | trivial | (simp [conj]; done) | (simp [conj] at *; (try dsimp only [Ty.den, Ty.dflt] at *); omega)) ?_
        refine ⟨i + 1, ?_, ?_, ent_ok rfl ?_⟩
        · skip
          exact ⟨hlt, idxF_next hlt hgo c4⟩
        · skip
          omega
        · skip
          simp [conj]
    · skip
      obtain rfl : i = l.length := by simp at c2; omega
      refine sw_exit ?_
      refine sw_seq ?_
      refine sw_region hP 4 [] rfl (by kernel_rfl) (fun _ => by kernel_rfl) (by first | trivial | (simp [conj]; done) | (simp [conj] at *; (try dsimp only [Ty.den, Ty.dflt] at *); omega)) ?_
      refine sw_ret ⟨.inl rfl, _, rfl, ?_⟩
      have hv := idxF_end hgo
      simp [conj, hv]

def cAllP : Ctr := ⟨56, [.val true T_Root (.pr (.all .p) (.sl .b (.pr (.all .p) (.sl .b (.all .p)))))], fun x => SmallV x.1.2, fun x => (.v false [.own ⟨1, 0, 0⟩], [(⟨1, 0, 0⟩, .sl T_Ptr pF (blksOf x.1.2))])⟩
theorem cAllP_ok : CtrOk Proofs.Tryd.prog cAllP := by
  have hP := (Prg.none ttok mtok)
  refine ctr_of_body hP cAllP (fn := Proofs.Tryd.f56) (rts := [.tmp 2]) Proofs.Tryd.func56 rfl (by kernel_rfl) rfl rfl ?_
  rintro ⟨⟨(tg : Int), (l : List Vol_)⟩, ⟨⟩⟩ _ hpre
  try dsimp only [Ty.den, Mode.den, mdens] at hpre
  refine ⟨rfl, ?_⟩
  replace hpre : SmallV l := hpre
  have hml : l.length ≤ 100 := hpre.1
  refine sw_seq ?_
  refine sw_region hP 1 [] rfl (by kernel_rfl) (fun _ => by kernel_rfl) (by first | trivial | (simp [conj]; done) | (simp [conj] at *; (try dsimp only [Ty.den, Ty.dflt] at *); omega)) ?_
  refine sw_seq ?_
  refine sw_region hP 2 [] rfl (by kernel_rfl) (fun _ => by kernel_rfl) (by first | trivial | (simp [conj]; done) | (simp [conj] at *; (try dsimp only [Ty.den, Ty.dflt] at *); omega)) ?_
  refine sw_seq ?_
  refine sw_seq ?_
  refine sw_region hP 3 [] rfl (by kernel_rfl) (fun _ => by kernel_rfl) (by first | trivial | (simp [conj]; done) | (simp [conj] at *; (try dsimp only [Ty.den, Ty.dflt] at *); omega)) ?_
  refine sw_block ?_
  refine sw_loop (ι := Nat) (fun i => ⟨[.junk, .v false [.ptr ⟨1, 0, 0⟩ 0], .junk, .v false [.own ⟨0, 9, 0⟩], sInt .i64 (i : Int), .junk, .junk, .junk, .junk, .junk, .junk, .junk, .junk, .junk, .junk, .junk, .junk, .junk, .junk, .junk, .junk, .junk], [(⟨1, 0, 0⟩, .var [.d TI pF tg, .d (.sl T_Vol) (.sl .b (.pr (.all .p) (.sl .b (.all .p)))) l]), (⟨0, 9, 0⟩, .sl T_Ptr pF (blksOf (l.take i)))], 3, []⟩) (fun i => l.length - i) (fun i => i ≤ l.length) 0 ⟨?_, ?_⟩ ?_
  · skip
    exact Nat.zero_le _
  · refine ent_ok rfl ?_
    simp [conj, blksOf]
  · rintro i hi
    refine sw_seq ?_
    refine sw_seq ?_
    refine sw_region hP 4 [] rfl (by kernel_rfl) (fun _ => by kernel_rfl) (by first | trivial | (simp [conj]; done) | (simp [conj] at *; (try dsimp only [Ty.den, Ty.dflt] at *); omega)) ?_
    refine sw_cond rfl (fun c3 => ?_) (fun c3 => ?_)
    · skip
      have hlt : i < l.length := by simpa using c3
      have hb1 := blks_len hpre (i := i)
      have hb2 := hpre.2 _ (List.getElem_mem hlt)
      refine sw_skip ?_
      refine sw_seq ?_
      refine sw_block ?_
      refine sw_region hP 5 [] rfl (by kernel_rfl) (fun _ => by kernel_rfl) ?_ ?_
      · skip
        simp [conj, maxL, List.getElem?_eq_getElem hlt]
        omega
      refine sw_region hP 6 [] rfl (by kernel_rfl) (fun _ => by kernel_rfl) (by first | trivial | (simp [conj]; done) | (simp [conj] at *; (try dsimp only [Ty.den, Ty.dflt] at *); omega)) ?_
      refine ⟨i + 1, ?_, ?_, ent_ok rfl ?_⟩
      · skip
        exact hlt
      · skip
        omega
      · skip
        simp [conj, List.getElem?_eq_getElem hlt]
        exact flat_next hlt
    · skip
      obtain rfl : i = l.length := by simp at c3; omega
      refine sw_exit ?_
      refine sw_seq ?_
      refine sw_region hP 5 [] rfl (by kernel_rfl) (fun _ => by kernel_rfl) (by first | trivial | (simp [conj]; done) | (simp [conj] at *; (try dsimp only [Ty.den, Ty.dflt] at *); omega)) ?_
      refine sw_ret ⟨.inl rfl, _, rfl, ?_⟩
      simp [conj]

def cRootD : Ctr := ⟨46, [.ref T_l6Rd pF, .val false TI pF], fun x => ROk x.1 700 ∧ 3 ≤ x.2.1 ∧ x.2.1 ≤ 4, fun x => (.v true [.d TI pF (rootD x.1 x.2.1).1.1, .own ⟨1, 0, 0⟩], [(⟨0, 0, 0⟩, rdA (rootD x.1 x.2.1).2), (⟨1, 0, 0⟩, .sl T_Vol (.pr (.all .p) (.sl .w (.all .p))) (rootD x.1 x.2.1).1.2)])⟩
theorem cRootD_ok : CtrOk Proofs.Tryd.prog cRootD := by
  have hP := (((((((Prg.none ttok mtok).and cPick_ok).and cOf_ok).and cFind_ok).and cPtrP_ok).and cAllP_ok).and cMeet_ok)
  refine ctr_of_body hP cRootD (fn := Proofs.Tryd.f46) (rts := [.cell 4 25]) Proofs.Tryd.func46 rfl (by kernel_rfl) rfl rfl ?_
  rintro ⟨(R : Rd), (d : Int), ⟨⟩⟩ _ ⟨hr, hd3⟩
  try dsimp only [Ty.den, Mode.den, mdens] at hr
  try dsimp only [Ty.den, Mode.den, mdens] at hd3
  refine ⟨rfl, ?_⟩
  replace hr : ROk R 700 := hr
  replace hd3 : 3 ≤ d ∧ d ≤ 4 := hd3
  have hr1 : ROk (nx R) 699 := hr.nx (by omega)
  have hr2 : ROk (nx (nx R)) 698 := hr1.nx (by omega)
  have b5 := pk_bd hr1 (by omega) (n := 5) (by omega)
  refine sw_seq ?_
  refine sw_region hP 1 [] rfl (by kernel_rfl) (fun _ => by kernel_rfl) (by first | trivial | (simp [conj]; done) | (simp [conj] at *; (try dsimp only [Ty.den, Ty.dflt] at *); omega)) ?_
  refine sw_seq ?_
  refine sw_region hP 2 [] rfl (by kernel_rfl) (fun _ => by kernel_rfl) ?_ ?_
  · skip
    simp only [conj, List.nil_append, List.cons_append, List.append_nil, List.append_assoc, inR_i64, true_and, and_true, Int.toNat_natCast]
    try dsimp only [Ty.den, Ty.dflt]
    repeat' apply And.intro
    all_goals first | omega | assumption | exact hr.le (by omega) | trivial
  refine sw_seq ?_
  refine sw_seq ?_
  refine sw_region hP 3 [] rfl (by kernel_rfl) (fun _ => by kernel_rfl) ?_ ?_
  · skip
    simp only [conj, List.nil_append, List.cons_append, List.append_nil, List.append_assoc, inR_i64, true_and, and_true, Int.toNat_natCast]
    try dsimp only [Ty.den, Ty.dflt]
    repeat' apply And.intro
    all_goals first | omega | assumption | exact hr1.le (by omega) | trivial
  refine sw_block ?_
  refine sw_loop (ι := Nat × List Vol_ × Rd) (fun ⟨m, vs, Q⟩ => ⟨[.v false [.ptr ⟨0, 0, 0⟩ 0], sInt .i64 d, .junk, .junk, .v false [.ptr ⟨1, 0, 0⟩ 0], .v false [.ptr ⟨2, 4, 0⟩ 0], sInt .i64 (m : Int), .junk, .junk, .junk, .junk, .junk, .junk, .junk, .junk, .junk, .junk, .junk, .junk, .junk, .junk, .junk, .junk, .junk, .junk, .junk, .junk, .junk, .junk, .junk, .junk, .junk, .junk, .junk, .junk, .junk, .junk, .junk, .junk, .junk, .junk, .junk, .junk, .junk, .junk, .junk, .junk, .junk, .junk, .junk, .junk, .junk, .junk, .junk, .junk, .junk, .junk, .junk, .junk, .junk, .junk, .junk, .junk, .junk, .junk, .junk, .junk, .junk, .junk, .junk, .junk, .junk, .junk, .junk, .junk, .junk, .junk, .junk, .junk, .junk, .junk, .junk, .junk, .junk, .junk, .junk, .junk, .junk, .junk, .junk, .junk, .junk, .junk, .junk, .junk, .junk, .junk, .junk, .junk, .junk, .junk, .junk, .junk, .junk, .junk, .junk, .junk, .junk, .junk, .junk], [(⟨0, 0, 0⟩, rdA Q), (⟨1, 0, 0⟩, .var [.d TI pF 0, .d (.sl T_Vol) pF []]), (⟨2, 4, 0⟩, .var [.d TI pF (pk R 9), .own ⟨0, 9, 0⟩]), (⟨0, 9, 0⟩, .sl T_Vol (.pr (.all .p) (.sl .w (.all .p))) vs)], 3, [[.v false [.ptr ⟨0, 0, 0⟩ 0], .junk]]⟩) (fun ⟨m, vs, Q⟩ => m) (fun ⟨m, vs, Q⟩ => ROk Q (130 * m) ∧ vs.length + m ≤ 4 ∧ (∀ v ∈ vs, v.2.length = 3) ∧ volGo d m vs Q = (volGo d (pk (nx R) 5).toNat [] (nx (nx R)))) ((pk (nx R) 5).toNat, [], nx (nx R)) ⟨?_, ?_⟩ ?_
  · skip
    exact ⟨hr2.le (by omega), by show 0 + (pk (nx R) 5).toNat ≤ 4; omega, by simp, rfl⟩
  · refine ent_ok rfl ?_
    simp [conj]
    show pk (nx R) 5 = max (pk (nx R) 5) 0
    omega
  · rintro ⟨m, vs, Q⟩ ⟨hQ, hvl, hv3, hgo⟩
    refine sw_seq ?_
    refine sw_seq ?_
    refine sw_region hP 4 [] rfl (by kernel_rfl) (fun _ => by kernel_rfl) (by first | trivial | (simp [conj]; done) | (simp [conj] at *; (try dsimp only [Ty.den, Ty.dflt] at *); omega)) ?_
    refine sw_cond rfl (fun c3 => ?_) (fun c3 => ?_)
    · skip
      obtain ⟨n, rfl⟩ : ∃ n, m = n + 1 := ⟨m - 1, by have h := c3; simp at h; omega⟩
      have hQ1 : ROk (nx Q) (130 * n + 121) := hQ.nx (by push_cast; omega)
      have hal := blksOf_len (by omega) hv3
      have hsm := vols_small (by omega) hv3
      simp only [volGo] at hgo
      have h6 := pk_bd hQ (by omega) (n := 6) (by omega)
      refine sw_skip ?_
      refine sw_seq ?_
      refine sw_block ?_
      refine sw_seq ?_
      refine sw_region hP 5 [] rfl (by kernel_rfl) (fun _ => by kernel_rfl) ?_ ?_
      · skip
        simp only [conj, List.nil_append, List.cons_append, List.append_nil, List.append_assoc, inR_i64, true_and, and_true, Int.toNat_natCast]
        try dsimp only [Ty.den, Ty.dflt]
        repeat' apply And.intro
        all_goals first | omega | assumption | exact hQ.le (by push_cast; omega) | trivial | (show 0 < 6; decide)
      refine sw_seq ?_
      refine sw_seq ?_
      refine sw_ent (st' := ⟨[.v false [.ptr ⟨0, 0, 0⟩ 0], sInt .i64 d, .junk, .junk, .v false [.ptr ⟨1, 0, 0⟩ 0], .v false [.ptr ⟨2, 4, 0⟩ 0], sInt .i64 (((n + 1 : Nat)) : Int), .v false [.ptr ⟨5, 5, 0⟩ 0], .junk, .junk, .junk, .junk, .junk, .junk, .junk, .junk, .junk, .junk, .junk, .junk, .junk, .junk, .junk, .junk, .junk, .junk, .junk, .junk, .junk, .junk, .junk, .junk, .junk, .junk, .junk, .junk, .junk, .junk, .junk, .junk, .junk, .junk, .junk, .junk, .junk, .junk, .junk, .junk, .junk, .junk, .junk, .junk, .junk, .junk, .junk, .junk, .junk, .junk, .junk, .junk, .junk, .junk, .junk, .junk, .junk, .junk, .junk, .junk, .junk, .junk, .junk, .junk, .junk, .junk, .junk, .junk, .junk, .junk, .junk, .junk, .junk, .junk, .junk, .junk, .junk, .junk, .junk, .junk, .junk, .junk, .junk, .junk, .junk, .junk, .junk, .junk, .junk, .junk, .junk, .junk, .junk, .junk, .junk, .junk, .junk, .junk, .junk, .junk, .junk, .junk], [(⟨0, 0, 0⟩, rdA (nx Q)), (⟨1, 0, 0⟩, .var [.d TI pF 0, .d (.sl T_Vol) pF []]), (⟨2, 4, 0⟩, .var [.d TI pF (pk R 9), .own ⟨0, 9, 0⟩]), (⟨0, 9, 0⟩, .sl T_Vol (.pr (.all .p) (.sl .w (.all .p))) vs), (⟨5, 5, 0⟩, .var [.d .str pF (nmD Q), .own ⟨5, 3, 0⟩]), (⟨5, 3, 0⟩, .sl T_Ptr pF [zP, zP, zP])], 5, [[.v false [.ptr ⟨0, 0, 0⟩ 0], .junk]]⟩) (ent_ok rfl ?_) ?_
      · skip
        simp [conj, nmD, nms, bytesL, zP]
      refine sw_region hP 6 [] rfl (by kernel_rfl) (fun _ => by kernel_rfl) (by first | trivial | (simp [conj]; done) | (simp [conj] at *; (try dsimp only [Ty.den, Ty.dflt] at *); omega)) ?_
      refine sw_cond rfl (fun c6 => ?_) (fun c6 => ?_)
      · skip
        have hn : hasN_ vs (nmD Q) = true := by rw [hasN_idx]; exact c6
        rw [if_pos hn] at hgo
        refine sw_exit ?_
        refine sw_region hP 7 [] rfl (by kernel_rfl) (fun _ => by kernel_rfl) (by first | trivial | (simp [conj]; done) | (simp [conj] at *; (try dsimp only [Ty.den, Ty.dflt] at *); omega)) ?_
        refine ⟨(n, vs, nx Q), ?_, ?_, ent_ok rfl ?_⟩
        · skip
          exact ⟨hQ.nx (by push_cast; omega), by show vs.length + n ≤ 4; omega, hv3, hgo⟩
        · skip
          show n < n + 1
          omega
        · skip
          simp [conj]
      · skip
        have hn : ¬ hasN_ vs (nmD Q) = true := by
          have h6c : decide (0 ≤ idxF (fun v : Vol_ => decide (v.1 = nmD Q)) vs) = false := c6
          rw [hasN_idx, h6c]; decide
        rw [if_neg hn] at hgo
        refine sw_skip ?_
        refine sw_seq ?_
        refine sw_seq ?_
        refine sw_region hP 7 [] rfl (by kernel_rfl) (fun _ => by kernel_rfl) (by first | trivial | (simp [conj]; done) | (simp [conj] at *; (try dsimp only [Ty.den, Ty.dflt] at *); omega)) ?_
        refine sw_block ?_
        refine sw_loop (ι := Nat × List Ptr_ × Rd) (fun ⟨k, bl, P⟩ => ⟨[.v false [.ptr ⟨0, 0, 0⟩ 0], sInt .i64 d, .junk, .junk, .v false [.ptr ⟨1, 0, 0⟩ 0], .v false [.ptr ⟨2, 4, 0⟩ 0], sInt .i64 (((n + 1 : Nat)) : Int), .v false [.ptr ⟨5, 5, 0⟩ 0], sInt .i64 (k : Int), .junk, .junk, .junk, .junk, .junk, .junk, .junk, .junk, .junk, .junk, .junk, .junk, .junk, .junk, .junk, .junk, .junk, .junk, .junk, .junk, .junk, .junk, .junk, .junk, .junk, .junk, .junk, .junk, .junk, .junk, .junk, .junk, .junk, .junk, .junk, .junk, .junk, .junk, .junk, .junk, .junk, .junk, .junk, .junk, .junk, .junk, .junk, .junk, .junk, .junk, .junk, .junk, .junk, .junk, .junk, .junk, .junk, .junk, .junk, .junk, .junk, .junk, .junk, .junk, .junk, .junk, .junk, .junk, .junk, .junk, .junk, .junk, .junk, .junk, .junk, .junk, .junk, .junk, .junk, .junk, .junk, .junk, .junk, .junk, .junk, .junk, .junk, .junk, .junk, .junk, .junk, .junk, .junk, .junk, .junk, .junk, .junk, .junk, .junk, .junk, .junk], [(⟨0, 0, 0⟩, rdA P), (⟨1, 0, 0⟩, .var [.d TI pF 0, .d (.sl T_Vol) pF []]), (⟨2, 4, 0⟩, .var [.d TI pF (pk R 9), .own ⟨0, 9, 0⟩]), (⟨0, 9, 0⟩, .sl T_Vol (.pr (.all .p) (.sl .w (.all .p))) vs), (⟨5, 5, 0⟩, .var [.d .str pF (nmD Q), .own ⟨5, 3, 0⟩]), (⟨5, 3, 0⟩, .sl T_Ptr pF bl)], 7, [[.v false [.ptr ⟨0, 0, 0⟩ 0], .junk]]⟩) (fun ⟨k, bl, P⟩ => 3 - k) (fun ⟨k, bl, P⟩ => k ≤ 3 ∧ bl.length = 3 ∧ ROk P (130 * n + 40 * (3 - k : Nat)) ∧ blkGo d (blksOf vs) (3 - k) k bl P = (blkGo d (blksOf vs) 3 0 [zP, zP, zP] (nx Q))) (0, [zP, zP, zP], nx Q) ⟨?_, ?_⟩ ?_
        · skip
          exact ⟨Nat.zero_le _, rfl, hQ1.le (by omega), rfl⟩
        · refine ent_ok rfl ?_
          simp [conj]
        · rintro ⟨k, bl, P⟩ ⟨hk, hbl, hRP, hgk⟩
          refine sw_seq ?_
          refine sw_seq ?_
          refine sw_region hP 8 [] rfl (by kernel_rfl) (fun _ => by kernel_rfl) (by first | trivial | (simp [conj]; done) | (simp [conj] at *; (try dsimp only [Ty.den, Ty.dflt] at *); omega)) ?_
          refine sw_cond rfl (fun c8 => ?_) (fun c8 => ?_)
          · skip
            have hk3 : k < 3 := by have h := c8; simp at h; omega
            obtain ⟨j, hj⟩ : ∃ j, 3 - k = j + 1 := ⟨2 - k, by omega⟩
            have hj2 : 3 - (k + 1) = j := by omega
            rw [hj] at hgk hRP
            simp only [blkGo] at hgk
            refine sw_skip ?_
            refine sw_seq ?_
            refine sw_block ?_
            refine sw_seq ?_
            refine sw_region hP 9 [] rfl (by kernel_rfl) (fun _ => by kernel_rfl) ?_ ?_
            · skip
              simp only [conj, List.nil_append, List.cons_append, List.append_nil, List.append_assoc, inR_i64, true_and, and_true, Int.toNat_natCast]
              try dsimp only [Ty.den, Ty.dflt]
              repeat' apply And.intro
              all_goals first | omega | assumption | exact hRP.le (by push_cast; omega) | trivial | exact hd3.1 | exact hd3.2
            refine sw_seq ?_
            obtain ⟨q, hq⟩ : ∃ q, ptrD P d = q := ⟨_, rfl⟩
            have hqo : ROk q.2 (130 * n + 40 * j + 10) := hq ▸ ptrD_ok (by omega) (hRP.le (by push_cast; omega)) hd3
            have hqo2 : ROk (ptrD P d).2 1 := by rw [hq]; exact hqo.le (by omega)
            have hqx : ROk (nx q.2) (130 * n + 40 * j + 9) := hqo.nx (by omega)
            have hbs := blkStep_ok (m := 130 * n + 40 * j) (all := blksOf vs) (bl := bl) (k := k) (R := P) (by omega) (hRP.le (by push_cast; omega)) hd3
            refine sw_region hP 10 [] rfl (by kernel_rfl) (fun _ => by kernel_rfl) ?_ ?_
            · skip
              simp only [conj, List.nil_append, List.cons_append, List.append_nil, List.append_assoc, inR_i64, true_and, and_true, Int.toNat_natCast]
              try dsimp only [Ty.den, Ty.dflt]
              repeat' apply And.intro
              all_goals first | omega | assumption | exact hqo2 | trivial
            refine sw_seq ?_
            refine sw_region hP 11 [] rfl (by kernel_rfl) (fun _ => by kernel_rfl) ?_ ?_
            · skip
              simp only [conj, List.nil_append, List.cons_append, List.append_nil, List.append_assoc, inR_i64, true_and, and_true, Int.toNat_natCast]
              try dsimp only [Ty.den, Ty.dflt]
              repeat' apply And.intro
              all_goals first | omega | assumption | exact hsm.1 | trivial | exact hsm.2
            refine sw_seq ?_
            refine sw_seq ?_
            refine sw_region hP 12 [] rfl (by kernel_rfl) (fun _ => by kernel_rfl) (by first | trivial | (simp [conj]; done) | (simp [conj] at *; (try dsimp only [Ty.den, Ty.dflt] at *); omega)) ?_
            refine sw_block ?_
            refine sw_loop (ι := Nat) (fun i => ⟨[.v false [.ptr ⟨0, 0, 0⟩ 0], sInt .i64 d, .junk, .junk, .v false [.ptr ⟨1, 0, 0⟩ 0], .v false [.ptr ⟨2, 4, 0⟩ 0], sInt .i64 (((n + 1 : Nat)) : Int), .v false [.ptr ⟨5, 5, 0⟩ 0], sInt .i64 (k : Int), .v false [.ptr ⟨9, 3, 0⟩ 0], sBool (decide (0 < pk q.2 3) && meetsNo q.1 ((blksOf vs).take i)), .v false [.own ⟨11, 1, 0⟩], sInt .i64 (i : Int), .junk, .junk, .junk, .junk, .junk, .junk, .junk, .junk, .junk, .junk, .junk, .junk, .junk, .junk, .junk, .junk, .junk, .junk, .junk, .junk, .junk, .junk, .junk, .junk, .junk, .junk, .junk, .junk, .junk, .junk, .junk, .junk, .junk, .junk, .junk, .junk, .junk, .junk, .junk, .junk, .junk, .junk, .junk, .junk, .junk, .junk, .junk, .junk, .junk, .junk, .junk, .junk, .junk, .junk, .junk, .junk, .junk, .junk, .junk, .junk, .junk, .junk, .junk, .junk, .junk, .junk, .junk, .junk, .junk, .junk, .junk, .junk, .junk, .junk, .junk, .junk, .junk, .junk, .junk, .junk, .junk, .junk, .junk, .junk, .junk, .junk, .junk, .junk, .junk, .junk, .junk, .junk, .junk, .junk, .junk, .junk, .junk], [(⟨0, 0, 0⟩, rdA (nx q.2)), (⟨1, 0, 0⟩, .var [.d TI pF 0, .d (.sl T_Vol) pF []]), (⟨2, 4, 0⟩, .var [.d TI pF (pk R 9), .own ⟨0, 9, 0⟩]), (⟨0, 9, 0⟩, .sl T_Vol (.pr (.all .p) (.sl .w (.all .p))) vs), (⟨5, 5, 0⟩, .var [.d .str pF (nmD Q), .own ⟨5, 3, 0⟩]), (⟨5, 3, 0⟩, .sl T_Ptr pF bl), (⟨9, 3, 0⟩, .var [.d TI pF q.1.1, .d TI pF q.1.2.1, .d (.sl T_Place) pF q.1.2.2]), (⟨11, 1, 0⟩, .sl T_Ptr pF (blksOf vs))], 12, [[.v false [.ptr ⟨0, 0, 0⟩ 0], .junk]]⟩) (fun i => (blksOf vs).length - i) (fun i => i ≤ (blksOf vs).length) 0 ⟨?_, ?_⟩ ?_
            · skip
              exact Nat.zero_le _
            · refine ent_ok rfl ?_
              simp [conj, hq, meetsNo]
            · rintro i hi
              refine sw_seq ?_
              refine sw_seq ?_
              refine sw_region hP 13 [] rfl (by kernel_rfl) (fun _ => by kernel_rfl) (by first | trivial | (simp [conj]; done) | (simp [conj] at *; (try dsimp only [Ty.den, Ty.dflt] at *); omega)) ?_
              refine sw_cond rfl (fun c14 => ?_) (fun c14 => ?_)
              · skip
                have hlt : i < (blksOf vs).length := by simpa using c14
                refine sw_skip ?_
                refine sw_seq ?_
                refine sw_block ?_
                refine sw_dec hP 14 [] 1 rfl (fun g16_1 => ?_) (fun g16_1 => ?_)
                · skip
                  replace g16_1 : (decide (0 < pk q.2 3) && meetsNo q.1 ((blksOf vs).take i)) = true := g16_1
                  refine sw_region hP 14 [(1, true)] rfl (by kernel_rfl) (fun _ => by kernel_rfl) ?_ ?_
                  · skip
                    have g := g16_1
                    simp at g
                    simp [conj, List.getElem?_eq_getElem hlt]
                    repeat' apply And.intro
                    all_goals first | omega | trivial | exact g | exact g.1 | exact g.2
                  refine sw_region hP 15 [] rfl (by kernel_rfl) (fun _ => by kernel_rfl) (by first | trivial | (simp [conj]; done) | (simp [conj] at *; (try dsimp only [Ty.den, Ty.dflt] at *); omega)) ?_
                  refine ⟨i + 1, ?_, ?_, ent_ok rfl ?_⟩
                  · skip
                    exact hlt
                  · skip
                    omega
                  · skip
                    rw [mN_next hlt]
                    simp [conj, g16_1, List.getElem?_eq_getElem hlt]
                · skip
                  replace g16_1 : (decide (0 < pk q.2 3) && meetsNo q.1 ((blksOf vs).take i)) = false := g16_1
                  refine sw_region hP 14 [(1, false)] rfl (by kernel_rfl) (fun _ => by kernel_rfl) ?_ ?_
                  · skip
                    have g := g16_1
                    simp at g
                    simp [conj, List.getElem?_eq_getElem hlt]
                    repeat' apply And.intro
                    all_goals first | omega | trivial | exact g | exact g.1 | exact g.2
                  refine sw_region hP 15 [] rfl (by kernel_rfl) (fun _ => by kernel_rfl) (by first | trivial | (simp [conj]; done) | (simp [conj] at *; (try dsimp only [Ty.den, Ty.dflt] at *); omega)) ?_
                  refine ⟨i + 1, ?_, ?_, ent_ok rfl ?_⟩
                  · skip
                    exact hlt
                  · skip
                    omega
                  · skip
                    rw [mN_next hlt]
                    simp [conj, g16_1]
              · skip
                obtain rfl : i = (blksOf vs).length := by simp at c14; omega
                refine sw_exit ?_
                refine sw_seq ?_
                refine sw_seq ?_
                refine sw_region hP 14 [] rfl (by kernel_rfl) (fun _ => by kernel_rfl) (by first | trivial | (simp [conj]; done) | (simp [conj] at *; (try dsimp only [Ty.den, Ty.dflt] at *); omega)) ?_
                refine sw_block ?_
                refine sw_loop (ι := Nat) (fun i => ⟨[.v false [.ptr ⟨0, 0, 0⟩ 0], sInt .i64 d, .junk, .junk, .v false [.ptr ⟨1, 0, 0⟩ 0], .v false [.ptr ⟨2, 4, 0⟩ 0], sInt .i64 (((n + 1 : Nat)) : Int), .v false [.ptr ⟨5, 5, 0⟩ 0], sInt .i64 (k : Int), .v false [.ptr ⟨9, 3, 0⟩ 0], sBool ((decide (0 < pk q.2 3) && meetsNo q.1 (blksOf vs)) && meetsNo q.1 (bl.take i)), .v false [.own ⟨11, 1, 0⟩], .junk, sInt .i64 (i : Int), .junk, .junk, .junk, .junk, .junk, .junk, .junk, .junk, .junk, .junk, .junk, .junk, .junk, .junk, .junk, .junk, .junk, .junk, .junk, .junk, .junk, .junk, .junk, .junk, .junk, .junk, .junk, .junk, .junk, .junk, .junk, .junk, .junk, .junk, .junk, .junk, .junk, .junk, .junk, .junk, .junk, .junk, .junk, .junk, .junk, .junk, .junk, .junk, .junk, .junk, .junk, .junk, .junk, .junk, .junk, .junk, .junk, .junk, .junk, .junk, .junk, .junk, .junk, .junk, .junk, .junk, .junk, .junk, .junk, .junk, .junk, .junk, .junk, .junk, .junk, .junk, .junk, .junk, .junk, .junk, .junk, .junk, .junk, .junk, .junk, .junk, .junk, .junk, .junk, .junk, .junk, .junk, .junk, .junk, .junk, .junk], [(⟨0, 0, 0⟩, rdA (nx q.2)), (⟨1, 0, 0⟩, .var [.d TI pF 0, .d (.sl T_Vol) pF []]), (⟨2, 4, 0⟩, .var [.d TI pF (pk R 9), .own ⟨0, 9, 0⟩]), (⟨0, 9, 0⟩, .sl T_Vol (.pr (.all .p) (.sl .w (.all .p))) vs), (⟨5, 5, 0⟩, .var [.d .str pF (nmD Q), .own ⟨5, 3, 0⟩]), (⟨5, 3, 0⟩, .sl T_Ptr pF bl), (⟨9, 3, 0⟩, .var [.d TI pF q.1.1, .d TI pF q.1.2.1, .d (.sl T_Place) pF q.1.2.2]), (⟨11, 1, 0⟩, .sl T_Ptr pF (blksOf vs))], 14, [[.v false [.ptr ⟨0, 0, 0⟩ 0], .junk]]⟩) (fun i => k - i) (fun i => i ≤ k) 0 ⟨?_, ?_⟩ ?_
                · skip
                  exact Nat.zero_le _
                · refine ent_ok rfl ?_
                  simp [conj, meetsNo]
                · rintro i hi
                  refine sw_seq ?_
                  refine sw_seq ?_
                  refine sw_region hP 15 [] rfl (by kernel_rfl) (fun _ => by kernel_rfl) (by first | trivial | (simp [conj]; done) | (simp [conj] at *; (try dsimp only [Ty.den, Ty.dflt] at *); omega)) ?_
                  refine sw_cond rfl (fun c18 => ?_) (fun c18 => ?_)
                  · skip
                    have hik : i < k := by simpa using c18
                    have hlt : i < bl.length := by omega
                    refine sw_skip ?_
                    refine sw_seq ?_
                    refine sw_block ?_
                    refine sw_dec hP 16 [] 1 rfl (fun g20_1 => ?_) (fun g20_1 => ?_)
                    · skip
                      replace g20_1 : ((decide (0 < pk q.2 3) && meetsNo q.1 (blksOf vs)) && meetsNo q.1 (bl.take i)) = true := g20_1
                      refine sw_region hP 16 [(1, true)] rfl (by kernel_rfl) (fun _ => by kernel_rfl) ?_ ?_
                      · skip
                        have g := g20_1
                        simp at g
                        simp [conj, List.getElem?_eq_getElem hlt]
                        repeat' apply And.intro
                        all_goals first | omega | trivial | exact g | exact g.2 | exact g.1 | exact g.1.1 | exact g.1.2
                      refine sw_region hP 17 [] rfl (by kernel_rfl) (fun _ => by kernel_rfl) (by first | trivial | (simp [conj]; done) | (simp [conj] at *; (try dsimp only [Ty.den, Ty.dflt] at *); omega)) ?_
                      refine ⟨i + 1, ?_, ?_, ent_ok rfl ?_⟩
                      · skip
                        exact hik
                      · skip
                        omega
                      · skip
                        rw [mN_next hlt]
                        simp [conj, g20_1, List.getElem?_eq_getElem hlt]
                    · skip
                      replace g20_1 : ((decide (0 < pk q.2 3) && meetsNo q.1 (blksOf vs)) && meetsNo q.1 (bl.take i)) = false := g20_1
                      refine sw_region hP 16 [(1, false)] rfl (by kernel_rfl) (fun _ => by kernel_rfl) ?_ ?_
                      · skip
                        have g := g20_1
                        simp at g
                        simp [conj, List.getElem?_eq_getElem hlt]
                        repeat' apply And.intro
                        all_goals first | omega | trivial | exact g | exact g.2 | exact g.1 | exact g.1.1 | exact g.1.2
                      refine sw_region hP 17 [] rfl (by kernel_rfl) (fun _ => by kernel_rfl) (by first | trivial | (simp [conj]; done) | (simp [conj] at *; (try dsimp only [Ty.den, Ty.dflt] at *); omega)) ?_
                      refine ⟨i + 1, ?_, ?_, ent_ok rfl ?_⟩
                      · skip
                        exact hik
                      · skip
                        omega
                      · skip
                        rw [mN_next hlt]
                        simp [conj, g20_1]
                  · skip
                    obtain rfl : k = i := by simp at c18; omega
                    refine sw_exit ?_
                    refine sw_seq ?_
                    refine sw_region hP 16 [] rfl (by kernel_rfl) (fun _ => by kernel_rfl) (by first | trivial | (simp [conj]; done) | (simp [conj] at *; (try dsimp only [Ty.den, Ty.dflt] at *); omega)) ?_
                    refine sw_cond rfl (fun c21 => ?_) (fun c21 => ?_)
                    · skip
                      have hc : clrB P d (blksOf vs) k bl = true := by unfold clrB; rw [hq]; exact c21
                      refine sw_region hP 17 [] rfl (by kernel_rfl) (fun _ => by kernel_rfl) ?_ ?_
                      · skip
                        simp only [conj, List.nil_append, List.cons_append, List.append_nil, List.append_assoc, inR_i64, true_and, and_true, Int.toNat_natCast]
                        try dsimp only [Ty.den, Ty.dflt]
                        repeat' apply And.intro
                        all_goals first | omega | trivial
                      refine sw_region hP 18 [] rfl (by kernel_rfl) (fun _ => by kernel_rfl) (by first | trivial | (simp [conj]; done) | (simp [conj] at *; (try dsimp only [Ty.den, Ty.dflt] at *); omega)) ?_
                      refine ⟨(k + 1, bl.set k q.1, nx q.2), ?_, ?_, ent_ok rfl ?_⟩
                      · skip
                        have hst : blkStep d (blksOf vs) k bl P = (bl.set k q.1, nx q.2) := by
                          unfold blkStep
                          simp only [hq]
                          rw [if_pos hc]
                        rw [hst] at hbs hgk
                        exact ⟨hk3, hbs.2.trans hbl, hbs.1.le (by omega), by show blkGo d _ (3 - (k + 1)) _ _ _ = _; rw [hj2]; exact hgk⟩
                      · skip
                        show 3 - (k + 1) < 3 - k
                        omega
                      · skip
                        simp [conj]
                    · skip
                      have hc : ¬ clrB P d (blksOf vs) k bl = true := by unfold clrB; rw [hq]; intro h; rw [h] at c21; cases c21
                      refine sw_seq ?_
                      refine sw_dec hP 17 [] 3 rfl (fun g23_3 => ?_) (fun g23_3 => ?_)
                      · skip
                        have hln : 0 < (blksOf vs).length := by simpa using g23_3
                        have hqy : ROk (nx (nx q.2)) (130 * n + 40 * j + 8) := hqx.nx (by omega)
                        have hby := pk_bd hqy (by omega) (n := ((blksOf vs).length : Int)) (by omega)
                        refine sw_region hP 17 [(3, true)] rfl (by kernel_rfl) (fun _ => by kernel_rfl) ?_ ?_
                        · skip
                          simp only [conj, List.nil_append, List.cons_append, List.append_nil, List.append_assoc, inR_i64, true_and, and_true, Int.toNat_natCast]
                          try dsimp only [Ty.den, Ty.dflt]
                          repeat' apply And.intro
                          all_goals first | omega | assumption | exact hqx.le (by omega) | trivial
                        refine sw_cond rfl (fun c23 => ?_) (fun c23 => ?_)
                        · skip
                          have hp0 : pk (nx q.2) 2 = 0 := by simpa using c23
                          refine sw_region hP 18 [] rfl (by kernel_rfl) (fun _ => by kernel_rfl) ?_ ?_
                          · skip
                            simp only [conj, List.nil_append, List.cons_append, List.append_nil, List.append_assoc, inR_i64, true_and, and_true, Int.toNat_natCast]
                            try dsimp only [Ty.den, Ty.dflt]
                            repeat' apply And.intro
                            all_goals first | omega | assumption | exact hqy.le (by omega) | trivial | (show 0 ≤ pk (nx (nx q.2)) ((blksOf vs).length : Int); omega) | (show pk (nx (nx q.2)) ((blksOf vs).length : Int) < _; omega) | (show (pk (nx (nx q.2)) ((blksOf vs).length : Int)).toNat < (blksOf vs).length; omega)
                          refine sw_region hP 19 [] rfl (by kernel_rfl) (fun _ => by kernel_rfl) (by first | trivial | (simp [conj]; done) | (simp [conj] at *; (try dsimp only [Ty.den, Ty.dflt] at *); omega)) ?_
                          refine ⟨(k + 1, bl.set k ((blksOf vs).getD (pk (nx (nx q.2)) (blksOf vs).length).toNat zP), nx (nx (nx q.2))), ?_, ?_, ent_ok rfl ?_⟩
                          · skip
                            have hst : blkStep d (blksOf vs) k bl P = (bl.set k ((blksOf vs).getD (pk (nx (nx q.2)) (blksOf vs).length).toNat zP), nx (nx (nx q.2))) := by
                              unfold blkStep
                              simp only [hq]
                              rw [if_neg hc, if_pos hln, if_pos hp0]
                            rw [hst] at hbs hgk
                            exact ⟨hk3, hbs.2.trans hbl, hbs.1.le (by omega), by show blkGo d _ (3 - (k + 1)) _ _ _ = _; rw [hj2]; exact hgk⟩
                          · skip
                            show 3 - (k + 1) < 3 - k
                            omega
                          · skip
                            simp [conj]
                            rfl
                        · skip
                          have hp0 : ¬ pk (nx q.2) 2 = 0 := by simpa using c23
                          refine sw_skip ?_
                          refine sw_region hP 18 [] rfl (by kernel_rfl) (fun _ => by kernel_rfl) (by first | trivial | (simp [conj]; done) | (simp [conj] at *; (try dsimp only [Ty.den, Ty.dflt] at *); omega)) ?_
                          refine ⟨(k + 1, bl, nx (nx q.2)), ?_, ?_, ent_ok rfl ?_⟩
                          · skip
                            have hst : blkStep d (blksOf vs) k bl P = (bl, nx (nx q.2)) := by
                              unfold blkStep
                              simp only [hq]
                              rw [if_neg hc, if_pos hln, if_neg hp0]
                            rw [hst] at hbs hgk
                            exact ⟨hk3, hbs.2.trans hbl, hbs.1.le (by omega), by show blkGo d _ (3 - (k + 1)) _ _ _ = _; rw [hj2]; exact hgk⟩
                          · skip
                            show 3 - (k + 1) < 3 - k
                            omega
                          · skip
                            simp [conj]
                      · skip
                        have hln : ¬ 0 < (blksOf vs).length := by simpa using g23_3
                        refine sw_region hP 17 [(3, false)] rfl (by kernel_rfl) (fun _ => by kernel_rfl) ?_ ?_
                        · skip
                          simp only [conj, List.nil_append, List.cons_append, List.append_nil, List.append_assoc, inR_i64, true_and, and_true, Int.toNat_natCast]
                          try dsimp only [Ty.den, Ty.dflt]
                          repeat' apply And.intro
                          all_goals first | omega | assumption | exact hqx.le (by omega) | trivial
                        refine sw_condF rfl ?_
                        refine sw_skip ?_
                        refine sw_region hP 18 [] rfl (by kernel_rfl) (fun _ => by kernel_rfl) (by first | trivial | (simp [conj]; done) | (simp [conj] at *; (try dsimp only [Ty.den, Ty.dflt] at *); omega)) ?_
                        refine ⟨(k + 1, bl, nx q.2), ?_, ?_, ent_ok rfl ?_⟩
                        · skip
                          have hst : blkStep d (blksOf vs) k bl P = (bl, nx q.2) := by
                            unfold blkStep
                            simp only [hq]
                            rw [if_neg hc, if_neg hln]
                          rw [hst] at hbs hgk
                          exact ⟨hk3, hbs.2.trans hbl, hbs.1.le (by omega), by show blkGo d _ (3 - (k + 1)) _ _ _ = _; rw [hj2]; exact hgk⟩
                        · skip
                          show 3 - (k + 1) < 3 - k
                          omega
                        · skip
                          simp [conj]
          · skip
            obtain rfl : k = 3 := by have h := c8; simp at h; omega
            replace hgk : (bl, P) = (blkGo d (blksOf vs) 3 0 [zP, zP, zP] (nx Q)) := hgk
            rw [← hgk] at hgo
            refine sw_exit ?_
            refine sw_region hP 9 [] rfl (by kernel_rfl) (fun _ => by kernel_rfl) ?_ ?_
            · skip
              simp only [conj, List.nil_append, List.cons_append, List.append_nil, List.append_assoc, inR_i64, true_and, and_true, Int.toNat_natCast]
              try dsimp only [Ty.den, Ty.dflt]
              simp only [maxL]
              repeat' apply And.intro
              all_goals first | omega | (show _ ≤ (9223372036854775807 : Int); simp; omega) | (simp; omega) | trivial
            refine sw_region hP 10 [] rfl (by kernel_rfl) (fun _ => by kernel_rfl) (by first | trivial | (simp [conj]; done) | (simp [conj] at *; (try dsimp only [Ty.den, Ty.dflt] at *); omega)) ?_
            refine ⟨(n, vs ++ [(nmD Q, bl)], P), ?_, ?_, ent_ok rfl ?_⟩
            · skip
              exact ⟨hRP.le (by omega), by simp; omega, fun v hv => by
                  rcases List.mem_append.1 hv with hv | hv
                  · exact hv3 v hv
                  · rw [List.mem_singleton.1 hv]; exact hbl, hgo⟩
            · skip
              show n < n + 1
              omega
            · skip
              simp [conj]
    · skip
      obtain rfl : m = 0 := by have h := c3; simp at h; omega
      replace hgo : (vs, Q) = (volGo d (pk (nx R) 5).toNat [] (nx (nx R))) := hgo
      refine sw_exit ?_
      refine sw_seq ?_
      refine sw_region hP 5 [] rfl (by kernel_rfl) (fun _ => by kernel_rfl) (by first | trivial | (simp [conj]; done) | (simp [conj] at *; (try dsimp only [Ty.den, Ty.dflt] at *); omega)) ?_
      refine sw_ret ⟨.inl rfl, _, rfl, ?_⟩
      have e1 := congrArg Prod.fst hgo
      have e2 := congrArg Prod.snd hgo
      simp only at e1 e2
      simp [conj, rootD, ← e1, ← e2]
end Go.Sx

namespace Go.Sx
open Go
set_option maxRecDepth 100000
set_option linter.unusedVariables false
set_option linter.unusedSimpArgs false
set_option maxHeartbeats 2000000

def cOff : Ctr := ⟨21, [.ref T_l6Rd pF, .val false TI pF], fun x => ROk x.1 800 ∧ 3 ≤ x.2.1 ∧ x.2.1 ≤ 4, fun x => (.v true [.d TI pF (offD x.1 x.2.1).1.1, .d (.sl T_Vol) pF (offD x.1 x.2.1).1.2], [(⟨0, 0, 0⟩, rdA (offD x.1 x.2.1).2)])⟩
theorem cOff_ok : CtrOk Proofs.Tryd.prog cOff := by
  have hP := ((((Prg.none ttok mtok).and cPick_ok).and cRootD_ok).and cSome_ok)
  refine ctr_of_body hP cOff (fn := Proofs.Tryd.f21) (rts := [.cell 4 25]) Proofs.Tryd.func21 rfl (by kernel_rfl) rfl rfl ?_
  rintro ⟨(R : Rd), (d : Int), ⟨⟩⟩ _ ⟨hr, hd3⟩
  try dsimp only [Ty.den, Mode.den, mdens] at hr
  try dsimp only [Ty.den, Mode.den, mdens] at hd3
  refine ⟨rfl, ?_⟩
  replace hr : ROk R 800 := hr
  replace hd3 : 3 ≤ d ∧ d ≤ 4 := hd3
  refine sw_seq ?_
  refine sw_region hP 1 [] rfl (by kernel_rfl) (fun _ => by kernel_rfl) (by first | trivial | (simp [conj]; done) | (simp [conj] at *; (try dsimp only [Ty.den, Ty.dflt] at *); omega)) ?_
  refine sw_seq ?_
  refine sw_region hP 2 [] rfl (by kernel_rfl) (fun _ => by kernel_rfl) ?_ ?_
  · skip
    simp only [conj, List.nil_append, List.cons_append, List.append_nil, List.append_assoc, inR_i64, true_and, and_true, Int.toNat_natCast]
    try dsimp only [Ty.den, Ty.dflt]
    repeat' apply And.intro
    all_goals first | omega | assumption | exact hr.le (by omega) | trivial | exact hd3.1 | exact hd3.2
  refine sw_seq ?_
  refine sw_seq ?_
  obtain ⟨q, hq⟩ : ∃ q, rootD R d = q := ⟨_, rfl⟩
  obtain ⟨hqo, hq4, hq3⟩ : ROk q.2 200 ∧ q.1.2.length ≤ 4 ∧ ∀ v ∈ q.1.2, v.2.length = 3 := hq ▸ rootD_ok (m := 200) (by omega) (hr.le (by omega)) hd3
  have hq1 : ROk (nx q.2) 199 := hqo.nx (by omega)
  have hq2 : ROk (nx (nx q.2)) 198 := hq1.nx (by omega)
  have b3 := pk_bd hq2 (by omega) (n := 3) (by omega)
  refine sw_ent (st' := ⟨[.v false [.ptr ⟨0, 0, 0⟩ 0], sInt .i64 d, .junk, .junk, .v false [.ptr ⟨1, 0, 0⟩ 0], .v false [.ptr ⟨2, 3, 0⟩ 0], .junk, .junk, .junk, .junk, .junk, .junk, .junk, .junk, .junk, .junk, .junk, .junk, .junk, .junk, .junk, .junk, .junk, .junk, .junk, .junk, .junk, .junk, .junk, .junk, .junk, .junk, .junk, .junk, .junk, .junk, .junk, .junk, .junk, .junk, .junk, .junk, .junk, .junk, .junk, .junk, .junk, .junk, .junk, .junk, .junk, .junk, .junk, .junk, .junk, .junk, .junk, .junk, .junk, .junk, .junk, .junk, .junk, .junk, .junk, .junk, .junk, .junk, .junk, .junk, .junk, .junk, .junk, .junk, .junk, .junk, .junk, .junk, .junk, .junk, .junk, .junk, .junk, .junk, .junk, .junk, .junk, .junk, .junk, .junk, .junk, .junk, .junk, .junk, .junk, .junk, .junk], [(⟨0, 0, 0⟩, rdA (q.2)), (⟨1, 0, 0⟩, .var [.d TI pF 0, .d (.sl T_Vol) pF []]), (⟨2, 3, 0⟩, .var [.d TI pF q.1.1, .own ⟨2, 2, 0⟩]), (⟨2, 2, 0⟩, .sl T_Vol (.pr (.all .p) (.sl .w (.all .p))) q.1.2)], 2, [[.v false [.ptr ⟨0, 0, 0⟩ 0], .junk]]⟩) (ent_ok rfl ?_) ?_
  · skip
    simp [conj, hq]
  refine sw_region hP 3 [] rfl (by kernel_rfl) (fun _ => by kernel_rfl) ?_ ?_
  · skip
    simp only [conj, List.nil_append, List.cons_append, List.append_nil, List.append_assoc, inR_i64, true_and, and_true, Int.toNat_natCast]
    try dsimp only [Ty.den, Ty.dflt]
    repeat' apply And.intro
    all_goals first | omega | assumption | exact hqo.le (by omega) | trivial
  refine sw_cond rfl (fun c2 => ?_) (fun c2 => ?_)
  · skip
    replace c2 : 0 < pk q.2 12 := by simpa using c2
    refine sw_seq ?_
    refine sw_region hP 4 [] rfl (by kernel_rfl) (fun _ => by kernel_rfl) (by first | trivial | (simp [conj]; done) | (simp [conj] at *; (try dsimp only [Ty.den, Ty.dflt] at *); omega)) ?_
    refine sw_frz ⟨2, 2, 0⟩ rfl ?_
    refine sw_ret ⟨.inl rfl, _, rfl, ?_⟩
    have ho : offD R d = (q.1, nx q.2) := by
      unfold offD
      simp only [hq]
      rw [if_pos c2]
    simp [conj, ho, v0, aX, zP, bytesL]
    try rfl
  · skip
    replace c2 : ¬ 0 < pk q.2 12 := by simpa using c2
    refine sw_skip ?_
    refine sw_seq ?_
    refine sw_seq ?_
    refine sw_region hP 4 [] rfl (by kernel_rfl) (fun _ => by kernel_rfl) ?_ ?_
    · skip
      simp only [conj, List.nil_append, List.cons_append, List.append_nil, List.append_assoc, inR_i64, true_and, and_true, Int.toNat_natCast]
      try dsimp only [Ty.den, Ty.dflt]
      repeat' apply And.intro
      all_goals first | omega | assumption | exact hq1.le (by omega) | trivial
    refine sw_block ?_
    refine sw_seq ?_
    refine sw_region hP 5 [] rfl (by kernel_rfl) (fun _ => by kernel_rfl) (by first | trivial | (simp [conj]; done) | (simp [conj] at *; (try dsimp only [Ty.den, Ty.dflt] at *); omega)) ?_
    refine sw_cond rfl (fun c7 => ?_) (fun c7 => ?_)
    · skip
      replace c7 : pk (nx q.2) 6 = 0 := by simpa using c7
      refine sw_region hP 6 [] rfl (by kernel_rfl) (fun _ => by kernel_rfl) ?_ ?_
      · skip
        simp only [conj, List.nil_append, List.cons_append, List.append_nil, List.append_assoc, inR_i64, true_and, and_true, Int.toNat_natCast]
        try dsimp only [Ty.den, Ty.dflt]
        repeat' apply And.intro
        all_goals first | omega | assumption | exact hq2.le (by omega) | trivial | (show 0 ≤ pk (nx (nx q.2)) 3; omega) | (show pk (nx (nx q.2)) 3 < 3; omega) | (show (pk (nx (nx q.2)) 3).toNat < 3; omega)
      refine sw_seq ?_
      refine sw_region hP 7 [] rfl (by kernel_rfl) (fun _ => by kernel_rfl) (by first | trivial | (simp [conj]; done) | (simp [conj] at *; (try dsimp only [Ty.den, Ty.dflt] at *); omega)) ?_
      refine sw_frz ⟨2, 2, 0⟩ rfl ?_
      refine sw_ret ⟨.inl rfl, _, rfl, ?_⟩
      have ho : offD R d = ((aX.getD (pk (nx (nx q.2)) 3).toNat 0, q.1.2), nx (nx (nx q.2))) := by
        unfold offD
        simp only [hq]
        rw [if_neg c2, if_pos c7]
      simp [conj, ho, v0, aX, zP, bytesL]
      try rfl
    · skip
      replace c7 : ¬ pk (nx q.2) 6 = 0 := by simpa using c7
      refine sw_seq ?_
      refine sw_region hP 6 [] rfl (by kernel_rfl) (fun _ => by kernel_rfl) (by first | trivial | (simp [conj]; done) | (simp [conj] at *; (try dsimp only [Ty.den, Ty.dflt] at *); omega)) ?_
      refine sw_cond rfl (fun c9 => ?_) (fun c9 => ?_)
      · skip
        replace c9 : pk (nx q.2) 6 = 1 := by simpa using c9
        refine sw_region hP 7 [] rfl (by kernel_rfl) (fun _ => by kernel_rfl) ?_ ?_
        · skip
          simp only [conj, List.nil_append, List.cons_append, List.append_nil, List.append_assoc, inR_i64, true_and, and_true, Int.toNat_natCast]
          try dsimp only [Ty.den, Ty.dflt]
          simp only [maxL]
          repeat' apply And.intro
          all_goals first | omega | (simp; omega) | trivial
        refine sw_seq ?_
        refine sw_region hP 8 [] rfl (by kernel_rfl) (fun _ => by kernel_rfl) (by first | trivial | (simp [conj]; done) | (simp [conj] at *; (try dsimp only [Ty.den, Ty.dflt] at *); omega)) ?_
        refine sw_frz ⟨7, 5, 0⟩ rfl ?_
        refine sw_ret ⟨.inl rfl, _, rfl, ?_⟩
        have ho : offD R d = ((q.1.1, q.1.2 ++ [([65], [zP, zP, zP])]), nx (nx q.2)) := by
          unfold offD
          simp only [hq]
          rw [if_neg c2, if_neg c7, if_pos c9]
        simp [conj, ho, v0, aX, zP, bytesL]
        try rfl
      · skip
        replace c9 : ¬ pk (nx q.2) 6 = 1 := by simpa using c9
        refine sw_seq ?_
        refine sw_region hP 7 [] rfl (by kernel_rfl) (fun _ => by kernel_rfl) (by first | trivial | (simp [conj]; done) | (simp [conj] at *; (try dsimp only [Ty.den, Ty.dflt] at *); omega)) ?_
        refine sw_cond rfl (fun c11 => ?_) (fun c11 => ?_)
        · skip
          replace c11 : pk (nx q.2) 6 = 2 := by simpa using c11
          refine sw_seq ?_
          refine sw_region hP 8 [] rfl (by kernel_rfl) (fun _ => by kernel_rfl) (by first | trivial | (simp [conj]; done) | (simp [conj] at *; (try dsimp only [Ty.den, Ty.dflt] at *); omega)) ?_
          refine sw_cond rfl (fun c12 => ?_) (fun c12 => ?_)
          · skip
            replace c12 : 0 < q.1.2.length := by simpa using c12
            have h30 : (q.1.2[0]).2.length = 3 := hq3 _ (List.getElem_mem c12)
            refine sw_frzIn ⟨2, 2, 0⟩ rfl ?_
            refine sw_region hP 9 [] rfl (by kernel_rfl) (fun _ => by kernel_rfl) ?_ ?_
            · skip
              simp [conj, List.getElem?_eq_getElem c12]
              omega
            refine sw_seq ?_
            refine sw_region hP 10 [] rfl (by kernel_rfl) (fun _ => by kernel_rfl) (by first | trivial | (simp [conj]; done) | (simp [conj] at *; (try dsimp only [Ty.den, Ty.dflt] at *); omega)) ?_
            refine sw_frz ⟨2, 2, 0⟩ rfl ?_
            refine sw_ret ⟨.inl rfl, _, rfl, ?_⟩
            have ho : offD R d = ((q.1.1, q.1.2.set 0 ((v0 q.1.2).1, (v0 q.1.2).2.drop 1)), nx (nx q.2)) := by
              unfold offD
              simp only [hq]
              rw [if_neg c2, if_neg c7, if_neg c9, if_pos c11, if_pos c12]
            simp [conj, ho, v0, aX, zP, bytesL]
            try rfl
          · skip
            replace c12 : ¬ 0 < q.1.2.length := by simpa using c12
            refine sw_skip ?_
            refine sw_seq ?_
            refine sw_region hP 9 [] rfl (by kernel_rfl) (fun _ => by kernel_rfl) (by first | trivial | (simp [conj]; done) | (simp [conj] at *; (try dsimp only [Ty.den, Ty.dflt] at *); omega)) ?_
            refine sw_frz ⟨2, 2, 0⟩ rfl ?_
            refine sw_ret ⟨.inl rfl, _, rfl, ?_⟩
            have ho : offD R d = (q.1, nx (nx q.2)) := by
              unfold offD
              simp only [hq]
              rw [if_neg c2, if_neg c7, if_neg c9, if_pos c11, if_neg c12]
            simp [conj, ho, v0, aX, zP, bytesL]
            try rfl
        · skip
          replace c11 : ¬ pk (nx q.2) 6 = 2 := by simpa using c11
          refine sw_seq ?_
          refine sw_region hP 8 [] rfl (by kernel_rfl) (fun _ => by kernel_rfl) (by first | trivial | (simp [conj]; done) | (simp [conj] at *; (try dsimp only [Ty.den, Ty.dflt] at *); omega)) ?_
          refine sw_cond rfl (fun c14 => ?_) (fun c14 => ?_)
          · skip
            replace c14 : pk (nx q.2) 6 = 3 := by simpa using c14
            refine sw_seq ?_
            refine sw_region hP 9 [] rfl (by kernel_rfl) (fun _ => by kernel_rfl) (by first | trivial | (simp [conj]; done) | (simp [conj] at *; (try dsimp only [Ty.den, Ty.dflt] at *); omega)) ?_
            refine sw_cond rfl (fun c15 => ?_) (fun c15 => ?_)
            · skip
              replace c15 : 0 < q.1.2.length := by simpa using c15
              have h30 : (q.1.2[0]).2.length = 3 := hq3 _ (List.getElem_mem c15)
              refine sw_region hP 10 [] rfl (by kernel_rfl) (fun _ => by kernel_rfl) ?_ ?_
              · skip
                simp only [conj, List.nil_append, List.cons_append, List.append_nil, List.append_assoc, inR_i64, true_and, and_true, Int.toNat_natCast]
                try dsimp only [Ty.den, Ty.dflt]
                repeat' apply And.intro
                all_goals first | omega | assumption | exact hq2.le (by omega) | trivial | exact hd3.1 | exact hd3.2 | (simp [List.getElem?_eq_getElem c15]; omega)
              refine sw_seq ?_
              refine sw_region hP 11 [] rfl (by kernel_rfl) (fun _ => by kernel_rfl) (by first | trivial | (simp [conj]; done) | (simp [conj] at *; (try dsimp only [Ty.den, Ty.dflt] at *); omega)) ?_
              refine sw_pack ⟨2, 2, 0⟩ T_Vol (.pr (.all .p) (.sl .w (.all .p))) rfl ?_
              refine sw_frz ⟨2, 2, 0⟩ rfl ?_
              refine sw_ret ⟨.inl rfl, _, rfl, ?_⟩
              have ho : offD R d = ((q.1.1, q.1.2.set 0 ((v0 q.1.2).1, (v0 q.1.2).2.set 0 (someD (nx (nx q.2)) d).1)), (someD (nx (nx q.2)) d).2) := by
                unfold offD
                simp only [hq]
                rw [if_neg c2, if_neg c7, if_neg c9, if_neg c11, if_pos c14, if_pos c15]
              simp [conj, ho, v0, aX, zP, bytesL]
              try rfl
            · skip
              replace c15 : ¬ 0 < q.1.2.length := by simpa using c15
              refine sw_skip ?_
              refine sw_seq ?_
              refine sw_region hP 10 [] rfl (by kernel_rfl) (fun _ => by kernel_rfl) (by first | trivial | (simp [conj]; done) | (simp [conj] at *; (try dsimp only [Ty.den, Ty.dflt] at *); omega)) ?_
              refine sw_frz ⟨2, 2, 0⟩ rfl ?_
              refine sw_ret ⟨.inl rfl, _, rfl, ?_⟩
              have ho : offD R d = (q.1, nx (nx q.2)) := by
                unfold offD
                simp only [hq]
                rw [if_neg c2, if_neg c7, if_neg c9, if_neg c11, if_pos c14, if_neg c15]
              simp [conj, ho, v0, aX, zP, bytesL]
              try rfl
          · skip
            replace c14 : ¬ pk (nx q.2) 6 = 3 := by simpa using c14
            refine sw_seq ?_
            refine sw_region hP 9 [] rfl (by kernel_rfl) (fun _ => by kernel_rfl) (by first | trivial | (simp [conj]; done) | (simp [conj] at *; (try dsimp only [Ty.den, Ty.dflt] at *); omega)) ?_
            refine sw_cond rfl (fun c17 => ?_) (fun c17 => ?_)
            · skip
              replace c17 : pk (nx q.2) 6 = 4 := by simpa using c17
              refine sw_seq ?_
              refine sw_region hP 10 [] rfl (by kernel_rfl) (fun _ => by kernel_rfl) (by first | trivial | (simp [conj]; done) | (simp [conj] at *; (try dsimp only [Ty.den, Ty.dflt] at *); omega)) ?_
              refine sw_cond rfl (fun c18 => ?_) (fun c18 => ?_)
              · skip
                replace c18 : 0 < q.1.2.length := by simpa using c18
                have h30 : (q.1.2[0]).2.length = 3 := hq3 _ (List.getElem_mem c18)
                refine sw_frzIn ⟨2, 2, 0⟩ rfl ?_
                refine sw_region hP 11 [] rfl (by kernel_rfl) (fun _ => by kernel_rfl) ?_ ?_
                · skip
                  simp only [conj, List.nil_append, List.cons_append, List.append_nil, List.append_assoc, inR_i64, true_and, and_true, Int.toNat_natCast]
                  try dsimp only [Ty.den, Ty.dflt]
                  simp only [maxL]
                  repeat' apply And.intro
                  all_goals first | omega | (simp; omega) | trivial
                refine sw_seq ?_
                refine sw_region hP 12 [] rfl (by kernel_rfl) (fun _ => by kernel_rfl) (by first | trivial | (simp [conj]; done) | (simp [conj] at *; (try dsimp only [Ty.den, Ty.dflt] at *); omega)) ?_
                refine sw_frz ⟨11, 7, 0⟩ rfl ?_
                refine sw_ret ⟨.inl rfl, _, rfl, ?_⟩
                have ho : offD R d = ((q.1.1, q.1.2 ++ [(v0 q.1.2)]), nx (nx q.2)) := by
                  unfold offD
                  simp only [hq]
                  rw [if_neg c2, if_neg c7, if_neg c9, if_neg c11, if_neg c14, if_pos c17, if_pos c18]
                simp [conj, ho, v0, aX, zP, bytesL]
                try rfl
              · skip
                replace c18 : ¬ 0 < q.1.2.length := by simpa using c18
                refine sw_skip ?_
                refine sw_seq ?_
                refine sw_region hP 11 [] rfl (by kernel_rfl) (fun _ => by kernel_rfl) (by first | trivial | (simp [conj]; done) | (simp [conj] at *; (try dsimp only [Ty.den, Ty.dflt] at *); omega)) ?_
                refine sw_frz ⟨2, 2, 0⟩ rfl ?_
                refine sw_ret ⟨.inl rfl, _, rfl, ?_⟩
                have ho : offD R d = (q.1, nx (nx q.2)) := by
                  unfold offD
                  simp only [hq]
                  rw [if_neg c2, if_neg c7, if_neg c9, if_neg c11, if_neg c14, if_pos c17, if_neg c18]
                simp [conj, ho, v0, aX, zP, bytesL]
                try rfl
            · skip
              replace c17 : ¬ pk (nx q.2) 6 = 4 := by simpa using c17
              refine sw_block ?_
              refine sw_loop (ι := List Vol_) (fun w => ⟨[.v false [.ptr ⟨0, 0, 0⟩ 0], sInt .i64 d, .junk, .junk, .v false [.ptr ⟨1, 0, 0⟩ 0], .v false [.ptr ⟨2, 3, 0⟩ 0], .junk, .junk, .junk, .junk, .junk, .junk, .junk, .junk, .junk, .junk, .junk, .junk, .junk, .junk, .junk, .junk, .junk, .junk, .junk, .junk, .junk, .junk, .junk, .junk, .junk, .junk, .junk, .junk, .junk, .junk, .junk, .junk, .junk, .junk, .junk, .junk, .junk, .junk, .junk, .junk, .junk, .junk, .junk, .junk, .junk, .junk, .junk, .junk, .junk, .junk, .junk, .junk, .junk, .junk, .junk, .junk, .junk, .junk, .junk, .junk, .junk, .junk, .junk, .junk, .junk, .junk, .junk, .junk, .junk, .junk, .junk, .junk, .junk, .junk, .junk, .junk, .junk, .junk, .junk, .junk, .junk, .junk, .junk, .junk, .junk, .junk, .junk, .junk, .junk, .junk, .junk], [(⟨0, 0, 0⟩, rdA (nx (nx q.2))), (⟨1, 0, 0⟩, .var [.d TI pF 0, .d (.sl T_Vol) pF []]), (⟨2, 3, 0⟩, .var [.d TI pF q.1.1, .own ⟨0, 9, 0⟩]), (⟨0, 9, 0⟩, .sl T_Vol (.pr (.all .p) (.sl .w (.all .p))) w)], 9, [[.v false [.ptr ⟨0, 0, 0⟩ 0], .junk]]⟩) (fun w => 5 - w.length) (fun w => w.length ≤ 5 ∧ fillGo (5 - w.length) w = fillGo (5 - q.1.2.length) q.1.2) q.1.2 ⟨?_, ?_⟩ ?_
              · skip
                exact ⟨by omega, rfl⟩
              · refine ent_ok rfl ?_
                simp [conj]
              · rintro w ⟨hwl, hgo⟩
                refine sw_seq ?_
                refine sw_seq ?_
                refine sw_region hP 10 [] rfl (by kernel_rfl) (fun _ => by kernel_rfl) (by first | trivial | (simp [conj]; done) | (simp [conj] at *; (try dsimp only [Ty.den, Ty.dflt] at *); omega)) ?_
                refine sw_cond rfl (fun c5 => ?_) (fun c5 => ?_)
                · skip
                  have hw : w.length ≤ 4 := by have h := c5; simp at h; omega
                  obtain ⟨m, hm⟩ : ∃ m, 5 - w.length = m + 1 := ⟨4 - w.length, by omega⟩
                  rw [hm] at hgo
                  have hm2 : 5 - (w.length + 1) = m := by omega
                  refine sw_skip ?_
                  refine sw_block ?_
                  refine sw_region hP 11 [] rfl (by kernel_rfl) (fun _ => by kernel_rfl) ?_ ?_
                  · skip
                    simp only [conj, List.nil_append, List.cons_append, List.append_nil, List.append_assoc, inR_i64, true_and, and_true, Int.toNat_natCast]
                    try dsimp only [Ty.den, Ty.dflt]
                    simp only [maxL]
                    repeat' apply And.intro
                    all_goals first | omega | (simp; omega) | (show (0 : Int) ≤ 107 + (w.length : Int); omega) | (show 107 + (w.length : Int) ≤ 255; omega) | trivial
                  refine ⟨w ++ [([UInt8.ofNat (107 + w.length)], [zP, zP, zP])], ?_, ?_, ent_ok rfl ?_⟩
                  · skip
                    exact ⟨by simp; omega, by rw [List.length_append, List.length_singleton, hm2]; exact hgo⟩
                  · skip
                    show 5 - (w ++ [_]).length < 5 - w.length
                    rw [List.length_append, List.length_singleton]
                    omega
                  · skip
                    simp [conj, zP]
                    generalize w.length = n at hw ⊢
                    (obtain rfl | rfl | rfl | rfl | rfl : n = 0 ∨ n = 1 ∨ n = 2 ∨ n = 3 ∨ n = 4 := by omega) <;> rfl
                · skip
                  have hw : 5 - w.length = 0 := by have h := c5; simp at h; omega
                  rw [hw] at hgo
                  replace hgo : w = fillGo (5 - q.1.2.length) q.1.2 := hgo
                  refine sw_exit ?_
                  refine sw_seq ?_
                  refine sw_region hP 11 [] rfl (by kernel_rfl) (fun _ => by kernel_rfl) (by first | trivial | (simp [conj]; done) | (simp [conj] at *; (try dsimp only [Ty.den, Ty.dflt] at *); omega)) ?_
                  refine sw_frz ⟨0, 9, 0⟩ rfl ?_
                  refine sw_ret ⟨.inl rfl, _, rfl, ?_⟩
                  have ho : offD R d = ((q.1.1, fillGo (5 - q.1.2.length) q.1.2), nx (nx q.2)) := by
                    unfold offD
                    simp only [hq]
                    rw [if_neg c2, if_neg c7, if_neg c9, if_neg c11, if_neg c14, if_neg c17]
                  rw [← hgo] at ho
                  simp [conj, ho, v0, aX, zP, bytesL]
                  try rfl
end Go.Sx

/- Roots: the program's test is the reference's. -/
namespace Go.Sx
open Go
theorem keyPK (x y : Plc) : keyEq PK x y = decide (x = y) := by
  simp only [keyEq]
  refine Bool.eq_iff_iff.2 ?_
  simp only [Bool.and_eq_true, decide_eq_true_eq]
  exact ⟨fun h => Prod.ext h.1 h.2, fun h => by rw [h]; exact ⟨rfl, rfl⟩⟩
theorem mget_mset {m : List (Plc × Ptr_)} {a b : Plc} {p : Ptr_} : mget PK (mset PK m a p) b = if b = a then some p else mget PK m b := by
  induction m with
  | nil =>
    simp only [mset, mget]
    rw [keyPK]
    by_cases h : b = a <;> simp [h]
  | cons e m ih =>
    simp only [mset]
    rw [keyPK]
    by_cases h : a = e.1
    · simp only [h, decide_true, cond_true, mget]
      rw [keyPK]
      by_cases h2 : b = e.1 <;> simp [h2]
    · simp only [h, decide_false, cond_false, mget]
      rw [keyPK, ih]
      by_cases h2 : b = e.1
      · have h3 : ¬ b = a := fun e2 => h (e2.symm.trans h2)
        simp [h2, h3]
        intro e2
        exact absurd e2.symm h
      · simp [h2]
theorem own_iff : ∀ {l m : List (Plc × Ptr_)}, ownGo m l = true ↔ (∀ e ∈ l, ∀ q, mget PK m e.1 = some q → e.2 = q) ∧ ∀ e ∈ l, ∀ f ∈ l, e.1 = f.1 → e.2 = f.2 := by
  intro l
  induction l with
  | nil => intro m; simp [ownGo]
  | cons c r ih =>
    intro m
    obtain ⟨a, p⟩ := c
    simp only [ownGo, Bool.and_eq_true]
    rw [ih]
    constructor
    · rintro ⟨h1, h2, h3⟩
      have ha : ∀ q, mget PK m a = some q → p = q := fun q hq => by rw [hq] at h1; simpa using h1
      have hp : ∀ e ∈ r, e.1 = a → e.2 = p := fun e he hea => h2 e he p (by rw [mget_mset, if_pos hea])
      refine ⟨fun e he q hq => ?_, fun e he f hf hef => ?_⟩
      · rcases List.mem_cons.1 he with rfl | he
        · exact ha q hq
        · by_cases hea : e.1 = a
          · rw [hp e he hea]; exact ha q (by rw [← hea]; exact hq)
          · exact h2 e he q (by rw [mget_mset, if_neg hea]; exact hq)
      · rcases List.mem_cons.1 he with rfl | he <;> rcases List.mem_cons.1 hf with rfl | hf
        · rfl
        · exact (hp f hf hef.symm).symm
        · exact hp e he hef
        · exact h3 e he f hf hef
    · rintro ⟨h1, h2⟩
      refine ⟨?_, fun e he q hq => ?_, fun e he f hf => h2 e (List.mem_cons_of_mem _ he) f (List.mem_cons_of_mem _ hf)⟩
      · cases hq : mget PK m a with
        | none => rfl
        | some q => have := h1 (a, p) List.mem_cons_self q hq; simpa using this
      · rw [mget_mset] at hq
        by_cases hea : e.1 = a
        · rw [if_pos hea] at hq
          cases hq
          exact h2 e (List.mem_cons_of_mem _ he) (a, p) List.mem_cons_self hea
        · rw [if_neg hea] at hq
          exact h1 e (List.mem_cons_of_mem _ he) q hq
theorem mem_pairs {ps : List Ptr_} {e : Plc × Ptr_} : e ∈ pairsOf ps ↔ e.2 ∈ ps ∧ e.1 ∈ e.2.2.2 := by
  obtain ⟨a, p⟩ := e
  simp only [pairsOf, List.mem_flatMap, List.mem_map, Prod.mk.injEq]
  constructor
  · rintro ⟨q, hq, b, hb, rfl, rfl⟩
    exact ⟨hq, hb⟩
  · rintro ⟨h1, h2⟩
    exact ⟨p, h1, a, h2, rfl, rfl⟩
theorem meet_iff {p q : Ptr_} : meetV p q = true ↔ ∃ a, a ∈ p.2.2 ∧ a ∈ q.2.2 := by
  simp only [meetV, List.any_eq_true, decide_eq_true_eq]
  constructor
  · rintro ⟨a, ha, b, hb, rfl⟩; exact ⟨a, ha, hb⟩
  · rintro ⟨a, ha, hb⟩; exact ⟨a, ha, a, hb, rfl⟩
theorem own_meet {ps : List Ptr_} : ownGo [] (pairsOf ps) = true ↔ ∀ i (h : i < ps.length), ∀ q ∈ ps.take i, meetV ps[i] q = true → ps[i] = q := by
  rw [own_iff]
  constructor
  · rintro ⟨_, h2⟩ i hi q hq hm
    obtain ⟨a, ha, hb⟩ := meet_iff.1 hm
    exact h2 (a, ps[i]) (mem_pairs.2 ⟨List.getElem_mem hi, ha⟩) (a, q) (mem_pairs.2 ⟨List.mem_of_mem_take hq, hb⟩) rfl
  · intro h
    refine ⟨fun e _ q hq => by simp [mget] at hq, fun e he f hf hef => ?_⟩
    obtain ⟨e1, e2⟩ := mem_pairs.1 he
    obtain ⟨f1, f2⟩ := mem_pairs.1 hf
    obtain ⟨i, hi, hie⟩ := List.getElem_of_mem e1
    obtain ⟨k, hk, hkf⟩ := List.getElem_of_mem f1
    rw [← hie] at e2 ⊢
    rw [← hkf] at f2 ⊢
    rcases Nat.lt_trichotomy i k with hlt | rfl | hlt
    · refine (h k hk ps[i] (List.mem_take_iff_getElem.2 ⟨i, by omega, rfl⟩) (meet_iff.2 ⟨f.1, f2, ?_⟩)).symm
      rw [← hef]; exact e2
    · rfl
    · refine h i hi ps[k] (List.mem_take_iff_getElem.2 ⟨k, by omega, rfl⟩) (meet_iff.2 ⟨e.1, e2, ?_⟩)
      rw [hef]; exact f2
theorem ptrV_W {d : Int} {p : Ptr_} (h : poolV d = true) : ptrV d p = ptrW d p := by
  unfold ptrV ptrW
  rw [h, Bool.true_and]
  by_cases h0 : p.1 = 0
  · rw [if_pos h0]
    have h1 : sizeV d p = false := by simp [sizeV, inV, h0]
    rw [h1]
    simp [noneV, h0]
  · rw [if_neg h0]
    simp [noneV, h0]
theorem volF_G {d : Int} {pre : List Vol_} {v : Vol_} : volF d pre v = (volG pre v && v.2.all (ptrV d)) := by
  simp only [volF, volG, Bool.and_assoc]
theorem chk_volF {d : Int} {l : List Vol_} : chk (volF d) l = true ↔ chk volG l = true ∧ ∀ p ∈ blksOf l, ptrV d p = true := by
  simp only [chk_iff, volF_G, Bool.and_eq_true, List.all_eq_true]
  constructor
  · intro h
    refine ⟨fun i hi => (h i hi).1, fun p hp => ?_⟩
    obtain ⟨v, hv, hp⟩ := List.mem_flatMap.1 hp
    obtain ⟨i, hi, rfl⟩ := List.getElem_of_mem hv
    exact (h i hi).2 p hp
  · rintro ⟨h1, h2⟩ i hi
    exact ⟨h1 i hi, fun p hp => h2 p (List.mem_flatMap.2 ⟨l[i], List.getElem_mem hi, hp⟩)⟩
theorem chk_ptrG {d : Int} {ps : List Ptr_} : chk (ptrG d) ps = true ↔ (∀ p ∈ ps, ptrW d p = true) ∧ ∀ i (h : i < ps.length), ∀ q ∈ ps.take i, meetV ps[i] q = true → ps[i] = q := by
  simp only [chk_iff, ptrG, Bool.and_eq_true]
  constructor
  · intro h
    refine ⟨fun p hp => ?_, fun i hi q hq hm => ?_⟩
    · obtain ⟨i, hi, rfl⟩ := List.getElem_of_mem hp
      exact (h i hi).1
    · have h2 := (h i hi).2
      simp only [Bool.not_eq_true', List.any_eq_false, Bool.and_eq_true, not_and] at h2
      have := h2 q hq hm
      simpa using this
  · rintro ⟨h1, h2⟩ i hi
    refine ⟨h1 _ (List.getElem_mem hi), ?_⟩
    simp only [Bool.not_eq_true', List.any_eq_false, Bool.and_eq_true, not_and]
    intro q hq hm
    have := h2 i hi q hq hm
    simpa using this
theorem rootV_S {d : Int} {r : Root_} : rootV d r = rootS d r := by
  unfold rootV rootS
  cases hp : poolV d with
  | false => rfl
  | true =>
    simp only [Bool.true_and]
    congr 1
    refine Bool.eq_iff_iff.2 ?_
    simp only [volsV, volsS, Bool.and_eq_true, chk_volF, chk_ptrG, own_meet, decide_eq_true_eq]
    have hw : (∀ p ∈ blksOf r.2, ptrV d p = true) ↔ ∀ p ∈ blksOf r.2, ptrW d p = true := by simp only [ptrV_W hp]
    rw [hw]
    constructor
    · rintro ⟨⟨⟨a, b⟩, c⟩, e⟩; exact ⟨c, a, b, e⟩
    · rintro ⟨c, a, b, e⟩; exact ⟨⟨⟨a, b⟩, c⟩, e⟩
theorem line_all {l : List Vol_} (h : ∀ v ∈ l, ∀ p ∈ v.2, inR .i64 p.1 ∧ inR .i64 p.2.1 ∧ ∀ a ∈ p.2.2, inR .i64 a.1 ∧ inR .i64 a.2) (hs : SmallR l) : ∀ v ∈ l, (volT v).length ≤ 1000 := by
  intro v hv
  obtain ⟨h1, h2, h3⟩ := hs.2 v hv
  have h4 := cat_len (f := lineV) (m := 300) (l := v.2) fun p hp => by
    obtain ⟨d, hd⟩ := h3 p hp
    obtain ⟨a, b, c⟩ := h v hv p hp
    exact lineV_len' a b c hd
  unfold volT
  simp only [List.length_append, List.length_cons, List.length_nil, tVol]
  rw [h2] at h4
  omega
theorem body_len {d tg : Int} {l : List Vol_} (h0 : inR .i64 tg) (h : ∀ v ∈ l, ∀ p ∈ v.2, inR .i64 p.1 ∧ inR .i64 p.2.1 ∧ ∀ a ∈ p.2.2, inR .i64 a.1 ∧ inR .i64 a.2) (hr : rootV d ((tg, l) : Root_) = true) : (bodyV ((tg, l) : Root_)).length ≤ 5000 := by
  have hs := rootV_small hr
  have h4 := cat_len (f := volT) (m := 1000) (l := l) (line_all h hs)
  have h5 : l.length ≤ 4 := hs.1
  have h6 := itoaV_len h0
  unfold bodyV
  simp only [List.length_append, List.length_cons, List.length_nil, tRoot]
  omega
end Go.Sx

/- Roots drawn; what is ok with fewer disks is ok with more: plain. -/
namespace Go.Sx
open Go
def drN (code : List Int) : Int := 3 + pk (rd0 code) 2
def drR (code : List Int) : Root_ := (offD (nx (rd0 code)) (drN code)).1
def drP (code : List Int) : Ptr_ := (someD (nx (rd0 code)) (drN code)).1
def drQ (code : List Int) : Rd := (someD (nx (rd0 code)) (drN code)).2
def aN : List Int := [2, 5, 0]
def drM (code : List Int) : Int := if pk (drQ code) 12 = 0 then aN.getD (pk (nx (drQ code)) 3).toNat 0 else drN code
theorem drN_bd {code : List Int} (h : ROk (rd0 code) 3000) : 3 ≤ drN code ∧ drN code ≤ 4 := by
  have := pk_bd h (by omega) (n := 2) (by omega)
  unfold drN; omega
theorem someD_ok {R : Rd} {d m : Int} (hm : 0 ≤ m) (h : ROk R (m + 40)) (hd : 3 ≤ d ∧ d ≤ 4) : ROk (someD R d).2 m := by
  have h0 : ROk (nx R) (m + 39) := h.nx (by omega)
  have h1 : ROk (ptrD (nx R) d).2 (m + 9) := ptrD_ok (m := m + 9) (by omega) (h0.le (by omega)) hd
  have h2 : ROk (nx (ptrD (nx R) d).2) (m + 8) := h1.nx (by omega)
  have h3 : ROk (nx (nx (ptrD (nx R) d).2)) (m + 7) := h2.nx (by omega)
  unfold someD
  simp only
  split
  · exact h0.le (by omega)
  · split
    · exact h3.le (by omega)
    · split
      · exact h3.le (by omega)
      · split
        · exact h3.le (by omega)
        · split
          · exact h2.le (by omega)
          · split <;> exact h2.le (by omega)
theorem chk_mono {α : Type} {f g : List α → α → Bool} (h : ∀ pre a, f pre a = true → g pre a = true) {l : List α} (hl : chk f l = true) : chk g l = true := by
  rw [chk_iff] at hl ⊢
  exact fun i hi => h _ _ (hl i hi)
theorem poolV_iff {d : Int} : poolV d = true ↔ 3 ≤ d ∧ d ≤ 4 := by simp [poolV, inV]
theorem placeF_wide {d : Int} (hd : d ≤ 4) (pre : List Plc) (a : Plc) (h : placeF d pre a = true) : placeF 4 pre a = true := by
  simp only [placeF, placeV, Bool.and_eq_true, decide_eq_true_eq] at h ⊢
  exact ⟨⟨h.1.1, by omega, h.1.2.2⟩, h.2⟩
theorem mostV_wide {d : Int} (h : 3 ≤ d ∧ d ≤ 4) : mostV d ≤ mostV 4 := by
  obtain rfl | rfl : d = 3 ∨ d = 4 := by omega
  · decide
  · decide
theorem sizeV_wide {d : Int} {p : Ptr_} (hd : 3 ≤ d ∧ d ≤ 4) (h : sizeV d p = true) : sizeV 4 p = true := by
  have hm := mostV_wide hd
  simp only [sizeV, inV, Bool.and_eq_true, decide_eq_true_eq] at h ⊢
  exact ⟨⟨h.1.1, by omega⟩, h.2⟩
theorem ptrV_wide {d : Int} {p : Ptr_} (h : ptrV d p = true) : ptrV 4 p = true := by
  simp only [ptrV, Bool.and_eq_true, Bool.or_eq_true] at h ⊢
  obtain ⟨hd, h⟩ := h
  have hd2 := poolV_iff.1 hd
  refine ⟨rfl, h.imp id fun h => ⟨sizeV_wide hd2 h.1, chk_mono (placeF_wide hd2.2) h.2⟩⟩
theorem volF_wide {d : Int} (pre : List Vol_) (v : Vol_) (h : volF d pre v = true) : volF 4 pre v = true := by
  simp only [volF, Bool.and_eq_true, List.all_eq_true] at h ⊢
  exact ⟨h.1, h.2.1, h.2.2.1, fun p hp => ptrV_wide (h.2.2.2 p hp)⟩
theorem rootV_wide {d : Int} {r : Root_} (h : rootV d r = true) : rootV 4 r = true := by
  simp only [rootV, volsV, Bool.and_eq_true] at h ⊢
  exact ⟨rfl, h.2.1, ⟨chk_mono volF_wide h.2.2.1.1, h.2.2.1.2⟩, h.2.2.2⟩
theorem rootT_wide {d : Int} {r : Root_} (h : rootV d r = true) : rootT 4 r = rootT d r := by
  unfold rootT; rw [if_pos h, if_pos (rootV_wide h)]
theorem ptrV_P {d : Int} {p : Ptr_} : ptrV d p = (poolV d && ptrW d p) := by
  cases h : poolV d with
  | true => rw [ptrV_W h, Bool.true_and]
  | false => simp [ptrV, h]
end Go.Sx

namespace Go.Sx
open Go
set_option maxRecDepth 100000
set_option linter.unusedVariables false
set_option linter.unusedSimpArgs false
set_option maxHeartbeats 2000000

def cDrR : Ctr := ⟨6, [.val false TB pF], fun x => True, fun x => (.tup [(false, [.d TI pF (drN x.1)]), (true, [.d TI pF (drR x.1).1, .d (.sl T_Vol) pF (drR x.1).2])], [])⟩
theorem cDrR_ok : CtrOk Proofs.Tryd.prog cDrR := by
  have hP := ((((Prg.none ttok mtok).and cOpen_ok).and cDisksD_ok).and cOff_ok)
  refine ctr_of_body hP cDrR (fn := Proofs.Tryd.f6) (rts := [.tmp 2, .cell 3 25]) Proofs.Tryd.func6 rfl (by kernel_rfl) rfl rfl ?_
  rintro ⟨(code : List Int), ⟨⟩⟩ ⟨hdc, _⟩ _
  try dsimp only [Ty.den, Mode.den, mdens] at _
  refine ⟨rfl, ?_⟩
  have h0 : ROk (rd0 code) 3000 := rd0_ok hdc.2
  have h1 : ROk (nx (rd0 code)) 2999 := h0.nx (by omega)
  have hn := drN_bd h0
  refine sw_seq ?_
  refine sw_region hP 1 [] rfl (by kernel_rfl) (fun _ => by kernel_rfl) (by first | trivial | (simp [conj]; done) | (simp [conj] at *; (try dsimp only [Ty.den, Ty.dflt] at *); omega)) ?_
  refine sw_seq ?_
  refine sw_region hP 2 [] rfl (by kernel_rfl) (fun _ => by kernel_rfl) (by first | trivial | (simp [conj]; done) | (simp [conj] at *; (try dsimp only [Ty.den, Ty.dflt] at *); omega)) ?_
  refine sw_seq ?_
  refine sw_region hP 3 [] rfl (by kernel_rfl) (fun _ => by kernel_rfl) ?_ ?_
  · skip
    simp only [conj, List.nil_append, List.cons_append, List.append_nil, List.append_assoc, inR_i64, true_and, and_true, Int.toNat_natCast]
    try dsimp only [Ty.den, Ty.dflt]
    repeat' apply And.intro
    all_goals first | omega | exact h0.le (by omega) | exact h1.le (by omega) | (show 3 ≤ drN code; omega) | (show drN code ≤ 4; omega) | trivial
  refine sw_seq ?_
  refine sw_region hP 4 [] rfl (by kernel_rfl) (fun _ => by kernel_rfl) ?_ ?_
  · skip
    simp only [conj, List.nil_append, List.cons_append, List.append_nil, List.append_assoc, inR_i64, true_and, and_true, Int.toNat_natCast]
    try dsimp only [Ty.den, Ty.dflt]
    repeat' apply And.intro
    all_goals first | omega | exact h0.le (by omega) | exact h1.le (by omega) | (show 3 ≤ drN code; omega) | (show drN code ≤ 4; omega) | trivial
  refine sw_ret ⟨.inl rfl, _, rfl, ?_⟩
  simp [conj, drR, drN, rd0]

def cDrP : Ctr := ⟨7, [.val false TB pF], fun x => True, fun x => (.tup [(false, [.d TI pF (drM x.1)]), (true, [.d TI pF (drP x.1).1, .d TI pF (drP x.1).2.1, .d (.sl T_Place) pF (drP x.1).2.2])], [])⟩
theorem cDrP_ok : CtrOk Proofs.Tryd.prog cDrP := by
  have hP := (((((Prg.none ttok mtok).and cOpen_ok).and cPick_ok).and cDisksD_ok).and cSome_ok)
  refine ctr_of_body hP cDrP (fn := Proofs.Tryd.f7) (rts := [.tmp 2, .cell 3 30]) Proofs.Tryd.func7 rfl (by kernel_rfl) rfl rfl ?_
  rintro ⟨(code : List Int), ⟨⟩⟩ ⟨hdc, _⟩ _
  try dsimp only [Ty.den, Mode.den, mdens] at _
  refine ⟨rfl, ?_⟩
  have h0 : ROk (rd0 code) 3000 := rd0_ok hdc.2
  have h1 : ROk (nx (rd0 code)) 2999 := h0.nx (by omega)
  have hn := drN_bd h0
  have h2 : ROk (drQ code) 2900 := someD_ok (m := 2900) (by omega) (h1.le (by omega)) hn
  have h3 : ROk (nx (drQ code)) 2899 := h2.nx (by omega)
  have b3 := pk_bd h3 (by omega) (n := 3) (by omega)
  refine sw_seq ?_
  refine sw_region hP 1 [] rfl (by kernel_rfl) (fun _ => by kernel_rfl) (by first | trivial | (simp [conj]; done) | (simp [conj] at *; (try dsimp only [Ty.den, Ty.dflt] at *); omega)) ?_
  refine sw_seq ?_
  refine sw_region hP 2 [] rfl (by kernel_rfl) (fun _ => by kernel_rfl) (by first | trivial | (simp [conj]; done) | (simp [conj] at *; (try dsimp only [Ty.den, Ty.dflt] at *); omega)) ?_
  refine sw_seq ?_
  refine sw_region hP 3 [] rfl (by kernel_rfl) (fun _ => by kernel_rfl) ?_ ?_
  · skip
    simp only [conj, List.nil_append, List.cons_append, List.append_nil, List.append_assoc, inR_i64, true_and, and_true, Int.toNat_natCast]
    try dsimp only [Ty.den, Ty.dflt]
    repeat' apply And.intro
    all_goals first | omega | exact h0.le (by omega) | exact h1.le (by omega) | exact h2.le (by omega) | exact h3.le (by omega) | (show 3 ≤ drN code; omega) | (show drN code ≤ 4; omega) | (show 0 ≤ pk (nx (drQ code)) 3; omega) | (show pk (nx (drQ code)) 3 < 3; omega) | (show (pk (nx (drQ code)) 3).toNat < 3; omega) | trivial
  refine sw_seq ?_
  refine sw_region hP 4 [] rfl (by kernel_rfl) (fun _ => by kernel_rfl) ?_ ?_
  · skip
    simp only [conj, List.nil_append, List.cons_append, List.append_nil, List.append_assoc, inR_i64, true_and, and_true, Int.toNat_natCast]
    try dsimp only [Ty.den, Ty.dflt]
    repeat' apply And.intro
    all_goals first | omega | exact h0.le (by omega) | exact h1.le (by omega) | exact h2.le (by omega) | exact h3.le (by omega) | (show 3 ≤ drN code; omega) | (show drN code ≤ 4; omega) | (show 0 ≤ pk (nx (drQ code)) 3; omega) | (show pk (nx (drQ code)) 3 < 3; omega) | (show (pk (nx (drQ code)) 3).toNat < 3; omega) | trivial
  refine sw_seq ?_
  refine sw_seq ?_
  refine sw_region hP 5 [] rfl (by kernel_rfl) (fun _ => by kernel_rfl) ?_ ?_
  · skip
    simp only [conj, List.nil_append, List.cons_append, List.append_nil, List.append_assoc, inR_i64, true_and, and_true, Int.toNat_natCast]
    try dsimp only [Ty.den, Ty.dflt]
    repeat' apply And.intro
    all_goals first | omega | exact h0.le (by omega) | exact h1.le (by omega) | exact h2.le (by omega) | exact h3.le (by omega) | (show 3 ≤ drN code; omega) | (show drN code ≤ 4; omega) | (show 0 ≤ pk (nx (drQ code)) 3; omega) | (show pk (nx (drQ code)) 3 < 3; omega) | (show (pk (nx (drQ code)) 3).toNat < 3; omega) | trivial
  refine sw_cond rfl (fun c4 => ?_) (fun c4 => ?_)
  · skip
    replace c4 : pk (drQ code) 12 = 0 := by simpa [drQ, drN, rd0] using c4
    have hm : drM code = aN.getD (pk (nx (drQ code)) 3).toNat 0 := if_pos c4
    refine sw_region hP 6 [] rfl (by kernel_rfl) (fun _ => by kernel_rfl) ?_ ?_
    · skip
      simp only [conj, List.nil_append, List.cons_append, List.append_nil, List.append_assoc, inR_i64, true_and, and_true, Int.toNat_natCast]
      try dsimp only [Ty.den, Ty.dflt]
      repeat' apply And.intro
      all_goals first | omega | exact h0.le (by omega) | exact h1.le (by omega) | exact h2.le (by omega) | exact h3.le (by omega) | (show 3 ≤ drN code; omega) | (show drN code ≤ 4; omega) | (show 0 ≤ pk (nx (drQ code)) 3; omega) | (show pk (nx (drQ code)) 3 < 3; omega) | (show (pk (nx (drQ code)) 3).toNat < 3; omega) | trivial
    refine sw_seq ?_
    refine sw_region hP 7 [] rfl (by kernel_rfl) (fun _ => by kernel_rfl) (by first | trivial | (simp [conj]; done) | (simp [conj] at *; (try dsimp only [Ty.den, Ty.dflt] at *); omega)) ?_
    refine sw_ret ⟨.inl rfl, _, rfl, ?_⟩
    simp [conj, hm, drP, drQ, aN, drN, rd0]
    try rfl
  · skip
    replace c4 : ¬ pk (drQ code) 12 = 0 := by simpa [drQ, drN, rd0] using c4
    have hm : drM code = drN code := if_neg c4
    refine sw_skip ?_
    refine sw_seq ?_
    refine sw_region hP 6 [] rfl (by kernel_rfl) (fun _ => by kernel_rfl) (by first | trivial | (simp [conj]; done) | (simp [conj] at *; (try dsimp only [Ty.den, Ty.dflt] at *); omega)) ?_
    refine sw_ret ⟨.inl rfl, _, rfl, ?_⟩
    simp [conj, hm, drP, drQ, aN, drN, rd0]
    try rfl

def cDrT : Ctr := ⟨13, [.val false TB pF], fun x => True, fun x => (.tup [(false, [.d TI pF (drN x.1)]), (true, [.d TI pF (drR x.1).1, .d (.sl T_Vol) pF (drR x.1).2])], [])⟩
theorem cDrT_ok : CtrOk Proofs.Tryd.prog cDrT := by
  have hP := ((Prg.none ttok mtok).and cDrR_ok)
  refine ctr_of_body hP cDrT (fn := Proofs.Tryd.f13) (rts := [.tmp 2, .cell 3 25]) Proofs.Tryd.func13 rfl (by kernel_rfl) rfl rfl ?_
  rintro ⟨(code : List Int), ⟨⟩⟩ ⟨hdc, _⟩ _
  try dsimp only [Ty.den, Mode.den, mdens] at _
  refine ⟨rfl, ?_⟩
  refine sw_seq ?_
  refine sw_region hP 1 [] rfl (by kernel_rfl) (fun _ => by kernel_rfl) (by first | trivial | (simp [conj]; done) | (simp [conj] at *; (try dsimp only [Ty.den, Ty.dflt] at *); omega)) ?_
  refine sw_seq ?_
  refine sw_region hP 2 [] rfl (by kernel_rfl) (fun _ => by kernel_rfl) (by first | trivial | (simp [conj]; done) | (simp [conj] at *; (try dsimp only [Ty.den, Ty.dflt] at *); omega)) ?_
  refine sw_ret ⟨.inl rfl, _, rfl, ?_⟩
  simp [conj]
end Go.Sx

namespace Go.Sx
open Go
set_option maxRecDepth 100000
set_option linter.unusedVariables false
set_option linter.unusedSimpArgs false
set_option maxHeartbeats 2000000

def cSzPl : Ctr := ⟨95, [.val false (.sl TL_Place) (.all .b), .val false TI pF], fun x => 0 ≤ x.2.1 ∧ x.2.1 ≤ 1048576, fun x => (sInt .i64 (szPl x.1 x.2.1), [])⟩
theorem cSzPl_ok : CtrOk Proofs.Tryd.prog cSzPl := by
  have hP := (Prg.none ttok mtok)
  refine ctr_of_body hP cSzPl (fn := Proofs.Tryd.f95) (rts := [.tmp 4]) Proofs.Tryd.func95 rfl (by kernel_rfl) rfl rfl ?_
  rintro ⟨(l : List Plc), (left : Int), ⟨⟩⟩ ⟨hdl, _⟩ ⟨h0, h1⟩
  try dsimp only [Ty.den, Mode.den, mdens] at h0
  try dsimp only [Ty.den, Mode.den, mdens] at h1
  refine ⟨rfl, ?_⟩
  have hml : l.length ≤ 140737488355328 := hdl.1
  refine sw_seq ?_
  refine sw_region hP 1 [] rfl (by kernel_rfl) (fun _ => by kernel_rfl) (by first | trivial | (simp [conj]; done) | (simp [conj] at *; (try dsimp only [Ty.den, Ty.dflt] at *); omega)) ?_
  refine sw_seq ?_
  refine sw_region hP 2 [] rfl (by kernel_rfl) (fun _ => by kernel_rfl) ?_ ?_
  · skip
    simp [conj, maxL]
    try dsimp only [Ty.den, Ty.dflt]
    try simp only [rd_eta]
    repeat' apply And.intro
    all_goals first | rfl | assumption | omega
  refine sw_seq ?_
  refine sw_seq ?_
  refine sw_region hP 3 [] rfl (by kernel_rfl) (fun _ => by kernel_rfl) (by first | trivial | (simp [conj]; done) | (simp [conj] at *; (try dsimp only [Ty.den, Ty.dflt] at *); omega)) ?_
  refine sw_cond rfl (fun c2 => ?_) (fun c2 => ?_)
  · skip
    replace c2 : left - (l.length : Int) < 0 := of_decide_eq_true c2
    refine sw_seq ?_
    refine sw_region hP 4 [] rfl (by kernel_rfl) (fun _ => by kernel_rfl) (by first | trivial | (simp [conj]; done) | (simp [conj] at *; (try dsimp only [Ty.den, Ty.dflt] at *); omega)) ?_
    refine sw_ret ⟨.inl rfl, _, rfl, ?_⟩
    simp [conj]
    exact (if_pos c2).symm
  · skip
    replace c2 : ¬ left - (l.length : Int) < 0 := of_decide_eq_false c2
    refine sw_skip ?_
    refine sw_seq ?_
    refine sw_region hP 4 [] rfl (by kernel_rfl) (fun _ => by kernel_rfl) (by first | trivial | (simp [conj]; done) | (simp [conj] at *; (try dsimp only [Ty.den, Ty.dflt] at *); omega)) ?_
    refine sw_ret ⟨.inl rfl, _, rfl, ?_⟩
    simp [conj]
    exact (if_neg c2).symm

def cSzP : Ctr := ⟨86, [.val true TL_Ptr (.all .b), .val false TI pF], fun x => 0 ≤ x.2.1 ∧ x.2.1 ≤ 1048576, fun x => (sInt .i64 (szP x.1 x.2.1), [])⟩
theorem cSzP_ok : CtrOk Proofs.Tryd.prog cSzP := by
  have hP := ((Prg.none ttok mtok).and cSzPl_ok)
  refine ctr_of_body hP cSzP (fn := Proofs.Tryd.f86) (rts := [.tmp 4]) Proofs.Tryd.func86 rfl (by kernel_rfl) rfl rfl ?_
  rintro ⟨⟨(sz : Int), (sm : Int), (pl : List Plc)⟩, (left : Int), ⟨⟩⟩ _ ⟨h0, h1⟩
  try dsimp only [Ty.den, Mode.den, mdens] at h0
  try dsimp only [Ty.den, Mode.den, mdens] at h1
  refine ⟨rfl, ?_⟩
  have hb := szP_ok (((sz, sm, pl) : Ptr_)) left h0
  refine sw_seq ?_
  refine sw_region hP 1 [] rfl (by kernel_rfl) (fun _ => by kernel_rfl) (by first | trivial | (simp [conj]; done) | (simp [conj] at *; (try dsimp only [Ty.den, Ty.dflt] at *); omega)) ?_
  refine sw_seq ?_
  refine sw_region hP 2 [] rfl (by kernel_rfl) (fun _ => by kernel_rfl) ?_ ?_
  · skip
    simp [conj, maxL]
    try dsimp only [Ty.den, Ty.dflt]
    try simp only [rd_eta]
    exact ⟨h0, h1⟩
  refine sw_seq ?_
  refine sw_seq ?_
  refine sw_region hP 3 [] rfl (by kernel_rfl) (fun _ => by kernel_rfl) (by first | trivial | (simp [conj]; done) | (simp [conj] at *; (try dsimp only [Ty.den, Ty.dflt] at *); omega)) ?_
  refine sw_cond rfl (fun c2 => ?_) (fun c2 => ?_)
  · skip
    replace c2 : szP ((sz, sm, pl) : Ptr_) left < 0 := of_decide_eq_true c2
    have hv : szP ((sz, sm, pl) : Ptr_) left = -1 := by show _ = _; exact sz_neg szP_ok h0 c2
    refine sw_seq ?_
    refine sw_region hP 4 [] rfl (by kernel_rfl) (fun _ => by kernel_rfl) (by first | trivial | (simp [conj]; done) | (simp [conj] at *; (try dsimp only [Ty.den, Ty.dflt] at *); omega)) ?_
    refine sw_ret ⟨.inl rfl, _, rfl, ?_⟩
    simp [conj]
    exact hv.symm
  · skip
    replace c2 : ¬ szP ((sz, sm, pl) : Ptr_) left < 0 := of_decide_eq_false c2
    refine sw_skip ?_
    refine sw_seq ?_
    refine sw_region hP 4 [] rfl (by kernel_rfl) (fun _ => by kernel_rfl) (by first | trivial | (simp [conj]; done) | (simp [conj] at *; (try dsimp only [Ty.den, Ty.dflt] at *); omega)) ?_
    refine sw_ret ⟨.inl rfl, _, rfl, ?_⟩
    simp [conj]
    try rfl

def cSzPs : Ctr := ⟨77, [.val false (.sl TL_Ptr) (.all .b), .val false TI pF], fun x => 0 ≤ x.2.1 ∧ x.2.1 ≤ 1048576, fun x => (sInt .i64 (szL szP x.1 x.2.1), [])⟩
theorem cSzPs_ok : CtrOk Proofs.Tryd.prog cSzPs := by
  have hP := ((Prg.none ttok mtok).and cSzP_ok)
  refine ctr_of_body hP cSzPs (fn := Proofs.Tryd.f77) (rts := [.tmp 4]) Proofs.Tryd.func77 rfl (by kernel_rfl) rfl rfl ?_
  rintro ⟨(l : List Ptr_), (left : Int), ⟨⟩⟩ ⟨hdl, _⟩ ⟨h0, h1⟩
  try dsimp only [Ty.den, Mode.den, mdens] at h0
  try dsimp only [Ty.den, Mode.den, mdens] at h1
  refine ⟨rfl, ?_⟩
  have hml : l.length ≤ 140737488355328 := hdl.1
  refine sw_seq ?_
  refine sw_region hP 1 [] rfl (by kernel_rfl) (fun _ => by kernel_rfl) (by first | trivial | (simp [conj]; done) | (simp [conj] at *; (try dsimp only [Ty.den, Ty.dflt] at *); omega)) ?_
  refine sw_seq ?_
  refine sw_region hP 2 [] rfl (by kernel_rfl) (fun _ => by kernel_rfl) ?_ ?_
  · skip
    simp [conj, maxL]
    try dsimp only [Ty.den, Ty.dflt]
    try simp only [rd_eta]
    repeat' apply And.intro
    all_goals first | rfl | assumption | omega
  refine sw_seq ?_
  refine sw_seq ?_
  refine sw_region hP 3 [] rfl (by kernel_rfl) (fun _ => by kernel_rfl) (by first | trivial | (simp [conj]; done) | (simp [conj] at *; (try dsimp only [Ty.den, Ty.dflt] at *); omega)) ?_
  refine sw_cond rfl (fun c2 => ?_) (fun c2 => ?_)
  · skip
    replace c2 : left - (l.length : Int) < 0 := of_decide_eq_true c2
    refine sw_seq ?_
    refine sw_region hP 4 [] rfl (by kernel_rfl) (fun _ => by kernel_rfl) (by first | trivial | (simp [conj]; done) | (simp [conj] at *; (try dsimp only [Ty.den, Ty.dflt] at *); omega)) ?_
    refine sw_ret ⟨.inl rfl, _, rfl, ?_⟩
    simp [conj]
    exact (if_pos c2).symm
  · skip
    replace c2 : ¬ left - (l.length : Int) < 0 := of_decide_eq_false c2
    refine sw_skip ?_
    refine sw_seq ?_
    refine sw_seq ?_
    refine sw_region hP 4 [] rfl (by kernel_rfl) (fun _ => by kernel_rfl) (by first | trivial | (simp [conj]; done) | (simp [conj] at *; (try dsimp only [Ty.den, Ty.dflt] at *); omega)) ?_
    refine sw_block ?_
    refine sw_loop (ι := Nat × Int) (fun ⟨i, a⟩ => ⟨[.v false [.d (.sl TL_Ptr) (.all .b) l], sInt .i64 a, .junk, .junk, .junk, sInt .i64 (i : Int), .junk, .junk, .junk, .junk, .junk, .junk, .junk, .junk, .junk, .junk, .junk, .junk, .junk, .junk, .junk, .junk, .junk, .junk, .junk, .junk, .junk], [], 4, []⟩) (fun ⟨i, a⟩ => l.length - i) (fun ⟨i, a⟩ => i ≤ l.length ∧ 0 ≤ a ∧ a ≤ 1048576 ∧ szGo szP (l.drop i) a = szL szP l left) (0, left - (l.length : Int)) ⟨?_, ?_⟩ ?_
    · skip
      exact ⟨Nat.zero_le _, by show 0 ≤ left - (l.length : Int); omega, by show left - (l.length : Int) ≤ 1048576; omega, by show szGo szP (l.drop 0) _ = szL szP l left; unfold szL; rw [if_neg c2]; rfl⟩
    · refine ent_ok rfl ?_
      first | trivial | (simp [conj]; done) | (simp [conj] at *; (try dsimp only [Ty.den, Ty.dflt] at *); omega)
    · rintro ⟨i, a⟩ ⟨hi, ha0, ha1, hgo⟩
      refine sw_seq ?_
      refine sw_seq ?_
      refine sw_region hP 5 [] rfl (by kernel_rfl) (fun _ => by kernel_rfl) (by first | trivial | (simp [conj]; done) | (simp [conj] at *; (try dsimp only [Ty.den, Ty.dflt] at *); omega)) ?_
      refine sw_cond rfl (fun c5 => ?_) (fun c5 => ?_)
      · skip
        have hlt : i < l.length := by simpa using c5
        have hb := szP_ok l[i] a ha0
        refine sw_skip ?_
        refine sw_seq ?_
        refine sw_block ?_
        refine sw_seq ?_
        refine sw_region hP 6 [] rfl (by kernel_rfl) (fun _ => by kernel_rfl) ?_ ?_
        · skip
          simp [conj, List.getElem?_eq_getElem hlt]
          repeat' apply And.intro
          all_goals first | omega | assumption | exact ⟨ha0, ha1⟩ | trivial
        refine sw_seq ?_
        refine sw_region hP 7 [] rfl (by kernel_rfl) (fun _ => by kernel_rfl) (by first | trivial | (simp [conj]; done) | (simp [conj] at *; (try dsimp only [Ty.den, Ty.dflt] at *); omega)) ?_
        refine sw_cond rfl (fun c8 => ?_) (fun c8 => ?_)
        · skip
          replace c8 : szP l[i] a < 0 := by simpa [List.getElem?_eq_getElem hlt] using c8
          refine sw_seq ?_
          refine sw_region hP 8 [] rfl (by kernel_rfl) (fun _ => by kernel_rfl) (by first | trivial | (simp [conj]; done) | (simp [conj] at *; (try dsimp only [Ty.den, Ty.dflt] at *); omega)) ?_
          refine sw_ret ⟨.inl rfl, _, rfl, ?_⟩
          simp [conj]
          exact (sz_hit hlt hgo c8).symm
        · skip
          replace c8 : ¬ szP l[i] a < 0 := by simpa [List.getElem?_eq_getElem hlt] using c8
          refine sw_skip ?_
          refine sw_region hP 8 [] rfl (by kernel_rfl) (fun _ => by kernel_rfl) (by first | trivial | (simp [conj]; done) | (simp [conj] at *; (try dsimp only [Ty.den, Ty.dflt] at *); omega)) ?_
          refine ⟨(i + 1, szP l[i] a), ?_, ?_, ent_ok rfl ?_⟩
          · skip
            exact ⟨hlt, by show 0 ≤ szP l[i] a; omega, by show szP l[i] a ≤ 1048576; omega, sz_next hlt hgo c8⟩
          · skip
            show l.length - (i + 1) < l.length - i
            omega
          · skip
            simp [conj, List.getElem?_eq_getElem hlt]
      · skip
        obtain rfl : i = l.length := by simp at c5; omega
        refine sw_exit ?_
        refine sw_seq ?_
        refine sw_region hP 6 [] rfl (by kernel_rfl) (fun _ => by kernel_rfl) (by first | trivial | (simp [conj]; done) | (simp [conj] at *; (try dsimp only [Ty.den, Ty.dflt] at *); omega)) ?_
        refine sw_ret ⟨.inl rfl, _, rfl, ?_⟩
        simp [conj]
        exact (sz_end hgo).symm

def cSzV : Ctr := ⟨64, [.val true TL_Vol (.all .b), .val false TI pF], fun x => 0 ≤ x.2.1 ∧ x.2.1 ≤ 1048576, fun x => (sInt .i64 (szV x.1 x.2.1), [])⟩
theorem cSzV_ok : CtrOk Proofs.Tryd.prog cSzV := by
  have hP := ((Prg.none ttok mtok).and cSzPs_ok)
  refine ctr_of_body hP cSzV (fn := Proofs.Tryd.f64) (rts := [.tmp 4]) Proofs.Tryd.func64 rfl (by kernel_rfl) rfl rfl ?_
  rintro ⟨⟨(nm : Str), (bl : List Ptr_)⟩, (left : Int), ⟨⟩⟩ ⟨⟨hdn, hdl⟩, _⟩ ⟨h0, h1⟩
  try dsimp only [Ty.den, Mode.den, mdens] at h0
  try dsimp only [Ty.den, Mode.den, mdens] at h1
  refine ⟨rfl, ?_⟩
  have hml : nm.length ≤ 140737488355328 := hdn
  refine sw_seq ?_
  refine sw_region hP 1 [] rfl (by kernel_rfl) (fun _ => by kernel_rfl) (by first | trivial | (simp [conj]; done) | (simp [conj] at *; (try dsimp only [Ty.den, Ty.dflt] at *); omega)) ?_
  refine sw_seq ?_
  refine sw_region hP 2 [] rfl (by kernel_rfl) (fun _ => by kernel_rfl) ?_ ?_
  · skip
    simp [conj, maxL]
    try dsimp only [Ty.den, Ty.dflt]
    try simp only [rd_eta]
    repeat' apply And.intro
    all_goals first | rfl | assumption | omega
  refine sw_seq ?_
  refine sw_seq ?_
  refine sw_region hP 3 [] rfl (by kernel_rfl) (fun _ => by kernel_rfl) (by first | trivial | (simp [conj]; done) | (simp [conj] at *; (try dsimp only [Ty.den, Ty.dflt] at *); omega)) ?_
  refine sw_cond rfl (fun c2 => ?_) (fun c2 => ?_)
  · skip
    replace c2 : left - (nm.length : Int) < 0 := of_decide_eq_true c2
    refine sw_seq ?_
    refine sw_region hP 4 [] rfl (by kernel_rfl) (fun _ => by kernel_rfl) (by first | trivial | (simp [conj]; done) | (simp [conj] at *; (try dsimp only [Ty.den, Ty.dflt] at *); omega)) ?_
    refine sw_ret ⟨.inl rfl, _, rfl, ?_⟩
    simp [conj]
    unfold szV
    rw [if_pos c2]
  · skip
    replace c2 : ¬ left - (nm.length : Int) < 0 := of_decide_eq_false c2
    have hb := szPs_ok bl (left - nm.length) (by omega)
    refine sw_skip ?_
    refine sw_seq ?_
    refine sw_region hP 4 [] rfl (by kernel_rfl) (fun _ => by kernel_rfl) ?_ ?_
    · skip
      simp [conj, maxL]
      try dsimp only [Ty.den, Ty.dflt]
      try simp only [rd_eta]
      exact ⟨by show 0 ≤ left - (nm.length : Int); omega, by show left - (nm.length : Int) ≤ 1048576; omega⟩
    refine sw_seq ?_
    refine sw_seq ?_
    refine sw_region hP 5 [] rfl (by kernel_rfl) (fun _ => by kernel_rfl) (by first | trivial | (simp [conj]; done) | (simp [conj] at *; (try dsimp only [Ty.den, Ty.dflt] at *); omega)) ?_
    refine sw_cond rfl (fun c5 => ?_) (fun c5 => ?_)
    · skip
      replace c5 : szPs bl (left - (nm.length : Int)) < 0 := of_decide_eq_true c5
      refine sw_seq ?_
      refine sw_region hP 6 [] rfl (by kernel_rfl) (fun _ => by kernel_rfl) (by first | trivial | (simp [conj]; done) | (simp [conj] at *; (try dsimp only [Ty.den, Ty.dflt] at *); omega)) ?_
      refine sw_ret ⟨.inl rfl, _, rfl, ?_⟩
      simp [conj]
      unfold szV
      rw [if_neg c2]
      exact (sz_neg szPs_ok (by omega) c5).symm
    · skip
      replace c5 : ¬ szPs bl (left - (nm.length : Int)) < 0 := of_decide_eq_false c5
      refine sw_skip ?_
      refine sw_seq ?_
      refine sw_region hP 6 [] rfl (by kernel_rfl) (fun _ => by kernel_rfl) (by first | trivial | (simp [conj]; done) | (simp [conj] at *; (try dsimp only [Ty.den, Ty.dflt] at *); omega)) ?_
      refine sw_ret ⟨.inl rfl, _, rfl, ?_⟩
      simp [conj]
      unfold szV
      rw [if_neg c2]
      try rfl

def cSzVs : Ctr := ⟨43, [.val false (.sl TL_Vol) (.all .b), .val false TI pF], fun x => 0 ≤ x.2.1 ∧ x.2.1 ≤ 1048576, fun x => (sInt .i64 (szL szV x.1 x.2.1), [])⟩
theorem cSzVs_ok : CtrOk Proofs.Tryd.prog cSzVs := by
  have hP := ((Prg.none ttok mtok).and cSzV_ok)
  refine ctr_of_body hP cSzVs (fn := Proofs.Tryd.f43) (rts := [.tmp 4]) Proofs.Tryd.func43 rfl (by kernel_rfl) rfl rfl ?_
  rintro ⟨(l : List Vol_), (left : Int), ⟨⟩⟩ ⟨hdl, _⟩ ⟨h0, h1⟩
  try dsimp only [Ty.den, Mode.den, mdens] at h0
  try dsimp only [Ty.den, Mode.den, mdens] at h1
  refine ⟨rfl, ?_⟩
  have hml : l.length ≤ 140737488355328 := hdl.1
  refine sw_seq ?_
  refine sw_region hP 1 [] rfl (by kernel_rfl) (fun _ => by kernel_rfl) (by first | trivial | (simp [conj]; done) | (simp [conj] at *; (try dsimp only [Ty.den, Ty.dflt] at *); omega)) ?_
  refine sw_seq ?_
  refine sw_region hP 2 [] rfl (by kernel_rfl) (fun _ => by kernel_rfl) ?_ ?_
  · skip
    simp [conj, maxL]
    try dsimp only [Ty.den, Ty.dflt]
    try simp only [rd_eta]
    repeat' apply And.intro
    all_goals first | rfl | assumption | omega
  refine sw_seq ?_
  refine sw_seq ?_
  refine sw_region hP 3 [] rfl (by kernel_rfl) (fun _ => by kernel_rfl) (by first | trivial | (simp [conj]; done) | (simp [conj] at *; (try dsimp only [Ty.den, Ty.dflt] at *); omega)) ?_
  refine sw_cond rfl (fun c2 => ?_) (fun c2 => ?_)
  · skip
    replace c2 : left - (l.length : Int) < 0 := of_decide_eq_true c2
    refine sw_seq ?_
    refine sw_region hP 4 [] rfl (by kernel_rfl) (fun _ => by kernel_rfl) (by first | trivial | (simp [conj]; done) | (simp [conj] at *; (try dsimp only [Ty.den, Ty.dflt] at *); omega)) ?_
    refine sw_ret ⟨.inl rfl, _, rfl, ?_⟩
    simp [conj]
    exact (if_pos c2).symm
  · skip
    replace c2 : ¬ left - (l.length : Int) < 0 := of_decide_eq_false c2
    refine sw_skip ?_
    refine sw_seq ?_
    refine sw_seq ?_
    refine sw_region hP 4 [] rfl (by kernel_rfl) (fun _ => by kernel_rfl) (by first | trivial | (simp [conj]; done) | (simp [conj] at *; (try dsimp only [Ty.den, Ty.dflt] at *); omega)) ?_
    refine sw_block ?_
    refine sw_loop (ι := Nat × Int) (fun ⟨i, a⟩ => ⟨[.v false [.d (.sl TL_Vol) (.all .b) l], sInt .i64 a, .junk, .junk, .junk, sInt .i64 (i : Int), .junk, .junk, .junk, .junk, .junk, .junk, .junk, .junk, .junk, .junk, .junk, .junk, .junk, .junk, .junk, .junk, .junk, .junk, .junk, .junk, .junk], [], 4, []⟩) (fun ⟨i, a⟩ => l.length - i) (fun ⟨i, a⟩ => i ≤ l.length ∧ 0 ≤ a ∧ a ≤ 1048576 ∧ szGo szV (l.drop i) a = szL szV l left) (0, left - (l.length : Int)) ⟨?_, ?_⟩ ?_
    · skip
      exact ⟨Nat.zero_le _, by show 0 ≤ left - (l.length : Int); omega, by show left - (l.length : Int) ≤ 1048576; omega, by show szGo szV (l.drop 0) _ = szL szV l left; unfold szL; rw [if_neg c2]; rfl⟩
    · refine ent_ok rfl ?_
      first | trivial | (simp [conj]; done) | (simp [conj] at *; (try dsimp only [Ty.den, Ty.dflt] at *); omega)
    · rintro ⟨i, a⟩ ⟨hi, ha0, ha1, hgo⟩
      refine sw_seq ?_
      refine sw_seq ?_
      refine sw_region hP 5 [] rfl (by kernel_rfl) (fun _ => by kernel_rfl) (by first | trivial | (simp [conj]; done) | (simp [conj] at *; (try dsimp only [Ty.den, Ty.dflt] at *); omega)) ?_
      refine sw_cond rfl (fun c5 => ?_) (fun c5 => ?_)
      · skip
        have hlt : i < l.length := by simpa using c5
        have hb := szV_ok l[i] a ha0
        refine sw_skip ?_
        refine sw_seq ?_
        refine sw_block ?_
        refine sw_seq ?_
        refine sw_region hP 6 [] rfl (by kernel_rfl) (fun _ => by kernel_rfl) ?_ ?_
        · skip
          simp [conj, List.getElem?_eq_getElem hlt]
          repeat' apply And.intro
          all_goals first | omega | assumption | exact ⟨ha0, ha1⟩ | trivial
        refine sw_seq ?_
        refine sw_region hP 7 [] rfl (by kernel_rfl) (fun _ => by kernel_rfl) (by first | trivial | (simp [conj]; done) | (simp [conj] at *; (try dsimp only [Ty.den, Ty.dflt] at *); omega)) ?_
        refine sw_cond rfl (fun c8 => ?_) (fun c8 => ?_)
        · skip
          replace c8 : szV l[i] a < 0 := by simpa [List.getElem?_eq_getElem hlt] using c8
          refine sw_seq ?_
          refine sw_region hP 8 [] rfl (by kernel_rfl) (fun _ => by kernel_rfl) (by first | trivial | (simp [conj]; done) | (simp [conj] at *; (try dsimp only [Ty.den, Ty.dflt] at *); omega)) ?_
          refine sw_ret ⟨.inl rfl, _, rfl, ?_⟩
          simp [conj]
          exact (sz_hit hlt hgo c8).symm
        · skip
          replace c8 : ¬ szV l[i] a < 0 := by simpa [List.getElem?_eq_getElem hlt] using c8
          refine sw_skip ?_
          refine sw_region hP 8 [] rfl (by kernel_rfl) (fun _ => by kernel_rfl) (by first | trivial | (simp [conj]; done) | (simp [conj] at *; (try dsimp only [Ty.den, Ty.dflt] at *); omega)) ?_
          refine ⟨(i + 1, szV l[i] a), ?_, ?_, ent_ok rfl ?_⟩
          · skip
            exact ⟨hlt, by show 0 ≤ szV l[i] a; omega, by show szV l[i] a ≤ 1048576; omega, sz_next hlt hgo c8⟩
          · skip
            show l.length - (i + 1) < l.length - i
            omega
          · skip
            simp [conj, List.getElem?_eq_getElem hlt]
      · skip
        obtain rfl : i = l.length := by simp at c5; omega
        refine sw_exit ?_
        refine sw_seq ?_
        refine sw_region hP 6 [] rfl (by kernel_rfl) (fun _ => by kernel_rfl) (by first | trivial | (simp [conj]; done) | (simp [conj] at *; (try dsimp only [Ty.den, Ty.dflt] at *); omega)) ?_
        refine sw_ret ⟨.inl rfl, _, rfl, ?_⟩
        simp [conj]
        exact (sz_end hgo).symm

def cSzR : Ctr := ⟨16, [.val true TL_Root (.all .b), .val false TI pF], fun x => 0 ≤ x.2.1 ∧ x.2.1 ≤ 1048576, fun x => (sInt .i64 (szVs (x.1).2 x.2.1), [])⟩
theorem cSzR_ok : CtrOk Proofs.Tryd.prog cSzR := by
  have hP := ((Prg.none ttok mtok).and cSzVs_ok)
  refine ctr_of_body hP cSzR (fn := Proofs.Tryd.f16) (rts := [.tmp 4]) Proofs.Tryd.func16 rfl (by kernel_rfl) rfl rfl ?_
  rintro ⟨⟨(tg : Int), (l : List Vol_)⟩, (left : Int), ⟨⟩⟩ _ ⟨h0, h1⟩
  try dsimp only [Ty.den, Mode.den, mdens] at h0
  try dsimp only [Ty.den, Mode.den, mdens] at h1
  refine ⟨rfl, ?_⟩
  have hb := szVs_ok (l) left h0
  refine sw_seq ?_
  refine sw_region hP 1 [] rfl (by kernel_rfl) (fun _ => by kernel_rfl) (by first | trivial | (simp [conj]; done) | (simp [conj] at *; (try dsimp only [Ty.den, Ty.dflt] at *); omega)) ?_
  refine sw_seq ?_
  refine sw_region hP 2 [] rfl (by kernel_rfl) (fun _ => by kernel_rfl) ?_ ?_
  · skip
    simp [conj, maxL]
    try dsimp only [Ty.den, Ty.dflt]
    try simp only [rd_eta]
    exact ⟨h0, h1⟩
  refine sw_seq ?_
  refine sw_seq ?_
  refine sw_region hP 3 [] rfl (by kernel_rfl) (fun _ => by kernel_rfl) (by first | trivial | (simp [conj]; done) | (simp [conj] at *; (try dsimp only [Ty.den, Ty.dflt] at *); omega)) ?_
  refine sw_cond rfl (fun c2 => ?_) (fun c2 => ?_)
  · skip
    replace c2 : szVs (((tg, l) : Root_)).2 left < 0 := of_decide_eq_true c2
    have hv : szVs (((tg, l) : Root_)).2 left = -1 := by show _ = _; exact sz_neg szVs_ok h0 c2
    refine sw_seq ?_
    refine sw_region hP 4 [] rfl (by kernel_rfl) (fun _ => by kernel_rfl) (by first | trivial | (simp [conj]; done) | (simp [conj] at *; (try dsimp only [Ty.den, Ty.dflt] at *); omega)) ?_
    refine sw_ret ⟨.inl rfl, _, rfl, ?_⟩
    simp [conj]
    exact hv.symm
  · skip
    replace c2 : ¬ szVs (((tg, l) : Root_)).2 left < 0 := of_decide_eq_false c2
    refine sw_skip ?_
    refine sw_seq ?_
    refine sw_region hP 4 [] rfl (by kernel_rfl) (fun _ => by kernel_rfl) (by first | trivial | (simp [conj]; done) | (simp [conj] at *; (try dsimp only [Ty.den, Ty.dflt] at *); omega)) ?_
    refine sw_ret ⟨.inl rfl, _, rfl, ?_⟩
    simp [conj]
    try rfl

def cToPlc : Ctr := ⟨105, [.val true TL_Place pF], fun x => True, fun x => (.v true [.d TI pF x.1.1, .d TI pF x.1.2], [])⟩
theorem cToPlc_ok : CtrOk Proofs.Tryd.prog cToPlc := by
  have hP := (Prg.none ttok mtok)
  refine ctr_of_body hP cToPlc (fn := Proofs.Tryd.f105) (rts := [.cell 2 58]) Proofs.Tryd.func105 rfl (by kernel_rfl) rfl rfl ?_
  rintro ⟨⟨(a : Int), (b : Int)⟩, ⟨⟩⟩ _ _
  try dsimp only [Ty.den, Mode.den, mdens] at _
  refine ⟨rfl, ?_⟩
  refine sw_seq ?_
  refine sw_region hP 1 [] rfl (by kernel_rfl) (fun _ => by kernel_rfl) (by first | trivial | (simp [conj]; done) | (simp [conj] at *; (try dsimp only [Ty.den, Ty.dflt] at *); omega)) ?_
  refine sw_seq ?_
  refine sw_region hP 2 [] rfl (by kernel_rfl) (fun _ => by kernel_rfl) (by first | trivial | (simp [conj]; done) | (simp [conj] at *; (try dsimp only [Ty.den, Ty.dflt] at *); omega)) ?_
  refine sw_seq ?_
  refine sw_region hP 3 [] rfl (by kernel_rfl) (fun _ => by kernel_rfl) (by first | trivial | (simp [conj]; done) | (simp [conj] at *; (try dsimp only [Ty.den, Ty.dflt] at *); omega)) ?_
  refine sw_seq ?_
  refine sw_region hP 4 [] rfl (by kernel_rfl) (fun _ => by kernel_rfl) (by first | trivial | (simp [conj]; done) | (simp [conj] at *; (try dsimp only [Ty.den, Ty.dflt] at *); omega)) ?_
  refine sw_seq ?_
  refine sw_region hP 5 [] rfl (by kernel_rfl) (fun _ => by kernel_rfl) (by first | trivial | (simp [conj]; done) | (simp [conj] at *; (try dsimp only [Ty.den, Ty.dflt] at *); omega)) ?_
  refine sw_ret ⟨.inl rfl, _, rfl, ?_⟩
  simp [conj]

def cToPls : Ctr := ⟨96, [.val false (.sl TL_Place) (.all .b)], fun x => List.length x.1 ≤ 1048576, fun x => (.v false [.own ⟨1, 0, 0⟩], [(⟨1, 0, 0⟩, .sl T_Place (.all .w) x.1)])⟩
theorem cToPls_ok : CtrOk Proofs.Tryd.prog cToPls := by
  have hP := ((Prg.none ttok mtok).and cToPlc_ok)
  refine ctr_of_body hP cToPls (fn := Proofs.Tryd.f96) (rts := [.tmp 2]) Proofs.Tryd.func96 rfl (by kernel_rfl) rfl rfl ?_
  rintro ⟨(l : List Plc), ⟨⟩⟩ _ hpre
  try dsimp only [Ty.den, Mode.den, mdens] at hpre
  refine ⟨rfl, ?_⟩
  replace hpre : l.length ≤ 1048576 := hpre
  refine sw_seq ?_
  refine sw_region hP 1 [] rfl (by kernel_rfl) (fun _ => by kernel_rfl) (by first | trivial | (simp [conj]; done) | (simp [conj] at *; (try dsimp only [Ty.den, Ty.dflt] at *); omega)) ?_
  refine sw_seq ?_
  refine sw_region hP 2 [] rfl (by kernel_rfl) (fun _ => by kernel_rfl) ?_ ?_
  · skip
    simp [conj, maxL]
    try dsimp only [Ty.den, Ty.dflt]
    try simp only [rd_eta]
    repeat' apply And.intro
    all_goals first | rfl | assumption | omega
  refine sw_seq ?_
  refine sw_seq ?_
  refine sw_region hP 3 [] rfl (by kernel_rfl) (fun _ => by kernel_rfl) (by first | trivial | (simp [conj]; done) | (simp [conj] at *; (try dsimp only [Ty.den, Ty.dflt] at *); omega)) ?_
  refine sw_block ?_
  refine sw_loop (ι := Nat) (fun i => ⟨[.v false [.d (.sl TL_Place) (.all .b) l], .junk, .junk, .v false [.own ⟨2, 2, 0⟩], sInt .i64 (i : Int), .junk, .junk, .junk, .junk, .junk, .junk, .junk, .junk, .junk, .junk, .junk, .junk, .junk, .junk, .junk, .junk, .junk, .junk], [(⟨2, 2, 0⟩, .sl T_Place (.all .w) (cpL l ((0, 0) : Plc) i))], 3, []⟩) (fun i => l.length - i) (fun i => i ≤ l.length) 0 ⟨?_, ?_⟩ ?_
  · skip
    exact Nat.zero_le _
  · refine ent_ok rfl ?_
    simp [conj]
    exact cpL_zero.symm
  · rintro i hi
    refine sw_seq ?_
    refine sw_seq ?_
    refine sw_region hP 4 [] rfl (by kernel_rfl) (fun _ => by kernel_rfl) (by first | trivial | (simp [conj]; done) | (simp [conj] at *; (try dsimp only [Ty.den, Ty.dflt] at *); omega)) ?_
    refine sw_cond rfl (fun c3 => ?_) (fun c3 => ?_)
    · skip
      have hlt : i < l.length := by simpa using c3
      have hcl : (cpL l ((0, 0) : Plc) i).length = l.length := cpL_len hi
      refine sw_skip ?_
      refine sw_seq ?_
      refine sw_block ?_
      refine sw_region hP 5 [] rfl (by kernel_rfl) (fun _ => by kernel_rfl) ?_ ?_
      · skip
        simp [conj, maxL, List.getElem?_eq_getElem hlt, hcl]
        repeat' apply And.intro
        all_goals first | assumption | omega | trivial
      refine sw_region hP 6 [] rfl (by kernel_rfl) (fun _ => by kernel_rfl) (by first | trivial | (simp [conj]; done) | (simp [conj] at *; (try dsimp only [Ty.den, Ty.dflt] at *); omega)) ?_
      refine ⟨i + 1, ?_, ?_, ent_ok rfl ?_⟩
      · skip
        exact hlt
      · skip
        omega
      · skip
        simp [conj, List.getElem?_eq_getElem hlt]
        exact cpL_next hlt
    · skip
      obtain rfl : i = l.length := by simp at c3; omega
      refine sw_exit ?_
      refine sw_seq ?_
      refine sw_region hP 5 [] rfl (by kernel_rfl) (fun _ => by kernel_rfl) (by first | trivial | (simp [conj]; done) | (simp [conj] at *; (try dsimp only [Ty.den, Ty.dflt] at *); omega)) ?_
      refine sw_ret ⟨.inl rfl, _, rfl, ?_⟩
      simp [conj]
      exact cpL_end

def cToPtr : Ctr := ⟨87, [.val true TL_Ptr (.all .b)], fun x => SmP x.1, fun x => (.v true [.d TI pF x.1.1, .d TI pF x.1.2.1, .own ⟨1, 0, 0⟩], [(⟨1, 0, 0⟩, .sl T_Place (.all .w) x.1.2.2)])⟩
theorem cToPtr_ok : CtrOk Proofs.Tryd.prog cToPtr := by
  have hP := ((Prg.none ttok mtok).and cToPls_ok)
  refine ctr_of_body hP cToPtr (fn := Proofs.Tryd.f87) (rts := [.cell 2 30]) Proofs.Tryd.func87 rfl (by kernel_rfl) rfl rfl ?_
  rintro ⟨⟨(sz : Int), (sm : Int), (pl : List Plc)⟩, ⟨⟩⟩ _ hpre
  try dsimp only [Ty.den, Mode.den, mdens] at hpre
  refine ⟨rfl, ?_⟩
  refine sw_seq ?_
  refine sw_region hP 1 [] rfl (by kernel_rfl) (fun _ => by kernel_rfl) (by first | trivial | (simp [conj]; done) | (simp [conj] at *; (try dsimp only [Ty.den, Ty.dflt] at *); omega)) ?_
  refine sw_seq ?_
  refine sw_region hP 2 [] rfl (by kernel_rfl) (fun _ => by kernel_rfl) (by first | trivial | (simp [conj]; done) | (simp [conj] at *; (try dsimp only [Ty.den, Ty.dflt] at *); omega)) ?_
  refine sw_seq ?_
  refine sw_region hP 3 [] rfl (by kernel_rfl) (fun _ => by kernel_rfl) (by first | trivial | (simp [conj]; done) | (simp [conj] at *; (try dsimp only [Ty.den, Ty.dflt] at *); omega)) ?_
  refine sw_seq ?_
  refine sw_region hP 4 [] rfl (by kernel_rfl) (fun _ => by kernel_rfl) (by first | trivial | (simp [conj]; done) | (simp [conj] at *; (try dsimp only [Ty.den, Ty.dflt] at *); omega)) ?_
  refine sw_seq ?_
  refine sw_region hP 5 [] rfl (by kernel_rfl) (fun _ => by kernel_rfl) ?_ ?_
  · skip
    simp [conj, maxL]
    try dsimp only [Ty.den, Ty.dflt]
    try simp only [rd_eta]
    exact hpre
  refine sw_seq ?_
  refine sw_region hP 6 [] rfl (by kernel_rfl) (fun _ => by kernel_rfl) (by first | trivial | (simp [conj]; done) | (simp [conj] at *; (try dsimp only [Ty.den, Ty.dflt] at *); omega)) ?_
  refine sw_ret ⟨.inl rfl, _, rfl, ?_⟩
  simp [conj, maxL]
  try dsimp only [Ty.den, Ty.dflt]
  try simp only [rd_eta]
  repeat' apply And.intro
  all_goals first | rfl | assumption | omega | trivial

def cToPtrs : Ctr := ⟨78, [.val false (.sl TL_Ptr) (.all .b)], fun x => SmPs x.1, fun x => (.v false [.own ⟨1, 0, 0⟩], [(⟨1, 0, 0⟩, .sl T_Ptr (.all .w) x.1)])⟩
theorem cToPtrs_ok : CtrOk Proofs.Tryd.prog cToPtrs := by
  have hP := ((Prg.none ttok mtok).and cToPtr_ok)
  refine ctr_of_body hP cToPtrs (fn := Proofs.Tryd.f78) (rts := [.tmp 2]) Proofs.Tryd.func78 rfl (by kernel_rfl) rfl rfl ?_
  rintro ⟨(l : List Ptr_), ⟨⟩⟩ _ ⟨hpre, hp2⟩
  try dsimp only [Ty.den, Mode.den, mdens] at hpre
  try dsimp only [Ty.den, Mode.den, mdens] at hp2
  refine ⟨rfl, ?_⟩
  replace hpre : l.length ≤ 1048576 := hpre
  refine sw_seq ?_
  refine sw_region hP 1 [] rfl (by kernel_rfl) (fun _ => by kernel_rfl) (by first | trivial | (simp [conj]; done) | (simp [conj] at *; (try dsimp only [Ty.den, Ty.dflt] at *); omega)) ?_
  refine sw_seq ?_
  refine sw_region hP 2 [] rfl (by kernel_rfl) (fun _ => by kernel_rfl) ?_ ?_
  · skip
    simp [conj, maxL]
    try dsimp only [Ty.den, Ty.dflt]
    try simp only [rd_eta]
    repeat' apply And.intro
    all_goals first | rfl | assumption | omega
  refine sw_seq ?_
  refine sw_seq ?_
  refine sw_region hP 3 [] rfl (by kernel_rfl) (fun _ => by kernel_rfl) (by first | trivial | (simp [conj]; done) | (simp [conj] at *; (try dsimp only [Ty.den, Ty.dflt] at *); omega)) ?_
  refine sw_block ?_
  refine sw_loop (ι := Nat) (fun i => ⟨[.v false [.d (.sl TL_Ptr) (.all .b) l], .junk, .junk, .v false [.own ⟨2, 2, 0⟩], sInt .i64 (i : Int), .junk, .junk, .junk, .junk, .junk, .junk, .junk, .junk, .junk, .junk, .junk, .junk, .junk, .junk, .junk, .junk, .junk, .junk], [(⟨2, 2, 0⟩, .sl T_Ptr (.all .w) (cpL l ((0, 0, []) : Ptr_) i))], 3, []⟩) (fun i => l.length - i) (fun i => i ≤ l.length) 0 ⟨?_, ?_⟩ ?_
  · skip
    exact Nat.zero_le _
  · refine ent_ok rfl ?_
    simp [conj]
    exact cpL_zero.symm
  · rintro i hi
    refine sw_seq ?_
    refine sw_seq ?_
    refine sw_region hP 4 [] rfl (by kernel_rfl) (fun _ => by kernel_rfl) (by first | trivial | (simp [conj]; done) | (simp [conj] at *; (try dsimp only [Ty.den, Ty.dflt] at *); omega)) ?_
    refine sw_cond rfl (fun c3 => ?_) (fun c3 => ?_)
    · skip
      have hlt : i < l.length := by simpa using c3
      have hcl : (cpL l ((0, 0, []) : Ptr_) i).length = l.length := cpL_len hi
      have hl2 := hp2 _ (List.getElem_mem hlt)
      refine sw_skip ?_
      refine sw_seq ?_
      refine sw_block ?_
      refine sw_region hP 5 [] rfl (by kernel_rfl) (fun _ => by kernel_rfl) ?_ ?_
      · skip
        simp [conj, maxL, List.getElem?_eq_getElem hlt, hcl]
        repeat' first | exact hl2 | apply And.intro
        all_goals first | assumption | omega | trivial
      refine sw_region hP 6 [] rfl (by kernel_rfl) (fun _ => by kernel_rfl) (by first | trivial | (simp [conj]; done) | (simp [conj] at *; (try dsimp only [Ty.den, Ty.dflt] at *); omega)) ?_
      refine ⟨i + 1, ?_, ?_, ent_ok rfl ?_⟩
      · skip
        exact hlt
      · skip
        omega
      · skip
        simp [conj, List.getElem?_eq_getElem hlt]
        exact cpL_next hlt
    · skip
      obtain rfl : i = l.length := by simp at c3; omega
      refine sw_exit ?_
      refine sw_seq ?_
      refine sw_region hP 5 [] rfl (by kernel_rfl) (fun _ => by kernel_rfl) (by first | trivial | (simp [conj]; done) | (simp [conj] at *; (try dsimp only [Ty.den, Ty.dflt] at *); omega)) ?_
      refine sw_ret ⟨.inl rfl, _, rfl, ?_⟩
      simp [conj]
      exact cpL_end

def cToVol : Ctr := ⟨65, [.val true TL_Vol (.all .b)], fun x => SmPs x.1.2, fun x => (.v true [.d .str pF x.1.1, .own ⟨1, 0, 0⟩], [(⟨1, 0, 0⟩, .sl T_Ptr (.all .w) x.1.2)])⟩
theorem cToVol_ok : CtrOk Proofs.Tryd.prog cToVol := by
  have hP := ((Prg.none ttok mtok).and cToPtrs_ok)
  refine ctr_of_body hP cToVol (fn := Proofs.Tryd.f65) (rts := [.cell 2 70]) Proofs.Tryd.func65 rfl (by kernel_rfl) rfl rfl ?_
  rintro ⟨⟨(nm : Str), (bl : List Ptr_)⟩, ⟨⟩⟩ _ hpre
  try dsimp only [Ty.den, Mode.den, mdens] at hpre
  refine ⟨rfl, ?_⟩
  refine sw_seq ?_
  refine sw_region hP 1 [] rfl (by kernel_rfl) (fun _ => by kernel_rfl) (by first | trivial | (simp [conj]; done) | (simp [conj] at *; (try dsimp only [Ty.den, Ty.dflt] at *); omega)) ?_
  refine sw_seq ?_
  refine sw_region hP 2 [] rfl (by kernel_rfl) (fun _ => by kernel_rfl) (by first | trivial | (simp [conj]; done) | (simp [conj] at *; (try dsimp only [Ty.den, Ty.dflt] at *); omega)) ?_
  refine sw_seq ?_
  refine sw_region hP 3 [] rfl (by kernel_rfl) (fun _ => by kernel_rfl) (by first | trivial | (simp [conj]; done) | (simp [conj] at *; (try dsimp only [Ty.den, Ty.dflt] at *); omega)) ?_
  refine sw_seq ?_
  refine sw_region hP 4 [] rfl (by kernel_rfl) (fun _ => by kernel_rfl) ?_ ?_
  · skip
    simp [conj, maxL]
    try dsimp only [Ty.den, Ty.dflt]
    try simp only [rd_eta]
    exact hpre
  refine sw_seq ?_
  refine sw_region hP 5 [] rfl (by kernel_rfl) (fun _ => by kernel_rfl) (by first | trivial | (simp [conj]; done) | (simp [conj] at *; (try dsimp only [Ty.den, Ty.dflt] at *); omega)) ?_
  refine sw_ret ⟨.inl rfl, _, rfl, ?_⟩
  simp [conj, maxL]
  try dsimp only [Ty.den, Ty.dflt]
  try simp only [rd_eta]
  repeat' apply And.intro
  all_goals first | rfl | assumption | omega | trivial

def cToVols : Ctr := ⟨44, [.val false (.sl TL_Vol) (.all .b)], fun x => SmVs x.1, fun x => (.v false [.own ⟨1, 0, 0⟩], [(⟨1, 0, 0⟩, .sl T_Vol (.all .w) x.1)])⟩
theorem cToVols_ok : CtrOk Proofs.Tryd.prog cToVols := by
  have hP := ((Prg.none ttok mtok).and cToVol_ok)
  refine ctr_of_body hP cToVols (fn := Proofs.Tryd.f44) (rts := [.tmp 2]) Proofs.Tryd.func44 rfl (by kernel_rfl) rfl rfl ?_
  rintro ⟨(l : List Vol_), ⟨⟩⟩ _ ⟨hpre, hp2⟩
  try dsimp only [Ty.den, Mode.den, mdens] at hpre
  try dsimp only [Ty.den, Mode.den, mdens] at hp2
  refine ⟨rfl, ?_⟩
  replace hpre : l.length ≤ 1048576 := hpre
  refine sw_seq ?_
  refine sw_region hP 1 [] rfl (by kernel_rfl) (fun _ => by kernel_rfl) (by first | trivial | (simp [conj]; done) | (simp [conj] at *; (try dsimp only [Ty.den, Ty.dflt] at *); omega)) ?_
  refine sw_seq ?_
  refine sw_region hP 2 [] rfl (by kernel_rfl) (fun _ => by kernel_rfl) ?_ ?_
  · skip
    simp [conj, maxL]
    try dsimp only [Ty.den, Ty.dflt]
    try simp only [rd_eta]
    repeat' apply And.intro
    all_goals first | rfl | assumption | omega
  refine sw_seq ?_
  refine sw_seq ?_
  refine sw_region hP 3 [] rfl (by kernel_rfl) (fun _ => by kernel_rfl) (by first | trivial | (simp [conj]; done) | (simp [conj] at *; (try dsimp only [Ty.den, Ty.dflt] at *); omega)) ?_
  refine sw_block ?_
  refine sw_loop (ι := Nat) (fun i => ⟨[.v false [.d (.sl TL_Vol) (.all .b) l], .junk, .junk, .v false [.own ⟨2, 2, 0⟩], sInt .i64 (i : Int), .junk, .junk, .junk, .junk, .junk, .junk, .junk, .junk, .junk, .junk, .junk, .junk, .junk, .junk, .junk, .junk, .junk, .junk], [(⟨2, 2, 0⟩, .sl T_Vol (.all .w) (cpL l (([], []) : Vol_) i))], 3, []⟩) (fun i => l.length - i) (fun i => i ≤ l.length) 0 ⟨?_, ?_⟩ ?_
  · skip
    exact Nat.zero_le _
  · refine ent_ok rfl ?_
    simp [conj]
    exact cpL_zero.symm
  · rintro i hi
    refine sw_seq ?_
    refine sw_seq ?_
    refine sw_region hP 4 [] rfl (by kernel_rfl) (fun _ => by kernel_rfl) (by first | trivial | (simp [conj]; done) | (simp [conj] at *; (try dsimp only [Ty.den, Ty.dflt] at *); omega)) ?_
    refine sw_cond rfl (fun c3 => ?_) (fun c3 => ?_)
    · skip
      have hlt : i < l.length := by simpa using c3
      have hcl : (cpL l (([], []) : Vol_) i).length = l.length := cpL_len hi
      have hl2 := hp2 _ (List.getElem_mem hlt)
      refine sw_skip ?_
      refine sw_seq ?_
      refine sw_block ?_
      refine sw_region hP 5 [] rfl (by kernel_rfl) (fun _ => by kernel_rfl) ?_ ?_
      · skip
        simp [conj, maxL, List.getElem?_eq_getElem hlt, hcl]
        repeat' first | exact hl2 | apply And.intro
        all_goals first | assumption | omega | trivial
      refine sw_region hP 6 [] rfl (by kernel_rfl) (fun _ => by kernel_rfl) (by first | trivial | (simp [conj]; done) | (simp [conj] at *; (try dsimp only [Ty.den, Ty.dflt] at *); omega)) ?_
      refine ⟨i + 1, ?_, ?_, ent_ok rfl ?_⟩
      · skip
        exact hlt
      · skip
        omega
      · skip
        simp [conj, List.getElem?_eq_getElem hlt]
        exact cpL_next hlt
    · skip
      obtain rfl : i = l.length := by simp at c3; omega
      refine sw_exit ?_
      refine sw_seq ?_
      refine sw_region hP 5 [] rfl (by kernel_rfl) (fun _ => by kernel_rfl) (by first | trivial | (simp [conj]; done) | (simp [conj] at *; (try dsimp only [Ty.den, Ty.dflt] at *); omega)) ?_
      refine sw_ret ⟨.inl rfl, _, rfl, ?_⟩
      simp [conj]
      exact cpL_end

def cToRoot : Ctr := ⟨17, [.val true TL_Root (.all .b)], fun x => SmVs x.1.2, fun x => (.v true [.d TI pF x.1.1, .own ⟨1, 0, 0⟩], [(⟨1, 0, 0⟩, .sl T_Vol (.all .w) x.1.2)])⟩
theorem cToRoot_ok : CtrOk Proofs.Tryd.prog cToRoot := by
  have hP := ((Prg.none ttok mtok).and cToVols_ok)
  refine ctr_of_body hP cToRoot (fn := Proofs.Tryd.f17) (rts := [.cell 2 25]) Proofs.Tryd.func17 rfl (by kernel_rfl) rfl rfl ?_
  rintro ⟨⟨(tg : Int), (l : List Vol_)⟩, ⟨⟩⟩ _ hpre
  try dsimp only [Ty.den, Mode.den, mdens] at hpre
  refine ⟨rfl, ?_⟩
  refine sw_seq ?_
  refine sw_region hP 1 [] rfl (by kernel_rfl) (fun _ => by kernel_rfl) (by first | trivial | (simp [conj]; done) | (simp [conj] at *; (try dsimp only [Ty.den, Ty.dflt] at *); omega)) ?_
  refine sw_seq ?_
  refine sw_region hP 2 [] rfl (by kernel_rfl) (fun _ => by kernel_rfl) (by first | trivial | (simp [conj]; done) | (simp [conj] at *; (try dsimp only [Ty.den, Ty.dflt] at *); omega)) ?_
  refine sw_seq ?_
  refine sw_region hP 3 [] rfl (by kernel_rfl) (fun _ => by kernel_rfl) (by first | trivial | (simp [conj]; done) | (simp [conj] at *; (try dsimp only [Ty.den, Ty.dflt] at *); omega)) ?_
  refine sw_seq ?_
  refine sw_region hP 4 [] rfl (by kernel_rfl) (fun _ => by kernel_rfl) ?_ ?_
  · skip
    simp [conj, maxL]
    try dsimp only [Ty.den, Ty.dflt]
    try simp only [rd_eta]
    exact hpre
  refine sw_seq ?_
  refine sw_region hP 5 [] rfl (by kernel_rfl) (fun _ => by kernel_rfl) (by first | trivial | (simp [conj]; done) | (simp [conj] at *; (try dsimp only [Ty.den, Ty.dflt] at *); omega)) ?_
  refine sw_ret ⟨.inl rfl, _, rfl, ?_⟩
  simp [conj, maxL]
  try dsimp only [Ty.den, Ty.dflt]
  try simp only [rd_eta]
  repeat' apply And.intro
  all_goals first | rfl | assumption | omega | trivial

def cEqPlc : Ctr := ⟨106, [.val true T_Place pF, .val true T_Place pF], fun x => True, fun x => (sBool (decide ((x.1 : Plc) = x.2.1)), [])⟩
theorem cEqPlc_ok : CtrOk Proofs.Tryd.prog cEqPlc := by
  have hP := (Prg.none ttok mtok)
  refine ctr_of_body hP cEqPlc (fn := Proofs.Tryd.f106) (rts := [.tmp 4]) Proofs.Tryd.func106 rfl (by kernel_rfl) rfl rfl ?_
  rintro ⟨⟨(a : Int), (b : Int)⟩, ⟨(c : Int), (e : Int)⟩, ⟨⟩⟩ _ _
  try dsimp only [Ty.den, Mode.den, mdens] at _
  refine ⟨rfl, ?_⟩
  refine sw_seq ?_
  refine sw_region hP 1 [] rfl (by kernel_rfl) (fun _ => by kernel_rfl) (by first | trivial | (simp [conj]; done) | (simp [conj] at *; (try dsimp only [Ty.den, Ty.dflt] at *); omega)) ?_
  refine sw_seq ?_
  refine sw_seq ?_
  refine sw_region hP 2 [] rfl (by kernel_rfl) (fun _ => by kernel_rfl) (by first | trivial | (simp [conj]; done) | (simp [conj] at *; (try dsimp only [Ty.den, Ty.dflt] at *); omega)) ?_
  refine sw_cond rfl (fun c1 => ?_) (fun c1 => ?_)
  · skip
    replace c1 : ¬ a = c := by simpa using c1
    refine sw_seq ?_
    refine sw_region hP 3 [] rfl (by kernel_rfl) (fun _ => by kernel_rfl) (by first | trivial | (simp [conj]; done) | (simp [conj] at *; (try dsimp only [Ty.den, Ty.dflt] at *); omega)) ?_
    refine sw_ret ⟨.inl rfl, _, rfl, ?_⟩
    simp [conj, *]
  · skip
    replace c1 : a = c := by simpa using c1
    refine sw_skip ?_
    refine sw_seq ?_
    refine sw_seq ?_
    refine sw_region hP 3 [] rfl (by kernel_rfl) (fun _ => by kernel_rfl) (by first | trivial | (simp [conj]; done) | (simp [conj] at *; (try dsimp only [Ty.den, Ty.dflt] at *); omega)) ?_
    refine sw_cond rfl (fun c3 => ?_) (fun c3 => ?_)
    · skip
      replace c3 : ¬ b = e := by simpa using c3
      refine sw_seq ?_
      refine sw_region hP 4 [] rfl (by kernel_rfl) (fun _ => by kernel_rfl) (by first | trivial | (simp [conj]; done) | (simp [conj] at *; (try dsimp only [Ty.den, Ty.dflt] at *); omega)) ?_
      refine sw_ret ⟨.inl rfl, _, rfl, ?_⟩
      simp [conj, *]
    · skip
      replace c3 : b = e := by simpa using c3
      refine sw_skip ?_
      refine sw_seq ?_
      refine sw_region hP 4 [] rfl (by kernel_rfl) (fun _ => by kernel_rfl) (by first | trivial | (simp [conj]; done) | (simp [conj] at *; (try dsimp only [Ty.den, Ty.dflt] at *); omega)) ?_
      refine sw_ret ⟨.inl rfl, _, rfl, ?_⟩
      simp [conj, *]

def cEqPls : Ctr := ⟨97, [.val false (.sl T_Place) (.all .b), .val false (.sl T_Place) (.all .b)], fun x => True, fun x => (sBool (decide ((x.1 : List Plc) = x.2.1)), [])⟩
theorem cEqPls_ok : CtrOk Proofs.Tryd.prog cEqPls := by
  have hP := ((Prg.none ttok mtok).and cEqPlc_ok)
  refine ctr_of_body hP cEqPls (fn := Proofs.Tryd.f97) (rts := [.tmp 4]) Proofs.Tryd.func97 rfl (by kernel_rfl) rfl rfl ?_
  rintro ⟨(a : List Plc), (b : List Plc), ⟨⟩⟩ ⟨hda, hdb, _⟩ _
  try dsimp only [Ty.den, Mode.den, mdens] at _
  refine ⟨rfl, ?_⟩
  have hml : a.length ≤ 140737488355328 := hda.1
  have hmb : b.length ≤ 140737488355328 := hdb.1
  refine sw_seq ?_
  refine sw_region hP 1 [] rfl (by kernel_rfl) (fun _ => by kernel_rfl) (by first | trivial | (simp [conj]; done) | (simp [conj] at *; (try dsimp only [Ty.den, Ty.dflt] at *); omega)) ?_
  refine sw_seq ?_
  refine sw_seq ?_
  refine sw_region hP 2 [] rfl (by kernel_rfl) (fun _ => by kernel_rfl) (by first | trivial | (simp [conj]; done) | (simp [conj] at *; (try dsimp only [Ty.den, Ty.dflt] at *); omega)) ?_
  refine sw_cond rfl (fun c1 => ?_) (fun c1 => ?_)
  · skip
    replace c1 : ¬ a.length = b.length := by simp at c1; omega
    refine sw_seq ?_
    refine sw_region hP 3 [] rfl (by kernel_rfl) (fun _ => by kernel_rfl) (by first | trivial | (simp [conj]; done) | (simp [conj] at *; (try dsimp only [Ty.den, Ty.dflt] at *); omega)) ?_
    refine sw_ret ⟨.inl rfl, _, rfl, ?_⟩
    have hv := eqL_len c1
    simp [conj, hv]
  · skip
    replace c1 : a.length = b.length := by simp at c1; omega
    refine sw_skip ?_
    refine sw_seq ?_
    refine sw_seq ?_
    refine sw_region hP 3 [] rfl (by kernel_rfl) (fun _ => by kernel_rfl) (by first | trivial | (simp [conj]; done) | (simp [conj] at *; (try dsimp only [Ty.den, Ty.dflt] at *); omega)) ?_
    refine sw_block ?_
    refine sw_loop (ι := Nat) (fun i => ⟨[.v false [.d (.sl T_Place) (.all .b) a], .v false [.d (.sl T_Place) (.all .b) b], .junk, .junk, .junk, sInt .i64 (i : Int), .junk, .junk, .junk, .junk, .junk, .junk, .junk, .junk, .junk, .junk, .junk, .junk, .junk, .junk, .junk, .junk, .junk, .junk, .junk, .junk, .junk], [], 3, []⟩) (fun i => a.length - i) (fun i => i ≤ a.length ∧ decide (a.drop i = b.drop i) = decide (a = b)) 0 ⟨?_, ?_⟩ ?_
    · skip
      exact ⟨Nat.zero_le _, rfl⟩
    · refine ent_ok rfl ?_
      first | trivial | (simp [conj]; done) | (simp [conj] at *; (try dsimp only [Ty.den, Ty.dflt] at *); omega)
    · rintro i ⟨hi, hgo⟩
      refine sw_seq ?_
      refine sw_seq ?_
      refine sw_region hP 4 [] rfl (by kernel_rfl) (fun _ => by kernel_rfl) (by first | trivial | (simp [conj]; done) | (simp [conj] at *; (try dsimp only [Ty.den, Ty.dflt] at *); omega)) ?_
      refine sw_cond rfl (fun c4 => ?_) (fun c4 => ?_)
      · skip
        have hlt : i < a.length := by simpa using c4
        have hlt2 : i < b.length := by omega
        refine sw_skip ?_
        refine sw_seq ?_
        refine sw_block ?_
        refine sw_seq ?_
        refine sw_region hP 5 [] rfl (by kernel_rfl) (fun _ => by kernel_rfl) ?_ ?_
        · skip
          simp [conj, List.getElem?_eq_getElem hlt, List.getElem?_eq_getElem hlt2]
          repeat' apply And.intro
          all_goals first | omega | trivial
        refine sw_cond rfl (fun c6 => ?_) (fun c6 => ?_)
        · skip
          replace c6 : ¬ a[i] = b[i] := by intro e; simp [List.getElem?_eq_getElem hlt, List.getElem?_eq_getElem hlt2, e] at c6
          refine sw_seq ?_
          refine sw_region hP 6 [] rfl (by kernel_rfl) (fun _ => by kernel_rfl) (by first | trivial | (simp [conj]; done) | (simp [conj] at *; (try dsimp only [Ty.den, Ty.dflt] at *); omega)) ?_
          refine sw_ret ⟨.inl rfl, _, rfl, ?_⟩
          have hv := eqL_hit hlt hlt2 hgo c6
          simp [conj, hv]
        · skip
          replace c6 : a[i] = b[i] := by
            have h := c6
            simp [List.getElem?_eq_getElem hlt, List.getElem?_eq_getElem hlt2] at h
            exact Prod.ext h.1 h.2
          refine sw_skip ?_
          refine sw_region hP 6 [] rfl (by kernel_rfl) (fun _ => by kernel_rfl) (by first | trivial | (simp [conj]; done) | (simp [conj] at *; (try dsimp only [Ty.den, Ty.dflt] at *); omega)) ?_
          refine ⟨i + 1, ?_, ?_, ent_ok rfl ?_⟩
          · skip
            exact ⟨hlt, eqL_next hlt hlt2 hgo c6⟩
          · skip
            omega
          · skip
            simp [conj]
      · skip
        obtain rfl : i = a.length := by simp at c4; omega
        refine sw_exit ?_
        refine sw_seq ?_
        refine sw_region hP 5 [] rfl (by kernel_rfl) (fun _ => by kernel_rfl) (by first | trivial | (simp [conj]; done) | (simp [conj] at *; (try dsimp only [Ty.den, Ty.dflt] at *); omega)) ?_
        refine sw_ret ⟨.inl rfl, _, rfl, ?_⟩
        have hv := eqL_end c1 hgo
        simp [conj, hv]

def cEqPtr : Ctr := ⟨88, [.val true T_Ptr (.all .b), .val true T_Ptr (.all .b)], fun x => True, fun x => (sBool (decide ((x.1 : Ptr_) = x.2.1)), [])⟩
theorem cEqPtr_ok : CtrOk Proofs.Tryd.prog cEqPtr := by
  have hP := ((Prg.none ttok mtok).and cEqPls_ok)
  refine ctr_of_body hP cEqPtr (fn := Proofs.Tryd.f88) (rts := [.tmp 4]) Proofs.Tryd.func88 rfl (by kernel_rfl) rfl rfl ?_
  rintro ⟨⟨(sz : Int), (sm : Int), (pl : List Plc)⟩, ⟨(sz2 : Int), (sm2 : Int), (pl2 : List Plc)⟩, ⟨⟩⟩ _ _
  try dsimp only [Ty.den, Mode.den, mdens] at _
  refine ⟨rfl, ?_⟩
  refine sw_seq ?_
  refine sw_region hP 1 [] rfl (by kernel_rfl) (fun _ => by kernel_rfl) (by first | trivial | (simp [conj]; done) | (simp [conj] at *; (try dsimp only [Ty.den, Ty.dflt] at *); omega)) ?_
  refine sw_seq ?_
  refine sw_seq ?_
  refine sw_region hP 2 [] rfl (by kernel_rfl) (fun _ => by kernel_rfl) (by first | trivial | (simp [conj]; done) | (simp [conj] at *; (try dsimp only [Ty.den, Ty.dflt] at *); omega)) ?_
  refine sw_cond rfl (fun c1 => ?_) (fun c1 => ?_)
  · skip
    replace c1 : ¬ sz = sz2 := by simpa using c1
    refine sw_seq ?_
    refine sw_region hP 3 [] rfl (by kernel_rfl) (fun _ => by kernel_rfl) (by first | trivial | (simp [conj]; done) | (simp [conj] at *; (try dsimp only [Ty.den, Ty.dflt] at *); omega)) ?_
    refine sw_ret ⟨.inl rfl, _, rfl, ?_⟩
    simp [conj, *]
  · skip
    replace c1 : sz = sz2 := by simpa using c1
    refine sw_skip ?_
    refine sw_seq ?_
    refine sw_seq ?_
    refine sw_region hP 3 [] rfl (by kernel_rfl) (fun _ => by kernel_rfl) (by first | trivial | (simp [conj]; done) | (simp [conj] at *; (try dsimp only [Ty.den, Ty.dflt] at *); omega)) ?_
    refine sw_cond rfl (fun c3 => ?_) (fun c3 => ?_)
    · skip
      replace c3 : ¬ sm = sm2 := by simpa using c3
      refine sw_seq ?_
      refine sw_region hP 4 [] rfl (by kernel_rfl) (fun _ => by kernel_rfl) (by first | trivial | (simp [conj]; done) | (simp [conj] at *; (try dsimp only [Ty.den, Ty.dflt] at *); omega)) ?_
      refine sw_ret ⟨.inl rfl, _, rfl, ?_⟩
      simp [conj, *]
    · skip
      replace c3 : sm = sm2 := by simpa using c3
      refine sw_skip ?_
      refine sw_seq ?_
      refine sw_seq ?_
      refine sw_region hP 4 [] rfl (by kernel_rfl) (fun _ => by kernel_rfl) ?_ ?_
      · skip
        simp [conj, maxL]
        try dsimp only [Ty.den, Ty.dflt]
        try simp only [rd_eta]
        trivial
      refine sw_cond rfl (fun c5 => ?_) (fun c5 => ?_)
      · skip
        replace c5 : ¬ pl = pl2 := by simpa using c5
        refine sw_seq ?_
        refine sw_region hP 5 [] rfl (by kernel_rfl) (fun _ => by kernel_rfl) (by first | trivial | (simp [conj]; done) | (simp [conj] at *; (try dsimp only [Ty.den, Ty.dflt] at *); omega)) ?_
        refine sw_ret ⟨.inl rfl, _, rfl, ?_⟩
        simp [conj, *]
      · skip
        replace c5 : pl = pl2 := by simpa using c5
        refine sw_skip ?_
        refine sw_seq ?_
        refine sw_region hP 5 [] rfl (by kernel_rfl) (fun _ => by kernel_rfl) (by first | trivial | (simp [conj]; done) | (simp [conj] at *; (try dsimp only [Ty.den, Ty.dflt] at *); omega)) ?_
        refine sw_ret ⟨.inl rfl, _, rfl, ?_⟩
        simp [conj, *]

def cEqPtrs : Ctr := ⟨79, [.val false (.sl T_Ptr) (.all .b), .val false (.sl T_Ptr) (.all .b)], fun x => True, fun x => (sBool (decide ((x.1 : List Ptr_) = x.2.1)), [])⟩
theorem cEqPtrs_ok : CtrOk Proofs.Tryd.prog cEqPtrs := by
  have hP := ((Prg.none ttok mtok).and cEqPtr_ok)
  refine ctr_of_body hP cEqPtrs (fn := Proofs.Tryd.f79) (rts := [.tmp 4]) Proofs.Tryd.func79 rfl (by kernel_rfl) rfl rfl ?_
  rintro ⟨(a : List Ptr_), (b : List Ptr_), ⟨⟩⟩ ⟨hda, hdb, _⟩ _
  try dsimp only [Ty.den, Mode.den, mdens] at _
  refine ⟨rfl, ?_⟩
  have hml : a.length ≤ 140737488355328 := hda.1
  have hmb : b.length ≤ 140737488355328 := hdb.1
  refine sw_seq ?_
  refine sw_region hP 1 [] rfl (by kernel_rfl) (fun _ => by kernel_rfl) (by first | trivial | (simp [conj]; done) | (simp [conj] at *; (try dsimp only [Ty.den, Ty.dflt] at *); omega)) ?_
  refine sw_seq ?_
  refine sw_seq ?_
  refine sw_region hP 2 [] rfl (by kernel_rfl) (fun _ => by kernel_rfl) (by first | trivial | (simp [conj]; done) | (simp [conj] at *; (try dsimp only [Ty.den, Ty.dflt] at *); omega)) ?_
  refine sw_cond rfl (fun c1 => ?_) (fun c1 => ?_)
  · skip
    replace c1 : ¬ a.length = b.length := by simp at c1; omega
    refine sw_seq ?_
    refine sw_region hP 3 [] rfl (by kernel_rfl) (fun _ => by kernel_rfl) (by first | trivial | (simp [conj]; done) | (simp [conj] at *; (try dsimp only [Ty.den, Ty.dflt] at *); omega)) ?_
    refine sw_ret ⟨.inl rfl, _, rfl, ?_⟩
    have hv := eqL_len c1
    simp [conj, hv]
  · skip
    replace c1 : a.length = b.length := by simp at c1; omega
    refine sw_skip ?_
    refine sw_seq ?_
    refine sw_seq ?_
    refine sw_region hP 3 [] rfl (by kernel_rfl) (fun _ => by kernel_rfl) (by first | trivial | (simp [conj]; done) | (simp [conj] at *; (try dsimp only [Ty.den, Ty.dflt] at *); omega)) ?_
    refine sw_block ?_
    refine sw_loop (ι := Nat) (fun i => ⟨[.v false [.d (.sl T_Ptr) (.all .b) a], .v false [.d (.sl T_Ptr) (.all .b) b], .junk, .junk, .junk, sInt .i64 (i : Int), .junk, .junk, .junk, .junk, .junk, .junk, .junk, .junk, .junk, .junk, .junk, .junk, .junk, .junk, .junk, .junk, .junk, .junk, .junk, .junk, .junk], [], 3, []⟩) (fun i => a.length - i) (fun i => i ≤ a.length ∧ decide (a.drop i = b.drop i) = decide (a = b)) 0 ⟨?_, ?_⟩ ?_
    · skip
      exact ⟨Nat.zero_le _, rfl⟩
    · refine ent_ok rfl ?_
      first | trivial | (simp [conj]; done) | (simp [conj] at *; (try dsimp only [Ty.den, Ty.dflt] at *); omega)
    · rintro i ⟨hi, hgo⟩
      refine sw_seq ?_
      refine sw_seq ?_
      refine sw_region hP 4 [] rfl (by kernel_rfl) (fun _ => by kernel_rfl) (by first | trivial | (simp [conj]; done) | (simp [conj] at *; (try dsimp only [Ty.den, Ty.dflt] at *); omega)) ?_
      refine sw_cond rfl (fun c4 => ?_) (fun c4 => ?_)
      · skip
        have hlt : i < a.length := by simpa using c4
        have hlt2 : i < b.length := by omega
        refine sw_skip ?_
        refine sw_seq ?_
        refine sw_block ?_
        refine sw_seq ?_
        refine sw_region hP 5 [] rfl (by kernel_rfl) (fun _ => by kernel_rfl) ?_ ?_
        · skip
          simp [conj, List.getElem?_eq_getElem hlt, List.getElem?_eq_getElem hlt2]
          repeat' apply And.intro
          all_goals first | omega | trivial
        refine sw_cond rfl (fun c6 => ?_) (fun c6 => ?_)
        · skip
          replace c6 : ¬ a[i] = b[i] := by intro e; simp [List.getElem?_eq_getElem hlt, List.getElem?_eq_getElem hlt2, e] at c6
          refine sw_seq ?_
          refine sw_region hP 6 [] rfl (by kernel_rfl) (fun _ => by kernel_rfl) (by first | trivial | (simp [conj]; done) | (simp [conj] at *; (try dsimp only [Ty.den, Ty.dflt] at *); omega)) ?_
          refine sw_ret ⟨.inl rfl, _, rfl, ?_⟩
          have hv := eqL_hit hlt hlt2 hgo c6
          simp [conj, hv]
        · skip
          replace c6 : a[i] = b[i] := by
            have h := c6
            simp [List.getElem?_eq_getElem hlt, List.getElem?_eq_getElem hlt2] at h
            exact Prod.ext h.1 (Prod.ext h.2.1 h.2.2)
          refine sw_skip ?_
          refine sw_region hP 6 [] rfl (by kernel_rfl) (fun _ => by kernel_rfl) (by first | trivial | (simp [conj]; done) | (simp [conj] at *; (try dsimp only [Ty.den, Ty.dflt] at *); omega)) ?_
          refine ⟨i + 1, ?_, ?_, ent_ok rfl ?_⟩
          · skip
            exact ⟨hlt, eqL_next hlt hlt2 hgo c6⟩
          · skip
            omega
          · skip
            simp [conj]
      · skip
        obtain rfl : i = a.length := by simp at c4; omega
        refine sw_exit ?_
        refine sw_seq ?_
        refine sw_region hP 5 [] rfl (by kernel_rfl) (fun _ => by kernel_rfl) (by first | trivial | (simp [conj]; done) | (simp [conj] at *; (try dsimp only [Ty.den, Ty.dflt] at *); omega)) ?_
        refine sw_ret ⟨.inl rfl, _, rfl, ?_⟩
        have hv := eqL_end c1 hgo
        simp [conj, hv]

def cEqVol : Ctr := ⟨66, [.val true T_Vol (.all .b), .val true T_Vol (.all .b)], fun x => True, fun x => (sBool (decide ((x.1 : Vol_) = x.2.1)), [])⟩
theorem cEqVol_ok : CtrOk Proofs.Tryd.prog cEqVol := by
  have hP := ((Prg.none ttok mtok).and cEqPtrs_ok)
  refine ctr_of_body hP cEqVol (fn := Proofs.Tryd.f66) (rts := [.tmp 4]) Proofs.Tryd.func66 rfl (by kernel_rfl) rfl rfl ?_
  rintro ⟨⟨(nm : Str), (bl : List Ptr_)⟩, ⟨(nm2 : Str), (bl2 : List Ptr_)⟩, ⟨⟩⟩ _ _
  try dsimp only [Ty.den, Mode.den, mdens] at _
  refine ⟨rfl, ?_⟩
  refine sw_seq ?_
  refine sw_region hP 1 [] rfl (by kernel_rfl) (fun _ => by kernel_rfl) (by first | trivial | (simp [conj]; done) | (simp [conj] at *; (try dsimp only [Ty.den, Ty.dflt] at *); omega)) ?_
  refine sw_seq ?_
  refine sw_seq ?_
  refine sw_region hP 2 [] rfl (by kernel_rfl) (fun _ => by kernel_rfl) (by first | trivial | (simp [conj]; done) | (simp [conj] at *; (try dsimp only [Ty.den, Ty.dflt] at *); omega)) ?_
  refine sw_cond rfl (fun c1 => ?_) (fun c1 => ?_)
  · skip
    replace c1 : ¬ nm = nm2 := by simpa using c1
    refine sw_seq ?_
    refine sw_region hP 3 [] rfl (by kernel_rfl) (fun _ => by kernel_rfl) (by first | trivial | (simp [conj]; done) | (simp [conj] at *; (try dsimp only [Ty.den, Ty.dflt] at *); omega)) ?_
    refine sw_ret ⟨.inl rfl, _, rfl, ?_⟩
    simp [conj, *]
  · skip
    replace c1 : nm = nm2 := by simpa using c1
    refine sw_skip ?_
    refine sw_seq ?_
    refine sw_seq ?_
    refine sw_region hP 3 [] rfl (by kernel_rfl) (fun _ => by kernel_rfl) ?_ ?_
    · skip
      simp [conj, maxL]
      try dsimp only [Ty.den, Ty.dflt]
      try simp only [rd_eta]
      trivial
    refine sw_cond rfl (fun c3 => ?_) (fun c3 => ?_)
    · skip
      replace c3 : ¬ bl = bl2 := by simpa using c3
      refine sw_seq ?_
      refine sw_region hP 4 [] rfl (by kernel_rfl) (fun _ => by kernel_rfl) (by first | trivial | (simp [conj]; done) | (simp [conj] at *; (try dsimp only [Ty.den, Ty.dflt] at *); omega)) ?_
      refine sw_ret ⟨.inl rfl, _, rfl, ?_⟩
      simp [conj, *]
    · skip
      replace c3 : bl = bl2 := by simpa using c3
      refine sw_skip ?_
      refine sw_seq ?_
      refine sw_region hP 4 [] rfl (by kernel_rfl) (fun _ => by kernel_rfl) (by first | trivial | (simp [conj]; done) | (simp [conj] at *; (try dsimp only [Ty.den, Ty.dflt] at *); omega)) ?_
      refine sw_ret ⟨.inl rfl, _, rfl, ?_⟩
      simp [conj, *]

def cEqVols : Ctr := ⟨45, [.val false (.sl T_Vol) (.all .b), .val false (.sl T_Vol) (.all .b)], fun x => True, fun x => (sBool (decide ((x.1 : List Vol_) = x.2.1)), [])⟩
theorem cEqVols_ok : CtrOk Proofs.Tryd.prog cEqVols := by
  have hP := ((Prg.none ttok mtok).and cEqVol_ok)
  refine ctr_of_body hP cEqVols (fn := Proofs.Tryd.f45) (rts := [.tmp 4]) Proofs.Tryd.func45 rfl (by kernel_rfl) rfl rfl ?_
  rintro ⟨(a : List Vol_), (b : List Vol_), ⟨⟩⟩ ⟨hda, hdb, _⟩ _
  try dsimp only [Ty.den, Mode.den, mdens] at _
  refine ⟨rfl, ?_⟩
  have hml : a.length ≤ 140737488355328 := hda.1
  have hmb : b.length ≤ 140737488355328 := hdb.1
  refine sw_seq ?_
  refine sw_region hP 1 [] rfl (by kernel_rfl) (fun _ => by kernel_rfl) (by first | trivial | (simp [conj]; done) | (simp [conj] at *; (try dsimp only [Ty.den, Ty.dflt] at *); omega)) ?_
  refine sw_seq ?_
  refine sw_seq ?_
  refine sw_region hP 2 [] rfl (by kernel_rfl) (fun _ => by kernel_rfl) (by first | trivial | (simp [conj]; done) | (simp [conj] at *; (try dsimp only [Ty.den, Ty.dflt] at *); omega)) ?_
  refine sw_cond rfl (fun c1 => ?_) (fun c1 => ?_)
  · skip
    replace c1 : ¬ a.length = b.length := by simp at c1; omega
    refine sw_seq ?_
    refine sw_region hP 3 [] rfl (by kernel_rfl) (fun _ => by kernel_rfl) (by first | trivial | (simp [conj]; done) | (simp [conj] at *; (try dsimp only [Ty.den, Ty.dflt] at *); omega)) ?_
    refine sw_ret ⟨.inl rfl, _, rfl, ?_⟩
    have hv := eqL_len c1
    simp [conj, hv]
  · skip
    replace c1 : a.length = b.length := by simp at c1; omega
    refine sw_skip ?_
    refine sw_seq ?_
    refine sw_seq ?_
    refine sw_region hP 3 [] rfl (by kernel_rfl) (fun _ => by kernel_rfl) (by first | trivial | (simp [conj]; done) | (simp [conj] at *; (try dsimp only [Ty.den, Ty.dflt] at *); omega)) ?_
    refine sw_block ?_
    refine sw_loop (ι := Nat) (fun i => ⟨[.v false [.d (.sl T_Vol) (.all .b) a], .v false [.d (.sl T_Vol) (.all .b) b], .junk, .junk, .junk, sInt .i64 (i : Int), .junk, .junk, .junk, .junk, .junk, .junk, .junk, .junk, .junk, .junk, .junk, .junk, .junk, .junk, .junk, .junk, .junk, .junk, .junk, .junk, .junk], [], 3, []⟩) (fun i => a.length - i) (fun i => i ≤ a.length ∧ decide (a.drop i = b.drop i) = decide (a = b)) 0 ⟨?_, ?_⟩ ?_
    · skip
      exact ⟨Nat.zero_le _, rfl⟩
    · refine ent_ok rfl ?_
      first | trivial | (simp [conj]; done) | (simp [conj] at *; (try dsimp only [Ty.den, Ty.dflt] at *); omega)
    · rintro i ⟨hi, hgo⟩
      refine sw_seq ?_
      refine sw_seq ?_
      refine sw_region hP 4 [] rfl (by kernel_rfl) (fun _ => by kernel_rfl) (by first | trivial | (simp [conj]; done) | (simp [conj] at *; (try dsimp only [Ty.den, Ty.dflt] at *); omega)) ?_
      refine sw_cond rfl (fun c4 => ?_) (fun c4 => ?_)
      · skip
        have hlt : i < a.length := by simpa using c4
        have hlt2 : i < b.length := by omega
        refine sw_skip ?_
        refine sw_seq ?_
        refine sw_block ?_
        refine sw_seq ?_
        refine sw_region hP 5 [] rfl (by kernel_rfl) (fun _ => by kernel_rfl) ?_ ?_
        · skip
          simp [conj, List.getElem?_eq_getElem hlt, List.getElem?_eq_getElem hlt2]
          repeat' apply And.intro
          all_goals first | omega | trivial
        refine sw_cond rfl (fun c6 => ?_) (fun c6 => ?_)
        · skip
          replace c6 : ¬ a[i] = b[i] := by intro e; simp [List.getElem?_eq_getElem hlt, List.getElem?_eq_getElem hlt2, e] at c6
          refine sw_seq ?_
          refine sw_region hP 6 [] rfl (by kernel_rfl) (fun _ => by kernel_rfl) (by first | trivial | (simp [conj]; done) | (simp [conj] at *; (try dsimp only [Ty.den, Ty.dflt] at *); omega)) ?_
          refine sw_ret ⟨.inl rfl, _, rfl, ?_⟩
          have hv := eqL_hit hlt hlt2 hgo c6
          simp [conj, hv]
        · skip
          replace c6 : a[i] = b[i] := by
            have h := c6
            simp [List.getElem?_eq_getElem hlt, List.getElem?_eq_getElem hlt2] at h
            exact Prod.ext h.1 h.2
          refine sw_skip ?_
          refine sw_region hP 6 [] rfl (by kernel_rfl) (fun _ => by kernel_rfl) (by first | trivial | (simp [conj]; done) | (simp [conj] at *; (try dsimp only [Ty.den, Ty.dflt] at *); omega)) ?_
          refine ⟨i + 1, ?_, ?_, ent_ok rfl ?_⟩
          · skip
            exact ⟨hlt, eqL_next hlt hlt2 hgo c6⟩
          · skip
            omega
          · skip
            simp [conj]
      · skip
        obtain rfl : i = a.length := by simp at c4; omega
        refine sw_exit ?_
        refine sw_seq ?_
        refine sw_region hP 5 [] rfl (by kernel_rfl) (fun _ => by kernel_rfl) (by first | trivial | (simp [conj]; done) | (simp [conj] at *; (try dsimp only [Ty.den, Ty.dflt] at *); omega)) ?_
        refine sw_ret ⟨.inl rfl, _, rfl, ?_⟩
        have hv := eqL_end c1 hgo
        simp [conj, hv]

def cEqRoot : Ctr := ⟨18, [.val true T_Root (.all .b), .val true T_Root (.all .b)], fun x => True, fun x => (sBool (decide ((x.1 : Root_) = x.2.1)), [])⟩
theorem cEqRoot_ok : CtrOk Proofs.Tryd.prog cEqRoot := by
  have hP := ((Prg.none ttok mtok).and cEqVols_ok)
  refine ctr_of_body hP cEqRoot (fn := Proofs.Tryd.f18) (rts := [.tmp 4]) Proofs.Tryd.func18 rfl (by kernel_rfl) rfl rfl ?_
  rintro ⟨⟨(tg : Int), (l : List Vol_)⟩, ⟨(tg2 : Int), (l2 : List Vol_)⟩, ⟨⟩⟩ _ _
  try dsimp only [Ty.den, Mode.den, mdens] at _
  refine ⟨rfl, ?_⟩
  refine sw_seq ?_
  refine sw_region hP 1 [] rfl (by kernel_rfl) (fun _ => by kernel_rfl) (by first | trivial | (simp [conj]; done) | (simp [conj] at *; (try dsimp only [Ty.den, Ty.dflt] at *); omega)) ?_
  refine sw_seq ?_
  refine sw_seq ?_
  refine sw_region hP 2 [] rfl (by kernel_rfl) (fun _ => by kernel_rfl) (by first | trivial | (simp [conj]; done) | (simp [conj] at *; (try dsimp only [Ty.den, Ty.dflt] at *); omega)) ?_
  refine sw_cond rfl (fun c1 => ?_) (fun c1 => ?_)
  · skip
    replace c1 : ¬ tg = tg2 := by simpa using c1
    refine sw_seq ?_
    refine sw_region hP 3 [] rfl (by kernel_rfl) (fun _ => by kernel_rfl) (by first | trivial | (simp [conj]; done) | (simp [conj] at *; (try dsimp only [Ty.den, Ty.dflt] at *); omega)) ?_
    refine sw_ret ⟨.inl rfl, _, rfl, ?_⟩
    simp [conj, *]
  · skip
    replace c1 : tg = tg2 := by simpa using c1
    refine sw_skip ?_
    refine sw_seq ?_
    refine sw_seq ?_
    refine sw_region hP 3 [] rfl (by kernel_rfl) (fun _ => by kernel_rfl) ?_ ?_
    · skip
      simp [conj, maxL]
      try dsimp only [Ty.den, Ty.dflt]
      try simp only [rd_eta]
      trivial
    refine sw_cond rfl (fun c3 => ?_) (fun c3 => ?_)
    · skip
      replace c3 : ¬ l = l2 := by simpa using c3
      refine sw_seq ?_
      refine sw_region hP 4 [] rfl (by kernel_rfl) (fun _ => by kernel_rfl) (by first | trivial | (simp [conj]; done) | (simp [conj] at *; (try dsimp only [Ty.den, Ty.dflt] at *); omega)) ?_
      refine sw_ret ⟨.inl rfl, _, rfl, ?_⟩
      simp [conj, *]
    · skip
      replace c3 : l = l2 := by simpa using c3
      refine sw_skip ?_
      refine sw_seq ?_
      refine sw_region hP 4 [] rfl (by kernel_rfl) (fun _ => by kernel_rfl) (by first | trivial | (simp [conj]; done) | (simp [conj] at *; (try dsimp only [Ty.den, Ty.dflt] at *); omega)) ?_
      refine sw_ret ⟨.inl rfl, _, rfl, ?_⟩
      simp [conj, *]
end Go.Sx
