/- Several texts, one behind the other. -/
import Derived.Test.YtkbgdpdldoopmaaGreatDoorMY3toMR11
import Derived.Test.YtkbgdpdldoopmaaGreatDoorMR2toMY2
import Derived.Test.YtkbgdpdldoopmaaGreatDoorSxAtoSxF
set_option linter.all false
namespace Go.Sx
open Go
set_option maxRecDepth 100000
set_option linter.unusedVariables false
set_option linter.unusedSimpArgs false
set_option maxHeartbeats 2000000

def cOff : Ctr := ⟨39, [.ref T_l6Rd pF, .val false TI pF], fun x => ROk x.1 800 ∧ 3 ≤ x.2.1 ∧ x.2.1 ≤ 4, fun x => (.v true [.d TI pF (offD x.1 x.2.1).1.1, .d (.sl T_Vol) pF (offD x.1 x.2.1).1.2], [(⟨0, 0, 0⟩, rdA (offD x.1 x.2.1).2)])⟩
theorem cOff_ok : CtrOk Proofs.Tryz.prog cOff := by
  have hP := ((((Prg.none ttok mtok).and cPick_ok).and cRootD_ok).and cSome_ok)
  refine ctr_of_body hP cOff (fn := Proofs.Tryz.f39) (rts := [.cell 4 25]) Proofs.Tryz.func39 rfl (by kernel_rfl) rfl rfl ?_
  rintro ⟨(R : Rd), (d : Int), ⟨⟩⟩ _ ⟨hr, hd3⟩
  try dsimp only [Ty.den, Mode.den, mdens] at hr
  try dsimp only [Ty.den, Mode.den, mdens] at hd3
  refine ⟨rfl, ?_⟩
  replace hr : ROk R 800 := hr
  replace hd3 : 3 ≤ d ∧ d ≤ 4 := hd3
  refine sw_seq ?_
  refine sw_region hP 1 [] rfl (by kernel_rfl) (fun _ => by kernel_rfl) (by first | trivial | (simp [conj]; done) | (simp [conj] at *; (try dsimp only [Ty.den, Ty.dflt] at *); omega)) ?_
  refine sw_seq ?_
  refine sw_region hP 2 [] rfl (by kernel_rfl) (fun _ => by kernel_rfl) ?_ ?_
  · skip
    simp only [conj, List.nil_append, List.cons_append, List.append_nil, List.append_assoc, inR_i64, true_and, and_true, Int.toNat_natCast]
    try dsimp only [Ty.den, Ty.dflt]
    repeat' apply And.intro
    all_goals first | omega | assumption | exact hr.le (by omega) | trivial | exact hd3.1 | exact hd3.2
  refine sw_seq ?_
  refine sw_seq ?_
  obtain ⟨q, hq⟩ : ∃ q, rootD R d = q := ⟨_, rfl⟩
  obtain ⟨hqo, hq4, hq3⟩ : ROk q.2 200 ∧ q.1.2.length ≤ 4 ∧ ∀ v ∈ q.1.2, v.2.length = 3 := hq ▸ rootD_ok (m := 200) (by omega) (hr.le (by omega)) hd3
  have hq1 : ROk (nx q.2) 199 := hqo.nx (by omega)
  have hq2 : ROk (nx (nx q.2)) 198 := hq1.nx (by omega)
  have b3 := pk_bd hq2 (by omega) (n := 3) (by omega)
  refine sw_ent (st' := ⟨[.v false [.ptr ⟨0, 0, 0⟩ 0], sInt .i64 d, .junk, .junk, .v false [.ptr ⟨1, 0, 0⟩ 0], .v false [.ptr ⟨2, 3, 0⟩ 0], .junk, .junk, .junk, .junk, .junk, .junk, .junk, .junk, .junk, .junk, .junk, .junk, .junk, .junk, .junk, .junk, .junk, .junk, .junk, .junk, .junk, .junk, .junk, .junk, .junk, .junk, .junk, .junk, .junk, .junk, .junk, .junk, .junk, .junk, .junk, .junk, .junk, .junk, .junk, .junk, .junk, .junk, .junk, .junk, .junk, .junk, .junk, .junk, .junk, .junk, .junk, .junk, .junk, .junk, .junk, .junk, .junk, .junk, .junk, .junk, .junk, .junk, .junk, .junk, .junk, .junk, .junk, .junk, .junk, .junk, .junk, .junk, .junk, .junk, .junk, .junk, .junk, .junk, .junk, .junk, .junk, .junk, .junk, .junk, .junk, .junk, .junk, .junk, .junk, .junk, .junk], [(⟨0, 0, 0⟩, rdA (q.2)), (⟨1, 0, 0⟩, .var [.d TI pF 0, .d (.sl T_Vol) pF []]), (⟨2, 3, 0⟩, .var [.d TI pF q.1.1, .own ⟨2, 2, 0⟩]), (⟨2, 2, 0⟩, .sl T_Vol (.pr (.all .p) (.sl .w (.all .p))) q.1.2)], 2, [[.v false [.ptr ⟨0, 0, 0⟩ 0], .junk]]⟩) (ent_ok rfl ?_) ?_
  · skip
    simp [conj, hq]
  refine sw_region hP 3 [] rfl (by kernel_rfl) (fun _ => by kernel_rfl) ?_ ?_
  · skip
    simp only [conj, List.nil_append, List.cons_append, List.append_nil, List.append_assoc, inR_i64, true_and, and_true, Int.toNat_natCast]
    try dsimp only [Ty.den, Ty.dflt]
    repeat' apply And.intro
    all_goals first | omega | assumption | exact hqo.le (by omega) | trivial
  refine sw_cond rfl (fun c2 => ?_) (fun c2 => ?_)
  · skip
    replace c2 : 0 < pk q.2 12 := by simpa using c2
    refine sw_seq ?_
    refine sw_region hP 4 [] rfl (by kernel_rfl) (fun _ => by kernel_rfl) (by first | trivial | (simp [conj]; done) | (simp [conj] at *; (try dsimp only [Ty.den, Ty.dflt] at *); omega)) ?_
    refine sw_frz ⟨2, 2, 0⟩ rfl ?_
    refine sw_ret ⟨.inl rfl, _, rfl, ?_⟩
    have ho : offD R d = (q.1, nx q.2) := by
      unfold offD
      simp only [hq]
      rw [if_pos c2]
    simp [conj, ho, v0, aX, zP, bytesL]
    try rfl
  · skip
    replace c2 : ¬ 0 < pk q.2 12 := by simpa using c2
    refine sw_skip ?_
    refine sw_seq ?_
    refine sw_seq ?_
    refine sw_region hP 4 [] rfl (by kernel_rfl) (fun _ => by kernel_rfl) ?_ ?_
    · skip
      simp only [conj, List.nil_append, List.cons_append, List.append_nil, List.append_assoc, inR_i64, true_and, and_true, Int.toNat_natCast]
      try dsimp only [Ty.den, Ty.dflt]
      repeat' apply And.intro
      all_goals first | omega | assumption | exact hq1.le (by omega) | trivial
    refine sw_block ?_
    refine sw_seq ?_
    refine sw_region hP 5 [] rfl (by kernel_rfl) (fun _ => by kernel_rfl) (by first | trivial | (simp [conj]; done) | (simp [conj] at *; (try dsimp only [Ty.den, Ty.dflt] at *); omega)) ?_
    refine sw_cond rfl (fun c7 => ?_) (fun c7 => ?_)
    · skip
      replace c7 : pk (nx q.2) 6 = 0 := by simpa using c7
      refine sw_region hP 6 [] rfl (by kernel_rfl) (fun _ => by kernel_rfl) ?_ ?_
      · skip
        simp only [conj, List.nil_append, List.cons_append, List.append_nil, List.append_assoc, inR_i64, true_and, and_true, Int.toNat_natCast]
        try dsimp only [Ty.den, Ty.dflt]
        repeat' apply And.intro
        all_goals first | omega | assumption | exact hq2.le (by omega) | trivial | (show 0 ≤ pk (nx (nx q.2)) 3; omega) | (show pk (nx (nx q.2)) 3 < 3; omega) | (show (pk (nx (nx q.2)) 3).toNat < 3; omega)
      refine sw_seq ?_
      refine sw_region hP 7 [] rfl (by kernel_rfl) (fun _ => by kernel_rfl) (by first | trivial | (simp [conj]; done) | (simp [conj] at *; (try dsimp only [Ty.den, Ty.dflt] at *); omega)) ?_
      refine sw_frz ⟨2, 2, 0⟩ rfl ?_
      refine sw_ret ⟨.inl rfl, _, rfl, ?_⟩
      have ho : offD R d = ((aX.getD (pk (nx (nx q.2)) 3).toNat 0, q.1.2), nx (nx (nx q.2))) := by
        unfold offD
        simp only [hq]
        rw [if_neg c2, if_pos c7]
      simp [conj, ho, v0, aX, zP, bytesL]
      try rfl
    · skip
      replace c7 : ¬ pk (nx q.2) 6 = 0 := by simpa using c7
      refine sw_seq ?_
      refine sw_region hP 6 [] rfl (by kernel_rfl) (fun _ => by kernel_rfl) (by first | trivial | (simp [conj]; done) | (simp [conj] at *; (try dsimp only [Ty.den, Ty.dflt] at *); omega)) ?_
      refine sw_cond rfl (fun c9 => ?_) (fun c9 => ?_)
      · skip
        replace c9 : pk (nx q.2) 6 = 1 := by simpa using c9
        refine sw_region hP 7 [] rfl (by kernel_rfl) (fun _ => by kernel_rfl) ?_ ?_
        · skip
          simp only [conj, List.nil_append, List.cons_append, List.append_nil, List.append_assoc, inR_i64, true_and, and_true, Int.toNat_natCast]
          try dsimp only [Ty.den, Ty.dflt]
          simp only [maxL]
          repeat' apply And.intro
          all_goals first | omega | (simp; omega) | trivial
        refine sw_seq ?_
        refine sw_region hP 8 [] rfl (by kernel_rfl) (fun _ => by kernel_rfl) (by first | trivial | (simp [conj]; done) | (simp [conj] at *; (try dsimp only [Ty.den, Ty.dflt] at *); omega)) ?_
        refine sw_frz ⟨7, 5, 0⟩ rfl ?_
        refine sw_ret ⟨.inl rfl, _, rfl, ?_⟩
        have ho : offD R d = ((q.1.1, q.1.2 ++ [([65], [zP, zP, zP])]), nx (nx q.2)) := by
          unfold offD
          simp only [hq]
          rw [if_neg c2, if_neg c7, if_pos c9]
        simp [conj, ho, v0, aX, zP, bytesL]
        try rfl
      · skip
        replace c9 : ¬ pk (nx q.2) 6 = 1 := by simpa using c9
        refine sw_seq ?_
        refine sw_region hP 7 [] rfl (by kernel_rfl) (fun _ => by kernel_rfl) (by first | trivial | (simp [conj]; done) | (simp [conj] at *; (try dsimp only [Ty.den, Ty.dflt] at *); omega)) ?_
        refine sw_cond rfl (fun c11 => ?_) (fun c11 => ?_)
        · skip
          replace c11 : pk (nx q.2) 6 = 2 := by simpa using c11
          refine sw_seq ?_
          refine sw_region hP 8 [] rfl (by kernel_rfl) (fun _ => by kernel_rfl) (by first | trivial | (simp [conj]; done) | (simp [conj] at *; (try dsimp only [Ty.den, Ty.dflt] at *); omega)) ?_
          refine sw_cond rfl (fun c12 => ?_) (fun c12 => ?_)
          · skip
            replace c12 : 0 < q.1.2.length := by simpa using c12
            have h30 : (q.1.2[0]).2.length = 3 := hq3 _ (List.getElem_mem c12)
            refine sw_frzIn ⟨2, 2, 0⟩ rfl ?_
            refine sw_region hP 9 [] rfl (by kernel_rfl) (fun _ => by kernel_rfl) ?_ ?_
            · skip
              simp [conj, List.getElem?_eq_getElem c12]
              omega
            refine sw_seq ?_
            refine sw_region hP 10 [] rfl (by kernel_rfl) (fun _ => by kernel_rfl) (by first | trivial | (simp [conj]; done) | (simp [conj] at *; (try dsimp only [Ty.den, Ty.dflt] at *); omega)) ?_
            refine sw_frz ⟨2, 2, 0⟩ rfl ?_
            refine sw_ret ⟨.inl rfl, _, rfl, ?_⟩
            have ho : offD R d = ((q.1.1, q.1.2.set 0 ((v0 q.1.2).1, (v0 q.1.2).2.drop 1)), nx (nx q.2)) := by
              unfold offD
              simp only [hq]
              rw [if_neg c2, if_neg c7, if_neg c9, if_pos c11, if_pos c12]
            simp [conj, ho, v0, aX, zP, bytesL]
            try rfl
          · skip
            replace c12 : ¬ 0 < q.1.2.length := by simpa using c12
            refine sw_skip ?_
            refine sw_seq ?_
            refine sw_region hP 9 [] rfl (by kernel_rfl) (fun _ => by kernel_rfl) (by first | trivial | (simp [conj]; done) | (simp [conj] at *; (try dsimp only [Ty.den, Ty.dflt] at *); omega)) ?_
            refine sw_frz ⟨2, 2, 0⟩ rfl ?_
            refine sw_ret ⟨.inl rfl, _, rfl, ?_⟩
            have ho : offD R d = (q.1, nx (nx q.2)) := by
              unfold offD
              simp only [hq]
              rw [if_neg c2, if_neg c7, if_neg c9, if_pos c11, if_neg c12]
            simp [conj, ho, v0, aX, zP, bytesL]
            try rfl
        · skip
          replace c11 : ¬ pk (nx q.2) 6 = 2 := by simpa using c11
          refine sw_seq ?_
          refine sw_region hP 8 [] rfl (by kernel_rfl) (fun _ => by kernel_rfl) (by first | trivial | (simp [conj]; done) | (simp [conj] at *; (try dsimp only [Ty.den, Ty.dflt] at *); omega)) ?_
          refine sw_cond rfl (fun c14 => ?_) (fun c14 => ?_)
          · skip
            replace c14 : pk (nx q.2) 6 = 3 := by simpa using c14
            refine sw_seq ?_
            refine sw_region hP 9 [] rfl (by kernel_rfl) (fun _ => by kernel_rfl) (by first | trivial | (simp [conj]; done) | (simp [conj] at *; (try dsimp only [Ty.den, Ty.dflt] at *); omega)) ?_
            refine sw_cond rfl (fun c15 => ?_) (fun c15 => ?_)
            · skip
              replace c15 : 0 < q.1.2.length := by simpa using c15
              have h30 : (q.1.2[0]).2.length = 3 := hq3 _ (List.getElem_mem c15)
              refine sw_region hP 10 [] rfl (by kernel_rfl) (fun _ => by kernel_rfl) ?_ ?_
              · skip
                simp only [conj, List.nil_append, List.cons_append, List.append_nil, List.append_assoc, inR_i64, true_and, and_true, Int.toNat_natCast]
                try dsimp only [Ty.den, Ty.dflt]
                repeat' apply And.intro
                all_goals first | omega | assumption | exact hq2.le (by omega) | trivial | exact hd3.1 | exact hd3.2 | (simp [List.getElem?_eq_getElem c15]; omega)
              refine sw_seq ?_
              refine sw_region hP 11 [] rfl (by kernel_rfl) (fun _ => by kernel_rfl) (by first | trivial | (simp [conj]; done) | (simp [conj] at *; (try dsimp only [Ty.den, Ty.dflt] at *); omega)) ?_
              refine sw_pack ⟨2, 2, 0⟩ T_Vol (.pr (.all .p) (.sl .w (.all .p))) rfl ?_
              refine sw_frz ⟨2, 2, 0⟩ rfl ?_
              refine sw_ret ⟨.inl rfl, _, rfl, ?_⟩
              have ho : offD R d = ((q.1.1, q.1.2.set 0 ((v0 q.1.2).1, (v0 q.1.2).2.set 0 (someD (nx (nx q.2)) d).1)), (someD (nx (nx q.2)) d).2) := by
                unfold offD
                simp only [hq]
                rw [if_neg c2, if_neg c7, if_neg c9, if_neg c11, if_pos c14, if_pos c15]
              simp [conj, ho, v0, aX, zP, bytesL]
              try rfl
            · skip
              replace c15 : ¬ 0 < q.1.2.length := by simpa using c15
              refine sw_skip ?_
              refine sw_seq ?_
              refine sw_region hP 10 [] rfl (by kernel_rfl) (fun _ => by kernel_rfl) (by first | trivial | (simp [conj]; done) | (simp [conj] at *; (try dsimp only [Ty.den, Ty.dflt] at *); omega)) ?_
              refine sw_frz ⟨2, 2, 0⟩ rfl ?_
              refine sw_ret ⟨.inl rfl, _, rfl, ?_⟩
              have ho : offD R d = (q.1, nx (nx q.2)) := by
                unfold offD
                simp only [hq]
                rw [if_neg c2, if_neg c7, if_neg c9, if_neg c11, if_pos c14, if_neg c15]
              simp [conj, ho, v0, aX, zP, bytesL]
              try rfl
          · skip
            replace c14 : ¬ pk (nx q.2) 6 = 3 := by simpa using c14
            refine sw_seq ?_
            refine sw_region hP 9 [] rfl (by kernel_rfl) (fun _ => by kernel_rfl) (by first | trivial | (simp [conj]; done) | (simp [conj] at *; (try dsimp only [Ty.den, Ty.dflt] at *); omega)) ?_
            refine sw_cond rfl (fun c17 => ?_) (fun c17 => ?_)
            · skip
              replace c17 : pk (nx q.2) 6 = 4 := by simpa using c17
              refine sw_seq ?_
              refine sw_region hP 10 [] rfl (by kernel_rfl) (fun _ => by kernel_rfl) (by first | trivial | (simp [conj]; done) | (simp [conj] at *; (try dsimp only [Ty.den, Ty.dflt] at *); omega)) ?_
              refine sw_cond rfl (fun c18 => ?_) (fun c18 => ?_)
              · skip
                replace c18 : 0 < q.1.2.length := by simpa using c18
                have h30 : (q.1.2[0]).2.length = 3 := hq3 _ (List.getElem_mem c18)
                refine sw_frzIn ⟨2, 2, 0⟩ rfl ?_
                refine sw_region hP 11 [] rfl (by kernel_rfl) (fun _ => by kernel_rfl) ?_ ?_
                · skip
                  simp only [conj, List.nil_append, List.cons_append, List.append_nil, List.append_assoc, inR_i64, true_and, and_true, Int.toNat_natCast]
                  try dsimp only [Ty.den, Ty.dflt]
                  simp only [maxL]
                  repeat' apply And.intro
                  all_goals first | omega | (simp; omega) | trivial
                refine sw_seq ?_
                refine sw_region hP 12 [] rfl (by kernel_rfl) (fun _ => by kernel_rfl) (by first | trivial | (simp [conj]; done) | (simp [conj] at *; (try dsimp only [Ty.den, Ty.dflt] at *); omega)) ?_
                refine sw_frz ⟨11, 7, 0⟩ rfl ?_
                refine sw_ret ⟨.inl rfl, _, rfl, ?_⟩
                have ho : offD R d = ((q.1.1, q.1.2 ++ [(v0 q.1.2)]), nx (nx q.2)) := by
                  unfold offD
                  simp only [hq]
                  rw [if_neg c2, if_neg c7, if_neg c9, if_neg c11, if_neg c14, if_pos c17, if_pos c18]
                simp [conj, ho, v0, aX, zP, bytesL]
                try rfl
              · skip
                replace c18 : ¬ 0 < q.1.2.length := by simpa using c18
                refine sw_skip ?_
                refine sw_seq ?_
                refine sw_region hP 11 [] rfl (by kernel_rfl) (fun _ => by kernel_rfl) (by first | trivial | (simp [conj]; done) | (simp [conj] at *; (try dsimp only [Ty.den, Ty.dflt] at *); omega)) ?_
                refine sw_frz ⟨2, 2, 0⟩ rfl ?_
                refine sw_ret ⟨.inl rfl, _, rfl, ?_⟩
                have ho : offD R d = (q.1, nx (nx q.2)) := by
                  unfold offD
                  simp only [hq]
                  rw [if_neg c2, if_neg c7, if_neg c9, if_neg c11, if_neg c14, if_pos c17, if_neg c18]
                simp [conj, ho, v0, aX, zP, bytesL]
                try rfl
            · skip
              replace c17 : ¬ pk (nx q.2) 6 = 4 := by simpa using c17
              refine sw_block ?_
              refine sw_loop (ι := List Vol_) (fun w => ⟨[.v false [.ptr ⟨0, 0, 0⟩ 0], sInt .i64 d, .junk, .junk, .v false [.ptr ⟨1, 0, 0⟩ 0], .v false [.ptr ⟨2, 3, 0⟩ 0], .junk, .junk, .junk, .junk, .junk, .junk, .junk, .junk, .junk, .junk, .junk, .junk, .junk, .junk, .junk, .junk, .junk, .junk, .junk, .junk, .junk, .junk, .junk, .junk, .junk, .junk, .junk, .junk, .junk, .junk, .junk, .junk, .junk, .junk, .junk, .junk, .junk, .junk, .junk, .junk, .junk, .junk, .junk, .junk, .junk, .junk, .junk, .junk, .junk, .junk, .junk, .junk, .junk, .junk, .junk, .junk, .junk, .junk, .junk, .junk, .junk, .junk, .junk, .junk, .junk, .junk, .junk, .junk, .junk, .junk, .junk, .junk, .junk, .junk, .junk, .junk, .junk, .junk, .junk, .junk, .junk, .junk, .junk, .junk, .junk, .junk, .junk, .junk, .junk, .junk, .junk], [(⟨0, 0, 0⟩, rdA (nx (nx q.2))), (⟨1, 0, 0⟩, .var [.d TI pF 0, .d (.sl T_Vol) pF []]), (⟨2, 3, 0⟩, .var [.d TI pF q.1.1, .own ⟨0, 9, 0⟩]), (⟨0, 9, 0⟩, .sl T_Vol (.pr (.all .p) (.sl .w (.all .p))) w)], 9, [[.v false [.ptr ⟨0, 0, 0⟩ 0], .junk]]⟩) (fun w => 5 - w.length) (fun w => w.length ≤ 5 ∧ fillGo (5 - w.length) w = fillGo (5 - q.1.2.length) q.1.2) q.1.2 ⟨?_, ?_⟩ ?_
              · skip
                exact ⟨by omega, rfl⟩
              · refine ent_ok rfl ?_
                simp [conj]
              · rintro w ⟨hwl, hgo⟩
                refine sw_seq ?_
                refine sw_seq ?_
                refine sw_region hP 10 [] rfl (by kernel_rfl) (fun _ => by kernel_rfl) (by first | trivial | (simp [conj]; done) | (simp [conj] at *; (try dsimp only [Ty.den, Ty.dflt] at *); omega)) ?_
                refine sw_cond rfl (fun c5 => ?_) (fun c5 => ?_)
                · skip
                  have hw : w.length ≤ 4 := by have h := c5; simp at h; omega
                  obtain ⟨m, hm⟩ : ∃ m, 5 - w.length = m + 1 := ⟨4 - w.length, by omega⟩
                  rw [hm] at hgo
                  have hm2 : 5 - (w.length + 1) = m := by omega
                  refine sw_skip ?_
                  refine sw_block ?_
                  refine sw_region hP 11 [] rfl (by kernel_rfl) (fun _ => by kernel_rfl) ?_ ?_
                  · skip
                    simp only [conj, List.nil_append, List.cons_append, List.append_nil, List.append_assoc, inR_i64, true_and, and_true, Int.toNat_natCast]
                    try dsimp only [Ty.den, Ty.dflt]
                    simp only [maxL]
                    repeat' apply And.intro
                    all_goals first | omega | (simp; omega) | (show (0 : Int) ≤ 107 + (w.length : Int); omega) | (show 107 + (w.length : Int) ≤ 255; omega) | trivial
                  refine ⟨w ++ [([UInt8.ofNat (107 + w.length)], [zP, zP, zP])], ?_, ?_, ent_ok rfl ?_⟩
                  · skip
                    exact ⟨by simp; omega, by rw [List.length_append, List.length_singleton, hm2]; exact hgo⟩
                  · skip
                    show 5 - (w ++ [_]).length < 5 - w.length
                    rw [List.length_append, List.length_singleton]
                    omega
                  · skip
                    simp [conj, zP]
                    generalize w.length = n at hw ⊢
                    (obtain rfl | rfl | rfl | rfl | rfl : n = 0 ∨ n = 1 ∨ n = 2 ∨ n = 3 ∨ n = 4 := by omega) <;> rfl
                · skip
                  have hw : 5 - w.length = 0 := by have h := c5; simp at h; omega
                  rw [hw] at hgo
                  replace hgo : w = fillGo (5 - q.1.2.length) q.1.2 := hgo
                  refine sw_exit ?_
                  refine sw_seq ?_
                  refine sw_region hP 11 [] rfl (by kernel_rfl) (fun _ => by kernel_rfl) (by first | trivial | (simp [conj]; done) | (simp [conj] at *; (try dsimp only [Ty.den, Ty.dflt] at *); omega)) ?_
                  refine sw_frz ⟨0, 9, 0⟩ rfl ?_
                  refine sw_ret ⟨.inl rfl, _, rfl, ?_⟩
                  have ho : offD R d = ((q.1.1, fillGo (5 - q.1.2.length) q.1.2), nx (nx q.2)) := by
                    unfold offD
                    simp only [hq]
                    rw [if_neg c2, if_neg c7, if_neg c9, if_neg c11, if_neg c14, if_neg c17]
                  rw [← hgo] at ho
                  simp [conj, ho, v0, aX, zP, bytesL]
                  try rfl
end Go.Sx

namespace Go.Sx
open Go
set_option maxRecDepth 100000
set_option linter.unusedVariables false
set_option linter.unusedSimpArgs false
set_option maxHeartbeats 2000000

def cDrR : Ctr := ⟨17, [.val false TB pF], fun x => True, fun x => (.tup [(false, [.d TI pF (drN x.1)]), (true, [.d TI pF (drR x.1).1, .d (.sl T_Vol) pF (drR x.1).2])], [])⟩
theorem cDrR_ok : CtrOk Proofs.Tryz.prog cDrR := by
  have hP := ((((Prg.none ttok mtok).and cOpen_ok).and cDisksD_ok).and cOff_ok)
  refine ctr_of_body hP cDrR (fn := Proofs.Tryz.f17) (rts := [.tmp 2, .cell 3 25]) Proofs.Tryz.func17 rfl (by kernel_rfl) rfl rfl ?_
  rintro ⟨(code : List Int), ⟨⟩⟩ ⟨hdc, _⟩ _
  try dsimp only [Ty.den, Mode.den, mdens] at _
  refine ⟨rfl, ?_⟩
  have h0 : ROk (rd0 code) 3000 := rd0_ok hdc.2
  have h1 : ROk (nx (rd0 code)) 2999 := h0.nx (by omega)
  have hn := drN_bd h0
  refine sw_seq ?_
  refine sw_region hP 1 [] rfl (by kernel_rfl) (fun _ => by kernel_rfl) (by first | trivial | (simp [conj]; done) | (simp [conj] at *; (try dsimp only [Ty.den, Ty.dflt] at *); omega)) ?_
  refine sw_seq ?_
  refine sw_region hP 2 [] rfl (by kernel_rfl) (fun _ => by kernel_rfl) (by first | trivial | (simp [conj]; done) | (simp [conj] at *; (try dsimp only [Ty.den, Ty.dflt] at *); omega)) ?_
  refine sw_seq ?_
  refine sw_region hP 3 [] rfl (by kernel_rfl) (fun _ => by kernel_rfl) ?_ ?_
  · skip
    simp only [conj, List.nil_append, List.cons_append, List.append_nil, List.append_assoc, inR_i64, true_and, and_true, Int.toNat_natCast]
    try dsimp only [Ty.den, Ty.dflt]
    repeat' apply And.intro
    all_goals first | omega | exact h0.le (by omega) | exact h1.le (by omega) | (show 3 ≤ drN code; omega) | (show drN code ≤ 4; omega) | trivial
  refine sw_seq ?_
  refine sw_region hP 4 [] rfl (by kernel_rfl) (fun _ => by kernel_rfl) ?_ ?_
  · skip
    simp only [conj, List.nil_append, List.cons_append, List.append_nil, List.append_assoc, inR_i64, true_and, and_true, Int.toNat_natCast]
    try dsimp only [Ty.den, Ty.dflt]
    repeat' apply And.intro
    all_goals first | omega | exact h0.le (by omega) | exact h1.le (by omega) | (show 3 ≤ drN code; omega) | (show drN code ≤ 4; omega) | trivial
  refine sw_ret ⟨.inl rfl, _, rfl, ?_⟩
  simp [conj, drR, drN, rd0]

def cDrT : Ctr := ⟨6, [.val false TB pF], fun x => True, fun x => (.tup [(false, [.d TI pF (drN x.1)]), (true, [.d TI pF (drR x.1).1, .d (.sl T_Vol) pF (drR x.1).2])], [])⟩
theorem cDrT_ok : CtrOk Proofs.Tryz.prog cDrT := by
  have hP := ((Prg.none ttok mtok).and cDrR_ok)
  refine ctr_of_body hP cDrT (fn := Proofs.Tryz.f6) (rts := [.tmp 2, .cell 3 25]) Proofs.Tryz.func6 rfl (by kernel_rfl) rfl rfl ?_
  rintro ⟨(code : List Int), ⟨⟩⟩ ⟨hdc, _⟩ _
  try dsimp only [Ty.den, Mode.den, mdens] at _
  refine ⟨rfl, ?_⟩
  refine sw_seq ?_
  refine sw_region hP 1 [] rfl (by kernel_rfl) (fun _ => by kernel_rfl) (by first | trivial | (simp [conj]; done) | (simp [conj] at *; (try dsimp only [Ty.den, Ty.dflt] at *); omega)) ?_
  refine sw_seq ?_
  refine sw_region hP 2 [] rfl (by kernel_rfl) (fun _ => by kernel_rfl) (by first | trivial | (simp [conj]; done) | (simp [conj] at *; (try dsimp only [Ty.den, Ty.dflt] at *); omega)) ?_
  refine sw_ret ⟨.inl rfl, _, rfl, ?_⟩
  simp [conj]
end Go.Sx

namespace Go.Sx
open Go
set_option maxRecDepth 100000
set_option linter.unusedVariables false
set_option linter.unusedSimpArgs false
set_option maxHeartbeats 2000000

def cVolsS : Ctr := ⟨45, [.val false TI pF, .val true T_Root (.all .b)], fun x => poolV x.1 = true ∧ List.length x.2.1.2 ≤ 4, fun x => (sBool (volsS x.1 x.2.1.2), [])⟩
theorem cVolsS_ok : CtrOk Proofs.Tryz.prog cVolsS := by
  have hP := ((((((Prg.none ttok mtok).and cName_ok).and cAll_ok).and cPtrS_ok).and cMeet_ok).and cSameS_ok)
  refine ctr_of_body hP cVolsS (fn := Proofs.Tryz.f45) (rts := [.tmp 4]) Proofs.Tryz.func45 rfl (by kernel_rfl) rfl rfl ?_
  rintro ⟨(d : Int), ⟨(tg : Int), (l : List Vol_)⟩, ⟨⟩⟩ ⟨_, ⟨_, hl0⟩, _⟩ ⟨hd1, h4⟩
  try dsimp only [Ty.den, Mode.den, mdens] at hd1
  try dsimp only [Ty.den, Mode.den, mdens] at h4
  refine ⟨rfl, ?_⟩
  replace hd1 : poolV d = true := hd1
  replace h4 : l.length ≤ 4 := h4
  refine sw_seq ?_
  refine sw_region hP 1 [] rfl (by kernel_rfl) (fun _ => by kernel_rfl) (by first | trivial | (simp [conj]; done) | (simp [conj] at *; (try dsimp only [Ty.den, Ty.dflt] at *); omega)) ?_
  refine sw_seq ?_
  refine sw_seq ?_
  refine sw_region hP 2 [] rfl (by kernel_rfl) (fun _ => by kernel_rfl) (by first | trivial | (simp [conj]; done) | (simp [conj] at *; (try dsimp only [Ty.den, Ty.dflt] at *); omega)) ?_
  refine sw_block ?_
  refine sw_loop (ι := Nat) (fun i => ⟨[sInt .i64 d, .junk, .junk, .v false [.ptr ⟨1, 0, 0⟩ 0], .junk, sInt .i64 (i : Int), .junk, .junk, .junk, .junk, .junk, .junk, .junk, .junk, .junk, .junk, .junk, .junk, .junk, .junk, .junk, .junk, .junk, .junk, .junk, .junk, .junk, .junk, .junk, .junk, .junk, .junk, .junk, .junk, .junk, .junk, .junk, .junk, .junk, .junk, .junk, .junk, .junk, .junk, .junk, .junk, .junk, .junk, .junk, .junk, .junk, .junk, .junk, .junk, .junk, .junk, .junk, .junk, .junk, .junk, .junk, .junk, .junk, .junk, .junk, .junk, .junk, .junk, .junk, .junk, .junk, .junk, .junk, .junk, .junk, .junk, .junk, .junk, .junk, .junk, .junk, .junk, .junk, .junk, .junk, .junk, .junk, .junk, .junk, .junk, .junk, .junk, .junk, .junk], [(⟨1, 0, 0⟩, .var [.d TI pF tg, .d (.sl T_Vol) (.all .b) l])], 2, []⟩) (fun i => l.length - i) (fun i => i ≤ l.length ∧ chkGo volG (l.take i) (l.drop i) = chk volG l) 0 ⟨?_, ?_⟩ ?_
  · skip
    exact ⟨Nat.zero_le _, rfl⟩
  · refine ent_ok rfl ?_
    simp [conj]
  · rintro i ⟨hi, hgo⟩
    refine sw_seq ?_
    refine sw_seq ?_
    refine sw_region hP 3 [] rfl (by kernel_rfl) (fun _ => by kernel_rfl) (by first | trivial | (simp [conj]; done) | (simp [conj] at *; (try dsimp only [Ty.den, Ty.dflt] at *); omega)) ?_
    refine sw_cond rfl (fun c2 => ?_) (fun c2 => ?_)
    · skip
      have hlt : i < l.length := by simpa using c2
      have hml2 : l[i].2.length ≤ 140737488355328 := (hl0.2 _ (List.getElem_mem hlt)).2.1
      refine sw_skip ?_
      refine sw_seq ?_
      refine sw_block ?_
      refine sw_seq ?_
      refine sw_seq ?_
      refine sw_dec hP 4 [] 8 rfl (fun g4_8 => ?_) (fun g4_8 => ?_)
      · skip
        have k8 : nameV l[i].1 = false := by simpa [List.getElem?_eq_getElem hlt] using g4_8
        have hf : volG (l.take i) l[i] = false := by simp [volG, k8]
        refine sw_region hP 4 [(8, true)] rfl (by kernel_rfl) (fun _ => by kernel_rfl) ?_ ?_
        · skip
          simp [conj, List.getElem?_eq_getElem hlt]
          repeat' apply And.intro
          all_goals first | omega | assumption | (simp [*]; done) | trivial
        refine sw_condT rfl ?_
        refine sw_seq ?_
        refine sw_region hP 5 [] rfl (by kernel_rfl) (fun _ => by kernel_rfl) (by first | trivial | (simp [conj]; done) | (simp [conj] at *; (try dsimp only [Ty.den, Ty.dflt] at *); omega)) ?_
        refine sw_ret ⟨.inl rfl, _, rfl, ?_⟩
        have hv := chk_hit hlt hgo hf
        simp [conj, volsS, hv]
      · skip
        have k8 : nameV l[i].1 = true := by simpa [List.getElem?_eq_getElem hlt] using g4_8
        refine sw_region hP 4 [(8, false)] rfl (by kernel_rfl) (fun _ => by kernel_rfl) ?_ ?_
        · skip
          simp [conj, List.getElem?_eq_getElem hlt]
          repeat' apply And.intro
          all_goals first | omega | assumption | (simp [*]; done) | trivial
        refine sw_cond rfl (fun c4 => ?_) (fun c4 => ?_)
        · skip
          replace c4 : ¬ l[i].2.length = 3 := by
            have h := c4
            simp [List.getElem?_eq_getElem hlt] at h
            omega
          have hf : volG (l.take i) l[i] = false := by simp [volG, c4]
          refine sw_seq ?_
          refine sw_region hP 5 [] rfl (by kernel_rfl) (fun _ => by kernel_rfl) (by first | trivial | (simp [conj]; done) | (simp [conj] at *; (try dsimp only [Ty.den, Ty.dflt] at *); omega)) ?_
          refine sw_ret ⟨.inl rfl, _, rfl, ?_⟩
          have hv := chk_hit hlt hgo hf
          simp [conj, volsS, hv]
        · skip
          replace c4 : l[i].2.length = 3 := by
            have h := c4
            simp [List.getElem?_eq_getElem hlt] at h
            omega
          refine sw_skip ?_
          refine sw_seq ?_
          refine sw_region hP 5 [] rfl (by kernel_rfl) (fun _ => by kernel_rfl) (by first | trivial | (simp [conj]; done) | (simp [conj] at *; (try dsimp only [Ty.den, Ty.dflt] at *); omega)) ?_
          refine sw_block ?_
          refine sw_loop (ι := Nat) (fun k => ⟨[sInt .i64 d, .junk, .junk, .v false [.ptr ⟨1, 0, 0⟩ 0], .junk, sInt .i64 (i : Int), sInt .i64 (k : Int), .junk, .junk, .junk, .junk, .junk, .junk, .junk, .junk, .junk, .junk, .junk, .junk, .junk, .junk, .junk, .junk, .junk, .junk, .junk, .junk, .junk, .junk, .junk, .junk, .junk, .junk, .junk, .junk, .junk, .junk, .junk, .junk, .junk, .junk, .junk, .junk, .junk, .junk, .junk, .junk, .junk, .junk, .junk, .junk, .junk, .junk, .junk, .junk, .junk, .junk, .junk, .junk, .junk, .junk, .junk, .junk, .junk, .junk, .junk, .junk, .junk, .junk, .junk, .junk, .junk, .junk, .junk, .junk, .junk, .junk, .junk, .junk, .junk, .junk, .junk, .junk, .junk, .junk, .junk, .junk, .junk, .junk, .junk, .junk, .junk, .junk, .junk], [(⟨1, 0, 0⟩, .var [.d TI pF tg, .d (.sl T_Vol) (.all .b) l])], 5, []⟩) (fun k => i - k) (fun k => k ≤ i ∧ (l.take k).any (fun w : Vol_ => decide (w.1 = l[i].1)) = false) 0 ⟨?_, ?_⟩ ?_
          · skip
            exact ⟨Nat.zero_le _, rfl⟩
          · refine ent_ok rfl ?_
            simp [conj]
          · rintro k ⟨hk, hgk⟩
            refine sw_seq ?_
            refine sw_seq ?_
            refine sw_region hP 6 [] rfl (by kernel_rfl) (fun _ => by kernel_rfl) (by first | trivial | (simp [conj]; done) | (simp [conj] at *; (try dsimp only [Ty.den, Ty.dflt] at *); omega)) ?_
            refine sw_cond rfl (fun c7 => ?_) (fun c7 => ?_)
            · skip
              have hki : k < i := by simpa using c7
              have hlk : k < l.length := by omega
              refine sw_skip ?_
              refine sw_seq ?_
              refine sw_block ?_
              refine sw_seq ?_
              refine sw_region hP 7 [] rfl (by kernel_rfl) (fun _ => by kernel_rfl) ?_ ?_
              · skip
                simp [conj, List.getElem?_eq_getElem hlt, List.getElem?_eq_getElem hlk]
                repeat' apply And.intro
                all_goals first | omega | trivial
              refine sw_cond rfl (fun c9 => ?_) (fun c9 => ?_)
              · skip
                replace c9 : (fun w : Vol_ => decide (w.1 = l[i].1)) l[k] = true := by simpa [List.getElem?_eq_getElem hlt, List.getElem?_eq_getElem hlk] using c9
                have hf : volG (l.take i) l[i] = false := by unfold volG; rw [any_hit hki hlk c9]; simp
                refine sw_seq ?_
                refine sw_region hP 8 [] rfl (by kernel_rfl) (fun _ => by kernel_rfl) (by first | trivial | (simp [conj]; done) | (simp [conj] at *; (try dsimp only [Ty.den, Ty.dflt] at *); omega)) ?_
                refine sw_ret ⟨.inl rfl, _, rfl, ?_⟩
                have hv := chk_hit hlt hgo hf
                simp [conj, volsS, hv]
              · skip
                replace c9 : (fun w : Vol_ => decide (w.1 = l[i].1)) l[k] = false := by simpa [List.getElem?_eq_getElem hlt, List.getElem?_eq_getElem hlk] using c9
                refine sw_skip ?_
                refine sw_region hP 8 [] rfl (by kernel_rfl) (fun _ => by kernel_rfl) (by first | trivial | (simp [conj]; done) | (simp [conj] at *; (try dsimp only [Ty.den, Ty.dflt] at *); omega)) ?_
                refine ⟨k + 1, ?_, ?_, ent_ok rfl ?_⟩
                · skip
                  exact ⟨hki, any_next hlk hgk c9⟩
                · skip
                  omega
                · skip
                  simp [conj]
            · skip
              obtain rfl : k = i := by simp at c7; omega
              have hf : volG (l.take k) l[k] = true := by unfold volG; rw [k8, hgk, c4]; rfl
              refine sw_exit ?_
              refine sw_region hP 7 [] rfl (by kernel_rfl) (fun _ => by kernel_rfl) (by first | trivial | (simp [conj]; done) | (simp [conj] at *; (try dsimp only [Ty.den, Ty.dflt] at *); omega)) ?_
              refine ⟨k + 1, ?_, ?_, ent_ok rfl ?_⟩
              · skip
                exact ⟨hlt, chk_next hlt hgo hf⟩
              · skip
                omega
              · skip
                simp [conj]
    · skip
      obtain rfl : i = l.length := by simp at c2; omega
      have hvg : chk volG l = true := chk_end hgo
      have hsv := volG_small hvg h4
      have hbl := blks_all hsv
      refine sw_exit ?_
      refine sw_seq ?_
      refine sw_region hP 4 [] rfl (by kernel_rfl) (fun _ => by kernel_rfl) ?_ ?_
      · skip
        simp [conj, maxL]
        try dsimp only [Ty.den, Ty.dflt]
        try simp only [rd_eta]
        exact hsv
      refine sw_seq ?_
      refine sw_seq ?_
      refine sw_region hP 5 [] rfl (by kernel_rfl) (fun _ => by kernel_rfl) (by first | trivial | (simp [conj]; done) | (simp [conj] at *; (try dsimp only [Ty.den, Ty.dflt] at *); omega)) ?_
      refine sw_block ?_
      refine sw_loop (ι := Nat) (fun n => ⟨[sInt .i64 d, .junk, .junk, .v false [.ptr ⟨1, 0, 0⟩ 0], .junk, .junk, .junk, .v false [.own ⟨0, 9, 0⟩], sInt .i64 (n : Int), .junk, .junk, .junk, .junk, .junk, .junk, .junk, .junk, .junk, .junk, .junk, .junk, .junk, .junk, .junk, .junk, .junk, .junk, .junk, .junk, .junk, .junk, .junk, .junk, .junk, .junk, .junk, .junk, .junk, .junk, .junk, .junk, .junk, .junk, .junk, .junk, .junk, .junk, .junk, .junk, .junk, .junk, .junk, .junk, .junk, .junk, .junk, .junk, .junk, .junk, .junk, .junk, .junk, .junk, .junk, .junk, .junk, .junk, .junk, .junk, .junk, .junk, .junk, .junk, .junk, .junk, .junk, .junk, .junk, .junk, .junk, .junk, .junk, .junk, .junk, .junk, .junk, .junk, .junk, .junk, .junk, .junk, .junk, .junk, .junk], [(⟨1, 0, 0⟩, .var [.d TI pF tg, .d (.sl T_Vol) (.all .b) l]), (⟨0, 9, 0⟩, .sl T_Ptr (.all .b) (blksOf l))], 5, []⟩) (fun n => (blksOf l).length - n) (fun n => n ≤ (blksOf l).length ∧ chkGo (ptrG d) ((blksOf l).take n) ((blksOf l).drop n) = chk (ptrG d) (blksOf l)) 0 ⟨?_, ?_⟩ ?_
      · skip
        exact ⟨Nat.zero_le _, rfl⟩
      · refine ent_ok rfl ?_
        simp [conj]
      · rintro n ⟨hn, hgn⟩
        refine sw_seq ?_
        refine sw_seq ?_
        refine sw_region hP 6 [] rfl (by kernel_rfl) (fun _ => by kernel_rfl) (by first | trivial | (simp [conj]; done) | (simp [conj] at *; (try dsimp only [Ty.den, Ty.dflt] at *); omega)) ?_
        refine sw_cond rfl (fun c13 => ?_) (fun c13 => ?_)
        · skip
          have hln : n < (blksOf l).length := by simpa using c13
          refine sw_skip ?_
          refine sw_seq ?_
          refine sw_block ?_
          refine sw_seq ?_
          refine sw_seq ?_
          refine sw_region hP 7 [] rfl (by kernel_rfl) (fun _ => by kernel_rfl) ?_ ?_
          · skip
            simp [conj, List.getElem?_eq_getElem hln]
            repeat' apply And.intro
            all_goals first | omega | exact hd1 | trivial
          refine sw_cond rfl (fun c15 => ?_) (fun c15 => ?_)
          · skip
            replace c15 : ptrW d (blksOf l)[n] = false := by simpa [List.getElem?_eq_getElem hln] using c15
            have hf : ptrG d ((blksOf l).take n) (blksOf l)[n] = false := by simp [ptrG, c15]
            refine sw_seq ?_
            refine sw_region hP 8 [] rfl (by kernel_rfl) (fun _ => by kernel_rfl) (by first | trivial | (simp [conj]; done) | (simp [conj] at *; (try dsimp only [Ty.den, Ty.dflt] at *); omega)) ?_
            refine sw_ret ⟨.inl rfl, _, rfl, ?_⟩
            have hv := chk_hit hln hgn hf
            simp [conj, volsS, hvg, hv]
          · skip
            replace c15 : ptrW d (blksOf l)[n] = true := by simpa [List.getElem?_eq_getElem hln] using c15
            refine sw_skip ?_
            refine sw_seq ?_
            refine sw_region hP 8 [] rfl (by kernel_rfl) (fun _ => by kernel_rfl) (by first | trivial | (simp [conj]; done) | (simp [conj] at *; (try dsimp only [Ty.den, Ty.dflt] at *); omega)) ?_
            refine sw_block ?_
            refine sw_loop (ι := Nat) (fun m => ⟨[sInt .i64 d, .junk, .junk, .v false [.ptr ⟨1, 0, 0⟩ 0], .junk, .junk, .junk, .v false [.own ⟨0, 9, 0⟩], sInt .i64 (n : Int), sInt .i64 (m : Int), .junk, .junk, .junk, .junk, .junk, .junk, .junk, .junk, .junk, .junk, .junk, .junk, .junk, .junk, .junk, .junk, .junk, .junk, .junk, .junk, .junk, .junk, .junk, .junk, .junk, .junk, .junk, .junk, .junk, .junk, .junk, .junk, .junk, .junk, .junk, .junk, .junk, .junk, .junk, .junk, .junk, .junk, .junk, .junk, .junk, .junk, .junk, .junk, .junk, .junk, .junk, .junk, .junk, .junk, .junk, .junk, .junk, .junk, .junk, .junk, .junk, .junk, .junk, .junk, .junk, .junk, .junk, .junk, .junk, .junk, .junk, .junk, .junk, .junk, .junk, .junk, .junk, .junk, .junk, .junk, .junk, .junk, .junk, .junk], [(⟨1, 0, 0⟩, .var [.d TI pF tg, .d (.sl T_Vol) (.all .b) l]), (⟨0, 9, 0⟩, .sl T_Ptr (.all .b) (blksOf l))], 8, []⟩) (fun m => n - m) (fun m => m ≤ n ∧ ((blksOf l).take m).any (fun q : Ptr_ => meetV (blksOf l)[n] q && !decide ((blksOf l)[n] = q)) = false) 0 ⟨?_, ?_⟩ ?_
            · skip
              exact ⟨Nat.zero_le _, rfl⟩
            · refine ent_ok rfl ?_
              simp [conj]
            · rintro m ⟨hm, hgm⟩
              refine sw_seq ?_
              refine sw_seq ?_
              refine sw_region hP 9 [] rfl (by kernel_rfl) (fun _ => by kernel_rfl) (by first | trivial | (simp [conj]; done) | (simp [conj] at *; (try dsimp only [Ty.den, Ty.dflt] at *); omega)) ?_
              refine sw_cond rfl (fun c18 => ?_) (fun c18 => ?_)
              · skip
                have hmn : m < n := by simpa using c18
                have hlm : m < (blksOf l).length := by omega
                refine sw_skip ?_
                refine sw_seq ?_
                refine sw_block ?_
                refine sw_seq ?_
                refine sw_dec hP 10 [] 9 rfl (fun g20_9 => ?_) (fun g20_9 => ?_)
                · skip
                  have k9 : meetV (blksOf l)[n] (blksOf l)[m] = true := by simpa [List.getElem?_eq_getElem hln, List.getElem?_eq_getElem hlm] using g20_9
                  refine sw_region hP 10 [(9, true)] rfl (by kernel_rfl) (fun _ => by kernel_rfl) ?_ ?_
                  · skip
                    simp [conj, List.getElem?_eq_getElem hln, List.getElem?_eq_getElem hlm]
                    repeat' apply And.intro
                    all_goals first | omega | assumption | exact k9 | trivial
                  refine sw_cond rfl (fun c20 => ?_) (fun c20 => ?_)
                  · skip
                    replace c20 : ¬ (blksOf l)[n] = (blksOf l)[m] := by
                      intro e
                      simp [List.getElem?_eq_getElem hln, List.getElem?_eq_getElem hlm, e] at c20
                    have hq : (fun q : Ptr_ => meetV (blksOf l)[n] q && !decide ((blksOf l)[n] = q)) (blksOf l)[m] = true := by simp only [k9]; simp [c20]
                    have hf : ptrG d ((blksOf l).take n) (blksOf l)[n] = false := by unfold ptrG; rw [any_hit hmn hlm hq]; simp
                    refine sw_seq ?_
                    refine sw_region hP 11 [] rfl (by kernel_rfl) (fun _ => by kernel_rfl) (by first | trivial | (simp [conj]; done) | (simp [conj] at *; (try dsimp only [Ty.den, Ty.dflt] at *); omega)) ?_
                    refine sw_ret ⟨.inl rfl, _, rfl, ?_⟩
                    have hv := chk_hit hln hgn hf
                    simp [conj, volsS, hvg, hv]
                  · skip
                    replace c20 : (blksOf l)[n] = (blksOf l)[m] := by
                      have h := c20
                      simp [List.getElem?_eq_getElem hln, List.getElem?_eq_getElem hlm] at h
                      exact Prod.ext h.1 (Prod.ext h.2.1 h.2.2)
                    have hq : (fun q : Ptr_ => meetV (blksOf l)[n] q && !decide ((blksOf l)[n] = q)) (blksOf l)[m] = false := by simp only [c20]; simp
                    refine sw_skip ?_
                    refine sw_region hP 11 [] rfl (by kernel_rfl) (fun _ => by kernel_rfl) (by first | trivial | (simp [conj]; done) | (simp [conj] at *; (try dsimp only [Ty.den, Ty.dflt] at *); omega)) ?_
                    refine ⟨m + 1, ?_, ?_, ent_ok rfl ?_⟩
                    · skip
                      exact ⟨hmn, any_next hlm hgm hq⟩
                    · skip
                      omega
                    · skip
                      simp [conj]
                · skip
                  have k9 : meetV (blksOf l)[n] (blksOf l)[m] = false := by simpa [List.getElem?_eq_getElem hln, List.getElem?_eq_getElem hlm] using g20_9
                  have hq : (fun q : Ptr_ => meetV (blksOf l)[n] q && !decide ((blksOf l)[n] = q)) (blksOf l)[m] = false := by simp only [k9]; rfl
                  refine sw_region hP 10 [(9, false)] rfl (by kernel_rfl) (fun _ => by kernel_rfl) ?_ ?_
                  · skip
                    simp [conj, List.getElem?_eq_getElem hln, List.getElem?_eq_getElem hlm]
                    repeat' apply And.intro
                    all_goals first | omega | assumption | exact k9 | trivial
                  refine sw_condF rfl ?_
                  refine sw_skip ?_
                  refine sw_region hP 11 [] rfl (by kernel_rfl) (fun _ => by kernel_rfl) (by first | trivial | (simp [conj]; done) | (simp [conj] at *; (try dsimp only [Ty.den, Ty.dflt] at *); omega)) ?_
                  refine ⟨m + 1, ?_, ?_, ent_ok rfl ?_⟩
                  · skip
                    exact ⟨hmn, any_next hlm hgm hq⟩
                  · skip
                    omega
                  · skip
                    simp [conj]
              · skip
                obtain rfl : m = n := by simp at c18; omega
                have hf : ptrG d ((blksOf l).take m) (blksOf l)[m] = true := by unfold ptrG; rw [c15, hgm]; rfl
                refine sw_exit ?_
                refine sw_region hP 10 [] rfl (by kernel_rfl) (fun _ => by kernel_rfl) (by first | trivial | (simp [conj]; done) | (simp [conj] at *; (try dsimp only [Ty.den, Ty.dflt] at *); omega)) ?_
                refine ⟨m + 1, ?_, ?_, ent_ok rfl ?_⟩
                · skip
                  exact ⟨hln, chk_next hln hgn hf⟩
                · skip
                  omega
                · skip
                  simp [conj]
        · skip
          obtain rfl : n = (blksOf l).length := by simp at c13; omega
          refine sw_exit ?_
          refine sw_seq ?_
          refine sw_region hP 7 [] rfl (by kernel_rfl) (fun _ => by kernel_rfl) (by first | trivial | (simp [conj]; done) | (simp [conj] at *; (try dsimp only [Ty.den, Ty.dflt] at *); omega)) ?_
          refine sw_ret ⟨.inl rfl, _, rfl, ?_⟩
          have hv := chk_end hgn
          simp [conj, volsS, hvg, hv]

def cRootOkS : Ctr := ⟨19, [.val false TI pF, .val true T_Root (.all .b)], fun x => True, fun x => (sBool (rootS x.1 x.2.1), [])⟩
theorem cRootOkS_ok : CtrOk Proofs.Tryz.prog cRootOkS := by
  have hP := ((((Prg.none ttok mtok).and cDisks_ok).and cIn_ok).and cVolsS_ok)
  refine ctr_of_body hP cRootOkS (fn := Proofs.Tryz.f19) (rts := [.tmp 4]) Proofs.Tryz.func19 rfl (by kernel_rfl) rfl rfl ?_
  rintro ⟨(d : Int), ⟨(tg : Int), (l : List Vol_)⟩, ⟨⟩⟩ _ _
  try dsimp only [Ty.den, Mode.den, mdens] at _
  refine ⟨rfl, ?_⟩
  refine sw_seq ?_
  refine sw_region hP 1 [] rfl (by kernel_rfl) (fun _ => by kernel_rfl) (by first | trivial | (simp [conj]; done) | (simp [conj] at *; (try dsimp only [Ty.den, Ty.dflt] at *); omega)) ?_
  refine sw_seq ?_
  refine sw_dec hP 2 [] 2 rfl (fun g1_2 => ?_) (fun g1_2 => ?_)
  · skip
    have k2 : poolV d = true := g1_2
    refine sw_dec hP 2 [(2, true)] 7 rfl (fun g1_7 => ?_) (fun g1_7 => ?_)
    · skip
      have k7 : inV tg 0 100000 = true := g1_7
      refine sw_dec hP 2 [(2, true), (7, true)] 13 rfl (fun g1_13 => ?_) (fun g1_13 => ?_)
      · skip
        have k13 : l.length ≤ 4 := by have h := g1_13; simp at h; omega
        refine sw_region hP 2 [(2, true), (7, true), (13, true)] rfl (by kernel_rfl) (fun _ => by kernel_rfl) ?_ ?_
        · skip
          simp only [conj, List.nil_append, List.cons_append, List.append_nil, List.append_assoc, inR_i64, true_and, and_true, Int.toNat_natCast]
          try dsimp only [Ty.den, Ty.dflt]
          repeat' apply And.intro
          all_goals first | trivial | exact g1_2 | exact g1_7 | exact g1_13 | assumption | exact k2 | exact k13
        refine sw_ret ⟨.inl rfl, _, rfl, ?_⟩
        simp [conj, rootS, *]
      · skip
        have k13 : ¬ l.length ≤ 4 := by have h := g1_13; simp at h; omega
        refine sw_region hP 2 [(2, true), (7, true), (13, false)] rfl (by kernel_rfl) (fun _ => by kernel_rfl) ?_ ?_
        · skip
          simp only [conj, List.nil_append, List.cons_append, List.append_nil, List.append_assoc, inR_i64, true_and, and_true, Int.toNat_natCast]
          try dsimp only [Ty.den, Ty.dflt]
          repeat' apply And.intro
          all_goals first | trivial | exact g1_2 | exact g1_7 | exact g1_13 | assumption | exact k2 | exact k13
        refine sw_ret ⟨.inl rfl, _, rfl, ?_⟩
        simp [conj, rootS, *]
    · skip
      have k7 : inV tg 0 100000 = false := g1_7
      refine sw_region hP 2 [(2, true), (7, false)] rfl (by kernel_rfl) (fun _ => by kernel_rfl) ?_ ?_
      · skip
        simp only [conj, List.nil_append, List.cons_append, List.append_nil, List.append_assoc, inR_i64, true_and, and_true, Int.toNat_natCast]
        try dsimp only [Ty.den, Ty.dflt]
        repeat' apply And.intro
        all_goals first | trivial | exact g1_2 | exact g1_7 | exact g1_13 | assumption | exact k2 | exact k13
      refine sw_ret ⟨.inl rfl, _, rfl, ?_⟩
      simp [conj, rootS, *]
  · skip
    have k2 : poolV d = false := g1_2
    refine sw_region hP 2 [(2, false)] rfl (by kernel_rfl) (fun _ => by kernel_rfl) ?_ ?_
    · skip
      simp only [conj, List.nil_append, List.cons_append, List.append_nil, List.append_assoc, inR_i64, true_and, and_true, Int.toNat_natCast]
      try dsimp only [Ty.den, Ty.dflt]
      repeat' apply And.intro
      all_goals first | trivial | exact g1_2 | exact g1_7 | exact g1_13 | assumption | exact k2 | exact k13
    refine sw_ret ⟨.inl rfl, _, rfl, ?_⟩
    simp [conj, rootS, *]

def cDecK (k : Nat) : Ctr := ⟨21, [.val false TI pF], fun x => 0 ≤ x.1 ∧ 1 ≤ k ∧ x.1 < 10 ^ k, fun x => (sStr (itoaV x.1), [])⟩
theorem cDecK_ok : ∀ k, CtrOk Proofs.Tryz.prog (cDecK k) := by
  intro k
  induction k with
  | zero =>
    rintro G w args ⟨(n : Int), ⟨⟩⟩ _ _ _ ⟨_, h1, _⟩
    exact absurd h1 (by decide)
  | succ k ih =>
    have hP := ((Prg.none ttok mtok).and ih)
    refine ctr_of_body hP (cDecK (k + 1)) (fn := Proofs.Tryz.f21) (rts := [.tmp 2]) Proofs.Tryz.func21 rfl (by kernel_rfl) rfl rfl ?_
    rintro ⟨(n : Int), ⟨⟩⟩ ⟨hn0, _⟩ ⟨h0, _, h1⟩
    try dsimp only [Ty.den, Mode.den, mdens] at h0
    try dsimp only [Ty.den, Mode.den, mdens] at _
    try dsimp only [Ty.den, Mode.den, mdens] at h1
    refine ⟨rfl, ?_⟩
    replace hn0 : inR .i64 n := hn0
    rw [inR_i64] at hn0
    replace h0 : 0 ≤ n := h0
    replace h1 : n < 10 ^ (k + 1) := h1
    rw [Int.pow_succ] at h1
    have hq : n.tdiv 10 = n / 10 := Int.tdiv_eq_ediv_of_nonneg h0
    have hr : n.tmod 10 = n % 10 := Int.tmod_eq_emod_of_nonneg h0
    have hlq : (itoaV (n.tdiv 10)).length ≤ 21 := itoaV_len (by rw [inR_i64]; omega)
    refine sw_seq ?_
    refine sw_region hP 1 [] rfl (by kernel_rfl) (fun _ => by kernel_rfl) (by first | trivial | (simp [conj]; done) | (simp [conj] at *; (try dsimp only [Ty.den, Ty.dflt] at *); omega)) ?_
    refine sw_seq ?_
    refine sw_seq ?_
    refine sw_region hP 2 [] rfl (by kernel_rfl) (fun _ => by kernel_rfl) (by first | trivial | (simp [conj]; done) | (simp [conj] at *; (try dsimp only [Ty.den, Ty.dflt] at *); omega)) ?_
    refine sw_cond rfl (fun c1 => ?_) (fun c1 => ?_)
    · skip
      have h : n < -9223372036854775807 := of_decide_eq_true c1
      omega
    · skip
      refine sw_skip ?_
      refine sw_seq ?_
      refine sw_seq ?_
      refine sw_region hP 3 [] rfl (by kernel_rfl) (fun _ => by kernel_rfl) (by first | trivial | (simp [conj]; done) | (simp [conj] at *; (try dsimp only [Ty.den, Ty.dflt] at *); omega)) ?_
      refine sw_cond rfl (fun c3 => ?_) (fun c3 => ?_)
      · skip
        have h : n < 0 := of_decide_eq_true c3
        omega
      · skip
        refine sw_skip ?_
        refine sw_seq ?_
        refine sw_seq ?_
        refine sw_region hP 4 [] rfl (by kernel_rfl) (fun _ => by kernel_rfl) (by first | trivial | (simp [conj]; done) | (simp [conj] at *; (try dsimp only [Ty.den, Ty.dflt] at *); omega)) ?_
        refine sw_cond rfl (fun c5 => ?_) (fun c5 => ?_)
        · skip
          replace c5 : n < 10 := of_decide_eq_true c5
          refine sw_seq ?_
          refine sw_region hP 5 [] rfl (by kernel_rfl) (fun _ => by kernel_rfl) ?_ ?_
          · skip
            simp only [conj, List.nil_append, List.cons_append, List.append_nil, List.append_assoc, inR_i64, inR_u8, true_and, and_true, Int.toNat_natCast]
            try dsimp only [Ty.den, Ty.dflt]
            repeat' apply And.intro
            all_goals first | omega | trivial
          refine sw_ret ⟨.inl rfl, _, rfl, ?_⟩
          simp [conj, ofBytes]
          exact (itoaV_small h0 c5).symm
        · skip
          replace c5 : ¬ n < 10 := of_decide_eq_false c5
          have hk : 1 ≤ k := by
            rcases k with _ | k
            · simp at h1; omega
            · omega
          refine sw_skip ?_
          refine sw_seq ?_
          refine sw_region hP 5 [] rfl (by kernel_rfl) (fun _ => by kernel_rfl) ?_ ?_
          · skip
            simp only [conj, List.nil_append, List.cons_append, List.append_nil, List.append_assoc, inR_i64, inR_u8, true_and, and_true, Int.toNat_natCast]
            try dsimp only [Ty.den, Ty.dflt]
            repeat' apply And.intro
            all_goals first | omega | (show 0 ≤ n.tdiv 10; omega) | (show n.tdiv 10 < 10 ^ k; omega) | (show _ ≤ n.tdiv 10; omega) | (show n.tdiv 10 ≤ _; omega) | (show _ ≤ 48 + n.tmod 10; omega) | (show 48 + n.tmod 10 ≤ _; omega) | trivial | exact hk | (show (itoaV (n.tdiv 10)).length + 1 ≤ 140737488355328; omega) | trace_state
          refine sw_ret ⟨.inl rfl, _, rfl, ?_⟩
          simp [conj, ofBytes]
          rw [itoaV_big h0 c5, hq, hr]
def cDec : Ctr := ⟨(cDecK 0).f, [.val false TI pF], fun x => 0 ≤ x.1, fun x => (sStr (itoaV x.1), [])⟩
theorem cDec_ok : CtrOk Proofs.Tryz.prog cDec := by
  rintro G w args ⟨(n : Int), ⟨⟩⟩ hb ha hargs h0
  have hn : inR .i64 n := by
    obtain ⟨v, vs, _, ⟨_, cs, _, _, ⟨_, hn⟩⟩, _⟩ := hargs
    exact hn
  rw [inR_i64] at hn
  exact cDecK_ok 19 G w args (n, ()) hb ha hargs ⟨h0, by decide, by show n < (10 : Int) ^ 19; rw [show (10 : Int) ^ 19 = 10000000000000000000 by decide]; omega⟩

def cLineS : Ctr := ⟨46, [.val true T_Ptr (.all .b)], fun x => ∃ d, ptrV d x.1 = true, fun x => (sStr (lineV x.1), [])⟩
theorem cLineS_ok : CtrOk Proofs.Tryz.prog cLineS := by
  have hP := ((Prg.none ttok mtok).and cDec_ok)
  refine ctr_of_body hP cLineS (fn := Proofs.Tryz.f46) (rts := [.tmp 2]) Proofs.Tryz.func46 rfl (by kernel_rfl) rfl rfl ?_
  rintro ⟨⟨(sz : Int), (sm : Int), (pl : List Plc)⟩, ⟨⟩⟩ ⟨⟨hz0, hm0, hpl0⟩, _⟩ ⟨d, hpre⟩
  try dsimp only [Ty.den, Mode.den, mdens] at d
  try dsimp only [Ty.den, Mode.den, mdens] at hpre
  refine ⟨rfl, ?_⟩
  replace hpre : ptrV d ((sz, sm, pl) : Ptr_) = true := hpre
  have hl4 : pl.length ≤ 4 := ptrV_len hpre
  have hi1 : (itoaV sz).length ≤ 21 := itoaV_len hz0
  have hi2 : (itoaV sm).length ≤ 21 := itoaV_len hm0
  refine sw_seq ?_
  refine sw_region hP 1 [] rfl (by kernel_rfl) (fun _ => by kernel_rfl) (by first | trivial | (simp [conj]; done) | (simp [conj] at *; (try dsimp only [Ty.den, Ty.dflt] at *); omega)) ?_
  refine sw_seq ?_
  refine sw_seq ?_
  refine sw_region hP 2 [] rfl (by kernel_rfl) (fun _ => by kernel_rfl) (by first | trivial | (simp [conj]; done) | (simp [conj] at *; (try dsimp only [Ty.den, Ty.dflt] at *); omega)) ?_
  refine sw_cond rfl (fun c1 => ?_) (fun c1 => ?_)
  · skip
    replace c1 : sz = 0 := of_decide_eq_true c1
    have hnn : noneV ((sz, sm, pl) : Ptr_) = true := ptrV_none hpre c1
    refine sw_seq ?_
    refine sw_region hP 3 [] rfl (by kernel_rfl) (fun _ => by kernel_rfl) (by first | trivial | (simp [conj]; done) | (simp [conj] at *; (try dsimp only [Ty.den, Ty.dflt] at *); omega)) ?_
    refine sw_ret ⟨.inl rfl, _, rfl, ?_⟩
    simp [conj, lineV, hnn, bytesL]
    rfl
  · skip
    replace c1 : ¬ sz = 0 := of_decide_eq_false c1
    have hnn : noneV ((sz, sm, pl) : Ptr_) = false := by simp [noneV, c1]
    obtain ⟨hp1, hp2, hp3⟩ := ptrV_pos hpre c1
    refine sw_skip ?_
    refine sw_seq ?_
    refine sw_region hP 3 [] rfl (by kernel_rfl) (fun _ => by kernel_rfl) ?_ ?_
    · skip
      simp [conj, maxL, bytesL]
      repeat' apply And.intro
      all_goals first | omega | exact hp1 | exact hp2 | trivial
    refine sw_seq ?_
    refine sw_seq ?_
    refine sw_region hP 4 [] rfl (by kernel_rfl) (fun _ => by kernel_rfl) (by first | trivial | (simp [conj]; done) | (simp [conj] at *; (try dsimp only [Ty.den, Ty.dflt] at *); omega)) ?_
    refine sw_block ?_
    refine sw_loop (ι := Nat × Str) (fun ⟨i, o⟩ => ⟨[.junk, .v false [.ptr ⟨1, 0, 0⟩ 0], .junk, sStr o, sInt .i64 (i : Int), .junk, .junk, .junk, .junk, .junk, .junk, .junk, .junk, .junk, .junk, .junk, .junk, .junk, .junk, .junk, .junk, .junk, .junk, .junk, .junk, .junk, .junk, .junk, .junk, .junk, .junk, .junk, .junk, .junk, .junk, .junk, .junk, .junk, .junk, .junk, .junk, .junk, .junk, .junk, .junk], [(⟨1, 0, 0⟩, .var [.d TI pF sz, .d TI pF sm, .d (.sl T_Place) (.all .b) pl])], 4, []⟩) (fun ⟨i, o⟩ => pl.length - i) (fun ⟨i, o⟩ => i ≤ pl.length ∧ o ++ catGo wordS (pl.drop i) = (Lib.join (wordsV ((sz, sm, pl) : Ptr_)) [32]) ∧ o.length ≤ 50 + i * 50) (0, tPtr ++ [32] ++ itoaV sz ++ [32] ++ itoaV sm) ⟨?_, ?_⟩ ?_
    · skip
      exact ⟨Nat.zero_le _, words_join.symm, by simp [tPtr]; omega⟩
    · refine ent_ok rfl ?_
      simp [conj, bytesL]
      rfl
    · rintro ⟨i, o⟩ ⟨hi, hgo, hol⟩
      refine sw_seq ?_
      refine sw_seq ?_
      refine sw_region hP 5 [] rfl (by kernel_rfl) (fun _ => by kernel_rfl) (by first | trivial | (simp [conj]; done) | (simp [conj] at *; (try dsimp only [Ty.den, Ty.dflt] at *); omega)) ?_
      refine sw_cond rfl (fun c5 => ?_) (fun c5 => ?_)
      · skip
        have hlt : i < pl.length := by simpa using c5
        have hin := hpl0.2 _ (List.getElem_mem hlt)
        have hpp := hp3 _ (List.getElem_mem hlt)
        have hi3 : (itoaV pl[i].1).length ≤ 21 := itoaV_len hin.1
        have hi4 : (itoaV pl[i].2).length ≤ 21 := itoaV_len hin.2
        refine sw_skip ?_
        refine sw_seq ?_
        refine sw_block ?_
        refine sw_region hP 6 [] rfl (by kernel_rfl) (fun _ => by kernel_rfl) ?_ ?_
        · skip
          simp [conj, maxL, bytesL, List.getElem?_eq_getElem hlt]
          repeat' apply And.intro
          all_goals first | omega | exact hpp.1 | exact hpp.2 | trivial
        refine sw_region hP 7 [] rfl (by kernel_rfl) (fun _ => by kernel_rfl) (by first | trivial | (simp [conj]; done) | (simp [conj] at *; (try dsimp only [Ty.den, Ty.dflt] at *); omega)) ?_
        refine ⟨(i + 1, o ++ wordS pl[i]), ?_, ?_, ent_ok rfl ?_⟩
        · skip
          exact ⟨hlt, cat_next hlt hgo, by simp [wordS, wordV]; omega⟩
        · skip
          show pl.length - (i + 1) < pl.length - i
          omega
        · skip
          simp [conj, bytesL, wordS, wordV, List.getElem?_eq_getElem hlt]
      · skip
        obtain rfl : i = pl.length := by simp at c5; omega
        have hv := cat_end hgo
        subst hv
        refine sw_exit ?_
        refine sw_seq ?_
        refine sw_region hP 6 [] rfl (by kernel_rfl) (fun _ => by kernel_rfl) ?_ ?_
        · skip
          simp [conj, maxL, bytesL]
          repeat' apply And.intro
          all_goals first | omega | trivial
        refine sw_ret ⟨.inl rfl, _, rfl, ?_⟩
        simp [conj, lineV, hnn, bytesL]

def cTextS : Ctr := ⟨20, [.val true T_Root (.all .b)], fun x => ∃ d, rootV d x.1 = true, fun x => (sStr (bodyV x.1), [])⟩
theorem cTextS_ok : CtrOk Proofs.Tryz.prog cTextS := by
  have hP := (((Prg.none ttok mtok).and cDec_ok).and cLineS_ok)
  refine ctr_of_body hP cTextS (fn := Proofs.Tryz.f20) (rts := [.tmp 2]) Proofs.Tryz.func20 rfl (by kernel_rfl) rfl rfl ?_
  rintro ⟨⟨(tg : Int), (l : List Vol_)⟩, ⟨⟩⟩ ⟨⟨ht0, hl0⟩, _⟩ ⟨d, hpre⟩
  try dsimp only [Ty.den, Mode.den, mdens] at d
  try dsimp only [Ty.den, Mode.den, mdens] at hpre
  refine ⟨rfl, ?_⟩
  replace hpre : rootV d ((tg, l) : Root_) = true := hpre
  have hs := rootV_small hpre
  have ht1 : 0 ≤ tg := rootV_txg hpre
  have hi1 : (itoaV tg).length ≤ 21 := itoaV_len ht0
  have hml : l.length ≤ 4 := hs.1
  refine sw_seq ?_
  refine sw_region hP 1 [] rfl (by kernel_rfl) (fun _ => by kernel_rfl) (by first | trivial | (simp [conj]; done) | (simp [conj] at *; (try dsimp only [Ty.den, Ty.dflt] at *); omega)) ?_
  refine sw_seq ?_
  refine sw_region hP 2 [] rfl (by kernel_rfl) (fun _ => by kernel_rfl) ?_ ?_
  · skip
    simp [conj, maxL, bytesL]
    repeat' apply And.intro
    all_goals first | omega | exact ht1 | trivial
  refine sw_seq ?_
  refine sw_seq ?_
  refine sw_region hP 3 [] rfl (by kernel_rfl) (fun _ => by kernel_rfl) (by first | trivial | (simp [conj]; done) | (simp [conj] at *; (try dsimp only [Ty.den, Ty.dflt] at *); omega)) ?_
  refine sw_block ?_
  refine sw_loop (ι := Nat × Str) (fun ⟨i, o⟩ => ⟨[.junk, .v false [.ptr ⟨1, 0, 0⟩ 0], .junk, sStr o, sInt .i64 (i : Int), .junk, .junk, .junk, .junk, .junk, .junk, .junk, .junk, .junk, .junk, .junk, .junk, .junk, .junk, .junk, .junk, .junk, .junk, .junk, .junk, .junk, .junk, .junk, .junk, .junk, .junk, .junk, .junk, .junk, .junk, .junk, .junk, .junk, .junk, .junk, .junk, .junk, .junk, .junk, .junk, .junk, .junk, .junk, .junk, .junk, .junk, .junk], [(⟨1, 0, 0⟩, .var [.d TI pF tg, .d (.sl T_Vol) (.all .b) l])], 3, []⟩) (fun ⟨i, o⟩ => l.length - i) (fun ⟨i, o⟩ => i ≤ l.length ∧ o ++ catGo volT (l.drop i) = bodyV ((tg, l) : Root_) ∧ o.length ≤ 27 + i * 1000) (0, tRoot ++ itoaV tg ++ [10]) ⟨?_, ?_⟩ ?_
  · skip
    exact ⟨Nat.zero_le _, rfl, by simp [tRoot]; omega⟩
  · refine ent_ok rfl ?_
    simp [conj, bytesL]
    try rfl
  · rintro ⟨i, o⟩ ⟨hi, hgo, hol⟩
    refine sw_seq ?_
    refine sw_seq ?_
    refine sw_region hP 4 [] rfl (by kernel_rfl) (fun _ => by kernel_rfl) (by first | trivial | (simp [conj]; done) | (simp [conj] at *; (try dsimp only [Ty.den, Ty.dflt] at *); omega)) ?_
    refine sw_cond rfl (fun c3 => ?_) (fun c3 => ?_)
    · skip
      have hlt : i < l.length := by simpa using c3
      obtain ⟨hn3, hb3, hpv⟩ := hs.2 _ (List.getElem_mem hlt)
      refine sw_skip ?_
      refine sw_seq ?_
      refine sw_block ?_
      refine sw_seq ?_
      refine sw_region hP 5 [] rfl (by kernel_rfl) (fun _ => by kernel_rfl) ?_ ?_
      · skip
        simp [conj, maxL, bytesL, List.getElem?_eq_getElem hlt]
        repeat' apply And.intro
        all_goals first | omega | trivial
      refine sw_seq ?_
      refine sw_region hP 6 [] rfl (by kernel_rfl) (fun _ => by kernel_rfl) (by first | trivial | (simp [conj]; done) | (simp [conj] at *; (try dsimp only [Ty.den, Ty.dflt] at *); omega)) ?_
      refine sw_block ?_
      refine sw_loop (ι := Nat × Str) (fun ⟨j, o⟩ => ⟨[.junk, .v false [.ptr ⟨1, 0, 0⟩ 0], .junk, sStr o, sInt .i64 (i : Int), sInt .i64 (j : Int), .junk, .junk, .junk, .junk, .junk, .junk, .junk, .junk, .junk, .junk, .junk, .junk, .junk, .junk, .junk, .junk, .junk, .junk, .junk, .junk, .junk, .junk, .junk, .junk, .junk, .junk, .junk, .junk, .junk, .junk, .junk, .junk, .junk, .junk, .junk, .junk, .junk, .junk, .junk, .junk, .junk, .junk, .junk, .junk, .junk, .junk], [(⟨1, 0, 0⟩, .var [.d TI pF tg, .d (.sl T_Vol) (.all .b) l])], 6, []⟩) (fun ⟨j, o⟩ => l[i].2.length - j) (fun ⟨j, o⟩ => j ≤ l[i].2.length ∧ (o ++ catGo lineV (l[i].2.drop j)) ++ catGo volT (l.drop (i + 1)) = bodyV ((tg, l) : Root_) ∧ o.length ≤ 27 + i * 1000 + 8 + j * 300) (0, o ++ (tVol ++ l[i].1 ++ [10])) ⟨?_, ?_⟩ ?_
      · skip
        exact ⟨Nat.zero_le _, vol_in hlt hgo, by simp [tVol]; omega⟩
      · refine ent_ok rfl ?_
        simp [conj, bytesL, List.getElem?_eq_getElem hlt]
        try rfl
      · rintro ⟨j, o⟩ ⟨hj, hgo2, hol2⟩
        refine sw_seq ?_
        refine sw_seq ?_
        refine sw_region hP 7 [] rfl (by kernel_rfl) (fun _ => by kernel_rfl) ?_ ?_
        · skip
          simp [conj, List.getElem?_eq_getElem hlt]
          repeat' apply And.intro
          all_goals first | omega | trivial
        refine sw_cond rfl (fun c7 => ?_) (fun c7 => ?_)
        · skip
          have hlj : j < l[i].2.length := by
            have h := c7
            simp [List.getElem?_eq_getElem hlt] at h
            omega
          have hpj := hpv _ (List.getElem_mem hlj)
          obtain ⟨dd, hpd⟩ := hpj
          have hok := (hl0.2 _ (List.getElem_mem hlt)).2.2 _ (List.getElem_mem hlj)
          have hll := lineV_len' hok.1 hok.2.1 hok.2.2.2 hpd
          refine sw_skip ?_
          refine sw_seq ?_
          refine sw_block ?_
          refine sw_region hP 8 [] rfl (by kernel_rfl) (fun _ => by kernel_rfl) ?_ ?_
          · skip
            simp [conj, maxL, List.getElem?_eq_getElem hlt, List.getElem?_eq_getElem hlj]
            repeat' apply And.intro
            all_goals first | omega | exact ⟨dd, hpd⟩ | (have h : List.length (lineV l[i].2[j]) ≤ 300 := hll; show o.length + List.length (lineV l[i].2[j]) ≤ 140737488355328; omega) | trivial
          refine sw_region hP 9 [] rfl (by kernel_rfl) (fun _ => by kernel_rfl) (by first | trivial | (simp [conj]; done) | (simp [conj] at *; (try dsimp only [Ty.den, Ty.dflt] at *); omega)) ?_
          refine ⟨(j + 1, o ++ lineV l[i].2[j]), ?_, ?_, ent_ok rfl ?_⟩
          · skip
            exact ⟨hlj, vol_line hlj hgo2, by simp; omega⟩
          · skip
            show l[i].2.length - (j + 1) < l[i].2.length - j
            omega
          · skip
            simp [conj, List.getElem?_eq_getElem hlt, List.getElem?_eq_getElem hlj]
        · skip
          obtain rfl : j = l[i].2.length := by
            have h := c7
            simp [List.getElem?_eq_getElem hlt] at h
            omega
          refine sw_exit ?_
          refine sw_region hP 8 [] rfl (by kernel_rfl) (fun _ => by kernel_rfl) (by first | trivial | (simp [conj]; done) | (simp [conj] at *; (try dsimp only [Ty.den, Ty.dflt] at *); omega)) ?_
          refine ⟨(i + 1, o), ?_, ?_, ent_ok rfl ?_⟩
          · skip
            exact ⟨hlt, vol_out hgo2, by show o.length ≤ 27 + (i + 1) * 1000; omega⟩
          · skip
            show l.length - (i + 1) < l.length - i
            omega
          · skip
            simp [conj]
    · skip
      obtain rfl : i = l.length := by simp at c3; omega
      have hv := cat_end hgo
      subst hv
      refine sw_exit ?_
      refine sw_seq ?_
      refine sw_region hP 5 [] rfl (by kernel_rfl) (fun _ => by kernel_rfl) (by first | trivial | (simp [conj]; done) | (simp [conj] at *; (try dsimp only [Ty.den, Ty.dflt] at *); omega)) ?_
      refine sw_ret ⟨.inl rfl, _, rfl, ?_⟩
      simp [conj]

def cCheck : Ctr := ⟨22, [.val false .str pF], fun x => List.length x.1 ≤ 1000000, fun x => (sInt .i64 (weighV x.1), [])⟩
theorem cCheck_ok : CtrOk Proofs.Tryz.prog cCheck := by
  have hP := (Prg.none ttok mtok)
  refine ctr_of_body hP cCheck (fn := Proofs.Tryz.f22) (rts := [.tmp 2]) Proofs.Tryz.func22 rfl (by kernel_rfl) rfl rfl ?_
  rintro ⟨(s : Str), ⟨⟩⟩ _ hpre
  try dsimp only [Ty.den, Mode.den, mdens] at hpre
  refine ⟨rfl, ?_⟩
  replace hpre : s.length ≤ 1000000 := hpre
  refine sw_seq ?_
  refine sw_region hP 1 [] rfl (by kernel_rfl) (fun _ => by kernel_rfl) (by first | trivial | (simp [conj]; done) | (simp [conj] at *; (try dsimp only [Ty.den, Ty.dflt] at *); omega)) ?_
  refine sw_seq ?_
  refine sw_region hP 2 [] rfl (by kernel_rfl) (fun _ => by kernel_rfl) (by first | trivial | (simp [conj]; done) | (simp [conj] at *; (try dsimp only [Ty.den, Ty.dflt] at *); omega)) ?_
  refine sw_seq ?_
  refine sw_seq ?_
  refine sw_region hP 3 [] rfl (by kernel_rfl) (fun _ => by kernel_rfl) (by first | trivial | (simp [conj]; done) | (simp [conj] at *; (try dsimp only [Ty.den, Ty.dflt] at *); omega)) ?_
  refine sw_block ?_
  refine sw_loop (ι := Nat × Int) (fun ⟨i, n⟩ => ⟨[sStr s, .junk, .junk, sInt .i64 n, sInt .i64 (i : Int), .junk, .junk, .junk, .junk, .junk, .junk, .junk, .junk, .junk, .junk, .junk, .junk, .junk, .junk, .junk, .junk, .junk], [], 3, []⟩) (fun ⟨i, n⟩ => s.length - i) (fun ⟨i, n⟩ => i ≤ s.length ∧ n + weighGo (s.drop i) i = weighV s ∧ 0 ≤ n ∧ n ≤ (i : Int) * 300000000) (0, 0) ⟨?_, ?_⟩ ?_
  · skip
    exact ⟨Nat.zero_le _, by simp [weighV], by decide, by decide⟩
  · refine ent_ok rfl ?_
    simp [conj]
  · rintro ⟨i, n⟩ ⟨hi, hgo, hn0, hn1⟩
    refine sw_seq ?_
    refine sw_seq ?_
    refine sw_region hP 4 [] rfl (by kernel_rfl) (fun _ => by kernel_rfl) (by first | trivial | (simp [conj]; done) | (simp [conj] at *; (try dsimp only [Ty.den, Ty.dflt] at *); omega)) ?_
    refine sw_cond rfl (fun c3 => ?_) (fun c3 => ?_)
    · skip
      have hlt : i < s.length := by simpa using c3
      have hone := weigh_one (c := s[i]) (i := i) (by omega)
      refine sw_skip ?_
      refine sw_seq ?_
      refine sw_block ?_
      refine sw_region hP 5 [] rfl (by kernel_rfl) (fun _ => by kernel_rfl) ?_ ?_
      · skip
        simp [conj, List.getElem?_eq_getElem hlt]
        have hu : s[i].toNat < 256 := s[i].toNat_lt
        repeat' apply And.intro
        all_goals omega
      refine sw_region hP 6 [] rfl (by kernel_rfl) (fun _ => by kernel_rfl) (by first | trivial | (simp [conj]; done) | (simp [conj] at *; (try dsimp only [Ty.den, Ty.dflt] at *); omega)) ?_
      refine ⟨(i + 1, n + (s[i].toNat : Int) * (65536 + (i : Int) + 1)), ?_, ?_, ent_ok rfl ?_⟩
      · skip
        exact ⟨hlt, weigh_next hlt hgo, by show 0 ≤ n + (s[i].toNat : Int) * (65536 + (i : Int) + 1); omega, by show n + (s[i].toNat : Int) * (65536 + (i : Int) + 1) ≤ ((i + 1 : Nat) : Int) * 300000000; omega⟩
      · skip
        show s.length - (i + 1) < s.length - i
        omega
      · skip
        simp [conj, List.getElem?_eq_getElem hlt]
    · skip
      obtain rfl : i = s.length := by simp at c3; omega
      have hv := weigh_end hgo
      refine sw_exit ?_
      refine sw_seq ?_
      refine sw_region hP 5 [] rfl (by kernel_rfl) (fun _ => by kernel_rfl) (by first | trivial | (simp [conj]; done) | (simp [conj] at *; (try dsimp only [Ty.den, Ty.dflt] at *); omega)) ?_
      refine sw_ret ⟨.inl rfl, _, rfl, ?_⟩
      simp [conj, hv]
end Go.Sx

namespace Go.Sx
open Go
set_option maxRecDepth 100000
set_option linter.unusedVariables false
set_option linter.unusedSimpArgs false
set_option maxHeartbeats 2000000

def cRootTextS : Ctr := ⟨8, [.val false TI pF, .val true T_Root (.all .b)], fun x => True, fun x => (sStr (rootT x.1 x.2.1), [])⟩
theorem cRootTextS_ok : CtrOk Proofs.Tryz.prog cRootTextS := by
  have hP := (((((Prg.none ttok mtok).and cRootOkS_ok).and cTextS_ok).and cCheck_ok).and cDec_ok)
  refine ctr_of_body hP cRootTextS (fn := Proofs.Tryz.f8) (rts := [.tmp 4]) Proofs.Tryz.func8 rfl (by kernel_rfl) rfl rfl ?_
  rintro ⟨(d : Int), ⟨(tg : Int), (l : List Vol_)⟩, ⟨⟩⟩ ⟨_, ⟨ht0, hl0⟩, _⟩ _
  try dsimp only [Ty.den, Mode.den, mdens] at _
  refine ⟨rfl, ?_⟩
  refine sw_seq ?_
  refine sw_region hP 1 [] rfl (by kernel_rfl) (fun _ => by kernel_rfl) (by first | trivial | (simp [conj]; done) | (simp [conj] at *; (try dsimp only [Ty.den, Ty.dflt] at *); omega)) ?_
  refine sw_seq ?_
  refine sw_seq ?_
  refine sw_region hP 2 [] rfl (by kernel_rfl) (fun _ => by kernel_rfl) ?_ ?_
  · skip
    simp only [conj, List.nil_append, List.cons_append, List.append_nil, List.append_assoc, inR_i64, true_and, and_true, Int.toNat_natCast]
    try dsimp only [Ty.den, Ty.dflt]
    repeat' apply And.intro
    all_goals first | trivial | assumption | omega | exact decide_eq_true ‹_› | exact decide_eq_false ‹_› | (simp [*]; done)
  refine sw_cond rfl (fun c1 => ?_) (fun c1 => ?_)
  · skip
    replace c1 : rootV d ((tg, l) : Root_) = false := by have h : (!rootS d ((tg, l) : Root_)) = true := c1; rw [← rootV_S] at h; simpa using h
    refine sw_seq ?_
    refine sw_region hP 3 [] rfl (by kernel_rfl) (fun _ => by kernel_rfl) (by first | trivial | (simp [conj]; done) | (simp [conj] at *; (try dsimp only [Ty.den, Ty.dflt] at *); omega)) ?_
    refine sw_ret ⟨.inl rfl, _, rfl, ?_⟩
    simp [conj, rootT, c1, bytesL]
    try (simp [sealV]; rfl)
  · skip
    replace c1 : rootV d ((tg, l) : Root_) = true := by have h : (!rootS d ((tg, l) : Root_)) = false := c1; rw [← rootV_S] at h; simpa using h
    have hbl : (bodyV ((tg, l) : Root_)).length ≤ 5000 := body_len ht0 (fun v hv p hp => by have h := (hl0.2 v hv).2.2 p hp; exact ⟨h.1, h.2.1, h.2.2.2⟩) c1
    have hw := weighV_bd (s := (bodyV ((tg, l) : Root_))) (by omega)
    have hi2 : (itoaV (weighV (bodyV ((tg, l) : Root_)))).length ≤ 21 := itoaV_len (by rw [inR_i64]; omega)
    refine sw_skip ?_
    refine sw_seq ?_
    refine sw_region hP 3 [] rfl (by kernel_rfl) (fun _ => by kernel_rfl) ?_ ?_
    · skip
      simp [conj]
      exact ⟨d, c1⟩
    refine sw_seq ?_
    refine sw_region hP 4 [] rfl (by kernel_rfl) (fun _ => by kernel_rfl) ?_ ?_
    · skip
      simp [conj, maxL, bytesL]
      repeat' apply And.intro
      all_goals first | omega | exact hw.1 | (show List.length (bodyV ((tg, l) : Root_)) ≤ 1000000; omega) | trivial
    refine sw_ret ⟨.inl rfl, _, rfl, ?_⟩
    simp [conj, rootT, c1, bytesL]
    try (simp [sealV]; rfl)
end Go.Sx

/- The program's reader reads a root back from its text: plain. -/
namespace Go.Sx
open Go
def jw (ws : List Str) : Str := Lib.join ws [32]
theorem prefix_word : ∀ {f w y : Str}, (∀ c ∈ f, c ≠ 32) → (∀ c ∈ w, c ≠ 32) → (f ++ [32]).isPrefixOf (w ++ 32 :: y) = decide (f = w) := by
  intro f
  induction f with
  | nil =>
    intro w y _ hw
    cases w with
    | nil => simp [List.isPrefixOf]
    | cons c w =>
      have := hw c List.mem_cons_self
      simp [List.isPrefixOf, Ne.symm this]
  | cons a f ih =>
    intro w y hf hw
    have ha := hf a List.mem_cons_self
    cases w with
    | nil => simp [List.isPrefixOf, ha]
    | cons c w =>
      have := ih (w := w) (y := y) (fun x hx => hf x (List.mem_cons_of_mem _ hx)) (fun x hx => hw x (List.mem_cons_of_mem _ hx))
      simp only [List.cons_append, List.isPrefixOf, this]
      by_cases hac : a = c
      · subst hac; simp
      · simp [hac]
theorem jw_tail (w : Str) (ws : List Str) : ∃ y, jw (w :: ws) ++ [32] = w ++ 32 :: y := by
  unfold jw
  rw [Lib.join_cons]
  cases ws with
  | nil => exact ⟨[], by simp [Lib.joinTail]⟩
  | cons x ws => exact ⟨x ++ Lib.joinTail [32] ws ++ [32], by simp [Lib.joinTail]⟩
theorem nextI_jw {f w : Str} {ws rest : List Str} {e : Nat} (hf : Cl f) (hw : Cl w) : nextI f (jw (w :: ws) :: rest, e) = decide (f = w) := by
  unfold nextI
  rw [if_neg (by simp)]
  show Lib.hasPrefix (jw (w :: ws) ++ [32]) (f ++ [32]) = _
  obtain ⟨y, hy⟩ := jw_tail w ws
  rw [hy]
  exact prefix_word (fun c hc => (hf c hc).1) (fun c hc => (hw c hc).1)
theorem wordsI_jw {f : Str} {ws rest : List Str} {e : Nat} (h : LOk (f :: ws)) : wordsI f (jw (f :: ws) :: rest, e) = (ws, (rest, e)) := by
  unfold wordsI
  rw [if_neg (by simp)]
  have e1 : cutV 32 (List.getD (jw (f :: ws) :: rest, e).1 0 []) = f :: ws := cut_line h
  rw [e1]
  simp
theorem numI_itoa {n : Int} {s : RdS} (h : 0 ≤ n) (h2 : n < 1000000000000) : numI (itoaV n) s = (n, s) := by
  unfold numI
  obtain ⟨a, b⟩ := atoN_itoa h h2
  rw [a, b]
  rfl
theorem wordV_cut {a : Plc} (h0 : 0 ≤ a.1) : Lib.cut (wordV a) [46] = (itoaV a.1, itoaV a.2, true) := by
  have hn : ∀ c ∈ itoaV a.1, c ≠ 46 := by
    intro c hc
    have := itoaV_dig _ h0 c hc
    rintro rfl; revert this; decide
  unfold wordV
  rw [List.append_assoc, List.singleton_append]
  exact cut_at hn
theorem plcsI_words : ∀ {pl : List Plc} {out : List Plc} {s : RdS}, (∀ a ∈ pl, placeV 4 a = true) → plcsI (pl.map wordV) out s = (out ++ pl, s) := by
  intro pl
  induction pl with
  | nil => intro out s _; simp [plcsI]
  | cons a pl ih =>
    intro out s h
    have ha := h a List.mem_cons_self
    simp only [placeV, Bool.and_eq_true, decide_eq_true_eq] at ha
    simp only [List.map_cons, plcsI]
    rw [wordV_cut ha.1]
    simp only
    rw [numI_itoa ha.1 (by omega), numI_itoa ha.2.2.1 (by omega), (atoN_itoa ha.1 (by omega)).1, (atoN_itoa ha.2.2.1 (by omega)).1, ih (fun x hx => h x (List.mem_cons_of_mem _ hx)), List.append_assoc]
    rfl
theorem onlyI_one (w : Str) (s : RdS) : onlyI [w] s = (w, s) := by unfold onlyI; simp
theorem cl_nN : Cl nN := cl_lit (by decide)
theorem cl_nV : Cl nV := cl_lit (by decide)
theorem cl_nR : Cl nR := cl_lit (by decide)
theorem cl_nS : Cl nS := cl_lit (by decide)
theorem cl_tP : Cl tPtr := cl_lit (by decide)
theorem ptrI_jw {d : Int} {p : Ptr_} {rest : List Str} (h : ptrV d p = true) : ptrI (jw (pW p) :: rest, 0) = (p, (rest, 0)) := by
  have hl := lok_W h
  by_cases hn : noneV p = true
  · have e : pW p = [nN] := by unfold pW; rw [if_pos hn]
    rw [e] at hl ⊢
    unfold ptrI
    rw [nextI_jw cl_nN cl_nN, if_pos (by decide), wordsI_jw hl, none_eq hn]
  · obtain ⟨h1, h2, h3⟩ := ptrV_wide2 h hn
    have e : pW p = tPtr :: itoaV p.1 :: itoaV p.2.1 :: p.2.2.map wordV := by unfold pW; rw [if_neg hn]; rfl
    rw [e] at hl ⊢
    unfold ptrI
    rw [nextI_jw cl_nN cl_tP, if_neg (by decide), wordsI_jw hl]
    simp only
    rw [if_neg (by simp)]
    show ((atoN (itoaV p.1), atoN (itoaV p.2.1), (plcsI (p.2.2.map wordV) [] (numI (itoaV p.2.1) (numI (itoaV p.1) (rest, 0)).2).2).1), (plcsI (p.2.2.map wordV) [] (numI (itoaV p.2.1) (numI (itoaV p.1) (rest, 0)).2).2).2) = _
    rw [numI_itoa h1.1 (by omega), numI_itoa h2.1 (by omega), plcsI_words h3, (atoN_itoa h1.1 (by omega)).1, (atoN_itoa h2.1 (by omega)).1]
    rfl
theorem blksI_jw {d : Int} : ∀ {bl out : List Ptr_} {rest : List Str}, (∀ p ∈ bl, ptrV d p = true) → blksI bl.length out (bl.map (fun p => jw (pW p)) ++ rest, 0) = (out ++ bl, (rest, 0)) := by
  intro bl
  induction bl with
  | nil => intro out rest _; simp [blksI]
  | cons p bl ih =>
    intro out rest h
    simp only [List.map_cons, List.cons_append, List.length_cons, blksI]
    rw [ptrI_jw (h p List.mem_cons_self)]
    simp only
    rw [ih (fun q hq => h q (List.mem_cons_of_mem _ hq)), List.append_assoc]
    rfl
theorem volsI_jw {d : Int} : ∀ {vs out : List Vol_} {rest : List Str} {n : Nat}, (∀ v ∈ vs, nameV v.1 = true ∧ v.2.length = 3 ∧ ∀ p ∈ v.2, ptrV d p = true) → nextI nV (rest, 0) = false → vs.length ≤ n → volsI n out ((vs.flatMap vW).map jw ++ rest, 0) = (out ++ vs, (rest, 0)) := by
  intro vs
  induction vs with
  | nil =>
    intro out rest n _ hr _
    rw [volsI_stop (by rintro ⟨_, h⟩; rw [show ((([] : List Vol_).flatMap vW).map jw ++ rest, 0) = (rest, 0) from rfl, hr] at h; cases h)]
    simp
  | cons v vs ih =>
    intro out rest n h hr hn
    obtain ⟨m, rfl⟩ : ∃ m, n = m + 1 := ⟨n - 1, by simp only [List.length_cons] at hn; omega⟩
    obtain ⟨a, b, c⟩ := h v List.mem_cons_self
    have hcl : Cl v.1 := by
      simp only [nameV, Bool.and_eq_true] at a
      exact cl_name a.2
    have e : ((v :: vs).flatMap vW).map jw ++ rest = jw (nV :: [v.1]) :: (v.2.map (fun p => jw (pW p)) ++ ((vs.flatMap vW).map jw ++ rest)) := by
      simp [List.flatMap_cons, vW, Function.comp_def]
    rw [e]
    simp only [volsI]
    rw [nextI_jw cl_nV cl_nV, if_pos ⟨trivial, by decide⟩, wordsI_jw (lok_two cl_nV hcl)]
    have eo : onlyI [v.1] (v.2.map (fun p => jw (pW p)) ++ ((vs.flatMap vW).map jw ++ rest), 0) = (v.1, (v.2.map (fun p => jw (pW p)) ++ ((vs.flatMap vW).map jw ++ rest), 0)) := by
      exact onlyI_one _ _
    simp only
    rw [eo]
    simp only
    have hb := blksI_jw (d := d) (bl := v.2) (out := []) (rest := (vs.flatMap vW).map jw ++ rest) c
    rw [b] at hb
    rw [hb]
    simp only [List.nil_append]
    rw [ih (fun w hw => h w (List.mem_cons_of_mem _ hw)) hr (by simp only [List.length_cons] at hn; omega), List.append_assoc]
    rfl
theorem cut_seal {d : Int} {r : Root_} (h : rootV d r = true) : cutV 10 (sealV (bodyV r)) = (rW r ++ [[nS, itoaV (weighV (bodyV r))]]).map jw ++ [[]] := by
  have hl := lok_root h
  have e : catGo lineW (rW r ++ [[nS, itoaV (weighV (bodyV r))]]) = catGo (fun l => l ++ [10]) ((rW r ++ [[nS, itoaV (weighV (bodyV r))]]).map jw) := by rw [cat_map]; rfl
  rw [seal_W, e]
  exact cut_lines fun l hl2 => by obtain ⟨ws, hws, rfl⟩ := List.mem_map.1 hl2; exact join_no10 (hl ws hws)
theorem rootI_seal {d : Int} {r : Root_} (h : rootV d r = true) : (rootI (cutV 10 (sealV (bodyV r)), 0)).1 = r ∧ (rootI (cutV 10 (sealV (bodyV r)), 0)).2.2 = 0 := by
  obtain ⟨h1, h2, h3⟩ := root_parts h
  have hw := weighGo_nn (bodyV r) 0
  have e : cutV 10 (sealV (bodyV r)) = jw (nR :: [itoaV r.1]) :: ((r.2.flatMap vW).map jw ++ [jw [nS, itoaV (weighV (bodyV r))], []]) := by
    rw [cut_seal h]
    unfold rW
    simp
  rw [e]
  have hv := volsI_jw (d := d) (vs := r.2) (out := []) (rest := [jw [nS, itoaV (weighV (bodyV r))], []]) (n := (jw (nR :: [itoaV r.1]) :: ((r.2.flatMap vW).map jw ++ [jw [nS, itoaV (weighV (bodyV r))], []])).length) h2
    (by rw [nextI_jw cl_nV cl_nS]; decide)
    (by
      have : r.2.length ≤ (r.2.flatMap vW).length := by
        generalize r.2 = l
        induction l with
        | nil => simp
        | cons v l ih => rw [List.flatMap_cons, List.length_append]; simp only [vW, List.length_cons]; omega
      simp only [List.length_cons, List.length_append, List.length_map]
      omega)
  have hr : rootI (jw (nR :: [itoaV r.1]) :: ((r.2.flatMap vW).map jw ++ [jw [nS, itoaV (weighV (bodyV r))], []]), 0) = ((r.1, r.2), ([jw [nS, itoaV (weighV (bodyV r))], []], 0)) := by
    unfold rootI
    simp only
    rw [wordsI_jw (lok_two cl_nR (cl_num h1.1))]
    have eo : ∀ s : RdS, onlyI [itoaV r.1] s = (itoaV r.1, s) := fun s => onlyI_one _ s
    simp only
    rw [eo]
    simp only
    rw [numI_itoa h1.1 (by omega), hv]
    rfl
  rw [hr]
  exact ⟨rfl, rfl⟩
/-! a root's text is short -/
theorem lineW_len : ∀ {ws : List Str}, ws ≠ [] → (lineW ws).length = (ws.map fun w => w.length + 1).sum := by
  intro ws
  cases ws with
  | nil => intro h; exact absurd rfl h
  | cons w ws =>
    intro _
    have ht : ∀ ws : List Str, (Lib.joinTail [32] ws).length = (ws.map fun w => w.length + 1).sum := by
      intro ws
      induction ws with
      | nil => rfl
      | cons x ws ih =>
        have e : Lib.joinTail [32] (x :: ws) = 32 :: (x ++ Lib.joinTail [32] ws) := by simp [Lib.joinTail]
        rw [e, List.length_cons, List.length_append, ih, List.map_cons, List.sum_cons]
        omega
    unfold lineW
    rw [Lib.join_cons, List.length_append, List.length_append, ht, List.map_cons, List.sum_cons]
    simp only [List.length_cons, List.length_nil]
    omega
theorem lineV_short {d : Int} {p : Ptr_} (h : ptrV d p = true) : (lineV p).length ≤ 37 := by
  rw [lineV_W]
  by_cases hn : noneV p = true
  · have e : pW p = [nN] := by unfold pW; rw [if_pos hn]
    rw [e]; decide
  · obtain ⟨h1, h2, h3⟩ := ptrV_wide2 h hn
    have e : pW p = tPtr :: itoaV p.1 :: itoaV p.2.1 :: p.2.2.map wordV := by unfold pW; rw [if_neg hn]; rfl
    have hl4 : p.2.2.length ≤ 4 := ptrV_len h
    rw [e, lineW_len (by simp)]
    have a1 := itoaV_lenk 0 p.1 h1.1 (by omega)
    have a2 := itoaV_lenk 9 p.2.1 h2.1 (by omega)
    have a3 : ∀ (l : List Plc), (∀ a ∈ l, placeV 4 a = true) → ((l.map wordV).map fun w => w.length + 1).sum ≤ 5 * l.length := by
      intro l
      induction l with
      | nil => intro _; exact Nat.le_refl _
      | cons a l ih =>
        intro hp
        have ha := hp a List.mem_cons_self
        simp only [placeV, Bool.and_eq_true, decide_eq_true_eq] at ha
        have b1 := itoaV_lenk 0 a.1 ha.1 (by omega)
        have b2 := itoaV_lenk 1 a.2 ha.2.2.1 (by omega)
        have := ih fun x hx => hp x (List.mem_cons_of_mem _ hx)
        simp only [List.map_cons, List.sum_cons, wordV, List.length_append, List.length_cons, List.length_nil] at this ⊢
        omega
    have a4 := a3 p.2.2 h3
    simp only [List.map_cons, List.sum_cons, tPtr, List.length_cons, List.length_nil] at a4 ⊢
    omega
theorem rootT_short {d : Int} {r : Root_} : (rootT d r).length ≤ 700 := by
  unfold rootT
  split
  · rename_i h
    obtain ⟨h1, h2, h3⟩ := root_parts h
    have a1 := itoaV_lenk 5 r.1 h1.1 (by omega)
    have a2 : (catGo volT r.2).length ≤ r.2.length * 119 := cat_len fun v hv => by
      obtain ⟨b1, b2, b3⟩ := h2 v hv
      have c1 : (catGo lineV v.2).length ≤ v.2.length * 37 := cat_len fun p hp => lineV_short (b3 p hp)
      simp only [nameV, inV, Bool.and_eq_true, decide_eq_true_eq] at b1
      unfold volT
      simp only [List.length_append, tVol, List.length_cons, List.length_nil]
      omega
    have a3 : (bodyV r).length ≤ 488 := by
      unfold bodyV
      simp only [List.length_append, tRoot, List.length_cons, List.length_nil]
      omega
    have a4 := weighV_bd (s := bodyV r) (by omega)
    have a5 := itoaV_lenk 11 (weighV (bodyV r)) a4.1 (by omega)
    unfold sealV
    simp only [List.length_append, tSum, List.length_cons, List.length_nil]
    omega
  · exact Nat.zero_le _
/-- what is written is read -/
theorem readI_root {d : Int} {r : Root_} (h : rootV d r = true) : readI d (rootT d r) = (r, true) := by
  have hs := rootT_short (d := d) (r := r)
  have hT : rootT d r = sealV (bodyV r) := if_pos h
  obtain ⟨e1, e2⟩ := rootI_seal h
  have hne : ¬ rootT d r = [] := by rw [rootT_nil]; exact fun h2 => h2 h
  unfold readI
  rw [if_neg (fun hh => hh.elim (fun h => by omega) hne)]
  simp only
  rw [hT, e1, e2, if_neg (by rw [hT]; simp)]
theorem readS_root {d : Int} {r : Root_} (h : rootV d r = true) : readS d (rootT d r) = (r, true) := by
  have hs := rootT_short (d := d) (r := r)
  have hne : ¬ rootT d r = [] := by rw [rootT_nil]; exact fun h2 => h2 h
  unfold readS
  rw [if_neg (by omega), parse_root h, if_neg (fun hh => hh.elim (fun h => h rfl) hne)]
/-- both read alike -/
theorem readI_S {d : Int} {t : Str} : readI d t = readS d t := by
  by_cases hx : ∃ r, rootV d r = true ∧ rootT d r = t
  · obtain ⟨r, h1, rfl⟩ := hx
    rw [readI_root h1, readS_root h1]
  · have hno : ∀ r, t ≠ [] → rootT d r ≠ t := by
      intro r hne e
      by_cases hr : rootV d r = true
      · exact hx ⟨r, hr, e⟩
      · have : rootT d r = [] := if_neg hr
        exact hne (by rw [← e, this])
    unfold readI readS
    by_cases h0 : t = []
    · rw [if_pos (.inr h0)]
      split
      · rfl
      · rw [if_pos (.inr h0)]
    · by_cases h7 : 700 < t.length
      · rw [if_pos (.inl h7), if_pos h7]
      · rw [if_neg (fun h => h.elim h7 h0), if_neg h7]
        simp only
        rw [if_pos (.inr (hno _ h0)), if_pos (.inl (hno _ h0))]
end Go.Sx

/- A root's text that is cut is none: plain. -/
namespace Go.Sx
open Go
theorem rW_head {r : Root_} : ∀ ws ∈ rW r, ws.getD 0 [] ≠ nS := by
  intro ws hws
  unfold rW at hws
  rcases List.mem_cons.1 hws with rfl | hws
  · show nR ≠ nS; decide
  · obtain ⟨v, _, hws⟩ := List.mem_flatMap.1 hws
    unfold vW at hws
    rcases List.mem_cons.1 hws with rfl | hws
    · show nV ≠ nS; decide
    · obtain ⟨p, _, rfl⟩ := List.mem_map.1 hws
      unfold pW
      split
      · decide
      · show tPtr ≠ nS; decide
theorem cutGo_split {a : UInt8} : ∀ {ls : List Str} {u : Str}, (∀ l ∈ ls, ∀ c ∈ l, c ≠ a) → cutGo a [] (catGo (fun l => l ++ [a]) ls ++ u) = ls ++ cutGo a [] u := by
  intro ls
  induction ls with
  | nil => intro u _; rfl
  | cons l ls ih =>
    intro u h
    simp only [catGo, List.append_assoc]
    rw [cutGo_word (h l List.mem_cons_self), List.nil_append, List.singleton_append, cutGo_at, ih (fun x hx => h x (List.mem_cons_of_mem _ hx))]
    rfl
/-- a text that begins with a root's text, and goes on, is none -/
theorem cut_none {d d2 : Int} {r q : Root_} {u : Str} (hr : rootV d r = true) (hq : rootV d2 q = true) (hu : u ≠ []) : sealV (bodyV q) ++ u ≠ sealV (bodyV r) := by
  intro e
  have hlq := lok_root hq
  have hlr := lok_root hr
  have eq1 : sealV (bodyV q) = catGo (fun l => l ++ [10]) ((rW q ++ [[nS, itoaV (weighV (bodyV q))]]).map jw) := by rw [seal_W, cat_map]; rfl
  have e2 := cut_seal hr
  rw [← e, eq1] at e2
  unfold cutV at e2
  rw [cutGo_split (fun l hl => by obtain ⟨ws, hws, rfl⟩ := List.mem_map.1 hl; exact join_no10 (hlq ws hws))] at e2
  have hB1 : 1 ≤ (cutGo 10 [] u).length := List.length_pos_iff.2 (cutV_ne (a := 10) (s := u))
  have hB0 : cutGo 10 [] u ≠ [[]] := by
    have h1 : ∀ (s cur : Str), cutGo 10 cur s = [[]] → cur = [] ∧ s = [] := by
      intro s
      induction s with
      | nil => intro cur h; simpa [cutGo] using h
      | cons c s ih =>
        intro cur h
        simp only [cutGo] at h
        split at h
        · have := cutV_ne (a := 10) (s := s)
          unfold cutV at this
          simp at h
          exact absurd h.2 this
        · have := (ih _ h).1
          simp at this
    intro h
    exact hu (h1 u [] h).2
  generalize cutGo 10 [] u = B at e2 hB0 hB1
  have hlen := congrArg List.length e2
  simp only [List.length_append, List.length_map, List.length_cons, List.length_nil] at hlen
  rcases Nat.lt_trichotomy (rW q).length (rW r).length with hk | hk | hk
  · have h1 := congrArg (fun l => l[(rW q).length]?) e2
    simp only [List.map_append, List.map_cons, List.map_nil, List.append_assoc] at h1
    rw [List.getElem?_append_right (l₁ := (rW q).map jw) (by simp), List.getElem?_append_left (l₁ := (rW r).map jw) (by simpa using hk)] at h1
    simp only [List.length_map, Nat.sub_self, List.cons_append, List.getElem?_cons_zero, List.getElem?_map] at h1
    rw [List.getElem?_eq_getElem hk] at h1
    simp only [Option.map_some, Option.some.injEq] at h1
    have hm : (rW r)[(rW q).length] ∈ rW r := List.getElem_mem hk
    have h2 := congrArg (cutV 32) h1
    unfold jw at h2
    rw [cut_line (hlq _ (List.mem_append_right _ (List.mem_singleton.2 rfl))), cut_line (hlr _ (List.mem_append_left _ hm))] at h2
    exact rW_head _ hm (by rw [← h2]; rfl)
  · have h1 := congrArg (List.drop ((rW q).length + 1)) e2
    rw [List.drop_left' (by simp), List.drop_left' (by simp [hk])] at h1
    exact hB0 h1
  · omega
/-- what is no root's text is not read -/
theorem readI_no {d : Int} {t : Str} (h : ∀ r, rootV d r = true → rootT d r ≠ t) : (readI d t).2 = false := by
  unfold readI
  split
  · rfl
  · rename_i h0
    simp only
    split
    · rfl
    · rename_i h1
      have hne : ¬ t = [] := fun e => h0 (.inr e)
      have he : rootT d (rootI (cutV 10 t, 0)).1 = t := Classical.not_not.1 fun e => h1 (.inr e)
      have hv : rootV d (rootI (cutV 10 t, 0)).1 = true := Classical.not_not.1 fun e => hne (by rw [← he]; exact if_neg e)
      exact absurd he (h _ hv)
theorem read_cut {d : Int} {r : Root_} {n : Nat} (hr : rootV d r = true) (hn : n < (rootT d r).length) : (readI d ((rootT d r).take n)).2 = false := by
  refine readI_no fun q hq e => ?_
  have hT : rootT d r = sealV (bodyV r) := if_pos hr
  have hQ : rootT d q = sealV (bodyV q) := if_pos hq
  refine cut_none (u := (rootT d r).drop n) hr hq ?_ ?_
  · intro h
    have := congrArg List.length h
    simp only [List.length_drop, List.length_nil] at this
    omega
  · rw [← hQ, e, ← hT, List.take_append_drop]
theorem weighGo_set : ∀ (s : Str) (i k : Nat) (c : UInt8) (h : k < s.length), weighGo (s.set k c) i = weighGo s i + ((c.toNat : Int) - (s[k].toNat : Int)) * (65536 + ((i + k : Nat) : Int) + 1) := by
  intro s
  induction s with
  | nil => intro i k c h; cases h
  | cons a s ih =>
    intro i k c h
    cases k with
    | zero =>
      simp only [List.set_cons_zero, weighGo, List.getElem_cons_zero, Nat.add_zero]
      rw [Int.sub_mul]
      omega
    | succ k =>
      have := ih (i + 1) k c (by simpa using h)
      simp only [List.set_cons_succ, weighGo, List.getElem_cons_succ]
      rw [this, show i + 1 + k = i + (k + 1) by omega]
      omega
theorem weighV_set {s : Str} {k : Nat} {c : UInt8} (h : k < s.length) (hc : c ≠ s[k]) : weighV (s.set k c) ≠ weighV s := by
  intro e
  unfold weighV at e
  rw [weighGo_set s 0 k c h] at e
  have h1 : ((c.toNat : Int) - (s[k].toNat : Int)) * (65536 + ((0 + k : Nat) : Int) + 1) = 0 := by omega
  rcases Int.mul_eq_zero.1 h1 with h2 | h2
  · exact hc (UInt8.toNat_inj.1 (by omega))
  · omega
/-! one byte changed -/
theorem body_end (r : Root_) : ∃ X : Str, bodyV r = X ++ [10] := by
  rw [body_W]
  have : ∀ ls : List (List Str), ls ≠ [] → ∃ X : Str, catGo lineW ls = X ++ [10] := by
    intro ls
    induction ls with
    | nil => intro h; exact absurd rfl h
    | cons l ls ih =>
      intro _
      simp only [catGo]
      by_cases h : ls = []
      · subst h
        exact ⟨Lib.join l [32], by simp [catGo, lineW]⟩
      · obtain ⟨X, hX⟩ := ih h
        exact ⟨lineW l ++ X, by rw [hX, List.append_assoc]⟩
  exact this _ (by unfold rW; simp)
theorem seal_len (X : Str) : (sealV X).length = X.length + 4 + (itoaV (weighV X)).length + 1 := by
  unfold sealV
  simp only [List.length_append, tSum, List.length_cons, List.length_nil]
theorem seal_at {X : Str} {i : Nat} (h : X.length ≤ i) : (sealV X)[i]? = (tSum ++ (itoaV (weighV X) ++ [10]))[i - X.length]? := by
  unfold sealV
  rw [List.append_assoc, List.append_assoc, List.getElem?_append_right h]
theorem seal_lt {X : Str} {i : Nat} (h : i < X.length) : (sealV X)[i]? = X[i]? := by
  unfold sealV
  rw [List.append_assoc, List.append_assoc, List.getElem?_append_left h]
theorem seal_s {X : Str} : (sealV X)[X.length]? = some 115 := by
  rw [seal_at (Nat.le_refl _), Nat.sub_self]; rfl
theorem seal_tail {X : Str} {i : Nat} {c : UInt8} (h : X.length < i) (hc : (sealV X)[i]? = some c) : c ≠ 115 ∧ (i + 1 < (sealV X).length → c ≠ 10) := by
  have hw := weighGo_nn X 0
  rw [seal_at (by omega)] at hc
  obtain ⟨j, hj⟩ : ∃ j, i - X.length = j + 1 := ⟨i - X.length - 1, by omega⟩
  rw [hj] at hc
  by_cases h4 : j < 3
  · have : j = 0 ∨ j = 1 ∨ j = 2 := by omega
    rcases this with rfl | rfl | rfl <;>
    · simp [tSum] at hc
      subst hc
      exact ⟨by decide, fun _ => by decide⟩
  · rw [List.getElem?_append_right (by simp [tSum]; omega)] at hc
    have hl : tSum.length = 4 := rfl
    rw [hl] at hc
    by_cases hd : j + 1 - 4 < (itoaV (weighV X)).length
    · rw [List.getElem?_append_left hd, List.getElem?_eq_getElem hd] at hc
      have := itoaV_dig (weighV X) hw c (by rw [← Option.some.inj hc]; exact List.getElem_mem hd)
      refine ⟨?_, fun _ => ?_⟩ <;> · rintro rfl; revert this; decide
    · rw [List.getElem?_append_right (by omega)] at hc
      refine ⟨?_, fun h2 => ?_⟩
      · rintro rfl
        obtain ⟨k, hk⟩ : ∃ k, j + 1 - 4 - (itoaV (weighV X)).length = k := ⟨_, rfl⟩
        rw [hk] at hc
        cases k <;> simp at hc
      · rw [seal_len] at h2
        omega
theorem itoaV_inj {a b : Int} (ha : 0 ≤ a) (ha2 : a < 1000000000000) (hb : 0 ≤ b) (hb2 : b < 1000000000000) (h : itoaV a = itoaV b) : a = b := by
  rw [← numV_itoa ha ha2, ← numV_itoa hb hb2, h]
theorem body_short {d : Int} {r : Root_} (h : rootV d r = true) : (bodyV r).length ≤ 700 := by
  have h1 := rootT_short (d := d) (r := r)
  have hT : rootT d r = sealV (bodyV r) := if_pos h
  rw [hT, seal_len] at h1
  omega
/-- a root's text with one byte changed is none -/
theorem set_none {d d2 : Int} {r q : Root_} {k : Nat} {c : UInt8} (hr : rootV d r = true) (hq : rootV d2 q = true) (hk : k < (sealV (bodyV r)).length) (hc : c ≠ (sealV (bodyV r))[k]) : sealV (bodyV q) ≠ (sealV (bodyV r)).set k c := by
  intro e
  obtain ⟨X, hX⟩ := body_end r
  obtain ⟨Y, hY⟩ := body_end q
  have sr := body_short hr
  have sq := body_short hq
  have wr := weighV_bd (s := bodyV r) (by omega)
  have wq := weighV_bd (s := bodyV q) (by omega)
  have hn : (bodyV r).length = X.length + 1 := by rw [hX]; simp
  have hm : (bodyV q).length = Y.length + 1 := by rw [hY]; simp
  have hlen : (sealV (bodyV q)).length = (sealV (bodyV r)).length := by rw [e, List.length_set]
  have lr := seal_len (bodyV r)
  have lq := seal_len (bodyV q)
  have at_ : ∀ i, i ≠ k → (sealV (bodyV q))[i]? = (sealV (bodyV r))[i]? := by
    intro i hi
    rw [e, List.getElem?_set_ne (Ne.symm hi)]
  have nr : (sealV (bodyV r))[(bodyV r).length - 1]? = some 10 := by
    rw [seal_lt (by omega), hX]; simp
  have nq : (sealV (bodyV q))[(bodyV q).length - 1]? = some 10 := by
    rw [seal_lt (by omega), hY]; simp
  rcases Nat.lt_trichotomy (bodyV q).length (bodyV r).length with h | h | h
  · by_cases hkk : (bodyV r).length - 1 = k
    · have h1 : (sealV (bodyV q))[(bodyV r).length]? = some 115 := by rw [at_ _ (by omega)]; exact seal_s
      exact (seal_tail h h1).1 rfl
    · have h1 : (sealV (bodyV q))[(bodyV r).length - 1]? = some 10 := by rw [at_ _ hkk]; exact nr
      by_cases h2 : (bodyV q).length < (bodyV r).length - 1
      · exact (seal_tail h2 h1).2 (by omega) rfl
      · have h3 : (bodyV q).length = (bodyV r).length - 1 := by omega
        rw [← h3, seal_s] at h1
        cases h1
  · by_cases hkn : k < (bodyV r).length
    · have hB : bodyV q = (bodyV r).set k c := by
        have := congrArg (List.take (bodyV r).length) e
        unfold sealV at this
        rw [List.append_assoc, List.append_assoc, List.append_assoc, List.append_assoc, List.set_append_left _ _ hkn, List.take_left' h, List.take_left' (by simp)] at this
        exact this
      have hS : itoaV (weighV (bodyV q)) = itoaV (weighV (bodyV r)) := by
        have := congrArg (List.drop (bodyV r).length) e
        unfold sealV at this
        rw [List.append_assoc, List.append_assoc, List.append_assoc, List.append_assoc, List.set_append_left _ _ hkn, List.drop_left' h, List.drop_left' (by simp)] at this
        have h2 := List.append_cancel_left this
        exact List.append_cancel_right h2
      have hw := itoaV_inj wq.1 (by omega) wr.1 (by omega) hS
      rw [hB] at hw
      refine weighV_set hkn ?_ hw
      intro e2
      refine hc ?_
      have h5 := seal_lt hkn
      rw [List.getElem?_eq_getElem hk, List.getElem?_eq_getElem hkn] at h5
      rw [Option.some.inj h5]
      exact e2
    · have hB : bodyV q = bodyV r := by
        have := congrArg (List.take (bodyV r).length) e
        unfold sealV at this
        rw [List.append_assoc, List.append_assoc, List.append_assoc, List.append_assoc, List.set_append_right _ _ (by omega), List.take_left' h, List.take_left' rfl] at this
        exact this
      rw [hB] at e
      have h6 := congrArg (fun l => l[k]?) e
      simp only [List.getElem?_set_self hk] at h6
      rw [List.getElem?_eq_getElem hk] at h6
      exact hc (Option.some.inj h6).symm
  · by_cases hkk : (bodyV q).length - 1 = k
    · have h1 : (sealV (bodyV r))[(bodyV q).length]? = some 115 := by rw [← at_ _ (by omega)]; exact seal_s
      exact (seal_tail h h1).1 rfl
    · have h1 : (sealV (bodyV r))[(bodyV q).length - 1]? = some 10 := by rw [← at_ _ hkk]; exact nq
      by_cases h2 : (bodyV r).length < (bodyV q).length - 1
      · exact (seal_tail h2 h1).2 (by omega) rfl
      · have h3 : (bodyV r).length = (bodyV q).length - 1 := by omega
        rw [← h3, seal_s] at h1
        cases h1
theorem read_set {d : Int} {r : Root_} {k : Nat} {c : UInt8} (hr : rootV d r = true) (hk : k < (rootT d r).length) (hc : c ≠ (rootT d r)[k]) : (readI d ((rootT d r).set k c)).2 = false := by
  have hT : rootT d r = sealV (bodyV r) := if_pos hr
  refine readI_no fun q hq e => ?_
  have hQ : rootT d q = sealV (bodyV q) := if_pos hq
  simp only [hT] at hk hc e
  rw [hQ] at e
  exact set_none hr hq hk hc e
end Go.Sx

/- What a byte turned over by another is. -/
namespace Go.Sx
open Go
theorem xor_ne {a : UInt8} {b : Int} (h0 : 0 < b) (h1 : b ≤ 255) : UInt8.ofNat (bitsOp .xor .u8 (a.toNat : Int) b).toNat ≠ a := by
  intro e
  have ha := a.toNat_lt
  have e2 := congrArg UInt8.toNat e
  rw [UInt8.toNat_ofNat'] at e2
  change (IntKind.wrap .u8 ((BitVec.ofInt 8 (a.toNat : Int) ^^^ BitVec.ofInt 8 b).toNat : Int)).toNat % 2 ^ 8 = a.toNat at e2
  have hA : (BitVec.ofInt 8 (a.toNat : Int)) = BitVec.ofNat 8 a.toNat := by simp
  obtain ⟨n, rfl⟩ := Int.eq_ofNat_of_zero_le (show 0 ≤ b by omega)
  have hB : (BitVec.ofInt 8 (n : Int)) = BitVec.ofNat 8 n := by simp
  rw [hA, hB] at e2
  have hw : (IntKind.wrap .u8 ((BitVec.ofNat 8 a.toNat ^^^ BitVec.ofNat 8 n).toNat : Int)).toNat = (BitVec.ofNat 8 a.toNat ^^^ BitVec.ofNat 8 n).toNat := by
    have := (BitVec.ofNat 8 a.toNat ^^^ BitVec.ofNat 8 n).isLt
    generalize (BitVec.ofNat 8 a.toNat ^^^ BitVec.ofNat 8 n).toNat = m at this
    have hw : IntKind.wrap .u8 (m : Int) = (m : Int) % 256 := rfl
    rw [hw]
    omega
  rw [hw] at e2
  have hlt := (BitVec.ofNat 8 a.toNat ^^^ BitVec.ofNat 8 n).isLt
  rw [Nat.mod_eq_of_lt hlt] at e2
  have e3 : BitVec.ofNat 8 a.toNat ^^^ BitVec.ofNat 8 n = BitVec.ofNat 8 a.toNat := by
    apply BitVec.eq_of_toNat_eq
    rw [e2, BitVec.toNat_ofNat, Nat.mod_eq_of_lt ha]
  have e4 : BitVec.ofNat 8 n = 0#8 := by
    have := congrArg (fun x => BitVec.ofNat 8 a.toNat ^^^ x) e3
    simpa [← BitVec.xor_assoc] using this
  have e5 := congrArg BitVec.toNat e4
  simp at e5
  omega
theorem ofBytes_set {s : Str} {k : Nat} {n : Int} : ofBytes ((toBytes s).set k n) = s.set k (UInt8.ofNat n.toNat) := by
  unfold ofBytes toBytes
  rw [List.map_set, List.map_map]
  have : (s.map ((fun n : Int => UInt8.ofNat n.toNat) ∘ fun c : UInt8 => (c.toNat : Int))) = s := by
    conv => rhs; rw [← List.map_id s]
    exact List.map_congr_left fun c _ => by simp
  rw [this]
theorem toBytes_at {s : Str} {k : Nat} (h : k < s.length) : (toBytes s)[k]? = some ((s[k]).toNat : Int) := by
  unfold toBytes
  rw [List.getElem?_map, List.getElem?_eq_getElem h]
  rfl
end Go.Sx

namespace Go.Sx
open Go
set_option maxRecDepth 100000
set_option linter.unusedVariables false
set_option linter.unusedSimpArgs false
set_option maxHeartbeats 2000000

def cChanged : Ctr := ⟨10, [.val false .str pF, .val false TI pF, .val false (.int .u8) pF], fun x => 0 ≤ x.2.1 ∧ x.2.1 < (List.length x.1 : Int) ∧ List.length x.1 ≤ 700, fun x => (sStr (List.set x.1 x.2.1.toNat (UInt8.ofNat (bitsOp .xor .u8 ((x.1.getD x.2.1.toNat 0).toNat : Int) x.2.2.1).toNat)), [])⟩
theorem cChanged_ok : CtrOk Proofs.Tryz.prog cChanged := by
  have hP := (Prg.none ttok mtok)
  refine ctr_of_body hP cChanged (fn := Proofs.Tryz.f10) (rts := [.tmp 6]) Proofs.Tryz.func10 rfl (by kernel_rfl) rfl rfl ?_
  rintro ⟨(s : Str), (n : Int), (b : Int), ⟨⟩⟩ _ ⟨h0, h1, h7⟩
  try dsimp only [Ty.den, Mode.den, mdens] at h0
  try dsimp only [Ty.den, Mode.den, mdens] at h1
  try dsimp only [Ty.den, Mode.den, mdens] at h7
  refine ⟨rfl, ?_⟩
  replace h0 : 0 ≤ n := h0
  replace h1 : n < (s.length : Int) := h1
  replace h7 : s.length ≤ 700 := h7
  refine sw_seq ?_
  refine sw_region hP 1 [] rfl (by kernel_rfl) (fun _ => by kernel_rfl) (by first | trivial | (simp [conj]; done) | (simp [conj] at *; (try dsimp only [Ty.den, Ty.dflt] at *); omega)) ?_
  refine sw_seq ?_
  refine sw_region hP 2 [] rfl (by kernel_rfl) (fun _ => by kernel_rfl) ?_ ?_
  · skip
    simp only [conj, List.nil_append, List.cons_append, List.append_nil, List.append_assoc, inR_i64, true_and, and_true, Int.toNat_natCast]
    try dsimp only [Ty.den, Ty.dflt]
    repeat' apply And.intro
    all_goals first | omega | trivial | (simp [toBytes]; omega)
  refine sw_seq ?_
  refine sw_region hP 3 [] rfl (by kernel_rfl) (fun _ => by kernel_rfl) ?_ ?_
  · skip
    simp only [conj, List.nil_append, List.cons_append, List.append_nil, List.append_assoc, inR_i64, true_and, and_true, Int.toNat_natCast]
    try dsimp only [Ty.den, Ty.dflt]
    repeat' apply And.intro
    all_goals first | omega | trivial | (simp [toBytes]; omega)
  refine sw_seq ?_
  refine sw_region hP 4 [] rfl (by kernel_rfl) (fun _ => by kernel_rfl) ?_ ?_
  · skip
    simp only [conj, List.nil_append, List.cons_append, List.append_nil, List.append_assoc, inR_i64, true_and, and_true, Int.toNat_natCast]
    try dsimp only [Ty.den, Ty.dflt]
    repeat' apply And.intro
    all_goals first | omega | trivial | (simp [toBytes]; omega)
  refine sw_ret ⟨.inl rfl, _, rfl, ?_⟩
  have hlt : n.toNat < s.length := by omega
  simp [conj, ofBytes_set, toBytes_at hlt, List.getElem?_eq_getElem hlt]

def cLCut : Ctr := ⟨3, [.val false TB pF, .val false TB pF], fun x => True, fun x => (sBool true, [])⟩
theorem cLCut_ok : CtrOk Proofs.Tryz.prog cLCut := by
  have hP := ((((((Prg.none ttok mtok).and cDrT_ok).and cRootText_ok).and cRootTextS_ok).and cReadI_ok).and cChanged_ok)
  refine ctr_of_body hP cLCut (fn := Proofs.Tryz.f3) (rts := [.tmp 4]) Proofs.Tryz.func3 rfl (by kernel_rfl) rfl rfl ?_
  rintro ⟨(code : List Int), (more : List Int), ⟨⟩⟩ ⟨hdc, hdm, _⟩ _
  try dsimp only [Ty.den, Mode.den, mdens] at _
  refine ⟨rfl, ?_⟩
  refine sw_seq ?_
  refine sw_region hP 1 [] rfl (by kernel_rfl) (fun _ => by kernel_rfl) (by first | trivial | (simp [conj]; done) | (simp [conj] at *; (try dsimp only [Ty.den, Ty.dflt] at *); omega)) ?_
  refine sw_seq ?_
  refine sw_seq ?_
  refine sw_dec hP 2 [] 3 rfl (fun g1_3 => ?_) (fun g1_3 => ?_)
  · skip
    refine sw_region hP 2 [(3, true)] rfl (by kernel_rfl) (fun _ => by kernel_rfl) (by first | trivial | (simp [conj]; done) | (simp [conj] at *; (try dsimp only [Ty.den, Ty.dflt] at *); omega)) ?_
    refine sw_condT rfl ?_
    refine sw_seq ?_
    refine sw_region hP 3 [] rfl (by kernel_rfl) (fun _ => by kernel_rfl) (by first | trivial | (simp [conj]; done) | (simp [conj] at *; (try dsimp only [Ty.den, Ty.dflt] at *); omega)) ?_
    refine sw_ret ⟨.inl rfl, _, rfl, ?_⟩
    simp [conj]
  · skip
    refine sw_region hP 2 [(3, false)] rfl (by kernel_rfl) (fun _ => by kernel_rfl) (by first | trivial | (simp [conj]; done) | (simp [conj] at *; (try dsimp only [Ty.den, Ty.dflt] at *); omega)) ?_
    refine sw_cond rfl (fun c1 => ?_) (fun c1 => ?_)
    · skip
      refine sw_seq ?_
      refine sw_region hP 3 [] rfl (by kernel_rfl) (fun _ => by kernel_rfl) (by first | trivial | (simp [conj]; done) | (simp [conj] at *; (try dsimp only [Ty.den, Ty.dflt] at *); omega)) ?_
      refine sw_ret ⟨.inl rfl, _, rfl, ?_⟩
      simp [conj]
    · skip
      refine sw_skip ?_
      refine sw_seq ?_
      refine sw_region hP 3 [] rfl (by kernel_rfl) (fun _ => by kernel_rfl) (by first | trivial | (simp [conj]; done) | (simp [conj] at *; (try dsimp only [Ty.den, Ty.dflt] at *); omega)) ?_
      refine sw_seq ?_
      refine sw_region hP 4 [] rfl (by kernel_rfl) (fun _ => by kernel_rfl) (by first | trivial | (simp [conj]; done) | (simp [conj] at *; (try dsimp only [Ty.den, Ty.dflt] at *); omega)) ?_
      refine sw_seq ?_
      refine sw_seq ?_
      refine sw_dec hP 5 [] 5 rfl (fun g5_5 => ?_) (fun g5_5 => ?_)
      · skip
        have h : (!decide ((rootT (drN code) (drR code)) = (rootT (drN code) (drR code)))) = true := g5_5
        simp at h
      · skip
        refine sw_region hP 5 [(5, false)] rfl (by kernel_rfl) (fun _ => by kernel_rfl) (by first | trivial | (simp [conj]; done) | (simp [conj] at *; (try dsimp only [Ty.den, Ty.dflt] at *); omega)) ?_
        refine sw_cond rfl (fun c5 => ?_) (fun c5 => ?_)
        · skip
          refine sw_seq ?_
          refine sw_region hP 6 [] rfl (by kernel_rfl) (fun _ => by kernel_rfl) (by first | trivial | (simp [conj]; done) | (simp [conj] at *; (try dsimp only [Ty.den, Ty.dflt] at *); omega)) ?_
          refine sw_ret ⟨.inl rfl, _, rfl, ?_⟩
          simp [conj]
        · skip
          have hA : rootV (drN code) (drR code) = true := by
            have h : decide ((rootT (drN code) (drR code)) = []) = false := c5
            have h2 := of_decide_eq_false h
            rw [rootT_nil] at h2
            exact Classical.not_not.1 h2
          have hsh := rootT_short (d := drN code) (r := drR code)
          have hT0 : 0 < (rootT (drN code) (drR code)).length := List.length_pos_iff.2 (of_decide_eq_false (show decide ((rootT (drN code) (drR code)) = []) = false from c5))
          obtain ⟨k, hke⟩ : ∃ k, more.length % (rootT (drN code) (drR code)).length = k := ⟨_, rfl⟩
          have hk : k < (rootT (drN code) (drR code)).length := hke ▸ Nat.mod_lt _ hT0
          have hcut := read_cut hA hk
          have hmod : ((more.length : Int)).tmod ((rootT (drN code) (drR code)).length : Int) = (k : Int) := by rw [Int.tmod_eq_emod_of_nonneg (by omega), ← hke]; rfl
          refine sw_skip ?_
          refine sw_seq ?_
          refine sw_region hP 6 [] rfl (by kernel_rfl) (fun _ => by kernel_rfl) ?_ ?_
          · skip
            simp only [conj, List.nil_append, List.cons_append, List.append_nil, List.append_assoc, inR_i64, true_and, and_true, Int.toNat_natCast]
            try dsimp only [Ty.den, Ty.dflt]
            repeat' apply And.intro
            all_goals first | omega | trivial | (show ((rootT (drN code) (drR code)).length : Int) ≠ 0; omega)
          refine sw_seq ?_
          refine sw_ent (st' := ⟨[.junk, .v false [.d TB pF more], .junk, .junk, .junk, sInt .i64 (drN code), .v false [.ptr ⟨3, 5, 0⟩ 0], sStr (rootT (drN code) (drR code)), sInt .i64 (k : Int), .junk, .junk, .junk, .junk, .junk, .junk, .junk, .junk, .junk, .junk, .junk, .junk, .junk, .junk, .junk, .junk, .junk, .junk, .junk, .junk, .junk, .junk, .junk, .junk, .junk, .junk, .junk, .junk, .junk, .junk, .junk, .junk, .junk, .junk, .junk, .junk, .junk, .junk, .junk, .junk, .junk, .junk, .junk, .junk, .junk, .junk, .junk, .junk, .junk, .junk, .junk, .junk, .junk, .junk, .junk, .junk, .junk, .junk, .junk, .junk, .junk, .junk, .junk, .junk, .junk, .junk, .junk, .junk, .junk, .junk, .junk, .junk, .junk, .junk, .junk], [], 6, []⟩) (ent_ok rfl ?_) ?_
          · skip
            simp [conj, hmod]
          refine sw_region hP 7 [] rfl (by kernel_rfl) (fun _ => by kernel_rfl) (by first | trivial | (simp [conj]; done) | (simp [conj] at *; (try dsimp only [Ty.den, Ty.dflt] at *); omega)) ?_
          refine sw_seq ?_
          refine sw_seq ?_
          refine sw_dec hP 8 [] 3 rfl (fun g9_3 => ?_) (fun g9_3 => ?_)
          · skip
            have hlt : 0 < more.length := by have h : decide ((0 : Int) < (more.length : Int)) = true := g9_3; simpa using h
            have hb1 : more.getD (Int.toNat 0) 0 ≤ 255 := by rw [List.getD_eq_getElem?_getD, show Int.toNat 0 = 0 from rfl, List.getElem?_eq_getElem hlt]; exact (hdm.2 _ (List.getElem_mem hlt)).2
            refine sw_region hP 8 [(3, true)] rfl (by kernel_rfl) (fun _ => by kernel_rfl) ?_ ?_
            · skip
              simp [conj]
              omega
            refine sw_cond rfl (fun c9 => ?_) (fun c9 => ?_)
            · skip
              have hb0 : 0 < (more.getD (Int.toNat 0) 0) := of_decide_eq_true c9
              have hset : (readI (drN code) (List.set (rootT (drN code) (drR code)) k (UInt8.ofNat (bitsOp .xor .u8 (((rootT (drN code) (drR code)).getD k 0).toNat : Int) ((more.getD (Int.toNat 0) 0))).toNat))).2 = false := by
                refine read_set hA hk ?_
                rw [List.getD_eq_getElem?_getD, List.getElem?_eq_getElem hk]
                exact xor_ne hb0 hb1
              refine sw_region hP 9 [] rfl (by kernel_rfl) (fun _ => by kernel_rfl) ?_ ?_
              · skip
                simp [conj]
                omega
              refine sw_seq ?_
              refine sw_region hP 10 [] rfl (by kernel_rfl) (fun _ => by kernel_rfl) ?_ ?_
              · skip
                simp only [conj, List.nil_append, List.cons_append, List.append_nil, List.append_assoc, inR_i64, true_and, and_true, Int.toNat_natCast]
                try dsimp only [Ty.den, Ty.dflt]
                repeat' apply And.intro
                all_goals first | omega | trivial | assumption | exact Int.natCast_nonneg _ | exact Int.ofNat_lt.2 hk | exact Int.ofNat_le.2 (Nat.le_of_lt hk) | exact hsh
              refine sw_seq ?_
              refine sw_region hP 11 [] rfl (by kernel_rfl) (fun _ => by kernel_rfl) ?_ ?_
              · skip
                simp only [conj, List.nil_append, List.cons_append, List.append_nil, List.append_assoc, inR_i64, true_and, and_true, Int.toNat_natCast]
                try dsimp only [Ty.den, Ty.dflt]
                repeat' apply And.intro
                all_goals first | omega | trivial | assumption | exact Int.natCast_nonneg _ | exact Int.ofNat_lt.2 hk | exact Int.ofNat_le.2 (Nat.le_of_lt hk) | exact hsh
              refine sw_seq ?_
              refine sw_ent (st' := ⟨[.junk, .junk, .junk, .junk, .junk, .junk, .v false [.ptr ⟨3, 5, 0⟩ 0], .junk, .junk, .junk, .v false [.ptr ⟨10, 8, 0⟩ 0], sBool false, .v false [.ptr ⟨11, 9, 0⟩ 0], sBool false, .junk, .junk, .junk, .junk, .junk, .junk, .junk, .junk, .junk, .junk, .junk, .junk, .junk, .junk, .junk, .junk, .junk, .junk, .junk, .junk, .junk, .junk, .junk, .junk, .junk, .junk, .junk, .junk, .junk, .junk, .junk, .junk, .junk, .junk, .junk, .junk, .junk, .junk, .junk, .junk, .junk, .junk, .junk, .junk, .junk, .junk, .junk, .junk, .junk, .junk, .junk, .junk, .junk, .junk, .junk, .junk, .junk, .junk, .junk, .junk, .junk, .junk, .junk, .junk, .junk, .junk, .junk, .junk, .junk, .junk], [], 11, []⟩) (ent_ok rfl ?_) ?_
              · skip
                simp only [conj, Int.toNat_natCast]
                repeat' apply And.intro
                all_goals first | exact hcut | exact hset | trivial | rfl
              refine sw_dec hP 12 [] 2 rfl (fun g13_2 => ?_) (fun g13_2 => ?_)
              · skip
                refine sw_region hP 12 [(2, true)] rfl (by kernel_rfl) (fun _ => by kernel_rfl) (by first | trivial | (simp [conj]; done) | (simp [conj] at *; (try dsimp only [Ty.den, Ty.dflt] at *); omega)) ?_
                refine sw_ret ⟨.inl rfl, _, rfl, ?_⟩
                simp [conj]
              · skip
                cases g13_2
            · skip
              have hset : (readI (drN code) (List.set (rootT (drN code) (drR code)) k (UInt8.ofNat (bitsOp .xor .u8 (((rootT (drN code) (drR code)).getD k 0).toNat : Int) (1)).toNat))).2 = false := by
                refine read_set hA hk ?_
                rw [List.getD_eq_getElem?_getD, List.getElem?_eq_getElem hk]
                exact xor_ne (by decide) (by decide)
              refine sw_skip ?_
              refine sw_seq ?_
              refine sw_region hP 9 [] rfl (by kernel_rfl) (fun _ => by kernel_rfl) ?_ ?_
              · skip
                simp only [conj, List.nil_append, List.cons_append, List.append_nil, List.append_assoc, inR_i64, true_and, and_true, Int.toNat_natCast]
                try dsimp only [Ty.den, Ty.dflt]
                repeat' apply And.intro
                all_goals first | omega | trivial | assumption | exact Int.natCast_nonneg _ | exact Int.ofNat_lt.2 hk | exact Int.ofNat_le.2 (Nat.le_of_lt hk) | exact hsh
              refine sw_seq ?_
              refine sw_region hP 10 [] rfl (by kernel_rfl) (fun _ => by kernel_rfl) ?_ ?_
              · skip
                simp only [conj, List.nil_append, List.cons_append, List.append_nil, List.append_assoc, inR_i64, true_and, and_true, Int.toNat_natCast]
                try dsimp only [Ty.den, Ty.dflt]
                repeat' apply And.intro
                all_goals first | omega | trivial | assumption | exact Int.natCast_nonneg _ | exact Int.ofNat_lt.2 hk | exact Int.ofNat_le.2 (Nat.le_of_lt hk) | exact hsh
              refine sw_seq ?_
              refine sw_ent (st' := ⟨[.junk, .junk, .junk, .junk, .junk, .junk, .v false [.ptr ⟨3, 5, 0⟩ 0], .junk, .junk, .junk, .v false [.ptr ⟨9, 8, 0⟩ 0], sBool false, .v false [.ptr ⟨10, 9, 0⟩ 0], sBool false, .junk, .junk, .junk, .junk, .junk, .junk, .junk, .junk, .junk, .junk, .junk, .junk, .junk, .junk, .junk, .junk, .junk, .junk, .junk, .junk, .junk, .junk, .junk, .junk, .junk, .junk, .junk, .junk, .junk, .junk, .junk, .junk, .junk, .junk, .junk, .junk, .junk, .junk, .junk, .junk, .junk, .junk, .junk, .junk, .junk, .junk, .junk, .junk, .junk, .junk, .junk, .junk, .junk, .junk, .junk, .junk, .junk, .junk, .junk, .junk, .junk, .junk, .junk, .junk, .junk, .junk, .junk, .junk, .junk, .junk], [], 10, []⟩) (ent_ok rfl ?_) ?_
              · skip
                simp only [conj, Int.toNat_natCast]
                repeat' apply And.intro
                all_goals first | exact hcut | exact hset | trivial | rfl
              refine sw_dec hP 11 [] 2 rfl (fun g13_2 => ?_) (fun g13_2 => ?_)
              · skip
                refine sw_region hP 11 [(2, true)] rfl (by kernel_rfl) (fun _ => by kernel_rfl) (by first | trivial | (simp [conj]; done) | (simp [conj] at *; (try dsimp only [Ty.den, Ty.dflt] at *); omega)) ?_
                refine sw_ret ⟨.inl rfl, _, rfl, ?_⟩
                simp [conj]
              · skip
                cases g13_2
          · skip
            have hset : (readI (drN code) (List.set (rootT (drN code) (drR code)) k (UInt8.ofNat (bitsOp .xor .u8 (((rootT (drN code) (drR code)).getD k 0).toNat : Int) (1)).toNat))).2 = false := by
              refine read_set hA hk ?_
              rw [List.getD_eq_getElem?_getD, List.getElem?_eq_getElem hk]
              exact xor_ne (by decide) (by decide)
            refine sw_region hP 8 [(3, false)] rfl (by kernel_rfl) (fun _ => by kernel_rfl) (by first | trivial | (simp [conj]; done) | (simp [conj] at *; (try dsimp only [Ty.den, Ty.dflt] at *); omega)) ?_
            refine sw_condF rfl ?_
            refine sw_skip ?_
            refine sw_seq ?_
            refine sw_region hP 9 [] rfl (by kernel_rfl) (fun _ => by kernel_rfl) ?_ ?_
            · skip
              simp only [conj, List.nil_append, List.cons_append, List.append_nil, List.append_assoc, inR_i64, true_and, and_true, Int.toNat_natCast]
              try dsimp only [Ty.den, Ty.dflt]
              repeat' apply And.intro
              all_goals first | omega | trivial | assumption | exact Int.natCast_nonneg _ | exact Int.ofNat_lt.2 hk | exact Int.ofNat_le.2 (Nat.le_of_lt hk) | exact hsh
            refine sw_seq ?_
            refine sw_region hP 10 [] rfl (by kernel_rfl) (fun _ => by kernel_rfl) ?_ ?_
            · skip
              simp only [conj, List.nil_append, List.cons_append, List.append_nil, List.append_assoc, inR_i64, true_and, and_true, Int.toNat_natCast]
              try dsimp only [Ty.den, Ty.dflt]
              repeat' apply And.intro
              all_goals first | omega | trivial | assumption | exact Int.natCast_nonneg _ | exact Int.ofNat_lt.2 hk | exact Int.ofNat_le.2 (Nat.le_of_lt hk) | exact hsh
            refine sw_seq ?_
            refine sw_ent (st' := ⟨[.junk, .junk, .junk, .junk, .junk, .junk, .v false [.ptr ⟨3, 5, 0⟩ 0], .junk, .junk, .junk, .v false [.ptr ⟨9, 8, 0⟩ 0], sBool false, .v false [.ptr ⟨10, 9, 0⟩ 0], sBool false, .junk, .junk, .junk, .junk, .junk, .junk, .junk, .junk, .junk, .junk, .junk, .junk, .junk, .junk, .junk, .junk, .junk, .junk, .junk, .junk, .junk, .junk, .junk, .junk, .junk, .junk, .junk, .junk, .junk, .junk, .junk, .junk, .junk, .junk, .junk, .junk, .junk, .junk, .junk, .junk, .junk, .junk, .junk, .junk, .junk, .junk, .junk, .junk, .junk, .junk, .junk, .junk, .junk, .junk, .junk, .junk, .junk, .junk, .junk, .junk, .junk, .junk, .junk, .junk, .junk, .junk, .junk, .junk, .junk, .junk], [], 10, []⟩) (ent_ok rfl ?_) ?_
            · skip
              simp only [conj, Int.toNat_natCast]
              repeat' apply And.intro
              all_goals first | exact hcut | exact hset | trivial | rfl
            refine sw_dec hP 11 [] 2 rfl (fun g13_2 => ?_) (fun g13_2 => ?_)
            · skip
              refine sw_region hP 11 [(2, true)] rfl (by kernel_rfl) (fun _ => by kernel_rfl) (by first | trivial | (simp [conj]; done) | (simp [conj] at *; (try dsimp only [Ty.den, Ty.dflt] at *); omega)) ?_
              refine sw_ret ⟨.inl rfl, _, rfl, ?_⟩
              simp [conj]
            · skip
              cases g13_2
end Go.Sx
