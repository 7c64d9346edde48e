import Derived.Test.YtbnmeeajooljmaaMD2
set_option linter.all false
namespace Go.Sx
open Go
set_option maxRecDepth 100000
set_option linter.unusedVariables false
set_option linter.unusedSimpArgs false

def cRead : Ctr := ⟨31, [.val true T_Disk (.all .b)], fun x => rdV x.1 = true, fun x => (.tup [(false, [.ptr ⟨1, 0, 0⟩ 0]), (false, [.kb true])], [(⟨1, 0, 0⟩, .var (drv x.1.1 (drvOf x.1) (.chp ⟨1, 1, 0⟩ 0))), (⟨1, 1, 0⟩, .ch true T_Put x.1.2.2.2.2)])⟩
theorem cRead_ok : CtrOk Proofs.Try.prog cRead := by
  have hP := (((((Prg.none ttok mtok).and cShaped_ok).and cContP_ok).and cCol_ok).and cContR_ok)
  refine ctr_of_body hP cRead (fn := Proofs.Try.f31) (rts := [.tmp 2, .tmp 3]) Proofs.Try.func31 rfl (by kernel_rfl) rfl rfl ?_
  rintro ⟨⟨(st : Int), (sl : List Str), (rg : List Str), (sp : List Bool), (wt : List Put)⟩, ⟨⟩⟩ _ hpre
  try dsimp only [Ty.den, Mode.den, mdens] at hpre
  refine ⟨rfl, ?_⟩
  replace hpre : rdV (st, sl, rg, sp, wt) = true := hpre
  obtain ⟨hsh, hwb, hsb, hrb, hgb⟩ := rd_parts hpre
  dsimp only at hwb hsb hrb
  obtain ⟨hst, h12, h2, h12b, h40⟩ := shaped_iff hsh
  dsimp only at hst h12 h2 h12b h40
  refine sw_seq ?_
  refine sw_region hP 1 [] rfl (by kernel_rfl) (fun _ => by kernel_rfl) (by first | trivial | (simp [conj]; done) | (simp [conj] at *; (try dsimp only [Ty.den, Ty.dflt] at *); omega)) ?_
  refine sw_seq ?_
  refine sw_seq ?_
  refine sw_dec hP 2 [] 3 rfl (fun g1_3 => ?_) (fun g1_3 => ?_)
  · skip
    have h : (!shapedV (st, sl, rg, sp, wt)) = true := g1_3
    rw [hsh] at h
    cases h
  · skip
    refine sw_region hP 2 [(3, false)] rfl (by kernel_rfl) (fun _ => by kernel_rfl) ?_ ?_
    · skip
      simp [conj, maxL]
      try dsimp only [Ty.den, Ty.dflt]
      try simp only [rd_eta]
      repeat' apply And.intro
      all_goals first | rfl | assumption | omega | trivial
    refine sw_cond rfl (fun c1 => ?_) (fun c1 => ?_)
    · skip
      have h : List.any wt badP = true := c1
      rw [hwb] at h
      cases h
    · skip
      refine sw_skip ?_
      refine sw_seq ?_
      refine sw_region hP 3 [] rfl (by kernel_rfl) (fun _ => by kernel_rfl) ?_ ?_
      · skip
        simp only [conj, List.nil_append, List.cons_append, List.append_nil, List.append_assoc, inR_i64, true_and, and_true, Int.toNat_natCast]
        try dsimp only [Ty.den, Ty.dflt]
        repeat' apply And.intro
        all_goals first | rfl | omega | assumption | trivial
      refine sw_seq ?_
      refine sw_seq ?_
      refine sw_region hP 4 [] rfl (by kernel_rfl) (fun _ => by kernel_rfl) (by first | trivial | (simp [conj]; done) | (simp [conj] at *; (try dsimp only [Ty.den, Ty.dflt] at *); omega)) ?_
      refine sw_block ?_
      refine sw_loop (ι := Nat) (fun i => ⟨[.junk, .v false [.ptr ⟨1, 0, 0⟩ 0], .junk, .junk, .v false [.ptr ⟨3, 16, 0⟩ 0], .junk, .junk, .junk, .junk, .junk, .junk, .junk, .junk, .junk, .junk, .junk, .junk, .junk, .junk, .junk, .junk, .junk, .junk, .junk, .junk, .junk, .junk, .junk, .junk, .junk, .junk, .junk, .junk, .junk, .v false [.ptr ⟨3, 16, 0⟩ 0], .junk, .v false [.d (.sl .str) (.all .b) sl], sInt .i64 (sl.length : Int), sInt .i64 (i : Int), .junk, .junk, .junk, .junk, .junk, .junk, .junk, .junk, .junk, .junk, .junk, .junk, .junk, .junk, .junk, .junk, .junk, .junk, .junk, .junk, .junk, .junk, .junk, .junk, .junk, .junk, .junk, .junk, .junk, .junk, .junk, .junk, .junk, .junk, .junk, .junk, .junk, .junk, .junk, .junk, .junk, .junk, .junk, .junk, .junk, .junk, .junk, .junk, .junk, .junk, .junk, .junk, .junk, .junk, .junk, .junk, .junk, .junk, .junk, .junk, .junk, .junk, .junk, .junk, .junk, .junk, .junk, .junk, .junk, .junk, .junk, .junk, .junk], [(⟨1, 0, 0⟩, .var [.d TI pF st, .d (.sl .str) (.all .b) sl, .d (.sl .str) (.all .b) rg, .d (.sl .bool) (.all .b) sp, .d (.sl T_Put) (.all .b) wt]), (⟨3, 16, 0⟩, .var (drv st (sl, rg, sp) .nilp))], 4, []⟩) (fun i => sl.length - i) (fun i => i ≤ sl.length ∧ slotsB (sl.drop i) (sp.drop i) = slotsB sl sp) 0 ⟨?_, ?_⟩ ?_
      · skip
        exact ⟨Nat.zero_le _, rfl⟩
      · refine ent_ok rfl ?_
        simp [conj, List.take_of_length_le, h12, h2, h12b]
      · rintro i ⟨hi, hgo⟩
        refine sw_seq ?_
        refine sw_region hP 5 [] rfl (by kernel_rfl) (fun _ => by kernel_rfl) (by first | trivial | (simp [conj]; done) | (simp [conj] at *; (try dsimp only [Ty.den, Ty.dflt] at *); omega)) ?_
        refine sw_seq ?_
        refine sw_cond rfl (fun c5 => ?_) (fun c5 => ?_)
        · skip
          have hlt : i < sl.length := by simpa using c5
          have hlt2 : i < sp.length := by omega
          refine sw_skip ?_
          refine sw_seq ?_
          refine sw_block ?_
          refine sw_seq ?_
          refine sw_region hP 6 [] rfl (by kernel_rfl) (fun _ => by kernel_rfl) (by first | trivial | (simp [conj]; done) | (simp [conj] at *; (try dsimp only [Ty.den, Ty.dflt] at *); omega)) ?_
          refine sw_seq ?_
          refine sw_dec hP 7 [] 2 rfl (fun g7_2 => ?_) (fun g7_2 => ?_)
          · skip
            replace g7_2 : sl[i] ≠ [] := by have h := g7_2; simp [List.getElem?_eq_getElem hlt, List.getElem?_eq_getElem hlt2] at h; exact h
            refine sw_dec hP 7 [(2, true)] 7 rfl (fun g7_7 => ?_) (fun g7_7 => ?_)
            · skip
              replace g7_7 : ¬ sl[i].length = 3 := by have h := g7_7; simp [List.getElem?_eq_getElem hlt, List.getElem?_eq_getElem hlt2] at h; exact h
              have h := slots_hit hlt hlt2 hgo (slotB_col g7_2 g7_7)
              rw [hsb] at h
              cases h
            · skip
              replace g7_7 : sl[i].length = 3 := by have h := g7_7; simp [List.getElem?_eq_getElem hlt, List.getElem?_eq_getElem hlt2] at h; exact h
              refine sw_dec hP 7 [(2, true), (7, false)] 10 rfl (fun g7_10 => ?_) (fun g7_10 => ?_)
              · skip
                replace g7_10 : sl[i] = [] := by have h := g7_10; simp [List.getElem?_eq_getElem hlt, List.getElem?_eq_getElem hlt2] at h; exact h
                exact absurd g7_10 g7_2
              · skip
                have hn : slotB sl[i] sp[i] = false := slotB_ok g7_2 g7_7
                refine sw_region hP 7 [(2, true), (7, false), (10, false)] rfl (by kernel_rfl) (fun _ => by kernel_rfl) ?_ ?_
                · skip
                  simp [conj, List.getElem?_eq_getElem hlt, List.getElem?_eq_getElem hlt2]
                  repeat' apply And.intro
                  all_goals first | assumption | omega | trivial | (simp_all; done) | (simp_all; omega)
                refine sw_condF rfl ?_
                refine sw_skip ?_
                refine sw_region hP 8 [] rfl (by kernel_rfl) (fun _ => by kernel_rfl) (by first | trivial | (simp [conj]; done) | (simp [conj] at *; (try dsimp only [Ty.den, Ty.dflt] at *); omega)) ?_
                refine ⟨i + 1, ?_, ?_, ent_ok rfl ?_⟩
                · skip
                  exact ⟨hlt, slots_next hlt hlt2 hgo hn⟩
                · skip
                  omega
                · skip
                  simp [conj]
          · skip
            replace g7_2 : sl[i] = [] := by have h := g7_2; simp [List.getElem?_eq_getElem hlt, List.getElem?_eq_getElem hlt2] at h; exact h
            refine sw_dec hP 7 [(2, false)] 10 rfl (fun g7_10 => ?_) (fun g7_10 => ?_)
            · skip
              refine sw_region hP 7 [(2, false), (10, true)] rfl (by kernel_rfl) (fun _ => by kernel_rfl) ?_ ?_
              · skip
                simp [conj, List.getElem?_eq_getElem hlt, List.getElem?_eq_getElem hlt2]
                repeat' apply And.intro
                all_goals first | assumption | omega | trivial | (simp_all; done) | (simp_all; omega)
              refine sw_cond rfl (fun c7 => ?_) (fun c7 => ?_)
              · skip
                replace c7 : sp[i] = true := by have h := c7; simp [List.getElem?_eq_getElem hlt, List.getElem?_eq_getElem hlt2] at h; exact h
                have h := slots_hit hlt hlt2 hgo (by rw [slotB_nil g7_2]; exact c7)
                rw [hsb] at h
                cases h
              · skip
                replace c7 : sp[i] = false := by have h := c7; simp [List.getElem?_eq_getElem hlt, List.getElem?_eq_getElem hlt2] at h; exact h
                have hn : slotB sl[i] sp[i] = false := by rw [slotB_nil g7_2]; exact c7
                refine sw_skip ?_
                refine sw_region hP 8 [] rfl (by kernel_rfl) (fun _ => by kernel_rfl) (by first | trivial | (simp [conj]; done) | (simp [conj] at *; (try dsimp only [Ty.den, Ty.dflt] at *); omega)) ?_
                refine ⟨i + 1, ?_, ?_, ent_ok rfl ?_⟩
                · skip
                  exact ⟨hlt, slots_next hlt hlt2 hgo hn⟩
                · skip
                  omega
                · skip
                  simp [conj]
            · skip
              replace g7_10 : ¬ sl[i] = [] := by have h := g7_10; simp [List.getElem?_eq_getElem hlt, List.getElem?_eq_getElem hlt2] at h; exact h
              exact absurd g7_2 g7_10
        · skip
          obtain rfl : i = sl.length := by simp at c5; omega
          refine sw_exit ?_
          refine sw_seq ?_
          refine sw_seq ?_
          refine sw_region hP 6 [] rfl (by kernel_rfl) (fun _ => by kernel_rfl) (by first | trivial | (simp [conj]; done) | (simp [conj] at *; (try dsimp only [Ty.den, Ty.dflt] at *); omega)) ?_
          refine sw_cond rfl (fun c10 => ?_) (fun c10 => ?_)
          · skip
            have h : List.any rg longR = true := c10
            rw [hrb] at h
            cases h
          · skip
            refine sw_skip ?_
            refine sw_seq ?_
            refine sw_seq ?_
            refine sw_dec hP 7 [] 3 rfl (fun g12_3 => ?_) (fun g12_3 => ?_)
            · skip
              replace g12_3 : st = 1 := of_decide_eq_true g12_3
              refine sw_dec hP 7 [(3, true)] 10 rfl (fun g12_10 => ?_) (fun g12_10 => ?_)
              · skip
                replace g12_10 : ¬ sl = List.replicate 12 [] := by have h := g12_10; simp [List.take_of_length_le, h12] at h; exact h
                exact absurd (gone_no hgb g12_3).1 g12_10
              · skip
                replace g12_10 : sl = List.replicate 12 [] := by have h := g12_10; simp [List.take_of_length_le, h12] at h; exact h
                refine sw_dec hP 7 [(3, true), (10, false)] 18 rfl (fun g12_18 => ?_) (fun g12_18 => ?_)
                · skip
                  replace g12_18 : ¬ rg = List.replicate 2 [] := by have h := g12_18; simp [List.take_of_length_le, h2] at h; exact h
                  exact absurd (gone_no hgb g12_3).2.1 g12_18
                · skip
                  replace g12_18 : rg = List.replicate 2 [] := by have h := g12_18; simp [List.take_of_length_le, h2] at h; exact h
                  refine sw_region hP 7 [(3, true), (10, false), (18, false)] rfl (by kernel_rfl) (fun _ => by kernel_rfl) ?_ ?_
                  · skip
                    simp [conj, List.take_of_length_le, h12, h2]
                    repeat' apply And.intro
                    all_goals first | assumption | omega | trivial | (simp_all; done) | (simp_all; omega)
                  refine sw_cond rfl (fun c12 => ?_) (fun c12 => ?_)
                  · skip
                    replace c12 : ¬ wt.length = 0 := by have h : (0 : Int) < (wt.length : Nat) := of_decide_eq_true c12; omega
                    exact absurd (gone_no hgb g12_3).2.2 c12
                  · skip
                    refine sw_skip ?_
                    refine sw_seq ?_
                    refine sw_region hP 8 [] rfl (by kernel_rfl) (fun _ => by kernel_rfl) (by first | trivial | (simp [conj]; done) | (simp [conj] at *; (try dsimp only [Ty.den, Ty.dflt] at *); omega)) ?_
                    refine sw_seq ?_
                    refine sw_seq ?_
                    refine sw_region hP 9 [] rfl (by kernel_rfl) (fun _ => by kernel_rfl) (by first | trivial | (simp [conj]; done) | (simp [conj] at *; (try dsimp only [Ty.den, Ty.dflt] at *); omega)) ?_
                    refine sw_block ?_
                    refine sw_loop (ι := Nat) (fun i => ⟨[.junk, .v false [.ptr ⟨1, 0, 0⟩ 0], .junk, .junk, .v false [.ptr ⟨3, 16, 0⟩ 0], .junk, .junk, .v false [.lnk ⟨3, 16, 0⟩ 27 ⟨0, 9, 0⟩ i 3], .junk, .junk, .junk, .junk, .junk, .junk, .junk, .junk, .junk, .junk, .junk, .junk, .junk, .junk, .junk, .junk, .junk, .junk, .junk, .junk, .junk, .junk, .junk, .junk, .junk, .junk, .v false [.ptr ⟨3, 16, 0⟩ 0], .junk, .junk, .junk, .junk, .junk, .junk, .junk, .junk, .junk, .junk, .junk, .junk, .junk, .junk, .junk, .junk, .junk, .junk, .junk, .junk, .junk, .junk, .junk, .junk, .junk, .junk, .junk, .junk, .junk, .junk, .junk, .junk, .junk, .junk, .junk, .junk, .junk, .junk, .junk, .junk, .junk, .junk, .junk, .junk, .junk, .junk, .junk, .junk, .junk, .junk, .junk, .junk, .junk, .junk, .junk, .junk, .junk, .junk, .junk, .v false [.d (.sl T_Put) (.all .b) wt], sInt .i64 (wt.length : Int), sInt .i64 (i : Int), .junk, .junk, .junk, .junk, .junk, .junk, .junk, .junk, .junk, .junk, .junk, .junk, .junk, .junk, .junk], [(⟨3, 16, 0⟩, .var (drv st (sl, rg, sp) (.chp ⟨0, 9, 0⟩ 0))), (⟨0, 9, 0⟩, .ch true T_Put (wt.take i))], 9, []⟩) (fun i => wt.length - i) (fun i => i ≤ wt.length) 0 ⟨?_, ?_⟩ ?_
                    · skip
                      exact Nat.zero_le _
                    · refine ent_ok rfl ?_
                      simp [conj, List.take_of_length_le, h12, h2, h12b]
                    · rintro i hi
                      refine sw_seq ?_
                      refine sw_region hP 10 [] rfl (by kernel_rfl) (fun _ => by kernel_rfl) (by first | trivial | (simp [conj]; done) | (simp [conj] at *; (try dsimp only [Ty.den, Ty.dflt] at *); omega)) ?_
                      refine sw_seq ?_
                      refine sw_cond rfl (fun c16 => ?_) (fun c16 => ?_)
                      · skip
                        have hlt : i < wt.length := by simpa using c16
                        refine sw_skip ?_
                        refine sw_seq ?_
                        refine sw_block ?_
                        refine sw_seq ?_
                        refine sw_region hP 11 [] rfl (by kernel_rfl) (fun _ => by kernel_rfl) (by first | trivial | (simp [conj]; done) | (simp [conj] at *; (try dsimp only [Ty.den, Ty.dflt] at *); omega)) ?_
                        refine sw_seq ?_
                        refine sw_region hP 12 [] rfl (by kernel_rfl) (fun _ => by kernel_rfl) ?_ ?_
                        · skip
                          simp [conj]
                          omega
                        refine sw_region hP 13 [] rfl (by kernel_rfl) (fun _ => by kernel_rfl) ?_ ?_
                        · skip
                          simp [conj]
                          omega
                        refine sw_region hP 14 [] rfl (by kernel_rfl) (fun _ => by kernel_rfl) (by first | trivial | (simp [conj]; done) | (simp [conj] at *; (try dsimp only [Ty.den, Ty.dflt] at *); omega)) ?_
                        refine ⟨i + 1, ?_, ?_, ent_ok rfl ?_⟩
                        · skip
                          exact hlt
                        · skip
                          omega
                        · skip
                          simp [conj]
                          exact take_next hlt
                      · skip
                        obtain rfl : i = wt.length := by simp at c16; omega
                        refine sw_exit ?_
                        refine sw_seq ?_
                        refine sw_region hP 11 [] rfl (by kernel_rfl) (fun _ => by kernel_rfl) (by first | trivial | (simp [conj]; done) | (simp [conj] at *; (try dsimp only [Ty.den, Ty.dflt] at *); omega)) ?_
                        refine sw_ret ⟨.inl rfl, _, rfl, ?_⟩
                        first | (simp [conj, drvOf]; done) | trivial
            · skip
              replace g12_3 : ¬ st = 1 := of_decide_eq_false g12_3
              refine sw_region hP 7 [(3, false)] rfl (by kernel_rfl) (fun _ => by kernel_rfl) ?_ ?_
              · skip
                simp [conj, List.take_of_length_le, h12, h2]
                repeat' apply And.intro
                all_goals first | assumption | omega | trivial | (simp_all; done) | (simp_all; omega)
              refine sw_condF rfl ?_
              refine sw_skip ?_
              refine sw_seq ?_
              refine sw_region hP 8 [] rfl (by kernel_rfl) (fun _ => by kernel_rfl) (by first | trivial | (simp [conj]; done) | (simp [conj] at *; (try dsimp only [Ty.den, Ty.dflt] at *); omega)) ?_
              refine sw_seq ?_
              refine sw_seq ?_
              refine sw_region hP 9 [] rfl (by kernel_rfl) (fun _ => by kernel_rfl) (by first | trivial | (simp [conj]; done) | (simp [conj] at *; (try dsimp only [Ty.den, Ty.dflt] at *); omega)) ?_
              refine sw_block ?_
              refine sw_loop (ι := Nat) (fun i => ⟨[.junk, .v false [.ptr ⟨1, 0, 0⟩ 0], .junk, .junk, .v false [.ptr ⟨3, 16, 0⟩ 0], .junk, .junk, .v false [.lnk ⟨3, 16, 0⟩ 27 ⟨0, 9, 0⟩ i 3], .junk, .junk, .junk, .junk, .junk, .junk, .junk, .junk, .junk, .junk, .junk, .junk, .junk, .junk, .junk, .junk, .junk, .junk, .junk, .junk, .junk, .junk, .junk, .junk, .junk, .junk, .v false [.ptr ⟨3, 16, 0⟩ 0], .junk, .junk, .junk, .junk, .junk, .junk, .junk, .junk, .junk, .junk, .junk, .junk, .junk, .junk, .junk, .junk, .junk, .junk, .junk, .junk, .junk, .junk, .junk, .junk, .junk, .junk, .junk, .junk, .junk, .junk, .junk, .junk, .junk, .junk, .junk, .junk, .junk, .junk, .junk, .junk, .junk, .junk, .junk, .junk, .junk, .junk, .junk, .junk, .junk, .junk, .junk, .junk, .junk, .junk, .junk, .junk, .junk, .junk, .junk, .v false [.d (.sl T_Put) (.all .b) wt], sInt .i64 (wt.length : Int), sInt .i64 (i : Int), .junk, .junk, .junk, .junk, .junk, .junk, .junk, .junk, .junk, .junk, .junk, .junk, .junk, .junk, .junk], [(⟨3, 16, 0⟩, .var (drv st (sl, rg, sp) (.chp ⟨0, 9, 0⟩ 0))), (⟨0, 9, 0⟩, .ch true T_Put (wt.take i))], 9, []⟩) (fun i => wt.length - i) (fun i => i ≤ wt.length) 0 ⟨?_, ?_⟩ ?_
              · skip
                exact Nat.zero_le _
              · refine ent_ok rfl ?_
                simp [conj, List.take_of_length_le, h12, h2, h12b]
              · rintro i hi
                refine sw_seq ?_
                refine sw_region hP 10 [] rfl (by kernel_rfl) (fun _ => by kernel_rfl) (by first | trivial | (simp [conj]; done) | (simp [conj] at *; (try dsimp only [Ty.den, Ty.dflt] at *); omega)) ?_
                refine sw_seq ?_
                refine sw_cond rfl (fun c16 => ?_) (fun c16 => ?_)
                · skip
                  have hlt : i < wt.length := by simpa using c16
                  refine sw_skip ?_
                  refine sw_seq ?_
                  refine sw_block ?_
                  refine sw_seq ?_
                  refine sw_region hP 11 [] rfl (by kernel_rfl) (fun _ => by kernel_rfl) (by first | trivial | (simp [conj]; done) | (simp [conj] at *; (try dsimp only [Ty.den, Ty.dflt] at *); omega)) ?_
                  refine sw_seq ?_
                  refine sw_region hP 12 [] rfl (by kernel_rfl) (fun _ => by kernel_rfl) ?_ ?_
                  · skip
                    simp [conj]
                    omega
                  refine sw_region hP 13 [] rfl (by kernel_rfl) (fun _ => by kernel_rfl) ?_ ?_
                  · skip
                    simp [conj]
                    omega
                  refine sw_region hP 14 [] rfl (by kernel_rfl) (fun _ => by kernel_rfl) (by first | trivial | (simp [conj]; done) | (simp [conj] at *; (try dsimp only [Ty.den, Ty.dflt] at *); omega)) ?_
                  refine ⟨i + 1, ?_, ?_, ent_ok rfl ?_⟩
                  · skip
                    exact hlt
                  · skip
                    omega
                  · skip
                    simp [conj]
                    exact take_next hlt
                · skip
                  obtain rfl : i = wt.length := by simp at c16; omega
                  refine sw_exit ?_
                  refine sw_seq ?_
                  refine sw_region hP 11 [] rfl (by kernel_rfl) (fun _ => by kernel_rfl) (by first | trivial | (simp [conj]; done) | (simp [conj] at *; (try dsimp only [Ty.den, Ty.dflt] at *); omega)) ?_
                  refine sw_ret ⟨.inl rfl, _, rfl, ?_⟩
                  first | (simp [conj, drvOf]; done) | trivial

def cReadB : Ctr := ⟨31, [.val true T_Disk (.all .b)], fun x => rdV x.1 = false, fun x => (.tup [(false, [.nilp]), (false, [.kb false])], [])⟩
theorem cReadB_ok : CtrOk Proofs.Try.prog cReadB := by
  have hP := (((((Prg.none ttok mtok).and cShaped_ok).and cContP_ok).and cCol_ok).and cContR_ok)
  refine ctr_of_body hP cReadB (fn := Proofs.Try.f31) (rts := [.tmp 2, .tmp 3]) Proofs.Try.func31 rfl (by kernel_rfl) rfl rfl ?_
  rintro ⟨⟨(st : Int), (sl : List Str), (rg : List Str), (sp : List Bool), (wt : List Put)⟩, ⟨⟩⟩ _ hpre
  try dsimp only [Ty.den, Mode.den, mdens] at hpre
  refine ⟨rfl, ?_⟩
  replace hpre : rdV (st, sl, rg, sp, wt) = false := hpre
  refine sw_seq ?_
  refine sw_region hP 1 [] rfl (by kernel_rfl) (fun _ => by kernel_rfl) (by first | trivial | (simp [conj]; done) | (simp [conj] at *; (try dsimp only [Ty.den, Ty.dflt] at *); omega)) ?_
  refine sw_seq ?_
  refine sw_seq ?_
  refine sw_dec hP 2 [] 3 rfl (fun g1_3 => ?_) (fun g1_3 => ?_)
  · skip
    have hns : shapedV (st, sl, rg, sp, wt) = false := by have h : (!shapedV (st, sl, rg, sp, wt)) = true := g1_3; simpa using h
    refine sw_region hP 2 [(3, true)] rfl (by kernel_rfl) (fun _ => by kernel_rfl) ?_ ?_
    · skip
      simp [conj, maxL]
      try dsimp only [Ty.den, Ty.dflt]
      try simp only [rd_eta]
      repeat' apply And.intro
      all_goals first | rfl | assumption | omega | trivial
    refine sw_condT rfl ?_
    refine sw_seq ?_
    refine sw_region hP 3 [] rfl (by kernel_rfl) (fun _ => by kernel_rfl) (by first | trivial | (simp [conj]; done) | (simp [conj] at *; (try dsimp only [Ty.den, Ty.dflt] at *); omega)) ?_
    refine sw_ret ⟨.inl rfl, _, rfl, ?_⟩
    first | (simp [conj, drvOf]; done) | trivial
  · skip
    have hsh : shapedV (st, sl, rg, sp, wt) = true := by simpa using g1_3
    obtain ⟨hst, h12, h2, h12b, h40⟩ := shaped_iff hsh
    dsimp only at hst h12 h2 h12b h40
    refine sw_region hP 2 [(3, false)] rfl (by kernel_rfl) (fun _ => by kernel_rfl) ?_ ?_
    · skip
      simp [conj, maxL]
      try dsimp only [Ty.den, Ty.dflt]
      try simp only [rd_eta]
      repeat' apply And.intro
      all_goals first | rfl | assumption | omega | trivial
    refine sw_cond rfl (fun c1 => ?_) (fun c1 => ?_)
    · skip
      refine sw_seq ?_
      refine sw_region hP 3 [] rfl (by kernel_rfl) (fun _ => by kernel_rfl) (by first | trivial | (simp [conj]; done) | (simp [conj] at *; (try dsimp only [Ty.den, Ty.dflt] at *); omega)) ?_
      refine sw_ret ⟨.inl rfl, _, rfl, ?_⟩
      first | (simp [conj, drvOf]; done) | trivial
    · skip
      have hwb : List.any wt badP = false := c1
      refine sw_skip ?_
      refine sw_seq ?_
      refine sw_region hP 3 [] rfl (by kernel_rfl) (fun _ => by kernel_rfl) ?_ ?_
      · skip
        simp only [conj, List.nil_append, List.cons_append, List.append_nil, List.append_assoc, inR_i64, true_and, and_true, Int.toNat_natCast]
        try dsimp only [Ty.den, Ty.dflt]
        repeat' apply And.intro
        all_goals first | rfl | omega | assumption | trivial
      refine sw_seq ?_
      refine sw_seq ?_
      refine sw_region hP 4 [] rfl (by kernel_rfl) (fun _ => by kernel_rfl) (by first | trivial | (simp [conj]; done) | (simp [conj] at *; (try dsimp only [Ty.den, Ty.dflt] at *); omega)) ?_
      refine sw_block ?_
      refine sw_loop (ι := Nat) (fun i => ⟨[.junk, .v false [.ptr ⟨1, 0, 0⟩ 0], .junk, .junk, .v false [.ptr ⟨3, 16, 0⟩ 0], .junk, .junk, .junk, .junk, .junk, .junk, .junk, .junk, .junk, .junk, .junk, .junk, .junk, .junk, .junk, .junk, .junk, .junk, .junk, .junk, .junk, .junk, .junk, .junk, .junk, .junk, .junk, .junk, .junk, .v false [.ptr ⟨3, 16, 0⟩ 0], .junk, .v false [.d (.sl .str) (.all .b) sl], sInt .i64 (sl.length : Int), sInt .i64 (i : Int), .junk, .junk, .junk, .junk, .junk, .junk, .junk, .junk, .junk, .junk, .junk, .junk, .junk, .junk, .junk, .junk, .junk, .junk, .junk, .junk, .junk, .junk, .junk, .junk, .junk, .junk, .junk, .junk, .junk, .junk, .junk, .junk, .junk, .junk, .junk, .junk, .junk, .junk, .junk, .junk, .junk, .junk, .junk, .junk, .junk, .junk, .junk, .junk, .junk, .junk, .junk, .junk, .junk, .junk, .junk, .junk, .junk, .junk, .junk, .junk, .junk, .junk, .junk, .junk, .junk, .junk, .junk, .junk, .junk, .junk, .junk, .junk, .junk], [(⟨1, 0, 0⟩, .var [.d TI pF st, .d (.sl .str) (.all .b) sl, .d (.sl .str) (.all .b) rg, .d (.sl .bool) (.all .b) sp, .d (.sl T_Put) (.all .b) wt]), (⟨3, 16, 0⟩, .var (drv st (sl, rg, sp) .nilp))], 4, []⟩) (fun i => sl.length - i) (fun i => i ≤ sl.length ∧ slotsB (sl.drop i) (sp.drop i) = slotsB sl sp) 0 ⟨?_, ?_⟩ ?_
      · skip
        exact ⟨Nat.zero_le _, rfl⟩
      · refine ent_ok rfl ?_
        simp [conj, List.take_of_length_le, h12, h2, h12b]
      · rintro i ⟨hi, hgo⟩
        refine sw_seq ?_
        refine sw_region hP 5 [] rfl (by kernel_rfl) (fun _ => by kernel_rfl) (by first | trivial | (simp [conj]; done) | (simp [conj] at *; (try dsimp only [Ty.den, Ty.dflt] at *); omega)) ?_
        refine sw_seq ?_
        refine sw_cond rfl (fun c5 => ?_) (fun c5 => ?_)
        · skip
          have hlt : i < sl.length := by simpa using c5
          have hlt2 : i < sp.length := by omega
          refine sw_skip ?_
          refine sw_seq ?_
          refine sw_block ?_
          refine sw_seq ?_
          refine sw_region hP 6 [] rfl (by kernel_rfl) (fun _ => by kernel_rfl) (by first | trivial | (simp [conj]; done) | (simp [conj] at *; (try dsimp only [Ty.den, Ty.dflt] at *); omega)) ?_
          refine sw_seq ?_
          refine sw_dec hP 7 [] 2 rfl (fun g7_2 => ?_) (fun g7_2 => ?_)
          · skip
            replace g7_2 : sl[i] ≠ [] := by have h := g7_2; simp [List.getElem?_eq_getElem hlt, List.getElem?_eq_getElem hlt2] at h; exact h
            refine sw_dec hP 7 [(2, true)] 7 rfl (fun g7_7 => ?_) (fun g7_7 => ?_)
            · skip
              replace g7_7 : ¬ sl[i].length = 3 := by have h := g7_7; simp [List.getElem?_eq_getElem hlt, List.getElem?_eq_getElem hlt2] at h; exact h
              refine sw_region hP 7 [(2, true), (7, true)] rfl (by kernel_rfl) (fun _ => by kernel_rfl) ?_ ?_
              · skip
                simp [conj, List.getElem?_eq_getElem hlt, List.getElem?_eq_getElem hlt2]
                repeat' apply And.intro
                all_goals first | assumption | omega | trivial | (simp_all; done) | (simp_all; omega)
              refine sw_condT rfl ?_
              refine sw_seq ?_
              refine sw_region hP 8 [] rfl (by kernel_rfl) (fun _ => by kernel_rfl) (by first | trivial | (simp [conj]; done) | (simp [conj] at *; (try dsimp only [Ty.den, Ty.dflt] at *); omega)) ?_
              refine sw_ret ⟨.inl rfl, _, rfl, ?_⟩
              first | (simp [conj, drvOf]; done) | trivial
            · skip
              replace g7_7 : sl[i].length = 3 := by have h := g7_7; simp [List.getElem?_eq_getElem hlt, List.getElem?_eq_getElem hlt2] at h; exact h
              refine sw_dec hP 7 [(2, true), (7, false)] 10 rfl (fun g7_10 => ?_) (fun g7_10 => ?_)
              · skip
                replace g7_10 : sl[i] = [] := by have h := g7_10; simp [List.getElem?_eq_getElem hlt, List.getElem?_eq_getElem hlt2] at h; exact h
                exact absurd g7_10 g7_2
              · skip
                have hn : slotB sl[i] sp[i] = false := slotB_ok g7_2 g7_7
                refine sw_region hP 7 [(2, true), (7, false), (10, false)] rfl (by kernel_rfl) (fun _ => by kernel_rfl) ?_ ?_
                · skip
                  simp [conj, List.getElem?_eq_getElem hlt, List.getElem?_eq_getElem hlt2]
                  repeat' apply And.intro
                  all_goals first | assumption | omega | trivial | (simp_all; done) | (simp_all; omega)
                refine sw_condF rfl ?_
                refine sw_skip ?_
                refine sw_region hP 8 [] rfl (by kernel_rfl) (fun _ => by kernel_rfl) (by first | trivial | (simp [conj]; done) | (simp [conj] at *; (try dsimp only [Ty.den, Ty.dflt] at *); omega)) ?_
                refine ⟨i + 1, ?_, ?_, ent_ok rfl ?_⟩
                · skip
                  exact ⟨hlt, slots_next hlt hlt2 hgo hn⟩
                · skip
                  omega
                · skip
                  simp [conj]
          · skip
            replace g7_2 : sl[i] = [] := by have h := g7_2; simp [List.getElem?_eq_getElem hlt, List.getElem?_eq_getElem hlt2] at h; exact h
            refine sw_dec hP 7 [(2, false)] 10 rfl (fun g7_10 => ?_) (fun g7_10 => ?_)
            · skip
              refine sw_region hP 7 [(2, false), (10, true)] rfl (by kernel_rfl) (fun _ => by kernel_rfl) ?_ ?_
              · skip
                simp [conj, List.getElem?_eq_getElem hlt, List.getElem?_eq_getElem hlt2]
                repeat' apply And.intro
                all_goals first | assumption | omega | trivial | (simp_all; done) | (simp_all; omega)
              refine sw_cond rfl (fun c7 => ?_) (fun c7 => ?_)
              · skip
                refine sw_seq ?_
                refine sw_region hP 8 [] rfl (by kernel_rfl) (fun _ => by kernel_rfl) (by first | trivial | (simp [conj]; done) | (simp [conj] at *; (try dsimp only [Ty.den, Ty.dflt] at *); omega)) ?_
                refine sw_ret ⟨.inl rfl, _, rfl, ?_⟩
                first | (simp [conj, drvOf]; done) | trivial
              · skip
                replace c7 : sp[i] = false := by have h := c7; simp [List.getElem?_eq_getElem hlt, List.getElem?_eq_getElem hlt2] at h; exact h
                have hn : slotB sl[i] sp[i] = false := by rw [slotB_nil g7_2]; exact c7
                refine sw_skip ?_
                refine sw_region hP 8 [] rfl (by kernel_rfl) (fun _ => by kernel_rfl) (by first | trivial | (simp [conj]; done) | (simp [conj] at *; (try dsimp only [Ty.den, Ty.dflt] at *); omega)) ?_
                refine ⟨i + 1, ?_, ?_, ent_ok rfl ?_⟩
                · skip
                  exact ⟨hlt, slots_next hlt hlt2 hgo hn⟩
                · skip
                  omega
                · skip
                  simp [conj]
            · skip
              replace g7_10 : ¬ sl[i] = [] := by have h := g7_10; simp [List.getElem?_eq_getElem hlt, List.getElem?_eq_getElem hlt2] at h; exact h
              exact absurd g7_2 g7_10
        · skip
          obtain rfl : i = sl.length := by simp at c5; omega
          have hsb : slotsB sl sp = false := slots_end hgo
          refine sw_exit ?_
          refine sw_seq ?_
          refine sw_seq ?_
          refine sw_region hP 6 [] rfl (by kernel_rfl) (fun _ => by kernel_rfl) (by first | trivial | (simp [conj]; done) | (simp [conj] at *; (try dsimp only [Ty.den, Ty.dflt] at *); omega)) ?_
          refine sw_cond rfl (fun c10 => ?_) (fun c10 => ?_)
          · skip
            refine sw_seq ?_
            refine sw_region hP 7 [] rfl (by kernel_rfl) (fun _ => by kernel_rfl) (by first | trivial | (simp [conj]; done) | (simp [conj] at *; (try dsimp only [Ty.den, Ty.dflt] at *); omega)) ?_
            refine sw_ret ⟨.inl rfl, _, rfl, ?_⟩
            first | (simp [conj, drvOf]; done) | trivial
          · skip
            have hrb : List.any rg longR = false := c10
            refine sw_skip ?_
            refine sw_seq ?_
            refine sw_seq ?_
            refine sw_dec hP 7 [] 3 rfl (fun g12_3 => ?_) (fun g12_3 => ?_)
            · skip
              replace g12_3 : st = 1 := of_decide_eq_true g12_3
              refine sw_dec hP 7 [(3, true)] 10 rfl (fun g12_10 => ?_) (fun g12_10 => ?_)
              · skip
                refine sw_region hP 7 [(3, true), (10, true)] rfl (by kernel_rfl) (fun _ => by kernel_rfl) ?_ ?_
                · skip
                  simp [conj, List.take_of_length_le, h12, h2]
                  repeat' apply And.intro
                  all_goals first | assumption | omega | trivial | (simp_all; done) | (simp_all; omega)
                refine sw_condT rfl ?_
                refine sw_seq ?_
                refine sw_region hP 8 [] rfl (by kernel_rfl) (fun _ => by kernel_rfl) (by first | trivial | (simp [conj]; done) | (simp [conj] at *; (try dsimp only [Ty.den, Ty.dflt] at *); omega)) ?_
                refine sw_ret ⟨.inl rfl, _, rfl, ?_⟩
                first | (simp [conj, drvOf]; done) | trivial
              · skip
                replace g12_10 : sl = List.replicate 12 [] := by have h := g12_10; simp [List.take_of_length_le, h12] at h; exact h
                refine sw_dec hP 7 [(3, true), (10, false)] 18 rfl (fun g12_18 => ?_) (fun g12_18 => ?_)
                · skip
                  refine sw_region hP 7 [(3, true), (10, false), (18, true)] rfl (by kernel_rfl) (fun _ => by kernel_rfl) ?_ ?_
                  · skip
                    simp [conj, List.take_of_length_le, h12, h2]
                    repeat' apply And.intro
                    all_goals first | assumption | omega | trivial | (simp_all; done) | (simp_all; omega)
                  refine sw_condT rfl ?_
                  refine sw_seq ?_
                  refine sw_region hP 8 [] rfl (by kernel_rfl) (fun _ => by kernel_rfl) (by first | trivial | (simp [conj]; done) | (simp [conj] at *; (try dsimp only [Ty.den, Ty.dflt] at *); omega)) ?_
                  refine sw_ret ⟨.inl rfl, _, rfl, ?_⟩
                  first | (simp [conj, drvOf]; done) | trivial
                · skip
                  replace g12_18 : rg = List.replicate 2 [] := by have h := g12_18; simp [List.take_of_length_le, h2] at h; exact h
                  refine sw_region hP 7 [(3, true), (10, false), (18, false)] rfl (by kernel_rfl) (fun _ => by kernel_rfl) ?_ ?_
                  · skip
                    simp [conj, List.take_of_length_le, h12, h2]
                    repeat' apply And.intro
                    all_goals first | assumption | omega | trivial | (simp_all; done) | (simp_all; omega)
                  refine sw_cond rfl (fun c12 => ?_) (fun c12 => ?_)
                  · skip
                    refine sw_seq ?_
                    refine sw_region hP 8 [] rfl (by kernel_rfl) (fun _ => by kernel_rfl) (by first | trivial | (simp [conj]; done) | (simp [conj] at *; (try dsimp only [Ty.den, Ty.dflt] at *); omega)) ?_
                    refine sw_ret ⟨.inl rfl, _, rfl, ?_⟩
                    first | (simp [conj, drvOf]; done) | trivial
                  · skip
                    replace c12 : ¬ 0 < wt.length := by have h : ¬ (0 : Int) < (wt.length : Nat) := of_decide_eq_false c12; omega
                    have h : rdV (st, sl, rg, sp, wt) = true := rd_mk hsh hwb hsb hrb (gone_yes g12_10 g12_18 (by show wt.length = 0; omega))
                    rw [hpre] at h
                    cases h
            · skip
              replace g12_3 : ¬ st = 1 := of_decide_eq_false g12_3
              have h : rdV (st, sl, rg, sp, wt) = true := rd_mk hsh hwb hsb hrb (gone_live g12_3)
              rw [hpre] at h
              cases h
end Go.Sx
