import Derived.Test.YtbnmeeajooljmaaMD12
set_option linter.all false
namespace Go.Sx
open Go
set_option maxRecDepth 100000
set_option linter.unusedVariables false
set_option linter.unusedSimpArgs false
set_option maxHeartbeats 4000000

def cDrC : Ctr := ⟨6, [.val false TB pF], fun _ => True, fun x => (.tup [(true, [.d TI pF (drawD (rd0 x.1)).1, .own ⟨1, 0, 0⟩, .own ⟨1, 1, 0⟩, .own ⟨1, 2, 0⟩, .own ⟨1, 3, 0⟩]), (false, [.d TI pF (keepG (drawR (rd0 x.1)))])], [(⟨1, 0, 0⟩, .sl .str (.all .w) (drawD (rd0 x.1)).2.1), (⟨1, 1, 0⟩, .sl .str (.all .w) (drawD (rd0 x.1)).2.2.1), (⟨1, 2, 0⟩, .sl .bool (.all .w) (drawD (rd0 x.1)).2.2.2.1), (⟨1, 3, 0⟩, .sl T_Put (.all .w) (drawD (rd0 x.1)).2.2.2.2)])⟩
theorem cDrC_ok : CtrOk Proofs.Try.prog cDrC := by
  have hP := ((((Prg.none ttok mtok).and cOpen_ok).and cPick_ok).and cDraw_ok)
  refine ctr_of_body hP cDrC (fn := Proofs.Try.f6) (rts := [.cell 2 27, .tmp 3]) Proofs.Try.func6 rfl (by kernel_rfl) rfl rfl ?_
  rintro ⟨(code : List Int), ⟨⟩⟩ ⟨hdc, _⟩ _
  try dsimp only [Ty.den, Mode.den, mdens] at _
  refine ⟨rfl, ?_⟩
  have h0 : ROk (rd0 code) 3000 := rd0_ok hdc
  have h1 := drawR_rd h0
  have h2 : ROk (nx (drawR (rd0 code))) 99 := h1.nx (by omega)
  have h3 : ROk (nx (nx (drawR (rd0 code)))) 98 := h2.nx (by omega)
  have hb1 := pk_bd h1 (by omega) (n := 256) (by omega)
  have hb2 := pk_bd h2 (by omega) (n := 3) (by omega)
  have hb3 := pk_bd h3 (by omega) (n := 16) (by omega)
  have hq1 : 0 ≤ (pk (nx (nx (drawR (rd0 code)))) 16).tdiv 15 := Int.tdiv_nonneg hb3.1 (by decide)
  have hq2 : (pk (nx (nx (drawR (rd0 code)))) 16).tdiv 15 ≤ pk (nx (nx (drawR (rd0 code)))) 16 := Int.tdiv_le_self _ hb3.1
  have hm1 : 0 ≤ pk (drawR (rd0 code)) 256 * (1 + pk (nx (drawR (rd0 code))) 3) := Int.mul_nonneg hb1.1 (by omega)
  have hm2 : pk (drawR (rd0 code)) 256 * (1 + pk (nx (drawR (rd0 code))) 3) ≤ 255 * 3 := Int.mul_le_mul (by omega) (by omega) (by omega) (by omega)
  refine sw_seq ?_
  refine sw_region hP 1 [] rfl (by kernel_rfl) (fun _ => by kernel_rfl) (by first | trivial | (simp [conj]; done) | (simp [conj] at *; (try dsimp only [Ty.den, Ty.dflt] at *); omega)) ?_
  refine sw_seq ?_
  refine sw_region hP 2 [] rfl (by kernel_rfl) (fun _ => by kernel_rfl) (by first | trivial | (simp [conj]; done) | (simp [conj] at *; (try dsimp only [Ty.den, Ty.dflt] at *); omega)) ?_
  refine sw_seq ?_
  refine sw_region hP 3 [] rfl (by kernel_rfl) (fun _ => by kernel_rfl) ?_ ?_
  · skip
    simp only [conj, List.nil_append, List.cons_append, List.append_nil, List.append_assoc, inR_i64, true_and, and_true, Int.toNat_natCast]
    try dsimp only [Ty.den, Ty.dflt]
    repeat' apply And.intro
    all_goals first | exact h0 | exact h1.le (m' := 1) (by omega) | exact h2.le (m' := 1) (by omega) | exact h3.le (m' := 1) (by omega) | decide  | (show -9223372036854775808 ≤ 1 + pk (nx (drawR (rd0 code))) 3; omega) | (show 1 + pk (nx (drawR (rd0 code))) 3 ≤ 9223372036854775807; omega) | (show -9223372036854775808 ≤ pk (drawR (rd0 code)) 256 * (1 + pk (nx (drawR (rd0 code))) 3); omega) | (show pk (drawR (rd0 code)) 256 * (1 + pk (nx (drawR (rd0 code))) 3) ≤ 9223372036854775807; omega) | (show -9223372036854775808 ≤ (pk (nx (nx (drawR (rd0 code)))) 16).tdiv 15; omega) | (show (pk (nx (nx (drawR (rd0 code)))) 16).tdiv 15 ≤ 9223372036854775807; omega) | (show -9223372036854775808 ≤ (pk (nx (nx (drawR (rd0 code)))) 16).tdiv 15 * 300; omega) | (show (pk (nx (nx (drawR (rd0 code)))) 16).tdiv 15 * 300 ≤ 9223372036854775807; omega) | (show -9223372036854775808 ≤ pk (drawR (rd0 code)) 256 * (1 + pk (nx (drawR (rd0 code))) 3) - (pk (nx (nx (drawR (rd0 code)))) 16).tdiv 15 * 300; omega) | (show pk (drawR (rd0 code)) 256 * (1 + pk (nx (drawR (rd0 code))) 3) - (pk (nx (nx (drawR (rd0 code)))) 16).tdiv 15 * 300 ≤ 9223372036854775807; omega)
  refine sw_ret ⟨.inl rfl, _, rfl, ?_⟩
  simp [conj]
  repeat' apply And.intro
  all_goals rfl

def cLCrash : Ctr := ⟨3, [.val false TB pF], fun _ => True, fun x => (sBool true, [])⟩
theorem cLCrash_ok : CtrOk Proofs.Try.prog cLCrash := by
  have hP := ((((((((Prg.none ttok mtok).and cTexts_ok).and cLDisk_ok).and cDOk_ok).and cDCrash_ok).and cDFlush_ok).and cSCrash_ok).and cDrC_ok)
  refine ctr_of_body hP cLCrash (fn := Proofs.Try.f3) (rts := [.tmp 2]) Proofs.Try.func3 rfl (by kernel_rfl) rfl rfl ?_
  rintro ⟨(code : List Int), ⟨⟩⟩ ⟨hdc, _⟩ _
  try dsimp only [Ty.den, Mode.den, mdens] at _
  refine ⟨rfl, ?_⟩
  have hml : code.length ≤ 140737488355328 := hdc.1
  refine sw_seq ?_
  refine sw_region hP 1 [] rfl (by kernel_rfl) (fun _ => by kernel_rfl) (by first | trivial | (simp [conj]; done) | (simp [conj] at *; (try dsimp only [Ty.den, Ty.dflt] at *); omega)) ?_
  refine sw_seq ?_
  refine sw_seq ?_
  refine sw_region hP 2 [] rfl (by kernel_rfl) (fun _ => by kernel_rfl) (by first | trivial | (simp [conj]; done) | (simp [conj] at *; (try dsimp only [Ty.den, Ty.dflt] at *); omega)) ?_
  refine sw_cond rfl (fun c1 => ?_) (fun c1 => ?_)
  · skip
    refine sw_seq ?_
    refine sw_region hP 3 [] rfl (by kernel_rfl) (fun _ => by kernel_rfl) (by first | trivial | (simp [conj]; done) | (simp [conj] at *; (try dsimp only [Ty.den, Ty.dflt] at *); omega)) ?_
    refine sw_ret ⟨.inl rfl, _, rfl, ?_⟩
    simp [conj]
  · skip
    refine sw_skip ?_
    refine sw_seq ?_
    refine sw_region hP 3 [] rfl (by kernel_rfl) (fun _ => by kernel_rfl) (by first | trivial | (simp [conj]; done) | (simp [conj] at *; (try dsimp only [Ty.den, Ty.dflt] at *); omega)) ?_
    refine sw_seq ?_
    refine sw_region hP 4 [] rfl (by kernel_rfl) (fun _ => by kernel_rfl) (by first | trivial | (simp [conj]; done) | (simp [conj] at *; (try dsimp only [Ty.den, Ty.dflt] at *); omega)) ?_
    refine sw_seq ?_
    refine sw_seq ?_
    refine sw_dec hP 5 [] 6 rfl (fun g5_6 => ?_) (fun g5_6 => ?_)
    · skip
      have h : (!eqDV (crashV (drawD (rd0 code)) (keepG (drawR (rd0 code)))) (crashV (drawD (rd0 code)) (keepG (drawR (rd0 code))))) = true := g5_6
      rw [eqDV_self] at h
      cases h
    · skip
      refine sw_region hP 5 [(6, false)] rfl (by kernel_rfl) (fun _ => by kernel_rfl) (by first | trivial | (simp [conj]; done) | (simp [conj] at *; (try dsimp only [Ty.den, Ty.dflt] at *); omega)) ?_
      refine sw_cond rfl (fun c5 => ?_) (fun c5 => ?_)
      · skip
        refine sw_seq ?_
        refine sw_region hP 6 [] rfl (by kernel_rfl) (fun _ => by kernel_rfl) (by first | trivial | (simp [conj]; done) | (simp [conj] at *; (try dsimp only [Ty.den, Ty.dflt] at *); omega)) ?_
        refine sw_ret ⟨.inl rfl, _, rfl, ?_⟩
        simp [conj, eqDV_self]
      · skip
        have hz : ¬ (crashV (drawD (rd0 code)) (keepG (drawR (rd0 code)))).2.1.length = 0 := by have h := c5; simpa using h
        obtain ⟨hrd, hk0⟩ := crash_len hz
        obtain ⟨hw1, hw2, hw3⟩ := crash_rd hrd hk0
        obtain ⟨hsh, hwb, hsb, hrb, hgb⟩ := rd_parts hrd
        obtain ⟨hst, h12, h2b, h12b, h40⟩ := shaped_iff hsh
        refine sw_skip ?_
        refine sw_seq ?_
        refine sw_seq ?_
        refine sw_region hP 6 [] rfl (by kernel_rfl) (fun _ => by kernel_rfl) (by first | trivial | (simp [conj]; done) | (simp [conj] at *; (try dsimp only [Ty.den, Ty.dflt] at *); omega)) ?_
        refine sw_block ?_
        refine sw_loop (ι := Nat) (fun n => ⟨[.junk, .junk, .junk, .v false [.ptr ⟨0, 8, 0⟩ 0], sInt .i64 (keepG (drawR (rd0 code))), .v false [.ptr ⟨1, 8, 0⟩ 0], sInt .i64 (n : Int), .junk, .junk, .junk, .junk, .junk, .junk, .junk, .junk, .junk, .junk, .junk, .junk, .junk, .junk, .junk, .junk, .junk, .junk, .junk, .junk, .junk, .junk, .junk, .junk, .junk, .junk, .junk, .junk, .junk, .junk, .junk, .junk, .junk, .junk, .junk, .junk, .junk, .junk, .junk, .junk, .junk, .junk, .junk, .junk, .junk, .junk, .junk, .junk, .junk, .junk, .junk, .junk, .junk, .junk, .junk, .junk, .junk, .junk, .junk, .junk, .junk, .junk, .junk, .junk, .junk, .junk, .junk, .junk, .junk, .junk, .junk, .junk, .junk, .junk, .junk, .junk, .junk, .junk, .junk, .junk, .junk, .junk, .junk, .junk, .junk, .junk, .junk, .junk, .junk, .junk, .junk, .junk, .junk, .junk, .junk, .junk, .junk, .junk, .junk, .junk, .junk, .junk, .junk, .junk, .junk, .junk, .junk, .junk, .junk, .junk, .junk, .junk, .junk, .junk, .junk, .junk, .junk, .junk, .junk, .junk, .junk, .junk], [(⟨0, 8, 0⟩, .var [.d TI pF ((drawD (rd0 code))).1, .own ⟨0, 9, 0⟩, .own ⟨0, 9, 64⟩, .own ⟨0, 9, 128⟩, .own ⟨0, 9, 192⟩]), (⟨0, 9, 0⟩, .sl .str (.all .w) ((drawD (rd0 code))).2.1), (⟨0, 9, 64⟩, .sl .str (.all .w) ((drawD (rd0 code))).2.2.1), (⟨0, 9, 128⟩, .sl .bool (.all .w) ((drawD (rd0 code))).2.2.2.1), (⟨0, 9, 192⟩, .sl T_Put (.all .w) ((drawD (rd0 code))).2.2.2.2), (⟨1, 8, 0⟩, .var [.d TI pF ((crashV (drawD (rd0 code)) (keepG (drawR (rd0 code))))).1, .own ⟨1, 9, 0⟩, .own ⟨1, 9, 64⟩, .own ⟨1, 9, 128⟩, .own ⟨1, 9, 192⟩]), (⟨1, 9, 0⟩, .sl .str (.all .w) ((crashV (drawD (rd0 code)) (keepG (drawR (rd0 code))))).2.1), (⟨1, 9, 64⟩, .sl .str (.all .w) ((crashV (drawD (rd0 code)) (keepG (drawR (rd0 code))))).2.2.1), (⟨1, 9, 128⟩, .sl .bool (.all .w) ((crashV (drawD (rd0 code)) (keepG (drawR (rd0 code))))).2.2.2.1), (⟨1, 9, 192⟩, .sl T_Put (.all .w) ((crashV (drawD (rd0 code)) (keepG (drawR (rd0 code))))).2.2.2.2)], 6, []⟩) (fun n => 12 - n) (fun n => n ≤ 12) 0 ⟨?_, ?_⟩ ?_
        · skip
          exact Nat.zero_le _
        · refine ent_ok rfl ?_
          simp [conj]
        · rintro n hn
          refine sw_seq ?_
          refine sw_seq ?_
          refine sw_region hP 7 [] rfl (by kernel_rfl) (fun _ => by kernel_rfl) (by first | trivial | (simp [conj]; done) | (simp [conj] at *; (try dsimp only [Ty.den, Ty.dflt] at *); omega)) ?_
          refine sw_cond rfl (fun c8 => ?_) (fun c8 => ?_)
          · skip
            have hlt : n < 12 := by have h : ((n : Nat) : Int) < 12 := of_decide_eq_true c8; omega
            refine sw_skip ?_
            refine sw_seq ?_
            refine sw_block ?_
            refine sw_seq ?_
            refine sw_region hP 8 [] rfl (by kernel_rfl) (fun _ => by kernel_rfl) ?_ ?_
            · skip
              simp only [conj, List.nil_append, List.cons_append, List.append_nil, List.append_assoc, inR_i64, true_and, and_true, Int.toNat_natCast]
              try dsimp only [Ty.den, Ty.dflt]
              repeat' apply And.intro
              all_goals first | (show ((n : Nat) : Int) < (((crashV (drawD (rd0 code)) (keepG (drawR (rd0 code)))).2.1.length : Nat) : Int); omega) | (show n < (crashV (drawD (rd0 code)) (keepG (drawR (rd0 code)))).2.1.length; omega) | (show ((n : Nat) : Int) < (((drawD (rd0 code)).2.1.length : Nat) : Int); omega) | (show n < (drawD (rd0 code)).2.1.length; omega) | (show ((j : Nat) : Int) < (((drawD (rd0 code)).2.2.2.2.length : Nat) : Int); omega) | (show j < (drawD (rd0 code)).2.2.2.2.length; omega) | (show (0 : Int) ≤ ((n : Nat) : Int); omega) | (show (0 : Int) ≤ ((j : Nat) : Int); omega) | exact g14_1 | exact g14_9 | exact g14_19
            refine sw_seq ?_
            refine sw_seq ?_
            refine sw_region hP 9 [] rfl (by kernel_rfl) (fun _ => by kernel_rfl) (by first | trivial | (simp [conj]; done) | (simp [conj] at *; (try dsimp only [Ty.den, Ty.dflt] at *); omega)) ?_
            refine sw_block ?_
            refine sw_loop (ι := Nat) (fun j => ⟨[.junk, .junk, .junk, .v false [.ptr ⟨0, 8, 0⟩ 0], sInt .i64 (keepG (drawR (rd0 code))), .v false [.ptr ⟨1, 8, 0⟩ 0], sInt .i64 (n : Int), sBool (decide ((crashV (drawD (rd0 code)) (keepG (drawR (rd0 code)))).2.1.getD n [] = (drawD (rd0 code)).2.1.getD n []) || ((drawD (rd0 code)).2.2.2.2.take j).any (hasP n ((crashV (drawD (rd0 code)) (keepG (drawR (rd0 code)))).2.1.getD n []))), sInt .i64 (j : Int), .junk, .junk, .junk, .junk, .junk, .junk, .junk, .junk, .junk, .junk, .junk, .junk, .junk, .junk, .junk, .junk, .junk, .junk, .junk, .junk, .junk, .junk, .junk, .junk, .junk, .junk, .junk, .junk, .junk, .junk, .junk, .junk, .junk, .junk, .junk, .junk, .junk, .junk, .junk, .junk, .junk, .junk, .junk, .junk, .junk, .junk, .junk, .junk, .junk, .junk, .junk, .junk, .junk, .junk, .junk, .junk, .junk, .junk, .junk, .junk, .junk, .junk, .junk, .junk, .junk, .junk, .junk, .junk, .junk, .junk, .junk, .junk, .junk, .junk, .junk, .junk, .junk, .junk, .junk, .junk, .junk, .junk, .junk, .junk, .junk, .junk, .junk, .junk, .junk, .junk, .junk, .junk, .junk, .junk, .junk, .junk, .junk, .junk, .junk, .junk, .junk, .junk, .junk, .junk, .junk, .junk, .junk, .junk, .junk, .junk, .junk, .junk, .junk, .junk, .junk, .junk, .junk, .junk, .junk, .junk], [(⟨0, 8, 0⟩, .var [.d TI pF ((drawD (rd0 code))).1, .own ⟨0, 9, 0⟩, .own ⟨0, 9, 64⟩, .own ⟨0, 9, 128⟩, .own ⟨0, 9, 192⟩]), (⟨0, 9, 0⟩, .sl .str (.all .w) ((drawD (rd0 code))).2.1), (⟨0, 9, 64⟩, .sl .str (.all .w) ((drawD (rd0 code))).2.2.1), (⟨0, 9, 128⟩, .sl .bool (.all .w) ((drawD (rd0 code))).2.2.2.1), (⟨0, 9, 192⟩, .sl T_Put (.all .w) ((drawD (rd0 code))).2.2.2.2), (⟨1, 8, 0⟩, .var [.d TI pF ((crashV (drawD (rd0 code)) (keepG (drawR (rd0 code))))).1, .own ⟨1, 9, 0⟩, .own ⟨1, 9, 64⟩, .own ⟨1, 9, 128⟩, .own ⟨1, 9, 192⟩]), (⟨1, 9, 0⟩, .sl .str (.all .w) ((crashV (drawD (rd0 code)) (keepG (drawR (rd0 code))))).2.1), (⟨1, 9, 64⟩, .sl .str (.all .w) ((crashV (drawD (rd0 code)) (keepG (drawR (rd0 code))))).2.2.1), (⟨1, 9, 128⟩, .sl .bool (.all .w) ((crashV (drawD (rd0 code)) (keepG (drawR (rd0 code))))).2.2.2.1), (⟨1, 9, 192⟩, .sl T_Put (.all .w) ((crashV (drawD (rd0 code)) (keepG (drawR (rd0 code))))).2.2.2.2)], 9, []⟩) (fun j => (drawD (rd0 code)).2.2.2.2.length - j) (fun j => j ≤ (drawD (rd0 code)).2.2.2.2.length) 0 ⟨?_, ?_⟩ ?_
            · skip
              exact Nat.zero_le _
            · refine ent_ok rfl ?_
              simp [conj]
              exact Iff.rfl
            · rintro j hj
              refine sw_seq ?_
              refine sw_seq ?_
              refine sw_region hP 10 [] rfl (by kernel_rfl) (fun _ => by kernel_rfl) (by first | trivial | (simp [conj]; done) | (simp [conj] at *; (try dsimp only [Ty.den, Ty.dflt] at *); omega)) ?_
              refine sw_cond rfl (fun c12 => ?_) (fun c12 => ?_)
              · skip
                have hlj : j < (drawD (rd0 code)).2.2.2.2.length := by have h : ((j : Nat) : Int) < (((drawD (rd0 code)).2.2.2.2.length : Nat) : Int) := of_decide_eq_true c12; omega
                have hg : (List.getD (drawD (rd0 code)).2.2.2.2 j T_Put.dflt : Put) = (drawD (rd0 code)).2.2.2.2[j] := by rw [List.getD, List.getElem?_eq_getElem hlj]; rfl
                have hF0 : (decide ((crashV (drawD (rd0 code)) (keepG (drawR (rd0 code)))).2.1.getD n [] = (drawD (rd0 code)).2.1.getD n []) || ((drawD (rd0 code)).2.2.2.2.take (j + 1)).any (hasP n ((crashV (drawD (rd0 code)) (keepG (drawR (rd0 code)))).2.1.getD n []))) = ((decide ((crashV (drawD (rd0 code)) (keepG (drawR (rd0 code)))).2.1.getD n [] = (drawD (rd0 code)).2.1.getD n []) || ((drawD (rd0 code)).2.2.2.2.take j).any (hasP n ((crashV (drawD (rd0 code)) (keepG (drawR (rd0 code)))).2.1.getD n []))) || hasP n ((crashV (drawD (rd0 code)) (keepG (drawR (rd0 code)))).2.1.getD n []) (drawD (rd0 code)).2.2.2.2[j]) := found_next hlj
                refine sw_skip ?_
                refine sw_seq ?_
                refine sw_block ?_
                refine sw_dec hP 11 [] 1 rfl (fun g14_1 => ?_) (fun g14_1 => ?_)
                · skip
                  replace g14_1 : (decide ((crashV (drawD (rd0 code)) (keepG (drawR (rd0 code)))).2.1.getD n [] = (drawD (rd0 code)).2.1.getD n []) || ((drawD (rd0 code)).2.2.2.2.take j).any (hasP n ((crashV (drawD (rd0 code)) (keepG (drawR (rd0 code)))).2.1.getD n []))) = true := g14_1
                  have hF : (decide ((crashV (drawD (rd0 code)) (keepG (drawR (rd0 code)))).2.1.getD n [] = (drawD (rd0 code)).2.1.getD n []) || ((drawD (rd0 code)).2.2.2.2.take (j + 1)).any (hasP n ((crashV (drawD (rd0 code)) (keepG (drawR (rd0 code)))).2.1.getD n []))) = true := by rw [hF0, g14_1]; rfl
                  refine sw_region hP 11 [(1, true)] rfl (by kernel_rfl) (fun _ => by kernel_rfl) ?_ ?_
                  · skip
                    simp only [conj, List.nil_append, List.cons_append, List.append_nil, List.append_assoc, inR_i64, true_and, and_true, Int.toNat_natCast]
                    try dsimp only [Ty.den, Ty.dflt]
                    repeat' apply And.intro
                    all_goals first | (show ((n : Nat) : Int) < (((crashV (drawD (rd0 code)) (keepG (drawR (rd0 code)))).2.1.length : Nat) : Int); omega) | (show n < (crashV (drawD (rd0 code)) (keepG (drawR (rd0 code)))).2.1.length; omega) | (show ((n : Nat) : Int) < (((drawD (rd0 code)).2.1.length : Nat) : Int); omega) | (show n < (drawD (rd0 code)).2.1.length; omega) | (show ((j : Nat) : Int) < (((drawD (rd0 code)).2.2.2.2.length : Nat) : Int); omega) | (show j < (drawD (rd0 code)).2.2.2.2.length; omega) | (show (0 : Int) ≤ ((n : Nat) : Int); omega) | (show (0 : Int) ≤ ((j : Nat) : Int); omega) | exact g14_1 | exact g14_9 | exact g14_19
                  refine sw_region hP 12 [] rfl (by kernel_rfl) (fun _ => by kernel_rfl) (by first | trivial | (simp [conj]; done) | (simp [conj] at *; (try dsimp only [Ty.den, Ty.dflt] at *); omega)) ?_
                  refine ⟨j + 1, ?_, ?_, ent_ok rfl ?_⟩
                  · skip
                    exact hlj
                  · skip
                    omega
                  · skip
                    simp only [conj, List.nil_append, List.cons_append, List.append_nil, List.append_assoc, inR_i64, true_and, and_true, Int.toNat_natCast]
                    try dsimp only [Ty.den, Ty.dflt]
                    repeat' apply And.intro
                    all_goals first | rfl | trivial | exact hF | exact hF.symm | (push_cast; omega) | assumption
                · skip
                  replace g14_1 : (decide ((crashV (drawD (rd0 code)) (keepG (drawR (rd0 code)))).2.1.getD n [] = (drawD (rd0 code)).2.1.getD n []) || ((drawD (rd0 code)).2.2.2.2.take j).any (hasP n ((crashV (drawD (rd0 code)) (keepG (drawR (rd0 code)))).2.1.getD n []))) = false := g14_1
                  rw [g14_1, Bool.false_or] at hF0
                  refine sw_dec hP 11 [(1, false)] 9 rfl (fun g14_9 => ?_) (fun g14_9 => ?_)
                  · skip
                    have q9 : (drawD (rd0 code)).2.2.2.2[j].1 = false := by have h : (!(List.getD (drawD (rd0 code)).2.2.2.2 j T_Put.dflt : Put).1) = true := g14_9; rw [hg] at h; simpa using h
                    refine sw_dec hP 11 [(1, false), (9, true)] 19 rfl (fun g14_19 => ?_) (fun g14_19 => ?_)
                    · skip
                      have q19 : (drawD (rd0 code)).2.2.2.2[j].2.1 = ((n : Nat) : Int) := by have h : decide ((List.getD (drawD (rd0 code)).2.2.2.2 j T_Put.dflt : Put).2.1 = ((n : Nat) : Int)) = true := g14_19; rw [hg] at h; simpa using h
                      have hF : (decide ((crashV (drawD (rd0 code)) (keepG (drawR (rd0 code)))).2.1.getD n [] = (drawD (rd0 code)).2.1.getD n []) || ((drawD (rd0 code)).2.2.2.2.take (j + 1)).any (hasP n ((crashV (drawD (rd0 code)) (keepG (drawR (rd0 code)))).2.1.getD n []))) = decide ((List.getD (drawD (rd0 code)).2.2.2.2 j T_Put.dflt : Put).2.2 = (crashV (drawD (rd0 code)) (keepG (drawR (rd0 code)))).2.1.getD n []) := by rw [hF0, hg]; simp [hasP, q9, q19]
                      refine sw_region hP 11 [(1, false), (9, true), (19, true)] rfl (by kernel_rfl) (fun _ => by kernel_rfl) ?_ ?_
                      · skip
                        simp only [conj, List.nil_append, List.cons_append, List.append_nil, List.append_assoc, inR_i64, true_and, and_true, Int.toNat_natCast]
                        try dsimp only [Ty.den, Ty.dflt]
                        repeat' apply And.intro
                        all_goals first | (show ((n : Nat) : Int) < (((crashV (drawD (rd0 code)) (keepG (drawR (rd0 code)))).2.1.length : Nat) : Int); omega) | (show n < (crashV (drawD (rd0 code)) (keepG (drawR (rd0 code)))).2.1.length; omega) | (show ((n : Nat) : Int) < (((drawD (rd0 code)).2.1.length : Nat) : Int); omega) | (show n < (drawD (rd0 code)).2.1.length; omega) | (show ((j : Nat) : Int) < (((drawD (rd0 code)).2.2.2.2.length : Nat) : Int); omega) | (show j < (drawD (rd0 code)).2.2.2.2.length; omega) | (show (0 : Int) ≤ ((n : Nat) : Int); omega) | (show (0 : Int) ≤ ((j : Nat) : Int); omega) | exact g14_1 | exact g14_9 | exact g14_19
                      refine sw_region hP 12 [] rfl (by kernel_rfl) (fun _ => by kernel_rfl) (by first | trivial | (simp [conj]; done) | (simp [conj] at *; (try dsimp only [Ty.den, Ty.dflt] at *); omega)) ?_
                      refine ⟨j + 1, ?_, ?_, ent_ok rfl ?_⟩
                      · skip
                        exact hlj
                      · skip
                        omega
                      · skip
                        simp only [conj, List.nil_append, List.cons_append, List.append_nil, List.append_assoc, inR_i64, true_and, and_true, Int.toNat_natCast]
                        try dsimp only [Ty.den, Ty.dflt]
                        repeat' apply And.intro
                        all_goals first | rfl | trivial | exact hF | exact hF.symm | (push_cast; omega) | assumption
                    · skip
                      have q19 : ¬ (drawD (rd0 code)).2.2.2.2[j].2.1 = ((n : Nat) : Int) := by have h : decide ((List.getD (drawD (rd0 code)).2.2.2.2 j T_Put.dflt : Put).2.1 = ((n : Nat) : Int)) = false := g14_19; rw [hg] at h; simpa using h
                      have hF : (decide ((crashV (drawD (rd0 code)) (keepG (drawR (rd0 code)))).2.1.getD n [] = (drawD (rd0 code)).2.1.getD n []) || ((drawD (rd0 code)).2.2.2.2.take (j + 1)).any (hasP n ((crashV (drawD (rd0 code)) (keepG (drawR (rd0 code)))).2.1.getD n []))) = false := by rw [hF0]; simp [hasP, q9, q19]
                      refine sw_region hP 11 [(1, false), (9, true), (19, false)] rfl (by kernel_rfl) (fun _ => by kernel_rfl) ?_ ?_
                      · skip
                        simp only [conj, List.nil_append, List.cons_append, List.append_nil, List.append_assoc, inR_i64, true_and, and_true, Int.toNat_natCast]
                        try dsimp only [Ty.den, Ty.dflt]
                        repeat' apply And.intro
                        all_goals first | (show ((n : Nat) : Int) < (((crashV (drawD (rd0 code)) (keepG (drawR (rd0 code)))).2.1.length : Nat) : Int); omega) | (show n < (crashV (drawD (rd0 code)) (keepG (drawR (rd0 code)))).2.1.length; omega) | (show ((n : Nat) : Int) < (((drawD (rd0 code)).2.1.length : Nat) : Int); omega) | (show n < (drawD (rd0 code)).2.1.length; omega) | (show ((j : Nat) : Int) < (((drawD (rd0 code)).2.2.2.2.length : Nat) : Int); omega) | (show j < (drawD (rd0 code)).2.2.2.2.length; omega) | (show (0 : Int) ≤ ((n : Nat) : Int); omega) | (show (0 : Int) ≤ ((j : Nat) : Int); omega) | exact g14_1 | exact g14_9 | exact g14_19
                      refine sw_region hP 12 [] rfl (by kernel_rfl) (fun _ => by kernel_rfl) (by first | trivial | (simp [conj]; done) | (simp [conj] at *; (try dsimp only [Ty.den, Ty.dflt] at *); omega)) ?_
                      refine ⟨j + 1, ?_, ?_, ent_ok rfl ?_⟩
                      · skip
                        exact hlj
                      · skip
                        omega
                      · skip
                        simp only [conj, List.nil_append, List.cons_append, List.append_nil, List.append_assoc, inR_i64, true_and, and_true, Int.toNat_natCast]
                        try dsimp only [Ty.den, Ty.dflt]
                        repeat' apply And.intro
                        all_goals first | rfl | trivial | exact hF | exact hF.symm | (push_cast; omega) | assumption
                  · skip
                    have q9 : (drawD (rd0 code)).2.2.2.2[j].1 = true := by have h : (!(List.getD (drawD (rd0 code)).2.2.2.2 j T_Put.dflt : Put).1) = false := g14_9; rw [hg] at h; simpa using h
                    have hF : (decide ((crashV (drawD (rd0 code)) (keepG (drawR (rd0 code)))).2.1.getD n [] = (drawD (rd0 code)).2.1.getD n []) || ((drawD (rd0 code)).2.2.2.2.take (j + 1)).any (hasP n ((crashV (drawD (rd0 code)) (keepG (drawR (rd0 code)))).2.1.getD n []))) = false := by rw [hF0]; simp [hasP, q9]
                    refine sw_region hP 11 [(1, false), (9, false)] rfl (by kernel_rfl) (fun _ => by kernel_rfl) ?_ ?_
                    · skip
                      simp only [conj, List.nil_append, List.cons_append, List.append_nil, List.append_assoc, inR_i64, true_and, and_true, Int.toNat_natCast]
                      try dsimp only [Ty.den, Ty.dflt]
                      repeat' apply And.intro
                      all_goals first | (show ((n : Nat) : Int) < (((crashV (drawD (rd0 code)) (keepG (drawR (rd0 code)))).2.1.length : Nat) : Int); omega) | (show n < (crashV (drawD (rd0 code)) (keepG (drawR (rd0 code)))).2.1.length; omega) | (show ((n : Nat) : Int) < (((drawD (rd0 code)).2.1.length : Nat) : Int); omega) | (show n < (drawD (rd0 code)).2.1.length; omega) | (show ((j : Nat) : Int) < (((drawD (rd0 code)).2.2.2.2.length : Nat) : Int); omega) | (show j < (drawD (rd0 code)).2.2.2.2.length; omega) | (show (0 : Int) ≤ ((n : Nat) : Int); omega) | (show (0 : Int) ≤ ((j : Nat) : Int); omega) | exact g14_1 | exact g14_9 | exact g14_19
                    refine sw_region hP 12 [] rfl (by kernel_rfl) (fun _ => by kernel_rfl) (by first | trivial | (simp [conj]; done) | (simp [conj] at *; (try dsimp only [Ty.den, Ty.dflt] at *); omega)) ?_
                    refine ⟨j + 1, ?_, ?_, ent_ok rfl ?_⟩
                    · skip
                      exact hlj
                    · skip
                      omega
                    · skip
                      simp only [conj, List.nil_append, List.cons_append, List.append_nil, List.append_assoc, inR_i64, true_and, and_true, Int.toNat_natCast]
                      try dsimp only [Ty.den, Ty.dflt]
                      repeat' apply And.intro
                      all_goals first | rfl | trivial | exact hF | exact hF.symm | (push_cast; omega) | assumption
              · skip
                obtain rfl : j = (drawD (rd0 code)).2.2.2.2.length := by have h : ¬ ((j : Nat) : Int) < (((drawD (rd0 code)).2.2.2.2.length : Nat) : Int) := of_decide_eq_false c12; omega
                refine sw_exit ?_
                refine sw_seq ?_
                refine sw_region hP 11 [] rfl (by kernel_rfl) (fun _ => by kernel_rfl) (by first | trivial | (simp [conj]; done) | (simp [conj] at *; (try dsimp only [Ty.den, Ty.dflt] at *); omega)) ?_
                refine sw_cond rfl (fun c15 => ?_) (fun c15 => ?_)
                · skip
                  have h : (!(decide ((crashV (drawD (rd0 code)) (keepG (drawR (rd0 code)))).2.1.getD n [] = (drawD (rd0 code)).2.1.getD n []) || ((drawD (rd0 code)).2.2.2.2.take (drawD (rd0 code)).2.2.2.2.length).any (hasP n ((crashV (drawD (rd0 code)) (keepG (drawR (rd0 code)))).2.1.getD n [])))) = true := c15
                  rw [List.take_length, crash_slot hrd hk0 n] at h
                  cases h
                · skip
                  refine sw_skip ?_
                  refine sw_region hP 12 [] rfl (by kernel_rfl) (fun _ => by kernel_rfl) (by first | trivial | (simp [conj]; done) | (simp [conj] at *; (try dsimp only [Ty.den, Ty.dflt] at *); omega)) ?_
                  refine ⟨n + 1, ?_, ?_, ent_ok rfl ?_⟩
                  · skip
                    exact hlt
                  · skip
                    omega
                  · skip
                    simp [conj]
          · skip
            obtain rfl : n = 12 := by have h : ¬ ((n : Nat) : Int) < 12 := of_decide_eq_false c8; omega
            refine sw_exit ?_
            refine sw_seq ?_
            refine sw_region hP 8 [] rfl (by kernel_rfl) (fun _ => by kernel_rfl) (by first | trivial | (simp [conj]; done) | (simp [conj] at *; (try dsimp only [Ty.den, Ty.dflt] at *); omega)) ?_
            refine sw_seq ?_
            refine sw_region hP 9 [] rfl (by kernel_rfl) (fun _ => by kernel_rfl) (by first | trivial | (simp [conj]; done) | (simp [conj] at *; (try dsimp only [Ty.den, Ty.dflt] at *); omega)) ?_
            refine sw_seq ?_
            refine sw_dec hP 10 [] 2 rfl (fun g19_2 => ?_) (fun g19_2 => ?_)
            · skip
              refine sw_dec hP 10 [(2, true)] 8 rfl (fun g19_8 => ?_) (fun g19_8 => ?_)
              · skip
                refine sw_dec hP 10 [(2, true), (8, true)] 15 rfl (fun g19_15 => ?_) (fun g19_15 => ?_)
                · skip
                  refine sw_dec hP 10 [(2, true), (8, true), (15, true)] 22 rfl (fun g19_22 => ?_) (fun g19_22 => ?_)
                  · skip
                    refine sw_region hP 10 [(2, true), (8, true), (15, true), (22, true)] rfl (by kernel_rfl) (fun _ => by kernel_rfl) (by first | trivial | (simp [conj]; done) | (simp [conj] at *; (try dsimp only [Ty.den, Ty.dflt] at *); omega)) ?_
                    refine sw_ret ⟨.inl rfl, _, rfl, ?_⟩
                    have hv : eqDV (crashV (drawD (rd0 code)) 9223372036854775807) (flushV (drawD (rd0 code))) = true := by rw [crash_all hrd, eqDV_self]
                    simp [conj]
                    exact hv
                  · skip
                    have h : decide ((crashV (drawD (rd0 code)) 0).2.2.1 = (drawD (rd0 code)).2.2.1) = false := g19_22
                    rw [(crash_zero hrd).2] at h
                    simp at h
                · skip
                  have h : decide ((crashV (drawD (rd0 code)) 0).2.1 = (drawD (rd0 code)).2.1) = false := g19_15
                  rw [(crash_zero hrd).1] at h
                  simp at h
              · skip
                have h : decide (((((crashV (drawD (rd0 code)) (keepG (drawR (rd0 code)))).2.2.2.2).length : Nat) : Int) = 0) = false := g19_8
                rw [hw2] at h
                cases h
            · skip
              have h : rdV (crashV (drawD (rd0 code)) (keepG (drawR (rd0 code)))) = false := g19_2
              rw [hw1] at h
              cases h
end Go.Sx
