import Derived.Test.YtbnmeeajooljmaaMD12
import Derived.Test.YtbnmeeajooljmaaMPv
set_option linter.all false
namespace Go.Sx
open Go
set_option maxRecDepth 100000
set_option linter.unusedVariables false
set_option linter.unusedSimpArgs false
set_option maxHeartbeats 4000000

def cDrP : Ctr := ⟨13, [.val false TB pF], fun _ => True, fun x => (.tup [(true, [.d TI pF (drawD (rd0 x.1)).1, .own ⟨1, 0, 0⟩, .own ⟨1, 1, 0⟩, .own ⟨1, 2, 0⟩, .own ⟨1, 3, 0⟩]), (true, [.d .bool pF (ltG (putG (drawR (rd0 x.1))) (putQ (drawR (rd0 x.1)))).1, .d TI pF (ltG (putG (drawR (rd0 x.1))) (putQ (drawR (rd0 x.1)))).2.1, .d .str pF (ltG (putG (drawR (rd0 x.1))) (putQ (drawR (rd0 x.1)))).2.2])], [(⟨1, 0, 0⟩, .sl .str (.all .w) (drawD (rd0 x.1)).2.1), (⟨1, 1, 0⟩, .sl .str (.all .w) (drawD (rd0 x.1)).2.2.1), (⟨1, 2, 0⟩, .sl .bool (.all .w) (drawD (rd0 x.1)).2.2.2.1), (⟨1, 3, 0⟩, .sl T_Put (.all .w) (drawD (rd0 x.1)).2.2.2.2)])⟩
theorem cDrP_ok : CtrOk Proofs.Try.prog cDrP := by
  have hP := (((((Prg.none ttok mtok).and cOpen_ok).and cPick_ok).and cDPutG_ok).and cDraw_ok)
  refine ctr_of_body hP cDrP (fn := Proofs.Try.f13) (rts := [.cell 2 27, .cell 3 33]) Proofs.Try.func13 rfl (by kernel_rfl) rfl rfl ?_
  rintro ⟨(code : List Int), ⟨⟩⟩ ⟨hdc, _⟩ _
  try dsimp only [Ty.den, Mode.den, mdens] at _
  refine ⟨rfl, ?_⟩
  have h0 : ROk (rd0 code) 3000 := rd0_ok hdc
  have h1 := drawR_rd h0
  have h2 : ROk (putQ (drawR (rd0 code))) 80 := putQ_ok h1 (by omega) (by omega)
  have h3 : ROk (nx (putQ (drawR (rd0 code)))) 79 := h2.nx (by omega)
  have hb := pk_bd h3 (by omega) (n := 2) (by omega)
  have hpv := putG_ok h1 (by omega)
  have hln : (putG (drawR (rd0 code))).2.2.length ≤ 700 := putV_len hpv
  refine sw_seq ?_
  refine sw_region hP 1 [] rfl (by kernel_rfl) (fun _ => by kernel_rfl) (by first | trivial | (simp [conj]; done) | (simp [conj] at *; (try dsimp only [Ty.den, Ty.dflt] at *); omega)) ?_
  refine sw_seq ?_
  refine sw_region hP 2 [] rfl (by kernel_rfl) (fun _ => by kernel_rfl) (by first | trivial | (simp [conj]; done) | (simp [conj] at *; (try dsimp only [Ty.den, Ty.dflt] at *); omega)) ?_
  refine sw_seq ?_
  refine sw_region hP 3 [] rfl (by kernel_rfl) (fun _ => by kernel_rfl) ?_ ?_
  · skip
    simp only [conj, List.nil_append, List.cons_append, List.append_nil, List.append_assoc, inR_i64, true_and, and_true, Int.toNat_natCast]
    try dsimp only [Ty.den, Ty.dflt]
    repeat' apply And.intro
    all_goals first | exact h0
  refine sw_seq ?_
  refine sw_region hP 4 [] rfl (by kernel_rfl) (fun _ => by kernel_rfl) ?_ ?_
  · skip
    simp only [conj, List.nil_append, List.cons_append, List.append_nil, List.append_assoc, inR_i64, true_and, and_true, Int.toNat_natCast]
    try dsimp only [Ty.den, Ty.dflt]
    repeat' apply And.intro
    all_goals first | exact h1.le (m' := 20) (by omega)
  refine sw_seq ?_
  refine sw_seq ?_
  refine sw_region hP 5 [] rfl (by kernel_rfl) (fun _ => by kernel_rfl) ?_ ?_
  · skip
    simp only [conj, List.nil_append, List.cons_append, List.append_nil, List.append_assoc, inR_i64, true_and, and_true, Int.toNat_natCast]
    try dsimp only [Ty.den, Ty.dflt]
    repeat' apply And.intro
    all_goals first | exact h2.le (m' := 1) (by omega)
  refine sw_block ?_
  refine sw_seq ?_
  refine sw_region hP 6 [] rfl (by kernel_rfl) (fun _ => by kernel_rfl) (by first | trivial | (simp [conj]; done) | (simp [conj] at *; (try dsimp only [Ty.den, Ty.dflt] at *); omega)) ?_
  refine sw_cond rfl (fun c5 => ?_) (fun c5 => ?_)
  · skip
    replace c5 : pk (putQ (drawR (rd0 code))) 20 = 0 := of_decide_eq_true c5
    have hL : ltG (putG (drawR (rd0 code))) (putQ (drawR (rd0 code))) = ((putG (drawR (rd0 code))).1, (putG (drawR (rd0 code))).2.1, (putG (drawR (rd0 code))).2.2 ++ aT) := if_pos c5
    refine sw_region hP 7 [] rfl (by kernel_rfl) (fun _ => by kernel_rfl) ?_ ?_
    · skip
      simp [conj, maxL, bytesL]
      show (putG (drawR (rd0 code))).2.2.length ≤ 140737488355327
      omega
    refine sw_seq ?_
    refine sw_region hP 8 [] rfl (by kernel_rfl) (fun _ => by kernel_rfl) (by first | trivial | (simp [conj]; done) | (simp [conj] at *; (try dsimp only [Ty.den, Ty.dflt] at *); omega)) ?_
    refine sw_ret ⟨.inl rfl, _, rfl, ?_⟩
    rw [hL]
    simp [conj]
    try (repeat' apply And.intro
         all_goals rfl)
  · skip
    replace c5 : ¬ pk (putQ (drawR (rd0 code))) 20 = 0 := of_decide_eq_false c5
    refine sw_seq ?_
    refine sw_region hP 7 [] rfl (by kernel_rfl) (fun _ => by kernel_rfl) (by first | trivial | (simp [conj]; done) | (simp [conj] at *; (try dsimp only [Ty.den, Ty.dflt] at *); omega)) ?_
    refine sw_cond rfl (fun c7 => ?_) (fun c7 => ?_)
    · skip
      replace c7 : pk (putQ (drawR (rd0 code))) 20 = 1 := of_decide_eq_true c7
      have hL : ltG (putG (drawR (rd0 code))) (putQ (drawR (rd0 code))) = ((putG (drawR (rd0 code))).1, List.getD [(-1 : Int), 12] (pk (nx (putQ (drawR (rd0 code)))) 2).toNat 0, (putG (drawR (rd0 code))).2.2) := by unfold ltG; rw [if_neg c5, if_pos c7]
      refine sw_region hP 8 [] rfl (by kernel_rfl) (fun _ => by kernel_rfl) ?_ ?_
      · skip
        simp only [conj, List.nil_append, List.cons_append, List.append_nil, List.append_assoc, inR_i64, true_and, and_true, Int.toNat_natCast]
        try dsimp only [Ty.den, Ty.dflt]
        repeat' apply And.intro
        all_goals first | exact h3.le (m' := 1) (by omega) | exact hb.1 | exact hb.2 | (show (pk (nx (putQ (drawR (rd0 code)))) 2).toNat < 2; omega) | decide
      refine sw_seq ?_
      refine sw_region hP 9 [] rfl (by kernel_rfl) (fun _ => by kernel_rfl) (by first | trivial | (simp [conj]; done) | (simp [conj] at *; (try dsimp only [Ty.den, Ty.dflt] at *); omega)) ?_
      refine sw_ret ⟨.inl rfl, _, rfl, ?_⟩
      rw [hL]
      simp [conj]
      try (repeat' apply And.intro
           all_goals rfl)
    · skip
      replace c7 : ¬ pk (putQ (drawR (rd0 code))) 20 = 1 := of_decide_eq_false c7
      have hL : ltG (putG (drawR (rd0 code))) (putQ (drawR (rd0 code))) = (putG (drawR (rd0 code))) := by unfold ltG; rw [if_neg c5, if_neg c7]
      refine sw_skip ?_
      refine sw_seq ?_
      refine sw_region hP 8 [] rfl (by kernel_rfl) (fun _ => by kernel_rfl) (by first | trivial | (simp [conj]; done) | (simp [conj] at *; (try dsimp only [Ty.den, Ty.dflt] at *); omega)) ?_
      refine sw_ret ⟨.inl rfl, _, rfl, ?_⟩
      rw [hL]
      simp [conj]
      try (repeat' apply And.intro
           all_goals rfl)

def cLLast : Ctr := ⟨4, [.val false TB pF, .val false TB pF], fun _ => True, fun x => (sBool true, [])⟩
theorem cLLast_ok : CtrOk Proofs.Try.prog cLLast := by
  have hP := (((((((((Prg.none ttok mtok).and cTexts_ok).and cLDisk_ok).and cDRead_ok).and cDCrash_ok).and cDFlush_ok).and cDPut_ok).and cSPut_ok).and cDrP_ok)
  refine ctr_of_body hP cLLast (fn := Proofs.Try.f4) (rts := [.tmp 4]) Proofs.Try.func4 rfl (by kernel_rfl) rfl rfl ?_
  rintro ⟨(code : List Int), (use : List Int), ⟨⟩⟩ ⟨hdc, hdu, _⟩ _
  try dsimp only [Ty.den, Mode.den, mdens] at _
  refine ⟨rfl, ?_⟩
  have hml : code.length ≤ 140737488355328 := hdc.1
  have hmu : use.length ≤ 140737488355328 := hdu.1
  have hcm : ((use.length : Nat) : Int).tmod 4 = ((use.length % 4 : Nat) : Int) := rfl
  have hcd : ((use.length % 4 : Nat) : Int).tdiv 2 = ((use.length % 4 / 2 : Nat) : Int) := rfl
  refine sw_seq ?_
  refine sw_region hP 1 [] rfl (by kernel_rfl) (fun _ => by kernel_rfl) (by first | trivial | (simp [conj]; done) | (simp [conj] at *; (try dsimp only [Ty.den, Ty.dflt] at *); omega)) ?_
  refine sw_seq ?_
  refine sw_seq ?_
  refine sw_dec hP 2 [] 3 rfl (fun g1_3 => ?_) (fun g1_3 => ?_)
  · skip
    refine sw_region hP 2 [(3, true)] rfl (by kernel_rfl) (fun _ => by kernel_rfl) (by first | trivial | (simp [conj]; done) | (simp [conj] at *; (try dsimp only [Ty.den, Ty.dflt] at *); omega)) ?_
    refine sw_condT rfl ?_
    refine sw_seq ?_
    refine sw_region hP 3 [] rfl (by kernel_rfl) (fun _ => by kernel_rfl) (by first | trivial | (simp [conj]; done) | (simp [conj] at *; (try dsimp only [Ty.den, Ty.dflt] at *); omega)) ?_
    refine sw_ret ⟨.inl rfl, _, rfl, ?_⟩
    simp [conj, eqDV_self]
  · skip
    refine sw_region hP 2 [(3, false)] rfl (by kernel_rfl) (fun _ => by kernel_rfl) (by first | trivial | (simp [conj]; done) | (simp [conj] at *; (try dsimp only [Ty.den, Ty.dflt] at *); omega)) ?_
    refine sw_cond rfl (fun c1 => ?_) (fun c1 => ?_)
    · skip
      refine sw_seq ?_
      refine sw_region hP 3 [] rfl (by kernel_rfl) (fun _ => by kernel_rfl) (by first | trivial | (simp [conj]; done) | (simp [conj] at *; (try dsimp only [Ty.den, Ty.dflt] at *); omega)) ?_
      refine sw_ret ⟨.inl rfl, _, rfl, ?_⟩
      simp [conj, eqDV_self]
    · skip
      refine sw_skip ?_
      refine sw_seq ?_
      refine sw_region hP 3 [] rfl (by kernel_rfl) (fun _ => by kernel_rfl) (by first | trivial | (simp [conj]; done) | (simp [conj] at *; (try dsimp only [Ty.den, Ty.dflt] at *); omega)) ?_
      refine sw_seq ?_
      refine sw_region hP 4 [] rfl (by kernel_rfl) (fun _ => by kernel_rfl) (by first | trivial | (simp [conj]; done) | (simp [conj] at *; (try dsimp only [Ty.den, Ty.dflt] at *); omega)) ?_
      refine sw_seq ?_
      refine sw_seq ?_
      refine sw_dec hP 5 [] 6 rfl (fun g5_6 => ?_) (fun g5_6 => ?_)
      · skip
        have h : (!eqDV (putD (drawD (rd0 code)) (ltG (putG (drawR (rd0 code))) (putQ (drawR (rd0 code))))) (putD (drawD (rd0 code)) (ltG (putG (drawR (rd0 code))) (putQ (drawR (rd0 code)))))) = true := g5_6
        rw [eqDV_self] at h
        cases h
      · skip
        refine sw_dec hP 5 [(6, false)] 12 rfl (fun g5_12 => ?_) (fun g5_12 => ?_)
        · skip
          refine sw_region hP 5 [(6, false), (12, true)] rfl (by kernel_rfl) (fun _ => by kernel_rfl) (by first | trivial | (simp [conj]; done) | (simp [conj] at *; (try dsimp only [Ty.den, Ty.dflt] at *); omega)) ?_
          refine sw_condT rfl ?_
          refine sw_seq ?_
          refine sw_region hP 6 [] rfl (by kernel_rfl) (fun _ => by kernel_rfl) (by first | trivial | (simp [conj]; done) | (simp [conj] at *; (try dsimp only [Ty.den, Ty.dflt] at *); omega)) ?_
          refine sw_ret ⟨.inl rfl, _, rfl, ?_⟩
          simp [conj, eqDV_self]
        · skip
          have hzz : ¬ (putD (drawD (rd0 code)) (ltG (putG (drawR (rd0 code))) (putQ (drawR (rd0 code))))).2.1.length = 0 := by have h := g5_12; simpa using h
          refine sw_dec hP 5 [(6, false), (12, false)] 16 rfl (fun g5_16 => ?_) (fun g5_16 => ?_)
          · skip
            refine sw_region hP 5 [(6, false), (12, false), (16, true)] rfl (by kernel_rfl) (fun _ => by kernel_rfl) (by first | trivial | (simp [conj]; done) | (simp [conj] at *; (try dsimp only [Ty.den, Ty.dflt] at *); omega)) ?_
            refine sw_condT rfl ?_
            refine sw_seq ?_
            refine sw_region hP 6 [] rfl (by kernel_rfl) (fun _ => by kernel_rfl) (by first | trivial | (simp [conj]; done) | (simp [conj] at *; (try dsimp only [Ty.den, Ty.dflt] at *); omega)) ?_
            refine sw_ret ⟨.inl rfl, _, rfl, ?_⟩
            simp [conj, eqDV_self]
          · skip
            refine sw_region hP 5 [(6, false), (12, false), (16, false)] rfl (by kernel_rfl) (fun _ => by kernel_rfl) (by first | trivial | (simp [conj]; done) | (simp [conj] at *; (try dsimp only [Ty.den, Ty.dflt] at *); omega)) ?_
            refine sw_cond rfl (fun c5 => ?_) (fun c5 => ?_)
            · skip
              refine sw_seq ?_
              refine sw_region hP 6 [] rfl (by kernel_rfl) (fun _ => by kernel_rfl) (by first | trivial | (simp [conj]; done) | (simp [conj] at *; (try dsimp only [Ty.den, Ty.dflt] at *); omega)) ?_
              refine sw_ret ⟨.inl rfl, _, rfl, ?_⟩
              simp [conj, eqDV_self]
            · skip
              have hz : ¬ (putD (drawD (rd0 code)) (ltG (putG (drawR (rd0 code))) (putQ (drawR (rd0 code))))).2.1.length = 0 := hzz
              obtain ⟨hrd, hpv⟩ := put_len hz
              have hr : (ltG (putG (drawR (rd0 code))) (putQ (drawR (rd0 code)))).1 = false := g5_16
              have hs : ¬ (drawD (rd0 code)).1 = 1 := of_decide_eq_false c5
              obtain ⟨r1, r2, r3, r4, r5⟩ := last_facts hrd hpv hr hs
              obtain ⟨a0, a1, a2⟩ := putV_slot hpv hr
              have r6 : readV (crashV (putD (putD (flushV (putD (drawD (rd0 code)) (ltG (putG (drawR (rd0 code))) (putQ (drawR (rd0 code)))))) (false, (ltG (putG (drawR (rd0 code))) (putQ (drawR (rd0 code)))).2.1, abcT)) (false, (ltG (putG (drawR (rd0 code))) (putQ (drawR (rd0 code)))).2.1, xyzT)) ((((use.length : Nat) : Int).tmod 4).tdiv 2 * 2)) (ltG (putG (drawR (rd0 code))) (putQ (drawR (rd0 code)))).2.1 = xyzT ∨ readV (crashV (putD (putD (flushV (putD (drawD (rd0 code)) (ltG (putG (drawR (rd0 code))) (putQ (drawR (rd0 code)))))) (false, (ltG (putG (drawR (rd0 code))) (putQ (drawR (rd0 code)))).2.1, abcT)) (false, (ltG (putG (drawR (rd0 code))) (putQ (drawR (rd0 code)))).2.1, xyzT)) ((((use.length : Nat) : Int).tmod 4).tdiv 2 * 2)) (ltG (putG (drawR (rd0 code))) (putQ (drawR (rd0 code)))).2.1 = (ltG (putG (drawR (rd0 code))) (putQ (drawR (rd0 code)))).2.2 := by rcases c02 (n := use.length) with e | e <;> rw [e]; exact .inr r4; exact .inl r5
              have r7 : readV (crashV (putD (putD (flushV (putD (drawD (rd0 code)) (ltG (putG (drawR (rd0 code))) (putQ (drawR (rd0 code)))))) (false, (ltG (putG (drawR (rd0 code))) (putQ (drawR (rd0 code)))).2.1, abcT)) (false, (ltG (putG (drawR (rd0 code))) (putQ (drawR (rd0 code)))).2.1, xyzT)) ((((use.length : Nat) : Int).tmod 4).tdiv 2 * 2)) (ltG (putG (drawR (rd0 code))) (putQ (drawR (rd0 code)))).2.1 ≠ [] := by rcases r6 with e | e <;> rw [e]; simp [xyzT]; intro e2; rw [e2] at a2; cases a2
              refine sw_skip ?_
              refine sw_seq ?_
              refine sw_ent (st' := ⟨[.junk, .v false [.d TB pF use], .junk, .junk, .junk, .v false [.ptr ⟨3, 5, 0⟩ 0], .v false [.ptr ⟨3, 6, 0⟩ 0], .v false [.ptr ⟨4, 3, 0⟩ 0], .junk, .junk, .junk, .junk, .junk, .junk, .junk, .junk, .junk, .junk, .junk, .junk, .junk, .junk, .junk, .junk, .junk, .junk, .junk, .junk, .junk, .junk, .junk, .junk, .junk, .junk, .junk, .junk, .junk, .junk, .junk, .junk, .junk, .junk, .junk, .junk, .junk, .junk, .junk, .junk, .junk, .junk, .junk, .junk, .junk, .junk, .junk, .junk, .junk, .junk, .junk, .junk, .junk, .junk, .junk, .junk, .junk, .junk, .junk, .junk, .junk, .junk, .junk, .junk, .junk, .junk, .junk, .junk, .junk, .junk, .junk, .junk, .junk, .junk, .junk, .junk, .junk, .junk, .junk, .junk, .junk, .junk, .junk, .junk, .junk, .junk, .junk, .junk, .junk, .junk, .junk, .junk, .junk, .junk, .junk, .junk, .junk, .junk, .junk, .junk, .junk, .junk, .junk, .junk, .junk, .junk, .junk, .junk, .junk, .junk, .junk, .junk, .junk, .junk, .junk, .junk, .junk, .junk, .junk, .junk, .junk, .junk, .junk, .junk, .junk, .junk, .junk, .junk, .junk, .junk], [(⟨3, 6, 0⟩, .var [.d .bool pF (ltG (putG (drawR (rd0 code))) (putQ (drawR (rd0 code)))).1, .d TI pF (ltG (putG (drawR (rd0 code))) (putQ (drawR (rd0 code)))).2.1, .d .str pF (ltG (putG (drawR (rd0 code))) (putQ (drawR (rd0 code)))).2.2]), (⟨4, 3, 0⟩, .var [.d TI pF ((putD (drawD (rd0 code)) (ltG (putG (drawR (rd0 code))) (putQ (drawR (rd0 code)))))).1, .own ⟨4, 2, 0⟩, .own ⟨4, 2, 64⟩, .own ⟨4, 2, 128⟩, .own ⟨4, 2, 192⟩]), (⟨4, 2, 0⟩, .sl .str (.all .w) ((putD (drawD (rd0 code)) (ltG (putG (drawR (rd0 code))) (putQ (drawR (rd0 code)))))).2.1), (⟨4, 2, 64⟩, .sl .str (.all .w) ((putD (drawD (rd0 code)) (ltG (putG (drawR (rd0 code))) (putQ (drawR (rd0 code)))))).2.2.1), (⟨4, 2, 128⟩, .sl .bool (.all .w) ((putD (drawD (rd0 code)) (ltG (putG (drawR (rd0 code))) (putQ (drawR (rd0 code)))))).2.2.2.1), (⟨4, 2, 192⟩, .sl T_Put (.all .w) ((putD (drawD (rd0 code)) (ltG (putG (drawR (rd0 code))) (putQ (drawR (rd0 code)))))).2.2.2.2)], 5, []⟩) (ent_ok rfl ?_) ?_
              · skip
                simp [conj]
                try (repeat' apply And.intro
                     all_goals rfl)
              refine sw_region hP 6 [] rfl (by kernel_rfl) (fun _ => by kernel_rfl) (by first | trivial | (simp [conj]; done) | (simp [conj] at *; (try dsimp only [Ty.den, Ty.dflt] at *); omega)) ?_
              refine sw_seq ?_
              refine sw_ent (st' := ⟨[.junk, .v false [.d TB pF use], .junk, .junk, .junk, .v false [.ptr ⟨3, 5, 0⟩ 0], .v false [.ptr ⟨3, 6, 0⟩ 0], .v false [.ptr ⟨4, 3, 0⟩ 0], .v false [.ptr ⟨6, 6, 0⟩ 0], .junk, .junk, .junk, .junk, .junk, .junk, .junk, .junk, .junk, .junk, .junk, .junk, .junk, .junk, .junk, .junk, .junk, .junk, .junk, .junk, .junk, .junk, .junk, .junk, .junk, .junk, .junk, .junk, .junk, .junk, .junk, .junk, .junk, .junk, .junk, .junk, .junk, .junk, .junk, .junk, .junk, .junk, .junk, .junk, .junk, .junk, .junk, .junk, .junk, .junk, .junk, .junk, .junk, .junk, .junk, .junk, .junk, .junk, .junk, .junk, .junk, .junk, .junk, .junk, .junk, .junk, .junk, .junk, .junk, .junk, .junk, .junk, .junk, .junk, .junk, .junk, .junk, .junk, .junk, .junk, .junk, .junk, .junk, .junk, .junk, .junk, .junk, .junk, .junk, .junk, .junk, .junk, .junk, .junk, .junk, .junk, .junk, .junk, .junk, .junk, .junk, .junk, .junk, .junk, .junk, .junk, .junk, .junk, .junk, .junk, .junk, .junk, .junk, .junk, .junk, .junk, .junk, .junk, .junk, .junk, .junk, .junk, .junk, .junk, .junk, .junk, .junk, .junk, .junk], [(⟨3, 6, 0⟩, .var [.d .bool pF (ltG (putG (drawR (rd0 code))) (putQ (drawR (rd0 code)))).1, .d TI pF (ltG (putG (drawR (rd0 code))) (putQ (drawR (rd0 code)))).2.1, .d .str pF (ltG (putG (drawR (rd0 code))) (putQ (drawR (rd0 code)))).2.2]), (⟨6, 6, 0⟩, .var [.d TI pF ((putD (flushV (putD (drawD (rd0 code)) (ltG (putG (drawR (rd0 code))) (putQ (drawR (rd0 code)))))) (false, (ltG (putG (drawR (rd0 code))) (putQ (drawR (rd0 code)))).2.1, abcT))).1, .own ⟨6, 5, 0⟩, .own ⟨6, 5, 64⟩, .own ⟨6, 5, 128⟩, .own ⟨6, 5, 192⟩]), (⟨6, 5, 0⟩, .sl .str (.all .w) ((putD (flushV (putD (drawD (rd0 code)) (ltG (putG (drawR (rd0 code))) (putQ (drawR (rd0 code)))))) (false, (ltG (putG (drawR (rd0 code))) (putQ (drawR (rd0 code)))).2.1, abcT))).2.1), (⟨6, 5, 64⟩, .sl .str (.all .w) ((putD (flushV (putD (drawD (rd0 code)) (ltG (putG (drawR (rd0 code))) (putQ (drawR (rd0 code)))))) (false, (ltG (putG (drawR (rd0 code))) (putQ (drawR (rd0 code)))).2.1, abcT))).2.2.1), (⟨6, 5, 128⟩, .sl .bool (.all .w) ((putD (flushV (putD (drawD (rd0 code)) (ltG (putG (drawR (rd0 code))) (putQ (drawR (rd0 code)))))) (false, (ltG (putG (drawR (rd0 code))) (putQ (drawR (rd0 code)))).2.1, abcT))).2.2.2.1), (⟨6, 5, 192⟩, .sl T_Put (.all .w) ((putD (flushV (putD (drawD (rd0 code)) (ltG (putG (drawR (rd0 code))) (putQ (drawR (rd0 code)))))) (false, (ltG (putG (drawR (rd0 code))) (putQ (drawR (rd0 code)))).2.1, abcT))).2.2.2.2)], 6, []⟩) (ent_ok rfl ?_) ?_
              · skip
                simp [conj]
                try (repeat' apply And.intro
                     all_goals rfl)
              refine sw_region hP 7 [] rfl (by kernel_rfl) (fun _ => by kernel_rfl) (by first | trivial | (simp [conj]; done) | (simp [conj] at *; (try dsimp only [Ty.den, Ty.dflt] at *); omega)) ?_
              refine sw_seq ?_
              refine sw_ent (st' := ⟨[.junk, .v false [.d TB pF use], .junk, .junk, .junk, .v false [.ptr ⟨3, 5, 0⟩ 0], .v false [.ptr ⟨3, 6, 0⟩ 0], .v false [.ptr ⟨4, 3, 0⟩ 0], .v false [.ptr ⟨6, 6, 0⟩ 0], .junk, .junk, .junk, .junk, .junk, .junk, .junk, .junk, .junk, .junk, .junk, .junk, .junk, .junk, .junk, .junk, .junk, .junk, .junk, .junk, .junk, .junk, .junk, .junk, .junk, .junk, .junk, .junk, .junk, .junk, .junk, .junk, .junk, .junk, .junk, .junk, .junk, .junk, .junk, .junk, .junk, .junk, .junk, .junk, .junk, .junk, .junk, .junk, .junk, .junk, .junk, .junk, .junk, .junk, .junk, .junk, .junk, .junk, .junk, .junk, .junk, .junk, .junk, .junk, .junk, .junk, .junk, .junk, .junk, .junk, .junk, .junk, .junk, .junk, .junk, .junk, .junk, .junk, .junk, .junk, .junk, .junk, .junk, .junk, .junk, .junk, .junk, .junk, .junk, .junk, .junk, .junk, .junk, .junk, .junk, .junk, .junk, .junk, .junk, .junk, .junk, .junk, .junk, .junk, .junk, .junk, .junk, .junk, .junk, .junk, .junk, .junk, .junk, .junk, .junk, .junk, .junk, .junk, .junk, .junk, .junk, .junk, .junk, .junk, .junk, .junk, .junk, .junk, .junk], [(⟨3, 6, 0⟩, .var [.d .bool pF (ltG (putG (drawR (rd0 code))) (putQ (drawR (rd0 code)))).1, .d TI pF (ltG (putG (drawR (rd0 code))) (putQ (drawR (rd0 code)))).2.1, .d .str pF (ltG (putG (drawR (rd0 code))) (putQ (drawR (rd0 code)))).2.2]), (⟨6, 6, 0⟩, .var [.d TI pF ((putD (putD (flushV (putD (drawD (rd0 code)) (ltG (putG (drawR (rd0 code))) (putQ (drawR (rd0 code)))))) (false, (ltG (putG (drawR (rd0 code))) (putQ (drawR (rd0 code)))).2.1, abcT)) (false, (ltG (putG (drawR (rd0 code))) (putQ (drawR (rd0 code)))).2.1, xyzT))).1, .own ⟨7, 4, 0⟩, .own ⟨7, 4, 64⟩, .own ⟨7, 4, 128⟩, .own ⟨7, 4, 192⟩]), (⟨7, 4, 0⟩, .sl .str (.all .w) ((putD (putD (flushV (putD (drawD (rd0 code)) (ltG (putG (drawR (rd0 code))) (putQ (drawR (rd0 code)))))) (false, (ltG (putG (drawR (rd0 code))) (putQ (drawR (rd0 code)))).2.1, abcT)) (false, (ltG (putG (drawR (rd0 code))) (putQ (drawR (rd0 code)))).2.1, xyzT))).2.1), (⟨7, 4, 64⟩, .sl .str (.all .w) ((putD (putD (flushV (putD (drawD (rd0 code)) (ltG (putG (drawR (rd0 code))) (putQ (drawR (rd0 code)))))) (false, (ltG (putG (drawR (rd0 code))) (putQ (drawR (rd0 code)))).2.1, abcT)) (false, (ltG (putG (drawR (rd0 code))) (putQ (drawR (rd0 code)))).2.1, xyzT))).2.2.1), (⟨7, 4, 128⟩, .sl .bool (.all .w) ((putD (putD (flushV (putD (drawD (rd0 code)) (ltG (putG (drawR (rd0 code))) (putQ (drawR (rd0 code)))))) (false, (ltG (putG (drawR (rd0 code))) (putQ (drawR (rd0 code)))).2.1, abcT)) (false, (ltG (putG (drawR (rd0 code))) (putQ (drawR (rd0 code)))).2.1, xyzT))).2.2.2.1), (⟨7, 4, 192⟩, .sl T_Put (.all .w) ((putD (putD (flushV (putD (drawD (rd0 code)) (ltG (putG (drawR (rd0 code))) (putQ (drawR (rd0 code)))))) (false, (ltG (putG (drawR (rd0 code))) (putQ (drawR (rd0 code)))).2.1, abcT)) (false, (ltG (putG (drawR (rd0 code))) (putQ (drawR (rd0 code)))).2.1, xyzT))).2.2.2.2)], 7, []⟩) (ent_ok rfl ?_) ?_
              · skip
                simp [conj]
                try (repeat' apply And.intro
                     all_goals rfl)
              refine sw_region hP 8 [] rfl (by kernel_rfl) (fun _ => by kernel_rfl) (by first | trivial | (simp [conj]; done) | (simp [conj] at *; (try dsimp only [Ty.den, Ty.dflt] at *); omega)) ?_
              refine sw_seq ?_
              refine sw_ent (st' := ⟨[.junk, .v false [.d TB pF use], .junk, .junk, .junk, .v false [.ptr ⟨3, 5, 0⟩ 0], .v false [.ptr ⟨3, 6, 0⟩ 0], .v false [.ptr ⟨4, 3, 0⟩ 0], .v false [.ptr ⟨6, 6, 0⟩ 0], sStr (readV (putD (putD (flushV (putD (drawD (rd0 code)) (ltG (putG (drawR (rd0 code))) (putQ (drawR (rd0 code)))))) (false, (ltG (putG (drawR (rd0 code))) (putQ (drawR (rd0 code)))).2.1, abcT)) (false, (ltG (putG (drawR (rd0 code))) (putQ (drawR (rd0 code)))).2.1, xyzT)) (ltG (putG (drawR (rd0 code))) (putQ (drawR (rd0 code)))).2.1), sBool (decide (readV (putD (putD (flushV (putD (drawD (rd0 code)) (ltG (putG (drawR (rd0 code))) (putQ (drawR (rd0 code)))))) (false, (ltG (putG (drawR (rd0 code))) (putQ (drawR (rd0 code)))).2.1, abcT)) (false, (ltG (putG (drawR (rd0 code))) (putQ (drawR (rd0 code)))).2.1, xyzT)) (ltG (putG (drawR (rd0 code))) (putQ (drawR (rd0 code)))).2.1 ≠ [])), .junk, .junk, .junk, .junk, .junk, .junk, .junk, .junk, .junk, .junk, .junk, .junk, .junk, .junk, .junk, .junk, .junk, .junk, .junk, .junk, .junk, .junk, .junk, .junk, .junk, .junk, .junk, .junk, .junk, .junk, .junk, .junk, .junk, .junk, .junk, .junk, .junk, .junk, .junk, .junk, .junk, .junk, .junk, .junk, .junk, .junk, .junk, .junk, .junk, .junk, .junk, .junk, .junk, .junk, .junk, .junk, .junk, .junk, .junk, .junk, .junk, .junk, .junk, .junk, .junk, .junk, .junk, .junk, .junk, .junk, .junk, .junk, .junk, .junk, .junk, .junk, .junk, .junk, .junk, .junk, .junk, .junk, .junk, .junk, .junk, .junk, .junk, .junk, .junk, .junk, .junk, .junk, .junk, .junk, .junk, .junk, .junk, .junk, .junk, .junk, .junk, .junk, .junk, .junk, .junk, .junk, .junk, .junk, .junk, .junk, .junk, .junk, .junk, .junk, .junk, .junk, .junk, .junk, .junk, .junk, .junk, .junk, .junk, .junk, .junk, .junk, .junk], [(⟨3, 6, 0⟩, .var [.d .bool pF (ltG (putG (drawR (rd0 code))) (putQ (drawR (rd0 code)))).1, .d TI pF (ltG (putG (drawR (rd0 code))) (putQ (drawR (rd0 code)))).2.1, .d .str pF (ltG (putG (drawR (rd0 code))) (putQ (drawR (rd0 code)))).2.2]), (⟨6, 6, 0⟩, .var [.d TI pF ((putD (putD (flushV (putD (drawD (rd0 code)) (ltG (putG (drawR (rd0 code))) (putQ (drawR (rd0 code)))))) (false, (ltG (putG (drawR (rd0 code))) (putQ (drawR (rd0 code)))).2.1, abcT)) (false, (ltG (putG (drawR (rd0 code))) (putQ (drawR (rd0 code)))).2.1, xyzT))).1, .own ⟨7, 4, 0⟩, .own ⟨7, 4, 64⟩, .own ⟨7, 4, 128⟩, .own ⟨7, 4, 192⟩]), (⟨7, 4, 0⟩, .sl .str (.all .w) ((putD (putD (flushV (putD (drawD (rd0 code)) (ltG (putG (drawR (rd0 code))) (putQ (drawR (rd0 code)))))) (false, (ltG (putG (drawR (rd0 code))) (putQ (drawR (rd0 code)))).2.1, abcT)) (false, (ltG (putG (drawR (rd0 code))) (putQ (drawR (rd0 code)))).2.1, xyzT))).2.1), (⟨7, 4, 64⟩, .sl .str (.all .w) ((putD (putD (flushV (putD (drawD (rd0 code)) (ltG (putG (drawR (rd0 code))) (putQ (drawR (rd0 code)))))) (false, (ltG (putG (drawR (rd0 code))) (putQ (drawR (rd0 code)))).2.1, abcT)) (false, (ltG (putG (drawR (rd0 code))) (putQ (drawR (rd0 code)))).2.1, xyzT))).2.2.1), (⟨7, 4, 128⟩, .sl .bool (.all .w) ((putD (putD (flushV (putD (drawD (rd0 code)) (ltG (putG (drawR (rd0 code))) (putQ (drawR (rd0 code)))))) (false, (ltG (putG (drawR (rd0 code))) (putQ (drawR (rd0 code)))).2.1, abcT)) (false, (ltG (putG (drawR (rd0 code))) (putQ (drawR (rd0 code)))).2.1, xyzT))).2.2.2.1), (⟨7, 4, 192⟩, .sl T_Put (.all .w) ((putD (putD (flushV (putD (drawD (rd0 code)) (ltG (putG (drawR (rd0 code))) (putQ (drawR (rd0 code)))))) (false, (ltG (putG (drawR (rd0 code))) (putQ (drawR (rd0 code)))).2.1, abcT)) (false, (ltG (putG (drawR (rd0 code))) (putQ (drawR (rd0 code)))).2.1, xyzT))).2.2.2.2)], 8, []⟩) (ent_ok rfl ?_) ?_
              · skip
                simp [conj]
                try (repeat' apply And.intro
                     all_goals rfl)
              refine sw_region hP 9 [] rfl (by kernel_rfl) (fun _ => by kernel_rfl) (by first | trivial | (simp [conj]; done) | (simp [conj] at *; (try dsimp only [Ty.den, Ty.dflt] at *); omega)) ?_
              refine sw_seq ?_
              refine sw_ent (st' := ⟨[.junk, .v false [.d TB pF use], .junk, .junk, .junk, .v false [.ptr ⟨3, 5, 0⟩ 0], .v false [.ptr ⟨3, 6, 0⟩ 0], .v false [.ptr ⟨4, 3, 0⟩ 0], .v false [.ptr ⟨6, 6, 0⟩ 0], sStr (readV (putD (putD (flushV (putD (drawD (rd0 code)) (ltG (putG (drawR (rd0 code))) (putQ (drawR (rd0 code)))))) (false, (ltG (putG (drawR (rd0 code))) (putQ (drawR (rd0 code)))).2.1, abcT)) (false, (ltG (putG (drawR (rd0 code))) (putQ (drawR (rd0 code)))).2.1, xyzT)) (ltG (putG (drawR (rd0 code))) (putQ (drawR (rd0 code)))).2.1), sBool (decide (readV (putD (putD (flushV (putD (drawD (rd0 code)) (ltG (putG (drawR (rd0 code))) (putQ (drawR (rd0 code)))))) (false, (ltG (putG (drawR (rd0 code))) (putQ (drawR (rd0 code)))).2.1, abcT)) (false, (ltG (putG (drawR (rd0 code))) (putQ (drawR (rd0 code)))).2.1, xyzT)) (ltG (putG (drawR (rd0 code))) (putQ (drawR (rd0 code)))).2.1 ≠ [])), sStr (readV (flushV (putD (putD (flushV (putD (drawD (rd0 code)) (ltG (putG (drawR (rd0 code))) (putQ (drawR (rd0 code)))))) (false, (ltG (putG (drawR (rd0 code))) (putQ (drawR (rd0 code)))).2.1, abcT)) (false, (ltG (putG (drawR (rd0 code))) (putQ (drawR (rd0 code)))).2.1, xyzT))) (ltG (putG (drawR (rd0 code))) (putQ (drawR (rd0 code)))).2.1), sBool (decide (readV (flushV (putD (putD (flushV (putD (drawD (rd0 code)) (ltG (putG (drawR (rd0 code))) (putQ (drawR (rd0 code)))))) (false, (ltG (putG (drawR (rd0 code))) (putQ (drawR (rd0 code)))).2.1, abcT)) (false, (ltG (putG (drawR (rd0 code))) (putQ (drawR (rd0 code)))).2.1, xyzT))) (ltG (putG (drawR (rd0 code))) (putQ (drawR (rd0 code)))).2.1 ≠ [])), .junk, .junk, .junk, .junk, .junk, .junk, .junk, .junk, .junk, .junk, .junk, .junk, .junk, .junk, .junk, .junk, .junk, .junk, .junk, .junk, .junk, .junk, .junk, .junk, .junk, .junk, .junk, .junk, .junk, .junk, .junk, .junk, .junk, .junk, .junk, .junk, .junk, .junk, .junk, .junk, .junk, .junk, .junk, .junk, .junk, .junk, .junk, .junk, .junk, .junk, .junk, .junk, .junk, .junk, .junk, .junk, .junk, .junk, .junk, .junk, .junk, .junk, .junk, .junk, .junk, .junk, .junk, .junk, .junk, .junk, .junk, .junk, .junk, .junk, .junk, .junk, .junk, .junk, .junk, .junk, .junk, .junk, .junk, .junk, .junk, .junk, .junk, .junk, .junk, .junk, .junk, .junk, .junk, .junk, .junk, .junk, .junk, .junk, .junk, .junk, .junk, .junk, .junk, .junk, .junk, .junk, .junk, .junk, .junk, .junk, .junk, .junk, .junk, .junk, .junk, .junk, .junk, .junk, .junk, .junk, .junk, .junk, .junk, .junk, .junk], [(⟨3, 6, 0⟩, .var [.d .bool pF (ltG (putG (drawR (rd0 code))) (putQ (drawR (rd0 code)))).1, .d TI pF (ltG (putG (drawR (rd0 code))) (putQ (drawR (rd0 code)))).2.1, .d .str pF (ltG (putG (drawR (rd0 code))) (putQ (drawR (rd0 code)))).2.2]), (⟨6, 6, 0⟩, .var [.d TI pF ((putD (putD (flushV (putD (drawD (rd0 code)) (ltG (putG (drawR (rd0 code))) (putQ (drawR (rd0 code)))))) (false, (ltG (putG (drawR (rd0 code))) (putQ (drawR (rd0 code)))).2.1, abcT)) (false, (ltG (putG (drawR (rd0 code))) (putQ (drawR (rd0 code)))).2.1, xyzT))).1, .own ⟨7, 4, 0⟩, .own ⟨7, 4, 64⟩, .own ⟨7, 4, 128⟩, .own ⟨7, 4, 192⟩]), (⟨7, 4, 0⟩, .sl .str (.all .w) ((putD (putD (flushV (putD (drawD (rd0 code)) (ltG (putG (drawR (rd0 code))) (putQ (drawR (rd0 code)))))) (false, (ltG (putG (drawR (rd0 code))) (putQ (drawR (rd0 code)))).2.1, abcT)) (false, (ltG (putG (drawR (rd0 code))) (putQ (drawR (rd0 code)))).2.1, xyzT))).2.1), (⟨7, 4, 64⟩, .sl .str (.all .w) ((putD (putD (flushV (putD (drawD (rd0 code)) (ltG (putG (drawR (rd0 code))) (putQ (drawR (rd0 code)))))) (false, (ltG (putG (drawR (rd0 code))) (putQ (drawR (rd0 code)))).2.1, abcT)) (false, (ltG (putG (drawR (rd0 code))) (putQ (drawR (rd0 code)))).2.1, xyzT))).2.2.1), (⟨7, 4, 128⟩, .sl .bool (.all .w) ((putD (putD (flushV (putD (drawD (rd0 code)) (ltG (putG (drawR (rd0 code))) (putQ (drawR (rd0 code)))))) (false, (ltG (putG (drawR (rd0 code))) (putQ (drawR (rd0 code)))).2.1, abcT)) (false, (ltG (putG (drawR (rd0 code))) (putQ (drawR (rd0 code)))).2.1, xyzT))).2.2.2.1), (⟨7, 4, 192⟩, .sl T_Put (.all .w) ((putD (putD (flushV (putD (drawD (rd0 code)) (ltG (putG (drawR (rd0 code))) (putQ (drawR (rd0 code)))))) (false, (ltG (putG (drawR (rd0 code))) (putQ (drawR (rd0 code)))).2.1, abcT)) (false, (ltG (putG (drawR (rd0 code))) (putQ (drawR (rd0 code)))).2.1, xyzT))).2.2.2.2)], 9, []⟩) (ent_ok rfl ?_) ?_
              · skip
                simp [conj]
                try (repeat' apply And.intro
                     all_goals rfl)
              refine sw_region hP 10 [] rfl (by kernel_rfl) (fun _ => by kernel_rfl) (by first | trivial | (simp [conj]; done) | (simp [conj] at *; (try dsimp only [Ty.den, Ty.dflt] at *); omega)) ?_
              refine sw_seq ?_
              refine sw_ent (st' := ⟨[.junk, .v false [.d TB pF use], .junk, .junk, .junk, .v false [.ptr ⟨3, 5, 0⟩ 0], .v false [.ptr ⟨3, 6, 0⟩ 0], .v false [.ptr ⟨4, 3, 0⟩ 0], .v false [.ptr ⟨6, 6, 0⟩ 0], sStr (readV (putD (putD (flushV (putD (drawD (rd0 code)) (ltG (putG (drawR (rd0 code))) (putQ (drawR (rd0 code)))))) (false, (ltG (putG (drawR (rd0 code))) (putQ (drawR (rd0 code)))).2.1, abcT)) (false, (ltG (putG (drawR (rd0 code))) (putQ (drawR (rd0 code)))).2.1, xyzT)) (ltG (putG (drawR (rd0 code))) (putQ (drawR (rd0 code)))).2.1), sBool (decide (readV (putD (putD (flushV (putD (drawD (rd0 code)) (ltG (putG (drawR (rd0 code))) (putQ (drawR (rd0 code)))))) (false, (ltG (putG (drawR (rd0 code))) (putQ (drawR (rd0 code)))).2.1, abcT)) (false, (ltG (putG (drawR (rd0 code))) (putQ (drawR (rd0 code)))).2.1, xyzT)) (ltG (putG (drawR (rd0 code))) (putQ (drawR (rd0 code)))).2.1 ≠ [])), sStr (readV (flushV (putD (putD (flushV (putD (drawD (rd0 code)) (ltG (putG (drawR (rd0 code))) (putQ (drawR (rd0 code)))))) (false, (ltG (putG (drawR (rd0 code))) (putQ (drawR (rd0 code)))).2.1, abcT)) (false, (ltG (putG (drawR (rd0 code))) (putQ (drawR (rd0 code)))).2.1, xyzT))) (ltG (putG (drawR (rd0 code))) (putQ (drawR (rd0 code)))).2.1), sBool (decide (readV (flushV (putD (putD (flushV (putD (drawD (rd0 code)) (ltG (putG (drawR (rd0 code))) (putQ (drawR (rd0 code)))))) (false, (ltG (putG (drawR (rd0 code))) (putQ (drawR (rd0 code)))).2.1, abcT)) (false, (ltG (putG (drawR (rd0 code))) (putQ (drawR (rd0 code)))).2.1, xyzT))) (ltG (putG (drawR (rd0 code))) (putQ (drawR (rd0 code)))).2.1 ≠ [])), sStr (readV (crashV (putD (putD (flushV (putD (drawD (rd0 code)) (ltG (putG (drawR (rd0 code))) (putQ (drawR (rd0 code)))))) (false, (ltG (putG (drawR (rd0 code))) (putQ (drawR (rd0 code)))).2.1, abcT)) (false, (ltG (putG (drawR (rd0 code))) (putQ (drawR (rd0 code)))).2.1, xyzT)) 1) (ltG (putG (drawR (rd0 code))) (putQ (drawR (rd0 code)))).2.1), sBool (decide (readV (crashV (putD (putD (flushV (putD (drawD (rd0 code)) (ltG (putG (drawR (rd0 code))) (putQ (drawR (rd0 code)))))) (false, (ltG (putG (drawR (rd0 code))) (putQ (drawR (rd0 code)))).2.1, abcT)) (false, (ltG (putG (drawR (rd0 code))) (putQ (drawR (rd0 code)))).2.1, xyzT)) 1) (ltG (putG (drawR (rd0 code))) (putQ (drawR (rd0 code)))).2.1 ≠ [])), .junk, .junk, .junk, .junk, .junk, .junk, .junk, .junk, .junk, .junk, .junk, .junk, .junk, .junk, .junk, .junk, .junk, .junk, .junk, .junk, .junk, .junk, .junk, .junk, .junk, .junk, .junk, .junk, .junk, .junk, .junk, .junk, .junk, .junk, .junk, .junk, .junk, .junk, .junk, .junk, .junk, .junk, .junk, .junk, .junk, .junk, .junk, .junk, .junk, .junk, .junk, .junk, .junk, .junk, .junk, .junk, .junk, .junk, .junk, .junk, .junk, .junk, .junk, .junk, .junk, .junk, .junk, .junk, .junk, .junk, .junk, .junk, .junk, .junk, .junk, .junk, .junk, .junk, .junk, .junk, .junk, .junk, .junk, .junk, .junk, .junk, .junk, .junk, .junk, .junk, .junk, .junk, .junk, .junk, .junk, .junk, .junk, .junk, .junk, .junk, .junk, .junk, .junk, .junk, .junk, .junk, .junk, .junk, .junk, .junk, .junk, .junk, .junk, .junk, .junk, .junk, .junk, .junk, .junk, .junk, .junk, .junk, .junk], [(⟨3, 6, 0⟩, .var [.d .bool pF (ltG (putG (drawR (rd0 code))) (putQ (drawR (rd0 code)))).1, .d TI pF (ltG (putG (drawR (rd0 code))) (putQ (drawR (rd0 code)))).2.1, .d .str pF (ltG (putG (drawR (rd0 code))) (putQ (drawR (rd0 code)))).2.2]), (⟨6, 6, 0⟩, .var [.d TI pF ((putD (putD (flushV (putD (drawD (rd0 code)) (ltG (putG (drawR (rd0 code))) (putQ (drawR (rd0 code)))))) (false, (ltG (putG (drawR (rd0 code))) (putQ (drawR (rd0 code)))).2.1, abcT)) (false, (ltG (putG (drawR (rd0 code))) (putQ (drawR (rd0 code)))).2.1, xyzT))).1, .own ⟨7, 4, 0⟩, .own ⟨7, 4, 64⟩, .own ⟨7, 4, 128⟩, .own ⟨7, 4, 192⟩]), (⟨7, 4, 0⟩, .sl .str (.all .w) ((putD (putD (flushV (putD (drawD (rd0 code)) (ltG (putG (drawR (rd0 code))) (putQ (drawR (rd0 code)))))) (false, (ltG (putG (drawR (rd0 code))) (putQ (drawR (rd0 code)))).2.1, abcT)) (false, (ltG (putG (drawR (rd0 code))) (putQ (drawR (rd0 code)))).2.1, xyzT))).2.1), (⟨7, 4, 64⟩, .sl .str (.all .w) ((putD (putD (flushV (putD (drawD (rd0 code)) (ltG (putG (drawR (rd0 code))) (putQ (drawR (rd0 code)))))) (false, (ltG (putG (drawR (rd0 code))) (putQ (drawR (rd0 code)))).2.1, abcT)) (false, (ltG (putG (drawR (rd0 code))) (putQ (drawR (rd0 code)))).2.1, xyzT))).2.2.1), (⟨7, 4, 128⟩, .sl .bool (.all .w) ((putD (putD (flushV (putD (drawD (rd0 code)) (ltG (putG (drawR (rd0 code))) (putQ (drawR (rd0 code)))))) (false, (ltG (putG (drawR (rd0 code))) (putQ (drawR (rd0 code)))).2.1, abcT)) (false, (ltG (putG (drawR (rd0 code))) (putQ (drawR (rd0 code)))).2.1, xyzT))).2.2.2.1), (⟨7, 4, 192⟩, .sl T_Put (.all .w) ((putD (putD (flushV (putD (drawD (rd0 code)) (ltG (putG (drawR (rd0 code))) (putQ (drawR (rd0 code)))))) (false, (ltG (putG (drawR (rd0 code))) (putQ (drawR (rd0 code)))).2.1, abcT)) (false, (ltG (putG (drawR (rd0 code))) (putQ (drawR (rd0 code)))).2.1, xyzT))).2.2.2.2)], 10, []⟩) (ent_ok rfl ?_) ?_
              · skip
                simp [conj]
                try (repeat' apply And.intro
                     all_goals rfl)
              refine sw_region hP 11 [] rfl (by kernel_rfl) (fun _ => by kernel_rfl) ?_ ?_
              · skip
                simp only [conj, List.nil_append, List.cons_append, List.append_nil, List.append_assoc, inR_i64, true_and, and_true, Int.toNat_natCast]
                try dsimp only [Ty.den, Ty.dflt]
                repeat' apply And.intro
                all_goals first | trivial | decide | omega | (show _ ≤ (((use.length : Nat) : Int).tmod 4).tdiv 2 * 2; rw [hcm, hcd]; omega) | (show (((use.length : Nat) : Int).tmod 4).tdiv 2 * 2 ≤ _; rw [hcm, hcd]; omega) | (show _ ≤ (((use.length : Nat) : Int).tmod 4).tdiv 2; rw [hcm, hcd]; omega) | (show (((use.length : Nat) : Int).tmod 4).tdiv 2 ≤ _; rw [hcm, hcd]; omega)
              refine sw_seq ?_
              refine sw_ent (st' := ⟨[.junk, .junk, .junk, .junk, .junk, .v false [.ptr ⟨3, 5, 0⟩ 0], .v false [.ptr ⟨3, 6, 0⟩ 0], .v false [.ptr ⟨4, 3, 0⟩ 0], .v false [.ptr ⟨6, 6, 0⟩ 0], sStr (readV (putD (putD (flushV (putD (drawD (rd0 code)) (ltG (putG (drawR (rd0 code))) (putQ (drawR (rd0 code)))))) (false, (ltG (putG (drawR (rd0 code))) (putQ (drawR (rd0 code)))).2.1, abcT)) (false, (ltG (putG (drawR (rd0 code))) (putQ (drawR (rd0 code)))).2.1, xyzT)) (ltG (putG (drawR (rd0 code))) (putQ (drawR (rd0 code)))).2.1), sBool (decide (readV (putD (putD (flushV (putD (drawD (rd0 code)) (ltG (putG (drawR (rd0 code))) (putQ (drawR (rd0 code)))))) (false, (ltG (putG (drawR (rd0 code))) (putQ (drawR (rd0 code)))).2.1, abcT)) (false, (ltG (putG (drawR (rd0 code))) (putQ (drawR (rd0 code)))).2.1, xyzT)) (ltG (putG (drawR (rd0 code))) (putQ (drawR (rd0 code)))).2.1 ≠ [])), sStr (readV (flushV (putD (putD (flushV (putD (drawD (rd0 code)) (ltG (putG (drawR (rd0 code))) (putQ (drawR (rd0 code)))))) (false, (ltG (putG (drawR (rd0 code))) (putQ (drawR (rd0 code)))).2.1, abcT)) (false, (ltG (putG (drawR (rd0 code))) (putQ (drawR (rd0 code)))).2.1, xyzT))) (ltG (putG (drawR (rd0 code))) (putQ (drawR (rd0 code)))).2.1), sBool (decide (readV (flushV (putD (putD (flushV (putD (drawD (rd0 code)) (ltG (putG (drawR (rd0 code))) (putQ (drawR (rd0 code)))))) (false, (ltG (putG (drawR (rd0 code))) (putQ (drawR (rd0 code)))).2.1, abcT)) (false, (ltG (putG (drawR (rd0 code))) (putQ (drawR (rd0 code)))).2.1, xyzT))) (ltG (putG (drawR (rd0 code))) (putQ (drawR (rd0 code)))).2.1 ≠ [])), sStr (readV (crashV (putD (putD (flushV (putD (drawD (rd0 code)) (ltG (putG (drawR (rd0 code))) (putQ (drawR (rd0 code)))))) (false, (ltG (putG (drawR (rd0 code))) (putQ (drawR (rd0 code)))).2.1, abcT)) (false, (ltG (putG (drawR (rd0 code))) (putQ (drawR (rd0 code)))).2.1, xyzT)) 1) (ltG (putG (drawR (rd0 code))) (putQ (drawR (rd0 code)))).2.1), sBool (decide (readV (crashV (putD (putD (flushV (putD (drawD (rd0 code)) (ltG (putG (drawR (rd0 code))) (putQ (drawR (rd0 code)))))) (false, (ltG (putG (drawR (rd0 code))) (putQ (drawR (rd0 code)))).2.1, abcT)) (false, (ltG (putG (drawR (rd0 code))) (putQ (drawR (rd0 code)))).2.1, xyzT)) 1) (ltG (putG (drawR (rd0 code))) (putQ (drawR (rd0 code)))).2.1 ≠ [])), sStr (readV (crashV (putD (putD (flushV (putD (drawD (rd0 code)) (ltG (putG (drawR (rd0 code))) (putQ (drawR (rd0 code)))))) (false, (ltG (putG (drawR (rd0 code))) (putQ (drawR (rd0 code)))).2.1, abcT)) (false, (ltG (putG (drawR (rd0 code))) (putQ (drawR (rd0 code)))).2.1, xyzT)) ((((use.length : Nat) : Int).tmod 4).tdiv 2 * 2)) (ltG (putG (drawR (rd0 code))) (putQ (drawR (rd0 code)))).2.1), sBool (decide (readV (crashV (putD (putD (flushV (putD (drawD (rd0 code)) (ltG (putG (drawR (rd0 code))) (putQ (drawR (rd0 code)))))) (false, (ltG (putG (drawR (rd0 code))) (putQ (drawR (rd0 code)))).2.1, abcT)) (false, (ltG (putG (drawR (rd0 code))) (putQ (drawR (rd0 code)))).2.1, xyzT)) ((((use.length : Nat) : Int).tmod 4).tdiv 2 * 2)) (ltG (putG (drawR (rd0 code))) (putQ (drawR (rd0 code)))).2.1 ≠ [])), .junk, .junk, .junk, .junk, .junk, .junk, .junk, .junk, .junk, .junk, .junk, .junk, .junk, .junk, .junk, .junk, .junk, .junk, .junk, .junk, .junk, .junk, .junk, .junk, .junk, .junk, .junk, .junk, .junk, .junk, .junk, .junk, .junk, .junk, .junk, .junk, .junk, .junk, .junk, .junk, .junk, .junk, .junk, .junk, .junk, .junk, .junk, .junk, .junk, .junk, .junk, .junk, .junk, .junk, .junk, .junk, .junk, .junk, .junk, .junk, .junk, .junk, .junk, .junk, .junk, .junk, .junk, .junk, .junk, .junk, .junk, .junk, .junk, .junk, .junk, .junk, .junk, .junk, .junk, .junk, .junk, .junk, .junk, .junk, .junk, .junk, .junk, .junk, .junk, .junk, .junk, .junk, .junk, .junk, .junk, .junk, .junk, .junk, .junk, .junk, .junk, .junk, .junk, .junk, .junk, .junk, .junk, .junk, .junk, .junk, .junk, .junk, .junk, .junk, .junk, .junk, .junk, .junk, .junk, .junk, .junk], [(⟨3, 6, 0⟩, .var [.d .bool pF (ltG (putG (drawR (rd0 code))) (putQ (drawR (rd0 code)))).1, .d TI pF (ltG (putG (drawR (rd0 code))) (putQ (drawR (rd0 code)))).2.1, .d .str pF (ltG (putG (drawR (rd0 code))) (putQ (drawR (rd0 code)))).2.2])], 11, []⟩) (ent_ok rfl ?_) ?_
              · skip
                simp [conj]
                try (repeat' apply And.intro
                     all_goals rfl)
              refine sw_dec hP 12 [] 1 rfl (fun g13_1 => ?_) (fun g13_1 => ?_)
              · skip
                refine sw_dec hP 12 [(1, true)] 4 rfl (fun g13_4 => ?_) (fun g13_4 => ?_)
                · skip
                  refine sw_dec hP 12 [(1, true), (4, true)] 7 rfl (fun g13_7 => ?_) (fun g13_7 => ?_)
                  · skip
                    refine sw_dec hP 12 [(1, true), (4, true), (7, true)] 10 rfl (fun g13_10 => ?_) (fun g13_10 => ?_)
                    · skip
                      refine sw_dec hP 12 [(1, true), (4, true), (7, true), (10, true)] 14 rfl (fun g13_14 => ?_) (fun g13_14 => ?_)
                      · skip
                        refine sw_dec hP 12 [(1, true), (4, true), (7, true), (10, true), (14, true)] 18 rfl (fun g13_18 => ?_) (fun g13_18 => ?_)
                        · skip
                          refine sw_dec hP 12 [(1, true), (4, true), (7, true), (10, true), (14, true), (18, true)] 22 rfl (fun g13_22 => ?_) (fun g13_22 => ?_)
                          · skip
                            refine sw_dec hP 12 [(1, true), (4, true), (7, true), (10, true), (14, true), (18, true), (22, true)] 25 rfl (fun g13_25 => ?_) (fun g13_25 => ?_)
                            · skip
                              refine sw_region hP 12 [(1, true), (4, true), (7, true), (10, true), (14, true), (18, true), (22, true), (25, true)] rfl (by kernel_rfl) (fun _ => by kernel_rfl) (by first | trivial | (simp [conj]; done) | (simp [conj] at *; (try dsimp only [Ty.den, Ty.dflt] at *); omega)) ?_
                              refine sw_ret ⟨.inl rfl, _, rfl, ?_⟩
                              simp [conj, eqDV_self]
                            · skip
                              refine sw_region hP 12 [(1, true), (4, true), (7, true), (10, true), (14, true), (18, true), (22, true), (25, false)] rfl (by kernel_rfl) (fun _ => by kernel_rfl) (by first | trivial | (simp [conj]; done) | (simp [conj] at *; (try dsimp only [Ty.den, Ty.dflt] at *); omega)) ?_
                              refine sw_ret ⟨.inl rfl, _, rfl, ?_⟩
                              simp [conj]
                              exact r6.resolve_left (of_decide_eq_false g13_25)
                          · skip
                            have h : decide (readV (crashV (putD (putD (flushV (putD (drawD (rd0 code)) (ltG (putG (drawR (rd0 code))) (putQ (drawR (rd0 code)))))) (false, (ltG (putG (drawR (rd0 code))) (putQ (drawR (rd0 code)))).2.1, abcT)) (false, (ltG (putG (drawR (rd0 code))) (putQ (drawR (rd0 code)))).2.1, xyzT)) 1) (ltG (putG (drawR (rd0 code))) (putQ (drawR (rd0 code)))).2.1 = abcT) = false := g13_22
                            rw [r3] at h
                            simp at h
                        · skip
                          have h : decide (readV (flushV (putD (putD (flushV (putD (drawD (rd0 code)) (ltG (putG (drawR (rd0 code))) (putQ (drawR (rd0 code)))))) (false, (ltG (putG (drawR (rd0 code))) (putQ (drawR (rd0 code)))).2.1, abcT)) (false, (ltG (putG (drawR (rd0 code))) (putQ (drawR (rd0 code)))).2.1, xyzT))) (ltG (putG (drawR (rd0 code))) (putQ (drawR (rd0 code)))).2.1 = xyzT) = false := g13_18
                          rw [r2] at h
                          simp at h
                      · skip
                        have h : decide (readV (putD (putD (flushV (putD (drawD (rd0 code)) (ltG (putG (drawR (rd0 code))) (putQ (drawR (rd0 code)))))) (false, (ltG (putG (drawR (rd0 code))) (putQ (drawR (rd0 code)))).2.1, abcT)) (false, (ltG (putG (drawR (rd0 code))) (putQ (drawR (rd0 code)))).2.1, xyzT)) (ltG (putG (drawR (rd0 code))) (putQ (drawR (rd0 code)))).2.1 = xyzT) = false := g13_14
                        rw [r1] at h
                        simp at h
                    · skip
                      have h : decide (readV (crashV (putD (putD (flushV (putD (drawD (rd0 code)) (ltG (putG (drawR (rd0 code))) (putQ (drawR (rd0 code)))))) (false, (ltG (putG (drawR (rd0 code))) (putQ (drawR (rd0 code)))).2.1, abcT)) (false, (ltG (putG (drawR (rd0 code))) (putQ (drawR (rd0 code)))).2.1, xyzT)) ((((use.length : Nat) : Int).tmod 4).tdiv 2 * 2)) (ltG (putG (drawR (rd0 code))) (putQ (drawR (rd0 code)))).2.1 ≠ []) = false := g13_10
                      exact (r7 (by simpa using h)).elim
                  · skip
                    have h : decide (readV (crashV (putD (putD (flushV (putD (drawD (rd0 code)) (ltG (putG (drawR (rd0 code))) (putQ (drawR (rd0 code)))))) (false, (ltG (putG (drawR (rd0 code))) (putQ (drawR (rd0 code)))).2.1, abcT)) (false, (ltG (putG (drawR (rd0 code))) (putQ (drawR (rd0 code)))).2.1, xyzT)) 1) (ltG (putG (drawR (rd0 code))) (putQ (drawR (rd0 code)))).2.1 ≠ []) = false := g13_7
                    rw [r3] at h
                    simp [xyzT, abcT] at h
                · skip
                  have h : decide (readV (flushV (putD (putD (flushV (putD (drawD (rd0 code)) (ltG (putG (drawR (rd0 code))) (putQ (drawR (rd0 code)))))) (false, (ltG (putG (drawR (rd0 code))) (putQ (drawR (rd0 code)))).2.1, abcT)) (false, (ltG (putG (drawR (rd0 code))) (putQ (drawR (rd0 code)))).2.1, xyzT))) (ltG (putG (drawR (rd0 code))) (putQ (drawR (rd0 code)))).2.1 ≠ []) = false := g13_4
                  rw [r2] at h
                  simp [xyzT, abcT] at h
              · skip
                have h : decide (readV (putD (putD (flushV (putD (drawD (rd0 code)) (ltG (putG (drawR (rd0 code))) (putQ (drawR (rd0 code)))))) (false, (ltG (putG (drawR (rd0 code))) (putQ (drawR (rd0 code)))).2.1, abcT)) (false, (ltG (putG (drawR (rd0 code))) (putQ (drawR (rd0 code)))).2.1, xyzT)) (ltG (putG (drawR (rd0 code))) (putQ (drawR (rd0 code)))).2.1 ≠ []) = false := g13_1
                rw [r1] at h
                simp [xyzT, abcT] at h
end Go.Sx
