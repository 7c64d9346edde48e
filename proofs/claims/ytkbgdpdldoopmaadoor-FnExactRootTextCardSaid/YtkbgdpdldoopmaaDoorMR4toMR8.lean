/- Several texts, one behind the other. -/
import Derived.Test.YtkbgdpdldoopmaaDoorMOpentoMWei
import Derived.Test.YtkbgdpdldoopmaaDoorMShelftoMR3
set_option linter.all false
namespace Go.Sx
open Go
set_option maxRecDepth 100000
set_option linter.unusedVariables false
set_option linter.unusedSimpArgs false
set_option maxHeartbeats 2000000

def cIn : Ctr := ⟨35, [.val false TI pF, .val false TI pF, .val false TI pF], fun x => True, fun x => (sBool (inV x.1 x.2.1 x.2.2.1), [])⟩
theorem cIn_ok : CtrOk Proofs.Tryd.prog cIn := by
  have hP := (Prg.none ttok mtok)
  refine ctr_of_body hP cIn (fn := Proofs.Tryd.f35) (rts := [.tmp 6]) Proofs.Tryd.func35 rfl (by kernel_rfl) rfl rfl ?_
  rintro ⟨(n : Int), (lo : Int), (hi : Int), ⟨⟩⟩ _ _
  try dsimp only [Ty.den, Mode.den, mdens] at _
  refine ⟨rfl, ?_⟩
  refine sw_seq ?_
  refine sw_region hP 1 [] rfl (by kernel_rfl) (fun _ => by kernel_rfl) (by first | trivial | (simp [conj]; done) | (simp [conj] at *; (try dsimp only [Ty.den, Ty.dflt] at *); omega)) ?_
  refine sw_seq ?_
  refine sw_dec hP 2 [] 3 rfl (fun g1_3 => ?_) (fun g1_3 => ?_)
  · skip
    refine sw_region hP 2 [(3, true)] rfl (by kernel_rfl) (fun _ => by kernel_rfl) (by first | trivial | (simp [conj]; done) | (simp [conj] at *; (try dsimp only [Ty.den, Ty.dflt] at *); omega)) ?_
    refine sw_ret ⟨.inl rfl, _, rfl, ?_⟩
    simp [conj] at *
    simp [inV, *]
    try omega
  · skip
    refine sw_region hP 2 [(3, false)] rfl (by kernel_rfl) (fun _ => by kernel_rfl) (by first | trivial | (simp [conj]; done) | (simp [conj] at *; (try dsimp only [Ty.den, Ty.dflt] at *); omega)) ?_
    refine sw_ret ⟨.inl rfl, _, rfl, ?_⟩
    simp [conj] at *
    simp [inV, *]
    try omega

def cDisks : Ctr := ⟨34, [.val false TI pF], fun x => True, fun x => (sBool (poolV x.1), [])⟩
theorem cDisks_ok : CtrOk Proofs.Tryd.prog cDisks := by
  have hP := ((Prg.none ttok mtok).and cIn_ok)
  refine ctr_of_body hP cDisks (fn := Proofs.Tryd.f34) (rts := [.tmp 2]) Proofs.Tryd.func34 rfl (by kernel_rfl) rfl rfl ?_
  rintro ⟨(n : Int), ⟨⟩⟩ _ _
  try dsimp only [Ty.den, Mode.den, mdens] at _
  refine ⟨rfl, ?_⟩
  refine sw_seq ?_
  refine sw_region hP 1 [] rfl (by kernel_rfl) (fun _ => by kernel_rfl) (by first | trivial | (simp [conj]; done) | (simp [conj] at *; (try dsimp only [Ty.den, Ty.dflt] at *); omega)) ?_
  refine sw_seq ?_
  refine sw_region hP 2 [] rfl (by kernel_rfl) (fun _ => by kernel_rfl) ?_ ?_
  · skip
    simp only [conj, List.nil_append, List.cons_append, List.append_nil, List.append_assoc, inR_i64, true_and, and_true, Int.toNat_natCast]
    try dsimp only [Ty.den, Ty.dflt]
    repeat' apply And.intro
    all_goals first | trivial | assumption | omega | exact decide_eq_true ‹_› | exact decide_eq_false ‹_› | (simp [*]; done)
  refine sw_ret ⟨.inl rfl, _, rfl, ?_⟩
  simp [conj, poolV]

def cName : Ctr := ⟨55, [.val false .str pF], fun x => True, fun x => (sBool (nameV x.1), [])⟩
theorem cName_ok : CtrOk Proofs.Tryd.prog cName := by
  have hP := ((Prg.none ttok mtok).and cIn_ok)
  refine ctr_of_body hP cName (fn := Proofs.Tryd.f55) (rts := [.tmp 2]) Proofs.Tryd.func55 rfl (by kernel_rfl) rfl rfl ?_
  rintro ⟨(s : Str), ⟨⟩⟩ ⟨hds, _⟩ hpre
  try dsimp only [Ty.den, Mode.den, mdens] at hpre
  refine ⟨rfl, ?_⟩
  have hml : s.length ≤ 140737488355328 := hds
  refine sw_seq ?_
  refine sw_region hP 1 [] rfl (by kernel_rfl) (fun _ => by kernel_rfl) (by first | trivial | (simp [conj]; done) | (simp [conj] at *; (try dsimp only [Ty.den, Ty.dflt] at *); omega)) ?_
  refine sw_seq ?_
  refine sw_seq ?_
  refine sw_region hP 2 [] rfl (by kernel_rfl) (fun _ => by kernel_rfl) ?_ ?_
  · skip
    exact trivial
  refine sw_cond rfl (fun c1 => ?_) (fun c1 => ?_)
  · skip
    refine sw_seq ?_
    refine sw_region hP 3 [] rfl (by kernel_rfl) (fun _ => by kernel_rfl) (by first | trivial | (simp [conj]; done) | (simp [conj] at *; (try dsimp only [Ty.den, Ty.dflt] at *); omega)) ?_
    refine sw_ret ⟨.inl rfl, _, rfl, ?_⟩
    first | (simp at c1; simp [conj, nameV, c1]; done) | (simp [List.getElem?_eq_getElem hlt] at g6_4; simp only [conj, nameV, hin, all_hit hlt hgo (lower_l g6_4)]; rfl) | (simp [List.getElem?_eq_getElem hlt] at c6; simp only [conj, nameV, hin, all_hit hlt hgo (lower_h c6)]; rfl) | (simp only [conj, nameV, hin, all_end hgo]; rfl)
  · skip
    refine sw_skip ?_
    refine sw_seq ?_
    refine sw_seq ?_
    refine sw_region hP 3 [] rfl (by kernel_rfl) (fun _ => by kernel_rfl) (by first | trivial | (simp [conj]; done) | (simp [conj] at *; (try dsimp only [Ty.den, Ty.dflt] at *); omega)) ?_
    refine sw_block ?_
    refine sw_loop (ι := Nat) (fun i => ⟨[.v false [.d .str pF s], .junk, .junk, sInt .i64 (i : Int), .junk, .junk, .junk, .junk, .junk, .junk, .junk, .junk, .junk, .junk, .junk, .junk, .junk, .junk, .junk, .junk, .junk, .junk, .junk, .junk], [], 3, []⟩) (fun i => s.length - i) (fun i => i ≤ s.length ∧ (inV s.length 1 3 = true) ∧ (s.drop i).all lower = s.all lower) 0 ⟨?_, ?_⟩ ?_
    · skip
      refine ⟨Nat.zero_le _, ?_, rfl⟩
      simpa using c1
    · refine ent_ok rfl ?_
      first | trivial | (simp [conj]; done) | (simp [conj] at *; (try dsimp only [Ty.den, Ty.dflt] at *); omega)
    · rintro i ⟨hi, hin, hgo⟩
      refine sw_seq ?_
      refine sw_seq ?_
      refine sw_region hP 4 [] rfl (by kernel_rfl) (fun _ => by kernel_rfl) (by first | trivial | (simp [conj]; done) | (simp [conj] at *; (try dsimp only [Ty.den, Ty.dflt] at *); omega)) ?_
      refine sw_cond rfl (fun c4 => ?_) (fun c4 => ?_)
      · skip
        have hlt : i < s.length := by simpa using c4
        refine sw_skip ?_
        refine sw_seq ?_
        refine sw_block ?_
        refine sw_seq ?_
        refine sw_dec hP 5 [] 4 rfl (fun g6_4 => ?_) (fun g6_4 => ?_)
        · skip
          refine sw_region hP 5 [(4, true)] rfl (by kernel_rfl) (fun _ => by kernel_rfl) (by first | trivial | (simp [conj]; done) | (simp [conj] at *; (try dsimp only [Ty.den, Ty.dflt] at *); omega)) ?_
          refine sw_condT rfl ?_
          refine sw_seq ?_
          refine sw_region hP 6 [] rfl (by kernel_rfl) (fun _ => by kernel_rfl) (by first | trivial | (simp [conj]; done) | (simp [conj] at *; (try dsimp only [Ty.den, Ty.dflt] at *); omega)) ?_
          refine sw_ret ⟨.inl rfl, _, rfl, ?_⟩
          first | (simp at c1; simp [conj, nameV, c1]; done) | (simp [List.getElem?_eq_getElem hlt] at g6_4; simp only [conj, nameV, hin, all_hit hlt hgo (lower_l g6_4)]; rfl) | (simp [List.getElem?_eq_getElem hlt] at c6; simp only [conj, nameV, hin, all_hit hlt hgo (lower_h c6)]; rfl) | (simp only [conj, nameV, hin, all_end hgo]; rfl)
        · skip
          refine sw_region hP 5 [(4, false)] rfl (by kernel_rfl) (fun _ => by kernel_rfl) (by first | trivial | (simp [conj]; done) | (simp [conj] at *; (try dsimp only [Ty.den, Ty.dflt] at *); omega)) ?_
          refine sw_cond rfl (fun c6 => ?_) (fun c6 => ?_)
          · skip
            refine sw_seq ?_
            refine sw_region hP 6 [] rfl (by kernel_rfl) (fun _ => by kernel_rfl) (by first | trivial | (simp [conj]; done) | (simp [conj] at *; (try dsimp only [Ty.den, Ty.dflt] at *); omega)) ?_
            refine sw_ret ⟨.inl rfl, _, rfl, ?_⟩
            first | (simp at c1; simp [conj, nameV, c1]; done) | (simp [List.getElem?_eq_getElem hlt] at g6_4; simp only [conj, nameV, hin, all_hit hlt hgo (lower_l g6_4)]; rfl) | (simp [List.getElem?_eq_getElem hlt] at c6; simp only [conj, nameV, hin, all_hit hlt hgo (lower_h c6)]; rfl) | (simp only [conj, nameV, hin, all_end hgo]; rfl)
          · skip
            refine sw_skip ?_
            refine sw_region hP 6 [] rfl (by kernel_rfl) (fun _ => by kernel_rfl) (by first | trivial | (simp [conj]; done) | (simp [conj] at *; (try dsimp only [Ty.den, Ty.dflt] at *); omega)) ?_
            refine ⟨i + 1, ?_, ?_, ent_ok rfl ?_⟩
            · skip
              simp [List.getElem?_eq_getElem hlt] at g6_4 c6
              exact ⟨hlt, hin, all_next hlt hgo (lower_t g6_4 c6)⟩
            · skip
              omega
            · skip
              simp [conj]
      · skip
        obtain rfl : i = s.length := by simp at c4; omega
        refine sw_exit ?_
        refine sw_seq ?_
        refine sw_region hP 5 [] rfl (by kernel_rfl) (fun _ => by kernel_rfl) (by first | trivial | (simp [conj]; done) | (simp [conj] at *; (try dsimp only [Ty.den, Ty.dflt] at *); omega)) ?_
        refine sw_ret ⟨.inl rfl, _, rfl, ?_⟩
        first | (simp at c1; simp [conj, nameV, c1]; done) | (simp [List.getElem?_eq_getElem hlt] at g6_4; simp only [conj, nameV, hin, all_hit hlt hgo (lower_l g6_4)]; rfl) | (simp [List.getElem?_eq_getElem hlt] at c6; simp only [conj, nameV, hin, all_hit hlt hgo (lower_h c6)]; rfl) | (simp only [conj, nameV, hin, all_end hgo]; rfl)

def cColsS : Ctr := ⟨59, [.val false TI pF], fun x => 0 ≤ x.1 ∧ x.1 ≤ 1000000, fun x => (sInt .i64 (colsV x.1), [])⟩
theorem cColsS_ok : CtrOk Proofs.Tryd.prog cColsS := by
  have hP := (Prg.none ttok mtok)
  refine ctr_of_body hP cColsS (fn := Proofs.Tryd.f59) (rts := [.tmp 2]) Proofs.Tryd.func59 rfl (by kernel_rfl) rfl rfl ?_
  rintro ⟨(n : Int), ⟨⟩⟩ _ ⟨h0, h1⟩
  try dsimp only [Ty.den, Mode.den, mdens] at h0
  try dsimp only [Ty.den, Mode.den, mdens] at h1
  refine ⟨rfl, ?_⟩
  have hq := colsV_bd h0 h1
  unfold colsV at hq
  refine sw_seq ?_
  refine sw_region hP 1 [] rfl (by kernel_rfl) (fun _ => by kernel_rfl) (by first | trivial | (simp [conj]; done) | (simp [conj] at *; (try dsimp only [Ty.den, Ty.dflt] at *); omega)) ?_
  refine sw_seq ?_
  refine sw_region hP 2 [] rfl (by kernel_rfl) (fun _ => by kernel_rfl) ?_ ?_
  · skip
    simp only [conj, List.nil_append, List.cons_append, List.append_nil, List.append_assoc, inR_i64, true_and, and_true, Int.toNat_natCast]
    try dsimp only [Ty.den, Ty.dflt]
    repeat' apply And.intro
    all_goals first | rfl | omega | assumption | trivial
  refine sw_ret ⟨.inl rfl, _, rfl, ?_⟩
  simp [conj, colsV]

def cPtrS : Ctr := ⟨37, [.val false TI pF, .val true T_Ptr (.all .b)], fun x => poolV x.1 = true, fun x => (sBool (ptrW x.1 x.2.1), [])⟩
theorem cPtrS_ok : CtrOk Proofs.Tryd.prog cPtrS := by
  have hP := (((Prg.none ttok mtok).and cIn_ok).and cColsS_ok)
  refine ctr_of_body hP cPtrS (fn := Proofs.Tryd.f37) (rts := [.tmp 4]) Proofs.Tryd.func37 rfl (by kernel_rfl) rfl rfl ?_
  rintro ⟨(d : Int), ⟨(sz : Int), (sm : Int), (pl : List Plc)⟩, ⟨⟩⟩ ⟨_, ⟨_, _, hpl0⟩, _⟩ hpre
  try dsimp only [Ty.den, Mode.den, mdens] at hpre
  refine ⟨rfl, ?_⟩
  replace hpre : poolV d = true := hpre
  have hml : pl.length ≤ 140737488355328 := hpl0.1
  have hb : 3 ≤ d ∧ d ≤ 4 := by simpa [poolV, inV] using hpre
  have hmm := sMin_bd d hb
  have hmv : mostV d = 3 * (d - 1) := by unfold mostV; rw [hmm]
  refine sw_seq ?_
  refine sw_region hP 1 [] rfl (by kernel_rfl) (fun _ => by kernel_rfl) (by first | trivial | (simp [conj]; done) | (simp [conj] at *; (try dsimp only [Ty.den, Ty.dflt] at *); omega)) ?_
  refine sw_seq ?_
  refine sw_seq ?_
  refine sw_region hP 2 [] rfl (by kernel_rfl) (fun _ => by kernel_rfl) (by first | trivial | (simp [conj]; done) | (simp [conj] at *; (try dsimp only [Ty.den, Ty.dflt] at *); omega)) ?_
  refine sw_cond rfl (fun c1 => ?_) (fun c1 => ?_)
  · skip
    replace c1 : sz = 0 := of_decide_eq_true c1
    refine sw_seq ?_
    refine sw_dec hP 3 [] 3 rfl (fun g2_3 => ?_) (fun g2_3 => ?_)
    · skip
      replace g2_3 : sm = 0 := of_decide_eq_true g2_3
      refine sw_region hP 3 [(3, true)] rfl (by kernel_rfl) (fun _ => by kernel_rfl) ?_ ?_
      · skip
        simp only [conj, List.nil_append, List.cons_append, List.append_nil, List.append_assoc, inR_i64, true_and, and_true, Int.toNat_natCast]
        try dsimp only [Ty.den, Ty.dflt]
        repeat' apply And.intro
        all_goals first | trivial | assumption | omega | exact decide_eq_true ‹_› | exact decide_eq_false ‹_› | (simp [*]; done)
      refine sw_ret ⟨.inl rfl, _, rfl, ?_⟩
      simp [conj, ptrW, c1, *]
      try omega
    · skip
      replace g2_3 : ¬ sm = 0 := of_decide_eq_false g2_3
      refine sw_region hP 3 [(3, false)] rfl (by kernel_rfl) (fun _ => by kernel_rfl) ?_ ?_
      · skip
        simp only [conj, List.nil_append, List.cons_append, List.append_nil, List.append_assoc, inR_i64, true_and, and_true, Int.toNat_natCast]
        try dsimp only [Ty.den, Ty.dflt]
        repeat' apply And.intro
        all_goals first | trivial | assumption | omega | exact decide_eq_true ‹_› | exact decide_eq_false ‹_› | (simp [*]; done)
      refine sw_ret ⟨.inl rfl, _, rfl, ?_⟩
      simp [conj, ptrW, c1, *]
      try omega
  · skip
    replace c1 : ¬ sz = 0 := of_decide_eq_false c1
    refine sw_skip ?_
    refine sw_seq ?_
    refine sw_seq ?_
    refine sw_dec hP 3 [] 8 rfl (fun g3_8 => ?_) (fun g3_8 => ?_)
    · skip
      have k8 : inV sz 1 (mostV d) = false := by have h : (!inV sz 1 (mostV d)) = true := g3_8; simpa using h
      have hsz : sizeV d ((sz, sm, pl) : Ptr_) = false := by simp [sizeV, k8]
      refine sw_region hP 3 [(8, true)] rfl (by kernel_rfl) (fun _ => by kernel_rfl) ?_ ?_
      · skip
        simp only [conj, List.nil_append, List.cons_append, List.append_nil, List.append_assoc, inR_i64, true_and, and_true, Int.toNat_natCast]
        try dsimp only [Ty.den, Ty.dflt]
        repeat' apply And.intro
        all_goals first | trivial | assumption | omega | (show 0 ≤ sz; omega) | (show sz ≤ 1000000; omega) | (show _ ≤ mostV d; omega) | (show mostV d ≤ _; omega) | exact g3_8 | exact g3_14
      refine sw_condT rfl ?_
      refine sw_seq ?_
      refine sw_region hP 4 [] rfl (by kernel_rfl) (fun _ => by kernel_rfl) (by first | trivial | (simp [conj]; done) | (simp [conj] at *; (try dsimp only [Ty.den, Ty.dflt] at *); omega)) ?_
      refine sw_ret ⟨.inl rfl, _, rfl, ?_⟩
      simp [conj, ptrW, c1, hsz]
    · skip
      have k8 : inV sz 1 (mostV d) = true := by have h : (!inV sz 1 (mostV d)) = false := g3_8; simpa using h
      have hs1 : 1 ≤ sz ∧ sz ≤ mostV d := by simpa [inV] using k8
      have hcb := colsV_bd (n := sz) (by omega) (by omega)
      refine sw_dec hP 3 [(8, false)] 14 rfl (fun g3_14 => ?_) (fun g3_14 => ?_)
      · skip
        have k14 : inV sm 0 1000000000 = false := by have h : (!inV sm 0 1000000000) = true := g3_14; simpa using h
        have hsz : sizeV d ((sz, sm, pl) : Ptr_) = false := by simp [sizeV, k14]
        refine sw_region hP 3 [(8, false), (14, true)] rfl (by kernel_rfl) (fun _ => by kernel_rfl) ?_ ?_
        · skip
          simp only [conj, List.nil_append, List.cons_append, List.append_nil, List.append_assoc, inR_i64, true_and, and_true, Int.toNat_natCast]
          try dsimp only [Ty.den, Ty.dflt]
          repeat' apply And.intro
          all_goals first | trivial | assumption | omega | (show 0 ≤ sz; omega) | (show sz ≤ 1000000; omega) | (show _ ≤ mostV d; omega) | (show mostV d ≤ _; omega) | exact g3_8 | exact g3_14
        refine sw_condT rfl ?_
        refine sw_seq ?_
        refine sw_region hP 4 [] rfl (by kernel_rfl) (fun _ => by kernel_rfl) (by first | trivial | (simp [conj]; done) | (simp [conj] at *; (try dsimp only [Ty.den, Ty.dflt] at *); omega)) ?_
        refine sw_ret ⟨.inl rfl, _, rfl, ?_⟩
        simp [conj, ptrW, c1, hsz]
      · skip
        have k14 : inV sm 0 1000000000 = true := by have h : (!inV sm 0 1000000000) = false := g3_14; simpa using h
        refine sw_region hP 3 [(8, false), (14, false)] rfl (by kernel_rfl) (fun _ => by kernel_rfl) ?_ ?_
        · skip
          simp only [conj, List.nil_append, List.cons_append, List.append_nil, List.append_assoc, inR_i64, true_and, and_true, Int.toNat_natCast]
          try dsimp only [Ty.den, Ty.dflt]
          repeat' apply And.intro
          all_goals first | trivial | assumption | omega | (show 0 ≤ sz; omega) | (show sz ≤ 1000000; omega) | (show _ ≤ mostV d; omega) | (show mostV d ≤ _; omega) | exact g3_8 | exact g3_14
        refine sw_cond rfl (fun c3 => ?_) (fun c3 => ?_)
        · skip
          have hsz : sizeV d ((sz, sm, pl) : Ptr_) = false := by
            have h : (!decide ((pl.length : Int) = colsV sz + 1)) = true := c3
            simp [sizeV] at h ⊢; intros; omega
          refine sw_seq ?_
          refine sw_region hP 4 [] rfl (by kernel_rfl) (fun _ => by kernel_rfl) (by first | trivial | (simp [conj]; done) | (simp [conj] at *; (try dsimp only [Ty.den, Ty.dflt] at *); omega)) ?_
          refine sw_ret ⟨.inl rfl, _, rfl, ?_⟩
          simp [conj, ptrW, c1, hsz]
        · skip
          have hsz : sizeV d ((sz, sm, pl) : Ptr_) = true := by
            have h : (!decide ((pl.length : Int) = colsV sz + 1)) = false := c3
            simp [sizeV, k8, k14] at h ⊢; omega
          refine sw_skip ?_
          refine sw_seq ?_
          refine sw_seq ?_
          refine sw_region hP 4 [] rfl (by kernel_rfl) (fun _ => by kernel_rfl) (by first | trivial | (simp [conj]; done) | (simp [conj] at *; (try dsimp only [Ty.den, Ty.dflt] at *); omega)) ?_
          refine sw_block ?_
          refine sw_loop (ι := Nat) (fun i => ⟨[sInt .i64 d, .junk, .junk, .v false [.ptr ⟨1, 0, 0⟩ 0], .junk, sInt .i64 (i : Int), .junk, .junk, .junk, .junk, .junk, .junk, .junk, .junk, .junk, .junk, .junk, .junk, .junk, .junk, .junk, .junk, .junk, .junk, .junk, .junk, .junk, .junk, .junk, .junk, .junk, .junk, .junk, .junk, .junk, .junk, .junk, .junk, .junk, .junk, .junk, .junk, .junk, .junk, .junk, .junk, .junk, .junk, .junk, .junk, .junk, .junk, .junk, .junk, .junk, .junk, .junk, .junk, .junk, .junk, .junk, .junk, .junk, .junk, .junk, .junk, .junk, .junk, .junk, .junk, .junk, .junk, .junk, .junk, .junk, .junk, .junk, .junk, .junk, .junk, .junk, .junk, .junk, .junk, .junk, .junk, .junk, .junk], [(⟨1, 0, 0⟩, .var [.d TI pF sz, .d TI pF sm, .d (.sl T_Place) (.all .b) pl])], 4, []⟩) (fun i => pl.length - i) (fun i => i ≤ pl.length ∧ chkGo (placeF d) (pl.take i) (pl.drop i) = chk (placeF d) pl) 0 ⟨?_, ?_⟩ ?_
          · skip
            exact ⟨Nat.zero_le _, rfl⟩
          · refine ent_ok rfl ?_
            simp [conj]
          · rintro i ⟨hi, hgo⟩
            refine sw_seq ?_
            refine sw_seq ?_
            refine sw_region hP 5 [] rfl (by kernel_rfl) (fun _ => by kernel_rfl) (by first | trivial | (simp [conj]; done) | (simp [conj] at *; (try dsimp only [Ty.den, Ty.dflt] at *); omega)) ?_
            refine sw_cond rfl (fun c6 => ?_) (fun c6 => ?_)
            · skip
              have hlt : i < pl.length := by simpa using c6
              refine sw_skip ?_
              refine sw_seq ?_
              refine sw_block ?_
              refine sw_seq ?_
              refine sw_seq ?_
              refine sw_dec hP 6 [] 10 rfl (fun g8_10 => ?_) (fun g8_10 => ?_)
              · skip
                replace g8_10 : inV pl[i].1 0 (d - 1) = false := by simpa [List.getElem?_eq_getElem hlt] using g8_10
                have hf : placeF d (pl.take i) pl[i] = false := by simp [placeF, placeV_no1 g8_10]
                refine sw_region hP 6 [(10, true)] rfl (by kernel_rfl) (fun _ => by kernel_rfl) ?_ ?_
                · skip
                  simp [conj, List.getElem?_eq_getElem hlt]
                  repeat' apply And.intro
                  all_goals first | omega | assumption | (simp [*]; done) | trivial
                refine sw_condT rfl ?_
                refine sw_seq ?_
                refine sw_region hP 7 [] rfl (by kernel_rfl) (fun _ => by kernel_rfl) (by first | trivial | (simp [conj]; done) | (simp [conj] at *; (try dsimp only [Ty.den, Ty.dflt] at *); omega)) ?_
                refine sw_ret ⟨.inl rfl, _, rfl, ?_⟩
                have hv := chk_hit hlt hgo hf
                simp [conj, ptrW, c1, hsz, hv]
              · skip
                replace g8_10 : inV pl[i].1 0 (d - 1) = true := by simpa [List.getElem?_eq_getElem hlt] using g8_10
                refine sw_region hP 6 [(10, false)] rfl (by kernel_rfl) (fun _ => by kernel_rfl) ?_ ?_
                · skip
                  simp [conj, List.getElem?_eq_getElem hlt]
                  repeat' apply And.intro
                  all_goals first | omega | assumption | (simp [*]; done) | trivial
                refine sw_cond rfl (fun c8 => ?_) (fun c8 => ?_)
                · skip
                  replace c8 : inV pl[i].2 0 11 = false := by simpa [List.getElem?_eq_getElem hlt] using c8
                  have hf : placeF d (pl.take i) pl[i] = false := by simp [placeF, placeV_no2 c8]
                  refine sw_seq ?_
                  refine sw_region hP 7 [] rfl (by kernel_rfl) (fun _ => by kernel_rfl) (by first | trivial | (simp [conj]; done) | (simp [conj] at *; (try dsimp only [Ty.den, Ty.dflt] at *); omega)) ?_
                  refine sw_ret ⟨.inl rfl, _, rfl, ?_⟩
                  have hv := chk_hit hlt hgo hf
                  simp [conj, ptrW, c1, hsz, hv]
                · skip
                  replace c8 : inV pl[i].2 0 11 = true := by simpa [List.getElem?_eq_getElem hlt] using c8
                  have hpv : placeV d pl[i] = true := placeV_yes g8_10 c8
                  refine sw_skip ?_
                  refine sw_seq ?_
                  refine sw_region hP 7 [] rfl (by kernel_rfl) (fun _ => by kernel_rfl) (by first | trivial | (simp [conj]; done) | (simp [conj] at *; (try dsimp only [Ty.den, Ty.dflt] at *); omega)) ?_
                  refine sw_block ?_
                  refine sw_loop (ι := Nat) (fun k => ⟨[sInt .i64 d, .junk, .junk, .v false [.ptr ⟨1, 0, 0⟩ 0], .junk, sInt .i64 (i : Int), sInt .i64 (k : Int), .junk, .junk, .junk, .junk, .junk, .junk, .junk, .junk, .junk, .junk, .junk, .junk, .junk, .junk, .junk, .junk, .junk, .junk, .junk, .junk, .junk, .junk, .junk, .junk, .junk, .junk, .junk, .junk, .junk, .junk, .junk, .junk, .junk, .junk, .junk, .junk, .junk, .junk, .junk, .junk, .junk, .junk, .junk, .junk, .junk, .junk, .junk, .junk, .junk, .junk, .junk, .junk, .junk, .junk, .junk, .junk, .junk, .junk, .junk, .junk, .junk, .junk, .junk, .junk, .junk, .junk, .junk, .junk, .junk, .junk, .junk, .junk, .junk, .junk, .junk, .junk, .junk, .junk, .junk, .junk, .junk], [(⟨1, 0, 0⟩, .var [.d TI pF sz, .d TI pF sm, .d (.sl T_Place) (.all .b) pl])], 7, []⟩) (fun k => i - k) (fun k => k ≤ i ∧ (pl.take k).any (fun q : Plc => decide (q.1 = pl[i].1)) = false) 0 ⟨?_, ?_⟩ ?_
                  · skip
                    exact ⟨Nat.zero_le _, rfl⟩
                  · refine ent_ok rfl ?_
                    simp [conj]
                  · rintro k ⟨hk, hgk⟩
                    refine sw_seq ?_
                    refine sw_seq ?_
                    refine sw_region hP 8 [] rfl (by kernel_rfl) (fun _ => by kernel_rfl) (by first | trivial | (simp [conj]; done) | (simp [conj] at *; (try dsimp only [Ty.den, Ty.dflt] at *); omega)) ?_
                    refine sw_cond rfl (fun c11 => ?_) (fun c11 => ?_)
                    · skip
                      have hki : k < i := by simpa using c11
                      have hlk : k < pl.length := by omega
                      refine sw_skip ?_
                      refine sw_seq ?_
                      refine sw_block ?_
                      refine sw_seq ?_
                      refine sw_region hP 9 [] rfl (by kernel_rfl) (fun _ => by kernel_rfl) ?_ ?_
                      · skip
                        simp [conj, List.getElem?_eq_getElem hlt, List.getElem?_eq_getElem hlk]
                        repeat' apply And.intro
                        all_goals first | omega | trivial
                      refine sw_cond rfl (fun c13 => ?_) (fun c13 => ?_)
                      · skip
                        replace c13 : (fun q : Plc => decide (q.1 = pl[i].1)) pl[k] = true := by simpa [List.getElem?_eq_getElem hlt, List.getElem?_eq_getElem hlk] using c13
                        have hf : placeF d (pl.take i) pl[i] = false := by unfold placeF; rw [any_hit hki hlk c13]; simp
                        refine sw_seq ?_
                        refine sw_region hP 10 [] rfl (by kernel_rfl) (fun _ => by kernel_rfl) (by first | trivial | (simp [conj]; done) | (simp [conj] at *; (try dsimp only [Ty.den, Ty.dflt] at *); omega)) ?_
                        refine sw_ret ⟨.inl rfl, _, rfl, ?_⟩
                        have hv := chk_hit hlt hgo hf
                        simp [conj, ptrW, c1, hsz, hv]
                      · skip
                        replace c13 : (fun q : Plc => decide (q.1 = pl[i].1)) pl[k] = false := by simpa [List.getElem?_eq_getElem hlt, List.getElem?_eq_getElem hlk] using c13
                        refine sw_skip ?_
                        refine sw_region hP 10 [] rfl (by kernel_rfl) (fun _ => by kernel_rfl) (by first | trivial | (simp [conj]; done) | (simp [conj] at *; (try dsimp only [Ty.den, Ty.dflt] at *); omega)) ?_
                        refine ⟨k + 1, ?_, ?_, ent_ok rfl ?_⟩
                        · skip
                          exact ⟨hki, any_next hlk hgk c13⟩
                        · skip
                          omega
                        · skip
                          simp [conj]
                    · skip
                      obtain rfl : k = i := by simp at c11; omega
                      have hf : placeF d (pl.take k) pl[k] = true := by unfold placeF; rw [hpv, hgk]; rfl
                      refine sw_exit ?_
                      refine sw_region hP 9 [] rfl (by kernel_rfl) (fun _ => by kernel_rfl) (by first | trivial | (simp [conj]; done) | (simp [conj] at *; (try dsimp only [Ty.den, Ty.dflt] at *); omega)) ?_
                      refine ⟨k + 1, ?_, ?_, ent_ok rfl ?_⟩
                      · skip
                        exact ⟨hlt, chk_next hlt hgo hf⟩
                      · skip
                        omega
                      · skip
                        simp [conj]
            · skip
              obtain rfl : i = pl.length := by simp at c6; omega
              refine sw_exit ?_
              refine sw_seq ?_
              refine sw_region hP 6 [] rfl (by kernel_rfl) (fun _ => by kernel_rfl) (by first | trivial | (simp [conj]; done) | (simp [conj] at *; (try dsimp only [Ty.den, Ty.dflt] at *); omega)) ?_
              refine sw_ret ⟨.inl rfl, _, rfl, ?_⟩
              have hv := chk_end hgo
              simp [conj, ptrW, c1, hsz, hv]

def cMeet : Ctr := ⟨57, [.val true T_Ptr (.all .b), .val true T_Ptr (.all .b)], fun x => True, fun x => (sBool (meetV x.1 x.2.1), [])⟩
theorem cMeet_ok : CtrOk Proofs.Tryd.prog cMeet := by
  have hP := (Prg.none ttok mtok)
  refine ctr_of_body hP cMeet (fn := Proofs.Tryd.f57) (rts := [.tmp 4]) Proofs.Tryd.func57 rfl (by kernel_rfl) rfl rfl ?_
  rintro ⟨⟨(sz : Int), (sm : Int), (pl : List Plc)⟩, ⟨(sz2 : Int), (sm2 : Int), (pl2 : List Plc)⟩, ⟨⟩⟩ ⟨⟨_, _, h1⟩, ⟨_, _, h2⟩, _⟩ _
  try dsimp only [Ty.den, Mode.den, mdens] at _
  refine ⟨rfl, ?_⟩
  have hm1 : pl.length ≤ 140737488355328 := h1.1
  have hm2 : pl2.length ≤ 140737488355328 := h2.1
  refine sw_seq ?_
  refine sw_region hP 1 [] rfl (by kernel_rfl) (fun _ => by kernel_rfl) (by first | trivial | (simp [conj]; done) | (simp [conj] at *; (try dsimp only [Ty.den, Ty.dflt] at *); omega)) ?_
  refine sw_seq ?_
  refine sw_seq ?_
  refine sw_region hP 2 [] rfl (by kernel_rfl) (fun _ => by kernel_rfl) (by first | trivial | (simp [conj]; done) | (simp [conj] at *; (try dsimp only [Ty.den, Ty.dflt] at *); omega)) ?_
  refine sw_block ?_
  refine sw_loop (ι := Nat) (fun i => ⟨[.junk, .junk, .v false [.ptr ⟨1, 0, 0⟩ 0], .v false [.ptr ⟨1, 1, 0⟩ 0], .junk, sInt .i64 (i : Int), .junk, .junk, .junk, .junk, .junk, .junk, .junk, .junk, .junk, .junk, .junk, .junk, .junk, .junk, .junk, .junk, .junk, .junk, .junk, .junk, .junk, .junk, .junk, .junk, .junk, .junk], [(⟨1, 0, 0⟩, .var [.d TI pF sz, .d TI pF sm, .d (.sl T_Place) (.all .b) pl]), (⟨1, 1, 0⟩, .var [.d TI pF sz2, .d TI pF sm2, .d (.sl T_Place) (.all .b) pl2])], 2, []⟩) (fun i => pl.length - i) (fun i => i ≤ pl.length ∧ (pl.take i).any (fun a : Plc => pl2.any fun b => decide (a = b)) = false) 0 ⟨?_, ?_⟩ ?_
  · skip
    exact ⟨Nat.zero_le _, rfl⟩
  · refine ent_ok rfl ?_
    simp [conj]
  · rintro i ⟨hi, hgo⟩
    refine sw_seq ?_
    refine sw_seq ?_
    refine sw_region hP 3 [] rfl (by kernel_rfl) (fun _ => by kernel_rfl) (by first | trivial | (simp [conj]; done) | (simp [conj] at *; (try dsimp only [Ty.den, Ty.dflt] at *); omega)) ?_
    refine sw_cond rfl (fun c2 => ?_) (fun c2 => ?_)
    · skip
      have hlt : i < pl.length := by simpa using c2
      refine sw_skip ?_
      refine sw_seq ?_
      refine sw_block ?_
      refine sw_seq ?_
      refine sw_region hP 4 [] rfl (by kernel_rfl) (fun _ => by kernel_rfl) (by first | trivial | (simp [conj]; done) | (simp [conj] at *; (try dsimp only [Ty.den, Ty.dflt] at *); omega)) ?_
      refine sw_block ?_
      refine sw_loop (ι := Nat) (fun k => ⟨[.junk, .junk, .v false [.ptr ⟨1, 0, 0⟩ 0], .v false [.ptr ⟨1, 1, 0⟩ 0], .junk, sInt .i64 (i : Int), sInt .i64 (k : Int), .junk, .junk, .junk, .junk, .junk, .junk, .junk, .junk, .junk, .junk, .junk, .junk, .junk, .junk, .junk, .junk, .junk, .junk, .junk, .junk, .junk, .junk, .junk, .junk, .junk], [(⟨1, 0, 0⟩, .var [.d TI pF sz, .d TI pF sm, .d (.sl T_Place) (.all .b) pl]), (⟨1, 1, 0⟩, .var [.d TI pF sz2, .d TI pF sm2, .d (.sl T_Place) (.all .b) pl2])], 4, []⟩) (fun k => pl2.length - k) (fun k => k ≤ pl2.length ∧ (pl2.take k).any (fun b : Plc => decide (pl[i] = b)) = false) 0 ⟨?_, ?_⟩ ?_
      · skip
        exact ⟨Nat.zero_le _, rfl⟩
      · refine ent_ok rfl ?_
        simp [conj]
      · rintro k ⟨hk, hgk⟩
        refine sw_seq ?_
        refine sw_seq ?_
        refine sw_region hP 5 [] rfl (by kernel_rfl) (fun _ => by kernel_rfl) (by first | trivial | (simp [conj]; done) | (simp [conj] at *; (try dsimp only [Ty.den, Ty.dflt] at *); omega)) ?_
        refine sw_cond rfl (fun c5 => ?_) (fun c5 => ?_)
        · skip
          have hlk : k < pl2.length := by simpa using c5
          refine sw_skip ?_
          refine sw_seq ?_
          refine sw_block ?_
          refine sw_seq ?_
          refine sw_region hP 6 [] rfl (by kernel_rfl) (fun _ => by kernel_rfl) ?_ ?_
          · skip
            simp [conj, List.getElem?_eq_getElem hlt, List.getElem?_eq_getElem hlk]
            repeat' apply And.intro
            all_goals first | omega | trivial
          refine sw_cond rfl (fun c7 => ?_) (fun c7 => ?_)
          · skip
            have he : (fun b : Plc => decide (pl[i] = b)) pl2[k] = true := by
              have h := c7
              simp [List.getElem?_eq_getElem hlt, List.getElem?_eq_getElem hlk] at h
              simp only [decide_eq_true_eq]
              exact Prod.ext h.1 h.2
            have hv : meetV ((sz, sm, pl) : Ptr_) (sz2, sm2, pl2) = true := any_hit' (p := (fun a : Plc => pl2.any fun b => decide (a = b))) hlt (any_hit' (p := (fun b : Plc => decide (pl[i] = b))) hlk he)
            refine sw_seq ?_
            refine sw_region hP 7 [] rfl (by kernel_rfl) (fun _ => by kernel_rfl) (by first | trivial | (simp [conj]; done) | (simp [conj] at *; (try dsimp only [Ty.den, Ty.dflt] at *); omega)) ?_
            refine sw_ret ⟨.inl rfl, _, rfl, ?_⟩
            simp [conj, hv]
          · skip
            have he : (fun b : Plc => decide (pl[i] = b)) pl2[k] = false := by
              simp only [decide_eq_false_iff_not]
              intro e
              simp [List.getElem?_eq_getElem hlt, List.getElem?_eq_getElem hlk, e] at c7
            refine sw_skip ?_
            refine sw_region hP 7 [] rfl (by kernel_rfl) (fun _ => by kernel_rfl) (by first | trivial | (simp [conj]; done) | (simp [conj] at *; (try dsimp only [Ty.den, Ty.dflt] at *); omega)) ?_
            refine ⟨k + 1, ?_, ?_, ent_ok rfl ?_⟩
            · skip
              exact ⟨hlk, any_next hlk hgk he⟩
            · skip
              omega
            · skip
              simp [conj]
        · skip
          obtain rfl : k = pl2.length := by simp at c5; omega
          have hf := any_end hgk
          refine sw_exit ?_
          refine sw_region hP 6 [] rfl (by kernel_rfl) (fun _ => by kernel_rfl) (by first | trivial | (simp [conj]; done) | (simp [conj] at *; (try dsimp only [Ty.den, Ty.dflt] at *); omega)) ?_
          refine ⟨i + 1, ?_, ?_, ent_ok rfl ?_⟩
          · skip
            exact ⟨hlt, any_next hlt hgo hf⟩
          · skip
            omega
          · skip
            simp [conj]
    · skip
      obtain rfl : i = pl.length := by simp at c2; omega
      refine sw_exit ?_
      refine sw_seq ?_
      refine sw_region hP 4 [] rfl (by kernel_rfl) (fun _ => by kernel_rfl) (by first | trivial | (simp [conj]; done) | (simp [conj] at *; (try dsimp only [Ty.den, Ty.dflt] at *); omega)) ?_
      refine sw_ret ⟨.inl rfl, _, rfl, ?_⟩
      have hv : meetV ((sz, sm, pl) : Ptr_) (sz2, sm2, pl2) = false := any_end hgo
      simp [conj, hv]

def cSameS : Ctr := ⟨58, [.val true T_Ptr (.all .b), .val true T_Ptr (.all .b)], fun x => True, fun x => (sBool (decide ((x.1 : Ptr_) = x.2.1)), [])⟩
theorem cSameS_ok : CtrOk Proofs.Tryd.prog cSameS := by
  have hP := (Prg.none ttok mtok)
  refine ctr_of_body hP cSameS (fn := Proofs.Tryd.f58) (rts := [.tmp 4]) Proofs.Tryd.func58 rfl (by kernel_rfl) rfl rfl ?_
  rintro ⟨⟨(sz : Int), (sm : Int), (pl : List Plc)⟩, ⟨(sz2 : Int), (sm2 : Int), (pl2 : List Plc)⟩, ⟨⟩⟩ ⟨⟨_, _, h1⟩, ⟨_, _, h2⟩, _⟩ _
  try dsimp only [Ty.den, Mode.den, mdens] at _
  refine ⟨rfl, ?_⟩
  have hm1 : pl.length ≤ 140737488355328 := h1.1
  have hm2 : pl2.length ≤ 140737488355328 := h2.1
  refine sw_seq ?_
  refine sw_region hP 1 [] rfl (by kernel_rfl) (fun _ => by kernel_rfl) (by first | trivial | (simp [conj]; done) | (simp [conj] at *; (try dsimp only [Ty.den, Ty.dflt] at *); omega)) ?_
  refine sw_seq ?_
  refine sw_seq ?_
  refine sw_dec hP 2 [] 5 rfl (fun g1_5 => ?_) (fun g1_5 => ?_)
  · skip
    have k5 : ¬ sz = sz2 := by simpa using g1_5
    refine sw_region hP 2 [(5, true)] rfl (by kernel_rfl) (fun _ => by kernel_rfl) ?_ ?_
    · skip
      simp only [conj, List.nil_append, List.cons_append, List.append_nil, List.append_assoc, inR_i64, true_and, and_true, Int.toNat_natCast]
      try dsimp only [Ty.den, Ty.dflt]
      repeat' apply And.intro
      all_goals first | trivial | exact g1_5 | exact g1_12 | assumption
    refine sw_condT rfl ?_
    refine sw_seq ?_
    refine sw_region hP 3 [] rfl (by kernel_rfl) (fun _ => by kernel_rfl) (by first | trivial | (simp [conj]; done) | (simp [conj] at *; (try dsimp only [Ty.den, Ty.dflt] at *); omega)) ?_
    refine sw_ret ⟨.inl rfl, _, rfl, ?_⟩
    simp [conj, Prod.ext_iff, k5]
  · skip
    have k5 : sz = sz2 := by simpa using g1_5
    refine sw_dec hP 2 [(5, false)] 12 rfl (fun g1_12 => ?_) (fun g1_12 => ?_)
    · skip
      have k12 : ¬ sm = sm2 := by simpa using g1_12
      refine sw_region hP 2 [(5, false), (12, true)] rfl (by kernel_rfl) (fun _ => by kernel_rfl) ?_ ?_
      · skip
        simp only [conj, List.nil_append, List.cons_append, List.append_nil, List.append_assoc, inR_i64, true_and, and_true, Int.toNat_natCast]
        try dsimp only [Ty.den, Ty.dflt]
        repeat' apply And.intro
        all_goals first | trivial | exact g1_5 | exact g1_12 | assumption
      refine sw_condT rfl ?_
      refine sw_seq ?_
      refine sw_region hP 3 [] rfl (by kernel_rfl) (fun _ => by kernel_rfl) (by first | trivial | (simp [conj]; done) | (simp [conj] at *; (try dsimp only [Ty.den, Ty.dflt] at *); omega)) ?_
      refine sw_ret ⟨.inl rfl, _, rfl, ?_⟩
      simp [conj, Prod.ext_iff, k12]
    · skip
      have k12 : sm = sm2 := by simpa using g1_12
      refine sw_region hP 2 [(5, false), (12, false)] rfl (by kernel_rfl) (fun _ => by kernel_rfl) ?_ ?_
      · skip
        simp only [conj, List.nil_append, List.cons_append, List.append_nil, List.append_assoc, inR_i64, true_and, and_true, Int.toNat_natCast]
        try dsimp only [Ty.den, Ty.dflt]
        repeat' apply And.intro
        all_goals first | trivial | exact g1_5 | exact g1_12 | assumption
      refine sw_cond rfl (fun c1 => ?_) (fun c1 => ?_)
      · skip
        replace c1 : ¬ pl.length = pl2.length := by simp at c1; omega
        refine sw_seq ?_
        refine sw_region hP 3 [] rfl (by kernel_rfl) (fun _ => by kernel_rfl) (by first | trivial | (simp [conj]; done) | (simp [conj] at *; (try dsimp only [Ty.den, Ty.dflt] at *); omega)) ?_
        refine sw_ret ⟨.inl rfl, _, rfl, ?_⟩
        have hv := eqL_len c1
        replace hv : ¬ pl = pl2 := of_decide_eq_false hv
        simp [conj, Prod.ext_iff, hv]
      · skip
        replace c1 : pl.length = pl2.length := by simp at c1; omega
        refine sw_skip ?_
        refine sw_seq ?_
        refine sw_seq ?_
        refine sw_region hP 3 [] rfl (by kernel_rfl) (fun _ => by kernel_rfl) (by first | trivial | (simp [conj]; done) | (simp [conj] at *; (try dsimp only [Ty.den, Ty.dflt] at *); omega)) ?_
        refine sw_block ?_
        refine sw_loop (ι := Nat) (fun i => ⟨[.junk, .junk, .v false [.ptr ⟨1, 0, 0⟩ 0], .v false [.ptr ⟨1, 1, 0⟩ 0], .junk, sInt .i64 (i : Int), .junk, .junk, .junk, .junk, .junk, .junk, .junk, .junk, .junk, .junk, .junk, .junk, .junk, .junk, .junk, .junk, .junk, .junk, .junk, .junk, .junk, .junk, .junk, .junk, .junk, .junk, .junk, .junk, .junk, .junk, .junk, .junk, .junk, .junk, .junk, .junk, .junk, .junk, .junk], [(⟨1, 0, 0⟩, .var [.d TI pF sz, .d TI pF sm, .d (.sl T_Place) (.all .b) pl]), (⟨1, 1, 0⟩, .var [.d TI pF sz2, .d TI pF sm2, .d (.sl T_Place) (.all .b) pl2])], 3, []⟩) (fun i => pl.length - i) (fun i => i ≤ pl.length ∧ decide (pl.drop i = pl2.drop i) = decide (pl = pl2)) 0 ⟨?_, ?_⟩ ?_
        · skip
          exact ⟨Nat.zero_le _, rfl⟩
        · refine ent_ok rfl ?_
          simp [conj]
        · rintro i ⟨hi, hgo⟩
          refine sw_seq ?_
          refine sw_seq ?_
          refine sw_region hP 4 [] rfl (by kernel_rfl) (fun _ => by kernel_rfl) (by first | trivial | (simp [conj]; done) | (simp [conj] at *; (try dsimp only [Ty.den, Ty.dflt] at *); omega)) ?_
          refine sw_cond rfl (fun c4 => ?_) (fun c4 => ?_)
          · skip
            have hlt : i < pl.length := by simpa using c4
            have hlt2 : i < pl2.length := by omega
            refine sw_skip ?_
            refine sw_seq ?_
            refine sw_block ?_
            refine sw_seq ?_
            refine sw_region hP 5 [] rfl (by kernel_rfl) (fun _ => by kernel_rfl) ?_ ?_
            · skip
              simp [conj, List.getElem?_eq_getElem hlt, List.getElem?_eq_getElem hlt2]
              repeat' apply And.intro
              all_goals first | omega | trivial
            refine sw_cond rfl (fun c6 => ?_) (fun c6 => ?_)
            · skip
              replace c6 : ¬ pl[i] = pl2[i] := by intro e; simp [List.getElem?_eq_getElem hlt, List.getElem?_eq_getElem hlt2, e] at c6
              refine sw_seq ?_
              refine sw_region hP 6 [] rfl (by kernel_rfl) (fun _ => by kernel_rfl) (by first | trivial | (simp [conj]; done) | (simp [conj] at *; (try dsimp only [Ty.den, Ty.dflt] at *); omega)) ?_
              refine sw_ret ⟨.inl rfl, _, rfl, ?_⟩
              have hv := eqL_hit hlt hlt2 hgo c6
              replace hv : ¬ pl = pl2 := of_decide_eq_false hv
              simp [conj, Prod.ext_iff, hv]
            · skip
              replace c6 : pl[i] = pl2[i] := by have h := c6; simp [List.getElem?_eq_getElem hlt, List.getElem?_eq_getElem hlt2] at h; exact Prod.ext h.1 h.2
              refine sw_skip ?_
              refine sw_region hP 6 [] rfl (by kernel_rfl) (fun _ => by kernel_rfl) (by first | trivial | (simp [conj]; done) | (simp [conj] at *; (try dsimp only [Ty.den, Ty.dflt] at *); omega)) ?_
              refine ⟨i + 1, ?_, ?_, ent_ok rfl ?_⟩
              · skip
                exact ⟨hlt, eqL_next hlt hlt2 hgo c6⟩
              · skip
                omega
              · skip
                simp [conj]
          · skip
            obtain rfl : i = pl.length := by simp at c4; omega
            refine sw_exit ?_
            refine sw_seq ?_
            refine sw_region hP 5 [] rfl (by kernel_rfl) (fun _ => by kernel_rfl) (by first | trivial | (simp [conj]; done) | (simp [conj] at *; (try dsimp only [Ty.den, Ty.dflt] at *); omega)) ?_
            refine sw_ret ⟨.inl rfl, _, rfl, ?_⟩
            have hv := eqL_end c1 hgo
            replace hv : pl = pl2 := of_decide_eq_true hv
            simp [conj, k5, k12, hv]

def cAll : Ctr := ⟨56, [.val true T_Root (.all .b)], fun x => SmallV x.1.2, fun x => (.v false [.own ⟨1, 0, 0⟩], [(⟨1, 0, 0⟩, .sl T_Ptr (.all .b) (blksOf x.1.2))])⟩
theorem cAll_ok : CtrOk Proofs.Tryd.prog cAll := by
  have hP := (Prg.none ttok mtok)
  refine ctr_of_body hP cAll (fn := Proofs.Tryd.f56) (rts := [.tmp 2]) Proofs.Tryd.func56 rfl (by kernel_rfl) rfl rfl ?_
  rintro ⟨⟨(tg : Int), (l : List Vol_)⟩, ⟨⟩⟩ _ hpre
  try dsimp only [Ty.den, Mode.den, mdens] at hpre
  refine ⟨rfl, ?_⟩
  replace hpre : SmallV l := hpre
  have hml : l.length ≤ 100 := hpre.1
  refine sw_seq ?_
  refine sw_region hP 1 [] rfl (by kernel_rfl) (fun _ => by kernel_rfl) (by first | trivial | (simp [conj]; done) | (simp [conj] at *; (try dsimp only [Ty.den, Ty.dflt] at *); omega)) ?_
  refine sw_seq ?_
  refine sw_region hP 2 [] rfl (by kernel_rfl) (fun _ => by kernel_rfl) (by first | trivial | (simp [conj]; done) | (simp [conj] at *; (try dsimp only [Ty.den, Ty.dflt] at *); omega)) ?_
  refine sw_seq ?_
  refine sw_seq ?_
  refine sw_region hP 3 [] rfl (by kernel_rfl) (fun _ => by kernel_rfl) (by first | trivial | (simp [conj]; done) | (simp [conj] at *; (try dsimp only [Ty.den, Ty.dflt] at *); omega)) ?_
  refine sw_block ?_
  refine sw_loop (ι := Nat) (fun i => ⟨[.junk, .v false [.ptr ⟨1, 0, 0⟩ 0], .junk, .v false [.own ⟨0, 9, 0⟩], sInt .i64 (i : Int), .junk, .junk, .junk, .junk, .junk, .junk, .junk, .junk, .junk, .junk, .junk, .junk, .junk, .junk, .junk, .junk, .junk], [(⟨1, 0, 0⟩, .var [.d TI pF tg, .d (.sl T_Vol) (.all .b) l]), (⟨0, 9, 0⟩, .sl T_Ptr (.all .b) (blksOf (l.take i)))], 3, []⟩) (fun i => l.length - i) (fun i => i ≤ l.length) 0 ⟨?_, ?_⟩ ?_
  · skip
    exact Nat.zero_le _
  · refine ent_ok rfl ?_
    simp [conj, blksOf]
  · rintro i hi
    refine sw_seq ?_
    refine sw_seq ?_
    refine sw_region hP 4 [] rfl (by kernel_rfl) (fun _ => by kernel_rfl) (by first | trivial | (simp [conj]; done) | (simp [conj] at *; (try dsimp only [Ty.den, Ty.dflt] at *); omega)) ?_
    refine sw_cond rfl (fun c3 => ?_) (fun c3 => ?_)
    · skip
      have hlt : i < l.length := by simpa using c3
      have hb1 := blks_len hpre (i := i)
      have hb2 := hpre.2 _ (List.getElem_mem hlt)
      refine sw_skip ?_
      refine sw_seq ?_
      refine sw_block ?_
      refine sw_region hP 5 [] rfl (by kernel_rfl) (fun _ => by kernel_rfl) ?_ ?_
      · skip
        simp [conj, maxL, List.getElem?_eq_getElem hlt]
        omega
      refine sw_region hP 6 [] rfl (by kernel_rfl) (fun _ => by kernel_rfl) (by first | trivial | (simp [conj]; done) | (simp [conj] at *; (try dsimp only [Ty.den, Ty.dflt] at *); omega)) ?_
      refine ⟨i + 1, ?_, ?_, ent_ok rfl ?_⟩
      · skip
        exact hlt
      · skip
        omega
      · skip
        simp [conj, List.getElem?_eq_getElem hlt]
        exact flat_next hlt
    · skip
      obtain rfl : i = l.length := by simp at c3; omega
      refine sw_exit ?_
      refine sw_seq ?_
      refine sw_region hP 5 [] rfl (by kernel_rfl) (fun _ => by kernel_rfl) (by first | trivial | (simp [conj]; done) | (simp [conj] at *; (try dsimp only [Ty.den, Ty.dflt] at *); omega)) ?_
      refine sw_ret ⟨.inl rfl, _, rfl, ?_⟩
      simp [conj]
end Go.Sx

namespace Go.Sx
open Go
set_option maxRecDepth 100000
set_option linter.unusedVariables false
set_option linter.unusedSimpArgs false
set_option maxHeartbeats 2000000

def cVolsS : Ctr := ⟨36, [.val false TI pF, .val true T_Root (.all .b)], fun x => poolV x.1 = true ∧ List.length x.2.1.2 ≤ 4, fun x => (sBool (volsS x.1 x.2.1.2), [])⟩
theorem cVolsS_ok : CtrOk Proofs.Tryd.prog cVolsS := by
  have hP := ((((((Prg.none ttok mtok).and cName_ok).and cAll_ok).and cPtrS_ok).and cMeet_ok).and cSameS_ok)
  refine ctr_of_body hP cVolsS (fn := Proofs.Tryd.f36) (rts := [.tmp 4]) Proofs.Tryd.func36 rfl (by kernel_rfl) rfl rfl ?_
  rintro ⟨(d : Int), ⟨(tg : Int), (l : List Vol_)⟩, ⟨⟩⟩ ⟨_, ⟨_, hl0⟩, _⟩ ⟨hd1, h4⟩
  try dsimp only [Ty.den, Mode.den, mdens] at hd1
  try dsimp only [Ty.den, Mode.den, mdens] at h4
  refine ⟨rfl, ?_⟩
  replace hd1 : poolV d = true := hd1
  replace h4 : l.length ≤ 4 := h4
  refine sw_seq ?_
  refine sw_region hP 1 [] rfl (by kernel_rfl) (fun _ => by kernel_rfl) (by first | trivial | (simp [conj]; done) | (simp [conj] at *; (try dsimp only [Ty.den, Ty.dflt] at *); omega)) ?_
  refine sw_seq ?_
  refine sw_seq ?_
  refine sw_region hP 2 [] rfl (by kernel_rfl) (fun _ => by kernel_rfl) (by first | trivial | (simp [conj]; done) | (simp [conj] at *; (try dsimp only [Ty.den, Ty.dflt] at *); omega)) ?_
  refine sw_block ?_
  refine sw_loop (ι := Nat) (fun i => ⟨[sInt .i64 d, .junk, .junk, .v false [.ptr ⟨1, 0, 0⟩ 0], .junk, sInt .i64 (i : Int), .junk, .junk, .junk, .junk, .junk, .junk, .junk, .junk, .junk, .junk, .junk, .junk, .junk, .junk, .junk, .junk, .junk, .junk, .junk, .junk, .junk, .junk, .junk, .junk, .junk, .junk, .junk, .junk, .junk, .junk, .junk, .junk, .junk, .junk, .junk, .junk, .junk, .junk, .junk, .junk, .junk, .junk, .junk, .junk, .junk, .junk, .junk, .junk, .junk, .junk, .junk, .junk, .junk, .junk, .junk, .junk, .junk, .junk, .junk, .junk, .junk, .junk, .junk, .junk, .junk, .junk, .junk, .junk, .junk, .junk, .junk, .junk, .junk, .junk, .junk, .junk, .junk, .junk, .junk, .junk, .junk, .junk, .junk, .junk, .junk, .junk, .junk, .junk], [(⟨1, 0, 0⟩, .var [.d TI pF tg, .d (.sl T_Vol) (.all .b) l])], 2, []⟩) (fun i => l.length - i) (fun i => i ≤ l.length ∧ chkGo volG (l.take i) (l.drop i) = chk volG l) 0 ⟨?_, ?_⟩ ?_
  · skip
    exact ⟨Nat.zero_le _, rfl⟩
  · refine ent_ok rfl ?_
    simp [conj]
  · rintro i ⟨hi, hgo⟩
    refine sw_seq ?_
    refine sw_seq ?_
    refine sw_region hP 3 [] rfl (by kernel_rfl) (fun _ => by kernel_rfl) (by first | trivial | (simp [conj]; done) | (simp [conj] at *; (try dsimp only [Ty.den, Ty.dflt] at *); omega)) ?_
    refine sw_cond rfl (fun c2 => ?_) (fun c2 => ?_)
    · skip
      have hlt : i < l.length := by simpa using c2
      have hml2 : l[i].2.length ≤ 140737488355328 := (hl0.2 _ (List.getElem_mem hlt)).2.1
      refine sw_skip ?_
      refine sw_seq ?_
      refine sw_block ?_
      refine sw_seq ?_
      refine sw_seq ?_
      refine sw_dec hP 4 [] 8 rfl (fun g4_8 => ?_) (fun g4_8 => ?_)
      · skip
        have k8 : nameV l[i].1 = false := by simpa [List.getElem?_eq_getElem hlt] using g4_8
        have hf : volG (l.take i) l[i] = false := by simp [volG, k8]
        refine sw_region hP 4 [(8, true)] rfl (by kernel_rfl) (fun _ => by kernel_rfl) ?_ ?_
        · skip
          simp [conj, List.getElem?_eq_getElem hlt]
          repeat' apply And.intro
          all_goals first | omega | assumption | (simp [*]; done) | trivial
        refine sw_condT rfl ?_
        refine sw_seq ?_
        refine sw_region hP 5 [] rfl (by kernel_rfl) (fun _ => by kernel_rfl) (by first | trivial | (simp [conj]; done) | (simp [conj] at *; (try dsimp only [Ty.den, Ty.dflt] at *); omega)) ?_
        refine sw_ret ⟨.inl rfl, _, rfl, ?_⟩
        have hv := chk_hit hlt hgo hf
        simp [conj, volsS, hv]
      · skip
        have k8 : nameV l[i].1 = true := by simpa [List.getElem?_eq_getElem hlt] using g4_8
        refine sw_region hP 4 [(8, false)] rfl (by kernel_rfl) (fun _ => by kernel_rfl) ?_ ?_
        · skip
          simp [conj, List.getElem?_eq_getElem hlt]
          repeat' apply And.intro
          all_goals first | omega | assumption | (simp [*]; done) | trivial
        refine sw_cond rfl (fun c4 => ?_) (fun c4 => ?_)
        · skip
          replace c4 : ¬ l[i].2.length = 3 := by
            have h := c4
            simp [List.getElem?_eq_getElem hlt] at h
            omega
          have hf : volG (l.take i) l[i] = false := by simp [volG, c4]
          refine sw_seq ?_
          refine sw_region hP 5 [] rfl (by kernel_rfl) (fun _ => by kernel_rfl) (by first | trivial | (simp [conj]; done) | (simp [conj] at *; (try dsimp only [Ty.den, Ty.dflt] at *); omega)) ?_
          refine sw_ret ⟨.inl rfl, _, rfl, ?_⟩
          have hv := chk_hit hlt hgo hf
          simp [conj, volsS, hv]
        · skip
          replace c4 : l[i].2.length = 3 := by
            have h := c4
            simp [List.getElem?_eq_getElem hlt] at h
            omega
          refine sw_skip ?_
          refine sw_seq ?_
          refine sw_region hP 5 [] rfl (by kernel_rfl) (fun _ => by kernel_rfl) (by first | trivial | (simp [conj]; done) | (simp [conj] at *; (try dsimp only [Ty.den, Ty.dflt] at *); omega)) ?_
          refine sw_block ?_
          refine sw_loop (ι := Nat) (fun k => ⟨[sInt .i64 d, .junk, .junk, .v false [.ptr ⟨1, 0, 0⟩ 0], .junk, sInt .i64 (i : Int), sInt .i64 (k : Int), .junk, .junk, .junk, .junk, .junk, .junk, .junk, .junk, .junk, .junk, .junk, .junk, .junk, .junk, .junk, .junk, .junk, .junk, .junk, .junk, .junk, .junk, .junk, .junk, .junk, .junk, .junk, .junk, .junk, .junk, .junk, .junk, .junk, .junk, .junk, .junk, .junk, .junk, .junk, .junk, .junk, .junk, .junk, .junk, .junk, .junk, .junk, .junk, .junk, .junk, .junk, .junk, .junk, .junk, .junk, .junk, .junk, .junk, .junk, .junk, .junk, .junk, .junk, .junk, .junk, .junk, .junk, .junk, .junk, .junk, .junk, .junk, .junk, .junk, .junk, .junk, .junk, .junk, .junk, .junk, .junk, .junk, .junk, .junk, .junk, .junk, .junk], [(⟨1, 0, 0⟩, .var [.d TI pF tg, .d (.sl T_Vol) (.all .b) l])], 5, []⟩) (fun k => i - k) (fun k => k ≤ i ∧ (l.take k).any (fun w : Vol_ => decide (w.1 = l[i].1)) = false) 0 ⟨?_, ?_⟩ ?_
          · skip
            exact ⟨Nat.zero_le _, rfl⟩
          · refine ent_ok rfl ?_
            simp [conj]
          · rintro k ⟨hk, hgk⟩
            refine sw_seq ?_
            refine sw_seq ?_
            refine sw_region hP 6 [] rfl (by kernel_rfl) (fun _ => by kernel_rfl) (by first | trivial | (simp [conj]; done) | (simp [conj] at *; (try dsimp only [Ty.den, Ty.dflt] at *); omega)) ?_
            refine sw_cond rfl (fun c7 => ?_) (fun c7 => ?_)
            · skip
              have hki : k < i := by simpa using c7
              have hlk : k < l.length := by omega
              refine sw_skip ?_
              refine sw_seq ?_
              refine sw_block ?_
              refine sw_seq ?_
              refine sw_region hP 7 [] rfl (by kernel_rfl) (fun _ => by kernel_rfl) ?_ ?_
              · skip
                simp [conj, List.getElem?_eq_getElem hlt, List.getElem?_eq_getElem hlk]
                repeat' apply And.intro
                all_goals first | omega | trivial
              refine sw_cond rfl (fun c9 => ?_) (fun c9 => ?_)
              · skip
                replace c9 : (fun w : Vol_ => decide (w.1 = l[i].1)) l[k] = true := by simpa [List.getElem?_eq_getElem hlt, List.getElem?_eq_getElem hlk] using c9
                have hf : volG (l.take i) l[i] = false := by unfold volG; rw [any_hit hki hlk c9]; simp
                refine sw_seq ?_
                refine sw_region hP 8 [] rfl (by kernel_rfl) (fun _ => by kernel_rfl) (by first | trivial | (simp [conj]; done) | (simp [conj] at *; (try dsimp only [Ty.den, Ty.dflt] at *); omega)) ?_
                refine sw_ret ⟨.inl rfl, _, rfl, ?_⟩
                have hv := chk_hit hlt hgo hf
                simp [conj, volsS, hv]
              · skip
                replace c9 : (fun w : Vol_ => decide (w.1 = l[i].1)) l[k] = false := by simpa [List.getElem?_eq_getElem hlt, List.getElem?_eq_getElem hlk] using c9
                refine sw_skip ?_
                refine sw_region hP 8 [] rfl (by kernel_rfl) (fun _ => by kernel_rfl) (by first | trivial | (simp [conj]; done) | (simp [conj] at *; (try dsimp only [Ty.den, Ty.dflt] at *); omega)) ?_
                refine ⟨k + 1, ?_, ?_, ent_ok rfl ?_⟩
                · skip
                  exact ⟨hki, any_next hlk hgk c9⟩
                · skip
                  omega
                · skip
                  simp [conj]
            · skip
              obtain rfl : k = i := by simp at c7; omega
              have hf : volG (l.take k) l[k] = true := by unfold volG; rw [k8, hgk, c4]; rfl
              refine sw_exit ?_
              refine sw_region hP 7 [] rfl (by kernel_rfl) (fun _ => by kernel_rfl) (by first | trivial | (simp [conj]; done) | (simp [conj] at *; (try dsimp only [Ty.den, Ty.dflt] at *); omega)) ?_
              refine ⟨k + 1, ?_, ?_, ent_ok rfl ?_⟩
              · skip
                exact ⟨hlt, chk_next hlt hgo hf⟩
              · skip
                omega
              · skip
                simp [conj]
    · skip
      obtain rfl : i = l.length := by simp at c2; omega
      have hvg : chk volG l = true := chk_end hgo
      have hsv := volG_small hvg h4
      have hbl := blks_all hsv
      refine sw_exit ?_
      refine sw_seq ?_
      refine sw_region hP 4 [] rfl (by kernel_rfl) (fun _ => by kernel_rfl) ?_ ?_
      · skip
        simp [conj, maxL]
        try dsimp only [Ty.den, Ty.dflt]
        try simp only [rd_eta]
        exact hsv
      refine sw_seq ?_
      refine sw_seq ?_
      refine sw_region hP 5 [] rfl (by kernel_rfl) (fun _ => by kernel_rfl) (by first | trivial | (simp [conj]; done) | (simp [conj] at *; (try dsimp only [Ty.den, Ty.dflt] at *); omega)) ?_
      refine sw_block ?_
      refine sw_loop (ι := Nat) (fun n => ⟨[sInt .i64 d, .junk, .junk, .v false [.ptr ⟨1, 0, 0⟩ 0], .junk, .junk, .junk, .v false [.own ⟨0, 9, 0⟩], sInt .i64 (n : Int), .junk, .junk, .junk, .junk, .junk, .junk, .junk, .junk, .junk, .junk, .junk, .junk, .junk, .junk, .junk, .junk, .junk, .junk, .junk, .junk, .junk, .junk, .junk, .junk, .junk, .junk, .junk, .junk, .junk, .junk, .junk, .junk, .junk, .junk, .junk, .junk, .junk, .junk, .junk, .junk, .junk, .junk, .junk, .junk, .junk, .junk, .junk, .junk, .junk, .junk, .junk, .junk, .junk, .junk, .junk, .junk, .junk, .junk, .junk, .junk, .junk, .junk, .junk, .junk, .junk, .junk, .junk, .junk, .junk, .junk, .junk, .junk, .junk, .junk, .junk, .junk, .junk, .junk, .junk, .junk, .junk, .junk, .junk, .junk, .junk], [(⟨1, 0, 0⟩, .var [.d TI pF tg, .d (.sl T_Vol) (.all .b) l]), (⟨0, 9, 0⟩, .sl T_Ptr (.all .b) (blksOf l))], 5, []⟩) (fun n => (blksOf l).length - n) (fun n => n ≤ (blksOf l).length ∧ chkGo (ptrG d) ((blksOf l).take n) ((blksOf l).drop n) = chk (ptrG d) (blksOf l)) 0 ⟨?_, ?_⟩ ?_
      · skip
        exact ⟨Nat.zero_le _, rfl⟩
      · refine ent_ok rfl ?_
        simp [conj]
      · rintro n ⟨hn, hgn⟩
        refine sw_seq ?_
        refine sw_seq ?_
        refine sw_region hP 6 [] rfl (by kernel_rfl) (fun _ => by kernel_rfl) (by first | trivial | (simp [conj]; done) | (simp [conj] at *; (try dsimp only [Ty.den, Ty.dflt] at *); omega)) ?_
        refine sw_cond rfl (fun c13 => ?_) (fun c13 => ?_)
        · skip
          have hln : n < (blksOf l).length := by simpa using c13
          refine sw_skip ?_
          refine sw_seq ?_
          refine sw_block ?_
          refine sw_seq ?_
          refine sw_seq ?_
          refine sw_region hP 7 [] rfl (by kernel_rfl) (fun _ => by kernel_rfl) ?_ ?_
          · skip
            simp [conj, List.getElem?_eq_getElem hln]
            repeat' apply And.intro
            all_goals first | omega | exact hd1 | trivial
          refine sw_cond rfl (fun c15 => ?_) (fun c15 => ?_)
          · skip
            replace c15 : ptrW d (blksOf l)[n] = false := by simpa [List.getElem?_eq_getElem hln] using c15
            have hf : ptrG d ((blksOf l).take n) (blksOf l)[n] = false := by simp [ptrG, c15]
            refine sw_seq ?_
            refine sw_region hP 8 [] rfl (by kernel_rfl) (fun _ => by kernel_rfl) (by first | trivial | (simp [conj]; done) | (simp [conj] at *; (try dsimp only [Ty.den, Ty.dflt] at *); omega)) ?_
            refine sw_ret ⟨.inl rfl, _, rfl, ?_⟩
            have hv := chk_hit hln hgn hf
            simp [conj, volsS, hvg, hv]
          · skip
            replace c15 : ptrW d (blksOf l)[n] = true := by simpa [List.getElem?_eq_getElem hln] using c15
            refine sw_skip ?_
            refine sw_seq ?_
            refine sw_region hP 8 [] rfl (by kernel_rfl) (fun _ => by kernel_rfl) (by first | trivial | (simp [conj]; done) | (simp [conj] at *; (try dsimp only [Ty.den, Ty.dflt] at *); omega)) ?_
            refine sw_block ?_
            refine sw_loop (ι := Nat) (fun m => ⟨[sInt .i64 d, .junk, .junk, .v false [.ptr ⟨1, 0, 0⟩ 0], .junk, .junk, .junk, .v false [.own ⟨0, 9, 0⟩], sInt .i64 (n : Int), sInt .i64 (m : Int), .junk, .junk, .junk, .junk, .junk, .junk, .junk, .junk, .junk, .junk, .junk, .junk, .junk, .junk, .junk, .junk, .junk, .junk, .junk, .junk, .junk, .junk, .junk, .junk, .junk, .junk, .junk, .junk, .junk, .junk, .junk, .junk, .junk, .junk, .junk, .junk, .junk, .junk, .junk, .junk, .junk, .junk, .junk, .junk, .junk, .junk, .junk, .junk, .junk, .junk, .junk, .junk, .junk, .junk, .junk, .junk, .junk, .junk, .junk, .junk, .junk, .junk, .junk, .junk, .junk, .junk, .junk, .junk, .junk, .junk, .junk, .junk, .junk, .junk, .junk, .junk, .junk, .junk, .junk, .junk, .junk, .junk, .junk, .junk], [(⟨1, 0, 0⟩, .var [.d TI pF tg, .d (.sl T_Vol) (.all .b) l]), (⟨0, 9, 0⟩, .sl T_Ptr (.all .b) (blksOf l))], 8, []⟩) (fun m => n - m) (fun m => m ≤ n ∧ ((blksOf l).take m).any (fun q : Ptr_ => meetV (blksOf l)[n] q && !decide ((blksOf l)[n] = q)) = false) 0 ⟨?_, ?_⟩ ?_
            · skip
              exact ⟨Nat.zero_le _, rfl⟩
            · refine ent_ok rfl ?_
              simp [conj]
            · rintro m ⟨hm, hgm⟩
              refine sw_seq ?_
              refine sw_seq ?_
              refine sw_region hP 9 [] rfl (by kernel_rfl) (fun _ => by kernel_rfl) (by first | trivial | (simp [conj]; done) | (simp [conj] at *; (try dsimp only [Ty.den, Ty.dflt] at *); omega)) ?_
              refine sw_cond rfl (fun c18 => ?_) (fun c18 => ?_)
              · skip
                have hmn : m < n := by simpa using c18
                have hlm : m < (blksOf l).length := by omega
                refine sw_skip ?_
                refine sw_seq ?_
                refine sw_block ?_
                refine sw_seq ?_
                refine sw_dec hP 10 [] 9 rfl (fun g20_9 => ?_) (fun g20_9 => ?_)
                · skip
                  have k9 : meetV (blksOf l)[n] (blksOf l)[m] = true := by simpa [List.getElem?_eq_getElem hln, List.getElem?_eq_getElem hlm] using g20_9
                  refine sw_region hP 10 [(9, true)] rfl (by kernel_rfl) (fun _ => by kernel_rfl) ?_ ?_
                  · skip
                    simp [conj, List.getElem?_eq_getElem hln, List.getElem?_eq_getElem hlm]
                    repeat' apply And.intro
                    all_goals first | omega | assumption | exact k9 | trivial
                  refine sw_cond rfl (fun c20 => ?_) (fun c20 => ?_)
                  · skip
                    replace c20 : ¬ (blksOf l)[n] = (blksOf l)[m] := by
                      intro e
                      simp [List.getElem?_eq_getElem hln, List.getElem?_eq_getElem hlm, e] at c20
                    have hq : (fun q : Ptr_ => meetV (blksOf l)[n] q && !decide ((blksOf l)[n] = q)) (blksOf l)[m] = true := by simp only [k9]; simp [c20]
                    have hf : ptrG d ((blksOf l).take n) (blksOf l)[n] = false := by unfold ptrG; rw [any_hit hmn hlm hq]; simp
                    refine sw_seq ?_
                    refine sw_region hP 11 [] rfl (by kernel_rfl) (fun _ => by kernel_rfl) (by first | trivial | (simp [conj]; done) | (simp [conj] at *; (try dsimp only [Ty.den, Ty.dflt] at *); omega)) ?_
                    refine sw_ret ⟨.inl rfl, _, rfl, ?_⟩
                    have hv := chk_hit hln hgn hf
                    simp [conj, volsS, hvg, hv]
                  · skip
                    replace c20 : (blksOf l)[n] = (blksOf l)[m] := by
                      have h := c20
                      simp [List.getElem?_eq_getElem hln, List.getElem?_eq_getElem hlm] at h
                      exact Prod.ext h.1 (Prod.ext h.2.1 h.2.2)
                    have hq : (fun q : Ptr_ => meetV (blksOf l)[n] q && !decide ((blksOf l)[n] = q)) (blksOf l)[m] = false := by simp only [c20]; simp
                    refine sw_skip ?_
                    refine sw_region hP 11 [] rfl (by kernel_rfl) (fun _ => by kernel_rfl) (by first | trivial | (simp [conj]; done) | (simp [conj] at *; (try dsimp only [Ty.den, Ty.dflt] at *); omega)) ?_
                    refine ⟨m + 1, ?_, ?_, ent_ok rfl ?_⟩
                    · skip
                      exact ⟨hmn, any_next hlm hgm hq⟩
                    · skip
                      omega
                    · skip
                      simp [conj]
                · skip
                  have k9 : meetV (blksOf l)[n] (blksOf l)[m] = false := by simpa [List.getElem?_eq_getElem hln, List.getElem?_eq_getElem hlm] using g20_9
                  have hq : (fun q : Ptr_ => meetV (blksOf l)[n] q && !decide ((blksOf l)[n] = q)) (blksOf l)[m] = false := by simp only [k9]; rfl
                  refine sw_region hP 10 [(9, false)] rfl (by kernel_rfl) (fun _ => by kernel_rfl) ?_ ?_
                  · skip
                    simp [conj, List.getElem?_eq_getElem hln, List.getElem?_eq_getElem hlm]
                    repeat' apply And.intro
                    all_goals first | omega | assumption | exact k9 | trivial
                  refine sw_condF rfl ?_
                  refine sw_skip ?_
                  refine sw_region hP 11 [] rfl (by kernel_rfl) (fun _ => by kernel_rfl) (by first | trivial | (simp [conj]; done) | (simp [conj] at *; (try dsimp only [Ty.den, Ty.dflt] at *); omega)) ?_
                  refine ⟨m + 1, ?_, ?_, ent_ok rfl ?_⟩
                  · skip
                    exact ⟨hmn, any_next hlm hgm hq⟩
                  · skip
                    omega
                  · skip
                    simp [conj]
              · skip
                obtain rfl : m = n := by simp at c18; omega
                have hf : ptrG d ((blksOf l).take m) (blksOf l)[m] = true := by unfold ptrG; rw [c15, hgm]; rfl
                refine sw_exit ?_
                refine sw_region hP 10 [] rfl (by kernel_rfl) (fun _ => by kernel_rfl) (by first | trivial | (simp [conj]; done) | (simp [conj] at *; (try dsimp only [Ty.den, Ty.dflt] at *); omega)) ?_
                refine ⟨m + 1, ?_, ?_, ent_ok rfl ?_⟩
                · skip
                  exact ⟨hln, chk_next hln hgn hf⟩
                · skip
                  omega
                · skip
                  simp [conj]
        · skip
          obtain rfl : n = (blksOf l).length := by simp at c13; omega
          refine sw_exit ?_
          refine sw_seq ?_
          refine sw_region hP 7 [] rfl (by kernel_rfl) (fun _ => by kernel_rfl) (by first | trivial | (simp [conj]; done) | (simp [conj] at *; (try dsimp only [Ty.den, Ty.dflt] at *); omega)) ?_
          refine sw_ret ⟨.inl rfl, _, rfl, ?_⟩
          have hv := chk_end hgn
          simp [conj, volsS, hvg, hv]

def cRootOkS : Ctr := ⟨10, [.val false TI pF, .val true T_Root (.all .b)], fun x => True, fun x => (sBool (rootS x.1 x.2.1), [])⟩
theorem cRootOkS_ok : CtrOk Proofs.Tryd.prog cRootOkS := by
  have hP := ((((Prg.none ttok mtok).and cDisks_ok).and cIn_ok).and cVolsS_ok)
  refine ctr_of_body hP cRootOkS (fn := Proofs.Tryd.f10) (rts := [.tmp 4]) Proofs.Tryd.func10 rfl (by kernel_rfl) rfl rfl ?_
  rintro ⟨(d : Int), ⟨(tg : Int), (l : List Vol_)⟩, ⟨⟩⟩ _ _
  try dsimp only [Ty.den, Mode.den, mdens] at _
  refine ⟨rfl, ?_⟩
  refine sw_seq ?_
  refine sw_region hP 1 [] rfl (by kernel_rfl) (fun _ => by kernel_rfl) (by first | trivial | (simp [conj]; done) | (simp [conj] at *; (try dsimp only [Ty.den, Ty.dflt] at *); omega)) ?_
  refine sw_seq ?_
  refine sw_dec hP 2 [] 2 rfl (fun g1_2 => ?_) (fun g1_2 => ?_)
  · skip
    have k2 : poolV d = true := g1_2
    refine sw_dec hP 2 [(2, true)] 7 rfl (fun g1_7 => ?_) (fun g1_7 => ?_)
    · skip
      have k7 : inV tg 0 100000 = true := g1_7
      refine sw_dec hP 2 [(2, true), (7, true)] 13 rfl (fun g1_13 => ?_) (fun g1_13 => ?_)
      · skip
        have k13 : l.length ≤ 4 := by have h := g1_13; simp at h; omega
        refine sw_region hP 2 [(2, true), (7, true), (13, true)] rfl (by kernel_rfl) (fun _ => by kernel_rfl) ?_ ?_
        · skip
          simp only [conj, List.nil_append, List.cons_append, List.append_nil, List.append_assoc, inR_i64, true_and, and_true, Int.toNat_natCast]
          try dsimp only [Ty.den, Ty.dflt]
          repeat' apply And.intro
          all_goals first | trivial | exact g1_2 | exact g1_7 | exact g1_13 | assumption | exact k2 | exact k13
        refine sw_ret ⟨.inl rfl, _, rfl, ?_⟩
        simp [conj, rootS, *]
      · skip
        have k13 : ¬ l.length ≤ 4 := by have h := g1_13; simp at h; omega
        refine sw_region hP 2 [(2, true), (7, true), (13, false)] rfl (by kernel_rfl) (fun _ => by kernel_rfl) ?_ ?_
        · skip
          simp only [conj, List.nil_append, List.cons_append, List.append_nil, List.append_assoc, inR_i64, true_and, and_true, Int.toNat_natCast]
          try dsimp only [Ty.den, Ty.dflt]
          repeat' apply And.intro
          all_goals first | trivial | exact g1_2 | exact g1_7 | exact g1_13 | assumption | exact k2 | exact k13
        refine sw_ret ⟨.inl rfl, _, rfl, ?_⟩
        simp [conj, rootS, *]
    · skip
      have k7 : inV tg 0 100000 = false := g1_7
      refine sw_region hP 2 [(2, true), (7, false)] rfl (by kernel_rfl) (fun _ => by kernel_rfl) ?_ ?_
      · skip
        simp only [conj, List.nil_append, List.cons_append, List.append_nil, List.append_assoc, inR_i64, true_and, and_true, Int.toNat_natCast]
        try dsimp only [Ty.den, Ty.dflt]
        repeat' apply And.intro
        all_goals first | trivial | exact g1_2 | exact g1_7 | exact g1_13 | assumption | exact k2 | exact k13
      refine sw_ret ⟨.inl rfl, _, rfl, ?_⟩
      simp [conj, rootS, *]
  · skip
    have k2 : poolV d = false := g1_2
    refine sw_region hP 2 [(2, false)] rfl (by kernel_rfl) (fun _ => by kernel_rfl) ?_ ?_
    · skip
      simp only [conj, List.nil_append, List.cons_append, List.append_nil, List.append_assoc, inR_i64, true_and, and_true, Int.toNat_natCast]
      try dsimp only [Ty.den, Ty.dflt]
      repeat' apply And.intro
      all_goals first | trivial | exact g1_2 | exact g1_7 | exact g1_13 | assumption | exact k2 | exact k13
    refine sw_ret ⟨.inl rfl, _, rfl, ?_⟩
    simp [conj, rootS, *]

def cPtrOkS : Ctr := ⟨11, [.val false TI pF, .val true T_Ptr (.all .b)], fun x => True, fun x => (sBool (poolV x.1 && ptrW x.1 x.2.1), [])⟩
theorem cPtrOkS_ok : CtrOk Proofs.Tryd.prog cPtrOkS := by
  have hP := (((Prg.none ttok mtok).and cDisks_ok).and cPtrS_ok)
  refine ctr_of_body hP cPtrOkS (fn := Proofs.Tryd.f11) (rts := [.tmp 4]) Proofs.Tryd.func11 rfl (by kernel_rfl) rfl rfl ?_
  rintro ⟨(d : Int), ⟨(sz : Int), (sm : Int), (pl : List Plc)⟩, ⟨⟩⟩ _ _
  try dsimp only [Ty.den, Mode.den, mdens] at _
  refine ⟨rfl, ?_⟩
  refine sw_seq ?_
  refine sw_region hP 1 [] rfl (by kernel_rfl) (fun _ => by kernel_rfl) (by first | trivial | (simp [conj]; done) | (simp [conj] at *; (try dsimp only [Ty.den, Ty.dflt] at *); omega)) ?_
  refine sw_seq ?_
  refine sw_dec hP 2 [] 2 rfl (fun g1_2 => ?_) (fun g1_2 => ?_)
  · skip
    have k2 : poolV d = true := g1_2
    refine sw_region hP 2 [(2, true)] rfl (by kernel_rfl) (fun _ => by kernel_rfl) ?_ ?_
    · skip
      simp only [conj, List.nil_append, List.cons_append, List.append_nil, List.append_assoc, inR_i64, true_and, and_true, Int.toNat_natCast]
      try dsimp only [Ty.den, Ty.dflt]
      repeat' apply And.intro
      all_goals first | trivial | exact g1_2 | assumption | exact k2
    refine sw_ret ⟨.inl rfl, _, rfl, ?_⟩
    simp [conj, k2]
  · skip
    have k2 : poolV d = false := g1_2
    refine sw_region hP 2 [(2, false)] rfl (by kernel_rfl) (fun _ => by kernel_rfl) ?_ ?_
    · skip
      simp only [conj, List.nil_append, List.cons_append, List.append_nil, List.append_assoc, inR_i64, true_and, and_true, Int.toNat_natCast]
      try dsimp only [Ty.den, Ty.dflt]
      repeat' apply And.intro
      all_goals first | trivial | exact g1_2 | assumption | exact k2
    refine sw_ret ⟨.inl rfl, _, rfl, ?_⟩
    simp [conj, k2]

def cDecK (k : Nat) : Ctr := ⟨40, [.val false TI pF], fun x => 0 ≤ x.1 ∧ 1 ≤ k ∧ x.1 < 10 ^ k, fun x => (sStr (itoaV x.1), [])⟩
theorem cDecK_ok : ∀ k, CtrOk Proofs.Tryd.prog (cDecK k) := by
  intro k
  induction k with
  | zero =>
    rintro G w args ⟨(n : Int), ⟨⟩⟩ _ _ _ ⟨_, h1, _⟩
    exact absurd h1 (by decide)
  | succ k ih =>
    have hP := ((Prg.none ttok mtok).and ih)
    refine ctr_of_body hP (cDecK (k + 1)) (fn := Proofs.Tryd.f40) (rts := [.tmp 2]) Proofs.Tryd.func40 rfl (by kernel_rfl) rfl rfl ?_
    rintro ⟨(n : Int), ⟨⟩⟩ ⟨hn0, _⟩ ⟨h0, _, h1⟩
    try dsimp only [Ty.den, Mode.den, mdens] at h0
    try dsimp only [Ty.den, Mode.den, mdens] at _
    try dsimp only [Ty.den, Mode.den, mdens] at h1
    refine ⟨rfl, ?_⟩
    replace hn0 : inR .i64 n := hn0
    rw [inR_i64] at hn0
    replace h0 : 0 ≤ n := h0
    replace h1 : n < 10 ^ (k + 1) := h1
    rw [Int.pow_succ] at h1
    have hq : n.tdiv 10 = n / 10 := Int.tdiv_eq_ediv_of_nonneg h0
    have hr : n.tmod 10 = n % 10 := Int.tmod_eq_emod_of_nonneg h0
    have hlq : (itoaV (n.tdiv 10)).length ≤ 21 := itoaV_len (by rw [inR_i64]; omega)
    refine sw_seq ?_
    refine sw_region hP 1 [] rfl (by kernel_rfl) (fun _ => by kernel_rfl) (by first | trivial | (simp [conj]; done) | (simp [conj] at *; (try dsimp only [Ty.den, Ty.dflt] at *); omega)) ?_
    refine sw_seq ?_
    refine sw_seq ?_
    refine sw_region hP 2 [] rfl (by kernel_rfl) (fun _ => by kernel_rfl) (by first | trivial | (simp [conj]; done) | (simp [conj] at *; (try dsimp only [Ty.den, Ty.dflt] at *); omega)) ?_
    refine sw_cond rfl (fun c1 => ?_) (fun c1 => ?_)
    · skip
      have h : n < -9223372036854775807 := of_decide_eq_true c1
      omega
    · skip
      refine sw_skip ?_
      refine sw_seq ?_
      refine sw_seq ?_
      refine sw_region hP 3 [] rfl (by kernel_rfl) (fun _ => by kernel_rfl) (by first | trivial | (simp [conj]; done) | (simp [conj] at *; (try dsimp only [Ty.den, Ty.dflt] at *); omega)) ?_
      refine sw_cond rfl (fun c3 => ?_) (fun c3 => ?_)
      · skip
        have h : n < 0 := of_decide_eq_true c3
        omega
      · skip
        refine sw_skip ?_
        refine sw_seq ?_
        refine sw_seq ?_
        refine sw_region hP 4 [] rfl (by kernel_rfl) (fun _ => by kernel_rfl) (by first | trivial | (simp [conj]; done) | (simp [conj] at *; (try dsimp only [Ty.den, Ty.dflt] at *); omega)) ?_
        refine sw_cond rfl (fun c5 => ?_) (fun c5 => ?_)
        · skip
          replace c5 : n < 10 := of_decide_eq_true c5
          refine sw_seq ?_
          refine sw_region hP 5 [] rfl (by kernel_rfl) (fun _ => by kernel_rfl) ?_ ?_
          · skip
            simp only [conj, List.nil_append, List.cons_append, List.append_nil, List.append_assoc, inR_i64, inR_u8, true_and, and_true, Int.toNat_natCast]
            try dsimp only [Ty.den, Ty.dflt]
            repeat' apply And.intro
            all_goals first | omega | trivial
          refine sw_ret ⟨.inl rfl, _, rfl, ?_⟩
          simp [conj, ofBytes]
          exact (itoaV_small h0 c5).symm
        · skip
          replace c5 : ¬ n < 10 := of_decide_eq_false c5
          have hk : 1 ≤ k := by
            rcases k with _ | k
            · simp at h1; omega
            · omega
          refine sw_skip ?_
          refine sw_seq ?_
          refine sw_region hP 5 [] rfl (by kernel_rfl) (fun _ => by kernel_rfl) ?_ ?_
          · skip
            simp only [conj, List.nil_append, List.cons_append, List.append_nil, List.append_assoc, inR_i64, inR_u8, true_and, and_true, Int.toNat_natCast]
            try dsimp only [Ty.den, Ty.dflt]
            repeat' apply And.intro
            all_goals first | omega | (show 0 ≤ n.tdiv 10; omega) | (show n.tdiv 10 < 10 ^ k; omega) | (show _ ≤ n.tdiv 10; omega) | (show n.tdiv 10 ≤ _; omega) | (show _ ≤ 48 + n.tmod 10; omega) | (show 48 + n.tmod 10 ≤ _; omega) | trivial | exact hk | (show (itoaV (n.tdiv 10)).length + 1 ≤ 140737488355328; omega) | trace_state
          refine sw_ret ⟨.inl rfl, _, rfl, ?_⟩
          simp [conj, ofBytes]
          rw [itoaV_big h0 c5, hq, hr]
def cDec : Ctr := ⟨(cDecK 0).f, [.val false TI pF], fun x => 0 ≤ x.1, fun x => (sStr (itoaV x.1), [])⟩
theorem cDec_ok : CtrOk Proofs.Tryd.prog cDec := by
  rintro G w args ⟨(n : Int), ⟨⟩⟩ hb ha hargs h0
  have hn : inR .i64 n := by
    obtain ⟨v, vs, _, ⟨_, cs, _, _, ⟨_, hn⟩⟩, _⟩ := hargs
    exact hn
  rw [inR_i64] at hn
  exact cDecK_ok 19 G w args (n, ()) hb ha hargs ⟨h0, by decide, by show n < (10 : Int) ^ 19; rw [show (10 : Int) ^ 19 = 10000000000000000000 by decide]; omega⟩

def cLineS : Ctr := ⟨63, [.val true T_Ptr (.all .b)], fun x => ∃ d, ptrV d x.1 = true, fun x => (sStr (lineV x.1), [])⟩
theorem cLineS_ok : CtrOk Proofs.Tryd.prog cLineS := by
  have hP := ((Prg.none ttok mtok).and cDec_ok)
  refine ctr_of_body hP cLineS (fn := Proofs.Tryd.f63) (rts := [.tmp 2]) Proofs.Tryd.func63 rfl (by kernel_rfl) rfl rfl ?_
  rintro ⟨⟨(sz : Int), (sm : Int), (pl : List Plc)⟩, ⟨⟩⟩ ⟨⟨hz0, hm0, hpl0⟩, _⟩ ⟨d, hpre⟩
  try dsimp only [Ty.den, Mode.den, mdens] at d
  try dsimp only [Ty.den, Mode.den, mdens] at hpre
  refine ⟨rfl, ?_⟩
  replace hpre : ptrV d ((sz, sm, pl) : Ptr_) = true := hpre
  have hl4 : pl.length ≤ 4 := ptrV_len hpre
  have hi1 : (itoaV sz).length ≤ 21 := itoaV_len hz0
  have hi2 : (itoaV sm).length ≤ 21 := itoaV_len hm0
  refine sw_seq ?_
  refine sw_region hP 1 [] rfl (by kernel_rfl) (fun _ => by kernel_rfl) (by first | trivial | (simp [conj]; done) | (simp [conj] at *; (try dsimp only [Ty.den, Ty.dflt] at *); omega)) ?_
  refine sw_seq ?_
  refine sw_seq ?_
  refine sw_region hP 2 [] rfl (by kernel_rfl) (fun _ => by kernel_rfl) (by first | trivial | (simp [conj]; done) | (simp [conj] at *; (try dsimp only [Ty.den, Ty.dflt] at *); omega)) ?_
  refine sw_cond rfl (fun c1 => ?_) (fun c1 => ?_)
  · skip
    replace c1 : sz = 0 := of_decide_eq_true c1
    have hnn : noneV ((sz, sm, pl) : Ptr_) = true := ptrV_none hpre c1
    refine sw_seq ?_
    refine sw_region hP 3 [] rfl (by kernel_rfl) (fun _ => by kernel_rfl) (by first | trivial | (simp [conj]; done) | (simp [conj] at *; (try dsimp only [Ty.den, Ty.dflt] at *); omega)) ?_
    refine sw_ret ⟨.inl rfl, _, rfl, ?_⟩
    simp [conj, lineV, hnn, bytesL]
    rfl
  · skip
    replace c1 : ¬ sz = 0 := of_decide_eq_false c1
    have hnn : noneV ((sz, sm, pl) : Ptr_) = false := by simp [noneV, c1]
    obtain ⟨hp1, hp2, hp3⟩ := ptrV_pos hpre c1
    refine sw_skip ?_
    refine sw_seq ?_
    refine sw_region hP 3 [] rfl (by kernel_rfl) (fun _ => by kernel_rfl) ?_ ?_
    · skip
      simp [conj, maxL, bytesL]
      repeat' apply And.intro
      all_goals first | omega | exact hp1 | exact hp2 | trivial
    refine sw_seq ?_
    refine sw_seq ?_
    refine sw_region hP 4 [] rfl (by kernel_rfl) (fun _ => by kernel_rfl) (by first | trivial | (simp [conj]; done) | (simp [conj] at *; (try dsimp only [Ty.den, Ty.dflt] at *); omega)) ?_
    refine sw_block ?_
    refine sw_loop (ι := Nat × Str) (fun ⟨i, o⟩ => ⟨[.junk, .v false [.ptr ⟨1, 0, 0⟩ 0], .junk, sStr o, sInt .i64 (i : Int), .junk, .junk, .junk, .junk, .junk, .junk, .junk, .junk, .junk, .junk, .junk, .junk, .junk, .junk, .junk, .junk, .junk, .junk, .junk, .junk, .junk, .junk, .junk, .junk, .junk, .junk, .junk, .junk, .junk, .junk, .junk, .junk, .junk, .junk, .junk, .junk, .junk, .junk, .junk, .junk], [(⟨1, 0, 0⟩, .var [.d TI pF sz, .d TI pF sm, .d (.sl T_Place) (.all .b) pl])], 4, []⟩) (fun ⟨i, o⟩ => pl.length - i) (fun ⟨i, o⟩ => i ≤ pl.length ∧ o ++ catGo wordS (pl.drop i) = (Lib.join (wordsV ((sz, sm, pl) : Ptr_)) [32]) ∧ o.length ≤ 50 + i * 50) (0, tPtr ++ [32] ++ itoaV sz ++ [32] ++ itoaV sm) ⟨?_, ?_⟩ ?_
    · skip
      exact ⟨Nat.zero_le _, words_join.symm, by simp [tPtr]; omega⟩
    · refine ent_ok rfl ?_
      simp [conj, bytesL]
      rfl
    · rintro ⟨i, o⟩ ⟨hi, hgo, hol⟩
      refine sw_seq ?_
      refine sw_seq ?_
      refine sw_region hP 5 [] rfl (by kernel_rfl) (fun _ => by kernel_rfl) (by first | trivial | (simp [conj]; done) | (simp [conj] at *; (try dsimp only [Ty.den, Ty.dflt] at *); omega)) ?_
      refine sw_cond rfl (fun c5 => ?_) (fun c5 => ?_)
      · skip
        have hlt : i < pl.length := by simpa using c5
        have hin := hpl0.2 _ (List.getElem_mem hlt)
        have hpp := hp3 _ (List.getElem_mem hlt)
        have hi3 : (itoaV pl[i].1).length ≤ 21 := itoaV_len hin.1
        have hi4 : (itoaV pl[i].2).length ≤ 21 := itoaV_len hin.2
        refine sw_skip ?_
        refine sw_seq ?_
        refine sw_block ?_
        refine sw_region hP 6 [] rfl (by kernel_rfl) (fun _ => by kernel_rfl) ?_ ?_
        · skip
          simp [conj, maxL, bytesL, List.getElem?_eq_getElem hlt]
          repeat' apply And.intro
          all_goals first | omega | exact hpp.1 | exact hpp.2 | trivial
        refine sw_region hP 7 [] rfl (by kernel_rfl) (fun _ => by kernel_rfl) (by first | trivial | (simp [conj]; done) | (simp [conj] at *; (try dsimp only [Ty.den, Ty.dflt] at *); omega)) ?_
        refine ⟨(i + 1, o ++ wordS pl[i]), ?_, ?_, ent_ok rfl ?_⟩
        · skip
          exact ⟨hlt, cat_next hlt hgo, by simp [wordS, wordV]; omega⟩
        · skip
          show pl.length - (i + 1) < pl.length - i
          omega
        · skip
          simp [conj, bytesL, wordS, wordV, List.getElem?_eq_getElem hlt]
      · skip
        obtain rfl : i = pl.length := by simp at c5; omega
        have hv := cat_end hgo
        subst hv
        refine sw_exit ?_
        refine sw_seq ?_
        refine sw_region hP 6 [] rfl (by kernel_rfl) (fun _ => by kernel_rfl) ?_ ?_
        · skip
          simp [conj, maxL, bytesL]
          repeat' apply And.intro
          all_goals first | omega | trivial
        refine sw_ret ⟨.inl rfl, _, rfl, ?_⟩
        simp [conj, lineV, hnn, bytesL]

def cTextS : Ctr := ⟨39, [.val true T_Root (.all .b)], fun x => ∃ d, rootV d x.1 = true, fun x => (sStr (bodyV x.1), [])⟩
theorem cTextS_ok : CtrOk Proofs.Tryd.prog cTextS := by
  have hP := (((Prg.none ttok mtok).and cDec_ok).and cLineS_ok)
  refine ctr_of_body hP cTextS (fn := Proofs.Tryd.f39) (rts := [.tmp 2]) Proofs.Tryd.func39 rfl (by kernel_rfl) rfl rfl ?_
  rintro ⟨⟨(tg : Int), (l : List Vol_)⟩, ⟨⟩⟩ ⟨⟨ht0, hl0⟩, _⟩ ⟨d, hpre⟩
  try dsimp only [Ty.den, Mode.den, mdens] at d
  try dsimp only [Ty.den, Mode.den, mdens] at hpre
  refine ⟨rfl, ?_⟩
  replace hpre : rootV d ((tg, l) : Root_) = true := hpre
  have hs := rootV_small hpre
  have ht1 : 0 ≤ tg := rootV_txg hpre
  have hi1 : (itoaV tg).length ≤ 21 := itoaV_len ht0
  have hml : l.length ≤ 4 := hs.1
  refine sw_seq ?_
  refine sw_region hP 1 [] rfl (by kernel_rfl) (fun _ => by kernel_rfl) (by first | trivial | (simp [conj]; done) | (simp [conj] at *; (try dsimp only [Ty.den, Ty.dflt] at *); omega)) ?_
  refine sw_seq ?_
  refine sw_region hP 2 [] rfl (by kernel_rfl) (fun _ => by kernel_rfl) ?_ ?_
  · skip
    simp [conj, maxL, bytesL]
    repeat' apply And.intro
    all_goals first | omega | exact ht1 | trivial
  refine sw_seq ?_
  refine sw_seq ?_
  refine sw_region hP 3 [] rfl (by kernel_rfl) (fun _ => by kernel_rfl) (by first | trivial | (simp [conj]; done) | (simp [conj] at *; (try dsimp only [Ty.den, Ty.dflt] at *); omega)) ?_
  refine sw_block ?_
  refine sw_loop (ι := Nat × Str) (fun ⟨i, o⟩ => ⟨[.junk, .v false [.ptr ⟨1, 0, 0⟩ 0], .junk, sStr o, sInt .i64 (i : Int), .junk, .junk, .junk, .junk, .junk, .junk, .junk, .junk, .junk, .junk, .junk, .junk, .junk, .junk, .junk, .junk, .junk, .junk, .junk, .junk, .junk, .junk, .junk, .junk, .junk, .junk, .junk, .junk, .junk, .junk, .junk, .junk, .junk, .junk, .junk, .junk, .junk, .junk, .junk, .junk, .junk, .junk, .junk, .junk, .junk, .junk, .junk], [(⟨1, 0, 0⟩, .var [.d TI pF tg, .d (.sl T_Vol) (.all .b) l])], 3, []⟩) (fun ⟨i, o⟩ => l.length - i) (fun ⟨i, o⟩ => i ≤ l.length ∧ o ++ catGo volT (l.drop i) = bodyV ((tg, l) : Root_) ∧ o.length ≤ 27 + i * 1000) (0, tRoot ++ itoaV tg ++ [10]) ⟨?_, ?_⟩ ?_
  · skip
    exact ⟨Nat.zero_le _, rfl, by simp [tRoot]; omega⟩
  · refine ent_ok rfl ?_
    simp [conj, bytesL]
    try rfl
  · rintro ⟨i, o⟩ ⟨hi, hgo, hol⟩
    refine sw_seq ?_
    refine sw_seq ?_
    refine sw_region hP 4 [] rfl (by kernel_rfl) (fun _ => by kernel_rfl) (by first | trivial | (simp [conj]; done) | (simp [conj] at *; (try dsimp only [Ty.den, Ty.dflt] at *); omega)) ?_
    refine sw_cond rfl (fun c3 => ?_) (fun c3 => ?_)
    · skip
      have hlt : i < l.length := by simpa using c3
      obtain ⟨hn3, hb3, hpv⟩ := hs.2 _ (List.getElem_mem hlt)
      refine sw_skip ?_
      refine sw_seq ?_
      refine sw_block ?_
      refine sw_seq ?_
      refine sw_region hP 5 [] rfl (by kernel_rfl) (fun _ => by kernel_rfl) ?_ ?_
      · skip
        simp [conj, maxL, bytesL, List.getElem?_eq_getElem hlt]
        repeat' apply And.intro
        all_goals first | omega | trivial
      refine sw_seq ?_
      refine sw_region hP 6 [] rfl (by kernel_rfl) (fun _ => by kernel_rfl) (by first | trivial | (simp [conj]; done) | (simp [conj] at *; (try dsimp only [Ty.den, Ty.dflt] at *); omega)) ?_
      refine sw_block ?_
      refine sw_loop (ι := Nat × Str) (fun ⟨j, o⟩ => ⟨[.junk, .v false [.ptr ⟨1, 0, 0⟩ 0], .junk, sStr o, sInt .i64 (i : Int), sInt .i64 (j : Int), .junk, .junk, .junk, .junk, .junk, .junk, .junk, .junk, .junk, .junk, .junk, .junk, .junk, .junk, .junk, .junk, .junk, .junk, .junk, .junk, .junk, .junk, .junk, .junk, .junk, .junk, .junk, .junk, .junk, .junk, .junk, .junk, .junk, .junk, .junk, .junk, .junk, .junk, .junk, .junk, .junk, .junk, .junk, .junk, .junk, .junk], [(⟨1, 0, 0⟩, .var [.d TI pF tg, .d (.sl T_Vol) (.all .b) l])], 6, []⟩) (fun ⟨j, o⟩ => l[i].2.length - j) (fun ⟨j, o⟩ => j ≤ l[i].2.length ∧ (o ++ catGo lineV (l[i].2.drop j)) ++ catGo volT (l.drop (i + 1)) = bodyV ((tg, l) : Root_) ∧ o.length ≤ 27 + i * 1000 + 8 + j * 300) (0, o ++ (tVol ++ l[i].1 ++ [10])) ⟨?_, ?_⟩ ?_
      · skip
        exact ⟨Nat.zero_le _, vol_in hlt hgo, by simp [tVol]; omega⟩
      · refine ent_ok rfl ?_
        simp [conj, bytesL, List.getElem?_eq_getElem hlt]
        try rfl
      · rintro ⟨j, o⟩ ⟨hj, hgo2, hol2⟩
        refine sw_seq ?_
        refine sw_seq ?_
        refine sw_region hP 7 [] rfl (by kernel_rfl) (fun _ => by kernel_rfl) ?_ ?_
        · skip
          simp [conj, List.getElem?_eq_getElem hlt]
          repeat' apply And.intro
          all_goals first | omega | trivial
        refine sw_cond rfl (fun c7 => ?_) (fun c7 => ?_)
        · skip
          have hlj : j < l[i].2.length := by
            have h := c7
            simp [List.getElem?_eq_getElem hlt] at h
            omega
          have hpj := hpv _ (List.getElem_mem hlj)
          obtain ⟨dd, hpd⟩ := hpj
          have hok := (hl0.2 _ (List.getElem_mem hlt)).2.2 _ (List.getElem_mem hlj)
          have hll := lineV_len' hok.1 hok.2.1 hok.2.2.2 hpd
          refine sw_skip ?_
          refine sw_seq ?_
          refine sw_block ?_
          refine sw_region hP 8 [] rfl (by kernel_rfl) (fun _ => by kernel_rfl) ?_ ?_
          · skip
            simp [conj, maxL, List.getElem?_eq_getElem hlt, List.getElem?_eq_getElem hlj]
            repeat' apply And.intro
            all_goals first | omega | exact ⟨dd, hpd⟩ | (have h : List.length (lineV l[i].2[j]) ≤ 300 := hll; show o.length + List.length (lineV l[i].2[j]) ≤ 140737488355328; omega) | trivial
          refine sw_region hP 9 [] rfl (by kernel_rfl) (fun _ => by kernel_rfl) (by first | trivial | (simp [conj]; done) | (simp [conj] at *; (try dsimp only [Ty.den, Ty.dflt] at *); omega)) ?_
          refine ⟨(j + 1, o ++ lineV l[i].2[j]), ?_, ?_, ent_ok rfl ?_⟩
          · skip
            exact ⟨hlj, vol_line hlj hgo2, by simp; omega⟩
          · skip
            show l[i].2.length - (j + 1) < l[i].2.length - j
            omega
          · skip
            simp [conj, List.getElem?_eq_getElem hlt, List.getElem?_eq_getElem hlj]
        · skip
          obtain rfl : j = l[i].2.length := by
            have h := c7
            simp [List.getElem?_eq_getElem hlt] at h
            omega
          refine sw_exit ?_
          refine sw_region hP 8 [] rfl (by kernel_rfl) (fun _ => by kernel_rfl) (by first | trivial | (simp [conj]; done) | (simp [conj] at *; (try dsimp only [Ty.den, Ty.dflt] at *); omega)) ?_
          refine ⟨(i + 1, o), ?_, ?_, ent_ok rfl ?_⟩
          · skip
            exact ⟨hlt, vol_out hgo2, by show o.length ≤ 27 + (i + 1) * 1000; omega⟩
          · skip
            show l.length - (i + 1) < l.length - i
            omega
          · skip
            simp [conj]
    · skip
      obtain rfl : i = l.length := by simp at c3; omega
      have hv := cat_end hgo
      subst hv
      refine sw_exit ?_
      refine sw_seq ?_
      refine sw_region hP 5 [] rfl (by kernel_rfl) (fun _ => by kernel_rfl) (by first | trivial | (simp [conj]; done) | (simp [conj] at *; (try dsimp only [Ty.den, Ty.dflt] at *); omega)) ?_
      refine sw_ret ⟨.inl rfl, _, rfl, ?_⟩
      simp [conj]

def cCheck : Ctr := ⟨41, [.val false .str pF], fun x => List.length x.1 ≤ 1000000, fun x => (sInt .i64 (weighV x.1), [])⟩
theorem cCheck_ok : CtrOk Proofs.Tryd.prog cCheck := by
  have hP := (Prg.none ttok mtok)
  refine ctr_of_body hP cCheck (fn := Proofs.Tryd.f41) (rts := [.tmp 2]) Proofs.Tryd.func41 rfl (by kernel_rfl) rfl rfl ?_
  rintro ⟨(s : Str), ⟨⟩⟩ _ hpre
  try dsimp only [Ty.den, Mode.den, mdens] at hpre
  refine ⟨rfl, ?_⟩
  replace hpre : s.length ≤ 1000000 := hpre
  refine sw_seq ?_
  refine sw_region hP 1 [] rfl (by kernel_rfl) (fun _ => by kernel_rfl) (by first | trivial | (simp [conj]; done) | (simp [conj] at *; (try dsimp only [Ty.den, Ty.dflt] at *); omega)) ?_
  refine sw_seq ?_
  refine sw_region hP 2 [] rfl (by kernel_rfl) (fun _ => by kernel_rfl) (by first | trivial | (simp [conj]; done) | (simp [conj] at *; (try dsimp only [Ty.den, Ty.dflt] at *); omega)) ?_
  refine sw_seq ?_
  refine sw_seq ?_
  refine sw_region hP 3 [] rfl (by kernel_rfl) (fun _ => by kernel_rfl) (by first | trivial | (simp [conj]; done) | (simp [conj] at *; (try dsimp only [Ty.den, Ty.dflt] at *); omega)) ?_
  refine sw_block ?_
  refine sw_loop (ι := Nat × Int) (fun ⟨i, n⟩ => ⟨[sStr s, .junk, .junk, sInt .i64 n, sInt .i64 (i : Int), .junk, .junk, .junk, .junk, .junk, .junk, .junk, .junk, .junk, .junk, .junk, .junk, .junk, .junk, .junk, .junk, .junk], [], 3, []⟩) (fun ⟨i, n⟩ => s.length - i) (fun ⟨i, n⟩ => i ≤ s.length ∧ n + weighGo (s.drop i) i = weighV s ∧ 0 ≤ n ∧ n ≤ (i : Int) * 300000000) (0, 0) ⟨?_, ?_⟩ ?_
  · skip
    exact ⟨Nat.zero_le _, by simp [weighV], by decide, by decide⟩
  · refine ent_ok rfl ?_
    simp [conj]
  · rintro ⟨i, n⟩ ⟨hi, hgo, hn0, hn1⟩
    refine sw_seq ?_
    refine sw_seq ?_
    refine sw_region hP 4 [] rfl (by kernel_rfl) (fun _ => by kernel_rfl) (by first | trivial | (simp [conj]; done) | (simp [conj] at *; (try dsimp only [Ty.den, Ty.dflt] at *); omega)) ?_
    refine sw_cond rfl (fun c3 => ?_) (fun c3 => ?_)
    · skip
      have hlt : i < s.length := by simpa using c3
      have hone := weigh_one (c := s[i]) (i := i) (by omega)
      refine sw_skip ?_
      refine sw_seq ?_
      refine sw_block ?_
      refine sw_region hP 5 [] rfl (by kernel_rfl) (fun _ => by kernel_rfl) ?_ ?_
      · skip
        simp [conj, List.getElem?_eq_getElem hlt]
        have hu : s[i].toNat < 256 := s[i].toNat_lt
        repeat' apply And.intro
        all_goals omega
      refine sw_region hP 6 [] rfl (by kernel_rfl) (fun _ => by kernel_rfl) (by first | trivial | (simp [conj]; done) | (simp [conj] at *; (try dsimp only [Ty.den, Ty.dflt] at *); omega)) ?_
      refine ⟨(i + 1, n + (s[i].toNat : Int) * (65536 + (i : Int) + 1)), ?_, ?_, ent_ok rfl ?_⟩
      · skip
        exact ⟨hlt, weigh_next hlt hgo, by show 0 ≤ n + (s[i].toNat : Int) * (65536 + (i : Int) + 1); omega, by show n + (s[i].toNat : Int) * (65536 + (i : Int) + 1) ≤ ((i + 1 : Nat) : Int) * 300000000; omega⟩
      · skip
        show s.length - (i + 1) < s.length - i
        omega
      · skip
        simp [conj, List.getElem?_eq_getElem hlt]
    · skip
      obtain rfl : i = s.length := by simp at c3; omega
      have hv := weigh_end hgo
      refine sw_exit ?_
      refine sw_seq ?_
      refine sw_region hP 5 [] rfl (by kernel_rfl) (fun _ => by kernel_rfl) (by first | trivial | (simp [conj]; done) | (simp [conj] at *; (try dsimp only [Ty.den, Ty.dflt] at *); omega)) ?_
      refine sw_ret ⟨.inl rfl, _, rfl, ?_⟩
      simp [conj, hv]
end Go.Sx

/- Roots: the program's test is the reference's. -/
namespace Go.Sx
open Go
theorem keyPK (x y : Plc) : keyEq PK x y = decide (x = y) := by
  simp only [keyEq]
  refine Bool.eq_iff_iff.2 ?_
  simp only [Bool.and_eq_true, decide_eq_true_eq]
  exact ⟨fun h => Prod.ext h.1 h.2, fun h => by rw [h]; exact ⟨rfl, rfl⟩⟩
theorem mget_mset {m : List (Plc × Ptr_)} {a b : Plc} {p : Ptr_} : mget PK (mset PK m a p) b = if b = a then some p else mget PK m b := by
  induction m with
  | nil =>
    simp only [mset, mget]
    rw [keyPK]
    by_cases h : b = a <;> simp [h]
  | cons e m ih =>
    simp only [mset]
    rw [keyPK]
    by_cases h : a = e.1
    · simp only [h, decide_true, cond_true, mget]
      rw [keyPK]
      by_cases h2 : b = e.1 <;> simp [h2]
    · simp only [h, decide_false, cond_false, mget]
      rw [keyPK, ih]
      by_cases h2 : b = e.1
      · have h3 : ¬ b = a := fun e2 => h (e2.symm.trans h2)
        simp [h2, h3]
        intro e2
        exact absurd e2.symm h
      · simp [h2]
theorem own_iff : ∀ {l m : List (Plc × Ptr_)}, ownGo m l = true ↔ (∀ e ∈ l, ∀ q, mget PK m e.1 = some q → e.2 = q) ∧ ∀ e ∈ l, ∀ f ∈ l, e.1 = f.1 → e.2 = f.2 := by
  intro l
  induction l with
  | nil => intro m; simp [ownGo]
  | cons c r ih =>
    intro m
    obtain ⟨a, p⟩ := c
    simp only [ownGo, Bool.and_eq_true]
    rw [ih]
    constructor
    · rintro ⟨h1, h2, h3⟩
      have ha : ∀ q, mget PK m a = some q → p = q := fun q hq => by rw [hq] at h1; simpa using h1
      have hp : ∀ e ∈ r, e.1 = a → e.2 = p := fun e he hea => h2 e he p (by rw [mget_mset, if_pos hea])
      refine ⟨fun e he q hq => ?_, fun e he f hf hef => ?_⟩
      · rcases List.mem_cons.1 he with rfl | he
        · exact ha q hq
        · by_cases hea : e.1 = a
          · rw [hp e he hea]; exact ha q (by rw [← hea]; exact hq)
          · exact h2 e he q (by rw [mget_mset, if_neg hea]; exact hq)
      · rcases List.mem_cons.1 he with rfl | he <;> rcases List.mem_cons.1 hf with rfl | hf
        · rfl
        · exact (hp f hf hef.symm).symm
        · exact hp e he hef
        · exact h3 e he f hf hef
    · rintro ⟨h1, h2⟩
      refine ⟨?_, fun e he q hq => ?_, fun e he f hf => h2 e (List.mem_cons_of_mem _ he) f (List.mem_cons_of_mem _ hf)⟩
      · cases hq : mget PK m a with
        | none => rfl
        | some q => have := h1 (a, p) List.mem_cons_self q hq; simpa using this
      · rw [mget_mset] at hq
        by_cases hea : e.1 = a
        · rw [if_pos hea] at hq
          cases hq
          exact h2 e (List.mem_cons_of_mem _ he) (a, p) List.mem_cons_self hea
        · rw [if_neg hea] at hq
          exact h1 e (List.mem_cons_of_mem _ he) q hq
theorem mem_pairs {ps : List Ptr_} {e : Plc × Ptr_} : e ∈ pairsOf ps ↔ e.2 ∈ ps ∧ e.1 ∈ e.2.2.2 := by
  obtain ⟨a, p⟩ := e
  simp only [pairsOf, List.mem_flatMap, List.mem_map, Prod.mk.injEq]
  constructor
  · rintro ⟨q, hq, b, hb, rfl, rfl⟩
    exact ⟨hq, hb⟩
  · rintro ⟨h1, h2⟩
    exact ⟨p, h1, a, h2, rfl, rfl⟩
theorem meet_iff {p q : Ptr_} : meetV p q = true ↔ ∃ a, a ∈ p.2.2 ∧ a ∈ q.2.2 := by
  simp only [meetV, List.any_eq_true, decide_eq_true_eq]
  constructor
  · rintro ⟨a, ha, b, hb, rfl⟩; exact ⟨a, ha, hb⟩
  · rintro ⟨a, ha, hb⟩; exact ⟨a, ha, a, hb, rfl⟩
theorem own_meet {ps : List Ptr_} : ownGo [] (pairsOf ps) = true ↔ ∀ i (h : i < ps.length), ∀ q ∈ ps.take i, meetV ps[i] q = true → ps[i] = q := by
  rw [own_iff]
  constructor
  · rintro ⟨_, h2⟩ i hi q hq hm
    obtain ⟨a, ha, hb⟩ := meet_iff.1 hm
    exact h2 (a, ps[i]) (mem_pairs.2 ⟨List.getElem_mem hi, ha⟩) (a, q) (mem_pairs.2 ⟨List.mem_of_mem_take hq, hb⟩) rfl
  · intro h
    refine ⟨fun e _ q hq => by simp [mget] at hq, fun e he f hf hef => ?_⟩
    obtain ⟨e1, e2⟩ := mem_pairs.1 he
    obtain ⟨f1, f2⟩ := mem_pairs.1 hf
    obtain ⟨i, hi, hie⟩ := List.getElem_of_mem e1
    obtain ⟨k, hk, hkf⟩ := List.getElem_of_mem f1
    rw [← hie] at e2 ⊢
    rw [← hkf] at f2 ⊢
    rcases Nat.lt_trichotomy i k with hlt | rfl | hlt
    · refine (h k hk ps[i] (List.mem_take_iff_getElem.2 ⟨i, by omega, rfl⟩) (meet_iff.2 ⟨f.1, f2, ?_⟩)).symm
      rw [← hef]; exact e2
    · rfl
    · refine h i hi ps[k] (List.mem_take_iff_getElem.2 ⟨k, by omega, rfl⟩) (meet_iff.2 ⟨e.1, e2, ?_⟩)
      rw [hef]; exact f2
theorem ptrV_W {d : Int} {p : Ptr_} (h : poolV d = true) : ptrV d p = ptrW d p := by
  unfold ptrV ptrW
  rw [h, Bool.true_and]
  by_cases h0 : p.1 = 0
  · rw [if_pos h0]
    have h1 : sizeV d p = false := by simp [sizeV, inV, h0]
    rw [h1]
    simp [noneV, h0]
  · rw [if_neg h0]
    simp [noneV, h0]
theorem volF_G {d : Int} {pre : List Vol_} {v : Vol_} : volF d pre v = (volG pre v && v.2.all (ptrV d)) := by
  simp only [volF, volG, Bool.and_assoc]
theorem chk_volF {d : Int} {l : List Vol_} : chk (volF d) l = true ↔ chk volG l = true ∧ ∀ p ∈ blksOf l, ptrV d p = true := by
  simp only [chk_iff, volF_G, Bool.and_eq_true, List.all_eq_true]
  constructor
  · intro h
    refine ⟨fun i hi => (h i hi).1, fun p hp => ?_⟩
    obtain ⟨v, hv, hp⟩ := List.mem_flatMap.1 hp
    obtain ⟨i, hi, rfl⟩ := List.getElem_of_mem hv
    exact (h i hi).2 p hp
  · rintro ⟨h1, h2⟩ i hi
    exact ⟨h1 i hi, fun p hp => h2 p (List.mem_flatMap.2 ⟨l[i], List.getElem_mem hi, hp⟩)⟩
theorem chk_ptrG {d : Int} {ps : List Ptr_} : chk (ptrG d) ps = true ↔ (∀ p ∈ ps, ptrW d p = true) ∧ ∀ i (h : i < ps.length), ∀ q ∈ ps.take i, meetV ps[i] q = true → ps[i] = q := by
  simp only [chk_iff, ptrG, Bool.and_eq_true]
  constructor
  · intro h
    refine ⟨fun p hp => ?_, fun i hi q hq hm => ?_⟩
    · obtain ⟨i, hi, rfl⟩ := List.getElem_of_mem hp
      exact (h i hi).1
    · have h2 := (h i hi).2
      simp only [Bool.not_eq_true', List.any_eq_false, Bool.and_eq_true, not_and] at h2
      have := h2 q hq hm
      simpa using this
  · rintro ⟨h1, h2⟩ i hi
    refine ⟨h1 _ (List.getElem_mem hi), ?_⟩
    simp only [Bool.not_eq_true', List.any_eq_false, Bool.and_eq_true, not_and]
    intro q hq hm
    have := h2 i hi q hq hm
    simpa using this
theorem rootV_S {d : Int} {r : Root_} : rootV d r = rootS d r := by
  unfold rootV rootS
  cases hp : poolV d with
  | false => rfl
  | true =>
    simp only [Bool.true_and]
    congr 1
    refine Bool.eq_iff_iff.2 ?_
    simp only [volsV, volsS, Bool.and_eq_true, chk_volF, chk_ptrG, own_meet, decide_eq_true_eq]
    have hw : (∀ p ∈ blksOf r.2, ptrV d p = true) ↔ ∀ p ∈ blksOf r.2, ptrW d p = true := by simp only [ptrV_W hp]
    rw [hw]
    constructor
    · rintro ⟨⟨⟨a, b⟩, c⟩, e⟩; exact ⟨c, a, b, e⟩
    · rintro ⟨c, a, b, e⟩; exact ⟨⟨⟨a, b⟩, c⟩, e⟩
theorem line_all {l : List Vol_} (h : ∀ v ∈ l, ∀ p ∈ v.2, inR .i64 p.1 ∧ inR .i64 p.2.1 ∧ ∀ a ∈ p.2.2, inR .i64 a.1 ∧ inR .i64 a.2) (hs : SmallR l) : ∀ v ∈ l, (volT v).length ≤ 1000 := by
  intro v hv
  obtain ⟨h1, h2, h3⟩ := hs.2 v hv
  have h4 := cat_len (f := lineV) (m := 300) (l := v.2) fun p hp => by
    obtain ⟨d, hd⟩ := h3 p hp
    obtain ⟨a, b, c⟩ := h v hv p hp
    exact lineV_len' a b c hd
  unfold volT
  simp only [List.length_append, List.length_cons, List.length_nil, tVol]
  rw [h2] at h4
  omega
theorem body_len {d tg : Int} {l : List Vol_} (h0 : inR .i64 tg) (h : ∀ v ∈ l, ∀ p ∈ v.2, inR .i64 p.1 ∧ inR .i64 p.2.1 ∧ ∀ a ∈ p.2.2, inR .i64 a.1 ∧ inR .i64 a.2) (hr : rootV d ((tg, l) : Root_) = true) : (bodyV ((tg, l) : Root_)).length ≤ 5000 := by
  have hs := rootV_small hr
  have h4 := cat_len (f := volT) (m := 1000) (l := l) (line_all h hs)
  have h5 : l.length ≤ 4 := hs.1
  have h6 := itoaV_len h0
  unfold bodyV
  simp only [List.length_append, List.length_cons, List.length_nil, tRoot]
  omega
end Go.Sx

namespace Go.Sx
open Go
set_option maxRecDepth 100000
set_option linter.unusedVariables false
set_option linter.unusedSimpArgs false
set_option maxHeartbeats 2000000

def cRootTextS : Ctr := ⟨14, [.val false TI pF, .val true T_Root (.all .b)], fun x => True, fun x => (sStr (rootT x.1 x.2.1), [])⟩
theorem cRootTextS_ok : CtrOk Proofs.Tryd.prog cRootTextS := by
  have hP := (((((Prg.none ttok mtok).and cRootOkS_ok).and cTextS_ok).and cCheck_ok).and cDec_ok)
  refine ctr_of_body hP cRootTextS (fn := Proofs.Tryd.f14) (rts := [.tmp 4]) Proofs.Tryd.func14 rfl (by kernel_rfl) rfl rfl ?_
  rintro ⟨(d : Int), ⟨(tg : Int), (l : List Vol_)⟩, ⟨⟩⟩ ⟨_, ⟨ht0, hl0⟩, _⟩ _
  try dsimp only [Ty.den, Mode.den, mdens] at _
  refine ⟨rfl, ?_⟩
  refine sw_seq ?_
  refine sw_region hP 1 [] rfl (by kernel_rfl) (fun _ => by kernel_rfl) (by first | trivial | (simp [conj]; done) | (simp [conj] at *; (try dsimp only [Ty.den, Ty.dflt] at *); omega)) ?_
  refine sw_seq ?_
  refine sw_seq ?_
  refine sw_region hP 2 [] rfl (by kernel_rfl) (fun _ => by kernel_rfl) ?_ ?_
  · skip
    simp only [conj, List.nil_append, List.cons_append, List.append_nil, List.append_assoc, inR_i64, true_and, and_true, Int.toNat_natCast]
    try dsimp only [Ty.den, Ty.dflt]
    repeat' apply And.intro
    all_goals first | trivial | assumption | omega | exact decide_eq_true ‹_› | exact decide_eq_false ‹_› | (simp [*]; done)
  refine sw_cond rfl (fun c1 => ?_) (fun c1 => ?_)
  · skip
    replace c1 : rootV d ((tg, l) : Root_) = false := by have h : (!rootS d ((tg, l) : Root_)) = true := c1; rw [← rootV_S] at h; simpa using h
    refine sw_seq ?_
    refine sw_region hP 3 [] rfl (by kernel_rfl) (fun _ => by kernel_rfl) (by first | trivial | (simp [conj]; done) | (simp [conj] at *; (try dsimp only [Ty.den, Ty.dflt] at *); omega)) ?_
    refine sw_ret ⟨.inl rfl, _, rfl, ?_⟩
    simp [conj, rootT, c1, bytesL]
    try (simp [sealV]; rfl)
  · skip
    replace c1 : rootV d ((tg, l) : Root_) = true := by have h : (!rootS d ((tg, l) : Root_)) = false := c1; rw [← rootV_S] at h; simpa using h
    have hbl : (bodyV ((tg, l) : Root_)).length ≤ 5000 := body_len ht0 (fun v hv p hp => by have h := (hl0.2 v hv).2.2 p hp; exact ⟨h.1, h.2.1, h.2.2.2⟩) c1
    have hw := weighV_bd (s := (bodyV ((tg, l) : Root_))) (by omega)
    have hi2 : (itoaV (weighV (bodyV ((tg, l) : Root_)))).length ≤ 21 := itoaV_len (by rw [inR_i64]; omega)
    refine sw_skip ?_
    refine sw_seq ?_
    refine sw_region hP 3 [] rfl (by kernel_rfl) (fun _ => by kernel_rfl) ?_ ?_
    · skip
      simp [conj]
      exact ⟨d, c1⟩
    refine sw_seq ?_
    refine sw_region hP 4 [] rfl (by kernel_rfl) (fun _ => by kernel_rfl) ?_ ?_
    · skip
      simp [conj, maxL, bytesL]
      repeat' apply And.intro
      all_goals first | omega | exact hw.1 | (show List.length (bodyV ((tg, l) : Root_)) ≤ 1000000; omega) | trivial
    refine sw_ret ⟨.inl rfl, _, rfl, ?_⟩
    simp [conj, rootT, c1, bytesL]
    try (simp [sealV]; rfl)
end Go.Sx

namespace Go.Sx
open Go
set_option maxRecDepth 100000
set_option linter.unusedVariables false
set_option linter.unusedSimpArgs false
set_option maxHeartbeats 2000000

def cXText : Ctr := ⟨5, [.val false TI pF, .val true TL_Root pF], fun x => True, fun x => (sBool true, [])⟩
theorem cXText_ok : CtrOk Proofs.Tryd.prog cXText := by
  have hP := ((((((Prg.none ttok mtok).and cSzR_ok).and cToRoot_ok).and cRootTextS_ok).and cRootText_ok).and cEqRoot_ok)
  refine ctr_of_body hP cXText (fn := Proofs.Tryd.f5) (rts := [.tmp 4]) Proofs.Tryd.func5 rfl (by kernel_rfl) rfl rfl ?_
  rintro ⟨(d : Int), ⟨(tg : Int), (l : List Vol_)⟩, ⟨⟩⟩ _ _
  try dsimp only [Ty.den, Mode.den, mdens] at _
  refine ⟨rfl, ?_⟩
  refine sw_seq ?_
  refine sw_region hP 1 [] rfl (by kernel_rfl) (fun _ => by kernel_rfl) (by first | trivial | (simp [conj]; done) | (simp [conj] at *; (try dsimp only [Ty.den, Ty.dflt] at *); omega)) ?_
  refine sw_seq ?_
  refine sw_region hP 2 [] rfl (by kernel_rfl) (fun _ => by kernel_rfl) (by first | trivial | (simp [conj]; done) | (simp [conj] at *; (try dsimp only [Ty.den, Ty.dflt] at *); omega)) ?_
  refine sw_seq ?_
  refine sw_region hP 3 [] rfl (by kernel_rfl) (fun _ => by kernel_rfl) ?_ ?_
  · skip
    simp [conj, maxL]
    try dsimp only [Ty.den, Ty.dflt]
    try simp only [rd_eta]
    exact ⟨by show (0 : Int) ≤ 1048576; decide, by show (1048576 : Int) ≤ 1048576; decide⟩
  refine sw_seq ?_
  refine sw_seq ?_
  refine sw_region hP 4 [] rfl (by kernel_rfl) (fun _ => by kernel_rfl) (by first | trivial | (simp [conj]; done) | (simp [conj] at *; (try dsimp only [Ty.den, Ty.dflt] at *); omega)) ?_
  refine sw_cond rfl (fun c3 => ?_) (fun c3 => ?_)
  · skip
    refine sw_seq ?_
    refine sw_region hP 5 [] rfl (by kernel_rfl) (fun _ => by kernel_rfl) (by first | trivial | (simp [conj]; done) | (simp [conj] at *; (try dsimp only [Ty.den, Ty.dflt] at *); omega)) ?_
    refine sw_ret ⟨.inl rfl, _, rfl, ?_⟩
    simp [conj]
  · skip
    have hs : SmVs l := szVs_sm l 1048576 (by decide) (by decide) (by have h : ¬ szVs l 1048576 < 0 := of_decide_eq_false c3; omega)
    refine sw_skip ?_
    refine sw_seq ?_
    refine sw_region hP 5 [] rfl (by kernel_rfl) (fun _ => by kernel_rfl) ?_ ?_
    · skip
      simp [conj, maxL]
      try dsimp only [Ty.den, Ty.dflt]
      try simp only [rd_eta]
      first | exact hs | exact ⟨hs, trivial⟩ | exact ⟨trivial, hs⟩
    refine sw_seq ?_
    refine sw_region hP 6 [] rfl (by kernel_rfl) (fun _ => by kernel_rfl) ?_ ?_
    · skip
      simp [conj, maxL]
      try dsimp only [Ty.den, Ty.dflt]
      try simp only [rd_eta]
      first | exact hs | exact ⟨hs, trivial⟩ | exact ⟨trivial, hs⟩
    refine sw_seq ?_
    refine sw_region hP 7 [] rfl (by kernel_rfl) (fun _ => by kernel_rfl) ?_ ?_
    · skip
      simp [conj, maxL]
      try dsimp only [Ty.den, Ty.dflt]
      try simp only [rd_eta]
      try trivial
    refine sw_seq ?_
    refine sw_seq ?_
    refine sw_region hP 8 [] rfl (by kernel_rfl) (fun _ => by kernel_rfl) (by first | trivial | (simp [conj]; done) | (simp [conj] at *; (try dsimp only [Ty.den, Ty.dflt] at *); omega)) ?_
    refine sw_cond rfl (fun c8 => ?_) (fun c8 => ?_)
    · skip
      simp at c8
    · skip
      refine sw_skip ?_
      refine sw_seq ?_
      refine sw_seq ?_
      refine sw_region hP 9 [] rfl (by kernel_rfl) (fun _ => by kernel_rfl) ?_ ?_
      · skip
        simp [conj, maxL]
        try dsimp only [Ty.den, Ty.dflt]
        try simp only [rd_eta]
        first | exact hs | exact ⟨hs, trivial⟩ | exact ⟨trivial, hs⟩
      refine sw_cond rfl (fun c10 => ?_) (fun c10 => ?_)
      · skip
        simp at c10
      · skip
        refine sw_skip ?_
        refine sw_seq ?_
        refine sw_region hP 10 [] rfl (by kernel_rfl) (fun _ => by kernel_rfl) (by first | trivial | (simp [conj]; done) | (simp [conj] at *; (try dsimp only [Ty.den, Ty.dflt] at *); omega)) ?_
        refine sw_ret ⟨.inl rfl, _, rfl, ?_⟩
        simp [conj]
end Go.Sx
