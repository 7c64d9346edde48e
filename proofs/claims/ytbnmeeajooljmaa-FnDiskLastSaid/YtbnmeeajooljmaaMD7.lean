import Derived.Test.YtbnmeeajooljmaaMD6
set_option linter.all false
namespace Go.Sx
open Go
set_option maxRecDepth 100000
set_option linter.unusedVariables false
set_option linter.unusedSimpArgs false
set_option maxHeartbeats 2000000

def cCopyD : Ctr := ⟨30, [.val true T_Disk (.all .b)], fun x => SmallD x.1, fun x => (.v true [.d TI pF (x.1).1, .own ⟨1, 0, 0⟩, .own ⟨1, 1, 0⟩, .own ⟨1, 2, 0⟩, .own ⟨1, 3, 0⟩], [(⟨1, 0, 0⟩, .sl .str (.all .w) (x.1).2.1), (⟨1, 1, 0⟩, .sl .str (.all .w) (x.1).2.2.1), (⟨1, 2, 0⟩, .sl .bool (.all .w) (x.1).2.2.2.1), (⟨1, 3, 0⟩, .sl T_Put (.all .w) (x.1).2.2.2.2)])⟩
theorem cCopyD_ok : CtrOk Proofs.Try.prog cCopyD := by
  have hP := (Prg.none ttok mtok)
  refine ctr_of_body hP cCopyD (fn := Proofs.Try.f30) (rts := [.cell 2 27]) Proofs.Try.func30 rfl (by kernel_rfl) rfl rfl ?_
  rintro ⟨⟨(st : Int), (sl : List Str), (rg : List Str), (sp : List Bool), (wt : List Put)⟩, ⟨⟩⟩ _ ⟨h1, h2, h3, h4⟩
  try dsimp only [Ty.den, Mode.den, mdens] at h1
  try dsimp only [Ty.den, Mode.den, mdens] at h2
  try dsimp only [Ty.den, Mode.den, mdens] at h3
  try dsimp only [Ty.den, Mode.den, mdens] at h4
  refine ⟨rfl, ?_⟩
  refine sw_seq ?_
  refine sw_region hP 1 [] rfl (by kernel_rfl) (fun _ => by kernel_rfl) (by first | trivial | (simp [conj]; done) | (simp [conj] at *; (try dsimp only [Ty.den, Ty.dflt] at *); omega)) ?_
  refine sw_seq ?_
  refine sw_region hP 2 [] rfl (by kernel_rfl) (fun _ => by kernel_rfl) ?_ ?_
  · skip
    simp [conj, maxL]
    repeat' apply And.intro
    all_goals omega
  refine sw_ret ⟨.inl rfl, _, rfl, ?_⟩
  simp [conj]

def cComeS : Ctr := ⟨63, [.own true T_Disk (.all .w), .val true T_Put pF], fun x => putV x.2.1 = true ∧ (drvOf x.1).ok, fun x => (.v true [.d TI pF (comeD x.1 x.2.1).1, .own ⟨1, 0, 0⟩, .own ⟨1, 1, 0⟩, .own ⟨1, 2, 0⟩, .own ⟨1, 3, 0⟩], [(⟨1, 0, 0⟩, .sl .str (.all .w) (comeD x.1 x.2.1).2.1), (⟨1, 1, 0⟩, .sl .str (.all .w) (comeD x.1 x.2.1).2.2.1), (⟨1, 2, 0⟩, .sl .bool (.all .w) (comeD x.1 x.2.1).2.2.2.1), (⟨1, 3, 0⟩, .sl T_Put (.all .w) (comeD x.1 x.2.1).2.2.2.2)])⟩
theorem cComeS_ok : CtrOk Proofs.Try.prog cComeS := by
  have hP := (Prg.none ttok mtok)
  refine ctr_of_body hP cComeS (fn := Proofs.Try.f63) (rts := [.cell 4 27]) Proofs.Try.func63 rfl (by kernel_rfl) rfl rfl ?_
  rintro ⟨⟨(st : Int), (sl : List Str), (rg : List Str), (sp : List Bool), (wt : List Put)⟩, ⟨(rn : Bool), (at_ : Int), (tx : Str)⟩, ⟨⟩⟩ _ ⟨hp, ho1, ho2, ho3⟩
  try dsimp only [Ty.den, Mode.den, mdens] at hp
  try dsimp only [Ty.den, Mode.den, mdens] at ho1
  try dsimp only [Ty.den, Mode.den, mdens] at ho2
  try dsimp only [Ty.den, Mode.den, mdens] at ho3
  refine ⟨rfl, ?_⟩
  dsimp only [drvOf] at ho1 ho2 ho3
  refine sw_seq ?_
  refine sw_region hP 1 [] rfl (by kernel_rfl) (fun _ => by kernel_rfl) (by first | trivial | (simp [conj]; done) | (simp [conj] at *; (try dsimp only [Ty.den, Ty.dflt] at *); omega)) ?_
  refine sw_seq ?_
  refine sw_seq ?_
  refine sw_region hP 2 [] rfl (by kernel_rfl) (fun _ => by kernel_rfl) (by first | trivial | (simp [conj]; done) | (simp [conj] at *; (try dsimp only [Ty.den, Ty.dflt] at *); omega)) ?_
  refine sw_cond rfl (fun c1 => ?_) (fun c1 => ?_)
  · skip
    replace c1 : rn = true := c1
    obtain ⟨h0, h1, h2⟩ := putV_ring hp c1
    dsimp only at h0 h1 h2
    have hv := come_ring (p := (rn, at_, tx)) (t := (sl, rg, sp)) c1
    refine sw_seq ?_
    refine sw_region hP 3 [] rfl (by kernel_rfl) (fun _ => by kernel_rfl) ?_ ?_
    · skip
      simp only [conj, List.nil_append, List.cons_append, List.append_nil, List.append_assoc, inR_i64, true_and, and_true, Int.toNat_natCast]
      try dsimp only [Ty.den, Ty.dflt]
      repeat' apply And.intro
      all_goals first | rfl | omega | assumption | trivial
    refine sw_seq ?_
    refine sw_region hP 4 [] rfl (by kernel_rfl) (fun _ => by kernel_rfl) (by first | trivial | (simp [conj]; done) | (simp [conj] at *; (try dsimp only [Ty.den, Ty.dflt] at *); omega)) ?_
    refine sw_ret ⟨.inl rfl, _, rfl, ?_⟩
    simp [conj, comeD, dskOf, drvOf, hv]
  · skip
    replace c1 : rn = false := c1
    obtain ⟨h0, h1, h2⟩ := putV_slot hp c1
    dsimp only at h0 h1 h2
    have hv := come_slot (p := (rn, at_, tx)) (t := (sl, rg, sp)) c1
    refine sw_skip ?_
    refine sw_seq ?_
    refine sw_region hP 3 [] rfl (by kernel_rfl) (fun _ => by kernel_rfl) ?_ ?_
    · skip
      simp only [conj, List.nil_append, List.cons_append, List.append_nil, List.append_assoc, inR_i64, true_and, and_true, Int.toNat_natCast]
      try dsimp only [Ty.den, Ty.dflt]
      repeat' apply And.intro
      all_goals first | rfl | omega | assumption | trivial
    refine sw_seq ?_
    refine sw_region hP 4 [] rfl (by kernel_rfl) (fun _ => by kernel_rfl) ?_ ?_
    · skip
      simp only [conj, List.nil_append, List.cons_append, List.append_nil, List.append_assoc, inR_i64, true_and, and_true, Int.toNat_natCast]
      try dsimp only [Ty.den, Ty.dflt]
      repeat' apply And.intro
      all_goals first | rfl | omega | assumption | trivial
    refine sw_seq ?_
    refine sw_region hP 5 [] rfl (by kernel_rfl) (fun _ => by kernel_rfl) (by first | trivial | (simp [conj]; done) | (simp [conj] at *; (try dsimp only [Ty.den, Ty.dflt] at *); omega)) ?_
    refine sw_ret ⟨.inl rfl, _, rfl, ?_⟩
    simp [conj, comeD, dskOf, drvOf, hv]

def cCrashS : Ctr := ⟨29, [.own true T_Disk (.all .w), .val false TI pF], fun x => (drvOf x.1).ok ∧ x.1.2.2.2.2.any badP = false ∧ List.length x.1.2.2.2.2 ≤ 40 ∧ 0 ≤ x.2.1, fun x => (.v true [.d TI pF (dskOf x.1.1 (comes (keepB x.2.1.toNat x.1.2.2.2.2) (drvOf x.1)) []).1, .own ⟨1, 0, 0⟩, .own ⟨1, 1, 0⟩, .own ⟨1, 2, 0⟩, .own ⟨1, 3, 0⟩], [(⟨1, 0, 0⟩, .sl .str (.all .w) (dskOf x.1.1 (comes (keepB x.2.1.toNat x.1.2.2.2.2) (drvOf x.1)) []).2.1), (⟨1, 1, 0⟩, .sl .str (.all .w) (dskOf x.1.1 (comes (keepB x.2.1.toNat x.1.2.2.2.2) (drvOf x.1)) []).2.2.1), (⟨1, 2, 0⟩, .sl .bool (.all .w) (dskOf x.1.1 (comes (keepB x.2.1.toNat x.1.2.2.2.2) (drvOf x.1)) []).2.2.2.1), (⟨1, 3, 0⟩, .sl T_Put (.all .w) (dskOf x.1.1 (comes (keepB x.2.1.toNat x.1.2.2.2.2) (drvOf x.1)) []).2.2.2.2)])⟩
theorem cCrashS_ok : CtrOk Proofs.Try.prog cCrashS := by
  have hP := ((Prg.none ttok mtok).and cComeS_ok)
  refine ctr_of_body hP cCrashS (fn := Proofs.Try.f29) (rts := [.cell 4 27]) Proofs.Try.func29 rfl (by kernel_rfl) rfl rfl ?_
  rintro ⟨⟨(st : Int), (sl : List Str), (rg : List Str), (sp : List Bool), (wt : List Put)⟩, (keep : Int), ⟨⟩⟩ ⟨_, hk, _⟩ ⟨ho, hw, h40, h0⟩
  try dsimp only [Ty.den, Mode.den, mdens] at ho
  try dsimp only [Ty.den, Mode.den, mdens] at hw
  try dsimp only [Ty.den, Mode.den, mdens] at h40
  try dsimp only [Ty.den, Mode.den, mdens] at h0
  refine ⟨rfl, ?_⟩
  have hkm : keep ≤ 9223372036854775807 := (inR_i64.1 hk).2
  replace h0 : 0 ≤ keep := h0
  replace h40 : wt.length ≤ 40 := h40
  replace hw : wt.any badP = false := hw
  replace ho : Drv.ok (sl, rg, sp) := ho
  refine sw_seq ?_
  refine sw_region hP 1 [] rfl (by kernel_rfl) (fun _ => by kernel_rfl) (by first | trivial | (simp [conj]; done) | (simp [conj] at *; (try dsimp only [Ty.den, Ty.dflt] at *); omega)) ?_
  refine sw_seq ?_
  refine sw_seq ?_
  refine sw_region hP 2 [] rfl (by kernel_rfl) (fun _ => by kernel_rfl) (by first | trivial | (simp [conj]; done) | (simp [conj] at *; (try dsimp only [Ty.den, Ty.dflt] at *); omega)) ?_
  refine sw_block ?_
  refine sw_loop (ι := Nat × Nat × Drv) (fun ⟨i, n, u⟩ => ⟨[.junk, sInt .i64 (n : Int), .v false [.ptr ⟨1, 0, 0⟩ 0], .junk, .v false [.ptr ⟨1, 1, 0⟩ 0], sInt .i64 (i : Int), .junk, .junk, .junk, .junk, .junk, .junk, .junk, .junk, .junk, .junk, .junk, .junk, .junk, .junk, .junk, .junk, .junk, .junk, .junk, .junk, .junk, .junk], [(⟨1, 0, 0⟩, .var [.d TI pF st, .own ⟨0, 9, 1⟩, .own ⟨0, 9, 2⟩, .own ⟨0, 9, 3⟩, .own ⟨0, 9, 4⟩]), (⟨0, 9, 1⟩, .sl .str (.all .w) u.1), (⟨0, 9, 2⟩, .sl .str (.all .w) u.2.1), (⟨0, 9, 3⟩, .sl .bool (.all .w) u.2.2), (⟨0, 9, 4⟩, .sl T_Put (.all .w) wt), (⟨1, 1, 0⟩, .var [.d TI pF 0, .nils, .nils, .nils, .nils])], 2, []⟩) (fun ⟨i, n, u⟩ => wt.length - i) (fun ⟨i, n, u⟩ => i ≤ wt.length ∧ n ≤ 9223372036854775807 ∧ comes (keepB n (wt.drop i)) u = comes (keepB keep.toNat wt) (sl, rg, sp) ∧ u.ok) (0, keep.toNat, (sl, rg, sp)) ⟨?_, ?_⟩ ?_
  · skip
    exact ⟨Nat.zero_le _, by show keep.toNat ≤ _; omega, rfl, ho⟩
  · refine ent_ok rfl ?_
    simp [conj]
    try exact (Int.max_eq_left (by omega)).symm
    try omega
  · rintro ⟨i, n, u⟩ ⟨hi, hn, hgo, hu⟩
    refine sw_seq ?_
    refine sw_seq ?_
    refine sw_region hP 3 [] rfl (by kernel_rfl) (fun _ => by kernel_rfl) (by first | trivial | (simp [conj]; done) | (simp [conj] at *; (try dsimp only [Ty.den, Ty.dflt] at *); omega)) ?_
    refine sw_cond rfl (fun c2 => ?_) (fun c2 => ?_)
    · skip
      have hlt : i < wt.length := by simpa using c2
      have hg : (List.getD wt i T_Put.dflt : Put) = wt[i] := by rw [List.getD, List.getElem?_eq_getElem hlt]; rfl
      have hp := wait_at hw hlt
      rw [← hg] at hp
      have htm : ((n : Nat) : Int).tmod 2 = ((n % 2 : Nat) : Int) := rfl
      have htd : ((n : Nat) : Int).tdiv 2 = ((n / 2 : Nat) : Int) := rfl
      have hdl := Nat.div_le_self n 2
      refine sw_skip ?_
      refine sw_seq ?_
      refine sw_block ?_
      refine sw_seq ?_
      refine sw_seq ?_
      refine sw_region hP 4 [] rfl (by kernel_rfl) (fun _ => by kernel_rfl) ?_ ?_
      · skip
        simp only [conj, List.nil_append, List.cons_append, List.append_nil, List.append_assoc, inR_i64, true_and, and_true, Int.toNat_natCast]
        try dsimp only [Ty.den, Ty.dflt]
        repeat' apply And.intro
        all_goals first | rfl | omega | assumption | trivial
      refine sw_cond rfl (fun c4 => ?_) (fun c4 => ?_)
      · skip
        have hb : n % 2 = 1 := by have h : ((n : Nat) : Int).tmod 2 = 1 := of_decide_eq_true c4; omega
        have hnx := keep_hit hlt hb hgo
        rw [← hg] at hnx
        refine sw_region hP 5 [] rfl (by kernel_rfl) (fun _ => by kernel_rfl) ?_ ?_
        · skip
          simp only [conj, List.nil_append, List.cons_append, List.append_nil, List.append_assoc, inR_i64, true_and, and_true, Int.toNat_natCast]
          try dsimp only [Ty.den, Ty.dflt]
          repeat' apply And.intro
          all_goals first | exact hp | exact hu.1 | exact hu.2.1 | exact hu.2.2 | rfl | omega | assumption | trivial
        refine sw_region hP 6 [] rfl (by kernel_rfl) (fun _ => by kernel_rfl) ?_ ?_
        · skip
          simp only [conj, List.nil_append, List.cons_append, List.append_nil, List.append_assoc, inR_i64, true_and, and_true, Int.toNat_natCast]
          try dsimp only [Ty.den, Ty.dflt]
          repeat' apply And.intro
          all_goals first | omega | trivial | (rw [htd]; omega)
        refine sw_region hP 7 [] rfl (by kernel_rfl) (fun _ => by kernel_rfl) ?_ ?_
        · skip
          simp only [conj, List.nil_append, List.cons_append, List.append_nil, List.append_assoc, inR_i64, true_and, and_true, Int.toNat_natCast]
          try dsimp only [Ty.den, Ty.dflt]
          repeat' apply And.intro
          all_goals first | rfl | omega | assumption | trivial
        refine ⟨(i + 1, n / 2, come (List.getD wt i T_Put.dflt) u), ?_, ?_, ent_ok rfl ?_⟩
        · skip
          exact ⟨hlt, by show n / 2 ≤ _; omega, hnx, come_ok hu⟩
        · skip
          show wt.length - (i + 1) < wt.length - i
          omega
        · skip
          simp [conj, comeD, dskOf, drvOf, htd]
      · skip
        have hb : ¬ n % 2 = 1 := by have h : ¬ ((n : Nat) : Int).tmod 2 = 1 := of_decide_eq_false c4; omega
        have hnx := keep_no hlt hb hgo
        refine sw_skip ?_
        refine sw_region hP 5 [] rfl (by kernel_rfl) (fun _ => by kernel_rfl) ?_ ?_
        · skip
          simp only [conj, List.nil_append, List.cons_append, List.append_nil, List.append_assoc, inR_i64, true_and, and_true, Int.toNat_natCast]
          try dsimp only [Ty.den, Ty.dflt]
          repeat' apply And.intro
          all_goals first | omega | trivial | (rw [htd]; omega)
        refine sw_region hP 6 [] rfl (by kernel_rfl) (fun _ => by kernel_rfl) ?_ ?_
        · skip
          simp only [conj, List.nil_append, List.cons_append, List.append_nil, List.append_assoc, inR_i64, true_and, and_true, Int.toNat_natCast]
          try dsimp only [Ty.den, Ty.dflt]
          repeat' apply And.intro
          all_goals first | rfl | omega | assumption | trivial
        refine ⟨(i + 1, n / 2, u), ?_, ?_, ent_ok rfl ?_⟩
        · skip
          exact ⟨hlt, by show n / 2 ≤ _; omega, hnx, hu⟩
        · skip
          show wt.length - (i + 1) < wt.length - i
          omega
        · skip
          simp [conj, comeD, dskOf, drvOf, htd]
    · skip
      obtain rfl : i = wt.length := by simp at c2; omega
      refine sw_exit ?_
      refine sw_seq ?_
      refine sw_region hP 4 [] rfl (by kernel_rfl) (fun _ => by kernel_rfl) (by first | trivial | (simp [conj]; done) | (simp [conj] at *; (try dsimp only [Ty.den, Ty.dflt] at *); omega)) ?_
      refine sw_seq ?_
      refine sw_region hP 5 [] rfl (by kernel_rfl) (fun _ => by kernel_rfl) (by first | trivial | (simp [conj]; done) | (simp [conj] at *; (try dsimp only [Ty.den, Ty.dflt] at *); omega)) ?_
      refine sw_ret ⟨.inl rfl, _, rfl, ?_⟩
      have hv := keep_end hgo
      subst hv
      simp [conj, dskOf, drvOf]

def cSCrash : Ctr := ⟨9, [.val true T_Disk (.all .b), .val false TI pF], fun _ => True, fun x => (.v true [.d TI pF (crashV x.1 x.2.1).1, .own ⟨1, 0, 0⟩, .own ⟨1, 1, 0⟩, .own ⟨1, 2, 0⟩, .own ⟨1, 3, 0⟩], [(⟨1, 0, 0⟩, .sl .str (.all .w) (crashV x.1 x.2.1).2.1), (⟨1, 1, 0⟩, .sl .str (.all .w) (crashV x.1 x.2.1).2.2.1), (⟨1, 2, 0⟩, .sl .bool (.all .w) (crashV x.1 x.2.1).2.2.2.1), (⟨1, 3, 0⟩, .sl T_Put (.all .w) (crashV x.1 x.2.1).2.2.2.2)])⟩
theorem cSCrash_ok : CtrOk Proofs.Try.prog cSCrash := by
  have hP := ((((Prg.none ttok mtok).and cDok_ok).and cCopyD_ok).and cCrashS_ok)
  refine ctr_of_body hP cSCrash (fn := Proofs.Try.f9) (rts := [.cell 4 27]) Proofs.Try.func9 rfl (by kernel_rfl) rfl rfl ?_
  rintro ⟨⟨(st : Int), (sl : List Str), (rg : List Str), (sp : List Bool), (wt : List Put)⟩, (keep : Int), ⟨⟩⟩ _ hpre
  try dsimp only [Ty.den, Mode.den, mdens] at hpre
  refine ⟨rfl, ?_⟩
  refine sw_seq ?_
  refine sw_region hP 1 [] rfl (by kernel_rfl) (fun _ => by kernel_rfl) (by first | trivial | (simp [conj]; done) | (simp [conj] at *; (try dsimp only [Ty.den, Ty.dflt] at *); omega)) ?_
  refine sw_seq ?_
  refine sw_seq ?_
  refine sw_dec hP 2 [] 3 rfl (fun g1_3 => ?_) (fun g1_3 => ?_)
  · skip
    have h1 : ¬ rdV ((st, sl, rg, sp, wt) : Dsk) = true := by have h : (!rdV ((st, sl, rg, sp, wt) : Dsk)) = true := g1_3; simpa using h
    have hv : crashV ((st, sl, rg, sp, wt) : Dsk) keep = zeroD := crashV_bad h1
    refine sw_region hP 2 [(3, true)] rfl (by kernel_rfl) (fun _ => by kernel_rfl) ?_ ?_
    · skip
      simp [conj]
      repeat' apply And.intro
      all_goals first | trivial | assumption | omega | (simp_all; done) | (simp_all; omega)
    refine sw_condT rfl ?_
    refine sw_seq ?_
    refine sw_region hP 3 [] rfl (by kernel_rfl) (fun _ => by kernel_rfl) (by first | trivial | (simp [conj]; done) | (simp [conj] at *; (try dsimp only [Ty.den, Ty.dflt] at *); omega)) ?_
    refine sw_ret ⟨.inl rfl, _, rfl, ?_⟩
    simp [conj, hv, zeroD, dskOf, drvOf]
  · skip
    have h1 : rdV ((st, sl, rg, sp, wt) : Dsk) = true := by have h : (!rdV ((st, sl, rg, sp, wt) : Dsk)) = false := g1_3; simpa using h
    refine sw_region hP 2 [(3, false)] rfl (by kernel_rfl) (fun _ => by kernel_rfl) ?_ ?_
    · skip
      simp [conj]
      repeat' apply And.intro
      all_goals first | trivial | assumption | omega | (simp_all; done) | (simp_all; omega)
    refine sw_cond rfl (fun c1 => ?_) (fun c1 => ?_)
    · skip
      replace c1 : ¬ 0 ≤ keep := by have h : keep < 0 := of_decide_eq_true c1; omega
      have hv : crashV ((st, sl, rg, sp, wt) : Dsk) keep = zeroD := crashV_neg c1
      refine sw_seq ?_
      refine sw_region hP 3 [] rfl (by kernel_rfl) (fun _ => by kernel_rfl) (by first | trivial | (simp [conj]; done) | (simp [conj] at *; (try dsimp only [Ty.den, Ty.dflt] at *); omega)) ?_
      refine sw_ret ⟨.inl rfl, _, rfl, ?_⟩
      simp [conj, hv, zeroD, dskOf, drvOf]
    · skip
      replace c1 : 0 ≤ keep := by have h : ¬ keep < 0 := of_decide_eq_false c1; omega
      have hv := crashV_ok h1 c1
      obtain ⟨hsh, hwb, hsb, hrb, hgb⟩ := rd_parts h1
      dsimp only at hwb
      obtain ⟨hst, h12, h2b, h12b, h40⟩ := shaped_iff hsh
      dsimp only at h12 h2b h12b h40
      have hok : Drv.ok (sl, rg, sp) := drv_ok hsh
      have hsm : SmallD (st, sl, rg, sp, wt) := ⟨by show sl.length ≤ _; omega, by show rg.length ≤ _; omega, by show sp.length ≤ _; omega, by show wt.length ≤ _; omega⟩
      refine sw_skip ?_
      refine sw_seq ?_
      refine sw_region hP 3 [] rfl (by kernel_rfl) (fun _ => by kernel_rfl) ?_ ?_
      · skip
        simp only [conj, List.nil_append, List.cons_append, List.append_nil, List.append_assoc, inR_i64, true_and, and_true, Int.toNat_natCast]
        try dsimp only [Ty.den, Ty.dflt]
        repeat' apply And.intro
        all_goals first | exact hsm.1 | exact hsm.2.1 | exact hsm.2.2.1 | exact hsm.2.2.2 | exact hok.1 | exact hok.2.1 | exact hok.2.2 | exact hwb | exact h40 | exact c1 | rfl | omega | assumption | trivial
      refine sw_ret ⟨.inl rfl, _, rfl, ?_⟩
      simp [conj, hv, zeroD, dskOf, drvOf]
end Go.Sx
