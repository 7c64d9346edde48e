import Derived.Test.YtbnmeeajooljmaaMD4
set_option linter.all false
namespace Go.Sx
open Go
set_option maxRecDepth 100000
set_option linter.unusedVariables false
set_option linter.unusedSimpArgs false

def cChgCrash : Ctr := ⟨25, [.val true T_Disk (.all .b), .clo 26 [(false, TI, pF)]], fun _ => True, fun x => (.v true [.d TI pF (crashV x.1 x.2.1.1).1, .own ⟨1, 0, 0⟩, .own ⟨1, 1, 0⟩, .own ⟨1, 2, 0⟩, .own ⟨1, 3, 0⟩], [(⟨1, 0, 0⟩, .sl .str (.all .w) (crashV x.1 x.2.1.1).2.1), (⟨1, 1, 0⟩, .sl .str (.all .w) (crashV x.1 x.2.1.1).2.2.1), (⟨1, 2, 0⟩, .sl .bool (.all .w) (crashV x.1 x.2.1.1).2.2.2.1), (⟨1, 3, 0⟩, .sl T_Put (.all .w) (crashV x.1 x.2.1.1).2.2.2.2)])⟩
theorem cChgCrash_ok : CtrOk Proofs.Try.prog cChgCrash := by
  have hP := (Prg.none ttok mtok)
  refine ctr_of_body hP cChgCrash (fn := Proofs.Try.f25) (rts := [.cell 4 27]) Proofs.Try.func25 rfl (by kernel_rfl) rfl rfl ?_
  rintro ⟨⟨(st : Int), (sl : List Str), (rg : List Str), (sp : List Bool), (wt : List Put)⟩, ⟨(keep : Int), ⟨⟩⟩, ⟨⟩⟩ ⟨_, ⟨hk, _⟩, _⟩ _
  try dsimp only [Ty.den, Mode.den, mdens] at _
  refine ⟨rfl, ?_⟩
  have hkm : keep ≤ 9223372036854775807 := (inR_i64.1 hk).2
  by_cases h1 : rdV ((st, sl, rg, sp, wt) : Dsk) = true
  · skip
    have hP := ((Prg.none ttok mtok).and cRead_ok)
    obtain ⟨hsh, hwb, hsb, hrb, hgb⟩ := rd_parts h1
    dsimp only at hwb hsb hrb
    obtain ⟨hst, h12, h2b, h12b, h40⟩ := shaped_iff hsh
    dsimp only at hst h12 h2b h12b h40
    have hok : Drv.ok (sl, rg, sp) := drv_ok hsh
    
    by_cases h2 : 0 ≤ keep
    · skip
      replace hP := hP.andX (cClCrash_ok (st := st) (t := (sl, rg, sp)) (l := wt) (d := ⟨2, 1, 0⟩) (c := ⟨2, 1, 64⟩) hwb h40 h2 hkm)
      replace hP := hP.andX (cDisk_ok (st := st) (t := (comes (keepB keep.toNat wt) (sl, rg, sp))) (l := []) (d := ⟨2, 1, 0⟩) (c := ⟨3, 5, 0⟩) (Nat.zero_le _) (comes_ok hok))
      have hv := crashV_ok h1 h2
      refine sw_seq ?_
      refine sw_region hP 1 [] rfl (by kernel_rfl) (fun _ => by kernel_rfl) (by first | trivial | (simp [conj]; done) | (simp [conj] at *; (try dsimp only [Ty.den, Ty.dflt] at *); omega)) ?_
      refine sw_seq ?_
      refine sw_region hP 2 [] rfl (by kernel_rfl) (fun _ => by kernel_rfl) ?_ ?_
      · skip
        simp [conj, maxL]
        try dsimp only [Ty.den, Ty.dflt]
        try simp only [rd_eta]
        exact h1
      refine sw_seq ?_
      refine sw_seq ?_
      refine sw_region hP 3 [] rfl (by kernel_rfl) (fun _ => by kernel_rfl) ?_ ?_
      · skip
        simp only [conj, List.nil_append, List.cons_append, List.append_nil, List.append_assoc, inR_i64, true_and, and_true, Int.toNat_natCast]
        try dsimp only [Ty.den, Ty.dflt]
        repeat' apply And.intro
        all_goals first | rfl | omega | assumption | trivial
      refine sw_cond rfl (fun c2 => ?_) (fun c2 => ?_)
      · skip
        cases c2
      · skip
        refine sw_skip ?_
        refine sw_seq ?_
        refine sw_region hP 4 [] rfl (by kernel_rfl) (fun _ => by kernel_rfl) ?_ ?_
        · skip
          simp only [conj, List.nil_append, List.cons_append, List.append_nil, List.append_assoc, inR_i64, true_and, and_true, Int.toNat_natCast]
          try dsimp only [Ty.den, Ty.dflt]
          repeat' apply And.intro
          all_goals first | rfl | omega | assumption | trivial
        refine sw_ret ⟨.inl rfl, _, rfl, ?_⟩
        simp [conj, hv, zeroD, dskOf, drvOf]
    · skip
      replace hP := hP.andX (cClCrashN_ok (st := st) (t := (sl, rg, sp)) (l := wt) (d := ⟨2, 1, 0⟩) (c := ⟨2, 1, 64⟩) h2)
      have hv : crashV ((st, sl, rg, sp, wt) : Dsk) keep = zeroD := crashV_neg h2
      refine sw_seq ?_
      refine sw_region hP 1 [] rfl (by kernel_rfl) (fun _ => by kernel_rfl) (by first | trivial | (simp [conj]; done) | (simp [conj] at *; (try dsimp only [Ty.den, Ty.dflt] at *); omega)) ?_
      refine sw_seq ?_
      refine sw_region hP 2 [] rfl (by kernel_rfl) (fun _ => by kernel_rfl) ?_ ?_
      · skip
        simp [conj, maxL]
        try dsimp only [Ty.den, Ty.dflt]
        try simp only [rd_eta]
        exact h1
      refine sw_seq ?_
      refine sw_seq ?_
      refine sw_region hP 3 [] rfl (by kernel_rfl) (fun _ => by kernel_rfl) ?_ ?_
      · skip
        simp only [conj, List.nil_append, List.cons_append, List.append_nil, List.append_assoc, inR_i64, true_and, and_true, Int.toNat_natCast]
        try dsimp only [Ty.den, Ty.dflt]
        repeat' apply And.intro
        all_goals first | rfl | omega | assumption | trivial
      refine sw_cond rfl (fun c2 => ?_) (fun c2 => ?_)
      · skip
        refine sw_seq ?_
        refine sw_region hP 4 [] rfl (by kernel_rfl) (fun _ => by kernel_rfl) (by first | trivial | (simp [conj]; done) | (simp [conj] at *; (try dsimp only [Ty.den, Ty.dflt] at *); omega)) ?_
        refine sw_ret ⟨.inl rfl, _, rfl, ?_⟩
        simp [conj, hv, zeroD, dskOf, drvOf]
      · skip
        cases c2
  · skip
    have hP := ((Prg.none ttok mtok).and cReadB_ok)
    have h1b : rdV ((st, sl, rg, sp, wt) : Dsk) = false := by simpa using h1
    have hv : crashV ((st, sl, rg, sp, wt) : Dsk) keep = zeroD := crashV_bad h1
    refine sw_seq ?_
    refine sw_region hP 1 [] rfl (by kernel_rfl) (fun _ => by kernel_rfl) (by first | trivial | (simp [conj]; done) | (simp [conj] at *; (try dsimp only [Ty.den, Ty.dflt] at *); omega)) ?_
    refine sw_seq ?_
    refine sw_region hP 2 [] rfl (by kernel_rfl) (fun _ => by kernel_rfl) ?_ ?_
    · skip
      simp [conj, maxL]
      try dsimp only [Ty.den, Ty.dflt]
      try simp only [rd_eta]
      exact h1b
    refine sw_seq ?_
    refine sw_seq ?_
    refine sw_region hP 3 [] rfl (by kernel_rfl) (fun _ => by kernel_rfl) ?_ ?_
    · skip
      simp only [conj, List.nil_append, List.cons_append, List.append_nil, List.append_assoc, inR_i64, true_and, and_true, Int.toNat_natCast]
      try dsimp only [Ty.den, Ty.dflt]
      repeat' apply And.intro
      all_goals first | rfl | omega | assumption | trivial
    refine sw_condT rfl ?_
    refine sw_seq ?_
    refine sw_region hP 4 [] rfl (by kernel_rfl) (fun _ => by kernel_rfl) (by first | trivial | (simp [conj]; done) | (simp [conj] at *; (try dsimp only [Ty.den, Ty.dflt] at *); omega)) ?_
    refine sw_ret ⟨.inl rfl, _, rfl, ?_⟩
    simp [conj, hv, zeroD, dskOf, drvOf]

def cDCrash : Ctr := ⟨7, [.val true T_Disk (.all .b), .val false TI pF], fun _ => True, fun x => (.v true [.d TI pF (crashV x.1 x.2.1).1, .own ⟨1, 0, 0⟩, .own ⟨1, 1, 0⟩, .own ⟨1, 2, 0⟩, .own ⟨1, 3, 0⟩], [(⟨1, 0, 0⟩, .sl .str (.all .w) (crashV x.1 x.2.1).2.1), (⟨1, 1, 0⟩, .sl .str (.all .w) (crashV x.1 x.2.1).2.2.1), (⟨1, 2, 0⟩, .sl .bool (.all .w) (crashV x.1 x.2.1).2.2.2.1), (⟨1, 3, 0⟩, .sl T_Put (.all .w) (crashV x.1 x.2.1).2.2.2.2)])⟩
theorem cDCrash_ok : CtrOk Proofs.Try.prog cDCrash := by
  have hP := ((Prg.none ttok mtok).and cChgCrash_ok)
  refine ctr_of_body hP cDCrash (fn := Proofs.Try.f7) (rts := [.cell 4 27]) Proofs.Try.func7 rfl (by kernel_rfl) rfl rfl ?_
  rintro ⟨⟨(st : Int), (sl : List Str), (rg : List Str), (sp : List Bool), (wt : List Put)⟩, (keep : Int), ⟨⟩⟩ _ hpre
  try dsimp only [Ty.den, Mode.den, mdens] at hpre
  refine ⟨rfl, ?_⟩
  refine sw_seq ?_
  refine sw_region hP 1 [] rfl (by kernel_rfl) (fun _ => by kernel_rfl) (by first | trivial | (simp [conj]; done) | (simp [conj] at *; (try dsimp only [Ty.den, Ty.dflt] at *); omega)) ?_
  refine sw_seq ?_
  refine sw_region hP 2 [] rfl (by kernel_rfl) (fun _ => by kernel_rfl) ?_ ?_
  · skip
    simp [conj, maxL]
    try dsimp only [Ty.den, Ty.dflt]
    try simp only [rd_eta]
    trivial
  refine sw_ret ⟨.inl rfl, _, rfl, ?_⟩
  simp [conj]

def cChgFlush : Ctr := ⟨25, [.val true T_Disk (.all .b), .clo 32 []], fun _ => True, fun x => (.v true [.d TI pF (flushV x.1).1, .own ⟨1, 0, 0⟩, .own ⟨1, 1, 0⟩, .own ⟨1, 2, 0⟩, .own ⟨1, 3, 0⟩], [(⟨1, 0, 0⟩, .sl .str (.all .w) (flushV x.1).2.1), (⟨1, 1, 0⟩, .sl .str (.all .w) (flushV x.1).2.2.1), (⟨1, 2, 0⟩, .sl .bool (.all .w) (flushV x.1).2.2.2.1), (⟨1, 3, 0⟩, .sl T_Put (.all .w) (flushV x.1).2.2.2.2)])⟩
theorem cChgFlush_ok : CtrOk Proofs.Try.prog cChgFlush := by
  have hP := (Prg.none ttok mtok)
  refine ctr_of_body hP cChgFlush (fn := Proofs.Try.f25) (rts := [.cell 4 27]) Proofs.Try.func25 rfl (by kernel_rfl) rfl rfl ?_
  rintro ⟨⟨(st : Int), (sl : List Str), (rg : List Str), (sp : List Bool), (wt : List Put)⟩, ⟨⟩, ⟨⟩⟩ _ _
  try dsimp only [Ty.den, Mode.den, mdens] at _
  refine ⟨rfl, ?_⟩
  by_cases h1 : rdV ((st, sl, rg, sp, wt) : Dsk) = true
  · skip
    have hP := ((Prg.none ttok mtok).and cRead_ok)
    obtain ⟨hsh, hwb, hsb, hrb, hgb⟩ := rd_parts h1
    dsimp only at hwb hsb hrb
    obtain ⟨hst, h12, h2b, h12b, h40⟩ := shaped_iff hsh
    dsimp only at hst h12 h2b h12b h40
    have hok : Drv.ok (sl, rg, sp) := drv_ok hsh
    replace hP := hP.andX (cClFlush_ok (st := st) (t := (sl, rg, sp)) (l := wt) (d := ⟨2, 1, 0⟩) (c := ⟨2, 1, 64⟩) hwb)
    replace hP := hP.andX (cDisk_ok (st := st) (t := (comes wt (sl, rg, sp))) (l := []) (d := ⟨2, 1, 0⟩) (c := ⟨3, 5, 0⟩) (Nat.zero_le _) (comes_ok hok))
    have hv := flushV_ok h1
    refine sw_seq ?_
    refine sw_region hP 1 [] rfl (by kernel_rfl) (fun _ => by kernel_rfl) (by first | trivial | (simp [conj]; done) | (simp [conj] at *; (try dsimp only [Ty.den, Ty.dflt] at *); omega)) ?_
    refine sw_seq ?_
    refine sw_region hP 2 [] rfl (by kernel_rfl) (fun _ => by kernel_rfl) ?_ ?_
    · skip
      simp [conj, maxL]
      try dsimp only [Ty.den, Ty.dflt]
      try simp only [rd_eta]
      exact h1
    refine sw_seq ?_
    refine sw_seq ?_
    refine sw_region hP 3 [] rfl (by kernel_rfl) (fun _ => by kernel_rfl) ?_ ?_
    · skip
      simp only [conj, List.nil_append, List.cons_append, List.append_nil, List.append_assoc, inR_i64, true_and, and_true, Int.toNat_natCast]
      try dsimp only [Ty.den, Ty.dflt]
      repeat' apply And.intro
      all_goals first | rfl | omega | assumption | trivial
    refine sw_cond rfl (fun c2 => ?_) (fun c2 => ?_)
    · skip
      cases c2
    · skip
      refine sw_skip ?_
      refine sw_seq ?_
      refine sw_region hP 4 [] rfl (by kernel_rfl) (fun _ => by kernel_rfl) ?_ ?_
      · skip
        simp only [conj, List.nil_append, List.cons_append, List.append_nil, List.append_assoc, inR_i64, true_and, and_true, Int.toNat_natCast]
        try dsimp only [Ty.den, Ty.dflt]
        repeat' apply And.intro
        all_goals first | rfl | omega | assumption | trivial
      refine sw_ret ⟨.inl rfl, _, rfl, ?_⟩
      simp [conj, hv, zeroD, dskOf, drvOf]
  · skip
    have hP := ((Prg.none ttok mtok).and cReadB_ok)
    have h1b : rdV ((st, sl, rg, sp, wt) : Dsk) = false := by simpa using h1
    have hv : flushV ((st, sl, rg, sp, wt) : Dsk) = zeroD := flushV_bad h1
    refine sw_seq ?_
    refine sw_region hP 1 [] rfl (by kernel_rfl) (fun _ => by kernel_rfl) (by first | trivial | (simp [conj]; done) | (simp [conj] at *; (try dsimp only [Ty.den, Ty.dflt] at *); omega)) ?_
    refine sw_seq ?_
    refine sw_region hP 2 [] rfl (by kernel_rfl) (fun _ => by kernel_rfl) ?_ ?_
    · skip
      simp [conj, maxL]
      try dsimp only [Ty.den, Ty.dflt]
      try simp only [rd_eta]
      exact h1b
    refine sw_seq ?_
    refine sw_seq ?_
    refine sw_region hP 3 [] rfl (by kernel_rfl) (fun _ => by kernel_rfl) ?_ ?_
    · skip
      simp only [conj, List.nil_append, List.cons_append, List.append_nil, List.append_assoc, inR_i64, true_and, and_true, Int.toNat_natCast]
      try dsimp only [Ty.den, Ty.dflt]
      repeat' apply And.intro
      all_goals first | rfl | omega | assumption | trivial
    refine sw_condT rfl ?_
    refine sw_seq ?_
    refine sw_region hP 4 [] rfl (by kernel_rfl) (fun _ => by kernel_rfl) (by first | trivial | (simp [conj]; done) | (simp [conj] at *; (try dsimp only [Ty.den, Ty.dflt] at *); omega)) ?_
    refine sw_ret ⟨.inl rfl, _, rfl, ?_⟩
    simp [conj, hv, zeroD, dskOf, drvOf]

def cDFlush : Ctr := ⟨12, [.val true T_Disk (.all .b)], fun _ => True, fun x => (.v true [.d TI pF (flushV x.1).1, .own ⟨1, 0, 0⟩, .own ⟨1, 1, 0⟩, .own ⟨1, 2, 0⟩, .own ⟨1, 3, 0⟩], [(⟨1, 0, 0⟩, .sl .str (.all .w) (flushV x.1).2.1), (⟨1, 1, 0⟩, .sl .str (.all .w) (flushV x.1).2.2.1), (⟨1, 2, 0⟩, .sl .bool (.all .w) (flushV x.1).2.2.2.1), (⟨1, 3, 0⟩, .sl T_Put (.all .w) (flushV x.1).2.2.2.2)])⟩
theorem cDFlush_ok : CtrOk Proofs.Try.prog cDFlush := by
  have hP := ((Prg.none ttok mtok).and cChgFlush_ok)
  refine ctr_of_body hP cDFlush (fn := Proofs.Try.f12) (rts := [.cell 2 27]) Proofs.Try.func12 rfl (by kernel_rfl) rfl rfl ?_
  rintro ⟨⟨(st : Int), (sl : List Str), (rg : List Str), (sp : List Bool), (wt : List Put)⟩, ⟨⟩⟩ _ hpre
  try dsimp only [Ty.den, Mode.den, mdens] at hpre
  refine ⟨rfl, ?_⟩
  refine sw_seq ?_
  refine sw_region hP 1 [] rfl (by kernel_rfl) (fun _ => by kernel_rfl) (by first | trivial | (simp [conj]; done) | (simp [conj] at *; (try dsimp only [Ty.den, Ty.dflt] at *); omega)) ?_
  refine sw_seq ?_
  refine sw_region hP 2 [] rfl (by kernel_rfl) (fun _ => by kernel_rfl) ?_ ?_
  · skip
    simp [conj, maxL]
    try dsimp only [Ty.den, Ty.dflt]
    try simp only [rd_eta]
    trivial
  refine sw_ret ⟨.inl rfl, _, rfl, ?_⟩
  simp [conj]

def cChgPut : Ctr := ⟨25, [.val true T_Disk (.all .b), .clo 35 [(false, T_Put, pF)]], fun _ => True, fun x => (.v true [.d TI pF (putD x.1 x.2.1.1).1, .own ⟨1, 0, 0⟩, .own ⟨1, 1, 0⟩, .own ⟨1, 2, 0⟩, .own ⟨1, 3, 0⟩], [(⟨1, 0, 0⟩, .sl .str (.all .w) (putD x.1 x.2.1.1).2.1), (⟨1, 1, 0⟩, .sl .str (.all .w) (putD x.1 x.2.1.1).2.2.1), (⟨1, 2, 0⟩, .sl .bool (.all .w) (putD x.1 x.2.1.1).2.2.2.1), (⟨1, 3, 0⟩, .sl T_Put (.all .w) (putD x.1 x.2.1.1).2.2.2.2)])⟩
theorem cChgPut_ok : CtrOk Proofs.Try.prog cChgPut := by
  have hP := (Prg.none ttok mtok)
  refine ctr_of_body hP cChgPut (fn := Proofs.Try.f25) (rts := [.cell 4 27]) Proofs.Try.func25 rfl (by kernel_rfl) rfl rfl ?_
  rintro ⟨⟨(st : Int), (sl : List Str), (rg : List Str), (sp : List Bool), (wt : List Put)⟩, ⟨(p : Put), ⟨⟩⟩, ⟨⟩⟩ ⟨_, ⟨hk, _⟩, _⟩ _
  try dsimp only [Ty.den, Mode.den, mdens] at _
  refine ⟨rfl, ?_⟩
  by_cases h1 : rdV ((st, sl, rg, sp, wt) : Dsk) = true
  · skip
    have hP := ((Prg.none ttok mtok).and cRead_ok)
    obtain ⟨hsh, hwb, hsb, hrb, hgb⟩ := rd_parts h1
    dsimp only at hwb hsb hrb
    obtain ⟨hst, h12, h2b, h12b, h40⟩ := shaped_iff hsh
    dsimp only at hst h12 h2b h12b h40
    have hok : Drv.ok (sl, rg, sp) := drv_ok hsh
    
    by_cases h2 : putV p = true
    · skip
      replace hP := hP.andX (cClPut_ok (st := st) (t := (sl, rg, sp)) (l := wt) (d := ⟨2, 1, 0⟩) (c := ⟨2, 1, 64⟩) hwb h40 h2)
      replace hP := hP.andX (cDisk_ok (st := st) (t := (putU st wt (sl, rg, sp))) (l := (putM st wt p)) (d := ⟨2, 1, 0⟩) (c := ⟨3, 5, 0⟩) (Nat.le_trans (putM_len h40) (by decide)) (putU_ok hok))
      have hv := putD_ok h1 h2
      refine sw_seq ?_
      refine sw_region hP 1 [] rfl (by kernel_rfl) (fun _ => by kernel_rfl) (by first | trivial | (simp [conj]; done) | (simp [conj] at *; (try dsimp only [Ty.den, Ty.dflt] at *); omega)) ?_
      refine sw_seq ?_
      refine sw_region hP 2 [] rfl (by kernel_rfl) (fun _ => by kernel_rfl) ?_ ?_
      · skip
        simp [conj, maxL]
        try dsimp only [Ty.den, Ty.dflt]
        try simp only [rd_eta]
        exact h1
      refine sw_seq ?_
      refine sw_seq ?_
      refine sw_region hP 3 [] rfl (by kernel_rfl) (fun _ => by kernel_rfl) ?_ ?_
      · skip
        simp only [conj, List.nil_append, List.cons_append, List.append_nil, List.append_assoc, inR_i64, true_and, and_true, Int.toNat_natCast]
        try dsimp only [Ty.den, Ty.dflt]
        repeat' apply And.intro
        all_goals first | rfl | omega | assumption | trivial
      refine sw_cond rfl (fun c2 => ?_) (fun c2 => ?_)
      · skip
        cases c2
      · skip
        refine sw_skip ?_
        refine sw_seq ?_
        refine sw_region hP 4 [] rfl (by kernel_rfl) (fun _ => by kernel_rfl) ?_ ?_
        · skip
          simp only [conj, List.nil_append, List.cons_append, List.append_nil, List.append_assoc, inR_i64, true_and, and_true, Int.toNat_natCast]
          try dsimp only [Ty.den, Ty.dflt]
          repeat' apply And.intro
          all_goals first | rfl | omega | assumption | trivial
        refine sw_ret ⟨.inl rfl, _, rfl, ?_⟩
        simp [conj, hv, zeroD, dskOf, drvOf]
    · skip
      replace hP := hP.andX (cClPutN_ok (st := st) (t := (sl, rg, sp)) (l := wt) (d := ⟨2, 1, 0⟩) (c := ⟨2, 1, 64⟩) h2)
      have hv : putD ((st, sl, rg, sp, wt) : Dsk) p = zeroD := putD_no h2
      refine sw_seq ?_
      refine sw_region hP 1 [] rfl (by kernel_rfl) (fun _ => by kernel_rfl) (by first | trivial | (simp [conj]; done) | (simp [conj] at *; (try dsimp only [Ty.den, Ty.dflt] at *); omega)) ?_
      refine sw_seq ?_
      refine sw_region hP 2 [] rfl (by kernel_rfl) (fun _ => by kernel_rfl) ?_ ?_
      · skip
        simp [conj, maxL]
        try dsimp only [Ty.den, Ty.dflt]
        try simp only [rd_eta]
        exact h1
      refine sw_seq ?_
      refine sw_seq ?_
      refine sw_region hP 3 [] rfl (by kernel_rfl) (fun _ => by kernel_rfl) ?_ ?_
      · skip
        simp only [conj, List.nil_append, List.cons_append, List.append_nil, List.append_assoc, inR_i64, true_and, and_true, Int.toNat_natCast]
        try dsimp only [Ty.den, Ty.dflt]
        repeat' apply And.intro
        all_goals first | rfl | omega | assumption | trivial
      refine sw_cond rfl (fun c2 => ?_) (fun c2 => ?_)
      · skip
        refine sw_seq ?_
        refine sw_region hP 4 [] rfl (by kernel_rfl) (fun _ => by kernel_rfl) (by first | trivial | (simp [conj]; done) | (simp [conj] at *; (try dsimp only [Ty.den, Ty.dflt] at *); omega)) ?_
        refine sw_ret ⟨.inl rfl, _, rfl, ?_⟩
        simp [conj, hv, zeroD, dskOf, drvOf]
      · skip
        cases c2
  · skip
    have hP := ((Prg.none ttok mtok).and cReadB_ok)
    have h1b : rdV ((st, sl, rg, sp, wt) : Dsk) = false := by simpa using h1
    have hv : putD ((st, sl, rg, sp, wt) : Dsk) p = zeroD := putD_bad h1
    refine sw_seq ?_
    refine sw_region hP 1 [] rfl (by kernel_rfl) (fun _ => by kernel_rfl) (by first | trivial | (simp [conj]; done) | (simp [conj] at *; (try dsimp only [Ty.den, Ty.dflt] at *); omega)) ?_
    refine sw_seq ?_
    refine sw_region hP 2 [] rfl (by kernel_rfl) (fun _ => by kernel_rfl) ?_ ?_
    · skip
      simp [conj, maxL]
      try dsimp only [Ty.den, Ty.dflt]
      try simp only [rd_eta]
      exact h1b
    refine sw_seq ?_
    refine sw_seq ?_
    refine sw_region hP 3 [] rfl (by kernel_rfl) (fun _ => by kernel_rfl) ?_ ?_
    · skip
      simp only [conj, List.nil_append, List.cons_append, List.append_nil, List.append_assoc, inR_i64, true_and, and_true, Int.toNat_natCast]
      try dsimp only [Ty.den, Ty.dflt]
      repeat' apply And.intro
      all_goals first | rfl | omega | assumption | trivial
    refine sw_condT rfl ?_
    refine sw_seq ?_
    refine sw_region hP 4 [] rfl (by kernel_rfl) (fun _ => by kernel_rfl) (by first | trivial | (simp [conj]; done) | (simp [conj] at *; (try dsimp only [Ty.den, Ty.dflt] at *); omega)) ?_
    refine sw_ret ⟨.inl rfl, _, rfl, ?_⟩
    simp [conj, hv, zeroD, dskOf, drvOf]

def cDPut : Ctr := ⟨14, [.val true T_Disk (.all .b), .val true T_Put pF], fun _ => True, fun x => (.v true [.d TI pF (putD x.1 x.2.1).1, .own ⟨1, 0, 0⟩, .own ⟨1, 1, 0⟩, .own ⟨1, 2, 0⟩, .own ⟨1, 3, 0⟩], [(⟨1, 0, 0⟩, .sl .str (.all .w) (putD x.1 x.2.1).2.1), (⟨1, 1, 0⟩, .sl .str (.all .w) (putD x.1 x.2.1).2.2.1), (⟨1, 2, 0⟩, .sl .bool (.all .w) (putD x.1 x.2.1).2.2.2.1), (⟨1, 3, 0⟩, .sl T_Put (.all .w) (putD x.1 x.2.1).2.2.2.2)])⟩
theorem cDPut_ok : CtrOk Proofs.Try.prog cDPut := by
  have hP := ((Prg.none ttok mtok).and cChgPut_ok)
  refine ctr_of_body hP cDPut (fn := Proofs.Try.f14) (rts := [.cell 4 27]) Proofs.Try.func14 rfl (by kernel_rfl) rfl rfl ?_
  rintro ⟨⟨(st : Int), (sl : List Str), (rg : List Str), (sp : List Bool), (wt : List Put)⟩, ⟨(rn : Bool), (at_ : Int), (tx : Str)⟩, ⟨⟩⟩ _ hpre
  try dsimp only [Ty.den, Mode.den, mdens] at hpre
  refine ⟨rfl, ?_⟩
  refine sw_seq ?_
  refine sw_region hP 1 [] rfl (by kernel_rfl) (fun _ => by kernel_rfl) (by first | trivial | (simp [conj]; done) | (simp [conj] at *; (try dsimp only [Ty.den, Ty.dflt] at *); omega)) ?_
  refine sw_seq ?_
  refine sw_region hP 2 [] rfl (by kernel_rfl) (fun _ => by kernel_rfl) ?_ ?_
  · skip
    simp [conj, maxL]
    try dsimp only [Ty.den, Ty.dflt]
    try simp only [rd_eta]
    trivial
  refine sw_ret ⟨.inl rfl, _, rfl, ?_⟩
  simp [conj]
end Go.Sx
