import Derived.Test.YtdoennebblhfbaaMG3
set_option linter.all false
namespace Go.Sx
open Go
set_option maxRecDepth 100000
set_option linter.unusedVariables false
set_option linter.unusedSimpArgs false
attribute [local irreducible] modV nmX textV textR pk

def cNameX : Ctr := ⟨24, [.ref T_l6Rd pF, .val true T_Model (.all .b)], fun x => ROk x.1 100, fun x => (sStr (nmX x.1 x.2.1).1, [(⟨0, 0, 0⟩, rdA (nmX x.1 x.2.1).2)])⟩
theorem cNameX_ok : CtrOk Proofs.Try.prog cNameX := by
  have hP := (((Prg.none ttok mtok).and cPick_ok).and cOf_ok)
  refine ctr_of_body hP cNameX (fn := Proofs.Try.f24) (rts := [.tmp 4]) Proofs.Try.func24 rfl (by kernel_rfl) rfl rfl ?_
  rintro ⟨(r : Rd), (m : List Shf), ⟨⟩⟩ ⟨_, hdm, _⟩ hpre
  try dsimp only [Ty.den, Mode.den, mdens] at hpre
  refine ⟨rfl, ?_⟩
  have hr : ROk r 100 := hpre
  have hml : m.length ≤ 140737488355328 := hdm.1
  refine sw_seq ?_
  refine sw_region hP 1 [] rfl (by kernel_rfl) (fun _ => by kernel_rfl) (by first | trivial | (simp [conj]; done) | (simp [conj] at *; (try dsimp only [Ty.den, Ty.dflt] at *); omega)) ?_
  refine sw_seq ?_
  refine sw_seq ?_
  refine sw_dec hP 2 [] 4 rfl (fun g1_4 => ?_) (fun g1_4 => ?_)
  · skip
    replace g1_4 : 0 < m.length := by simpa using g1_4
    refine sw_region hP 2 [(4, true)] rfl (by kernel_rfl) (fun _ => by kernel_rfl) ?_ ?_
    · skip
      simp [conj, maxL]
      try dsimp only [Ty.den, Ty.dflt]
      try simp only [rd_eta]
      repeat' apply And.intro
      all_goals first | assumption | exact (hr.le (by omega) : ROk r 1) | exact List.length_pos_iff.1 g1_4 | exact List.eq_nil_of_length_eq_zero (by omega) | omega
    refine sw_cond rfl (fun c1 => ?_) (fun c1 => ?_)
    · skip
      replace c1 : 0 < pk r 5 := of_decide_eq_true c1
      have hb : 0 ≤ pk (nx r) m.length ∧ pk (nx r) m.length < m.length := pk_bd (hr.nx (m' := 10) (by omega)) (by omega) (by omega)
      have hlt : (pk (nx r) m.length).toNat < m.length := by omega
      refine sw_seq ?_
      refine sw_region hP 3 [] rfl (by kernel_rfl) (fun _ => by kernel_rfl) ?_ ?_
      · skip
        simp [conj, maxL]
        try dsimp only [Ty.den, Ty.dflt]
        try simp only [rd_eta]
        repeat' apply And.intro
        all_goals first | assumption | exact (hr.nx (by omega) : ROk (nx r) 1) | omega
      refine sw_ret ⟨.inl rfl, _, rfl, ?_⟩
      have hv := nmX_a g1_4 c1
      simp only [hv]
      simp [conj, maxL]
      try dsimp only [Ty.den, Ty.dflt]
      try simp only [rd_eta]
      repeat' apply And.intro
      all_goals first | rfl | assumption | omega
    · skip
      replace c1 : ¬ 0 < pk r 5 := of_decide_eq_false c1
      refine sw_skip ?_
      refine sw_seq ?_
      refine sw_region hP 3 [] rfl (by kernel_rfl) (fun _ => by kernel_rfl) ?_ ?_
      · skip
        simp [conj, maxL]
        try dsimp only [Ty.den, Ty.dflt]
        try simp only [rd_eta]
        exact ⟨(hr.nx (by omega) : ROk (nx r) 1), by simp⟩
      refine sw_ret ⟨.inl rfl, _, rfl, ?_⟩
      have hv := nmX_b g1_4 c1
      simp only [hv]
      simp [conj, maxL]
      try dsimp only [Ty.den, Ty.dflt]
      try simp only [rd_eta]
      repeat' apply And.intro
      all_goals first | rfl | assumption | omega
  · skip
    replace g1_4 : ¬ 0 < m.length := by simpa using g1_4
    refine sw_region hP 2 [(4, false)] rfl (by kernel_rfl) (fun _ => by kernel_rfl) ?_ ?_
    · skip
      simp [conj, maxL]
      try dsimp only [Ty.den, Ty.dflt]
      try simp only [rd_eta]
      repeat' apply And.intro
      all_goals first | assumption | exact (hr.le (by omega) : ROk r 1) | exact List.length_pos_iff.1 g1_4 | exact List.eq_nil_of_length_eq_zero (by omega) | omega
    refine sw_condF rfl ?_
    refine sw_skip ?_
    refine sw_seq ?_
    refine sw_region hP 3 [] rfl (by kernel_rfl) (fun _ => by kernel_rfl) ?_ ?_
    · skip
      simp [conj, maxL]
      try dsimp only [Ty.den, Ty.dflt]
      try simp only [rd_eta]
      exact ⟨(hr.le (by omega) : ROk r 1), by simp⟩
    refine sw_ret ⟨.inl rfl, _, rfl, ?_⟩
    have hv := nmX_c (r := r) g1_4
    simp only [hv]
    simp [conj, maxL]
    try dsimp only [Ty.den, Ty.dflt]
    try simp only [rd_eta]
    repeat' apply And.intro
    all_goals first | rfl | assumption | omega

def cDMake : Ctr := ⟨16, [.val false TB pF], fun _ => True, fun x => (.tup [(true, [.d T_Model pF (dMake x.1).1]), (false, [.d .str pF (dMake x.1).2])], [])⟩
theorem cDMake_ok : CtrOk Proofs.Try.prog cDMake := by
  have hP := ((((Prg.none ttok mtok).and cOpen_ok).and cModel_ok).and cOf_ok)
  refine ctr_of_body hP cDMake (fn := Proofs.Try.f16) (rts := [.cell 2 25, .tmp 3]) Proofs.Try.func16 rfl (by kernel_rfl) rfl rfl ?_
  rintro ⟨(code : List Int), ⟨⟩⟩ ⟨hdc, _⟩ hpre
  try dsimp only [Ty.den, Mode.den, mdens] at hpre
  refine ⟨rfl, ?_⟩
  have h0 : ROk (rd0 code) 400 := rd0_ok hdc
  have h1 : ROk (modV (rd0 code)).2 100 := modV_ok h0
  refine sw_seq ?_
  refine sw_region hP 1 [] rfl (by kernel_rfl) (fun _ => by kernel_rfl) (by first | trivial | (simp [conj]; done) | (simp [conj] at *; (try dsimp only [Ty.den, Ty.dflt] at *); omega)) ?_
  refine sw_seq ?_
  refine sw_region hP 2 [] rfl (by kernel_rfl) (fun _ => by kernel_rfl) (by first | trivial | (simp [conj]; done) | (simp [conj] at *; (try dsimp only [Ty.den, Ty.dflt] at *); omega)) ?_
  refine sw_seq ?_
  refine sw_region hP 3 [] rfl (by kernel_rfl) (fun _ => by kernel_rfl) ?_ ?_
  · skip
    simp [conj, maxL]
    try dsimp only [Ty.den, Ty.dflt]
    try simp only [rd_eta]
    repeat' apply And.intro
    all_goals first | exact h0 | exact h1.le (by omega) | simp
  refine sw_ret ⟨.inl rfl, _, rfl, ?_⟩
  simp [conj, maxL]
  try dsimp only [Ty.den, Ty.dflt]
  try simp only [rd_eta]
  repeat' apply And.intro
  all_goals first | rfl | assumption | omega

def cDDrop : Ctr := ⟨13, [.val false TB pF], fun _ => True, fun x => (.tup [(true, [.d T_Model pF (dDrop x.1).1]), (false, [.d .str pF (dDrop x.1).2])], [])⟩
theorem cDDrop_ok : CtrOk Proofs.Try.prog cDDrop := by
  have hP := (((((Prg.none ttok mtok).and cOpen_ok).and cModel_ok).and cOf_ok).and cNameX_ok)
  refine ctr_of_body hP cDDrop (fn := Proofs.Try.f13) (rts := [.cell 2 25, .tmp 3]) Proofs.Try.func13 rfl (by kernel_rfl) rfl rfl ?_
  rintro ⟨(code : List Int), ⟨⟩⟩ ⟨hdc, _⟩ hpre
  try dsimp only [Ty.den, Mode.den, mdens] at hpre
  refine ⟨rfl, ?_⟩
  have h0 : ROk (rd0 code) 400 := rd0_ok hdc
  have h1 : ROk (modV (rd0 code)).2 100 := modV_ok h0
  refine sw_seq ?_
  refine sw_region hP 1 [] rfl (by kernel_rfl) (fun _ => by kernel_rfl) (by first | trivial | (simp [conj]; done) | (simp [conj] at *; (try dsimp only [Ty.den, Ty.dflt] at *); omega)) ?_
  refine sw_seq ?_
  refine sw_region hP 2 [] rfl (by kernel_rfl) (fun _ => by kernel_rfl) (by first | trivial | (simp [conj]; done) | (simp [conj] at *; (try dsimp only [Ty.den, Ty.dflt] at *); omega)) ?_
  refine sw_seq ?_
  refine sw_region hP 3 [] rfl (by kernel_rfl) (fun _ => by kernel_rfl) ?_ ?_
  · skip
    simp [conj, maxL]
    try dsimp only [Ty.den, Ty.dflt]
    try simp only [rd_eta]
    exact h0
  refine sw_seq ?_
  refine sw_region hP 4 [] rfl (by kernel_rfl) (fun _ => by kernel_rfl) ?_ ?_
  · skip
    simp [conj, maxL]
    try dsimp only [Ty.den, Ty.dflt]
    try simp only [rd_eta]
    exact h1
  refine sw_ret ⟨.inl rfl, _, rfl, ?_⟩
  simp [conj, maxL]
  try dsimp only [Ty.den, Ty.dflt]
  try simp only [rd_eta]
  repeat' apply And.intro
  all_goals first | rfl | assumption | omega

def cDCopy : Ctr := ⟨19, [.val false TB pF], fun _ => True, fun x => (.tup [(true, [.d T_Model pF (dCopy x.1).1]), (false, [.d .str pF (dCopy x.1).2.1]), (false, [.d .str pF (dCopy x.1).2.2])], [])⟩
theorem cDCopy_ok : CtrOk Proofs.Try.prog cDCopy := by
  have hP := (((((Prg.none ttok mtok).and cOpen_ok).and cModel_ok).and cOf_ok).and cNameX_ok)
  refine ctr_of_body hP cDCopy (fn := Proofs.Try.f19) (rts := [.cell 2 25, .tmp 3, .tmp 4]) Proofs.Try.func19 rfl (by kernel_rfl) rfl rfl ?_
  rintro ⟨(code : List Int), ⟨⟩⟩ ⟨hdc, _⟩ hpre
  try dsimp only [Ty.den, Mode.den, mdens] at hpre
  refine ⟨rfl, ?_⟩
  have h0 : ROk (rd0 code) 400 := rd0_ok hdc
  have h1 : ROk (modV (rd0 code)).2 100 := modV_ok h0
  have h2 := nmX_ok h1 (modV (rd0 code)).1
  refine sw_seq ?_
  refine sw_region hP 1 [] rfl (by kernel_rfl) (fun _ => by kernel_rfl) (by first | trivial | (simp [conj]; done) | (simp [conj] at *; (try dsimp only [Ty.den, Ty.dflt] at *); omega)) ?_
  refine sw_seq ?_
  refine sw_region hP 2 [] rfl (by kernel_rfl) (fun _ => by kernel_rfl) (by first | trivial | (simp [conj]; done) | (simp [conj] at *; (try dsimp only [Ty.den, Ty.dflt] at *); omega)) ?_
  refine sw_seq ?_
  refine sw_region hP 3 [] rfl (by kernel_rfl) (fun _ => by kernel_rfl) ?_ ?_
  · skip
    simp [conj, maxL]
    try dsimp only [Ty.den, Ty.dflt]
    try simp only [rd_eta]
    exact h0
  refine sw_seq ?_
  refine sw_region hP 4 [] rfl (by kernel_rfl) (fun _ => by kernel_rfl) ?_ ?_
  · skip
    simp [conj, maxL]
    try dsimp only [Ty.den, Ty.dflt]
    try simp only [rd_eta]
    repeat' apply And.intro
    all_goals first | exact h1 | exact h2.le (by omega) | simp
  refine sw_ret ⟨.inl rfl, _, rfl, ?_⟩
  simp [conj, maxL]
  try dsimp only [Ty.den, Ty.dflt]
  try simp only [rd_eta]
  repeat' apply And.intro
  all_goals first | rfl | assumption | omega

def cDWrite : Ctr := ⟨7, [.val false TB pF], fun _ => True, fun x => (.tup [(true, [.d T_Model pF (dWrite x.1).1]), (false, [.d .str pF (dWrite x.1).2.1]), (false, [.d TI pF (dWrite x.1).2.2.1]), (false, [.d .str pF (dWrite x.1).2.2.2])], [])⟩
theorem cDWrite_ok : CtrOk Proofs.Try.prog cDWrite := by
  have hP := (((((((Prg.none ttok mtok).and cOpen_ok).and cModel_ok).and cOf_ok).and cNameX_ok).and cPick_ok).and cText_ok)
  refine ctr_of_body hP cDWrite (fn := Proofs.Try.f7) (rts := [.cell 2 25, .tmp 3, .tmp 4, .tmp 5]) Proofs.Try.func7 rfl (by kernel_rfl) rfl rfl ?_
  rintro ⟨(code : List Int), ⟨⟩⟩ ⟨hdc, _⟩ hpre
  try dsimp only [Ty.den, Mode.den, mdens] at hpre
  refine ⟨rfl, ?_⟩
  have h0 : ROk (rd0 code) 400 := rd0_ok hdc
  have h1 : ROk (modV (rd0 code)).2 100 := modV_ok h0
  have h2 := nmX_ok h1 (modV (rd0 code)).1
  have hw := dw_bd h2
  simp only [rd0] at h0 h1 h2 hw
  refine sw_seq ?_
  refine sw_region hP 1 [] rfl (by kernel_rfl) (fun _ => by kernel_rfl) (by first | trivial | (simp [conj]; done) | (simp [conj] at *; (try dsimp only [Ty.den, Ty.dflt] at *); omega)) ?_
  refine sw_seq ?_
  refine sw_region hP 2 [] rfl (by kernel_rfl) (fun _ => by kernel_rfl) (by first | trivial | (simp [conj]; done) | (simp [conj] at *; (try dsimp only [Ty.den, Ty.dflt] at *); omega)) ?_
  refine sw_seq ?_
  refine sw_region hP 3 [] rfl (by kernel_rfl) (fun _ => by kernel_rfl) ?_ ?_
  · skip
    simp [conj, maxL]
    try dsimp only [Ty.den, Ty.dflt]
    try simp only [rd_eta]
    exact h0
  refine sw_seq ?_
  refine sw_region hP 4 [] rfl (by kernel_rfl) (fun _ => by kernel_rfl) ?_ ?_
  · skip
    simp [conj, maxL]
    try dsimp only [Ty.den, Ty.dflt]
    try simp only [rd_eta]
    repeat' apply And.intro
    all_goals first | exact h1 | exact h2.le (by omega) | exact hw.2.2.2.2.1.le (by omega) | exact hw.2.2.2.2.2.1.le (by omega) | exact hw.2.2.2.2.2.2.1.le (by omega) | omega | exact (hw.2.2.2.2.2.2.2.le (by omega)) | (refine ROk.le (m := 94) hw.2.2.2.2.2.2.2 ?_; show 2 * (9 + _) + 3 ≤ (94 : Int); omega) | (show (0 : Int) ≤ 9 + _; omega) | (show (9 : Int) + _ ≤ 1000; omega) | skip
  refine sw_ret ⟨.inl rfl, _, rfl, ?_⟩
  simp [conj, maxL]
  try dsimp only [Ty.den, Ty.dflt]
  try simp only [rd_eta]
  repeat' apply And.intro
  all_goals first | rfl | assumption | omega
end Go.Sx
