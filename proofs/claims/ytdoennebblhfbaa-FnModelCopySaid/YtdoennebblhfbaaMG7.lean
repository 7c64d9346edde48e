import Derived.Test.YtdoennebblhfbaaMG6
set_option linter.all false
namespace Go.Sx
open Go
set_option maxRecDepth 100000
set_option linter.unusedVariables false
set_option linter.unusedSimpArgs false

def cClCopy : Ctr := ⟨48, [.ref T_Model (.all .w), .rp .str pF, .rp .str pF], fun x => mokV x.1 = true, fun x => (sInt .i64 (clCopy x.2.1 x.2.2.1 x.1).2, [(⟨0, 0, 0⟩, .var [.own ⟨1, 0, 0⟩]), (⟨1, 0, 0⟩, .sl T_Shelf pF (clCopy x.2.1 x.2.2.1 x.1).1)])⟩
theorem cClCopy_ok : CtrOk Proofs.Try.prog cClCopy := by
  have hP := (((Prg.none ttok mtok).and cIndex_ok).and cAddI_ok)
  refine ctr_of_body hP cClCopy (fn := Proofs.Try.f48) (rts := [.tmp 4]) Proofs.Try.func48 rfl (by kernel_rfl) rfl rfl ?_
  rintro ⟨(m : List Shf), (frm : Str), (name : Str), ⟨⟩⟩ _ hpre
  try dsimp only [Ty.den, Mode.den, mdens] at hpre
  refine ⟨rfl, ?_⟩
  have hm : mokV m = true := hpre
  have h4 : m.length ≤ 4 := mok_len4 hm
  refine sw_seq ?_
  refine sw_region hP 1 [] rfl (by kernel_rfl) (fun _ => by kernel_rfl) (by first | trivial | (simp [conj]; done) | (simp [conj] at *; (try dsimp only [Ty.den, Ty.dflt] at *); omega)) ?_
  refine sw_seq ?_
  refine sw_region hP 2 [] rfl (by kernel_rfl) (fun _ => by kernel_rfl) (by first | trivial | (simp [conj]; done) | (simp [conj] at *; (try dsimp only [Ty.den, Ty.dflt] at *); omega)) ?_
  refine sw_seq ?_
  refine sw_seq ?_
  refine sw_region hP 3 [] rfl (by kernel_rfl) (fun _ => by kernel_rfl) (by first | trivial | (simp [conj]; done) | (simp [conj] at *; (try dsimp only [Ty.den, Ty.dflt] at *); omega)) ?_
  refine sw_cond rfl (fun c2 => ?_) (fun c2 => ?_)
  · skip
    replace c2 : (!(mget .str (idxV m) frm).isSome) = true := c2
    rw [idx_isSome hm] at c2
    replace c2 : ¬ 0 ≤ findV m frm := by simpa using c2
    have hv := clCopy_no (name := name) c2
    refine sw_seq ?_
    refine sw_frzIn ⟨0, 0, 1⟩ rfl ?_
    refine sw_region hP 4 [] rfl (by kernel_rfl) (fun _ => by kernel_rfl) (by first | trivial | (simp [conj]; done) | (simp [conj] at *; (try dsimp only [Ty.den, Ty.dflt] at *); omega)) ?_
    refine sw_ret ⟨.inl rfl, _, rfl, ?_⟩
    simp only [hv]
    simp [conj, maxL]
    try dsimp only [Ty.den, Ty.dflt]
    try simp only [rd_eta]
    repeat' apply And.intro
    all_goals first | rfl | trivial | assumption | omega
  · skip
    replace c2 : (!(mget .str (idxV m) frm).isSome) = false := c2
    rw [idx_isSome hm] at c2
    replace c2 : 0 ≤ findV m frm := by simpa using c2
    obtain ⟨hk, hkn⟩ := find_name c2
    have h3 := mok_at hm hk
    have he : (mget .str (idxV m) frm).getD (0 : Int) = findV m frm := by rw [idx_some hm c2]; rfl
    have hv := clCopy_ok (name := name) c2
    refine sw_skip ?_
    refine sw_seq ?_
    refine sw_frzIn ⟨0, 0, 1⟩ rfl ?_
    refine sw_region hP 4 [] rfl (by kernel_rfl) (fun _ => by kernel_rfl) ?_ ?_
    · skip
      simp [conj, maxL]
      try dsimp only [Ty.den, Ty.dflt]
      try simp only [rd_eta]
      simp only [he]
      simp only [List.getElem?_eq_getElem hk, Option.getD_some]
      repeat' apply And.intro
      all_goals first | trivial | assumption | omega | (show m[(findV m frm).toNat].2.length ≤ 1000; omega)
    refine sw_ret ⟨.inl rfl, _, rfl, ?_⟩
    simp only [hv]
    simp [conj, maxL]
    try dsimp only [Ty.den, Ty.dflt]
    try simp only [rd_eta]
    simp only [he]
    repeat' apply And.intro
    all_goals first | rfl | trivial | assumption | omega

def cTMake : Ctr := ⟨31, [.val true T_Model (.all .b), .clo 46 [(false, .str, pF)]], fun x => mokV x.1 = mokV x.1, fun x => (.tup [(true, [.d T_Model pF (thoughtV (clMake x.2.1.1) x.1).1]), (false, [.d TI pF (thoughtV (clMake x.2.1.1) x.1).2])], [])⟩
theorem cTMake_ok : CtrOk Proofs.Try.prog cTMake := by
  have hP := ((((Prg.none ttok mtok).and cOkI_ok).and cCopyI_ok).and cClMake_ok)
  refine ctr_of_body hP cTMake (fn := Proofs.Try.f31) (rts := [.cell 4 25, .tmp 5]) Proofs.Try.func31 rfl (by kernel_rfl) rfl rfl ?_
  rintro ⟨(m : List Shf), ⟨(name : Str), ⟨⟩⟩, ⟨⟩⟩ _ hpr
  try dsimp only [Ty.den, Mode.den, mdens] at hpr
  refine ⟨rfl, ?_⟩
  refine sw_seq ?_
  refine sw_region hP 1 [] rfl (by kernel_rfl) (fun _ => by kernel_rfl) (by first | trivial | (simp [conj]; done) | (simp [conj] at *; (try dsimp only [Ty.den, Ty.dflt] at *); omega)) ?_
  refine sw_seq ?_
  refine sw_seq ?_
  refine sw_region hP 2 [] rfl (by kernel_rfl) (fun _ => by kernel_rfl) (by first | trivial | (simp [conj]; done) | (simp [conj] at *; (try dsimp only [Ty.den, Ty.dflt] at *); omega)) ?_
  refine sw_cond rfl (fun c1 => ?_) (fun c1 => ?_)
  · skip
    replace c1 : mokV m = false := by have h : (!mokV m) = true := c1; simpa using h
    have hv := thoughtV_bad (cl := clMake name) c1
    refine sw_seq ?_
    refine sw_region hP 3 [] rfl (by kernel_rfl) (fun _ => by kernel_rfl) (by first | trivial | (simp [conj]; done) | (simp [conj] at *; (try dsimp only [Ty.den, Ty.dflt] at *); omega)) ?_
    refine sw_ret ⟨.inl rfl, _, rfl, ?_⟩
    simp only [hv]
    simp [conj, maxL]
    try dsimp only [Ty.den, Ty.dflt]
    try simp only [rd_eta]
    repeat' apply And.intro
    all_goals first | rfl | assumption | omega | trivial
  · skip
    replace c1 : mokV m = true := by have h : (!mokV m) = false := c1; simpa using h
    refine sw_skip ?_
    refine sw_seq ?_
    refine sw_region hP 3 [] rfl (by kernel_rfl) (fun _ => by kernel_rfl) ?_ ?_
    · skip
      simp [conj, maxL]
      try dsimp only [Ty.den, Ty.dflt]
      try simp only [rd_eta]
      exact c1
    refine sw_seq ?_
    refine sw_seq ?_
    refine sw_region hP 4 [] rfl (by kernel_rfl) (fun _ => by kernel_rfl) ?_ ?_
    · skip
      simp [conj, maxL]
      try dsimp only [Ty.den, Ty.dflt]
      try simp only [rd_eta]
      exact c1
    refine sw_seq ?_
    refine sw_region hP 5 [] rfl (by kernel_rfl) (fun _ => by kernel_rfl) (by first | trivial | (simp [conj]; done) | (simp [conj] at *; (try dsimp only [Ty.den, Ty.dflt] at *); omega)) ?_
    refine sw_cond rfl (fun c5 => ?_) (fun c5 => ?_)
    · skip
      replace c5 : ¬ ((clMake name) m).2 = 0 := by have h : (!decide (((clMake name) m).2 = 0)) = true := c5; simpa using h
      have hv := thoughtV_no c1 c5
      refine sw_seq ?_
      refine sw_region hP 6 [] rfl (by kernel_rfl) (fun _ => by kernel_rfl) ?_ ?_
      · skip
        simp [conj, maxL]
        try dsimp only [Ty.den, Ty.dflt]
        try simp only [rd_eta]
        exact c1
      refine sw_frz ⟨6, 1, 0⟩ rfl ?_
      refine sw_ret ⟨.inl rfl, _, rfl, ?_⟩
      simp only [hv]
      simp [conj, maxL]
      try dsimp only [Ty.den, Ty.dflt]
      try simp only [rd_eta]
      repeat' apply And.intro
      all_goals first | rfl | assumption | omega | trivial
    · skip
      replace c5 : ((clMake name) m).2 = 0 := by have h : (!decide (((clMake name) m).2 = 0)) = false := c5; simpa using h
      have hv := thoughtV_ok c1 c5
      refine sw_skip ?_
      refine sw_seq ?_
      refine sw_region hP 6 [] rfl (by kernel_rfl) (fun _ => by kernel_rfl) (by first | trivial | (simp [conj]; done) | (simp [conj] at *; (try dsimp only [Ty.den, Ty.dflt] at *); omega)) ?_
      refine sw_frz ⟨4, 1, 0⟩ rfl ?_
      refine sw_ret ⟨.inl rfl, _, rfl, ?_⟩
      simp only [hv]
      simp [conj, maxL]
      try dsimp only [Ty.den, Ty.dflt]
      try simp only [rd_eta]
      repeat' apply And.intro
      all_goals first | rfl | assumption | omega | trivial

def cTDrop : Ctr := ⟨31, [.val true T_Model (.all .b), .clo 42 [(false, .str, pF)]], fun x => mokV x.1 = mokV x.1, fun x => (.tup [(true, [.d T_Model pF (thoughtV (clDrop x.2.1.1) x.1).1]), (false, [.d TI pF (thoughtV (clDrop x.2.1.1) x.1).2])], [])⟩
theorem cTDrop_ok : CtrOk Proofs.Try.prog cTDrop := by
  have hP := ((((Prg.none ttok mtok).and cOkI_ok).and cCopyI_ok).and cClDrop_ok)
  refine ctr_of_body hP cTDrop (fn := Proofs.Try.f31) (rts := [.cell 4 25, .tmp 5]) Proofs.Try.func31 rfl (by kernel_rfl) rfl rfl ?_
  rintro ⟨(m : List Shf), ⟨(name : Str), ⟨⟩⟩, ⟨⟩⟩ _ hpr
  try dsimp only [Ty.den, Mode.den, mdens] at hpr
  refine ⟨rfl, ?_⟩
  refine sw_seq ?_
  refine sw_region hP 1 [] rfl (by kernel_rfl) (fun _ => by kernel_rfl) (by first | trivial | (simp [conj]; done) | (simp [conj] at *; (try dsimp only [Ty.den, Ty.dflt] at *); omega)) ?_
  refine sw_seq ?_
  refine sw_seq ?_
  refine sw_region hP 2 [] rfl (by kernel_rfl) (fun _ => by kernel_rfl) (by first | trivial | (simp [conj]; done) | (simp [conj] at *; (try dsimp only [Ty.den, Ty.dflt] at *); omega)) ?_
  refine sw_cond rfl (fun c1 => ?_) (fun c1 => ?_)
  · skip
    replace c1 : mokV m = false := by have h : (!mokV m) = true := c1; simpa using h
    have hv := thoughtV_bad (cl := clDrop name) c1
    refine sw_seq ?_
    refine sw_region hP 3 [] rfl (by kernel_rfl) (fun _ => by kernel_rfl) (by first | trivial | (simp [conj]; done) | (simp [conj] at *; (try dsimp only [Ty.den, Ty.dflt] at *); omega)) ?_
    refine sw_ret ⟨.inl rfl, _, rfl, ?_⟩
    simp only [hv]
    simp [conj, maxL]
    try dsimp only [Ty.den, Ty.dflt]
    try simp only [rd_eta]
    repeat' apply And.intro
    all_goals first | rfl | assumption | omega | trivial
  · skip
    replace c1 : mokV m = true := by have h : (!mokV m) = false := c1; simpa using h
    refine sw_skip ?_
    refine sw_seq ?_
    refine sw_region hP 3 [] rfl (by kernel_rfl) (fun _ => by kernel_rfl) ?_ ?_
    · skip
      simp [conj, maxL]
      try dsimp only [Ty.den, Ty.dflt]
      try simp only [rd_eta]
      exact c1
    refine sw_seq ?_
    refine sw_seq ?_
    refine sw_region hP 4 [] rfl (by kernel_rfl) (fun _ => by kernel_rfl) ?_ ?_
    · skip
      simp [conj, maxL]
      try dsimp only [Ty.den, Ty.dflt]
      try simp only [rd_eta]
      exact c1
    refine sw_seq ?_
    refine sw_region hP 5 [] rfl (by kernel_rfl) (fun _ => by kernel_rfl) (by first | trivial | (simp [conj]; done) | (simp [conj] at *; (try dsimp only [Ty.den, Ty.dflt] at *); omega)) ?_
    refine sw_cond rfl (fun c5 => ?_) (fun c5 => ?_)
    · skip
      replace c5 : ¬ ((clDrop name) m).2 = 0 := by have h : (!decide (((clDrop name) m).2 = 0)) = true := c5; simpa using h
      have hv := thoughtV_no c1 c5
      refine sw_seq ?_
      refine sw_region hP 6 [] rfl (by kernel_rfl) (fun _ => by kernel_rfl) ?_ ?_
      · skip
        simp [conj, maxL]
        try dsimp only [Ty.den, Ty.dflt]
        try simp only [rd_eta]
        exact c1
      refine sw_frz ⟨6, 1, 0⟩ rfl ?_
      refine sw_ret ⟨.inl rfl, _, rfl, ?_⟩
      simp only [hv]
      simp [conj, maxL]
      try dsimp only [Ty.den, Ty.dflt]
      try simp only [rd_eta]
      repeat' apply And.intro
      all_goals first | rfl | assumption | omega | trivial
    · skip
      replace c5 : ((clDrop name) m).2 = 0 := by have h : (!decide (((clDrop name) m).2 = 0)) = false := c5; simpa using h
      have hv := thoughtV_ok c1 c5
      refine sw_skip ?_
      refine sw_seq ?_
      refine sw_region hP 6 [] rfl (by kernel_rfl) (fun _ => by kernel_rfl) (by first | trivial | (simp [conj]; done) | (simp [conj] at *; (try dsimp only [Ty.den, Ty.dflt] at *); omega)) ?_
      refine sw_frz ⟨4, 1, 0⟩ rfl ?_
      refine sw_ret ⟨.inl rfl, _, rfl, ?_⟩
      simp only [hv]
      simp [conj, maxL]
      try dsimp only [Ty.den, Ty.dflt]
      try simp only [rd_eta]
      repeat' apply And.intro
      all_goals first | rfl | assumption | omega | trivial

def cTCopy : Ctr := ⟨31, [.val true T_Model (.all .b), .clo 48 [(false, .str, pF), (false, .str, pF)]], fun x => mokV x.1 = mokV x.1, fun x => (.tup [(true, [.d T_Model pF (thoughtV (clCopy x.2.1.1 x.2.1.2.1) x.1).1]), (false, [.d TI pF (thoughtV (clCopy x.2.1.1 x.2.1.2.1) x.1).2])], [])⟩
theorem cTCopy_ok : CtrOk Proofs.Try.prog cTCopy := by
  have hP := ((((Prg.none ttok mtok).and cOkI_ok).and cCopyI_ok).and cClCopy_ok)
  refine ctr_of_body hP cTCopy (fn := Proofs.Try.f31) (rts := [.cell 4 25, .tmp 5]) Proofs.Try.func31 rfl (by kernel_rfl) rfl rfl ?_
  rintro ⟨(m : List Shf), ⟨(frm : Str), (name : Str), ⟨⟩⟩, ⟨⟩⟩ _ hpr
  try dsimp only [Ty.den, Mode.den, mdens] at hpr
  refine ⟨rfl, ?_⟩
  refine sw_seq ?_
  refine sw_region hP 1 [] rfl (by kernel_rfl) (fun _ => by kernel_rfl) (by first | trivial | (simp [conj]; done) | (simp [conj] at *; (try dsimp only [Ty.den, Ty.dflt] at *); omega)) ?_
  refine sw_seq ?_
  refine sw_seq ?_
  refine sw_region hP 2 [] rfl (by kernel_rfl) (fun _ => by kernel_rfl) (by first | trivial | (simp [conj]; done) | (simp [conj] at *; (try dsimp only [Ty.den, Ty.dflt] at *); omega)) ?_
  refine sw_cond rfl (fun c1 => ?_) (fun c1 => ?_)
  · skip
    replace c1 : mokV m = false := by have h : (!mokV m) = true := c1; simpa using h
    have hv := thoughtV_bad (cl := clCopy frm name) c1
    refine sw_seq ?_
    refine sw_region hP 3 [] rfl (by kernel_rfl) (fun _ => by kernel_rfl) (by first | trivial | (simp [conj]; done) | (simp [conj] at *; (try dsimp only [Ty.den, Ty.dflt] at *); omega)) ?_
    refine sw_ret ⟨.inl rfl, _, rfl, ?_⟩
    simp only [hv]
    simp [conj, maxL]
    try dsimp only [Ty.den, Ty.dflt]
    try simp only [rd_eta]
    repeat' apply And.intro
    all_goals first | rfl | assumption | omega | trivial
  · skip
    replace c1 : mokV m = true := by have h : (!mokV m) = false := c1; simpa using h
    refine sw_skip ?_
    refine sw_seq ?_
    refine sw_region hP 3 [] rfl (by kernel_rfl) (fun _ => by kernel_rfl) ?_ ?_
    · skip
      simp [conj, maxL]
      try dsimp only [Ty.den, Ty.dflt]
      try simp only [rd_eta]
      exact c1
    refine sw_seq ?_
    refine sw_seq ?_
    refine sw_region hP 4 [] rfl (by kernel_rfl) (fun _ => by kernel_rfl) ?_ ?_
    · skip
      simp [conj, maxL]
      try dsimp only [Ty.den, Ty.dflt]
      try simp only [rd_eta]
      exact c1
    refine sw_seq ?_
    refine sw_region hP 5 [] rfl (by kernel_rfl) (fun _ => by kernel_rfl) (by first | trivial | (simp [conj]; done) | (simp [conj] at *; (try dsimp only [Ty.den, Ty.dflt] at *); omega)) ?_
    refine sw_cond rfl (fun c5 => ?_) (fun c5 => ?_)
    · skip
      replace c5 : ¬ ((clCopy frm name) m).2 = 0 := by have h : (!decide (((clCopy frm name) m).2 = 0)) = true := c5; simpa using h
      have hv := thoughtV_no c1 c5
      refine sw_seq ?_
      refine sw_region hP 6 [] rfl (by kernel_rfl) (fun _ => by kernel_rfl) ?_ ?_
      · skip
        simp [conj, maxL]
        try dsimp only [Ty.den, Ty.dflt]
        try simp only [rd_eta]
        exact c1
      refine sw_frz ⟨6, 1, 0⟩ rfl ?_
      refine sw_ret ⟨.inl rfl, _, rfl, ?_⟩
      simp only [hv]
      simp [conj, maxL]
      try dsimp only [Ty.den, Ty.dflt]
      try simp only [rd_eta]
      repeat' apply And.intro
      all_goals first | rfl | assumption | omega | trivial
    · skip
      replace c5 : ((clCopy frm name) m).2 = 0 := by have h : (!decide (((clCopy frm name) m).2 = 0)) = false := c5; simpa using h
      have hv := thoughtV_ok c1 c5
      refine sw_skip ?_
      refine sw_seq ?_
      refine sw_region hP 6 [] rfl (by kernel_rfl) (fun _ => by kernel_rfl) (by first | trivial | (simp [conj]; done) | (simp [conj] at *; (try dsimp only [Ty.den, Ty.dflt] at *); omega)) ?_
      refine sw_frz ⟨4, 1, 0⟩ rfl ?_
      refine sw_ret ⟨.inl rfl, _, rfl, ?_⟩
      simp only [hv]
      simp [conj, maxL]
      try dsimp only [Ty.den, Ty.dflt]
      try simp only [rd_eta]
      repeat' apply And.intro
      all_goals first | rfl | assumption | omega | trivial

def cTWrite : Ctr := ⟨31, [.val true T_Model (.all .b), .clo 32 [(false, .str, pF), (false, TI, pF), (false, .str, pF)]], fun x => mokV x.1 = mokV x.1, fun x => (.tup [(true, [.d T_Model pF (thoughtV (clWrite x.2.1.1 x.2.1.2.1 x.2.1.2.2.1) x.1).1]), (false, [.d TI pF (thoughtV (clWrite x.2.1.1 x.2.1.2.1 x.2.1.2.2.1) x.1).2])], [])⟩
theorem cTWrite_ok : CtrOk Proofs.Try.prog cTWrite := by
  have hP := ((((Prg.none ttok mtok).and cOkI_ok).and cCopyI_ok).and cClWrite_ok)
  refine ctr_of_body hP cTWrite (fn := Proofs.Try.f31) (rts := [.cell 4 25, .tmp 5]) Proofs.Try.func31 rfl (by kernel_rfl) rfl rfl ?_
  rintro ⟨(m : List Shf), ⟨(name : Str), (block : Int), (text : Str), ⟨⟩⟩, ⟨⟩⟩ _ hpr
  try dsimp only [Ty.den, Mode.den, mdens] at hpr
  refine ⟨rfl, ?_⟩
  refine sw_seq ?_
  refine sw_region hP 1 [] rfl (by kernel_rfl) (fun _ => by kernel_rfl) (by first | trivial | (simp [conj]; done) | (simp [conj] at *; (try dsimp only [Ty.den, Ty.dflt] at *); omega)) ?_
  refine sw_seq ?_
  refine sw_seq ?_
  refine sw_region hP 2 [] rfl (by kernel_rfl) (fun _ => by kernel_rfl) (by first | trivial | (simp [conj]; done) | (simp [conj] at *; (try dsimp only [Ty.den, Ty.dflt] at *); omega)) ?_
  refine sw_cond rfl (fun c1 => ?_) (fun c1 => ?_)
  · skip
    replace c1 : mokV m = false := by have h : (!mokV m) = true := c1; simpa using h
    have hv := thoughtV_bad (cl := clWrite name block text) c1
    refine sw_seq ?_
    refine sw_region hP 3 [] rfl (by kernel_rfl) (fun _ => by kernel_rfl) (by first | trivial | (simp [conj]; done) | (simp [conj] at *; (try dsimp only [Ty.den, Ty.dflt] at *); omega)) ?_
    refine sw_ret ⟨.inl rfl, _, rfl, ?_⟩
    simp only [hv]
    simp [conj, maxL]
    try dsimp only [Ty.den, Ty.dflt]
    try simp only [rd_eta]
    repeat' apply And.intro
    all_goals first | rfl | assumption | omega | trivial
  · skip
    replace c1 : mokV m = true := by have h : (!mokV m) = false := c1; simpa using h
    refine sw_skip ?_
    refine sw_seq ?_
    refine sw_region hP 3 [] rfl (by kernel_rfl) (fun _ => by kernel_rfl) ?_ ?_
    · skip
      simp [conj, maxL]
      try dsimp only [Ty.den, Ty.dflt]
      try simp only [rd_eta]
      exact c1
    refine sw_seq ?_
    refine sw_seq ?_
    refine sw_region hP 4 [] rfl (by kernel_rfl) (fun _ => by kernel_rfl) ?_ ?_
    · skip
      simp [conj, maxL]
      try dsimp only [Ty.den, Ty.dflt]
      try simp only [rd_eta]
      exact c1
    refine sw_seq ?_
    refine sw_region hP 5 [] rfl (by kernel_rfl) (fun _ => by kernel_rfl) (by first | trivial | (simp [conj]; done) | (simp [conj] at *; (try dsimp only [Ty.den, Ty.dflt] at *); omega)) ?_
    refine sw_cond rfl (fun c5 => ?_) (fun c5 => ?_)
    · skip
      replace c5 : ¬ ((clWrite name block text) m).2 = 0 := by have h : (!decide (((clWrite name block text) m).2 = 0)) = true := c5; simpa using h
      have hv := thoughtV_no c1 c5
      refine sw_seq ?_
      refine sw_region hP 6 [] rfl (by kernel_rfl) (fun _ => by kernel_rfl) ?_ ?_
      · skip
        simp [conj, maxL]
        try dsimp only [Ty.den, Ty.dflt]
        try simp only [rd_eta]
        exact c1
      refine sw_frz ⟨6, 1, 0⟩ rfl ?_
      refine sw_ret ⟨.inl rfl, _, rfl, ?_⟩
      simp only [hv]
      simp [conj, maxL]
      try dsimp only [Ty.den, Ty.dflt]
      try simp only [rd_eta]
      repeat' apply And.intro
      all_goals first | rfl | assumption | omega | trivial
    · skip
      replace c5 : ((clWrite name block text) m).2 = 0 := by have h : (!decide (((clWrite name block text) m).2 = 0)) = false := c5; simpa using h
      have hv := thoughtV_ok c1 c5
      refine sw_skip ?_
      refine sw_seq ?_
      refine sw_region hP 6 [] rfl (by kernel_rfl) (fun _ => by kernel_rfl) (by first | trivial | (simp [conj]; done) | (simp [conj] at *; (try dsimp only [Ty.den, Ty.dflt] at *); omega)) ?_
      refine sw_frz ⟨4, 1, 0⟩ rfl ?_
      refine sw_ret ⟨.inl rfl, _, rfl, ?_⟩
      simp only [hv]
      simp [conj, maxL]
      try dsimp only [Ty.den, Ty.dflt]
      try simp only [rd_eta]
      repeat' apply And.intro
      all_goals first | rfl | assumption | omega | trivial

def cTRead : Ctr := ⟨31, [.val true T_Model (.all .b), .clo 35 [(false, .str, pF), (false, TI, pF), (true, .str, pF)]], fun x => (x.2.1.2.2.1 : Str) = [], fun x => (.tup [(true, [.d T_Model pF (thoughtV (clRead x.2.1.1 x.2.1.2.1) x.1).1]), (false, [.d TI pF (thoughtV (clRead x.2.1.1 x.2.1.2.1) x.1).2])], [(⟨0, 1, 192⟩, .var [.d .str pF (rdT x.1 x.2.1.1 x.2.1.2.1)])])⟩
theorem cTRead_ok : CtrOk Proofs.Try.prog cTRead := by
  have hP := ((((Prg.none ttok mtok).and cOkI_ok).and cCopyI_ok).and cClRead_ok)
  refine ctr_of_body hP cTRead (fn := Proofs.Try.f31) (rts := [.cell 4 25, .tmp 5]) Proofs.Try.func31 rfl (by kernel_rfl) rfl rfl ?_
  rintro ⟨(m : List Shf), ⟨(name : Str), (block : Int), (text : Str), ⟨⟩⟩, ⟨⟩⟩ _ hpr
  try dsimp only [Ty.den, Mode.den, mdens] at hpr
  refine ⟨rfl, ?_⟩
  replace hpr : text = [] := hpr
  refine sw_seq ?_
  refine sw_region hP 1 [] rfl (by kernel_rfl) (fun _ => by kernel_rfl) (by first | trivial | (simp [conj]; done) | (simp [conj] at *; (try dsimp only [Ty.den, Ty.dflt] at *); omega)) ?_
  refine sw_seq ?_
  refine sw_seq ?_
  refine sw_region hP 2 [] rfl (by kernel_rfl) (fun _ => by kernel_rfl) (by first | trivial | (simp [conj]; done) | (simp [conj] at *; (try dsimp only [Ty.den, Ty.dflt] at *); omega)) ?_
  refine sw_cond rfl (fun c1 => ?_) (fun c1 => ?_)
  · skip
    replace c1 : mokV m = false := by have h : (!mokV m) = true := c1; simpa using h
    have hv := thoughtV_bad (cl := clRead name block) c1
    have hr := rdT_bad (name := name) (block := block) c1
    refine sw_seq ?_
    refine sw_region hP 3 [] rfl (by kernel_rfl) (fun _ => by kernel_rfl) (by first | trivial | (simp [conj]; done) | (simp [conj] at *; (try dsimp only [Ty.den, Ty.dflt] at *); omega)) ?_
    refine sw_ret ⟨.inl rfl, _, rfl, ?_⟩
    simp only [hv, hr]
    simp [conj, maxL]
    try dsimp only [Ty.den, Ty.dflt]
    try simp only [rd_eta]
    repeat' apply And.intro
    all_goals first | rfl | assumption | omega | trivial | exact hpr
  · skip
    replace c1 : mokV m = true := by have h : (!mokV m) = false := c1; simpa using h
    have hr := rdT_ok (name := name) (block := block) c1
    refine sw_skip ?_
    refine sw_seq ?_
    refine sw_region hP 3 [] rfl (by kernel_rfl) (fun _ => by kernel_rfl) ?_ ?_
    · skip
      simp [conj, maxL]
      try dsimp only [Ty.den, Ty.dflt]
      try simp only [rd_eta]
      exact c1
    refine sw_seq ?_
    refine sw_seq ?_
    refine sw_region hP 4 [] rfl (by kernel_rfl) (fun _ => by kernel_rfl) ?_ ?_
    · skip
      simp [conj, maxL]
      try dsimp only [Ty.den, Ty.dflt]
      try simp only [rd_eta]
      exact ⟨c1, hpr⟩
    refine sw_seq ?_
    refine sw_region hP 5 [] rfl (by kernel_rfl) (fun _ => by kernel_rfl) (by first | trivial | (simp [conj]; done) | (simp [conj] at *; (try dsimp only [Ty.den, Ty.dflt] at *); omega)) ?_
    refine sw_cond rfl (fun c5 => ?_) (fun c5 => ?_)
    · skip
      replace c5 : ¬ ((clRead name block) m).2 = 0 := by have h : (!decide (((clRead name block) m).2 = 0)) = true := c5; simpa using h
      have hv := thoughtV_no c1 c5
      refine sw_seq ?_
      refine sw_region hP 6 [] rfl (by kernel_rfl) (fun _ => by kernel_rfl) ?_ ?_
      · skip
        simp [conj, maxL]
        try dsimp only [Ty.den, Ty.dflt]
        try simp only [rd_eta]
        exact c1
      refine sw_frz ⟨6, 1, 0⟩ rfl ?_
      refine sw_ret ⟨.inl rfl, _, rfl, ?_⟩
      simp only [hv, hr]
      simp [conj, maxL]
      try dsimp only [Ty.den, Ty.dflt]
      try simp only [rd_eta]
      repeat' apply And.intro
      all_goals first | rfl | assumption | omega | trivial | exact hpr
    · skip
      replace c5 : ((clRead name block) m).2 = 0 := by have h : (!decide (((clRead name block) m).2 = 0)) = false := c5; simpa using h
      have hv := thoughtV_ok c1 c5
      refine sw_skip ?_
      refine sw_seq ?_
      refine sw_region hP 6 [] rfl (by kernel_rfl) (fun _ => by kernel_rfl) (by first | trivial | (simp [conj]; done) | (simp [conj] at *; (try dsimp only [Ty.den, Ty.dflt] at *); omega)) ?_
      refine sw_frz ⟨4, 1, 0⟩ rfl ?_
      refine sw_ret ⟨.inl rfl, _, rfl, ?_⟩
      simp only [hv, hr]
      simp [conj, maxL]
      try dsimp only [Ty.den, Ty.dflt]
      try simp only [rd_eta]
      repeat' apply And.intro
      all_goals first | rfl | assumption | omega | trivial | exact hpr

def cIMake : Ctr := ⟨18, [.val true T_Model (.all .b), .val false .str pF], fun _ => True, fun x => (.tup [(true, [.d T_Model pF (thoughtV (clMake x.2.1) x.1).1]), (false, [.d TI pF (thoughtV (clMake x.2.1) x.1).2])], [])⟩
theorem cIMake_ok : CtrOk Proofs.Try.prog cIMake := by
  have hP := ((Prg.none ttok mtok).and cTMake_ok)
  refine ctr_of_body hP cIMake (fn := Proofs.Try.f18) (rts := [.cell 4 25, .tmp 5]) Proofs.Try.func18 rfl (by kernel_rfl) rfl rfl ?_
  rintro ⟨(m : List Shf), (name : Str), ⟨⟩⟩ _ hpre
  try dsimp only [Ty.den, Mode.den, mdens] at hpre
  refine ⟨rfl, ?_⟩
  refine sw_seq ?_
  refine sw_region hP 1 [] rfl (by kernel_rfl) (fun _ => by kernel_rfl) (by first | trivial | (simp [conj]; done) | (simp [conj] at *; (try dsimp only [Ty.den, Ty.dflt] at *); omega)) ?_
  refine sw_seq ?_
  refine sw_region hP 2 [] rfl (by kernel_rfl) (fun _ => by kernel_rfl) ?_ ?_
  · skip
    exact rfl
  refine sw_ret ⟨.inl rfl, _, rfl, ?_⟩
  simp [conj, maxL]
  try dsimp only [Ty.den, Ty.dflt]
  try simp only [rd_eta]
  repeat' apply And.intro
  all_goals first | rfl | assumption | omega | trivial

def cIDrop : Ctr := ⟨15, [.val true T_Model (.all .b), .val false .str pF], fun _ => True, fun x => (.tup [(true, [.d T_Model pF (thoughtV (clDrop x.2.1) x.1).1]), (false, [.d TI pF (thoughtV (clDrop x.2.1) x.1).2])], [])⟩
theorem cIDrop_ok : CtrOk Proofs.Try.prog cIDrop := by
  have hP := ((Prg.none ttok mtok).and cTDrop_ok)
  refine ctr_of_body hP cIDrop (fn := Proofs.Try.f15) (rts := [.cell 4 25, .tmp 5]) Proofs.Try.func15 rfl (by kernel_rfl) rfl rfl ?_
  rintro ⟨(m : List Shf), (name : Str), ⟨⟩⟩ _ hpre
  try dsimp only [Ty.den, Mode.den, mdens] at hpre
  refine ⟨rfl, ?_⟩
  refine sw_seq ?_
  refine sw_region hP 1 [] rfl (by kernel_rfl) (fun _ => by kernel_rfl) (by first | trivial | (simp [conj]; done) | (simp [conj] at *; (try dsimp only [Ty.den, Ty.dflt] at *); omega)) ?_
  refine sw_seq ?_
  refine sw_region hP 2 [] rfl (by kernel_rfl) (fun _ => by kernel_rfl) ?_ ?_
  · skip
    exact rfl
  refine sw_ret ⟨.inl rfl, _, rfl, ?_⟩
  simp [conj, maxL]
  try dsimp only [Ty.den, Ty.dflt]
  try simp only [rd_eta]
  repeat' apply And.intro
  all_goals first | rfl | assumption | omega | trivial

def cICopy : Ctr := ⟨21, [.val true T_Model (.all .b), .val false .str pF, .val false .str pF], fun _ => True, fun x => (.tup [(true, [.d T_Model pF (thoughtV (clCopy x.2.1 x.2.2.1) x.1).1]), (false, [.d TI pF (thoughtV (clCopy x.2.1 x.2.2.1) x.1).2])], [])⟩
theorem cICopy_ok : CtrOk Proofs.Try.prog cICopy := by
  have hP := ((Prg.none ttok mtok).and cTCopy_ok)
  refine ctr_of_body hP cICopy (fn := Proofs.Try.f21) (rts := [.cell 6 25, .tmp 7]) Proofs.Try.func21 rfl (by kernel_rfl) rfl rfl ?_
  rintro ⟨(m : List Shf), (frm : Str), (name : Str), ⟨⟩⟩ _ hpre
  try dsimp only [Ty.den, Mode.den, mdens] at hpre
  refine ⟨rfl, ?_⟩
  refine sw_seq ?_
  refine sw_region hP 1 [] rfl (by kernel_rfl) (fun _ => by kernel_rfl) (by first | trivial | (simp [conj]; done) | (simp [conj] at *; (try dsimp only [Ty.den, Ty.dflt] at *); omega)) ?_
  refine sw_seq ?_
  refine sw_region hP 2 [] rfl (by kernel_rfl) (fun _ => by kernel_rfl) ?_ ?_
  · skip
    exact rfl
  refine sw_ret ⟨.inl rfl, _, rfl, ?_⟩
  simp [conj, maxL]
  try dsimp only [Ty.den, Ty.dflt]
  try simp only [rd_eta]
  repeat' apply And.intro
  all_goals first | rfl | assumption | omega | trivial

def cIWrite : Ctr := ⟨9, [.val true T_Model (.all .b), .val false .str pF, .val false TI pF, .val false .str pF], fun _ => True, fun x => (.tup [(true, [.d T_Model pF (thoughtV (clWrite x.2.1 x.2.2.1 x.2.2.2.1) x.1).1]), (false, [.d TI pF (thoughtV (clWrite x.2.1 x.2.2.1 x.2.2.2.1) x.1).2])], [])⟩
theorem cIWrite_ok : CtrOk Proofs.Try.prog cIWrite := by
  have hP := ((Prg.none ttok mtok).and cTWrite_ok)
  refine ctr_of_body hP cIWrite (fn := Proofs.Try.f9) (rts := [.cell 8 25, .tmp 9]) Proofs.Try.func9 rfl (by kernel_rfl) rfl rfl ?_
  rintro ⟨(m : List Shf), (name : Str), (block : Int), (text : Str), ⟨⟩⟩ _ hpre
  try dsimp only [Ty.den, Mode.den, mdens] at hpre
  refine ⟨rfl, ?_⟩
  refine sw_seq ?_
  refine sw_region hP 1 [] rfl (by kernel_rfl) (fun _ => by kernel_rfl) (by first | trivial | (simp [conj]; done) | (simp [conj] at *; (try dsimp only [Ty.den, Ty.dflt] at *); omega)) ?_
  refine sw_seq ?_
  refine sw_region hP 2 [] rfl (by kernel_rfl) (fun _ => by kernel_rfl) ?_ ?_
  · skip
    exact rfl
  refine sw_ret ⟨.inl rfl, _, rfl, ?_⟩
  simp [conj, maxL]
  try dsimp only [Ty.den, Ty.dflt]
  try simp only [rd_eta]
  repeat' apply And.intro
  all_goals first | rfl | assumption | omega | trivial

def cIRead : Ctr := ⟨11, [.val true T_Model (.all .b), .val false .str pF, .val false TI pF], fun _ => True, fun x => (.tup [(false, [.d .str pF (readV x.1 x.2.1 x.2.2.1).1]), (false, [.d TI pF (readV x.1 x.2.1 x.2.2.1).2])], [])⟩
theorem cIRead_ok : CtrOk Proofs.Try.prog cIRead := by
  have hP := ((Prg.none ttok mtok).and cTRead_ok)
  refine ctr_of_body hP cIRead (fn := Proofs.Try.f11) (rts := [.tmp 6, .tmp 7]) Proofs.Try.func11 rfl (by kernel_rfl) rfl rfl ?_
  rintro ⟨(m : List Shf), (name : Str), (block : Int), ⟨⟩⟩ _ hpre
  try dsimp only [Ty.den, Mode.den, mdens] at hpre
  refine ⟨rfl, ?_⟩
  have hv := readV_eq (m := m) (name := name) (block := block)
  refine sw_seq ?_
  refine sw_region hP 1 [] rfl (by kernel_rfl) (fun _ => by kernel_rfl) (by first | trivial | (simp [conj]; done) | (simp [conj] at *; (try dsimp only [Ty.den, Ty.dflt] at *); omega)) ?_
  refine sw_seq ?_
  refine sw_region hP 2 [] rfl (by kernel_rfl) (fun _ => by kernel_rfl) (by first | trivial | (simp [conj]; done) | (simp [conj] at *; (try dsimp only [Ty.den, Ty.dflt] at *); omega)) ?_
  refine sw_seq ?_
  refine sw_region hP 3 [] rfl (by kernel_rfl) (fun _ => by kernel_rfl) ?_ ?_
  · skip
    simp [conj, maxL]
    try dsimp only [Ty.den, Ty.dflt]
    try simp only [rd_eta]
    first | rfl | exact trivial
  refine sw_seq ?_
  refine sw_region hP 4 [] rfl (by kernel_rfl) (fun _ => by kernel_rfl) (by first | trivial | (simp [conj]; done) | (simp [conj] at *; (try dsimp only [Ty.den, Ty.dflt] at *); omega)) ?_
  refine sw_ret ⟨.inl rfl, _, rfl, ?_⟩
  simp only [hv]
  simp [conj, maxL]
  try dsimp only [Ty.den, Ty.dflt]
  try simp only [rd_eta]
  repeat' apply And.intro
  all_goals first | rfl | assumption | omega | trivial
end Go.Sx
