import Derived.Test.YtoedlonlndafmaaME3
set_option linter.all false
namespace Go.Sx
open Go
set_option maxRecDepth 100000
set_option linter.unusedVariables false
set_option linter.unusedSimpArgs false

def cAddO : Ctr := ⟨34, [.ref T_Model (.all .w), .val false .str pF, .val false (.sl .str) (.all .b)], fun x => mokV x.1 = true ∧ List.length x.2.2.1 ≤ 1000,
  fun x => (sInt .i64 (addI x.1 x.2.1 x.2.2.1).2, [(⟨0, 0, 0⟩, .var [.own ⟨1, 0, 0⟩]), (⟨1, 0, 0⟩, .sl T_Shelf (.all .w) (addI x.1 x.2.1 x.2.2.1).1)])⟩
theorem cAddO_ok : CtrOk Proofs.Try.prog cAddO := by
  have hP := ((((Prg.none ttok mtok).and cIndex_ok).and cVol_ok).and cCloneO_ok)
  refine ctr_of_body hP cAddO (fn := Proofs.Try.f34) (rts := [.tmp 6]) Proofs.Try.func34 rfl (by kernel_rfl) rfl rfl ?_
  rintro ⟨(m : List Shf), (name : Str), (l : List Str), ⟨⟩⟩ _ ⟨hm, hl⟩
  try dsimp only [Ty.den, Mode.den, mdens] at hm
  try dsimp only [Ty.den, Mode.den, mdens] at hl
  refine ⟨rfl, ?_⟩
  have h4 : m.length ≤ 4 := mok_len4 hm
  refine sw_seq ?_
  refine sw_region hP 1 [] rfl (by kernel_rfl) (fun _ => by kernel_rfl) (by first | trivial | (simp [conj]; done) | (simp [conj] at *; (try dsimp only [Ty.den, Ty.dflt] at *); omega)) ?_
  refine sw_seq ?_
  refine sw_region hP 2 [] rfl (by kernel_rfl) (fun _ => by kernel_rfl) (by first | trivial | (simp [conj]; done) | (simp [conj] at *; (try dsimp only [Ty.den, Ty.dflt] at *); omega)) ?_
  refine sw_seq ?_
  refine sw_block ?_
  refine sw_seq ?_
  refine sw_dec hP 3 [] 1 rfl (fun g2_1 => ?_) (fun g2_1 => ?_)
  · skip
    have hs : (mget .str (idxV m) name).isSome = true := g2_1
    replace g2_1 := hs
    rw [idx_isSome hm] at g2_1
    replace g2_1 : 0 ≤ findV m name := of_decide_eq_true g2_1
    have hv := addI_there (l := l) g2_1
    refine sw_region hP 3 [(1, true)] rfl (by kernel_rfl) (fun _ => by kernel_rfl) ?_ ?_
    · skip
      simp [conj, maxL]
      try dsimp only [Ty.den, Ty.dflt]
      try simp only [rd_eta]
      exact hs
    refine sw_condT rfl ?_
    refine sw_seq ?_
    refine sw_region hP 4 [] rfl (by kernel_rfl) (fun _ => by kernel_rfl) (by first | trivial | (simp [conj]; done) | (simp [conj] at *; (try dsimp only [Ty.den, Ty.dflt] at *); omega)) ?_
    refine sw_ret ⟨.inl rfl, _, rfl, ?_⟩
    simp only [hv]
    simp [conj, maxL]
    try dsimp only [Ty.den, Ty.dflt]
    try simp only [rd_eta]
    repeat' apply And.intro
    all_goals first | rfl | assumption | omega
  · skip
    replace g2_1 : (mget .str (idxV m) name).isSome = false := g2_1
    rw [idx_isSome hm] at g2_1
    replace g2_1 : ¬ 0 ≤ findV m name := of_decide_eq_false g2_1
    refine sw_region hP 3 [(1, false)] rfl (by kernel_rfl) (fun _ => by kernel_rfl) ?_ ?_
    · skip
      simp [conj, maxL]
      try dsimp only [Ty.den, Ty.dflt]
      try simp only [rd_eta]
      exact ⟨idx_none g2_1, trivial⟩
    refine sw_cond rfl (fun c2 => ?_) (fun c2 => ?_)
    · skip
      replace c2 : nameV name = false := by simpa using c2
      have hv := addI_bad (l := l) (m := m) c2
      refine sw_seq ?_
      refine sw_region hP 4 [] rfl (by kernel_rfl) (fun _ => by kernel_rfl) (by first | trivial | (simp [conj]; done) | (simp [conj] at *; (try dsimp only [Ty.den, Ty.dflt] at *); omega)) ?_
      refine sw_ret ⟨.inl rfl, _, rfl, ?_⟩
      simp only [hv]
      simp [conj, maxL]
      try dsimp only [Ty.den, Ty.dflt]
      try simp only [rd_eta]
      repeat' apply And.intro
      all_goals first | rfl | assumption | omega
    · skip
      replace c2 : nameV name = true := by simpa using c2
      refine sw_seq ?_
      refine sw_region hP 4 [] rfl (by kernel_rfl) (fun _ => by kernel_rfl) (by first | trivial | (simp [conj]; done) | (simp [conj] at *; (try dsimp only [Ty.den, Ty.dflt] at *); omega)) ?_
      refine sw_cond rfl (fun c4 => ?_) (fun c4 => ?_)
      · skip
        replace c4 : m.length = 4 := by have h : ((m.length : Nat) : Int) = 4 := of_decide_eq_true c4; omega
        have hv := addI_full (l := l) g2_1 c2 c4
        refine sw_seq ?_
        refine sw_region hP 5 [] rfl (by kernel_rfl) (fun _ => by kernel_rfl) (by first | trivial | (simp [conj]; done) | (simp [conj] at *; (try dsimp only [Ty.den, Ty.dflt] at *); omega)) ?_
        refine sw_ret ⟨.inl rfl, _, rfl, ?_⟩
        simp only [hv]
        simp [conj, maxL]
        try dsimp only [Ty.den, Ty.dflt]
        try simp only [rd_eta]
        repeat' apply And.intro
        all_goals first | rfl | assumption | omega
      · skip
        replace c4 : ¬ m.length = 4 := by have h : ¬ ((m.length : Nat) : Int) = 4 := of_decide_eq_false c4; omega
        have hv := addI_ok (l := l) g2_1 c2 c4
        refine sw_skip ?_
        refine sw_seq ?_
        refine sw_region hP 5 [] rfl (by kernel_rfl) (fun _ => by kernel_rfl) ?_ ?_
        · skip
          simp [conj, maxL]
          try dsimp only [Ty.den, Ty.dflt]
          try simp only [rd_eta]
          refine ⟨?_, by omega⟩
          show l.length ≤ 1099511627776
          omega
        refine sw_seq ?_
        refine sw_region hP 6 [] rfl (by kernel_rfl) (fun _ => by kernel_rfl) (by first | trivial | (simp [conj]; done) | (simp [conj] at *; (try dsimp only [Ty.den, Ty.dflt] at *); omega)) ?_
        refine sw_ret ⟨.inl rfl, _, rfl, ?_⟩
        simp only [hv]
        simp [conj, maxL]
        try dsimp only [Ty.den, Ty.dflt]
        try simp only [rd_eta]
        repeat' apply And.intro
        all_goals first | rfl | assumption | omega

def cClMake : Ctr := ⟨33, [.ref T_Model (.all .w), .rp .str pF], fun x => mokV x.1 = true, fun x => (sInt .i64 (clMake x.2.1 x.1).2, [(⟨0, 0, 0⟩, .var [.own ⟨1, 0, 0⟩]), (⟨1, 0, 0⟩, .sl T_Shelf (.all .w) (clMake x.2.1 x.1).1)])⟩
theorem cClMake_ok : CtrOk Proofs.Try.prog cClMake := by
  have hP := ((Prg.none ttok mtok).and cAddO_ok)
  refine ctr_of_body hP cClMake (fn := Proofs.Try.f33) (rts := [.tmp 3]) Proofs.Try.func33 rfl (by kernel_rfl) rfl rfl ?_
  rintro ⟨(m : List Shf), (name : Str), ⟨⟩⟩ _ hpre
  try dsimp only [Ty.den, Mode.den, mdens] at hpre
  refine ⟨rfl, ?_⟩
  refine sw_seq ?_
  refine sw_region hP 1 [] rfl (by kernel_rfl) (fun _ => by kernel_rfl) (by first | trivial | (simp [conj]; done) | (simp [conj] at *; (try dsimp only [Ty.den, Ty.dflt] at *); omega)) ?_
  refine sw_seq ?_
  refine sw_region hP 2 [] rfl (by kernel_rfl) (fun _ => by kernel_rfl) ?_ ?_
  · skip
    simp [conj, maxL]
    try dsimp only [Ty.den, Ty.dflt]
    try simp only [rd_eta]
    exact ⟨hpre, by simp⟩
  refine sw_ret ⟨.inl rfl, _, rfl, ?_⟩
  simp [conj, maxL]
  try dsimp only [Ty.den, Ty.dflt]
  try simp only [rd_eta]
  repeat' apply And.intro
  all_goals first | rfl | assumption | omega

def cTMake : Ctr := ⟨25, [.val true T_Model (.all .b), .clo 33 [(false, .str, pF)]], fun x => mokV x.1 = mokV x.1, fun x => (.tup [(true, [.own ⟨1, 0, 0⟩]), (false, [.d TI pF (thoughtV (clMake x.2.1.1) x.1).2])], [(⟨1, 0, 0⟩, .sl T_Shelf (.all .w) (thoughtV (clMake x.2.1.1) x.1).1)])⟩

theorem cTMake_ok : CtrOk Proofs.Try.prog cTMake := by
  have hP := ((((Prg.none ttok mtok).and cOkI_ok).and cCopyI_ok).and cClMake_ok)
  refine ctr_of_body hP cTMake (fn := Proofs.Try.f25) (rts := [.cell 4 28, .tmp 5]) Proofs.Try.func25 rfl (by kernel_rfl) rfl rfl ?_
  rintro ⟨(m : List Shf), ⟨(name : Str), ⟨⟩⟩, ⟨⟩⟩ _ hpr
  try dsimp only [Ty.den, Mode.den, mdens] at hpr
  refine ⟨rfl, ?_⟩
  refine sw_seq ?_
  refine sw_region hP 1 [] rfl (by kernel_rfl) (fun _ => by kernel_rfl) (by first | trivial | (simp [conj]; done) | (simp [conj] at *; (try dsimp only [Ty.den, Ty.dflt] at *); omega)) ?_
  refine sw_seq ?_
  refine sw_seq ?_
  refine sw_region hP 2 [] rfl (by kernel_rfl) (fun _ => by kernel_rfl) (by first | trivial | (simp [conj]; done) | (simp [conj] at *; (try dsimp only [Ty.den, Ty.dflt] at *); omega)) ?_
  refine sw_cond rfl (fun c1 => ?_) (fun c1 => ?_)
  · skip
    replace c1 : mokV m = false := by have h : (!mokV m) = true := c1; simpa using h
    have hv := thoughtV_bad (cl := clMake name) c1
    refine sw_seq ?_
    refine sw_region hP 3 [] rfl (by kernel_rfl) (fun _ => by kernel_rfl) (by first | trivial | (simp [conj]; done) | (simp [conj] at *; (try dsimp only [Ty.den, Ty.dflt] at *); omega)) ?_
    refine sw_ret ⟨.inl rfl, _, rfl, ?_⟩
    simp only [hv]
    simp [conj, maxL]
    try dsimp only [Ty.den, Ty.dflt]
    try simp only [rd_eta]
    repeat' apply And.intro
    all_goals first | rfl | assumption | omega | trivial
  · skip
    replace c1 : mokV m = true := by have h : (!mokV m) = false := c1; simpa using h
    refine sw_skip ?_
    refine sw_seq ?_
    refine sw_region hP 3 [] rfl (by kernel_rfl) (fun _ => by kernel_rfl) ?_ ?_
    · skip
      simp [conj, maxL]
      try dsimp only [Ty.den, Ty.dflt]
      try simp only [rd_eta]
      exact c1
    refine sw_seq ?_
    refine sw_seq ?_
    refine sw_region hP 4 [] rfl (by kernel_rfl) (fun _ => by kernel_rfl) ?_ ?_
    · skip
      simp [conj, maxL]
      try dsimp only [Ty.den, Ty.dflt]
      try simp only [rd_eta]
      exact c1
    refine sw_seq ?_
    refine sw_region hP 5 [] rfl (by kernel_rfl) (fun _ => by kernel_rfl) (by first | trivial | (simp [conj]; done) | (simp [conj] at *; (try dsimp only [Ty.den, Ty.dflt] at *); omega)) ?_
    refine sw_cond rfl (fun c5 => ?_) (fun c5 => ?_)
    · skip
      replace c5 : ¬ ((clMake name) m).2 = 0 := by have h : (!decide (((clMake name) m).2 = 0)) = true := c5; simpa using h
      have hv := thoughtV_no c1 c5
      refine sw_seq ?_
      refine sw_region hP 6 [] rfl (by kernel_rfl) (fun _ => by kernel_rfl) ?_ ?_
      · skip
        simp [conj, maxL]
        try dsimp only [Ty.den, Ty.dflt]
        try simp only [rd_eta]
        exact c1
      refine sw_ret ⟨.inl rfl, _, rfl, ?_⟩
      simp only [hv]
      simp [conj, maxL]
      try dsimp only [Ty.den, Ty.dflt]
      try simp only [rd_eta]
      repeat' apply And.intro
      all_goals first | rfl | assumption | omega | trivial
    · skip
      replace c5 : ((clMake name) m).2 = 0 := by have h : (!decide (((clMake name) m).2 = 0)) = false := c5; simpa using h
      have hv := thoughtV_ok c1 c5
      refine sw_skip ?_
      refine sw_seq ?_
      refine sw_region hP 6 [] rfl (by kernel_rfl) (fun _ => by kernel_rfl) (by first | trivial | (simp [conj]; done) | (simp [conj] at *; (try dsimp only [Ty.den, Ty.dflt] at *); omega)) ?_
      refine sw_ret ⟨.inl rfl, _, rfl, ?_⟩
      simp only [hv]
      simp [conj, maxL]
      try dsimp only [Ty.den, Ty.dflt]
      try simp only [rd_eta]
      repeat' apply And.intro
      all_goals first | rfl | assumption | omega | trivial

def cTDrop : Ctr := ⟨25, [.val true T_Model (.all .b), .clo 26 [(false, .str, pF)]], fun x => mokV x.1 = mokV x.1, fun x => (.tup [(true, [.own ⟨1, 0, 0⟩]), (false, [.d TI pF (thoughtV (clDrop x.2.1.1) x.1).2])], [(⟨1, 0, 0⟩, .sl T_Shelf (.all .w) (thoughtV (clDrop x.2.1.1) x.1).1)])⟩

theorem cTDrop_ok : CtrOk Proofs.Try.prog cTDrop := by
  have hP := ((((Prg.none ttok mtok).and cOkI_ok).and cCopyI_ok).and cClDrop_ok)
  refine ctr_of_body hP cTDrop (fn := Proofs.Try.f25) (rts := [.cell 4 28, .tmp 5]) Proofs.Try.func25 rfl (by kernel_rfl) rfl rfl ?_
  rintro ⟨(m : List Shf), ⟨(name : Str), ⟨⟩⟩, ⟨⟩⟩ _ hpr
  try dsimp only [Ty.den, Mode.den, mdens] at hpr
  refine ⟨rfl, ?_⟩
  refine sw_seq ?_
  refine sw_region hP 1 [] rfl (by kernel_rfl) (fun _ => by kernel_rfl) (by first | trivial | (simp [conj]; done) | (simp [conj] at *; (try dsimp only [Ty.den, Ty.dflt] at *); omega)) ?_
  refine sw_seq ?_
  refine sw_seq ?_
  refine sw_region hP 2 [] rfl (by kernel_rfl) (fun _ => by kernel_rfl) (by first | trivial | (simp [conj]; done) | (simp [conj] at *; (try dsimp only [Ty.den, Ty.dflt] at *); omega)) ?_
  refine sw_cond rfl (fun c1 => ?_) (fun c1 => ?_)
  · skip
    replace c1 : mokV m = false := by have h : (!mokV m) = true := c1; simpa using h
    have hv := thoughtV_bad (cl := clDrop name) c1
    refine sw_seq ?_
    refine sw_region hP 3 [] rfl (by kernel_rfl) (fun _ => by kernel_rfl) (by first | trivial | (simp [conj]; done) | (simp [conj] at *; (try dsimp only [Ty.den, Ty.dflt] at *); omega)) ?_
    refine sw_ret ⟨.inl rfl, _, rfl, ?_⟩
    simp only [hv]
    simp [conj, maxL]
    try dsimp only [Ty.den, Ty.dflt]
    try simp only [rd_eta]
    repeat' apply And.intro
    all_goals first | rfl | assumption | omega | trivial
  · skip
    replace c1 : mokV m = true := by have h : (!mokV m) = false := c1; simpa using h
    refine sw_skip ?_
    refine sw_seq ?_
    refine sw_region hP 3 [] rfl (by kernel_rfl) (fun _ => by kernel_rfl) ?_ ?_
    · skip
      simp [conj, maxL]
      try dsimp only [Ty.den, Ty.dflt]
      try simp only [rd_eta]
      exact c1
    refine sw_seq ?_
    refine sw_seq ?_
    refine sw_region hP 4 [] rfl (by kernel_rfl) (fun _ => by kernel_rfl) ?_ ?_
    · skip
      simp [conj, maxL]
      try dsimp only [Ty.den, Ty.dflt]
      try simp only [rd_eta]
      exact c1
    refine sw_seq ?_
    refine sw_region hP 5 [] rfl (by kernel_rfl) (fun _ => by kernel_rfl) (by first | trivial | (simp [conj]; done) | (simp [conj] at *; (try dsimp only [Ty.den, Ty.dflt] at *); omega)) ?_
    refine sw_cond rfl (fun c5 => ?_) (fun c5 => ?_)
    · skip
      replace c5 : ¬ ((clDrop name) m).2 = 0 := by have h : (!decide (((clDrop name) m).2 = 0)) = true := c5; simpa using h
      have hv := thoughtV_no c1 c5
      refine sw_seq ?_
      refine sw_region hP 6 [] rfl (by kernel_rfl) (fun _ => by kernel_rfl) ?_ ?_
      · skip
        simp [conj, maxL]
        try dsimp only [Ty.den, Ty.dflt]
        try simp only [rd_eta]
        exact c1
      refine sw_ret ⟨.inl rfl, _, rfl, ?_⟩
      simp only [hv]
      simp [conj, maxL]
      try dsimp only [Ty.den, Ty.dflt]
      try simp only [rd_eta]
      repeat' apply And.intro
      all_goals first | rfl | assumption | omega | trivial
    · skip
      replace c5 : ((clDrop name) m).2 = 0 := by have h : (!decide (((clDrop name) m).2 = 0)) = false := c5; simpa using h
      have hv := thoughtV_ok c1 c5
      refine sw_skip ?_
      refine sw_seq ?_
      refine sw_region hP 6 [] rfl (by kernel_rfl) (fun _ => by kernel_rfl) (by first | trivial | (simp [conj]; done) | (simp [conj] at *; (try dsimp only [Ty.den, Ty.dflt] at *); omega)) ?_
      refine sw_ret ⟨.inl rfl, _, rfl, ?_⟩
      simp only [hv]
      simp [conj, maxL]
      try dsimp only [Ty.den, Ty.dflt]
      try simp only [rd_eta]
      repeat' apply And.intro
      all_goals first | rfl | assumption | omega | trivial

def cTWrite : Ctr := ⟨25, [.val true T_Model (.all .b), .clo 36 [(false, .str, pF), (false, TI, pF), (false, .str, pF)]], fun x => mokV x.1 = mokV x.1, fun x => (.tup [(true, [.own ⟨1, 0, 0⟩]), (false, [.d TI pF (thoughtV (clWrite x.2.1.1 x.2.1.2.1 x.2.1.2.2.1) x.1).2])], [(⟨1, 0, 0⟩, .sl T_Shelf (.all .w) (thoughtV (clWrite x.2.1.1 x.2.1.2.1 x.2.1.2.2.1) x.1).1)])⟩

theorem cTWrite_ok : CtrOk Proofs.Try.prog cTWrite := by
  have hP := ((((Prg.none ttok mtok).and cOkI_ok).and cCopyI_ok).and cClWrite_ok)
  refine ctr_of_body hP cTWrite (fn := Proofs.Try.f25) (rts := [.cell 4 28, .tmp 5]) Proofs.Try.func25 rfl (by kernel_rfl) rfl rfl ?_
  rintro ⟨(m : List Shf), ⟨(name : Str), (block : Int), (text : Str), ⟨⟩⟩, ⟨⟩⟩ _ hpr
  try dsimp only [Ty.den, Mode.den, mdens] at hpr
  refine ⟨rfl, ?_⟩
  refine sw_seq ?_
  refine sw_region hP 1 [] rfl (by kernel_rfl) (fun _ => by kernel_rfl) (by first | trivial | (simp [conj]; done) | (simp [conj] at *; (try dsimp only [Ty.den, Ty.dflt] at *); omega)) ?_
  refine sw_seq ?_
  refine sw_seq ?_
  refine sw_region hP 2 [] rfl (by kernel_rfl) (fun _ => by kernel_rfl) (by first | trivial | (simp [conj]; done) | (simp [conj] at *; (try dsimp only [Ty.den, Ty.dflt] at *); omega)) ?_
  refine sw_cond rfl (fun c1 => ?_) (fun c1 => ?_)
  · skip
    replace c1 : mokV m = false := by have h : (!mokV m) = true := c1; simpa using h
    have hv := thoughtV_bad (cl := clWrite name block text) c1
    refine sw_seq ?_
    refine sw_region hP 3 [] rfl (by kernel_rfl) (fun _ => by kernel_rfl) (by first | trivial | (simp [conj]; done) | (simp [conj] at *; (try dsimp only [Ty.den, Ty.dflt] at *); omega)) ?_
    refine sw_ret ⟨.inl rfl, _, rfl, ?_⟩
    simp only [hv]
    simp [conj, maxL]
    try dsimp only [Ty.den, Ty.dflt]
    try simp only [rd_eta]
    repeat' apply And.intro
    all_goals first | rfl | assumption | omega | trivial
  · skip
    replace c1 : mokV m = true := by have h : (!mokV m) = false := c1; simpa using h
    refine sw_skip ?_
    refine sw_seq ?_
    refine sw_region hP 3 [] rfl (by kernel_rfl) (fun _ => by kernel_rfl) ?_ ?_
    · skip
      simp [conj, maxL]
      try dsimp only [Ty.den, Ty.dflt]
      try simp only [rd_eta]
      exact c1
    refine sw_seq ?_
    refine sw_seq ?_
    refine sw_region hP 4 [] rfl (by kernel_rfl) (fun _ => by kernel_rfl) ?_ ?_
    · skip
      simp [conj, maxL]
      try dsimp only [Ty.den, Ty.dflt]
      try simp only [rd_eta]
      exact c1
    refine sw_seq ?_
    refine sw_region hP 5 [] rfl (by kernel_rfl) (fun _ => by kernel_rfl) (by first | trivial | (simp [conj]; done) | (simp [conj] at *; (try dsimp only [Ty.den, Ty.dflt] at *); omega)) ?_
    refine sw_cond rfl (fun c5 => ?_) (fun c5 => ?_)
    · skip
      replace c5 : ¬ ((clWrite name block text) m).2 = 0 := by have h : (!decide (((clWrite name block text) m).2 = 0)) = true := c5; simpa using h
      have hv := thoughtV_no c1 c5
      refine sw_seq ?_
      refine sw_region hP 6 [] rfl (by kernel_rfl) (fun _ => by kernel_rfl) ?_ ?_
      · skip
        simp [conj, maxL]
        try dsimp only [Ty.den, Ty.dflt]
        try simp only [rd_eta]
        exact c1
      refine sw_ret ⟨.inl rfl, _, rfl, ?_⟩
      simp only [hv]
      simp [conj, maxL]
      try dsimp only [Ty.den, Ty.dflt]
      try simp only [rd_eta]
      repeat' apply And.intro
      all_goals first | rfl | assumption | omega | trivial
    · skip
      replace c5 : ((clWrite name block text) m).2 = 0 := by have h : (!decide (((clWrite name block text) m).2 = 0)) = false := c5; simpa using h
      have hv := thoughtV_ok c1 c5
      refine sw_skip ?_
      refine sw_seq ?_
      refine sw_region hP 6 [] rfl (by kernel_rfl) (fun _ => by kernel_rfl) (by first | trivial | (simp [conj]; done) | (simp [conj] at *; (try dsimp only [Ty.den, Ty.dflt] at *); omega)) ?_
      refine sw_ret ⟨.inl rfl, _, rfl, ?_⟩
      simp only [hv]
      simp [conj, maxL]
      try dsimp only [Ty.den, Ty.dflt]
      try simp only [rd_eta]
      repeat' apply And.intro
      all_goals first | rfl | assumption | omega | trivial

def cIMake : Ctr := ⟨15, [.val true T_Model (.all .b), .val false .str pF], fun _ => True, fun x => (.tup [(true, [.own ⟨1, 0, 0⟩]), (false, [.d TI pF (thoughtV (clMake x.2.1) x.1).2])], [(⟨1, 0, 0⟩, .sl T_Shelf (.all .w) (thoughtV (clMake x.2.1) x.1).1)])⟩

theorem cIMake_ok : CtrOk Proofs.Try.prog cIMake := by
  have hP := ((Prg.none ttok mtok).and cTMake_ok)
  refine ctr_of_body hP cIMake (fn := Proofs.Try.f15) (rts := [.cell 4 28, .tmp 5]) Proofs.Try.func15 rfl (by kernel_rfl) rfl rfl ?_
  rintro ⟨(m : List Shf), (name : Str), ⟨⟩⟩ _ hpre
  try dsimp only [Ty.den, Mode.den, mdens] at hpre
  refine ⟨rfl, ?_⟩
  refine sw_seq ?_
  refine sw_region hP 1 [] rfl (by kernel_rfl) (fun _ => by kernel_rfl) (by first | trivial | (simp [conj]; done) | (simp [conj] at *; (try dsimp only [Ty.den, Ty.dflt] at *); omega)) ?_
  refine sw_seq ?_
  refine sw_region hP 2 [] rfl (by kernel_rfl) (fun _ => by kernel_rfl) ?_ ?_
  · skip
    exact rfl
  refine sw_ret ⟨.inl rfl, _, rfl, ?_⟩
  simp [conj, maxL]
  try dsimp only [Ty.den, Ty.dflt]
  try simp only [rd_eta]
  repeat' apply And.intro
  all_goals first | rfl | assumption | omega | trivial

def cIDrop : Ctr := ⟨10, [.val true T_Model (.all .b), .val false .str pF], fun _ => True, fun x => (.tup [(true, [.own ⟨1, 0, 0⟩]), (false, [.d TI pF (thoughtV (clDrop x.2.1) x.1).2])], [(⟨1, 0, 0⟩, .sl T_Shelf (.all .w) (thoughtV (clDrop x.2.1) x.1).1)])⟩

theorem cIDrop_ok : CtrOk Proofs.Try.prog cIDrop := by
  have hP := ((Prg.none ttok mtok).and cTDrop_ok)
  refine ctr_of_body hP cIDrop (fn := Proofs.Try.f10) (rts := [.cell 4 28, .tmp 5]) Proofs.Try.func10 rfl (by kernel_rfl) rfl rfl ?_
  rintro ⟨(m : List Shf), (name : Str), ⟨⟩⟩ _ hpre
  try dsimp only [Ty.den, Mode.den, mdens] at hpre
  refine ⟨rfl, ?_⟩
  refine sw_seq ?_
  refine sw_region hP 1 [] rfl (by kernel_rfl) (fun _ => by kernel_rfl) (by first | trivial | (simp [conj]; done) | (simp [conj] at *; (try dsimp only [Ty.den, Ty.dflt] at *); omega)) ?_
  refine sw_seq ?_
  refine sw_region hP 2 [] rfl (by kernel_rfl) (fun _ => by kernel_rfl) ?_ ?_
  · skip
    exact rfl
  refine sw_ret ⟨.inl rfl, _, rfl, ?_⟩
  simp [conj, maxL]
  try dsimp only [Ty.den, Ty.dflt]
  try simp only [rd_eta]
  repeat' apply And.intro
  all_goals first | rfl | assumption | omega | trivial

def cIWrite : Ctr := ⟨17, [.val true T_Model (.all .b), .val false .str pF, .val false TI pF, .val false .str pF], fun _ => True, fun x => (.tup [(true, [.own ⟨1, 0, 0⟩]), (false, [.d TI pF (thoughtV (clWrite x.2.1 x.2.2.1 x.2.2.2.1) x.1).2])], [(⟨1, 0, 0⟩, .sl T_Shelf (.all .w) (thoughtV (clWrite x.2.1 x.2.2.1 x.2.2.2.1) x.1).1)])⟩

theorem cIWrite_ok : CtrOk Proofs.Try.prog cIWrite := by
  have hP := ((Prg.none ttok mtok).and cTWrite_ok)
  refine ctr_of_body hP cIWrite (fn := Proofs.Try.f17) (rts := [.cell 8 28, .tmp 9]) Proofs.Try.func17 rfl (by kernel_rfl) rfl rfl ?_
  rintro ⟨(m : List Shf), (name : Str), (block : Int), (text : Str), ⟨⟩⟩ _ hpre
  try dsimp only [Ty.den, Mode.den, mdens] at hpre
  refine ⟨rfl, ?_⟩
  refine sw_seq ?_
  refine sw_region hP 1 [] rfl (by kernel_rfl) (fun _ => by kernel_rfl) (by first | trivial | (simp [conj]; done) | (simp [conj] at *; (try dsimp only [Ty.den, Ty.dflt] at *); omega)) ?_
  refine sw_seq ?_
  refine sw_region hP 2 [] rfl (by kernel_rfl) (fun _ => by kernel_rfl) ?_ ?_
  · skip
    exact rfl
  refine sw_ret ⟨.inl rfl, _, rfl, ?_⟩
  simp [conj, maxL]
  try dsimp only [Ty.den, Ty.dflt]
  try simp only [rd_eta]
  repeat' apply And.intro
  all_goals first | rfl | assumption | omega | trivial
end Go.Sx
