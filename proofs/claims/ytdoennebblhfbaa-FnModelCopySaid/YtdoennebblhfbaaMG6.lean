import Derived.Test.YtdoennebblhfbaaMG5
set_option linter.all false
namespace Go.Sx
open Go
set_option maxRecDepth 100000
set_option linter.unusedVariables false
set_option linter.unusedSimpArgs false

def cCloneF : Ctr := ⟨54, [.val false (.sl .str) (.all .b)], fun x => List.length x.1 ≤ 1099511627776, fun x => (.v false [.d (.sl .str) pF x.1], [])⟩
theorem cCloneF_ok : CtrOk Proofs.Try.prog cCloneF := by
  have hP := (Prg.none ttok mtok)
  refine ctr_of_body hP cCloneF (fn := Proofs.Try.f54) (rts := [.tmp 2]) Proofs.Try.func54 rfl (by kernel_rfl) rfl rfl ?_
  rintro ⟨(l : List Str), ⟨⟩⟩ ⟨hdl, _⟩ hpre
  try dsimp only [Ty.den, Mode.den, mdens] at hpre
  refine ⟨rfl, ?_⟩
  have hml : l.length ≤ 1099511627776 := hpre
  refine sw_seq ?_
  refine sw_region hP 1 [] rfl (by kernel_rfl) (fun _ => by kernel_rfl) (by first | trivial | (simp [conj]; done) | (simp [conj] at *; (try dsimp only [Ty.den, Ty.dflt] at *); omega)) ?_
  refine sw_seq ?_
  refine sw_seq ?_
  refine sw_region hP 2 [] rfl (by kernel_rfl) (fun _ => by kernel_rfl) (by first | trivial | (simp [conj]; done) | (simp [conj] at *; (try dsimp only [Ty.den, Ty.dflt] at *); omega)) ?_
  refine sw_condA rfl (fun c1 => ?_) ?_
  · skip
    obtain rfl : l = [] := List.eq_nil_of_length_eq_zero c1
    refine sw_seq ?_
    refine sw_region hP 3 [] rfl (by kernel_rfl) (fun _ => by kernel_rfl) (by first | trivial | (simp [conj]; done) | (simp [conj] at *; (try dsimp only [Ty.den, Ty.dflt] at *); omega)) ?_
    refine sw_ret ⟨.inl rfl, _, rfl, ?_⟩
    first | trivial | (simp [conj]; done) | (simp [conj] at *; (try dsimp only [Ty.den, Ty.dflt] at *); omega)
  · skip
    refine sw_skip ?_
    refine sw_seq ?_
    refine sw_region hP 3 [] rfl (by kernel_rfl) (fun _ => by kernel_rfl) ?_ ?_
    · skip
      simp [conj, maxL]
      try dsimp only [Ty.den, Ty.dflt]
      try simp only [rd_eta]
      omega
    refine sw_frz ⟨3, 2, 0⟩ rfl ?_
    refine sw_ret ⟨.inl rfl, _, rfl, ?_⟩
    first | trivial | (simp [conj]; done) | (simp [conj] at *; (try dsimp only [Ty.den, Ty.dflt] at *); omega)

def cDelete : Ctr := ⟨43, [.own false (.sl T_Shelf) (.all .w), .val false TI pF, .val false TI pF], fun x => 0 ≤ x.2.1 ∧ x.2.1 < x.2.2.1 ∧ x.2.2.1 ≤ (List.length x.1 : Int) ∧ List.length x.1 ≤ 1000,
  fun x => (.v false [.own ⟨1, 0, 0⟩], [(⟨1, 0, 0⟩, .sl T_Shelf (.all .w) (List.take x.2.1.toNat x.1 ++ List.drop x.2.2.1.toNat x.1))])⟩
theorem cDelete_ok : CtrOk Proofs.Try.prog cDelete := by
  have hP := (Prg.none ttok mtok)
  refine ctr_of_body hP cDelete (fn := Proofs.Try.f43) (rts := [.tmp 6]) Proofs.Try.func43 rfl (by kernel_rfl) rfl rfl ?_
  rintro ⟨(m : List Shf), (i : Int), (j : Int), ⟨⟩⟩ _ ⟨h0, h1, h2, h3⟩
  try dsimp only [Ty.den, Mode.den, mdens] at h0
  try dsimp only [Ty.den, Mode.den, mdens] at h1
  try dsimp only [Ty.den, Mode.den, mdens] at h2
  try dsimp only [Ty.den, Mode.den, mdens] at h3
  refine ⟨rfl, ?_⟩
  refine sw_seq ?_
  refine sw_region hP 1 [] rfl (by kernel_rfl) (fun _ => by kernel_rfl) (by first | trivial | (simp [conj]; done) | (simp [conj] at *; (try dsimp only [Ty.den, Ty.dflt] at *); omega)) ?_
  refine sw_seq ?_
  refine sw_region hP 2 [] rfl (by kernel_rfl) (fun _ => by kernel_rfl) ?_ ?_
  · skip
    simp [conj, maxL]
    try dsimp only [Ty.den, Ty.dflt]
    try simp only [rd_eta]
    repeat' apply And.intro
    all_goals first | rfl | assumption | omega
  refine sw_seq ?_
  refine sw_seq ?_
  refine sw_region hP 3 [] rfl (by kernel_rfl) (fun _ => by kernel_rfl) (by first | trivial | (simp [conj]; done) | (simp [conj] at *; (try dsimp only [Ty.den, Ty.dflt] at *); omega)) ?_
  refine sw_cond rfl (fun c2 => ?_) (fun c2 => ?_)
  · skip
    have h : i = j := of_decide_eq_true c2
    omega
  · skip
    refine sw_skip ?_
    refine sw_seq ?_
    refine sw_region hP 4 [] rfl (by kernel_rfl) (fun _ => by kernel_rfl) (by first | trivial | (simp [conj]; done) | (simp [conj] at *; (try dsimp only [Ty.den, Ty.dflt] at *); omega)) ?_
    refine sw_seq ?_
    refine sw_region hP 5 [] rfl (by kernel_rfl) (fun _ => by kernel_rfl) ?_ ?_
    · skip
      simp [conj, maxL]
      try dsimp only [Ty.den, Ty.dflt]
      try simp only [rd_eta]
      repeat' apply And.intro
      all_goals first | rfl | assumption | omega
    refine sw_seq ?_
    refine sw_region hP 6 [] rfl (by kernel_rfl) (fun _ => by kernel_rfl) ?_ ?_
    · skip
      simp [conj, maxL]
      try dsimp only [Ty.den, Ty.dflt]
      try simp only [rd_eta]
      repeat' apply And.intro
      all_goals first | rfl | assumption | omega | exact room_le (by omega)
    refine sw_seq ?_
    refine sw_region hP 7 [] rfl (by kernel_rfl) (fun _ => by kernel_rfl) (by first | trivial | (simp [conj]; done) | (simp [conj] at *; (try dsimp only [Ty.den, Ty.dflt] at *); omega)) ?_
    refine sw_ret ⟨.inl rfl, _, rfl, ?_⟩
    simp [conj, maxL]
    try dsimp only [Ty.den, Ty.dflt]
    try simp only [rd_eta]
    repeat' apply And.intro
    all_goals first | rfl | assumption | omega

def cAddI : Ctr := ⟨47, [.ref T_Model (.sl .w pF), .val false .str pF, .val false (.sl .str) (.all .b)], fun x => mokV x.1 = true ∧ List.length x.2.2.1 ≤ 1000,
  fun x => (sInt .i64 (addI x.1 x.2.1 x.2.2.1).2, [(⟨0, 0, 0⟩, .var [.own ⟨1, 0, 0⟩]), (⟨1, 0, 0⟩, .sl T_Shelf pF (addI x.1 x.2.1 x.2.2.1).1)])⟩
theorem cAddI_ok : CtrOk Proofs.Try.prog cAddI := by
  have hP := ((((Prg.none ttok mtok).and cIndex_ok).and cVol_ok).and cCloneF_ok)
  refine ctr_of_body hP cAddI (fn := Proofs.Try.f47) (rts := [.tmp 6]) Proofs.Try.func47 rfl (by kernel_rfl) rfl rfl ?_
  rintro ⟨(m : List Shf), (name : Str), (l : List Str), ⟨⟩⟩ _ ⟨hm, hl⟩
  try dsimp only [Ty.den, Mode.den, mdens] at hm
  try dsimp only [Ty.den, Mode.den, mdens] at hl
  refine ⟨rfl, ?_⟩
  have h4 : m.length ≤ 4 := mok_len4 hm
  refine sw_seq ?_
  refine sw_region hP 1 [] rfl (by kernel_rfl) (fun _ => by kernel_rfl) (by first | trivial | (simp [conj]; done) | (simp [conj] at *; (try dsimp only [Ty.den, Ty.dflt] at *); omega)) ?_
  refine sw_seq ?_
  refine sw_region hP 2 [] rfl (by kernel_rfl) (fun _ => by kernel_rfl) (by first | trivial | (simp [conj]; done) | (simp [conj] at *; (try dsimp only [Ty.den, Ty.dflt] at *); omega)) ?_
  refine sw_seq ?_
  refine sw_block ?_
  refine sw_seq ?_
  refine sw_dec hP 3 [] 1 rfl (fun g2_1 => ?_) (fun g2_1 => ?_)
  · skip
    have hs : (mget .str (idxV m) name).isSome = true := g2_1
    replace g2_1 := hs
    rw [idx_isSome hm] at g2_1
    replace g2_1 : 0 ≤ findV m name := of_decide_eq_true g2_1
    have hv := addI_there (l := l) g2_1
    refine sw_region hP 3 [(1, true)] rfl (by kernel_rfl) (fun _ => by kernel_rfl) ?_ ?_
    · skip
      simp [conj, maxL]
      try dsimp only [Ty.den, Ty.dflt]
      try simp only [rd_eta]
      exact hs
    refine sw_condT rfl ?_
    refine sw_seq ?_
    refine sw_region hP 4 [] rfl (by kernel_rfl) (fun _ => by kernel_rfl) (by first | trivial | (simp [conj]; done) | (simp [conj] at *; (try dsimp only [Ty.den, Ty.dflt] at *); omega)) ?_
    refine sw_ret ⟨.inl rfl, _, rfl, ?_⟩
    simp only [hv]
    simp [conj, maxL]
    try dsimp only [Ty.den, Ty.dflt]
    try simp only [rd_eta]
    repeat' apply And.intro
    all_goals first | rfl | assumption | omega
  · skip
    replace g2_1 : (mget .str (idxV m) name).isSome = false := g2_1
    rw [idx_isSome hm] at g2_1
    replace g2_1 : ¬ 0 ≤ findV m name := of_decide_eq_false g2_1
    refine sw_region hP 3 [(1, false)] rfl (by kernel_rfl) (fun _ => by kernel_rfl) ?_ ?_
    · skip
      simp [conj, maxL]
      try dsimp only [Ty.den, Ty.dflt]
      try simp only [rd_eta]
      exact ⟨idx_none g2_1, trivial⟩
    refine sw_cond rfl (fun c2 => ?_) (fun c2 => ?_)
    · skip
      replace c2 : nameV name = false := by simpa using c2
      have hv := addI_bad (l := l) (m := m) c2
      refine sw_seq ?_
      refine sw_region hP 4 [] rfl (by kernel_rfl) (fun _ => by kernel_rfl) (by first | trivial | (simp [conj]; done) | (simp [conj] at *; (try dsimp only [Ty.den, Ty.dflt] at *); omega)) ?_
      refine sw_ret ⟨.inl rfl, _, rfl, ?_⟩
      simp only [hv]
      simp [conj, maxL]
      try dsimp only [Ty.den, Ty.dflt]
      try simp only [rd_eta]
      repeat' apply And.intro
      all_goals first | rfl | assumption | omega
    · skip
      replace c2 : nameV name = true := by simpa using c2
      refine sw_seq ?_
      refine sw_region hP 4 [] rfl (by kernel_rfl) (fun _ => by kernel_rfl) (by first | trivial | (simp [conj]; done) | (simp [conj] at *; (try dsimp only [Ty.den, Ty.dflt] at *); omega)) ?_
      refine sw_cond rfl (fun c4 => ?_) (fun c4 => ?_)
      · skip
        replace c4 : m.length = 4 := by have h : ((m.length : Nat) : Int) = 4 := of_decide_eq_true c4; omega
        have hv := addI_full (l := l) g2_1 c2 c4
        refine sw_seq ?_
        refine sw_region hP 5 [] rfl (by kernel_rfl) (fun _ => by kernel_rfl) (by first | trivial | (simp [conj]; done) | (simp [conj] at *; (try dsimp only [Ty.den, Ty.dflt] at *); omega)) ?_
        refine sw_ret ⟨.inl rfl, _, rfl, ?_⟩
        simp only [hv]
        simp [conj, maxL]
        try dsimp only [Ty.den, Ty.dflt]
        try simp only [rd_eta]
        repeat' apply And.intro
        all_goals first | rfl | assumption | omega
      · skip
        replace c4 : ¬ m.length = 4 := by have h : ¬ ((m.length : Nat) : Int) = 4 := of_decide_eq_false c4; omega
        have hv := addI_ok (l := l) g2_1 c2 c4
        refine sw_skip ?_
        refine sw_seq ?_
        refine sw_region hP 5 [] rfl (by kernel_rfl) (fun _ => by kernel_rfl) ?_ ?_
        · skip
          simp [conj, maxL]
          try dsimp only [Ty.den, Ty.dflt]
          try simp only [rd_eta]
          refine ⟨?_, by omega⟩
          show l.length ≤ 1099511627776
          omega
        refine sw_seq ?_
        refine sw_region hP 6 [] rfl (by kernel_rfl) (fun _ => by kernel_rfl) (by first | trivial | (simp [conj]; done) | (simp [conj] at *; (try dsimp only [Ty.den, Ty.dflt] at *); omega)) ?_
        refine sw_ret ⟨.inl rfl, _, rfl, ?_⟩
        simp only [hv]
        simp [conj, maxL]
        try dsimp only [Ty.den, Ty.dflt]
        try simp only [rd_eta]
        repeat' apply And.intro
        all_goals first | rfl | assumption | omega

def cClMake : Ctr := ⟨46, [.ref T_Model (.all .w), .rp .str pF], fun x => mokV x.1 = true, fun x => (sInt .i64 (clMake x.2.1 x.1).2, [(⟨0, 0, 0⟩, .var [.own ⟨1, 0, 0⟩]), (⟨1, 0, 0⟩, .sl T_Shelf pF (clMake x.2.1 x.1).1)])⟩
theorem cClMake_ok : CtrOk Proofs.Try.prog cClMake := by
  have hP := ((Prg.none ttok mtok).and cAddI_ok)
  refine ctr_of_body hP cClMake (fn := Proofs.Try.f46) (rts := [.tmp 3]) Proofs.Try.func46 rfl (by kernel_rfl) rfl rfl ?_
  rintro ⟨(m : List Shf), (name : Str), ⟨⟩⟩ _ hpre
  try dsimp only [Ty.den, Mode.den, mdens] at hpre
  refine ⟨rfl, ?_⟩
  refine sw_seq ?_
  refine sw_region hP 1 [] rfl (by kernel_rfl) (fun _ => by kernel_rfl) (by first | trivial | (simp [conj]; done) | (simp [conj] at *; (try dsimp only [Ty.den, Ty.dflt] at *); omega)) ?_
  refine sw_seq ?_
  refine sw_frzIn ⟨0, 0, 1⟩ rfl ?_
  refine sw_region hP 2 [] rfl (by kernel_rfl) (fun _ => by kernel_rfl) ?_ ?_
  · skip
    simp [conj, maxL]
    try dsimp only [Ty.den, Ty.dflt]
    try simp only [rd_eta]
    exact ⟨hpre, by simp⟩
  refine sw_ret ⟨.inl rfl, _, rfl, ?_⟩
  simp [conj, maxL]
  try dsimp only [Ty.den, Ty.dflt]
  try simp only [rd_eta]
  repeat' apply And.intro
  all_goals first | rfl | assumption | omega

def cClDrop : Ctr := ⟨42, [.ref T_Model (.all .w), .rp .str pF], fun x => mokV x.1 = true, fun x => (sInt .i64 (clDrop x.2.1 x.1).2, [(⟨0, 0, 0⟩, .var [.own ⟨1, 0, 0⟩]), (⟨1, 0, 0⟩, .sl T_Shelf (.all .w) (clDrop x.2.1 x.1).1)])⟩
theorem cClDrop_ok : CtrOk Proofs.Try.prog cClDrop := by
  have hP := (((Prg.none ttok mtok).and cIndex_ok).and cDelete_ok)
  refine ctr_of_body hP cClDrop (fn := Proofs.Try.f42) (rts := [.tmp 3]) Proofs.Try.func42 rfl (by kernel_rfl) rfl rfl ?_
  rintro ⟨(m : List Shf), (name : Str), ⟨⟩⟩ _ hpre
  try dsimp only [Ty.den, Mode.den, mdens] at hpre
  refine ⟨rfl, ?_⟩
  have hm : mokV m = true := hpre
  have h4 : m.length ≤ 4 := mok_len4 hm
  refine sw_seq ?_
  refine sw_region hP 1 [] rfl (by kernel_rfl) (fun _ => by kernel_rfl) (by first | trivial | (simp [conj]; done) | (simp [conj] at *; (try dsimp only [Ty.den, Ty.dflt] at *); omega)) ?_
  refine sw_seq ?_
  refine sw_region hP 2 [] rfl (by kernel_rfl) (fun _ => by kernel_rfl) (by first | trivial | (simp [conj]; done) | (simp [conj] at *; (try dsimp only [Ty.den, Ty.dflt] at *); omega)) ?_
  refine sw_seq ?_
  refine sw_seq ?_
  refine sw_region hP 3 [] rfl (by kernel_rfl) (fun _ => by kernel_rfl) (by first | trivial | (simp [conj]; done) | (simp [conj] at *; (try dsimp only [Ty.den, Ty.dflt] at *); omega)) ?_
  refine sw_cond rfl (fun c2 => ?_) (fun c2 => ?_)
  · skip
    replace c2 : (!(mget .str (idxV m) name).isSome) = true := c2
    rw [idx_isSome hm] at c2
    replace c2 : ¬ 0 ≤ findV m name := by simpa using c2
    have hv := clDrop_no c2
    refine sw_seq ?_
    refine sw_region hP 4 [] rfl (by kernel_rfl) (fun _ => by kernel_rfl) (by first | trivial | (simp [conj]; done) | (simp [conj] at *; (try dsimp only [Ty.den, Ty.dflt] at *); omega)) ?_
    refine sw_ret ⟨.inl rfl, _, rfl, ?_⟩
    simp only [hv]
    simp [conj, maxL]
    try dsimp only [Ty.den, Ty.dflt]
    try simp only [rd_eta]
    repeat' apply And.intro
    all_goals first | rfl | assumption | omega | (congr 2; omega)
  · skip
    replace c2 : (!(mget .str (idxV m) name).isSome) = false := c2
    rw [idx_isSome hm] at c2
    replace c2 : 0 ≤ findV m name := by simpa using c2
    obtain ⟨hk, hkn⟩ := find_name c2
    have he : (mget .str (idxV m) name).getD (0 : Int) = findV m name := by rw [idx_some hm c2]; rfl
    have hv := clDrop_ok c2
    refine sw_skip ?_
    refine sw_seq ?_
    refine sw_region hP 4 [] rfl (by kernel_rfl) (fun _ => by kernel_rfl) ?_ ?_
    · skip
      simp [conj, maxL]
      try dsimp only [Ty.den, Ty.dflt]
      try simp only [rd_eta]
      simp only [he]
      repeat' apply And.intro
      all_goals first | assumption | omega | (show 0 ≤ findV m name; omega) | (show findV m name < findV m name + 1; omega) | (show findV m name + 1 ≤ (m.length : Int); omega) | (show m.length ≤ 1000; omega)
    refine sw_seq ?_
    refine sw_region hP 5 [] rfl (by kernel_rfl) (fun _ => by kernel_rfl) (by first | trivial | (simp [conj]; done) | (simp [conj] at *; (try dsimp only [Ty.den, Ty.dflt] at *); omega)) ?_
    refine sw_ret ⟨.inl rfl, _, rfl, ?_⟩
    simp only [hv]
    simp [conj, maxL]
    try dsimp only [Ty.den, Ty.dflt]
    try simp only [rd_eta]
    simp only [he]
    repeat' apply And.intro
    all_goals first | rfl | assumption | omega | (congr 2; omega)

def cBlkA : Ctr := ⟨33, [.ref T_Model (.all .w), .val false .str pF, .val false TI pF], fun x => mokV x.1 = true ∧ blkC x.1 x.2.1 x.2.2.1 = 0, fun x => (.tup [(false, [.opt ⟨1, 0, 2⟩ x.2.2.1.toNat 1 0 .str]), (false, [.d TI pF 0])], [(⟨0, 0, 0⟩, .var [.own ⟨1, 0, 0⟩]), (⟨1, 0, 0⟩, .slo T_Shelf (.all .w) x.1 (findV x.1 x.2.1).toNat [.d .str pF (List.getD x.1 (findV x.1 x.2.1).toNat ([], [])).1, .own ⟨1, 0, 2⟩]), (⟨1, 0, 2⟩, .sl .str (.all .w) (List.getD x.1 (findV x.1 x.2.1).toNat ([], [])).2)])⟩
theorem cBlkA_ok : CtrOk Proofs.Try.prog cBlkA := by
  have hP := ((Prg.none ttok mtok).and cIndex_ok)
  refine ctr_of_body hP cBlkA (fn := Proofs.Try.f33) (rts := [.tmp 6, .tmp 7]) Proofs.Try.func33 rfl (by kernel_rfl) rfl rfl ?_
  rintro ⟨(m : List Shf), (name : Str), (block : Int), ⟨⟩⟩ _ ⟨hm, hb⟩
  try dsimp only [Ty.den, Mode.den, mdens] at hm
  try dsimp only [Ty.den, Mode.den, mdens] at hb
  refine ⟨rfl, ?_⟩
  have h4 : m.length ≤ 4 := mok_len4 hm
  replace hb : blkC m name block = 0 := hb
  refine sw_seq ?_
  refine sw_region hP 1 [] rfl (by kernel_rfl) (fun _ => by kernel_rfl) (by first | trivial | (simp [conj]; done) | (simp [conj] at *; (try dsimp only [Ty.den, Ty.dflt] at *); omega)) ?_
  refine sw_seq ?_
  refine sw_region hP 2 [] rfl (by kernel_rfl) (fun _ => by kernel_rfl) (by first | trivial | (simp [conj]; done) | (simp [conj] at *; (try dsimp only [Ty.den, Ty.dflt] at *); omega)) ?_
  refine sw_seq ?_
  refine sw_block ?_
  refine sw_seq ?_
  refine sw_region hP 3 [] rfl (by kernel_rfl) (fun _ => by kernel_rfl) (by first | trivial | (simp [conj]; done) | (simp [conj] at *; (try dsimp only [Ty.den, Ty.dflt] at *); omega)) ?_
  refine sw_cond rfl (fun c2 => ?_) (fun c2 => ?_)
  · skip
    replace c2 : (!(mget .str (idxV m) name).isSome) = true := c2
    rw [idx_isSome hm] at c2
    replace c2 : ¬ 0 ≤ findV m name := by simpa using c2
    have hv := blkC_no (block := block) c2
    rw [hv] at hb
    cases hb
  · skip
    replace c2 : (!(mget .str (idxV m) name).isSome) = false := c2
    rw [idx_isSome hm] at c2
    replace c2 : 0 ≤ findV m name := by simpa using c2
    obtain ⟨hk, hkn⟩ := find_name c2
    have h3 := mok_at hm hk
    have he : (mget .str (idxV m) name).getD (0 : Int) = findV m name := by rw [idx_some hm c2]; rfl
    refine sw_seq ?_
    refine sw_dec hP 4 [] 2 rfl (fun g4_2 => ?_) (fun g4_2 => ?_)
    · skip
      have hlo : block < 0 := of_decide_eq_true g4_2
      have hv := blkC_out (block := block) c2 (by omega)
      rw [hv] at hb
      cases hb
    · skip
      have hlo : ¬ block < 0 := of_decide_eq_false g4_2
      refine sw_region hP 4 [(2, false)] rfl (by kernel_rfl) (fun _ => by kernel_rfl) ?_ ?_
      · skip
        simp [conj, maxL] at *
        try dsimp only [Ty.den, Ty.dflt] at *
        try simp only [rd_eta] at *
        try first | assumption | omega
      refine sw_cond rfl (fun c4 => ?_) (fun c4 => ?_)
      · skip
        have hhi : 3 ≤ block := of_decide_eq_true c4
        have hv := blkC_out (block := block) c2 (by omega)
        rw [hv] at hb
        cases hb
      · skip
        have hhi : ¬ 3 ≤ block := of_decide_eq_false c4
        refine sw_skip ?_
        refine sw_seq ?_
        refine sw_region hP 5 [] rfl (by kernel_rfl) (fun _ => by kernel_rfl) ?_ ?_
        · skip
          simp [conj, maxL]
          try dsimp only [Ty.den, Ty.dflt]
          try simp only [rd_eta]
          simp only [he]
          simp only [List.getElem?_eq_getElem hk, Option.getD_some, h3]
          repeat' apply And.intro
          all_goals first | assumption | omega
        refine sw_ret ⟨.inl rfl, _, rfl, ?_⟩
        simp [conj, maxL]
        try dsimp only [Ty.den, Ty.dflt]
        try simp only [rd_eta]
        simp only [he]
        repeat' apply And.intro
        all_goals first | trivial | rfl | assumption | omega

def cBlkB : Ctr := ⟨33, [.ref T_Model (.all .w), .val false .str pF, .val false TI pF], fun x => mokV x.1 = true ∧ ¬ blkC x.1 x.2.1 x.2.2.1 = 0, fun x => (.tup [(false, [.nilp]), (false, [.d TI pF (blkC x.1 x.2.1 x.2.2.1)])], [(⟨0, 0, 0⟩, .var [.own ⟨1, 0, 0⟩]), (⟨1, 0, 0⟩, .sl T_Shelf (.all .w) x.1)])⟩
theorem cBlkB_ok : CtrOk Proofs.Try.prog cBlkB := by
  have hP := ((Prg.none ttok mtok).and cIndex_ok)
  refine ctr_of_body hP cBlkB (fn := Proofs.Try.f33) (rts := [.tmp 6, .tmp 7]) Proofs.Try.func33 rfl (by kernel_rfl) rfl rfl ?_
  rintro ⟨(m : List Shf), (name : Str), (block : Int), ⟨⟩⟩ _ ⟨hm, hb⟩
  try dsimp only [Ty.den, Mode.den, mdens] at hm
  try dsimp only [Ty.den, Mode.den, mdens] at hb
  refine ⟨rfl, ?_⟩
  have h4 : m.length ≤ 4 := mok_len4 hm
  replace hb : ¬ blkC m name block = 0 := hb
  refine sw_seq ?_
  refine sw_region hP 1 [] rfl (by kernel_rfl) (fun _ => by kernel_rfl) (by first | trivial | (simp [conj]; done) | (simp [conj] at *; (try dsimp only [Ty.den, Ty.dflt] at *); omega)) ?_
  refine sw_seq ?_
  refine sw_region hP 2 [] rfl (by kernel_rfl) (fun _ => by kernel_rfl) (by first | trivial | (simp [conj]; done) | (simp [conj] at *; (try dsimp only [Ty.den, Ty.dflt] at *); omega)) ?_
  refine sw_seq ?_
  refine sw_block ?_
  refine sw_seq ?_
  refine sw_region hP 3 [] rfl (by kernel_rfl) (fun _ => by kernel_rfl) (by first | trivial | (simp [conj]; done) | (simp [conj] at *; (try dsimp only [Ty.den, Ty.dflt] at *); omega)) ?_
  refine sw_cond rfl (fun c2 => ?_) (fun c2 => ?_)
  · skip
    replace c2 : (!(mget .str (idxV m) name).isSome) = true := c2
    rw [idx_isSome hm] at c2
    replace c2 : ¬ 0 ≤ findV m name := by simpa using c2
    have hv := blkC_no (block := block) c2
    refine sw_seq ?_
    refine sw_region hP 4 [] rfl (by kernel_rfl) (fun _ => by kernel_rfl) (by first | trivial | (simp [conj]; done) | (simp [conj] at *; (try dsimp only [Ty.den, Ty.dflt] at *); omega)) ?_
    refine sw_ret ⟨.inl rfl, _, rfl, ?_⟩
    simp only [hv]
    simp [conj, maxL]
    try dsimp only [Ty.den, Ty.dflt]
    try simp only [rd_eta]
    repeat' apply And.intro
    all_goals first | rfl | assumption | omega
  · skip
    replace c2 : (!(mget .str (idxV m) name).isSome) = false := c2
    rw [idx_isSome hm] at c2
    replace c2 : 0 ≤ findV m name := by simpa using c2
    obtain ⟨hk, hkn⟩ := find_name c2
    have h3 := mok_at hm hk
    have he : (mget .str (idxV m) name).getD (0 : Int) = findV m name := by rw [idx_some hm c2]; rfl
    refine sw_seq ?_
    refine sw_dec hP 4 [] 2 rfl (fun g4_2 => ?_) (fun g4_2 => ?_)
    · skip
      have hlo : block < 0 := of_decide_eq_true g4_2
      have hv := blkC_out (block := block) c2 (by omega)
      refine sw_region hP 4 [(2, true)] rfl (by kernel_rfl) (fun _ => by kernel_rfl) ?_ ?_
      · skip
        simp [conj, maxL] at *
        try dsimp only [Ty.den, Ty.dflt] at *
        try simp only [rd_eta] at *
        try first | assumption | omega
      refine sw_condT rfl ?_
      refine sw_seq ?_
      refine sw_region hP 5 [] rfl (by kernel_rfl) (fun _ => by kernel_rfl) (by first | trivial | (simp [conj]; done) | (simp [conj] at *; (try dsimp only [Ty.den, Ty.dflt] at *); omega)) ?_
      refine sw_ret ⟨.inl rfl, _, rfl, ?_⟩
      simp only [hv]
      simp [conj, maxL]
      try dsimp only [Ty.den, Ty.dflt]
      try simp only [rd_eta]
      repeat' apply And.intro
      all_goals first | rfl | assumption | omega
    · skip
      have hlo : ¬ block < 0 := of_decide_eq_false g4_2
      refine sw_region hP 4 [(2, false)] rfl (by kernel_rfl) (fun _ => by kernel_rfl) ?_ ?_
      · skip
        simp [conj, maxL] at *
        try dsimp only [Ty.den, Ty.dflt] at *
        try simp only [rd_eta] at *
        try first | assumption | omega
      refine sw_cond rfl (fun c4 => ?_) (fun c4 => ?_)
      · skip
        have hhi : 3 ≤ block := of_decide_eq_true c4
        have hv := blkC_out (block := block) c2 (by omega)
        refine sw_seq ?_
        refine sw_region hP 5 [] rfl (by kernel_rfl) (fun _ => by kernel_rfl) (by first | trivial | (simp [conj]; done) | (simp [conj] at *; (try dsimp only [Ty.den, Ty.dflt] at *); omega)) ?_
        refine sw_ret ⟨.inl rfl, _, rfl, ?_⟩
        simp only [hv]
        simp [conj, maxL]
        try dsimp only [Ty.den, Ty.dflt]
        try simp only [rd_eta]
        repeat' apply And.intro
        all_goals first | rfl | assumption | omega
      · skip
        have hhi : ¬ 3 ≤ block := of_decide_eq_false c4
        exact absurd (blkC_in c2 ⟨by omega, by omega⟩) hb

def cClWrite : Ctr := ⟨32, [.ref T_Model (.all .w), .rp .str pF, .rp TI pF, .rp .str pF], fun x => mokV x.1 = true, fun x => (sInt .i64 (clWrite x.2.1 x.2.2.1 x.2.2.2.1 x.1).2, [(⟨0, 0, 0⟩, .var [.own ⟨1, 0, 0⟩]), (⟨1, 0, 0⟩, .sl T_Shelf (.all .w) (clWrite x.2.1 x.2.2.1 x.2.2.2.1 x.1).1)])⟩
theorem cClWrite_ok : CtrOk Proofs.Try.prog cClWrite := by
  have hP := (Prg.none ttok mtok)
  refine ctr_of_body hP cClWrite (fn := Proofs.Try.f32) (rts := [.tmp 5]) Proofs.Try.func32 rfl (by kernel_rfl) rfl rfl ?_
  rintro ⟨(m : List Shf), (name : Str), (block : Int), (text : Str), ⟨⟩⟩ _ hpre
  try dsimp only [Ty.den, Mode.den, mdens] at hpre
  refine ⟨rfl, ?_⟩
  have hm : mokV m = true := hpre
  have h4 : m.length ≤ 4 := mok_len4 hm
  by_cases hb : blkC m name block = 0
  · skip
    have hP := ((Prg.none ttok mtok).and cBlkA_ok)
    obtain ⟨hf, hb0, hb3⟩ := blkC_zero hb
    obtain ⟨hk, hkn⟩ := find_name hf
    have h3 := mok_at hm hk
    refine sw_seq ?_
    refine sw_region hP 1 [] rfl (by kernel_rfl) (fun _ => by kernel_rfl) (by first | trivial | (simp [conj]; done) | (simp [conj] at *; (try dsimp only [Ty.den, Ty.dflt] at *); omega)) ?_
    refine sw_seq ?_
    refine sw_region hP 2 [] rfl (by kernel_rfl) (fun _ => by kernel_rfl) ?_ ?_
    · skip
      simp [conj, maxL]
      try dsimp only [Ty.den, Ty.dflt]
      try simp only [rd_eta]
      exact ⟨hm, hb⟩
    refine sw_seq ?_
    refine sw_block ?_
    refine sw_seq ?_
    refine sw_region hP 3 [] rfl (by kernel_rfl) (fun _ => by kernel_rfl) (by first | trivial | (simp [conj]; done) | (simp [conj] at *; (try dsimp only [Ty.den, Ty.dflt] at *); omega)) ?_
    refine sw_cond rfl (fun c2 => ?_) (fun c2 => ?_)
    · skip
      simp at c2
    · skip
      refine sw_seq ?_
      refine sw_region hP 4 [] rfl (by kernel_rfl) (fun _ => by kernel_rfl) (by first | trivial | (simp [conj]; done) | (simp [conj] at *; (try dsimp only [Ty.den, Ty.dflt] at *); omega)) ?_
      refine sw_cond rfl (fun c4 => ?_) (fun c4 => ?_)
      · skip
        replace c4 : 9 < text.length := by have h : (9 : Int) < (text.length : Nat) := of_decide_eq_true c4; omega
        have hv := clWrite_long hb c4
        refine sw_seq ?_
        refine sw_region hP 5 [] rfl (by kernel_rfl) (fun _ => by kernel_rfl) (by first | trivial | (simp [conj]; done) | (simp [conj] at *; (try dsimp only [Ty.den, Ty.dflt] at *); omega)) ?_
        refine sw_ret ⟨.inl rfl, _, rfl, ?_⟩
        simp only [hv]
        simp [conj, maxL]
        try dsimp only [Ty.den, Ty.dflt]
        try simp only [rd_eta]
        repeat' apply And.intro
        all_goals first | rfl | assumption | omega | trivial | exact set_self hk
      · skip
        replace c4 : ¬ 9 < text.length := by have h : ¬ (9 : Int) < (text.length : Nat) := of_decide_eq_false c4; omega
        have hv := clWrite_ok hb c4
        refine sw_skip ?_
        refine sw_seq ?_
        refine sw_region hP 5 [] rfl (by kernel_rfl) (fun _ => by kernel_rfl) ?_ ?_
        · skip
          simp [conj, maxL]
          try dsimp only [Ty.den, Ty.dflt]
          try simp only [rd_eta]
          simp only [List.getElem?_eq_getElem hk, Option.getD_some, h3]
          omega
        refine sw_seq ?_
        refine sw_region hP 6 [] rfl (by kernel_rfl) (fun _ => by kernel_rfl) (by first | trivial | (simp [conj]; done) | (simp [conj] at *; (try dsimp only [Ty.den, Ty.dflt] at *); omega)) ?_
        refine sw_ret ⟨.inl rfl, _, rfl, ?_⟩
        simp only [hv]
        simp [conj, maxL]
        try dsimp only [Ty.den, Ty.dflt]
        try simp only [rd_eta]
        repeat' apply And.intro
        all_goals first | rfl | assumption | omega | trivial | exact set_self hk
  · skip
    have hP := ((Prg.none ttok mtok).and cBlkB_ok)
    have hv := clWrite_no (text := text) hb
    refine sw_seq ?_
    refine sw_region hP 1 [] rfl (by kernel_rfl) (fun _ => by kernel_rfl) (by first | trivial | (simp [conj]; done) | (simp [conj] at *; (try dsimp only [Ty.den, Ty.dflt] at *); omega)) ?_
    refine sw_seq ?_
    refine sw_region hP 2 [] rfl (by kernel_rfl) (fun _ => by kernel_rfl) ?_ ?_
    · skip
      simp [conj, maxL]
      try dsimp only [Ty.den, Ty.dflt]
      try simp only [rd_eta]
      exact ⟨hm, hb⟩
    refine sw_seq ?_
    refine sw_block ?_
    refine sw_seq ?_
    refine sw_region hP 3 [] rfl (by kernel_rfl) (fun _ => by kernel_rfl) (by first | trivial | (simp [conj]; done) | (simp [conj] at *; (try dsimp only [Ty.den, Ty.dflt] at *); omega)) ?_
    refine sw_cond rfl (fun c2 => ?_) (fun c2 => ?_)
    · skip
      refine sw_seq ?_
      refine sw_region hP 4 [] rfl (by kernel_rfl) (fun _ => by kernel_rfl) (by first | trivial | (simp [conj]; done) | (simp [conj] at *; (try dsimp only [Ty.den, Ty.dflt] at *); omega)) ?_
      refine sw_ret ⟨.inl rfl, _, rfl, ?_⟩
      simp only [hv]
      simp [conj, maxL]
      try dsimp only [Ty.den, Ty.dflt]
      try simp only [rd_eta]
      repeat' apply And.intro
      all_goals first | rfl | assumption | omega | trivial | exact set_self hk
    · skip
      exact absurd (by simpa using c2) hb

def cClRead : Ctr := ⟨35, [.ref T_Model (.all .w), .rp .str pF, .rp TI pF, .ref .str pF], fun x => mokV x.1 = true ∧ (x.2.2.2.1 : Str) = [], fun x => (sInt .i64 ((x.1, blkC x.1 x.2.1 x.2.2.1)).2, [(⟨0, 0, 0⟩, .var [.own ⟨1, 0, 0⟩]), (⟨1, 0, 0⟩, .sl T_Shelf (.all .w) ((x.1, blkC x.1 x.2.1 x.2.2.1)).1), (⟨0, 3, 0⟩, .var [.d .str pF (rdV x.1 x.2.1 x.2.2.1)])])⟩
theorem cClRead_ok : CtrOk Proofs.Try.prog cClRead := by
  have hP := (Prg.none ttok mtok)
  refine ctr_of_body hP cClRead (fn := Proofs.Try.f35) (rts := [.tmp 5]) Proofs.Try.func35 rfl (by kernel_rfl) rfl rfl ?_
  rintro ⟨(m : List Shf), (name : Str), (block : Int), (text : Str), ⟨⟩⟩ _ ⟨hm, ht⟩
  try dsimp only [Ty.den, Mode.den, mdens] at hm
  try dsimp only [Ty.den, Mode.den, mdens] at ht
  refine ⟨rfl, ?_⟩
  have h4 : m.length ≤ 4 := mok_len4 hm
  replace ht : text = [] := ht
  subst ht
  by_cases hb : blkC m name block = 0
  · skip
    have hP := ((Prg.none ttok mtok).and cBlkA_ok)
    obtain ⟨hf, hb0, hb3⟩ := blkC_zero hb
    obtain ⟨hk, hkn⟩ := find_name hf
    have h3 := mok_at hm hk
    have hv := rdV_ok hb
    refine sw_seq ?_
    refine sw_region hP 1 [] rfl (by kernel_rfl) (fun _ => by kernel_rfl) (by first | trivial | (simp [conj]; done) | (simp [conj] at *; (try dsimp only [Ty.den, Ty.dflt] at *); omega)) ?_
    refine sw_seq ?_
    refine sw_region hP 2 [] rfl (by kernel_rfl) (fun _ => by kernel_rfl) ?_ ?_
    · skip
      simp [conj, maxL]
      try dsimp only [Ty.den, Ty.dflt]
      try simp only [rd_eta]
      exact ⟨hm, hb⟩
    refine sw_seq ?_
    refine sw_seq ?_
    refine sw_region hP 3 [] rfl (by kernel_rfl) (fun _ => by kernel_rfl) (by first | trivial | (simp [conj]; done) | (simp [conj] at *; (try dsimp only [Ty.den, Ty.dflt] at *); omega)) ?_
    refine sw_cond rfl (fun c2 => ?_) (fun c2 => ?_)
    · skip
      refine sw_region hP 4 [] rfl (by kernel_rfl) (fun _ => by kernel_rfl) ?_ ?_
      · skip
        simp [conj, maxL]
        try dsimp only [Ty.den, Ty.dflt]
        try simp only [rd_eta]
        simp only [List.getElem?_eq_getElem hk, Option.getD_some, h3]
        omega
      refine sw_seq ?_
      refine sw_region hP 5 [] rfl (by kernel_rfl) (fun _ => by kernel_rfl) (by first | trivial | (simp [conj]; done) | (simp [conj] at *; (try dsimp only [Ty.den, Ty.dflt] at *); omega)) ?_
      refine sw_ret ⟨.inl rfl, _, rfl, ?_⟩
      simp only [hv]
      simp [conj, maxL]
      try dsimp only [Ty.den, Ty.dflt]
      try simp only [rd_eta]
      repeat' apply And.intro
      all_goals first | rfl | assumption | omega | trivial | exact set_self hk | exact hb.symm
    · skip
      simp at c2
  · skip
    have hP := ((Prg.none ttok mtok).and cBlkB_ok)
    have hv := rdV_no hb
    refine sw_seq ?_
    refine sw_region hP 1 [] rfl (by kernel_rfl) (fun _ => by kernel_rfl) (by first | trivial | (simp [conj]; done) | (simp [conj] at *; (try dsimp only [Ty.den, Ty.dflt] at *); omega)) ?_
    refine sw_seq ?_
    refine sw_region hP 2 [] rfl (by kernel_rfl) (fun _ => by kernel_rfl) ?_ ?_
    · skip
      simp [conj, maxL]
      try dsimp only [Ty.den, Ty.dflt]
      try simp only [rd_eta]
      exact ⟨hm, hb⟩
    refine sw_seq ?_
    refine sw_seq ?_
    refine sw_region hP 3 [] rfl (by kernel_rfl) (fun _ => by kernel_rfl) (by first | trivial | (simp [conj]; done) | (simp [conj] at *; (try dsimp only [Ty.den, Ty.dflt] at *); omega)) ?_
    refine sw_cond rfl (fun c2 => ?_) (fun c2 => ?_)
    · skip
      exact absurd (by simpa using c2) hb
    · skip
      refine sw_skip ?_
      refine sw_seq ?_
      refine sw_region hP 4 [] rfl (by kernel_rfl) (fun _ => by kernel_rfl) (by first | trivial | (simp [conj]; done) | (simp [conj] at *; (try dsimp only [Ty.den, Ty.dflt] at *); omega)) ?_
      refine sw_ret ⟨.inl rfl, _, rfl, ?_⟩
      simp only [hv]
      simp [conj, maxL]
      try dsimp only [Ty.den, Ty.dflt]
      try simp only [rd_eta]
      repeat' apply And.intro
      all_goals first | rfl | assumption | omega | trivial | exact set_self hk | exact hb.symm
end Go.Sx
