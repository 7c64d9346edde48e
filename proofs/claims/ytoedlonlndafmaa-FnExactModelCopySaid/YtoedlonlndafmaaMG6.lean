import Derived.Test.YtoedlonlndafmaaMG5
set_option linter.all false
namespace Go.Sx
open Go
set_option maxRecDepth 100000
set_option linter.unusedVariables false
set_option linter.unusedSimpArgs false

def cDelete : Ctr := ⟨28, [.own false (.sl T_Shelf) (.all .w), .val false TI pF, .val false TI pF], fun x => 0 ≤ x.2.1 ∧ x.2.1 < x.2.2.1 ∧ x.2.2.1 ≤ (List.length x.1 : Int) ∧ List.length x.1 ≤ 1000,
  fun x => (.v false [.own ⟨1, 0, 0⟩], [(⟨1, 0, 0⟩, .sl T_Shelf (.all .w) (List.take x.2.1.toNat x.1 ++ List.drop x.2.2.1.toNat x.1))])⟩
theorem cDelete_ok : CtrOk Proofs.Try.prog cDelete := by
  have hP := (Prg.none ttok mtok)
  refine ctr_of_body hP cDelete (fn := Proofs.Try.f28) (rts := [.tmp 6]) Proofs.Try.func28 rfl (by kernel_rfl) rfl rfl ?_
  rintro ⟨(m : List Shf), (i : Int), (j : Int), ⟨⟩⟩ _ ⟨h0, h1, h2, h3⟩
  try dsimp only [Ty.den, Mode.den, mdens] at h0
  try dsimp only [Ty.den, Mode.den, mdens] at h1
  try dsimp only [Ty.den, Mode.den, mdens] at h2
  try dsimp only [Ty.den, Mode.den, mdens] at h3
  refine ⟨rfl, ?_⟩
  refine sw_seq ?_
  refine sw_region hP 1 [] rfl (by kernel_rfl) (fun _ => by kernel_rfl) (by first | trivial | (simp [conj]; done) | (simp [conj] at *; (try dsimp only [Ty.den, Ty.dflt] at *); omega)) ?_
  refine sw_seq ?_
  refine sw_region hP 2 [] rfl (by kernel_rfl) (fun _ => by kernel_rfl) ?_ ?_
  · skip
    simp [conj, maxL]
    try dsimp only [Ty.den, Ty.dflt]
    try simp only [rd_eta]
    repeat' apply And.intro
    all_goals first | rfl | assumption | omega
  refine sw_seq ?_
  refine sw_seq ?_
  refine sw_region hP 3 [] rfl (by kernel_rfl) (fun _ => by kernel_rfl) (by first | trivial | (simp [conj]; done) | (simp [conj] at *; (try dsimp only [Ty.den, Ty.dflt] at *); omega)) ?_
  refine sw_cond rfl (fun c2 => ?_) (fun c2 => ?_)
  · skip
    have h : i = j := of_decide_eq_true c2
    omega
  · skip
    refine sw_skip ?_
    refine sw_seq ?_
    refine sw_region hP 4 [] rfl (by kernel_rfl) (fun _ => by kernel_rfl) (by first | trivial | (simp [conj]; done) | (simp [conj] at *; (try dsimp only [Ty.den, Ty.dflt] at *); omega)) ?_
    refine sw_seq ?_
    refine sw_region hP 5 [] rfl (by kernel_rfl) (fun _ => by kernel_rfl) ?_ ?_
    · skip
      simp [conj, maxL]
      try dsimp only [Ty.den, Ty.dflt]
      try simp only [rd_eta]
      repeat' apply And.intro
      all_goals first | rfl | assumption | omega
    refine sw_seq ?_
    refine sw_region hP 6 [] rfl (by kernel_rfl) (fun _ => by kernel_rfl) ?_ ?_
    · skip
      simp [conj, maxL]
      try dsimp only [Ty.den, Ty.dflt]
      try simp only [rd_eta]
      repeat' apply And.intro
      all_goals first | rfl | assumption | omega | exact room_le (by omega)
    refine sw_seq ?_
    refine sw_region hP 7 [] rfl (by kernel_rfl) (fun _ => by kernel_rfl) (by first | trivial | (simp [conj]; done) | (simp [conj] at *; (try dsimp only [Ty.den, Ty.dflt] at *); omega)) ?_
    refine sw_ret ⟨.inl rfl, _, rfl, ?_⟩
    simp [conj, maxL]
    try dsimp only [Ty.den, Ty.dflt]
    try simp only [rd_eta]
    repeat' apply And.intro
    all_goals first | rfl | assumption | omega

def cClDrop : Ctr := ⟨26, [.ref T_Model (.all .w), .rp .str pF], fun x => mokV x.1 = true, fun x => (sInt .i64 (clDrop x.2.1 x.1).2, [(⟨0, 0, 0⟩, .var [.own ⟨1, 0, 0⟩]), (⟨1, 0, 0⟩, .sl T_Shelf (.all .w) (clDrop x.2.1 x.1).1)])⟩
theorem cClDrop_ok : CtrOk Proofs.Try.prog cClDrop := by
  have hP := (((Prg.none ttok mtok).and cIndex_ok).and cDelete_ok)
  refine ctr_of_body hP cClDrop (fn := Proofs.Try.f26) (rts := [.tmp 3]) Proofs.Try.func26 rfl (by kernel_rfl) rfl rfl ?_
  rintro ⟨(m : List Shf), (name : Str), ⟨⟩⟩ _ hpre
  try dsimp only [Ty.den, Mode.den, mdens] at hpre
  refine ⟨rfl, ?_⟩
  have hm : mokV m = true := hpre
  have h4 : m.length ≤ 4 := mok_len4 hm
  refine sw_seq ?_
  refine sw_region hP 1 [] rfl (by kernel_rfl) (fun _ => by kernel_rfl) (by first | trivial | (simp [conj]; done) | (simp [conj] at *; (try dsimp only [Ty.den, Ty.dflt] at *); omega)) ?_
  refine sw_seq ?_
  refine sw_region hP 2 [] rfl (by kernel_rfl) (fun _ => by kernel_rfl) (by first | trivial | (simp [conj]; done) | (simp [conj] at *; (try dsimp only [Ty.den, Ty.dflt] at *); omega)) ?_
  refine sw_seq ?_
  refine sw_seq ?_
  refine sw_region hP 3 [] rfl (by kernel_rfl) (fun _ => by kernel_rfl) (by first | trivial | (simp [conj]; done) | (simp [conj] at *; (try dsimp only [Ty.den, Ty.dflt] at *); omega)) ?_
  refine sw_cond rfl (fun c2 => ?_) (fun c2 => ?_)
  · skip
    replace c2 : (!(mget .str (idxV m) name).isSome) = true := c2
    rw [idx_isSome hm] at c2
    replace c2 : ¬ 0 ≤ findV m name := by simpa using c2
    have hv := clDrop_no c2
    refine sw_seq ?_
    refine sw_region hP 4 [] rfl (by kernel_rfl) (fun _ => by kernel_rfl) (by first | trivial | (simp [conj]; done) | (simp [conj] at *; (try dsimp only [Ty.den, Ty.dflt] at *); omega)) ?_
    refine sw_ret ⟨.inl rfl, _, rfl, ?_⟩
    simp only [hv]
    simp [conj, maxL]
    try dsimp only [Ty.den, Ty.dflt]
    try simp only [rd_eta]
    repeat' apply And.intro
    all_goals first | rfl | assumption | omega | (congr 2; omega)
  · skip
    replace c2 : (!(mget .str (idxV m) name).isSome) = false := c2
    rw [idx_isSome hm] at c2
    replace c2 : 0 ≤ findV m name := by simpa using c2
    obtain ⟨hk, hkn⟩ := find_name c2
    have he : (mget .str (idxV m) name).getD (0 : Int) = findV m name := by rw [idx_some hm c2]; rfl
    have hv := clDrop_ok c2
    refine sw_skip ?_
    refine sw_seq ?_
    refine sw_region hP 4 [] rfl (by kernel_rfl) (fun _ => by kernel_rfl) ?_ ?_
    · skip
      simp [conj, maxL]
      try dsimp only [Ty.den, Ty.dflt]
      try simp only [rd_eta]
      simp only [he]
      repeat' apply And.intro
      all_goals first | assumption | omega | (show 0 ≤ findV m name; omega) | (show findV m name < findV m name + 1; omega) | (show findV m name + 1 ≤ (m.length : Int); omega) | (show m.length ≤ 1000; omega)
    refine sw_seq ?_
    refine sw_region hP 5 [] rfl (by kernel_rfl) (fun _ => by kernel_rfl) (by first | trivial | (simp [conj]; done) | (simp [conj] at *; (try dsimp only [Ty.den, Ty.dflt] at *); omega)) ?_
    refine sw_ret ⟨.inl rfl, _, rfl, ?_⟩
    simp only [hv]
    simp [conj, maxL]
    try dsimp only [Ty.den, Ty.dflt]
    try simp only [rd_eta]
    simp only [he]
    repeat' apply And.intro
    all_goals first | rfl | assumption | omega | (congr 2; omega)

def cBlkA : Ctr := ⟨37, [.ref T_Model (.all .w), .val false .str pF, .val false TI pF], fun x => mokV x.1 = true ∧ blkC x.1 x.2.1 x.2.2.1 = 0, fun x => (.tup [(false, [.opt ⟨1, 0, 2⟩ x.2.2.1.toNat 1 0 .str]), (false, [.d TI pF 0])], [(⟨0, 0, 0⟩, .var [.own ⟨1, 0, 0⟩]), (⟨1, 0, 0⟩, .slo T_Shelf (.all .w) x.1 (findV x.1 x.2.1).toNat [.d .str pF (List.getD x.1 (findV x.1 x.2.1).toNat ([], [])).1, .own ⟨1, 0, 2⟩]), (⟨1, 0, 2⟩, .sl .str (.all .w) (List.getD x.1 (findV x.1 x.2.1).toNat ([], [])).2)])⟩
theorem cBlkA_ok : CtrOk Proofs.Try.prog cBlkA := by
  have hP := ((Prg.none ttok mtok).and cIndex_ok)
  refine ctr_of_body hP cBlkA (fn := Proofs.Try.f37) (rts := [.tmp 6, .tmp 7]) Proofs.Try.func37 rfl (by kernel_rfl) rfl rfl ?_
  rintro ⟨(m : List Shf), (name : Str), (block : Int), ⟨⟩⟩ _ ⟨hm, hb⟩
  try dsimp only [Ty.den, Mode.den, mdens] at hm
  try dsimp only [Ty.den, Mode.den, mdens] at hb
  refine ⟨rfl, ?_⟩
  have h4 : m.length ≤ 4 := mok_len4 hm
  replace hb : blkC m name block = 0 := hb
  refine sw_seq ?_
  refine sw_region hP 1 [] rfl (by kernel_rfl) (fun _ => by kernel_rfl) (by first | trivial | (simp [conj]; done) | (simp [conj] at *; (try dsimp only [Ty.den, Ty.dflt] at *); omega)) ?_
  refine sw_seq ?_
  refine sw_region hP 2 [] rfl (by kernel_rfl) (fun _ => by kernel_rfl) (by first | trivial | (simp [conj]; done) | (simp [conj] at *; (try dsimp only [Ty.den, Ty.dflt] at *); omega)) ?_
  refine sw_seq ?_
  refine sw_block ?_
  refine sw_seq ?_
  refine sw_region hP 3 [] rfl (by kernel_rfl) (fun _ => by kernel_rfl) (by first | trivial | (simp [conj]; done) | (simp [conj] at *; (try dsimp only [Ty.den, Ty.dflt] at *); omega)) ?_
  refine sw_cond rfl (fun c2 => ?_) (fun c2 => ?_)
  · skip
    replace c2 : (!(mget .str (idxV m) name).isSome) = true := c2
    rw [idx_isSome hm] at c2
    replace c2 : ¬ 0 ≤ findV m name := by simpa using c2
    have hv := blkC_no (block := block) c2
    rw [hv] at hb
    cases hb
  · skip
    replace c2 : (!(mget .str (idxV m) name).isSome) = false := c2
    rw [idx_isSome hm] at c2
    replace c2 : 0 ≤ findV m name := by simpa using c2
    obtain ⟨hk, hkn⟩ := find_name c2
    have h3 := mok_at hm hk
    have he : (mget .str (idxV m) name).getD (0 : Int) = findV m name := by rw [idx_some hm c2]; rfl
    refine sw_seq ?_
    refine sw_dec hP 4 [] 2 rfl (fun g4_2 => ?_) (fun g4_2 => ?_)
    · skip
      have hlo : block < 0 := of_decide_eq_true g4_2
      have hv := blkC_out (block := block) c2 (by omega)
      rw [hv] at hb
      cases hb
    · skip
      have hlo : ¬ block < 0 := of_decide_eq_false g4_2
      refine sw_region hP 4 [(2, false)] rfl (by kernel_rfl) (fun _ => by kernel_rfl) ?_ ?_
      · skip
        simp [conj, maxL] at *
        try dsimp only [Ty.den, Ty.dflt] at *
        try simp only [rd_eta] at *
        try first | assumption | omega
      refine sw_cond rfl (fun c4 => ?_) (fun c4 => ?_)
      · skip
        have hhi : 3 ≤ block := of_decide_eq_true c4
        have hv := blkC_out (block := block) c2 (by omega)
        rw [hv] at hb
        cases hb
      · skip
        have hhi : ¬ 3 ≤ block := of_decide_eq_false c4
        refine sw_skip ?_
        refine sw_seq ?_
        refine sw_region hP 5 [] rfl (by kernel_rfl) (fun _ => by kernel_rfl) ?_ ?_
        · skip
          simp [conj, maxL]
          try dsimp only [Ty.den, Ty.dflt]
          try simp only [rd_eta]
          simp only [he]
          simp only [List.getElem?_eq_getElem hk, Option.getD_some, h3]
          repeat' apply And.intro
          all_goals first | assumption | omega
        refine sw_ret ⟨.inl rfl, _, rfl, ?_⟩
        simp [conj, maxL]
        try dsimp only [Ty.den, Ty.dflt]
        try simp only [rd_eta]
        simp only [he]
        repeat' apply And.intro
        all_goals first | trivial | rfl | assumption | omega

def cBlkB : Ctr := ⟨37, [.ref T_Model (.all .w), .val false .str pF, .val false TI pF], fun x => mokV x.1 = true ∧ ¬ blkC x.1 x.2.1 x.2.2.1 = 0, fun x => (.tup [(false, [.nilp]), (false, [.d TI pF (blkC x.1 x.2.1 x.2.2.1)])], [(⟨0, 0, 0⟩, .var [.own ⟨1, 0, 0⟩]), (⟨1, 0, 0⟩, .sl T_Shelf (.all .w) x.1)])⟩
theorem cBlkB_ok : CtrOk Proofs.Try.prog cBlkB := by
  have hP := ((Prg.none ttok mtok).and cIndex_ok)
  refine ctr_of_body hP cBlkB (fn := Proofs.Try.f37) (rts := [.tmp 6, .tmp 7]) Proofs.Try.func37 rfl (by kernel_rfl) rfl rfl ?_
  rintro ⟨(m : List Shf), (name : Str), (block : Int), ⟨⟩⟩ _ ⟨hm, hb⟩
  try dsimp only [Ty.den, Mode.den, mdens] at hm
  try dsimp only [Ty.den, Mode.den, mdens] at hb
  refine ⟨rfl, ?_⟩
  have h4 : m.length ≤ 4 := mok_len4 hm
  replace hb : ¬ blkC m name block = 0 := hb
  refine sw_seq ?_
  refine sw_region hP 1 [] rfl (by kernel_rfl) (fun _ => by kernel_rfl) (by first | trivial | (simp [conj]; done) | (simp [conj] at *; (try dsimp only [Ty.den, Ty.dflt] at *); omega)) ?_
  refine sw_seq ?_
  refine sw_region hP 2 [] rfl (by kernel_rfl) (fun _ => by kernel_rfl) (by first | trivial | (simp [conj]; done) | (simp [conj] at *; (try dsimp only [Ty.den, Ty.dflt] at *); omega)) ?_
  refine sw_seq ?_
  refine sw_block ?_
  refine sw_seq ?_
  refine sw_region hP 3 [] rfl (by kernel_rfl) (fun _ => by kernel_rfl) (by first | trivial | (simp [conj]; done) | (simp [conj] at *; (try dsimp only [Ty.den, Ty.dflt] at *); omega)) ?_
  refine sw_cond rfl (fun c2 => ?_) (fun c2 => ?_)
  · skip
    replace c2 : (!(mget .str (idxV m) name).isSome) = true := c2
    rw [idx_isSome hm] at c2
    replace c2 : ¬ 0 ≤ findV m name := by simpa using c2
    have hv := blkC_no (block := block) c2
    refine sw_seq ?_
    refine sw_region hP 4 [] rfl (by kernel_rfl) (fun _ => by kernel_rfl) (by first | trivial | (simp [conj]; done) | (simp [conj] at *; (try dsimp only [Ty.den, Ty.dflt] at *); omega)) ?_
    refine sw_ret ⟨.inl rfl, _, rfl, ?_⟩
    simp only [hv]
    simp [conj, maxL]
    try dsimp only [Ty.den, Ty.dflt]
    try simp only [rd_eta]
    repeat' apply And.intro
    all_goals first | rfl | assumption | omega
  · skip
    replace c2 : (!(mget .str (idxV m) name).isSome) = false := c2
    rw [idx_isSome hm] at c2
    replace c2 : 0 ≤ findV m name := by simpa using c2
    obtain ⟨hk, hkn⟩ := find_name c2
    have h3 := mok_at hm hk
    have he : (mget .str (idxV m) name).getD (0 : Int) = findV m name := by rw [idx_some hm c2]; rfl
    refine sw_seq ?_
    refine sw_dec hP 4 [] 2 rfl (fun g4_2 => ?_) (fun g4_2 => ?_)
    · skip
      have hlo : block < 0 := of_decide_eq_true g4_2
      have hv := blkC_out (block := block) c2 (by omega)
      refine sw_region hP 4 [(2, true)] rfl (by kernel_rfl) (fun _ => by kernel_rfl) ?_ ?_
      · skip
        simp [conj, maxL] at *
        try dsimp only [Ty.den, Ty.dflt] at *
        try simp only [rd_eta] at *
        try first | assumption | omega
      refine sw_condT rfl ?_
      refine sw_seq ?_
      refine sw_region hP 5 [] rfl (by kernel_rfl) (fun _ => by kernel_rfl) (by first | trivial | (simp [conj]; done) | (simp [conj] at *; (try dsimp only [Ty.den, Ty.dflt] at *); omega)) ?_
      refine sw_ret ⟨.inl rfl, _, rfl, ?_⟩
      simp only [hv]
      simp [conj, maxL]
      try dsimp only [Ty.den, Ty.dflt]
      try simp only [rd_eta]
      repeat' apply And.intro
      all_goals first | rfl | assumption | omega
    · skip
      have hlo : ¬ block < 0 := of_decide_eq_false g4_2
      refine sw_region hP 4 [(2, false)] rfl (by kernel_rfl) (fun _ => by kernel_rfl) ?_ ?_
      · skip
        simp [conj, maxL] at *
        try dsimp only [Ty.den, Ty.dflt] at *
        try simp only [rd_eta] at *
        try first | assumption | omega
      refine sw_cond rfl (fun c4 => ?_) (fun c4 => ?_)
      · skip
        have hhi : 3 ≤ block := of_decide_eq_true c4
        have hv := blkC_out (block := block) c2 (by omega)
        refine sw_seq ?_
        refine sw_region hP 5 [] rfl (by kernel_rfl) (fun _ => by kernel_rfl) (by first | trivial | (simp [conj]; done) | (simp [conj] at *; (try dsimp only [Ty.den, Ty.dflt] at *); omega)) ?_
        refine sw_ret ⟨.inl rfl, _, rfl, ?_⟩
        simp only [hv]
        simp [conj, maxL]
        try dsimp only [Ty.den, Ty.dflt]
        try simp only [rd_eta]
        repeat' apply And.intro
        all_goals first | rfl | assumption | omega
      · skip
        have hhi : ¬ 3 ≤ block := of_decide_eq_false c4
        exact absurd (blkC_in c2 ⟨by omega, by omega⟩) hb

def cClWrite : Ctr := ⟨36, [.ref T_Model (.all .w), .rp .str pF, .rp TI pF, .rp .str pF], fun x => mokV x.1 = true, fun x => (sInt .i64 (clWrite x.2.1 x.2.2.1 x.2.2.2.1 x.1).2, [(⟨0, 0, 0⟩, .var [.own ⟨1, 0, 0⟩]), (⟨1, 0, 0⟩, .sl T_Shelf (.all .w) (clWrite x.2.1 x.2.2.1 x.2.2.2.1 x.1).1)])⟩
theorem cClWrite_ok : CtrOk Proofs.Try.prog cClWrite := by
  have hP := (Prg.none ttok mtok)
  refine ctr_of_body hP cClWrite (fn := Proofs.Try.f36) (rts := [.tmp 5]) Proofs.Try.func36 rfl (by kernel_rfl) rfl rfl ?_
  rintro ⟨(m : List Shf), (name : Str), (block : Int), (text : Str), ⟨⟩⟩ _ hpre
  try dsimp only [Ty.den, Mode.den, mdens] at hpre
  refine ⟨rfl, ?_⟩
  have hm : mokV m = true := hpre
  have h4 : m.length ≤ 4 := mok_len4 hm
  by_cases hb : blkC m name block = 0
  · skip
    have hP := ((Prg.none ttok mtok).and cBlkA_ok)
    obtain ⟨hf, hb0, hb3⟩ := blkC_zero hb
    obtain ⟨hk, hkn⟩ := find_name hf
    have h3 := mok_at hm hk
    refine sw_seq ?_
    refine sw_region hP 1 [] rfl (by kernel_rfl) (fun _ => by kernel_rfl) (by first | trivial | (simp [conj]; done) | (simp [conj] at *; (try dsimp only [Ty.den, Ty.dflt] at *); omega)) ?_
    refine sw_seq ?_
    refine sw_region hP 2 [] rfl (by kernel_rfl) (fun _ => by kernel_rfl) ?_ ?_
    · skip
      simp [conj, maxL]
      try dsimp only [Ty.den, Ty.dflt]
      try simp only [rd_eta]
      exact ⟨hm, hb⟩
    refine sw_seq ?_
    refine sw_block ?_
    refine sw_seq ?_
    refine sw_region hP 3 [] rfl (by kernel_rfl) (fun _ => by kernel_rfl) (by first | trivial | (simp [conj]; done) | (simp [conj] at *; (try dsimp only [Ty.den, Ty.dflt] at *); omega)) ?_
    refine sw_cond rfl (fun c2 => ?_) (fun c2 => ?_)
    · skip
      simp at c2
    · skip
      refine sw_seq ?_
      refine sw_region hP 4 [] rfl (by kernel_rfl) (fun _ => by kernel_rfl) (by first | trivial | (simp [conj]; done) | (simp [conj] at *; (try dsimp only [Ty.den, Ty.dflt] at *); omega)) ?_
      refine sw_cond rfl (fun c4 => ?_) (fun c4 => ?_)
      · skip
        replace c4 : 9 < text.length := by have h : (9 : Int) < (text.length : Nat) := of_decide_eq_true c4; omega
        have hv := clWrite_long hb c4
        refine sw_seq ?_
        refine sw_region hP 5 [] rfl (by kernel_rfl) (fun _ => by kernel_rfl) (by first | trivial | (simp [conj]; done) | (simp [conj] at *; (try dsimp only [Ty.den, Ty.dflt] at *); omega)) ?_
        refine sw_ret ⟨.inl rfl, _, rfl, ?_⟩
        simp only [hv]
        simp [conj, maxL]
        try dsimp only [Ty.den, Ty.dflt]
        try simp only [rd_eta]
        repeat' apply And.intro
        all_goals first | rfl | assumption | omega | trivial | exact set_self hk
      · skip
        replace c4 : ¬ 9 < text.length := by have h : ¬ (9 : Int) < (text.length : Nat) := of_decide_eq_false c4; omega
        have hv := clWrite_ok hb c4
        refine sw_skip ?_
        refine sw_seq ?_
        refine sw_region hP 5 [] rfl (by kernel_rfl) (fun _ => by kernel_rfl) ?_ ?_
        · skip
          simp [conj, maxL]
          try dsimp only [Ty.den, Ty.dflt]
          try simp only [rd_eta]
          simp only [List.getElem?_eq_getElem hk, Option.getD_some, h3]
          omega
        refine sw_seq ?_
        refine sw_region hP 6 [] rfl (by kernel_rfl) (fun _ => by kernel_rfl) (by first | trivial | (simp [conj]; done) | (simp [conj] at *; (try dsimp only [Ty.den, Ty.dflt] at *); omega)) ?_
        refine sw_ret ⟨.inl rfl, _, rfl, ?_⟩
        simp only [hv]
        simp [conj, maxL]
        try dsimp only [Ty.den, Ty.dflt]
        try simp only [rd_eta]
        repeat' apply And.intro
        all_goals first | rfl | assumption | omega | trivial | exact set_self hk
  · skip
    have hP := ((Prg.none ttok mtok).and cBlkB_ok)
    have hv := clWrite_no (text := text) hb
    refine sw_seq ?_
    refine sw_region hP 1 [] rfl (by kernel_rfl) (fun _ => by kernel_rfl) (by first | trivial | (simp [conj]; done) | (simp [conj] at *; (try dsimp only [Ty.den, Ty.dflt] at *); omega)) ?_
    refine sw_seq ?_
    refine sw_region hP 2 [] rfl (by kernel_rfl) (fun _ => by kernel_rfl) ?_ ?_
    · skip
      simp [conj, maxL]
      try dsimp only [Ty.den, Ty.dflt]
      try simp only [rd_eta]
      exact ⟨hm, hb⟩
    refine sw_seq ?_
    refine sw_block ?_
    refine sw_seq ?_
    refine sw_region hP 3 [] rfl (by kernel_rfl) (fun _ => by kernel_rfl) (by first | trivial | (simp [conj]; done) | (simp [conj] at *; (try dsimp only [Ty.den, Ty.dflt] at *); omega)) ?_
    refine sw_cond rfl (fun c2 => ?_) (fun c2 => ?_)
    · skip
      refine sw_seq ?_
      refine sw_region hP 4 [] rfl (by kernel_rfl) (fun _ => by kernel_rfl) (by first | trivial | (simp [conj]; done) | (simp [conj] at *; (try dsimp only [Ty.den, Ty.dflt] at *); omega)) ?_
      refine sw_ret ⟨.inl rfl, _, rfl, ?_⟩
      simp only [hv]
      simp [conj, maxL]
      try dsimp only [Ty.den, Ty.dflt]
      try simp only [rd_eta]
      repeat' apply And.intro
      all_goals first | rfl | assumption | omega | trivial | exact set_self hk
    · skip
      exact absurd (by simpa using c2) hb
end Go.Sx
