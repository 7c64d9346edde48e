import Derived.Test.YtoedlonlndafmaaME4
set_option linter.all false
namespace Go.Sx
open Go
set_option maxRecDepth 100000
set_option linter.unusedVariables false
set_option linter.unusedSimpArgs false

/-- 'add', handed the texts of one of the model's own shelves; j: what the caller calls them -/
def cAddX (m : List Shf) (k : Nat) (name nm : Str) (ls : List Str) (j : Id) : Xctr := ⟨34, [(⟨0, 0, 0⟩, ⟨0, 0, 0⟩, .var [.own ⟨0, 0, 1⟩]), (⟨0, 0, 1⟩, ⟨0, 0, 1⟩, .slo T_Shelf (.all .w) m k [.d .str pF nm, .own ⟨0, 0, 3⟩]), (j, ⟨0, 0, 3⟩, .sl .str (.all .w) ls)],
  [.v false [.ptr ⟨0, 0, 0⟩ 0], sStr name, .v false [.own ⟨0, 0, 3⟩]], (sInt .i64 (addI m name ls).2, [(⟨0, 0, 0⟩, .var [.own ⟨1, 0, 0⟩]), (⟨1, 0, 0⟩, .sl T_Shelf (.all .w) (addI m name ls).1)])⟩
theorem cAddX_ok {m : List Shf} {k : Nat} {name nm : Str} {ls : List Str} {j : Id} (hm : mokV m = true) (hset : m.set k ((nm, ls) : Shf) = m) (hl : ls.length ≤ 1000) : XOk Proofs.Try.prog (cAddX m k name nm ls j) := by
  have hP := ((((Prg.none ttok mtok).and cIndex_ok).and cVol_ok).and cCloneO_ok)
  refine xctr_of_body hP (cAddX m k name nm ls j) (fn := Proofs.Try.f34) (rts := [.tmp 6]) Proofs.Try.func34 rfl (by kernel_rfl) rfl rfl ?_
  refine ⟨rfl, ?_⟩
  have h4 : m.length ≤ 4 := mok_len4 hm
  refine sw_seq ?_
  refine sw_region hP 1 [] rfl (by kernel_rfl) (fun _ => by kernel_rfl) (by first | trivial | (simp [conj]; done) | (simp [conj] at *; (try dsimp only [Ty.den, Ty.dflt] at *); omega)) ?_
  refine sw_seq ?_
  refine sw_region hP 2 [] rfl (by kernel_rfl) (fun _ => by kernel_rfl) (by first | trivial | (simp [conj]; done) | (simp [conj] at *; (try dsimp only [Ty.den, Ty.dflt] at *); omega)) ?_
  refine sw_seq ?_
  refine sw_block ?_
  refine sw_seq ?_
  refine sw_dec hP 3 [] 1 rfl (fun g2_1 => ?_) (fun g2_1 => ?_)
  · skip
    have hs : (mget .str (idxV (m.set k ((nm, ls) : Shf))) name).isSome = true := g2_1
    replace g2_1 := hs
    rw [hset, idx_isSome hm] at g2_1
    replace g2_1 : 0 ≤ findV m name := of_decide_eq_true g2_1
    have hv := addI_there (l := ls) g2_1
    refine sw_region hP 3 [(1, true)] rfl (by kernel_rfl) (fun _ => by kernel_rfl) ?_ ?_
    · skip
      simp [conj, maxL]
      try dsimp only [Ty.den, Ty.dflt]
      try simp only [rd_eta]
      exact hs
    refine sw_condT rfl ?_
    refine sw_seq ?_
    refine sw_region hP 4 [] rfl (by kernel_rfl) (fun _ => by kernel_rfl) (by first | trivial | (simp [conj]; done) | (simp [conj] at *; (try dsimp only [Ty.den, Ty.dflt] at *); omega)) ?_
    refine sw_ret ⟨.inl rfl, _, rfl, ?_⟩
    simp only [hv]
    try simp only [hset]
    simp [conj, maxL]
    try dsimp only [Ty.den, Ty.dflt]
    try simp only [rd_eta]
    repeat' apply And.intro
    all_goals first | rfl | assumption | omega
  · skip
    replace g2_1 : (mget .str (idxV (m.set k ((nm, ls) : Shf))) name).isSome = false := g2_1
    rw [hset, idx_isSome hm] at g2_1
    replace g2_1 : ¬ 0 ≤ findV m name := of_decide_eq_false g2_1
    refine sw_region hP 3 [(1, false)] rfl (by kernel_rfl) (fun _ => by kernel_rfl) ?_ ?_
    · skip
      simp [conj, maxL]
      try dsimp only [Ty.den, Ty.dflt]
      try simp only [rd_eta]
      rw [hset]
      exact ⟨idx_none g2_1, trivial⟩
    refine sw_cond rfl (fun c2 => ?_) (fun c2 => ?_)
    · skip
      replace c2 : nameV name = false := by simpa using c2
      have hv := addI_bad (l := ls) (m := m) c2
      refine sw_seq ?_
      refine sw_region hP 4 [] rfl (by kernel_rfl) (fun _ => by kernel_rfl) (by first | trivial | (simp [conj]; done) | (simp [conj] at *; (try dsimp only [Ty.den, Ty.dflt] at *); omega)) ?_
      refine sw_ret ⟨.inl rfl, _, rfl, ?_⟩
      simp only [hv]
      try simp only [hset]
      simp [conj, maxL]
      try dsimp only [Ty.den, Ty.dflt]
      try simp only [rd_eta]
      repeat' apply And.intro
      all_goals first | rfl | assumption | omega
    · skip
      replace c2 : nameV name = true := by simpa using c2
      refine sw_seq ?_
      refine sw_region hP 4 [] rfl (by kernel_rfl) (fun _ => by kernel_rfl) (by first | trivial | (simp [conj]; done) | (simp [conj] at *; (try dsimp only [Ty.den, Ty.dflt] at *); omega)) ?_
      refine sw_cond rfl (fun c4 => ?_) (fun c4 => ?_)
      · skip
        replace c4 : m.length = 4 := by have h : ((m.length : Nat) : Int) = 4 := of_decide_eq_true c4; omega
        have hv := addI_full (l := ls) g2_1 c2 c4
        refine sw_seq ?_
        refine sw_region hP 5 [] rfl (by kernel_rfl) (fun _ => by kernel_rfl) (by first | trivial | (simp [conj]; done) | (simp [conj] at *; (try dsimp only [Ty.den, Ty.dflt] at *); omega)) ?_
        refine sw_ret ⟨.inl rfl, _, rfl, ?_⟩
        simp only [hv]
        try simp only [hset]
        simp [conj, maxL]
        try dsimp only [Ty.den, Ty.dflt]
        try simp only [rd_eta]
        repeat' apply And.intro
        all_goals first | rfl | assumption | omega
      · skip
        replace c4 : ¬ m.length = 4 := by have h : ¬ ((m.length : Nat) : Int) = 4 := of_decide_eq_false c4; omega
        have hv := addI_ok (l := ls) g2_1 c2 c4
        refine sw_skip ?_
        refine sw_seq ?_
        refine sw_region hP 5 [] rfl (by kernel_rfl) (fun _ => by kernel_rfl) ?_ ?_
        · skip
          simp [conj, maxL]
          try dsimp only [Ty.den, Ty.dflt]
          try simp only [rd_eta]
          refine ⟨?_, by omega⟩
          show ls.length ≤ 1099511627776
          omega
        refine sw_seq ?_
        refine sw_region hP 6 [] rfl (by kernel_rfl) (fun _ => by kernel_rfl) (by first | trivial | (simp [conj]; done) | (simp [conj] at *; (try dsimp only [Ty.den, Ty.dflt] at *); omega)) ?_
        refine sw_ret ⟨.inl rfl, _, rfl, ?_⟩
        simp only [hv]
        try simp only [hset]
        simp [conj, maxL]
        try dsimp only [Ty.den, Ty.dflt]
        try simp only [rd_eta]
        repeat' apply And.intro
        all_goals first | rfl | assumption | omega

def cClCopy : Ctr := ⟨38, [.ref T_Model (.all .w), .rp .str pF, .rp .str pF], fun x => mokV x.1 = true, fun x => (sInt .i64 (clCopy x.2.1 x.2.2.1 x.1).2, [(⟨0, 0, 0⟩, .var [.own ⟨1, 0, 0⟩]), (⟨1, 0, 0⟩, .sl T_Shelf (.all .w) (clCopy x.2.1 x.2.2.1 x.1).1)])⟩
theorem cClCopy_ok : CtrOk Proofs.Try.prog cClCopy := by
  have hP := ((Prg.none ttok mtok).and cIndex_ok)
  refine ctr_of_body hP cClCopy (fn := Proofs.Try.f38) (rts := [.tmp 4]) Proofs.Try.func38 rfl (by kernel_rfl) rfl rfl ?_
  rintro ⟨(m : List Shf), (frm : Str), (name : Str), ⟨⟩⟩ _ hpre
  try dsimp only [Ty.den, Mode.den, mdens] at hpre
  refine ⟨rfl, ?_⟩
  have hm : mokV m = true := hpre
  have h4 : m.length ≤ 4 := mok_len4 hm
  refine sw_seq ?_
  refine sw_region hP 1 [] rfl (by kernel_rfl) (fun _ => by kernel_rfl) (by first | trivial | (simp [conj]; done) | (simp [conj] at *; (try dsimp only [Ty.den, Ty.dflt] at *); omega)) ?_
  refine sw_seq ?_
  refine sw_region hP 2 [] rfl (by kernel_rfl) (fun _ => by kernel_rfl) (by first | trivial | (simp [conj]; done) | (simp [conj] at *; (try dsimp only [Ty.den, Ty.dflt] at *); omega)) ?_
  refine sw_seq ?_
  refine sw_seq ?_
  refine sw_region hP 3 [] rfl (by kernel_rfl) (fun _ => by kernel_rfl) (by first | trivial | (simp [conj]; done) | (simp [conj] at *; (try dsimp only [Ty.den, Ty.dflt] at *); omega)) ?_
  refine sw_cond rfl (fun c2 => ?_) (fun c2 => ?_)
  · skip
    replace c2 : (!(mget .str (idxV m) frm).isSome) = true := c2
    rw [idx_isSome hm] at c2
    replace c2 : ¬ 0 ≤ findV m frm := by simpa using c2
    have hv := clCopy_no (name := name) c2
    refine sw_seq ?_
    refine sw_region hP 4 [] rfl (by kernel_rfl) (fun _ => by kernel_rfl) (by first | trivial | (simp [conj]; done) | (simp [conj] at *; (try dsimp only [Ty.den, Ty.dflt] at *); omega)) ?_
    refine sw_ret ⟨.inl rfl, _, rfl, ?_⟩
    simp only [hv]
    simp [conj, maxL]
    try dsimp only [Ty.den, Ty.dflt]
    try simp only [rd_eta]
    repeat' apply And.intro
    all_goals first | rfl | trivial | assumption | omega
  · skip
    replace c2 : (!(mget .str (idxV m) frm).isSome) = false := c2
    rw [idx_isSome hm] at c2
    replace c2 : 0 ≤ findV m frm := by simpa using c2
    obtain ⟨hk, hkn⟩ := find_name c2
    have h3 := mok_at hm hk
    have he : (mget .str (idxV m) frm).getD (0 : Int) = findV m frm := by rw [idx_some hm c2]; rfl
    have hv := clCopy_ok (name := name) c2
    refine sw_skip ?_
    refine sw_seq ?_
    have hset : m.set (findV m frm).toNat ((m[(findV m frm).toNat].1, m[(findV m frm).toNat].2) : Shf) = m := List.set_getElem_self hk
    replace hP := hP.andX (cAddX_ok (name := name) (j := ⟨4, 9, 1⟩) hm hset (by omega))
    refine sw_region hP 4 [] rfl (by kernel_rfl) (fun _ => by kernel_rfl) ?_ ?_
    · skip
      simp [conj, maxL]
      try dsimp only [Ty.den, Ty.dflt]
      try simp only [rd_eta]
      simp only [he]
      simp only [List.getElem?_eq_getElem hk, Option.getD_some]
      repeat' apply And.intro
      all_goals first | rfl | trivial | assumption | omega | (show m[(findV m frm).toNat].2.length ≤ 1000; omega)
    refine sw_ret ⟨.inl rfl, _, rfl, ?_⟩
    simp only [hv]
    simp [conj, maxL]
    try dsimp only [Ty.den, Ty.dflt]
    try simp only [rd_eta]
    try simp only [he]
    simp only [List.getElem?_eq_getElem hk, Option.getD_some]
    repeat' apply And.intro
    all_goals first | rfl | trivial | assumption | omega

def cTCopy : Ctr := ⟨25, [.val true T_Model (.all .b), .clo 38 [(false, .str, pF), (false, .str, pF)]], fun x => mokV x.1 = mokV x.1, fun x => (.tup [(true, [.own ⟨1, 0, 0⟩]), (false, [.d TI pF (thoughtV (clCopy x.2.1.1 x.2.1.2.1) x.1).2])], [(⟨1, 0, 0⟩, .sl T_Shelf (.all .w) (thoughtV (clCopy x.2.1.1 x.2.1.2.1) x.1).1)])⟩

theorem cTCopy_ok : CtrOk Proofs.Try.prog cTCopy := by
  have hP := ((((Prg.none ttok mtok).and cOkI_ok).and cCopyI_ok).and cClCopy_ok)
  refine ctr_of_body hP cTCopy (fn := Proofs.Try.f25) (rts := [.cell 4 28, .tmp 5]) Proofs.Try.func25 rfl (by kernel_rfl) rfl rfl ?_
  rintro ⟨(m : List Shf), ⟨(frm : Str), (name : Str), ⟨⟩⟩, ⟨⟩⟩ _ hpr
  try dsimp only [Ty.den, Mode.den, mdens] at hpr
  refine ⟨rfl, ?_⟩
  refine sw_seq ?_
  refine sw_region hP 1 [] rfl (by kernel_rfl) (fun _ => by kernel_rfl) (by first | trivial | (simp [conj]; done) | (simp [conj] at *; (try dsimp only [Ty.den, Ty.dflt] at *); omega)) ?_
  refine sw_seq ?_
  refine sw_seq ?_
  refine sw_region hP 2 [] rfl (by kernel_rfl) (fun _ => by kernel_rfl) (by first | trivial | (simp [conj]; done) | (simp [conj] at *; (try dsimp only [Ty.den, Ty.dflt] at *); omega)) ?_
  refine sw_cond rfl (fun c1 => ?_) (fun c1 => ?_)
  · skip
    replace c1 : mokV m = false := by have h : (!mokV m) = true := c1; simpa using h
    have hv := thoughtV_bad (cl := clCopy frm name) c1
    refine sw_seq ?_
    refine sw_region hP 3 [] rfl (by kernel_rfl) (fun _ => by kernel_rfl) (by first | trivial | (simp [conj]; done) | (simp [conj] at *; (try dsimp only [Ty.den, Ty.dflt] at *); omega)) ?_
    refine sw_ret ⟨.inl rfl, _, rfl, ?_⟩
    simp only [hv]
    simp [conj, maxL]
    try dsimp only [Ty.den, Ty.dflt]
    try simp only [rd_eta]
    repeat' apply And.intro
    all_goals first | rfl | assumption | omega | trivial
  · skip
    replace c1 : mokV m = true := by have h : (!mokV m) = false := c1; simpa using h
    refine sw_skip ?_
    refine sw_seq ?_
    refine sw_region hP 3 [] rfl (by kernel_rfl) (fun _ => by kernel_rfl) ?_ ?_
    · skip
      simp [conj, maxL]
      try dsimp only [Ty.den, Ty.dflt]
      try simp only [rd_eta]
      exact c1
    refine sw_seq ?_
    refine sw_seq ?_
    refine sw_region hP 4 [] rfl (by kernel_rfl) (fun _ => by kernel_rfl) ?_ ?_
    · skip
      simp [conj, maxL]
      try dsimp only [Ty.den, Ty.dflt]
      try simp only [rd_eta]
      exact c1
    refine sw_seq ?_
    refine sw_region hP 5 [] rfl (by kernel_rfl) (fun _ => by kernel_rfl) (by first | trivial | (simp [conj]; done) | (simp [conj] at *; (try dsimp only [Ty.den, Ty.dflt] at *); omega)) ?_
    refine sw_cond rfl (fun c5 => ?_) (fun c5 => ?_)
    · skip
      replace c5 : ¬ ((clCopy frm name) m).2 = 0 := by have h : (!decide (((clCopy frm name) m).2 = 0)) = true := c5; simpa using h
      have hv := thoughtV_no c1 c5
      refine sw_seq ?_
      refine sw_region hP 6 [] rfl (by kernel_rfl) (fun _ => by kernel_rfl) ?_ ?_
      · skip
        simp [conj, maxL]
        try dsimp only [Ty.den, Ty.dflt]
        try simp only [rd_eta]
        exact c1
      refine sw_ret ⟨.inl rfl, _, rfl, ?_⟩
      simp only [hv]
      simp [conj, maxL]
      try dsimp only [Ty.den, Ty.dflt]
      try simp only [rd_eta]
      repeat' apply And.intro
      all_goals first | rfl | assumption | omega | trivial
    · skip
      replace c5 : ((clCopy frm name) m).2 = 0 := by have h : (!decide (((clCopy frm name) m).2 = 0)) = false := c5; simpa using h
      have hv := thoughtV_ok c1 c5
      refine sw_skip ?_
      refine sw_seq ?_
      refine sw_region hP 6 [] rfl (by kernel_rfl) (fun _ => by kernel_rfl) (by first | trivial | (simp [conj]; done) | (simp [conj] at *; (try dsimp only [Ty.den, Ty.dflt] at *); omega)) ?_
      refine sw_ret ⟨.inl rfl, _, rfl, ?_⟩
      simp only [hv]
      simp [conj, maxL]
      try dsimp only [Ty.den, Ty.dflt]
      try simp only [rd_eta]
      repeat' apply And.intro
      all_goals first | rfl | assumption | omega | trivial

def cICopy : Ctr := ⟨19, [.val true T_Model (.all .b), .val false .str pF, .val false .str pF], fun _ => True, fun x => (.tup [(true, [.own ⟨1, 0, 0⟩]), (false, [.d TI pF (thoughtV (clCopy x.2.1 x.2.2.1) x.1).2])], [(⟨1, 0, 0⟩, .sl T_Shelf (.all .w) (thoughtV (clCopy x.2.1 x.2.2.1) x.1).1)])⟩

theorem cICopy_ok : CtrOk Proofs.Try.prog cICopy := by
  have hP := ((Prg.none ttok mtok).and cTCopy_ok)
  refine ctr_of_body hP cICopy (fn := Proofs.Try.f19) (rts := [.cell 6 28, .tmp 7]) Proofs.Try.func19 rfl (by kernel_rfl) rfl rfl ?_
  rintro ⟨(m : List Shf), (frm : Str), (name : Str), ⟨⟩⟩ _ hpre
  try dsimp only [Ty.den, Mode.den, mdens] at hpre
  refine ⟨rfl, ?_⟩
  refine sw_seq ?_
  refine sw_region hP 1 [] rfl (by kernel_rfl) (fun _ => by kernel_rfl) (by first | trivial | (simp [conj]; done) | (simp [conj] at *; (try dsimp only [Ty.den, Ty.dflt] at *); omega)) ?_
  refine sw_seq ?_
  refine sw_region hP 2 [] rfl (by kernel_rfl) (fun _ => by kernel_rfl) ?_ ?_
  · skip
    exact rfl
  refine sw_ret ⟨.inl rfl, _, rfl, ?_⟩
  simp [conj, maxL]
  try dsimp only [Ty.den, Ty.dflt]
  try simp only [rd_eta]
  repeat' apply And.intro
  all_goals first | rfl | assumption | omega | trivial
end Go.Sx
