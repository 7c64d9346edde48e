import Derived.Test.YtoedlonlndafmaaMVol2
import Derived.Test.YtoedlonlndafmaaMPi
set_option linter.all false
namespace Go.Sx
open Go
set_option maxRecDepth 100000
set_option linter.unusedVariables false
set_option linter.unusedSimpArgs false

def cLong : Ctr := ⟨55, [.val false .str pF], fun _ => True, fun x => (sBool (decide (9 < List.length x.1)), [])⟩
theorem cLong_ok : CtrOk Proofs.Try.prog cLong := by
  have hP := (Prg.none ttok mtok)
  refine ctr_of_body hP cLong (fn := Proofs.Try.f55) (rts := [.tmp 2]) Proofs.Try.func55 rfl (by kernel_rfl) rfl rfl ?_
  rintro ⟨(s : Str), ⟨⟩⟩ ⟨hds, _⟩ hpre
  try dsimp only [Ty.den, Mode.den, mdens] at hpre
  refine ⟨rfl, ?_⟩
  have hml : s.length ≤ 140737488355328 := hds
  refine sw_seq ?_
  refine sw_region hP 1 [] rfl (by kernel_rfl) (fun _ => by kernel_rfl) (by first | trivial | (simp [conj]; done) | (simp [conj] at *; (try dsimp only [Ty.den, Ty.dflt] at *); omega)) ?_
  refine sw_seq ?_
  refine sw_region hP 2 [] rfl (by kernel_rfl) (fun _ => by kernel_rfl) (by first | trivial | (simp [conj]; done) | (simp [conj] at *; (try dsimp only [Ty.den, Ty.dflt] at *); omega)) ?_
  refine sw_ret ⟨.inl rfl, _, rfl, ?_⟩
  first | trivial | (simp [conj]; done) | (simp [conj] at *; (try dsimp only [Ty.den, Ty.dflt] at *); omega)

def cIdxT : Ctr := ⟨59, [.val false (.sl .str) (.all .b), .clo 55 []], fun _ => True, fun x => (sInt .i64 (idxF longS x.1), [])⟩
theorem cIdxT_ok : CtrOk Proofs.Try.prog cIdxT := by
  have hP := ((Prg.none ttok mtok).and cLong_ok)
  refine ctr_of_body hP cIdxT (fn := Proofs.Try.f59) (rts := [.tmp 4]) Proofs.Try.func59 rfl (by kernel_rfl) rfl rfl ?_
  rintro ⟨(l : List Str), ⟨⟩, ⟨⟩⟩ ⟨hdl, _⟩ hpre
  try dsimp only [Ty.den, Mode.den, mdens] at hpre
  refine ⟨rfl, ?_⟩
  have hml : l.length ≤ 140737488355328 := hdl.1
  refine sw_seq ?_
  refine sw_region hP 1 [] rfl (by kernel_rfl) (fun _ => by kernel_rfl) (by first | trivial | (simp [conj]; done) | (simp [conj] at *; (try dsimp only [Ty.den, Ty.dflt] at *); omega)) ?_
  refine sw_seq ?_
  refine sw_seq ?_
  refine sw_region hP 2 [] rfl (by kernel_rfl) (fun _ => by kernel_rfl) (by first | trivial | (simp [conj]; done) | (simp [conj] at *; (try dsimp only [Ty.den, Ty.dflt] at *); omega)) ?_
  refine sw_block ?_
  refine sw_loop (ι := Nat) (fun i => ⟨[.v false [.d (.sl .str) (.all .b) l], .fn 55 [], .junk, .junk, .junk, .junk, .junk, sInt .i64 (l.length : Int), sInt .i64 (i : Int), .junk, .junk, .junk, .junk, .junk, .junk, .junk, .junk, .junk, .junk], [], 2, []⟩) (fun i => l.length - i) (fun i => i ≤ l.length ∧ idxFGo longS (l.drop i) i = idxF longS l) 0 ⟨?_, ?_⟩ ?_
  · skip
    exact ⟨Nat.zero_le _, rfl⟩
  · refine ent_ok rfl ?_
    first | trivial | (simp [conj]; done) | (simp [conj] at *; (try dsimp only [Ty.den, Ty.dflt] at *); omega)
  · rintro i ⟨hi, hgo⟩
    refine sw_seq ?_
    refine sw_region hP 3 [] rfl (by kernel_rfl) (fun _ => by kernel_rfl) (by first | trivial | (simp [conj]; done) | (simp [conj] at *; (try dsimp only [Ty.den, Ty.dflt] at *); omega)) ?_
    refine sw_seq ?_
    refine sw_cond rfl (fun c2 => ?_) (fun c2 => ?_)
    · skip
      have hlt : i < l.length := by simpa using c2
      refine sw_skip ?_
      refine sw_seq ?_
      refine sw_block ?_
      refine sw_seq ?_
      refine sw_region hP 4 [] rfl (by kernel_rfl) (fun _ => by kernel_rfl) (by first | trivial | (simp [conj]; done) | (simp [conj] at *; (try dsimp only [Ty.den, Ty.dflt] at *); omega)) ?_
      refine sw_seq ?_
      refine sw_region hP 5 [] rfl (by kernel_rfl) (fun _ => by kernel_rfl) ?_ ?_
      · skip
        simp [conj, maxL]
        try dsimp only [Ty.den, Ty.dflt]
        try simp only [rd_eta]
        repeat' apply And.intro
        all_goals first | assumption | omega | exact trivial
      refine sw_cond rfl (fun c4 => ?_) (fun c4 => ?_)
      · skip
        refine sw_seq ?_
        refine sw_region hP 6 [] rfl (by kernel_rfl) (fun _ => by kernel_rfl) (by first | trivial | (simp [conj]; done) | (simp [conj] at *; (try dsimp only [Ty.den, Ty.dflt] at *); omega)) ?_
        refine sw_ret ⟨.inl rfl, _, rfl, ?_⟩
        first | (simp [List.getElem?_eq_getElem hlt] at c4; simp [conj, idxF_hit hlt hgo (by first | simpa using c4 | (simp [longS]; omega))]; done) | (simp [conj, idxF_end hgo]; done)
      · skip
        refine sw_skip ?_
        refine sw_region hP 6 [] rfl (by kernel_rfl) (fun _ => by kernel_rfl) (by first | trivial | (simp [conj]; done) | (simp [conj] at *; (try dsimp only [Ty.den, Ty.dflt] at *); omega)) ?_
        refine ⟨i + 1, ?_, ?_, ent_ok rfl ?_⟩
        · skip
          simp [List.getElem?_eq_getElem hlt] at c4
          exact ⟨hlt, idxF_next hlt hgo (by first | simpa using c4 | (simp [longS]; omega))⟩
        · skip
          omega
        · skip
          simp [conj, maxL]
          try dsimp only [Ty.den, Ty.dflt]
          try simp only [rd_eta]
          repeat' apply And.intro
          all_goals first | rfl | assumption | omega
    · skip
      obtain rfl : i = l.length := by simp at c2; omega
      refine sw_exit ?_
      refine sw_seq ?_
      refine sw_region hP 4 [] rfl (by kernel_rfl) (fun _ => by kernel_rfl) (by first | trivial | (simp [conj]; done) | (simp [conj] at *; (try dsimp only [Ty.den, Ty.dflt] at *); omega)) ?_
      refine sw_ret ⟨.inl rfl, _, rfl, ?_⟩
      first | (simp [List.getElem?_eq_getElem hlt] at c4; simp [conj, idxF_hit hlt hgo (by first | simpa using c4 | (simp [longS]; omega))]; done) | (simp [conj, idxF_end hgo]; done)

def cContT : Ctr := ⟨54, [.val false (.sl .str) (.all .b), .clo 55 []], fun _ => True, fun x => (sBool (List.any x.1 longS), [])⟩
theorem cContT_ok : CtrOk Proofs.Try.prog cContT := by
  have hP := ((Prg.none ttok mtok).and cIdxT_ok)
  refine ctr_of_body hP cContT (fn := Proofs.Try.f54) (rts := [.tmp 4]) Proofs.Try.func54 rfl (by kernel_rfl) rfl rfl ?_
  rintro ⟨(l : List Str), ⟨⟩, ⟨⟩⟩ _ hpre
  try dsimp only [Ty.den, Mode.den, mdens] at hpre
  refine ⟨rfl, ?_⟩
  refine sw_seq ?_
  refine sw_region hP 1 [] rfl (by kernel_rfl) (fun _ => by kernel_rfl) (by first | trivial | (simp [conj]; done) | (simp [conj] at *; (try dsimp only [Ty.den, Ty.dflt] at *); omega)) ?_
  refine sw_seq ?_
  refine sw_region hP 2 [] rfl (by kernel_rfl) (fun _ => by kernel_rfl) (by first | trivial | (simp [conj]; done) | (simp [conj] at *; (try dsimp only [Ty.den, Ty.dflt] at *); omega)) ?_
  refine sw_ret ⟨.inl rfl, _, rfl, ?_⟩
  simp [conj]
  exact idxF_any

def cBad : Ctr := ⟨53, [.val true T_Shelf (.all .b)], fun _ => True, fun x => (sBool (badS x.1), [])⟩
theorem cBad_ok : CtrOk Proofs.Try.prog cBad := by
  have hP := (((Prg.none ttok mtok).and cContT_ok).and cVol_ok)
  refine ctr_of_body hP cBad (fn := Proofs.Try.f53) (rts := [.tmp 2]) Proofs.Try.func53 rfl (by kernel_rfl) rfl rfl ?_
  rintro ⟨⟨(nm : Str), (l : List Str)⟩, ⟨⟩⟩ ⟨hdl, _⟩ hpre
  try dsimp only [Ty.den, Mode.den, mdens] at hpre
  refine ⟨rfl, ?_⟩
  have hml : l.length ≤ 140737488355328 := hdl.2.1
  refine sw_seq ?_
  refine sw_region hP 1 [] rfl (by kernel_rfl) (fun _ => by kernel_rfl) (by first | trivial | (simp [conj]; done) | (simp [conj] at *; (try dsimp only [Ty.den, Ty.dflt] at *); omega)) ?_
  refine sw_seq ?_
  refine sw_region hP 2 [] rfl (by kernel_rfl) (fun _ => by kernel_rfl) (by first | trivial | (simp [conj]; done) | (simp [conj] at *; (try dsimp only [Ty.den, Ty.dflt] at *); omega)) ?_
  refine sw_seq ?_
  refine sw_dec hP 3 [] 4 rfl (fun g2_4 => ?_) (fun g2_4 => ?_)
  · skip
    refine sw_region hP 3 [(4, true)] rfl (by kernel_rfl) (fun _ => by kernel_rfl) (by first | trivial | (simp [conj]; done) | (simp [conj] at *; (try dsimp only [Ty.den, Ty.dflt] at *); omega)) ?_
    refine sw_ret ⟨.inl rfl, _, rfl, ?_⟩
    simp [conj] at *
    simp [badS_eq, *]
    try first | exact .inl (by omega) | (intro h; omega)
  · skip
    refine sw_dec hP 3 [(4, false)] 10 rfl (fun g2_10 => ?_) (fun g2_10 => ?_)
    · skip
      refine sw_region hP 3 [(4, false), (10, true)] rfl (by kernel_rfl) (fun _ => by kernel_rfl) (by first | trivial | (simp [conj]; done) | (simp [conj] at *; (try dsimp only [Ty.den, Ty.dflt] at *); omega)) ?_
      refine sw_ret ⟨.inl rfl, _, rfl, ?_⟩
      simp [conj] at *
      simp [badS_eq, *]
      try first | exact .inl (by omega) | (intro h; omega)
    · skip
      refine sw_region hP 3 [(4, false), (10, false)] rfl (by kernel_rfl) (fun _ => by kernel_rfl) (by first | trivial | (simp [conj]; done) | (simp [conj] at *; (try dsimp only [Ty.den, Ty.dflt] at *); omega)) ?_
      refine sw_ret ⟨.inl rfl, _, rfl, ?_⟩
      simp [conj] at *
      simp [badS_eq, *]
      try first | exact .inl (by omega) | (intro h; omega)

def cIdxS : Ctr := ⟨58, [.val false (.sl T_Shelf) (.all .b), .clo 53 []], fun _ => True, fun x => (sInt .i64 (idxF badS x.1), [])⟩
theorem cIdxS_ok : CtrOk Proofs.Try.prog cIdxS := by
  have hP := ((Prg.none ttok mtok).and cBad_ok)
  refine ctr_of_body hP cIdxS (fn := Proofs.Try.f58) (rts := [.tmp 4]) Proofs.Try.func58 rfl (by kernel_rfl) rfl rfl ?_
  rintro ⟨(l : List Shf), ⟨⟩, ⟨⟩⟩ ⟨hdl, _⟩ hpre
  try dsimp only [Ty.den, Mode.den, mdens] at hpre
  refine ⟨rfl, ?_⟩
  have hml : l.length ≤ 140737488355328 := hdl.1
  refine sw_seq ?_
  refine sw_region hP 1 [] rfl (by kernel_rfl) (fun _ => by kernel_rfl) (by first | trivial | (simp [conj]; done) | (simp [conj] at *; (try dsimp only [Ty.den, Ty.dflt] at *); omega)) ?_
  refine sw_seq ?_
  refine sw_seq ?_
  refine sw_region hP 2 [] rfl (by kernel_rfl) (fun _ => by kernel_rfl) (by first | trivial | (simp [conj]; done) | (simp [conj] at *; (try dsimp only [Ty.den, Ty.dflt] at *); omega)) ?_
  refine sw_block ?_
  refine sw_loop (ι := Nat) (fun i => ⟨[.v false [.d (.sl T_Shelf) (.all .b) l], .fn 53 [], .junk, .junk, .junk, .junk, .junk, sInt .i64 (l.length : Int), sInt .i64 (i : Int), .junk, .junk, .junk, .junk, .junk, .junk, .junk, .junk, .junk, .junk], [], 2, []⟩) (fun i => l.length - i) (fun i => i ≤ l.length ∧ idxFGo badS (l.drop i) i = idxF badS l) 0 ⟨?_, ?_⟩ ?_
  · skip
    exact ⟨Nat.zero_le _, rfl⟩
  · refine ent_ok rfl ?_
    first | trivial | (simp [conj]; done) | (simp [conj] at *; (try dsimp only [Ty.den, Ty.dflt] at *); omega)
  · rintro i ⟨hi, hgo⟩
    refine sw_seq ?_
    refine sw_region hP 3 [] rfl (by kernel_rfl) (fun _ => by kernel_rfl) (by first | trivial | (simp [conj]; done) | (simp [conj] at *; (try dsimp only [Ty.den, Ty.dflt] at *); omega)) ?_
    refine sw_seq ?_
    refine sw_cond rfl (fun c2 => ?_) (fun c2 => ?_)
    · skip
      have hlt : i < l.length := by simpa using c2
      refine sw_skip ?_
      refine sw_seq ?_
      refine sw_block ?_
      refine sw_seq ?_
      refine sw_region hP 4 [] rfl (by kernel_rfl) (fun _ => by kernel_rfl) (by first | trivial | (simp [conj]; done) | (simp [conj] at *; (try dsimp only [Ty.den, Ty.dflt] at *); omega)) ?_
      refine sw_seq ?_
      refine sw_region hP 5 [] rfl (by kernel_rfl) (fun _ => by kernel_rfl) ?_ ?_
      · skip
        simp [conj, maxL]
        try dsimp only [Ty.den, Ty.dflt]
        try simp only [rd_eta]
        repeat' apply And.intro
        all_goals first | assumption | omega | exact trivial
      refine sw_cond rfl (fun c4 => ?_) (fun c4 => ?_)
      · skip
        refine sw_seq ?_
        refine sw_region hP 6 [] rfl (by kernel_rfl) (fun _ => by kernel_rfl) (by first | trivial | (simp [conj]; done) | (simp [conj] at *; (try dsimp only [Ty.den, Ty.dflt] at *); omega)) ?_
        refine sw_ret ⟨.inl rfl, _, rfl, ?_⟩
        first | (simp [List.getElem?_eq_getElem hlt] at c4; simp [conj, idxF_hit hlt hgo (by first | simpa using c4 | (simp [longS]; omega))]; done) | (simp [conj, idxF_end hgo]; done)
      · skip
        refine sw_skip ?_
        refine sw_region hP 6 [] rfl (by kernel_rfl) (fun _ => by kernel_rfl) (by first | trivial | (simp [conj]; done) | (simp [conj] at *; (try dsimp only [Ty.den, Ty.dflt] at *); omega)) ?_
        refine ⟨i + 1, ?_, ?_, ent_ok rfl ?_⟩
        · skip
          simp [List.getElem?_eq_getElem hlt] at c4
          exact ⟨hlt, idxF_next hlt hgo (by first | simpa using c4 | (simp [longS]; omega))⟩
        · skip
          omega
        · skip
          simp [conj, maxL]
          try dsimp only [Ty.den, Ty.dflt]
          try simp only [rd_eta]
          repeat' apply And.intro
          all_goals first | rfl | assumption | omega
    · skip
      obtain rfl : i = l.length := by simp at c2; omega
      refine sw_exit ?_
      refine sw_seq ?_
      refine sw_region hP 4 [] rfl (by kernel_rfl) (fun _ => by kernel_rfl) (by first | trivial | (simp [conj]; done) | (simp [conj] at *; (try dsimp only [Ty.den, Ty.dflt] at *); omega)) ?_
      refine sw_ret ⟨.inl rfl, _, rfl, ?_⟩
      first | (simp [List.getElem?_eq_getElem hlt] at c4; simp [conj, idxF_hit hlt hgo (by first | simpa using c4 | (simp [longS]; omega))]; done) | (simp [conj, idxF_end hgo]; done)

def cContS : Ctr := ⟨52, [.val false (.sl T_Shelf) (.all .b), .clo 53 []], fun _ => True, fun x => (sBool (List.any x.1 badS), [])⟩
theorem cContS_ok : CtrOk Proofs.Try.prog cContS := by
  have hP := ((Prg.none ttok mtok).and cIdxS_ok)
  refine ctr_of_body hP cContS (fn := Proofs.Try.f52) (rts := [.tmp 4]) Proofs.Try.func52 rfl (by kernel_rfl) rfl rfl ?_
  rintro ⟨(l : List Shf), ⟨⟩, ⟨⟩⟩ _ hpre
  try dsimp only [Ty.den, Mode.den, mdens] at hpre
  refine ⟨rfl, ?_⟩
  refine sw_seq ?_
  refine sw_region hP 1 [] rfl (by kernel_rfl) (fun _ => by kernel_rfl) (by first | trivial | (simp [conj]; done) | (simp [conj] at *; (try dsimp only [Ty.den, Ty.dflt] at *); omega)) ?_
  refine sw_seq ?_
  refine sw_region hP 2 [] rfl (by kernel_rfl) (fun _ => by kernel_rfl) (by first | trivial | (simp [conj]; done) | (simp [conj] at *; (try dsimp only [Ty.den, Ty.dflt] at *); omega)) ?_
  refine sw_ret ⟨.inl rfl, _, rfl, ?_⟩
  simp [conj]
  exact idxF_any

def cIndex : Ctr := ⟨27, [.val true T_Model (.all .b)], fun _ => True, fun x => (.v false [.own ⟨1, 0, 0⟩], [(⟨1, 0, 0⟩, .mp false false .str TI mapF (idxV x.1))])⟩
theorem cIndex_ok : CtrOk Proofs.Try.prog cIndex := by
  have hP := (Prg.none ttok mtok)
  refine ctr_of_body hP cIndex (fn := Proofs.Try.f27) (rts := [.tmp 2]) Proofs.Try.func27 rfl (by kernel_rfl) rfl rfl ?_
  rintro ⟨(m : List Shf), ⟨⟩⟩ ⟨hdm, _⟩ hpre
  try dsimp only [Ty.den, Mode.den, mdens] at hpre
  refine ⟨rfl, ?_⟩
  have hml : m.length ≤ 140737488355328 := hdm.1
  refine sw_seq ?_
  refine sw_region hP 1 [] rfl (by kernel_rfl) (fun _ => by kernel_rfl) (by first | trivial | (simp [conj]; done) | (simp [conj] at *; (try dsimp only [Ty.den, Ty.dflt] at *); omega)) ?_
  refine sw_seq ?_
  refine sw_region hP 2 [] rfl (by kernel_rfl) (fun _ => by kernel_rfl) (by first | trivial | (simp [conj]; done) | (simp [conj] at *; (try dsimp only [Ty.den, Ty.dflt] at *); omega)) ?_
  refine sw_seq ?_
  refine sw_seq ?_
  refine sw_region hP 3 [] rfl (by kernel_rfl) (fun _ => by kernel_rfl) (by first | trivial | (simp [conj]; done) | (simp [conj] at *; (try dsimp only [Ty.den, Ty.dflt] at *); omega)) ?_
  refine sw_block ?_
  refine sw_loop (ι := Nat × List (Str × Int)) (fun ⟨i, acc⟩ => ⟨[.junk, .v false [.ptr ⟨1, 0, 0⟩ 0], .junk, .v false [.own ⟨2, 0, 0⟩], .junk, .junk, .junk, .junk, .v false [.d (.sl T_Shelf) (.all .b) m], sInt .i64 (m.length : Int), sInt .i64 (i : Int), .junk, .junk, .junk, .junk, .junk, .junk, .junk, .junk, .junk, .junk], [(⟨1, 0, 0⟩, .var [.d T_Model (.all .b) m]), (⟨2, 0, 0⟩, .mp false false .str TI mapF acc)], 3, []⟩) (fun ⟨i, acc⟩ => m.length - i) (fun ⟨i, acc⟩ => i ≤ m.length ∧ idxGo (m.drop i) i acc = idxV m) (0, []) ⟨?_, ?_⟩ ?_
  · skip
    exact ⟨Nat.zero_le _, rfl⟩
  · refine ent_ok rfl ?_
    first | trivial | (simp [conj]; done) | (simp [conj] at *; (try dsimp only [Ty.den, Ty.dflt] at *); omega)
  · rintro ⟨i, acc⟩ ⟨hi, hgo⟩
    refine sw_seq ?_
    refine sw_region hP 4 [] rfl (by kernel_rfl) (fun _ => by kernel_rfl) (by first | trivial | (simp [conj]; done) | (simp [conj] at *; (try dsimp only [Ty.den, Ty.dflt] at *); omega)) ?_
    refine sw_seq ?_
    refine sw_cond rfl (fun c3 => ?_) (fun c3 => ?_)
    · skip
      have hlt : i < m.length := by simpa using c3
      refine sw_skip ?_
      refine sw_seq ?_
      refine sw_block ?_
      refine sw_seq ?_
      refine sw_region hP 5 [] rfl (by kernel_rfl) (fun _ => by kernel_rfl) (by first | trivial | (simp [conj]; done) | (simp [conj] at *; (try dsimp only [Ty.den, Ty.dflt] at *); omega)) ?_
      refine sw_region hP 6 [] rfl (by kernel_rfl) (fun _ => by kernel_rfl) (by first | trivial | (simp [conj]; done) | (simp [conj] at *; (try dsimp only [Ty.den, Ty.dflt] at *); omega)) ?_
      refine sw_region hP 7 [] rfl (by kernel_rfl) (fun _ => by kernel_rfl) (by first | trivial | (simp [conj]; done) | (simp [conj] at *; (try dsimp only [Ty.den, Ty.dflt] at *); omega)) ?_
      refine ⟨(i + 1, mset .str acc m[i].1 (i : Int)), ?_, ?_, ent_ok rfl ?_⟩
      · skip
        exact ⟨hlt, idx_next hlt hgo⟩
      · skip
        show m.length - (i + 1) < m.length - i
        omega
      · skip
        simp [conj, maxL]
        try dsimp only [Ty.den, Ty.dflt]
        try simp only [rd_eta]
        try simp [List.getElem?_eq_getElem hlt]
    · skip
      obtain rfl : i = m.length := by simp at c3; omega
      refine sw_exit ?_
      refine sw_seq ?_
      refine sw_region hP 5 [] rfl (by kernel_rfl) (fun _ => by kernel_rfl) (by first | trivial | (simp [conj]; done) | (simp [conj] at *; (try dsimp only [Ty.den, Ty.dflt] at *); omega)) ?_
      refine sw_ret ⟨.inl rfl, _, rfl, ?_⟩
      have hv := idx_end hgo
      subst hv
      simp [conj, maxL]
      try dsimp only [Ty.den, Ty.dflt]
      try simp only [rd_eta]
      repeat' apply And.intro
      all_goals first | rfl | assumption | omega

def cOkI : Ctr := ⟨42, [.val true T_Model (.all .b)], fun _ => True, fun x => (sBool (mokV x.1), [])⟩
theorem cOkI_ok : CtrOk Proofs.Try.prog cOkI := by
  have hP := (((Prg.none ttok mtok).and cIndex_ok).and cContS_ok)
  refine ctr_of_body hP cOkI (fn := Proofs.Try.f42) (rts := [.tmp 2]) Proofs.Try.func42 rfl (by kernel_rfl) rfl rfl ?_
  rintro ⟨(m : List Shf), ⟨⟩⟩ ⟨hdm, _⟩ hpre
  try dsimp only [Ty.den, Mode.den, mdens] at hpre
  refine ⟨rfl, ?_⟩
  have hml : m.length ≤ 140737488355328 := hdm.1
  have hil : (idxV m).length ≤ m.length := idxV_len
  refine sw_seq ?_
  refine sw_region hP 1 [] rfl (by kernel_rfl) (fun _ => by kernel_rfl) (by first | trivial | (simp [conj]; done) | (simp [conj] at *; (try dsimp only [Ty.den, Ty.dflt] at *); omega)) ?_
  refine sw_seq ?_
  refine sw_seq ?_
  refine sw_dec hP 2 [] 4 rfl (fun g1_4 => ?_) (fun g1_4 => ?_)
  · skip
    refine sw_region hP 2 [(4, true)] rfl (by kernel_rfl) (fun _ => by kernel_rfl) ?_ ?_
    · skip
      simp [conj, maxL] at *
      try dsimp only [Ty.den, Ty.dflt] at *
      try simp only [rd_eta] at *
      repeat' apply And.intro
      all_goals first | assumption | omega | exact trivial
    refine sw_condT rfl ?_
    refine sw_seq ?_
    refine sw_region hP 3 [] rfl (by kernel_rfl) (fun _ => by kernel_rfl) (by first | trivial | (simp [conj]; done) | (simp [conj] at *; (try dsimp only [Ty.den, Ty.dflt] at *); omega)) ?_
    refine sw_ret ⟨.inl rfl, _, rfl, ?_⟩
    rw [← okI_eq]
    simp [conj] at *
    first | (simp [okI, *]; done) | (simp [okI]; omega)
  · skip
    refine sw_region hP 2 [(4, false)] rfl (by kernel_rfl) (fun _ => by kernel_rfl) ?_ ?_
    · skip
      simp [conj, maxL] at *
      try dsimp only [Ty.den, Ty.dflt] at *
      try simp only [rd_eta] at *
      repeat' apply And.intro
      all_goals first | assumption | omega | exact trivial
    refine sw_cond rfl (fun c1 => ?_) (fun c1 => ?_)
    · skip
      refine sw_seq ?_
      refine sw_region hP 3 [] rfl (by kernel_rfl) (fun _ => by kernel_rfl) (by first | trivial | (simp [conj]; done) | (simp [conj] at *; (try dsimp only [Ty.den, Ty.dflt] at *); omega)) ?_
      refine sw_ret ⟨.inl rfl, _, rfl, ?_⟩
      rw [← okI_eq]
      simp [conj] at *
      first | (simp [okI, *]; done) | (simp [okI]; omega)
    · skip
      refine sw_skip ?_
      refine sw_seq ?_
      refine sw_region hP 3 [] rfl (by kernel_rfl) (fun _ => by kernel_rfl) (by first | trivial | (simp [conj]; done) | (simp [conj] at *; (try dsimp only [Ty.den, Ty.dflt] at *); omega)) ?_
      refine sw_ret ⟨.inl rfl, _, rfl, ?_⟩
      rw [← okI_eq]
      simp [conj] at *
      first | (simp [okI, *]; done) | (simp [okI]; omega)

def cCloneO : Ctr := ⟨49, [.val false (.sl .str) (.all .b)], fun x => List.length x.1 ≤ 1099511627776, fun x => (.v false [.own ⟨1, 0, 0⟩], [(⟨1, 0, 0⟩, .sl .str (.all .w) x.1)])⟩
theorem cCloneO_ok : CtrOk Proofs.Try.prog cCloneO := by
  have hP := (Prg.none ttok mtok)
  refine ctr_of_body hP cCloneO (fn := Proofs.Try.f49) (rts := [.tmp 2]) Proofs.Try.func49 rfl (by kernel_rfl) rfl rfl ?_
  rintro ⟨(l : List Str), ⟨⟩⟩ ⟨hdl, _⟩ hpre
  try dsimp only [Ty.den, Mode.den, mdens] at hpre
  refine ⟨rfl, ?_⟩
  have hml : l.length ≤ 1099511627776 := hpre
  refine sw_seq ?_
  refine sw_region hP 1 [] rfl (by kernel_rfl) (fun _ => by kernel_rfl) (by first | trivial | (simp [conj]; done) | (simp [conj] at *; (try dsimp only [Ty.den, Ty.dflt] at *); omega)) ?_
  refine sw_seq ?_
  refine sw_seq ?_
  refine sw_region hP 2 [] rfl (by kernel_rfl) (fun _ => by kernel_rfl) (by first | trivial | (simp [conj]; done) | (simp [conj] at *; (try dsimp only [Ty.den, Ty.dflt] at *); omega)) ?_
  refine sw_condA rfl (fun c1 => ?_) ?_
  · skip
    obtain rfl : l = [] := List.eq_nil_of_length_eq_zero c1
    refine sw_seq ?_
    refine sw_region hP 3 [] rfl (by kernel_rfl) (fun _ => by kernel_rfl) (by first | trivial | (simp [conj]; done) | (simp [conj] at *; (try dsimp only [Ty.den, Ty.dflt] at *); omega)) ?_
    refine sw_ret ⟨.inl rfl, _, rfl, ?_⟩
    first | trivial | (simp [conj]; done) | (simp [conj] at *; (try dsimp only [Ty.den, Ty.dflt] at *); omega)
  · skip
    refine sw_skip ?_
    refine sw_seq ?_
    refine sw_region hP 3 [] rfl (by kernel_rfl) (fun _ => by kernel_rfl) ?_ ?_
    · skip
      simp [conj, maxL]
      try dsimp only [Ty.den, Ty.dflt]
      try simp only [rd_eta]
      omega
    refine sw_ret ⟨.inl rfl, _, rfl, ?_⟩
    first | trivial | (simp [conj]; done) | (simp [conj] at *; (try dsimp only [Ty.den, Ty.dflt] at *); omega)

def cCopyI : Ctr := ⟨43, [.val true T_Model (.all .b)], fun x => mokV x.1 = true, fun x => (.v true [.own ⟨1, 0, 0⟩], [(⟨1, 0, 0⟩, .sl T_Shelf (.all .w) x.1)])⟩
theorem cCopyI_ok : CtrOk Proofs.Try.prog cCopyI := by
  have hP := ((Prg.none ttok mtok).and cCloneO_ok)
  refine ctr_of_body hP cCopyI (fn := Proofs.Try.f43) (rts := [.cell 2 28]) Proofs.Try.func43 rfl (by kernel_rfl) rfl rfl ?_
  rintro ⟨(m : List Shf), ⟨⟩⟩ ⟨hdm, _⟩ hpre
  try dsimp only [Ty.den, Mode.den, mdens] at hpre
  refine ⟨rfl, ?_⟩
  have h4 : m.length ≤ 4 := mok_len4 hpre
  refine sw_seq ?_
  refine sw_region hP 1 [] rfl (by kernel_rfl) (fun _ => by kernel_rfl) (by first | trivial | (simp [conj]; done) | (simp [conj] at *; (try dsimp only [Ty.den, Ty.dflt] at *); omega)) ?_
  refine sw_seq ?_
  refine sw_region hP 2 [] rfl (by kernel_rfl) (fun _ => by kernel_rfl) (by first | trivial | (simp [conj]; done) | (simp [conj] at *; (try dsimp only [Ty.den, Ty.dflt] at *); omega)) ?_
  refine sw_seq ?_
  refine sw_seq ?_
  refine sw_region hP 3 [] rfl (by kernel_rfl) (fun _ => by kernel_rfl) (by first | trivial | (simp [conj]; done) | (simp [conj] at *; (try dsimp only [Ty.den, Ty.dflt] at *); omega)) ?_
  refine sw_block ?_
  refine sw_loop (ι := Nat) (fun i => ⟨[.junk, .v false [.ptr ⟨1, 0, 0⟩ 0], .v false [.ptr ⟨1, 1, 0⟩ 0], .v false [.ptr ⟨2, 0, 0⟩ 0], .junk, .junk, .junk, .v false [.d (.sl T_Shelf) (.all .b) m], sInt .i64 (m.length : Int), sInt .i64 (i : Int), .junk, .junk, .junk, .junk, .junk, .junk, .junk, .junk, .junk, .junk, .junk, .junk, .junk, .junk, .junk, .junk], [(⟨1, 0, 0⟩, .var [.d T_Model (.all .b) m]), (⟨1, 1, 0⟩, .var [.d T_Model pF []]), (⟨2, 0, 0⟩, .var [.own ⟨0, 9, 0⟩]), (⟨0, 9, 0⟩, .sl T_Shelf (.all .w) (m.take i))], 3, []⟩) (fun i => m.length - i) (fun i => i ≤ m.length) 0 ⟨?_, ?_⟩ ?_
  · skip
    exact Nat.zero_le _
  · refine ent_ok rfl ?_
    first | trivial | (simp [conj]; done) | (simp [conj] at *; (try dsimp only [Ty.den, Ty.dflt] at *); omega)
  · rintro i hi
    refine sw_seq ?_
    refine sw_region hP 4 [] rfl (by kernel_rfl) (fun _ => by kernel_rfl) (by first | trivial | (simp [conj]; done) | (simp [conj] at *; (try dsimp only [Ty.den, Ty.dflt] at *); omega)) ?_
    refine sw_seq ?_
    refine sw_cond rfl (fun c3 => ?_) (fun c3 => ?_)
    · skip
      have hlt : i < m.length := by simpa using c3
      have h3 : m[i].2.length = 3 := mok_at hpre hlt
      refine sw_skip ?_
      refine sw_seq ?_
      refine sw_block ?_
      refine sw_seq ?_
      refine sw_region hP 5 [] rfl (by kernel_rfl) (fun _ => by kernel_rfl) (by first | trivial | (simp [conj]; done) | (simp [conj] at *; (try dsimp only [Ty.den, Ty.dflt] at *); omega)) ?_
      refine sw_region hP 6 [] rfl (by kernel_rfl) (fun _ => by kernel_rfl) ?_ ?_
      · skip
        simp [conj, List.getElem?_eq_getElem hlt, maxL]
        refine ⟨?_, by omega⟩
        show m[i].2.length ≤ 1099511627776
        omega
      refine sw_region hP 7 [] rfl (by kernel_rfl) (fun _ => by kernel_rfl) (by first | trivial | (simp [conj]; done) | (simp [conj] at *; (try dsimp only [Ty.den, Ty.dflt] at *); omega)) ?_
      refine ⟨i + 1, ?_, ?_, ent_ok rfl ?_⟩
      · skip
        exact hlt
      · skip
        omega
      · skip
        simp [conj, maxL]
        try dsimp only [Ty.den, Ty.dflt]
        try simp only [rd_eta]
        exact copy_next' hlt
    · skip
      obtain rfl : i = m.length := by simp at c3; omega
      refine sw_exit ?_
      refine sw_seq ?_
      refine sw_region hP 5 [] rfl (by kernel_rfl) (fun _ => by kernel_rfl) (by first | trivial | (simp [conj]; done) | (simp [conj] at *; (try dsimp only [Ty.den, Ty.dflt] at *); omega)) ?_
      refine sw_ret ⟨.inl rfl, _, rfl, ?_⟩
      simp [conj]
end Go.Sx
