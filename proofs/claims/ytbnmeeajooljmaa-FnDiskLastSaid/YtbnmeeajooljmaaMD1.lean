import Derived.Test.YtbnmeeajooljmaaMBase
import Derived.Test.YtbnmeeajooljmaaMPk
set_option linter.all false
namespace Go.Sx
open Go
set_option maxRecDepth 100000
set_option linter.unusedVariables false
set_option linter.unusedSimpArgs false

/-- what a drive's variable holds -/
abbrev drv (st : Int) (t : Drv) (a : At) : List At := [.d TI pF st, .d (.arr 12 .bool) pF t.2.2, .d (.arr 12 .str) pF t.1, .d (.arr 2 .str) pF t.2.1, a]
abbrev putA_ (p : Put) : SV := .v true [.d .bool pF p.1, .d TI pF p.2.1, .d .str pF p.2.2]

def cState : Ctr := ⟨78, [.val false TI pF], fun _ => True, fun x => (sBool (stV x.1), [])⟩
theorem cState_ok : CtrOk Proofs.Try.prog cState := by
  have hP := (Prg.none ttok mtok)
  refine ctr_of_body hP cState (fn := Proofs.Try.f78) (rts := [.tmp 2]) Proofs.Try.func78 rfl (by kernel_rfl) rfl rfl ?_
  rintro ⟨(n : Int), ⟨⟩⟩ _ hpre
  try dsimp only [Ty.den, Mode.den, mdens] at hpre
  refine ⟨rfl, ?_⟩
  refine sw_seq ?_
  refine sw_region hP 1 [] rfl (by kernel_rfl) (fun _ => by kernel_rfl) (by first | trivial | (simp [conj]; done) | (simp [conj] at *; (try dsimp only [Ty.den, Ty.dflt] at *); omega)) ?_
  refine sw_seq ?_
  refine sw_dec hP 2 [] 2 rfl (fun g1_2 => ?_) (fun g1_2 => ?_)
  · skip
    refine sw_region hP 2 [(2, true)] rfl (by kernel_rfl) (fun _ => by kernel_rfl) (by first | trivial | (simp [conj]; done) | (simp [conj] at *; (try dsimp only [Ty.den, Ty.dflt] at *); omega)) ?_
    refine sw_ret ⟨.inl rfl, _, rfl, ?_⟩
    simp [conj, stV] at *
    try omega
  · skip
    refine sw_region hP 2 [(2, false)] rfl (by kernel_rfl) (fun _ => by kernel_rfl) (by first | trivial | (simp [conj]; done) | (simp [conj] at *; (try dsimp only [Ty.den, Ty.dflt] at *); omega)) ?_
    refine sw_ret ⟨.inl rfl, _, rfl, ?_⟩
    simp [conj, stV] at *
    try omega

def cShaped : Ctr := ⟨64, [.val true T_Disk (.all .b)], fun _ => True, fun x => (sBool (shapedV x.1), [])⟩
theorem cShaped_ok : CtrOk Proofs.Try.prog cShaped := by
  have hP := ((Prg.none ttok mtok).and cState_ok)
  refine ctr_of_body hP cShaped (fn := Proofs.Try.f64) (rts := [.tmp 2]) Proofs.Try.func64 rfl (by kernel_rfl) rfl rfl ?_
  rintro ⟨⟨(st : Int), (sl : List Str), (rg : List Str), (sp : List Bool), (wt : List Put)⟩, ⟨⟩⟩ _ hpre
  try dsimp only [Ty.den, Mode.den, mdens] at hpre
  refine ⟨rfl, ?_⟩
  refine sw_seq ?_
  refine sw_region hP 1 [] rfl (by kernel_rfl) (fun _ => by kernel_rfl) (by first | trivial | (simp [conj]; done) | (simp [conj] at *; (try dsimp only [Ty.den, Ty.dflt] at *); omega)) ?_
  refine sw_seq ?_
  refine sw_dec hP 2 [] 3 rfl (fun g1_3 => ?_) (fun g1_3 => ?_)
  · skip
    refine sw_dec hP 2 [(3, true)] 9 rfl (fun g1_9 => ?_) (fun g1_9 => ?_)
    · skip
      replace g1_9 : sl.length = 12 := by have h : ((sl.length : Nat) : Int) = 12 := of_decide_eq_true g1_9; omega
      refine sw_dec hP 2 [(3, true), (9, true)] 15 rfl (fun g1_15 => ?_) (fun g1_15 => ?_)
      · skip
        replace g1_15 : rg.length = 2 := by have h : ((rg.length : Nat) : Int) = 2 := of_decide_eq_true g1_15; omega
        refine sw_dec hP 2 [(3, true), (9, true), (15, true)] 21 rfl (fun g1_21 => ?_) (fun g1_21 => ?_)
        · skip
          replace g1_21 : sp.length = 12 := by have h : ((sp.length : Nat) : Int) = 12 := of_decide_eq_true g1_21; omega
          refine sw_region hP 2 [(3, true), (9, true), (15, true), (21, true)] rfl (by kernel_rfl) (fun _ => by kernel_rfl) ?_ ?_
          · skip
            simp [conj, maxL]
            try dsimp only [Ty.den, Ty.dflt]
            try simp only [rd_eta]
            repeat' apply And.intro
            all_goals first | rfl | assumption | omega
          refine sw_ret ⟨.inl rfl, _, rfl, ?_⟩
          simp [conj, shapedV, *]
          try omega
        · skip
          replace g1_21 : ¬ sp.length = 12 := by have h : ¬ ((sp.length : Nat) : Int) = 12 := of_decide_eq_false g1_21; omega
          refine sw_region hP 2 [(3, true), (9, true), (15, true), (21, false)] rfl (by kernel_rfl) (fun _ => by kernel_rfl) ?_ ?_
          · skip
            simp [conj, maxL]
            try dsimp only [Ty.den, Ty.dflt]
            try simp only [rd_eta]
            repeat' apply And.intro
            all_goals first | rfl | assumption | omega
          refine sw_ret ⟨.inl rfl, _, rfl, ?_⟩
          simp [conj, shapedV, *]
          try omega
      · skip
        replace g1_15 : ¬ rg.length = 2 := by have h : ¬ ((rg.length : Nat) : Int) = 2 := of_decide_eq_false g1_15; omega
        refine sw_region hP 2 [(3, true), (9, true), (15, false)] rfl (by kernel_rfl) (fun _ => by kernel_rfl) ?_ ?_
        · skip
          simp [conj, maxL]
          try dsimp only [Ty.den, Ty.dflt]
          try simp only [rd_eta]
          repeat' apply And.intro
          all_goals first | rfl | assumption | omega
        refine sw_ret ⟨.inl rfl, _, rfl, ?_⟩
        simp [conj, shapedV, *]
        try omega
    · skip
      replace g1_9 : ¬ sl.length = 12 := by have h : ¬ ((sl.length : Nat) : Int) = 12 := of_decide_eq_false g1_9; omega
      refine sw_region hP 2 [(3, true), (9, false)] rfl (by kernel_rfl) (fun _ => by kernel_rfl) ?_ ?_
      · skip
        simp [conj, maxL]
        try dsimp only [Ty.den, Ty.dflt]
        try simp only [rd_eta]
        repeat' apply And.intro
        all_goals first | rfl | assumption | omega
      refine sw_ret ⟨.inl rfl, _, rfl, ?_⟩
      simp [conj, shapedV, *]
      try omega
  · skip
    refine sw_region hP 2 [(3, false)] rfl (by kernel_rfl) (fun _ => by kernel_rfl) ?_ ?_
    · skip
      simp [conj, maxL]
      try dsimp only [Ty.den, Ty.dflt]
      try simp only [rd_eta]
      repeat' apply And.intro
      all_goals first | rfl | assumption | omega
    refine sw_ret ⟨.inl rfl, _, rfl, ?_⟩
    simp [conj, shapedV, *]
    try omega

def cCol : Ctr := ⟨67, [.val false .str pF], fun _ => True, fun x => (sBool (decide (List.length x.1 = 3)), [])⟩
theorem cCol_ok : CtrOk Proofs.Try.prog cCol := by
  have hP := (Prg.none ttok mtok)
  refine ctr_of_body hP cCol (fn := Proofs.Try.f67) (rts := [.tmp 2]) Proofs.Try.func67 rfl (by kernel_rfl) rfl rfl ?_
  rintro ⟨(s : Str), ⟨⟩⟩ _ hpre
  try dsimp only [Ty.den, Mode.den, mdens] at hpre
  refine ⟨rfl, ?_⟩
  refine sw_seq ?_
  refine sw_region hP 1 [] rfl (by kernel_rfl) (fun _ => by kernel_rfl) (by first | trivial | (simp [conj]; done) | (simp [conj] at *; (try dsimp only [Ty.den, Ty.dflt] at *); omega)) ?_
  refine sw_seq ?_
  refine sw_region hP 2 [] rfl (by kernel_rfl) (fun _ => by kernel_rfl) (by first | trivial | (simp [conj]; done) | (simp [conj] at *; (try dsimp only [Ty.den, Ty.dflt] at *); omega)) ?_
  refine sw_ret ⟨.inl rfl, _, rfl, ?_⟩
  simp [conj]
  omega

def cPutOk : Ctr := ⟨36, [.val true T_Put pF], fun _ => True, fun x => (sBool (putV x.1), [])⟩
theorem cPutOk_ok : CtrOk Proofs.Try.prog cPutOk := by
  have hP := ((Prg.none ttok mtok).and cCol_ok)
  refine ctr_of_body hP cPutOk (fn := Proofs.Try.f36) (rts := [.tmp 2]) Proofs.Try.func36 rfl (by kernel_rfl) rfl rfl ?_
  rintro ⟨⟨(rn : Bool), (at_ : Int), (tx : Str)⟩, ⟨⟩⟩ _ hpre
  try dsimp only [Ty.den, Mode.den, mdens] at hpre
  refine ⟨rfl, ?_⟩
  refine sw_seq ?_
  refine sw_region hP 1 [] rfl (by kernel_rfl) (fun _ => by kernel_rfl) (by first | trivial | (simp [conj]; done) | (simp [conj] at *; (try dsimp only [Ty.den, Ty.dflt] at *); omega)) ?_
  refine sw_seq ?_
  refine sw_seq ?_
  refine sw_region hP 2 [] rfl (by kernel_rfl) (fun _ => by kernel_rfl) (by first | trivial | (simp [conj]; done) | (simp [conj] at *; (try dsimp only [Ty.den, Ty.dflt] at *); omega)) ?_
  refine sw_cond rfl (fun c1 => ?_) (fun c1 => ?_)
  · skip
    refine sw_seq ?_
    refine sw_dec hP 3 [] 3 rfl (fun g2_3 => ?_) (fun g2_3 => ?_)
    · skip
      refine sw_dec hP 3 [(3, true)] 8 rfl (fun g2_8 => ?_) (fun g2_8 => ?_)
      · skip
        refine sw_region hP 3 [(3, true), (8, true)] rfl (by kernel_rfl) (fun _ => by kernel_rfl) (by first | trivial | (simp [conj]; done) | (simp [conj] at *; (try dsimp only [Ty.den, Ty.dflt] at *); omega)) ?_
        refine sw_ret ⟨.inl rfl, _, rfl, ?_⟩
        simp [conj, putV] at *
        try (simp [*]; try omega)
      · skip
        refine sw_region hP 3 [(3, true), (8, false)] rfl (by kernel_rfl) (fun _ => by kernel_rfl) (by first | trivial | (simp [conj]; done) | (simp [conj] at *; (try dsimp only [Ty.den, Ty.dflt] at *); omega)) ?_
        refine sw_ret ⟨.inl rfl, _, rfl, ?_⟩
        simp [conj, putV] at *
        try (simp [*]; try omega)
    · skip
      refine sw_region hP 3 [(3, false)] rfl (by kernel_rfl) (fun _ => by kernel_rfl) (by first | trivial | (simp [conj]; done) | (simp [conj] at *; (try dsimp only [Ty.den, Ty.dflt] at *); omega)) ?_
      refine sw_ret ⟨.inl rfl, _, rfl, ?_⟩
      simp [conj, putV] at *
      try (simp [*]; try omega)
  · skip
    refine sw_skip ?_
    refine sw_seq ?_
    refine sw_dec hP 3 [] 3 rfl (fun g3_3 => ?_) (fun g3_3 => ?_)
    · skip
      refine sw_dec hP 3 [(3, true)] 8 rfl (fun g3_8 => ?_) (fun g3_8 => ?_)
      · skip
        refine sw_region hP 3 [(3, true), (8, true)] rfl (by kernel_rfl) (fun _ => by kernel_rfl) (by first | trivial | (simp [conj]; done) | (simp [conj] at *; (try dsimp only [Ty.den, Ty.dflt] at *); omega)) ?_
        refine sw_ret ⟨.inl rfl, _, rfl, ?_⟩
        simp [conj, putV] at *
        try (simp [*]; try omega)
      · skip
        refine sw_region hP 3 [(3, true), (8, false)] rfl (by kernel_rfl) (fun _ => by kernel_rfl) (by first | trivial | (simp [conj]; done) | (simp [conj] at *; (try dsimp only [Ty.den, Ty.dflt] at *); omega)) ?_
        refine sw_ret ⟨.inl rfl, _, rfl, ?_⟩
        simp [conj, putV] at *
        try (simp [*]; try omega)
    · skip
      refine sw_region hP 3 [(3, false)] rfl (by kernel_rfl) (fun _ => by kernel_rfl) (by first | trivial | (simp [conj]; done) | (simp [conj] at *; (try dsimp only [Ty.den, Ty.dflt] at *); omega)) ?_
      refine sw_ret ⟨.inl rfl, _, rfl, ?_⟩
      simp [conj, putV] at *
      try (simp [*]; try omega)

def cRd1 : Ctr := ⟨66, [.val true T_Put pF], fun _ => True, fun x => (sBool (badP x.1), [])⟩
theorem cRd1_ok : CtrOk Proofs.Try.prog cRd1 := by
  have hP := ((Prg.none ttok mtok).and cPutOk_ok)
  refine ctr_of_body hP cRd1 (fn := Proofs.Try.f66) (rts := [.tmp 2]) Proofs.Try.func66 rfl (by kernel_rfl) rfl rfl ?_
  rintro ⟨⟨(rn : Bool), (at_ : Int), (tx : Str)⟩, ⟨⟩⟩ _ hpre
  try dsimp only [Ty.den, Mode.den, mdens] at hpre
  refine ⟨rfl, ?_⟩
  refine sw_seq ?_
  refine sw_region hP 1 [] rfl (by kernel_rfl) (fun _ => by kernel_rfl) (by first | trivial | (simp [conj]; done) | (simp [conj] at *; (try dsimp only [Ty.den, Ty.dflt] at *); omega)) ?_
  refine sw_seq ?_
  refine sw_region hP 2 [] rfl (by kernel_rfl) (fun _ => by kernel_rfl) (by first | trivial | (simp [conj]; done) | (simp [conj] at *; (try dsimp only [Ty.den, Ty.dflt] at *); omega)) ?_
  refine sw_ret ⟨.inl rfl, _, rfl, ?_⟩
  simp [conj, badP]

def cRd2 : Ctr := ⟨69, [.val false .str pF], fun _ => True, fun x => (sBool (longR x.1), [])⟩
theorem cRd2_ok : CtrOk Proofs.Try.prog cRd2 := by
  have hP := (Prg.none ttok mtok)
  refine ctr_of_body hP cRd2 (fn := Proofs.Try.f69) (rts := [.tmp 2]) Proofs.Try.func69 rfl (by kernel_rfl) rfl rfl ?_
  rintro ⟨(s : Str), ⟨⟩⟩ ⟨hds, _⟩ hpre
  try dsimp only [Ty.den, Mode.den, mdens] at hpre
  refine ⟨rfl, ?_⟩
  have hml : s.length ≤ 140737488355328 := hds
  refine sw_seq ?_
  refine sw_region hP 1 [] rfl (by kernel_rfl) (fun _ => by kernel_rfl) (by first | trivial | (simp [conj]; done) | (simp [conj] at *; (try dsimp only [Ty.den, Ty.dflt] at *); omega)) ?_
  refine sw_seq ?_
  refine sw_region hP 2 [] rfl (by kernel_rfl) (fun _ => by kernel_rfl) (by first | trivial | (simp [conj]; done) | (simp [conj] at *; (try dsimp only [Ty.den, Ty.dflt] at *); omega)) ?_
  refine sw_ret ⟨.inl rfl, _, rfl, ?_⟩
  simp [conj, longR]
  omega

def cIdxP : Ctr := ⟨79, [.val false (.sl T_Put) (.all .b), .clo 66 []], fun _ => True, fun x => (sInt .i64 (idxF badP x.1), [])⟩
theorem cIdxP_ok : CtrOk Proofs.Try.prog cIdxP := by
  have hP := ((Prg.none ttok mtok).and cRd1_ok)
  refine ctr_of_body hP cIdxP (fn := Proofs.Try.f79) (rts := [.tmp 4]) Proofs.Try.func79 rfl (by kernel_rfl) rfl rfl ?_
  rintro ⟨(l : List Put), ⟨⟩, ⟨⟩⟩ ⟨hdl, _⟩ hpre
  try dsimp only [Ty.den, Mode.den, mdens] at hpre
  refine ⟨rfl, ?_⟩
  have hml : l.length ≤ 140737488355328 := hdl.1
  refine sw_seq ?_
  refine sw_region hP 1 [] rfl (by kernel_rfl) (fun _ => by kernel_rfl) (by first | trivial | (simp [conj]; done) | (simp [conj] at *; (try dsimp only [Ty.den, Ty.dflt] at *); omega)) ?_
  refine sw_seq ?_
  refine sw_seq ?_
  refine sw_region hP 2 [] rfl (by kernel_rfl) (fun _ => by kernel_rfl) (by first | trivial | (simp [conj]; done) | (simp [conj] at *; (try dsimp only [Ty.den, Ty.dflt] at *); omega)) ?_
  refine sw_block ?_
  refine sw_loop (ι := Nat) (fun i => ⟨[.v false [.d (.sl T_Put) (.all .b) l], .fn 66 [], .junk, .junk, .junk, .junk, .junk, sInt .i64 (l.length : Int), sInt .i64 (i : Int), .junk, .junk, .junk, .junk, .junk, .junk, .junk, .junk, .junk, .junk], [], 2, []⟩) (fun i => l.length - i) (fun i => i ≤ l.length ∧ idxFGo badP (l.drop i) i = idxF badP l) 0 ⟨?_, ?_⟩ ?_
  · skip
    exact ⟨Nat.zero_le _, rfl⟩
  · refine ent_ok rfl ?_
    first | trivial | (simp [conj]; done) | (simp [conj] at *; (try dsimp only [Ty.den, Ty.dflt] at *); omega)
  · rintro i ⟨hi, hgo⟩
    refine sw_seq ?_
    refine sw_region hP 3 [] rfl (by kernel_rfl) (fun _ => by kernel_rfl) (by first | trivial | (simp [conj]; done) | (simp [conj] at *; (try dsimp only [Ty.den, Ty.dflt] at *); omega)) ?_
    refine sw_seq ?_
    refine sw_cond rfl (fun c2 => ?_) (fun c2 => ?_)
    · skip
      have hlt : i < l.length := by simpa using c2
      refine sw_skip ?_
      refine sw_seq ?_
      refine sw_block ?_
      refine sw_seq ?_
      refine sw_region hP 4 [] rfl (by kernel_rfl) (fun _ => by kernel_rfl) (by first | trivial | (simp [conj]; done) | (simp [conj] at *; (try dsimp only [Ty.den, Ty.dflt] at *); omega)) ?_
      refine sw_seq ?_
      refine sw_region hP 5 [] rfl (by kernel_rfl) (fun _ => by kernel_rfl) ?_ ?_
      · skip
        simp [conj, maxL]
        try dsimp only [Ty.den, Ty.dflt]
        try simp only [rd_eta]
        repeat' apply And.intro
        all_goals first | assumption | omega | exact trivial
      refine sw_cond rfl (fun c4 => ?_) (fun c4 => ?_)
      · skip
        replace c4 : badP l[i] = true := by simpa [List.getElem?_eq_getElem hlt] using c4
        refine sw_seq ?_
        refine sw_region hP 6 [] rfl (by kernel_rfl) (fun _ => by kernel_rfl) (by first | trivial | (simp [conj]; done) | (simp [conj] at *; (try dsimp only [Ty.den, Ty.dflt] at *); omega)) ?_
        refine sw_ret ⟨.inl rfl, _, rfl, ?_⟩
        simp [conj, idxF_hit hlt hgo c4]
      · skip
        replace c4 : badP l[i] = false := by simpa [List.getElem?_eq_getElem hlt] using c4
        refine sw_skip ?_
        refine sw_region hP 6 [] rfl (by kernel_rfl) (fun _ => by kernel_rfl) (by first | trivial | (simp [conj]; done) | (simp [conj] at *; (try dsimp only [Ty.den, Ty.dflt] at *); omega)) ?_
        refine ⟨i + 1, ?_, ?_, ent_ok rfl ?_⟩
        · skip
          exact ⟨hlt, idxF_next hlt hgo c4⟩
        · skip
          omega
        · skip
          simp [conj, maxL]
          try dsimp only [Ty.den, Ty.dflt]
          try simp only [rd_eta]
          repeat' apply And.intro
          all_goals first | rfl | assumption | omega
    · skip
      obtain rfl : i = l.length := by simp at c2; omega
      refine sw_exit ?_
      refine sw_seq ?_
      refine sw_region hP 4 [] rfl (by kernel_rfl) (fun _ => by kernel_rfl) (by first | trivial | (simp [conj]; done) | (simp [conj] at *; (try dsimp only [Ty.den, Ty.dflt] at *); omega)) ?_
      refine sw_ret ⟨.inl rfl, _, rfl, ?_⟩
      simp [conj, idxF_end hgo]

def cContP : Ctr := ⟨65, [.val false (.sl T_Put) (.all .b), .clo 66 []], fun _ => True, fun x => (sBool (List.any x.1 badP), [])⟩
theorem cContP_ok : CtrOk Proofs.Try.prog cContP := by
  have hP := ((Prg.none ttok mtok).and cIdxP_ok)
  refine ctr_of_body hP cContP (fn := Proofs.Try.f65) (rts := [.tmp 4]) Proofs.Try.func65 rfl (by kernel_rfl) rfl rfl ?_
  rintro ⟨(l : List Put), ⟨⟩, ⟨⟩⟩ _ hpre
  try dsimp only [Ty.den, Mode.den, mdens] at hpre
  refine ⟨rfl, ?_⟩
  refine sw_seq ?_
  refine sw_region hP 1 [] rfl (by kernel_rfl) (fun _ => by kernel_rfl) (by first | trivial | (simp [conj]; done) | (simp [conj] at *; (try dsimp only [Ty.den, Ty.dflt] at *); omega)) ?_
  refine sw_seq ?_
  refine sw_region hP 2 [] rfl (by kernel_rfl) (fun _ => by kernel_rfl) (by first | trivial | (simp [conj]; done) | (simp [conj] at *; (try dsimp only [Ty.den, Ty.dflt] at *); omega)) ?_
  refine sw_ret ⟨.inl rfl, _, rfl, ?_⟩
  simp [conj]
  exact idxF_any

def cIdxR : Ctr := ⟨80, [.val false (.sl .str) (.all .b), .clo 69 []], fun _ => True, fun x => (sInt .i64 (idxF longR x.1), [])⟩
theorem cIdxR_ok : CtrOk Proofs.Try.prog cIdxR := by
  have hP := ((Prg.none ttok mtok).and cRd2_ok)
  refine ctr_of_body hP cIdxR (fn := Proofs.Try.f80) (rts := [.tmp 4]) Proofs.Try.func80 rfl (by kernel_rfl) rfl rfl ?_
  rintro ⟨(l : List Str), ⟨⟩, ⟨⟩⟩ ⟨hdl, _⟩ hpre
  try dsimp only [Ty.den, Mode.den, mdens] at hpre
  refine ⟨rfl, ?_⟩
  have hml : l.length ≤ 140737488355328 := hdl.1
  refine sw_seq ?_
  refine sw_region hP 1 [] rfl (by kernel_rfl) (fun _ => by kernel_rfl) (by first | trivial | (simp [conj]; done) | (simp [conj] at *; (try dsimp only [Ty.den, Ty.dflt] at *); omega)) ?_
  refine sw_seq ?_
  refine sw_seq ?_
  refine sw_region hP 2 [] rfl (by kernel_rfl) (fun _ => by kernel_rfl) (by first | trivial | (simp [conj]; done) | (simp [conj] at *; (try dsimp only [Ty.den, Ty.dflt] at *); omega)) ?_
  refine sw_block ?_
  refine sw_loop (ι := Nat) (fun i => ⟨[.v false [.d (.sl .str) (.all .b) l], .fn 69 [], .junk, .junk, .junk, .junk, .junk, sInt .i64 (l.length : Int), sInt .i64 (i : Int), .junk, .junk, .junk, .junk, .junk, .junk, .junk, .junk, .junk, .junk], [], 2, []⟩) (fun i => l.length - i) (fun i => i ≤ l.length ∧ idxFGo longR (l.drop i) i = idxF longR l) 0 ⟨?_, ?_⟩ ?_
  · skip
    exact ⟨Nat.zero_le _, rfl⟩
  · refine ent_ok rfl ?_
    first | trivial | (simp [conj]; done) | (simp [conj] at *; (try dsimp only [Ty.den, Ty.dflt] at *); omega)
  · rintro i ⟨hi, hgo⟩
    refine sw_seq ?_
    refine sw_region hP 3 [] rfl (by kernel_rfl) (fun _ => by kernel_rfl) (by first | trivial | (simp [conj]; done) | (simp [conj] at *; (try dsimp only [Ty.den, Ty.dflt] at *); omega)) ?_
    refine sw_seq ?_
    refine sw_cond rfl (fun c2 => ?_) (fun c2 => ?_)
    · skip
      have hlt : i < l.length := by simpa using c2
      refine sw_skip ?_
      refine sw_seq ?_
      refine sw_block ?_
      refine sw_seq ?_
      refine sw_region hP 4 [] rfl (by kernel_rfl) (fun _ => by kernel_rfl) (by first | trivial | (simp [conj]; done) | (simp [conj] at *; (try dsimp only [Ty.den, Ty.dflt] at *); omega)) ?_
      refine sw_seq ?_
      refine sw_region hP 5 [] rfl (by kernel_rfl) (fun _ => by kernel_rfl) ?_ ?_
      · skip
        simp [conj, maxL]
        try dsimp only [Ty.den, Ty.dflt]
        try simp only [rd_eta]
        repeat' apply And.intro
        all_goals first | assumption | omega | exact trivial
      refine sw_cond rfl (fun c4 => ?_) (fun c4 => ?_)
      · skip
        replace c4 : longR l[i] = true := by simpa [List.getElem?_eq_getElem hlt] using c4
        refine sw_seq ?_
        refine sw_region hP 6 [] rfl (by kernel_rfl) (fun _ => by kernel_rfl) (by first | trivial | (simp [conj]; done) | (simp [conj] at *; (try dsimp only [Ty.den, Ty.dflt] at *); omega)) ?_
        refine sw_ret ⟨.inl rfl, _, rfl, ?_⟩
        simp [conj, idxF_hit hlt hgo c4]
      · skip
        replace c4 : longR l[i] = false := by simpa [List.getElem?_eq_getElem hlt] using c4
        refine sw_skip ?_
        refine sw_region hP 6 [] rfl (by kernel_rfl) (fun _ => by kernel_rfl) (by first | trivial | (simp [conj]; done) | (simp [conj] at *; (try dsimp only [Ty.den, Ty.dflt] at *); omega)) ?_
        refine ⟨i + 1, ?_, ?_, ent_ok rfl ?_⟩
        · skip
          exact ⟨hlt, idxF_next hlt hgo c4⟩
        · skip
          omega
        · skip
          simp [conj, maxL]
          try dsimp only [Ty.den, Ty.dflt]
          try simp only [rd_eta]
          repeat' apply And.intro
          all_goals first | rfl | assumption | omega
    · skip
      obtain rfl : i = l.length := by simp at c2; omega
      refine sw_exit ?_
      refine sw_seq ?_
      refine sw_region hP 4 [] rfl (by kernel_rfl) (fun _ => by kernel_rfl) (by first | trivial | (simp [conj]; done) | (simp [conj] at *; (try dsimp only [Ty.den, Ty.dflt] at *); omega)) ?_
      refine sw_ret ⟨.inl rfl, _, rfl, ?_⟩
      simp [conj, idxF_end hgo]

def cContR : Ctr := ⟨68, [.val false (.sl .str) (.all .b), .clo 69 []], fun _ => True, fun x => (sBool (List.any x.1 longR), [])⟩
theorem cContR_ok : CtrOk Proofs.Try.prog cContR := by
  have hP := ((Prg.none ttok mtok).and cIdxR_ok)
  refine ctr_of_body hP cContR (fn := Proofs.Try.f68) (rts := [.tmp 4]) Proofs.Try.func68 rfl (by kernel_rfl) rfl rfl ?_
  rintro ⟨(l : List Str), ⟨⟩, ⟨⟩⟩ _ hpre
  try dsimp only [Ty.den, Mode.den, mdens] at hpre
  refine ⟨rfl, ?_⟩
  refine sw_seq ?_
  refine sw_region hP 1 [] rfl (by kernel_rfl) (fun _ => by kernel_rfl) (by first | trivial | (simp [conj]; done) | (simp [conj] at *; (try dsimp only [Ty.den, Ty.dflt] at *); omega)) ?_
  refine sw_seq ?_
  refine sw_region hP 2 [] rfl (by kernel_rfl) (fun _ => by kernel_rfl) (by first | trivial | (simp [conj]; done) | (simp [conj] at *; (try dsimp only [Ty.den, Ty.dflt] at *); omega)) ?_
  refine sw_ret ⟨.inl rfl, _, rfl, ?_⟩
  simp [conj]
  exact idxF_any

def cCome (st : Int) (t : Drv) (l : List Put) (i : Nat) (p : Put) (d c : Id) : Xctr := ⟨61, [(d, ⟨0, 0, 0⟩, .var (drv st t (.chp ⟨0, 0, 1⟩ i))), (c, ⟨0, 0, 1⟩, .ch true T_Put l)], [], [.v false [.ptr ⟨0, 0, 0⟩ 0], putA_ p],
  (.tup [], [(⟨0, 0, 0⟩, .var (drv st (come p t) (.chp ⟨1, 0, 0⟩ i))), (⟨1, 0, 0⟩, .ch true T_Put l)])⟩
theorem cCome_ok {st : Int} {t : Drv} {l : List Put} {i : Nat} {p : Put} {d c : Id} (hp : putV p = true) : XOk Proofs.Try.prog (cCome st t l i p d c) := by
  have hP := (Prg.none ttok mtok)
  refine xctr_of_body hP (cCome st t l i p d c) (fn := Proofs.Try.f61) (rts := []) Proofs.Try.func61 rfl (by kernel_rfl) rfl rfl ?_
  refine ⟨rfl, ?_⟩
  refine sw_seq ?_
  refine sw_region hP 1 [] rfl (by kernel_rfl) (fun _ => by kernel_rfl) (by first | trivial | (simp [conj]; done) | (simp [conj] at *; (try dsimp only [Ty.den, Ty.dflt] at *); omega)) ?_
  refine sw_seq ?_
  refine sw_seq ?_
  refine sw_region hP 2 [] rfl (by kernel_rfl) (fun _ => by kernel_rfl) (by first | trivial | (simp [conj]; done) | (simp [conj] at *; (try dsimp only [Ty.den, Ty.dflt] at *); omega)) ?_
  refine sw_cond rfl (fun c1 => ?_) (fun c1 => ?_)
  · skip
    replace c1 : p.1 = true := c1
    obtain ⟨h0, h1, h2⟩ := putV_ring hp c1
    have hv := come_ring (t := t) c1
    refine sw_seq ?_
    refine sw_region hP 3 [] rfl (by kernel_rfl) (fun _ => by kernel_rfl) ?_ ?_
    · skip
      simp [conj, maxL]
      try dsimp only [Ty.den, Ty.dflt]
      try simp only [rd_eta]
      repeat' apply And.intro
      all_goals first | rfl | assumption | omega
    refine sw_ret ⟨.inl rfl, _, rfl, ?_⟩
    simp [conj, hv]
  · skip
    replace c1 : p.1 = false := c1
    obtain ⟨h0, h1, h2⟩ := putV_slot hp c1
    have hv := come_slot (t := t) c1
    refine sw_skip ?_
    refine sw_region hP 3 [] rfl (by kernel_rfl) (fun _ => by kernel_rfl) ?_ ?_
    · skip
      simp [conj, maxL]
      try dsimp only [Ty.den, Ty.dflt]
      try simp only [rd_eta]
      repeat' apply And.intro
      all_goals first | rfl | assumption | omega
    refine ⟨.inr rfl, _, rfl, ?_⟩
    simp [conj, hv]

def cWaits (st : Int) (t : Drv) (l : List Put) (d c : Id) : Xctr := ⟨60, [], [(d, ⟨0, 0, 0⟩, .lvar (drv st t (.chp ⟨0, 0, 1⟩ 0))), (c, ⟨0, 0, 1⟩, .ch false T_Put l)], [.v false [.ptr ⟨0, 0, 0⟩ 0]],
  (.v false [.own ⟨1, 0, 0⟩], [(⟨1, 0, 0⟩, .sl T_Put (.all .w) l)])⟩
theorem cWaits_ok {st : Int} {t : Drv} {l : List Put} {d c : Id} (hl : l.length ≤ 1000) : XOk Proofs.Try.prog (cWaits st t l d c) := by
  have hP := (Prg.none ttok mtok)
  refine xctr_of_body hP (cWaits st t l d c) (fn := Proofs.Try.f60) (rts := [.tmp 2]) Proofs.Try.func60 rfl (by kernel_rfl) rfl rfl ?_
  refine ⟨rfl, ?_⟩
  refine sw_seq ?_
  refine sw_region hP 1 [] rfl (by kernel_rfl) (fun _ => by kernel_rfl) (by first | trivial | (simp [conj]; done) | (simp [conj] at *; (try dsimp only [Ty.den, Ty.dflt] at *); omega)) ?_
  refine sw_seq ?_
  refine sw_region hP 2 [] rfl (by kernel_rfl) (fun _ => by kernel_rfl) (by first | trivial | (simp [conj]; done) | (simp [conj] at *; (try dsimp only [Ty.den, Ty.dflt] at *); omega)) ?_
  refine sw_seq ?_
  refine sw_seq ?_
  refine sw_region hP 3 [] rfl (by kernel_rfl) (fun _ => by kernel_rfl) (by first | trivial | (simp [conj]; done) | (simp [conj] at *; (try dsimp only [Ty.den, Ty.dflt] at *); omega)) ?_
  refine sw_block ?_
  refine sw_loop (ι := Nat) (fun i => ⟨[.junk, .junk, .junk, .v false [.own ⟨0, 9, 0⟩], .v false [.chp ⟨0, 0, 1⟩ i], .junk, .junk, .junk, .junk, .junk, .junk, .junk, .junk, .junk, .junk, .junk, .junk, .junk, .junk, .junk, .junk, .junk, .junk], [(⟨0, 0, 0⟩, .lvar (drv st t (.chp ⟨0, 0, 1⟩ 0))), (⟨0, 0, 1⟩, .ch false T_Put l), (⟨0, 9, 0⟩, .sl T_Put (.all .w) (l.take i))], 3, [[.v false [.ptr ⟨0, 0, 0⟩ 0]]]⟩) (fun i => l.length - i) (fun i => i ≤ l.length) 0 ⟨?_, ?_⟩ ?_
  · skip
    exact Nat.zero_le _
  · refine ent_ok rfl ?_
    first | trivial | (simp [conj]; done) | (simp [conj] at *; (try dsimp only [Ty.den, Ty.dflt] at *); omega)
  · rintro i hi
    refine sw_seq ?_
    refine sw_seq ?_
    refine sw_region hP 4 [] rfl (by kernel_rfl) (fun _ => by kernel_rfl) ?_ ?_
    · skip
      simp [conj]
      exact hi
    refine sw_cond rfl (fun c3 => ?_) (fun c3 => ?_)
    · skip
      have hlt : i < l.length := by simp at c3; omega
      refine sw_skip ?_
      refine sw_seq ?_
      refine sw_block ?_
      refine sw_region hP 5 [] rfl (by kernel_rfl) (fun _ => by kernel_rfl) ?_ ?_
      · skip
        simp [conj, maxL]
        omega
      refine sw_region hP 6 [] rfl (by kernel_rfl) (fun _ => by kernel_rfl) ?_ ?_
      · skip
        simp [conj, maxL]
        try dsimp only [Ty.den, Ty.dflt]
        try simp only [rd_eta]
        repeat' apply And.intro
        all_goals first | rfl | assumption | omega
      refine ⟨i + 1, ?_, ?_, ent_ok rfl ?_⟩
      · skip
        exact hlt
      · skip
        omega
      · skip
        simp [conj]
        exact take_next hlt
    · skip
      obtain rfl : i = l.length := by simp at c3; omega
      refine sw_exit ?_
      refine sw_seq ?_
      refine sw_region hP 5 [] rfl (by kernel_rfl) (fun _ => by kernel_rfl) (by first | trivial | (simp [conj]; done) | (simp [conj] at *; (try dsimp only [Ty.den, Ty.dflt] at *); omega)) ?_
      refine sw_ret ⟨.inl rfl, _, rfl, ?_⟩
      simp [conj]
end Go.Sx
