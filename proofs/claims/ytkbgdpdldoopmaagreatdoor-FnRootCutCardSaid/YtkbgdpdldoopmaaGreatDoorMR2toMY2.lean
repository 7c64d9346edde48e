/- Several texts, one behind the other. -/
import Derived.Test.YtkbgdpdldoopmaaGreatDoorMOpentoMVol2
import Derived.Lib.Split
import Derived.Lib.SplitLaws
import Derived.Lib.AtoiTie
import Derived.Lib.AtoiAllCases
import Derived.Lib.Strings
import Derived.WalkKit
import Derived.LaidEql
import Derived.Stop.Asserts
import Derived.RowKitTokens
set_option linter.all false
namespace Go.Sx
open Go
set_option maxRecDepth 100000
set_option linter.unusedVariables false
set_option linter.unusedSimpArgs false
set_option maxHeartbeats 2000000

def cVols1 : Ctr := ⟨57, [.val true T_Vol (.all .b), .rp T_Vol (.all .b)], fun x => True, fun x => (sBool (decide ((x.1.1 : Str) = x.2.1.1)), [])⟩
theorem cVols1_ok : CtrOk Proofs.Tryz.prog cVols1 := by
  have hP := (Prg.none ttok mtok)
  refine ctr_of_body hP cVols1 (fn := Proofs.Tryz.f57) (rts := [.tmp 3]) Proofs.Tryz.func57 rfl (by kernel_rfl) rfl rfl ?_
  rintro ⟨⟨(a : Str), (b : List Ptr_)⟩, ⟨(c : Str), (e : List Ptr_)⟩, ⟨⟩⟩ _ hpre
  try dsimp only [Ty.den, Mode.den, mdens] at hpre
  refine ⟨rfl, ?_⟩
  refine sw_seq ?_
  refine sw_region hP 1 [] rfl (by kernel_rfl) (fun _ => by kernel_rfl) (by first | trivial | (simp [conj]; done) | (simp [conj] at *; (try dsimp only [Ty.den, Ty.dflt] at *); omega)) ?_
  refine sw_seq ?_
  refine sw_region hP 2 [] rfl (by kernel_rfl) (fun _ => by kernel_rfl) (by first | trivial | (simp [conj]; done) | (simp [conj] at *; (try dsimp only [Ty.den, Ty.dflt] at *); omega)) ?_
  refine sw_ret ⟨.inl rfl, _, rfl, ?_⟩
  simp [conj]

def cVols2 : Ctr := ⟨59, [.val true T_Ptr (.all .b), .rp TI pF], fun x => True, fun x => (sBool (!ptrV x.2.1 x.1), [])⟩
theorem cVols2_ok : CtrOk Proofs.Tryz.prog cVols2 := by
  have hP := ((Prg.none ttok mtok).and cPtrOk_ok)
  refine ctr_of_body hP cVols2 (fn := Proofs.Tryz.f59) (rts := [.tmp 3]) Proofs.Tryz.func59 rfl (by kernel_rfl) rfl rfl ?_
  rintro ⟨⟨(sz : Int), (sm : Int), (pl : List Plc)⟩, (d : Int), ⟨⟩⟩ _ hpre
  try dsimp only [Ty.den, Mode.den, mdens] at hpre
  refine ⟨rfl, ?_⟩
  refine sw_seq ?_
  refine sw_region hP 1 [] rfl (by kernel_rfl) (fun _ => by kernel_rfl) (by first | trivial | (simp [conj]; done) | (simp [conj] at *; (try dsimp only [Ty.den, Ty.dflt] at *); omega)) ?_
  refine sw_seq ?_
  refine sw_region hP 2 [] rfl (by kernel_rfl) (fun _ => by kernel_rfl) ?_ ?_
  · skip
    simp [conj, maxL]
    try dsimp only [Ty.den, Ty.dflt]
    try simp only [rd_eta]
    repeat' apply And.intro
    all_goals first | rfl | assumption | omega | trivial
  refine sw_ret ⟨.inl rfl, _, rfl, ?_⟩
  simp [conj]

def cIdxV1 : Ctr := ⟨84, [.val false (.sl T_Vol) (.all .b), .clo 57 [(false, T_Vol, (.all .b))]], fun _ => True, fun x => (sInt .i64 (idxF (fun w : Vol_ => decide (w.1 = x.2.1.1.1)) x.1), [])⟩
theorem cIdxV1_ok : CtrOk Proofs.Tryz.prog cIdxV1 := by
  have hP := ((Prg.none ttok mtok).and cVols1_ok)
  refine ctr_of_body hP cIdxV1 (fn := Proofs.Tryz.f84) (rts := [.tmp 4]) Proofs.Tryz.func84 rfl (by kernel_rfl) rfl rfl ?_
  rintro ⟨(l : List Vol_), ⟨(y : Vol_), ⟨⟩⟩, ⟨⟩⟩ ⟨hdl, _⟩ hpre
  try dsimp only [Ty.den, Mode.den, mdens] at hpre
  refine ⟨rfl, ?_⟩
  have hml : l.length ≤ 140737488355328 := hdl.1
  refine sw_seq ?_
  refine sw_region hP 1 [] rfl (by kernel_rfl) (fun _ => by kernel_rfl) (by first | trivial | (simp [conj]; done) | (simp [conj] at *; (try dsimp only [Ty.den, Ty.dflt] at *); omega)) ?_
  refine sw_seq ?_
  refine sw_seq ?_
  refine sw_region hP 2 [] rfl (by kernel_rfl) (fun _ => by kernel_rfl) (by first | trivial | (simp [conj]; done) | (simp [conj] at *; (try dsimp only [Ty.den, Ty.dflt] at *); omega)) ?_
  refine sw_block ?_
  refine sw_loop (ι := Nat) (fun i => ⟨[.v false [.d (.sl T_Vol) (.all .b) l], .fn 57 [.rpt .b T_Vol (.all .b) y], .junk, .junk, .junk, .junk, .junk, sInt .i64 (l.length : Int), sInt .i64 (i : Int), .junk, .junk, .junk, .junk, .junk, .junk, .junk, .junk, .junk, .junk], [], 2, []⟩) (fun i => l.length - i) (fun i => i ≤ l.length ∧ idxFGo (fun w : Vol_ => decide (w.1 = y.1)) (l.drop i) i = idxF (fun w : Vol_ => decide (w.1 = y.1)) l) 0 ⟨?_, ?_⟩ ?_
  · skip
    exact ⟨Nat.zero_le _, rfl⟩
  · refine ent_ok rfl ?_
    first | trivial | (simp [conj]; done) | (simp [conj] at *; (try dsimp only [Ty.den, Ty.dflt] at *); omega)
  · rintro i ⟨hi, hgo⟩
    refine sw_seq ?_
    refine sw_region hP 3 [] rfl (by kernel_rfl) (fun _ => by kernel_rfl) (by first | trivial | (simp [conj]; done) | (simp [conj] at *; (try dsimp only [Ty.den, Ty.dflt] at *); omega)) ?_
    refine sw_seq ?_
    refine sw_cond rfl (fun c2 => ?_) (fun c2 => ?_)
    · skip
      have hlt : i < l.length := by simpa using c2
      refine sw_skip ?_
      refine sw_seq ?_
      refine sw_block ?_
      refine sw_seq ?_
      refine sw_region hP 4 [] rfl (by kernel_rfl) (fun _ => by kernel_rfl) (by first | trivial | (simp [conj]; done) | (simp [conj] at *; (try dsimp only [Ty.den, Ty.dflt] at *); omega)) ?_
      refine sw_seq ?_
      refine sw_region hP 5 [] rfl (by kernel_rfl) (fun _ => by kernel_rfl) ?_ ?_
      · skip
        simp [conj, maxL]
        try dsimp only [Ty.den, Ty.dflt]
        try simp only [rd_eta]
        repeat' apply And.intro
        all_goals first | assumption | omega | exact trivial
      refine sw_cond rfl (fun c4 => ?_) (fun c4 => ?_)
      · skip
        replace c4 : (fun w : Vol_ => decide (w.1 = y.1)) l[i] = true := by simpa [List.getElem?_eq_getElem hlt] using c4
        refine sw_seq ?_
        refine sw_region hP 6 [] rfl (by kernel_rfl) (fun _ => by kernel_rfl) (by first | trivial | (simp [conj]; done) | (simp [conj] at *; (try dsimp only [Ty.den, Ty.dflt] at *); omega)) ?_
        refine sw_ret ⟨.inl rfl, _, rfl, ?_⟩
        simp [conj, idxF_hit hlt hgo c4]
      · skip
        replace c4 : (fun w : Vol_ => decide (w.1 = y.1)) l[i] = false := by simpa [List.getElem?_eq_getElem hlt] using c4
        refine sw_skip ?_
        refine sw_region hP 6 [] rfl (by kernel_rfl) (fun _ => by kernel_rfl) (by first | trivial | (simp [conj]; done) | (simp [conj] at *; (try dsimp only [Ty.den, Ty.dflt] at *); omega)) ?_
        refine ⟨i + 1, ?_, ?_, ent_ok rfl ?_⟩
        · skip
          exact ⟨hlt, idxF_next hlt hgo c4⟩
        · skip
          omega
        · skip
          simp [conj, maxL]
          try dsimp only [Ty.den, Ty.dflt]
          try simp only [rd_eta]
          repeat' apply And.intro
          all_goals first | rfl | assumption | omega
    · skip
      obtain rfl : i = l.length := by simp at c2; omega
      refine sw_exit ?_
      refine sw_seq ?_
      refine sw_region hP 4 [] rfl (by kernel_rfl) (fun _ => by kernel_rfl) (by first | trivial | (simp [conj]; done) | (simp [conj] at *; (try dsimp only [Ty.den, Ty.dflt] at *); omega)) ?_
      refine sw_ret ⟨.inl rfl, _, rfl, ?_⟩
      simp [conj, idxF_end hgo]

def cContV1 : Ctr := ⟨56, [.val false (.sl T_Vol) (.all .b), .clo 57 [(false, T_Vol, (.all .b))]], fun _ => True, fun x => (sBool (List.any x.1 (fun w : Vol_ => decide (w.1 = x.2.1.1.1))), [])⟩
theorem cContV1_ok : CtrOk Proofs.Tryz.prog cContV1 := by
  have hP := ((Prg.none ttok mtok).and cIdxV1_ok)
  refine ctr_of_body hP cContV1 (fn := Proofs.Tryz.f56) (rts := [.tmp 4]) Proofs.Tryz.func56 rfl (by kernel_rfl) rfl rfl ?_
  rintro ⟨(l : List Vol_), ⟨(y : Vol_), ⟨⟩⟩, ⟨⟩⟩ _ hpre
  try dsimp only [Ty.den, Mode.den, mdens] at hpre
  refine ⟨rfl, ?_⟩
  refine sw_seq ?_
  refine sw_region hP 1 [] rfl (by kernel_rfl) (fun _ => by kernel_rfl) (by first | trivial | (simp [conj]; done) | (simp [conj] at *; (try dsimp only [Ty.den, Ty.dflt] at *); omega)) ?_
  refine sw_seq ?_
  refine sw_region hP 2 [] rfl (by kernel_rfl) (fun _ => by kernel_rfl) (by first | trivial | (simp [conj]; done) | (simp [conj] at *; (try dsimp only [Ty.den, Ty.dflt] at *); omega)) ?_
  refine sw_ret ⟨.inl rfl, _, rfl, ?_⟩
  simp [conj]
  exact idxF_any

def cIdxV2 : Ctr := ⟨85, [.val false (.sl T_Ptr) (.all .b), .clo 59 [(false, TI, pF)]], fun _ => True, fun x => (sInt .i64 (idxF (fun p : Ptr_ => !ptrV x.2.1.1 p) x.1), [])⟩
theorem cIdxV2_ok : CtrOk Proofs.Tryz.prog cIdxV2 := by
  have hP := ((Prg.none ttok mtok).and cVols2_ok)
  refine ctr_of_body hP cIdxV2 (fn := Proofs.Tryz.f85) (rts := [.tmp 4]) Proofs.Tryz.func85 rfl (by kernel_rfl) rfl rfl ?_
  rintro ⟨(l : List Ptr_), ⟨(y : Int), ⟨⟩⟩, ⟨⟩⟩ ⟨hdl, _⟩ hpre
  try dsimp only [Ty.den, Mode.den, mdens] at hpre
  refine ⟨rfl, ?_⟩
  have hml : l.length ≤ 140737488355328 := hdl.1
  refine sw_seq ?_
  refine sw_region hP 1 [] rfl (by kernel_rfl) (fun _ => by kernel_rfl) (by first | trivial | (simp [conj]; done) | (simp [conj] at *; (try dsimp only [Ty.den, Ty.dflt] at *); omega)) ?_
  refine sw_seq ?_
  refine sw_seq ?_
  refine sw_region hP 2 [] rfl (by kernel_rfl) (fun _ => by kernel_rfl) (by first | trivial | (simp [conj]; done) | (simp [conj] at *; (try dsimp only [Ty.den, Ty.dflt] at *); omega)) ?_
  refine sw_block ?_
  refine sw_loop (ι := Nat) (fun i => ⟨[.v false [.d (.sl T_Ptr) (.all .b) l], .fn 59 [.rpt .b TI pF y], .junk, .junk, .junk, .junk, .junk, sInt .i64 (l.length : Int), sInt .i64 (i : Int), .junk, .junk, .junk, .junk, .junk, .junk, .junk, .junk, .junk, .junk], [], 2, []⟩) (fun i => l.length - i) (fun i => i ≤ l.length ∧ idxFGo (fun p : Ptr_ => !ptrV y p) (l.drop i) i = idxF (fun p : Ptr_ => !ptrV y p) l) 0 ⟨?_, ?_⟩ ?_
  · skip
    exact ⟨Nat.zero_le _, rfl⟩
  · refine ent_ok rfl ?_
    first | trivial | (simp [conj]; done) | (simp [conj] at *; (try dsimp only [Ty.den, Ty.dflt] at *); omega)
  · rintro i ⟨hi, hgo⟩
    refine sw_seq ?_
    refine sw_region hP 3 [] rfl (by kernel_rfl) (fun _ => by kernel_rfl) (by first | trivial | (simp [conj]; done) | (simp [conj] at *; (try dsimp only [Ty.den, Ty.dflt] at *); omega)) ?_
    refine sw_seq ?_
    refine sw_cond rfl (fun c2 => ?_) (fun c2 => ?_)
    · skip
      have hlt : i < l.length := by simpa using c2
      refine sw_skip ?_
      refine sw_seq ?_
      refine sw_block ?_
      refine sw_seq ?_
      refine sw_region hP 4 [] rfl (by kernel_rfl) (fun _ => by kernel_rfl) (by first | trivial | (simp [conj]; done) | (simp [conj] at *; (try dsimp only [Ty.den, Ty.dflt] at *); omega)) ?_
      refine sw_seq ?_
      refine sw_region hP 5 [] rfl (by kernel_rfl) (fun _ => by kernel_rfl) ?_ ?_
      · skip
        simp [conj, maxL]
        try dsimp only [Ty.den, Ty.dflt]
        try simp only [rd_eta]
        repeat' apply And.intro
        all_goals first | assumption | omega | exact trivial
      refine sw_cond rfl (fun c4 => ?_) (fun c4 => ?_)
      · skip
        replace c4 : (fun p : Ptr_ => !ptrV y p) l[i] = true := by simpa [List.getElem?_eq_getElem hlt] using c4
        refine sw_seq ?_
        refine sw_region hP 6 [] rfl (by kernel_rfl) (fun _ => by kernel_rfl) (by first | trivial | (simp [conj]; done) | (simp [conj] at *; (try dsimp only [Ty.den, Ty.dflt] at *); omega)) ?_
        refine sw_ret ⟨.inl rfl, _, rfl, ?_⟩
        simp [conj, idxF_hit hlt hgo c4]
      · skip
        replace c4 : (fun p : Ptr_ => !ptrV y p) l[i] = false := by simpa [List.getElem?_eq_getElem hlt] using c4
        refine sw_skip ?_
        refine sw_region hP 6 [] rfl (by kernel_rfl) (fun _ => by kernel_rfl) (by first | trivial | (simp [conj]; done) | (simp [conj] at *; (try dsimp only [Ty.den, Ty.dflt] at *); omega)) ?_
        refine ⟨i + 1, ?_, ?_, ent_ok rfl ?_⟩
        · skip
          exact ⟨hlt, idxF_next hlt hgo c4⟩
        · skip
          omega
        · skip
          simp [conj, maxL]
          try dsimp only [Ty.den, Ty.dflt]
          try simp only [rd_eta]
          repeat' apply And.intro
          all_goals first | rfl | assumption | omega
    · skip
      obtain rfl : i = l.length := by simp at c2; omega
      refine sw_exit ?_
      refine sw_seq ?_
      refine sw_region hP 4 [] rfl (by kernel_rfl) (fun _ => by kernel_rfl) (by first | trivial | (simp [conj]; done) | (simp [conj] at *; (try dsimp only [Ty.den, Ty.dflt] at *); omega)) ?_
      refine sw_ret ⟨.inl rfl, _, rfl, ?_⟩
      simp [conj, idxF_end hgo]

def cContV2 : Ctr := ⟨58, [.val false (.sl T_Ptr) (.all .b), .clo 59 [(false, TI, pF)]], fun _ => True, fun x => (sBool (List.any x.1 (fun p : Ptr_ => !ptrV x.2.1.1 p)), [])⟩
theorem cContV2_ok : CtrOk Proofs.Tryz.prog cContV2 := by
  have hP := ((Prg.none ttok mtok).and cIdxV2_ok)
  refine ctr_of_body hP cContV2 (fn := Proofs.Tryz.f58) (rts := [.tmp 4]) Proofs.Tryz.func58 rfl (by kernel_rfl) rfl rfl ?_
  rintro ⟨(l : List Ptr_), ⟨(y : Int), ⟨⟩⟩, ⟨⟩⟩ _ hpre
  try dsimp only [Ty.den, Mode.den, mdens] at hpre
  refine ⟨rfl, ?_⟩
  refine sw_seq ?_
  refine sw_region hP 1 [] rfl (by kernel_rfl) (fun _ => by kernel_rfl) (by first | trivial | (simp [conj]; done) | (simp [conj] at *; (try dsimp only [Ty.den, Ty.dflt] at *); omega)) ?_
  refine sw_seq ?_
  refine sw_region hP 2 [] rfl (by kernel_rfl) (fun _ => by kernel_rfl) (by first | trivial | (simp [conj]; done) | (simp [conj] at *; (try dsimp only [Ty.den, Ty.dflt] at *); omega)) ?_
  refine sw_ret ⟨.inl rfl, _, rfl, ?_⟩
  simp [conj]
  exact idxF_any

def cVols : Ctr := ⟨28, [.val false TI pF, .val false (.sl T_Vol) (.all .b)], fun x => True, fun x => (sBool (volsV x.1 x.2.1), [])⟩
theorem cVols_ok : CtrOk Proofs.Tryz.prog cVols := by
  have hP := ((((Prg.none ttok mtok).and cVol_ok).and cContV1_ok).and cContV2_ok)
  refine ctr_of_body hP cVols (fn := Proofs.Tryz.f28) (rts := [.tmp 4]) Proofs.Tryz.func28 rfl (by kernel_rfl) rfl rfl ?_
  rintro ⟨(d : Int), (l : List Vol_), ⟨⟩⟩ ⟨_, hl0, _⟩ _
  try dsimp only [Ty.den, Mode.den, mdens] at _
  refine ⟨rfl, ?_⟩
  have hml : l.length ≤ 140737488355328 := hl0.1
  refine sw_seq ?_
  refine sw_region hP 1 [] rfl (by kernel_rfl) (fun _ => by kernel_rfl) (by first | trivial | (simp [conj]; done) | (simp [conj] at *; (try dsimp only [Ty.den, Ty.dflt] at *); omega)) ?_
  refine sw_seq ?_
  refine sw_seq ?_
  refine sw_region hP 2 [] rfl (by kernel_rfl) (fun _ => by kernel_rfl) (by first | trivial | (simp [conj]; done) | (simp [conj] at *; (try dsimp only [Ty.den, Ty.dflt] at *); omega)) ?_
  refine sw_block ?_
  refine sw_loop (ι := Nat) (fun i => ⟨[.junk, .v false [.d (.sl T_Vol) (.all .b) l], .v false [.ptr ⟨1, 0, 0⟩ 0], .junk, .junk, .junk, .junk, .v false [.d (.sl T_Vol) (.all .b) l], sInt .i64 (l.length : Int), sInt .i64 (i : Int), .junk, .junk, .junk, .junk, .junk, .junk, .junk, .junk, .junk, .junk, .junk, .junk, .junk, .junk, .junk, .junk, .junk, .junk, .junk, .junk, .junk, .junk, .junk, .junk, .junk, .junk, .junk, .junk, .junk], [(⟨1, 0, 0⟩, .var [.d TI pF d])], 2, []⟩) (fun i => l.length - i) (fun i => i ≤ l.length ∧ chkGo (volF d) (l.take i) (l.drop i) = chk (volF d) l) 0 ⟨?_, ?_⟩ ?_
  · skip
    exact ⟨Nat.zero_le _, rfl⟩
  · refine ent_ok rfl ?_
    simp [conj]
  · rintro i ⟨hi, hgo⟩
    refine sw_seq ?_
    refine sw_region hP 3 [] rfl (by kernel_rfl) (fun _ => by kernel_rfl) (by first | trivial | (simp [conj]; done) | (simp [conj] at *; (try dsimp only [Ty.den, Ty.dflt] at *); omega)) ?_
    refine sw_seq ?_
    refine sw_cond rfl (fun c2 => ?_) (fun c2 => ?_)
    · skip
      have hlt : i < l.length := by simpa using c2
      have hml2 : l[i].2.length ≤ 140737488355328 := (hl0.2 _ (List.getElem_mem hlt)).2.1
      refine sw_skip ?_
      refine sw_seq ?_
      refine sw_block ?_
      refine sw_seq ?_
      refine sw_region hP 4 [] rfl (by kernel_rfl) (fun _ => by kernel_rfl) (by first | trivial | (simp [conj]; done) | (simp [conj] at *; (try dsimp only [Ty.den, Ty.dflt] at *); omega)) ?_
      refine sw_seq ?_
      refine sw_seq ?_
      refine sw_dec hP 5 [] 4 rfl (fun g4_4 => ?_) (fun g4_4 => ?_)
      · skip
        replace g4_4 : nameV l[i].1 = false := by simpa [List.getElem?_eq_getElem hlt] using g4_4
        have hf : volF d (l.take i) l[i] = false := by simp [volF, g4_4]
        refine sw_region hP 5 [(4, true)] rfl (by kernel_rfl) (fun _ => by kernel_rfl) ?_ ?_
        · skip
          simp [conj, List.getElem?_eq_getElem hlt]
          repeat' apply And.intro
          all_goals first | trivial | assumption | omega
        refine sw_condT rfl ?_
        refine sw_seq ?_
        refine sw_region hP 6 [] rfl (by kernel_rfl) (fun _ => by kernel_rfl) (by first | trivial | (simp [conj]; done) | (simp [conj] at *; (try dsimp only [Ty.den, Ty.dflt] at *); omega)) ?_
        refine sw_ret ⟨.inl rfl, _, rfl, ?_⟩
        have hv := chk_hit hlt hgo hf
        simp [conj, volsV, hv]
      · skip
        replace g4_4 : nameV l[i].1 = true := by simpa [List.getElem?_eq_getElem hlt] using g4_4
        refine sw_dec hP 5 [(4, false)] 10 rfl (fun g4_10 => ?_) (fun g4_10 => ?_)
        · skip
          replace g4_10 : ¬ l[i].2.length = 3 := by
            have h := g4_10
            simp [List.getElem?_eq_getElem hlt] at h
            omega
          have hf : volF d (l.take i) l[i] = false := by simp [volF, g4_10]
          refine sw_region hP 5 [(4, false), (10, true)] rfl (by kernel_rfl) (fun _ => by kernel_rfl) ?_ ?_
          · skip
            simp [conj, List.getElem?_eq_getElem hlt]
            repeat' apply And.intro
            all_goals first | trivial | assumption | omega
          refine sw_condT rfl ?_
          refine sw_seq ?_
          refine sw_region hP 6 [] rfl (by kernel_rfl) (fun _ => by kernel_rfl) (by first | trivial | (simp [conj]; done) | (simp [conj] at *; (try dsimp only [Ty.den, Ty.dflt] at *); omega)) ?_
          refine sw_ret ⟨.inl rfl, _, rfl, ?_⟩
          have hv := chk_hit hlt hgo hf
          simp [conj, volsV, hv]
        · skip
          replace g4_10 : l[i].2.length = 3 := by
            have h := g4_10
            simp [List.getElem?_eq_getElem hlt] at h
            omega
          refine sw_region hP 5 [(4, false), (10, false)] rfl (by kernel_rfl) (fun _ => by kernel_rfl) ?_ ?_
          · skip
            simp [conj, List.getElem?_eq_getElem hlt]
            repeat' apply And.intro
            all_goals first | trivial | assumption | omega
          refine sw_cond rfl (fun c4 => ?_) (fun c4 => ?_)
          · skip
            replace c4 : (l.take i).any (fun w => decide (w.1 = l[i].1)) = true := by simpa [List.getElem?_eq_getElem hlt] using c4
            have hf : volF d (l.take i) l[i] = false := by unfold volF; rw [c4]; simp
            refine sw_seq ?_
            refine sw_region hP 6 [] rfl (by kernel_rfl) (fun _ => by kernel_rfl) (by first | trivial | (simp [conj]; done) | (simp [conj] at *; (try dsimp only [Ty.den, Ty.dflt] at *); omega)) ?_
            refine sw_ret ⟨.inl rfl, _, rfl, ?_⟩
            have hv := chk_hit hlt hgo hf
            simp [conj, volsV, hv]
          · skip
            replace c4 : (l.take i).any (fun w => decide (w.1 = l[i].1)) = false := by simpa [List.getElem?_eq_getElem hlt] using c4
            refine sw_skip ?_
            refine sw_seq ?_
            refine sw_region hP 6 [] rfl (by kernel_rfl) (fun _ => by kernel_rfl) ?_ ?_
            · skip
              simp [conj, maxL]
              try dsimp only [Ty.den, Ty.dflt]
              try simp only [rd_eta]
              repeat' apply And.intro
              all_goals first | rfl | assumption | omega | trivial
            refine sw_cond rfl (fun c6 => ?_) (fun c6 => ?_)
            · skip
              replace c6 : l[i].2.any (fun p => !ptrV d p) = true := by simpa [List.getElem?_eq_getElem hlt] using c6
              have hf : volF d (l.take i) l[i] = false := by
                have h : l[i].2.all (ptrV d) = false := by rw [← not_any]; simp [c6]
                simp [volF, h]
              refine sw_seq ?_
              refine sw_region hP 7 [] rfl (by kernel_rfl) (fun _ => by kernel_rfl) (by first | trivial | (simp [conj]; done) | (simp [conj] at *; (try dsimp only [Ty.den, Ty.dflt] at *); omega)) ?_
              refine sw_ret ⟨.inl rfl, _, rfl, ?_⟩
              have hv := chk_hit hlt hgo hf
              simp [conj, volsV, hv]
            · skip
              replace c6 : l[i].2.any (fun p => !ptrV d p) = false := by simpa [List.getElem?_eq_getElem hlt] using c6
              have hf : volF d (l.take i) l[i] = true := by
                have h : l[i].2.all (ptrV d) = true := by rw [← not_any]; simp [c6]
                unfold volF; rw [g4_4, c4, h, g4_10]; rfl
              refine sw_skip ?_
              refine sw_region hP 7 [] rfl (by kernel_rfl) (fun _ => by kernel_rfl) (by first | trivial | (simp [conj]; done) | (simp [conj] at *; (try dsimp only [Ty.den, Ty.dflt] at *); omega)) ?_
              refine ⟨i + 1, ?_, ?_, ent_ok rfl ?_⟩
              · skip
                exact ⟨hlt, chk_next hlt hgo hf⟩
              · skip
                omega
              · skip
                simp [conj]
    · skip
      obtain rfl : i = l.length := by simp at c2; omega
      refine sw_exit ?_
      refine sw_seq ?_
      refine sw_region hP 4 [] rfl (by kernel_rfl) (fun _ => by kernel_rfl) (by first | trivial | (simp [conj]; done) | (simp [conj] at *; (try dsimp only [Ty.den, Ty.dflt] at *); omega)) ?_
      refine sw_ret ⟨.inl rfl, _, rfl, ?_⟩
      have hv := chk_end hgo
      simp [conj, volsV, hv]
      try omega

def cEqPl : Ctr := ⟨61, [.val false (.sl T_Place) (.all .b), .val false (.sl T_Place) (.all .b)], fun x => True, fun x => (sBool (decide ((x.1 : List Plc) = x.2.1)), [])⟩
theorem cEqPl_ok : CtrOk Proofs.Tryz.prog cEqPl := by
  have hP := (Prg.none ttok mtok)
  refine ctr_of_body hP cEqPl (fn := Proofs.Tryz.f61) (rts := [.tmp 4]) Proofs.Tryz.func61 rfl (by kernel_rfl) rfl rfl ?_
  rintro ⟨(a : List Plc), (b : List Plc), ⟨⟩⟩ ⟨hda, hdb, _⟩ _
  try dsimp only [Ty.den, Mode.den, mdens] at _
  refine ⟨rfl, ?_⟩
  have hml : a.length ≤ 140737488355328 := hda.1
  have hmb : b.length ≤ 140737488355328 := hdb.1
  refine sw_seq ?_
  refine sw_region hP 1 [] rfl (by kernel_rfl) (fun _ => by kernel_rfl) (by first | trivial | (simp [conj]; done) | (simp [conj] at *; (try dsimp only [Ty.den, Ty.dflt] at *); omega)) ?_
  refine sw_seq ?_
  refine sw_seq ?_
  refine sw_region hP 2 [] rfl (by kernel_rfl) (fun _ => by kernel_rfl) (by first | trivial | (simp [conj]; done) | (simp [conj] at *; (try dsimp only [Ty.den, Ty.dflt] at *); omega)) ?_
  refine sw_cond rfl (fun c1 => ?_) (fun c1 => ?_)
  · skip
    replace c1 : ¬ a.length = b.length := by simp at c1; omega
    refine sw_seq ?_
    refine sw_region hP 3 [] rfl (by kernel_rfl) (fun _ => by kernel_rfl) (by first | trivial | (simp [conj]; done) | (simp [conj] at *; (try dsimp only [Ty.den, Ty.dflt] at *); omega)) ?_
    refine sw_ret ⟨.inl rfl, _, rfl, ?_⟩
    have hv := eqL_len c1
    simp [conj, hv]
  · skip
    replace c1 : a.length = b.length := by simp at c1; omega
    refine sw_skip ?_
    refine sw_seq ?_
    refine sw_seq ?_
    refine sw_region hP 3 [] rfl (by kernel_rfl) (fun _ => by kernel_rfl) (by first | trivial | (simp [conj]; done) | (simp [conj] at *; (try dsimp only [Ty.den, Ty.dflt] at *); omega)) ?_
    refine sw_block ?_
    refine sw_loop (ι := Nat) (fun i => ⟨[.v false [.d (.sl T_Place) (.all .b) a], .v false [.d (.sl T_Place) (.all .b) b], .junk, .junk, .junk, .junk, .junk, .junk, .junk, .junk, .junk, .junk, sInt .i64 (a.length : Int), sInt .i64 (i : Int), .junk, .junk, .junk, .junk, .junk, .junk, .junk, .junk, .junk, .junk, .junk, .junk], [], 3, []⟩) (fun i => a.length - i) (fun i => i ≤ a.length ∧ decide (a.drop i = b.drop i) = decide (a = b)) 0 ⟨?_, ?_⟩ ?_
    · skip
      exact ⟨Nat.zero_le _, rfl⟩
    · refine ent_ok rfl ?_
      first | trivial | (simp [conj]; done) | (simp [conj] at *; (try dsimp only [Ty.den, Ty.dflt] at *); omega)
    · rintro i ⟨hi, hgo⟩
      refine sw_seq ?_
      refine sw_region hP 4 [] rfl (by kernel_rfl) (fun _ => by kernel_rfl) (by first | trivial | (simp [conj]; done) | (simp [conj] at *; (try dsimp only [Ty.den, Ty.dflt] at *); omega)) ?_
      refine sw_seq ?_
      refine sw_cond rfl (fun c4 => ?_) (fun c4 => ?_)
      · skip
        have hlt : i < a.length := by simpa using c4
        have hlt2 : i < b.length := by omega
        refine sw_skip ?_
        refine sw_seq ?_
        refine sw_block ?_
        refine sw_seq ?_
        refine sw_region hP 5 [] rfl (by kernel_rfl) (fun _ => by kernel_rfl) (by first | trivial | (simp [conj]; done) | (simp [conj] at *; (try dsimp only [Ty.den, Ty.dflt] at *); omega)) ?_
        refine sw_seq ?_
        refine sw_region hP 6 [] rfl (by kernel_rfl) (fun _ => by kernel_rfl) ?_ ?_
        · skip
          simp [conj, List.getElem?_eq_getElem hlt, List.getElem?_eq_getElem hlt2]
          try exact ⟨hlt, hlt2⟩
        refine sw_cond rfl (fun c6 => ?_) (fun c6 => ?_)
        · skip
          replace c6 : ¬ a[i] = b[i] := by intro e; simp [List.getElem?_eq_getElem hlt, List.getElem?_eq_getElem hlt2, e] at c6
          refine sw_seq ?_
          refine sw_region hP 7 [] rfl (by kernel_rfl) (fun _ => by kernel_rfl) (by first | trivial | (simp [conj]; done) | (simp [conj] at *; (try dsimp only [Ty.den, Ty.dflt] at *); omega)) ?_
          refine sw_ret ⟨.inl rfl, _, rfl, ?_⟩
          have hv := eqL_hit hlt hlt2 hgo c6
          simp [conj, hv]
        · skip
          replace c6 : a[i] = b[i] := by have h := c6; simp [List.getElem?_eq_getElem hlt, List.getElem?_eq_getElem hlt2] at h; exact Prod.ext h.1 h.2
          refine sw_skip ?_
          refine sw_region hP 7 [] rfl (by kernel_rfl) (fun _ => by kernel_rfl) (by first | trivial | (simp [conj]; done) | (simp [conj] at *; (try dsimp only [Ty.den, Ty.dflt] at *); omega)) ?_
          refine ⟨i + 1, ?_, ?_, ent_ok rfl ?_⟩
          · skip
            exact ⟨hlt, eqL_next hlt hlt2 hgo c6⟩
          · skip
            omega
          · skip
            simp [conj]
      · skip
        obtain rfl : i = a.length := by simp at c4; omega
        refine sw_exit ?_
        refine sw_seq ?_
        refine sw_region hP 5 [] rfl (by kernel_rfl) (fun _ => by kernel_rfl) (by first | trivial | (simp [conj]; done) | (simp [conj] at *; (try dsimp only [Ty.den, Ty.dflt] at *); omega)) ?_
        refine sw_ret ⟨.inl rfl, _, rfl, ?_⟩
        have hv := eqL_end c1 hgo
        simp [conj, hv]

def cSame : Ctr := ⟨30, [.val true T_Ptr (.all .b), .val true T_Ptr (.all .b)], fun x => True, fun x => (sBool (decide ((x.1 : Ptr_) = x.2.1)), [])⟩
theorem cSame_ok : CtrOk Proofs.Tryz.prog cSame := by
  have hP := ((Prg.none ttok mtok).and cEqPl_ok)
  refine ctr_of_body hP cSame (fn := Proofs.Tryz.f30) (rts := [.tmp 4]) Proofs.Tryz.func30 rfl (by kernel_rfl) rfl rfl ?_
  rintro ⟨⟨(sz : Int), (sm : Int), (pl : List Plc)⟩, ⟨(sz2 : Int), (sm2 : Int), (pl2 : List Plc)⟩, ⟨⟩⟩ _ _
  try dsimp only [Ty.den, Mode.den, mdens] at _
  refine ⟨rfl, ?_⟩
  refine sw_seq ?_
  refine sw_region hP 1 [] rfl (by kernel_rfl) (fun _ => by kernel_rfl) (by first | trivial | (simp [conj]; done) | (simp [conj] at *; (try dsimp only [Ty.den, Ty.dflt] at *); omega)) ?_
  refine sw_seq ?_
  refine sw_dec hP 2 [] 5 rfl (fun g1_5 => ?_) (fun g1_5 => ?_)
  · skip
    replace g1_5 : sz = sz2 := of_decide_eq_true g1_5
    refine sw_dec hP 2 [(5, true)] 12 rfl (fun g1_12 => ?_) (fun g1_12 => ?_)
    · skip
      replace g1_12 : sm = sm2 := of_decide_eq_true g1_12
      refine sw_region hP 2 [(5, true), (12, true)] rfl (by kernel_rfl) (fun _ => by kernel_rfl) ?_ ?_
      · skip
        simp only [conj, List.nil_append, List.cons_append, List.append_nil, List.append_assoc, inR_i64, true_and, and_true, Int.toNat_natCast]
        try dsimp only [Ty.den, Ty.dflt]
        repeat' apply And.intro
        all_goals first | trivial | assumption | omega | exact decide_eq_true ‹_› | exact decide_eq_false ‹_› | (simp [*]; done)
      refine sw_ret ⟨.inl rfl, _, rfl, ?_⟩
      simp [conj, Prod.ext_iff, *]
    · skip
      replace g1_12 : ¬ sm = sm2 := of_decide_eq_false g1_12
      refine sw_region hP 2 [(5, true), (12, false)] rfl (by kernel_rfl) (fun _ => by kernel_rfl) ?_ ?_
      · skip
        simp only [conj, List.nil_append, List.cons_append, List.append_nil, List.append_assoc, inR_i64, true_and, and_true, Int.toNat_natCast]
        try dsimp only [Ty.den, Ty.dflt]
        repeat' apply And.intro
        all_goals first | trivial | assumption | omega | exact decide_eq_true ‹_› | exact decide_eq_false ‹_› | (simp [*]; done)
      refine sw_ret ⟨.inl rfl, _, rfl, ?_⟩
      simp [conj, Prod.ext_iff, *]
  · skip
    replace g1_5 : ¬ sz = sz2 := of_decide_eq_false g1_5
    refine sw_region hP 2 [(5, false)] rfl (by kernel_rfl) (fun _ => by kernel_rfl) ?_ ?_
    · skip
      simp only [conj, List.nil_append, List.cons_append, List.append_nil, List.append_assoc, inR_i64, true_and, and_true, Int.toNat_natCast]
      try dsimp only [Ty.den, Ty.dflt]
      repeat' apply And.intro
      all_goals first | trivial | assumption | omega | exact decide_eq_true ‹_› | exact decide_eq_false ‹_› | (simp [*]; done)
    refine sw_ret ⟨.inl rfl, _, rfl, ?_⟩
    simp [conj, Prod.ext_iff, *]

def cPtrs : Ctr := ⟨29, [.val true T_Root (.all .b)], fun x => SmallV x.1.2, fun x => (.v false [.own ⟨1, 0, 0⟩], [(⟨1, 0, 0⟩, .sl T_Ptr (.all .b) (blksOf x.1.2))])⟩
theorem cPtrs_ok : CtrOk Proofs.Tryz.prog cPtrs := by
  have hP := (Prg.none ttok mtok)
  refine ctr_of_body hP cPtrs (fn := Proofs.Tryz.f29) (rts := [.tmp 2]) Proofs.Tryz.func29 rfl (by kernel_rfl) rfl rfl ?_
  rintro ⟨⟨(tg : Int), (l : List Vol_)⟩, ⟨⟩⟩ _ hpre
  try dsimp only [Ty.den, Mode.den, mdens] at hpre
  refine ⟨rfl, ?_⟩
  replace hpre : SmallV l := hpre
  have hml : l.length ≤ 100 := hpre.1
  refine sw_seq ?_
  refine sw_region hP 1 [] rfl (by kernel_rfl) (fun _ => by kernel_rfl) (by first | trivial | (simp [conj]; done) | (simp [conj] at *; (try dsimp only [Ty.den, Ty.dflt] at *); omega)) ?_
  refine sw_seq ?_
  refine sw_region hP 2 [] rfl (by kernel_rfl) (fun _ => by kernel_rfl) (by first | trivial | (simp [conj]; done) | (simp [conj] at *; (try dsimp only [Ty.den, Ty.dflt] at *); omega)) ?_
  refine sw_seq ?_
  refine sw_seq ?_
  refine sw_region hP 3 [] rfl (by kernel_rfl) (fun _ => by kernel_rfl) (by first | trivial | (simp [conj]; done) | (simp [conj] at *; (try dsimp only [Ty.den, Ty.dflt] at *); omega)) ?_
  refine sw_block ?_
  refine sw_loop (ι := Nat) (fun i => ⟨[.junk, .v false [.ptr ⟨1, 0, 0⟩ 0], .junk, .v false [.own ⟨0, 9, 0⟩], .junk, .junk, .junk, .v false [.d (.sl T_Vol) (.all .b) l], sInt .i64 (l.length : Int), sInt .i64 (i : Int), .junk, .junk, .junk, .junk, .junk, .junk, .junk, .junk, .junk], [(⟨0, 9, 0⟩, .sl T_Ptr (.all .b) (blksOf (l.take i)))], 3, []⟩) (fun i => l.length - i) (fun i => i ≤ l.length) 0 ⟨?_, ?_⟩ ?_
  · skip
    exact Nat.zero_le _
  · refine ent_ok rfl ?_
    simp [conj, blksOf]
  · rintro i hi
    refine sw_seq ?_
    refine sw_region hP 4 [] rfl (by kernel_rfl) (fun _ => by kernel_rfl) (by first | trivial | (simp [conj]; done) | (simp [conj] at *; (try dsimp only [Ty.den, Ty.dflt] at *); omega)) ?_
    refine sw_seq ?_
    refine sw_cond rfl (fun c3 => ?_) (fun c3 => ?_)
    · skip
      have hlt : i < l.length := by simpa using c3
      have hb1 := blks_len hpre (i := i)
      have hb2 := hpre.2 _ (List.getElem_mem hlt)
      refine sw_skip ?_
      refine sw_seq ?_
      refine sw_block ?_
      refine sw_seq ?_
      refine sw_region hP 5 [] rfl (by kernel_rfl) (fun _ => by kernel_rfl) (by first | trivial | (simp [conj]; done) | (simp [conj] at *; (try dsimp only [Ty.den, Ty.dflt] at *); omega)) ?_
      refine sw_region hP 6 [] rfl (by kernel_rfl) (fun _ => by kernel_rfl) ?_ ?_
      · skip
        simp [conj, maxL, List.getElem?_eq_getElem hlt]
        omega
      refine sw_region hP 7 [] rfl (by kernel_rfl) (fun _ => by kernel_rfl) (by first | trivial | (simp [conj]; done) | (simp [conj] at *; (try dsimp only [Ty.den, Ty.dflt] at *); omega)) ?_
      refine ⟨i + 1, ?_, ?_, ent_ok rfl ?_⟩
      · skip
        exact hlt
      · skip
        omega
      · skip
        simp [conj, List.getElem?_eq_getElem hlt]
        exact flat_next hlt
    · skip
      obtain rfl : i = l.length := by simp at c3; omega
      refine sw_exit ?_
      refine sw_seq ?_
      refine sw_region hP 5 [] rfl (by kernel_rfl) (fun _ => by kernel_rfl) (by first | trivial | (simp [conj]; done) | (simp [conj] at *; (try dsimp only [Ty.den, Ty.dflt] at *); omega)) ?_
      refine sw_ret ⟨.inl rfl, _, rfl, ?_⟩
      simp [conj]

def cRootOk : Ctr := ⟨12, [.val false TI pF, .val true T_Root (.all .b)], fun x => True, fun x => (sBool (rootV x.1 x.2.1), [])⟩
theorem cRootOk_ok : CtrOk Proofs.Tryz.prog cRootOk := by
  have hP := (((((Prg.none ttok mtok).and cPool_ok).and cVols_ok).and cPtrs_ok).and cSame_ok)
  refine ctr_of_body hP cRootOk (fn := Proofs.Tryz.f12) (rts := [.tmp 4]) Proofs.Tryz.func12 rfl (by kernel_rfl) rfl rfl ?_
  rintro ⟨(d : Int), ⟨(tg : Int), (l : List Vol_)⟩, ⟨⟩⟩ ⟨_, ⟨_, hl0⟩, _⟩ _
  try dsimp only [Ty.den, Mode.den, mdens] at _
  refine ⟨rfl, ?_⟩
  have hml : l.length ≤ 140737488355328 := hl0.1
  have hpl0 := blks_pl (l := l) (fun v hv p hp => ((hl0.2 v hv).2.2 p hp).2.2.1)
  refine sw_seq ?_
  refine sw_region hP 1 [] rfl (by kernel_rfl) (fun _ => by kernel_rfl) (by first | trivial | (simp [conj]; done) | (simp [conj] at *; (try dsimp only [Ty.den, Ty.dflt] at *); omega)) ?_
  refine sw_seq ?_
  refine sw_seq ?_
  refine sw_dec hP 2 [] 3 rfl (fun g1_3 => ?_) (fun g1_3 => ?_)
  · skip
    replace g1_3 : poolV d = false := by simpa using g1_3
    refine sw_region hP 2 [(3, true)] rfl (by kernel_rfl) (fun _ => by kernel_rfl) ?_ ?_
    · skip
      simp only [conj, List.nil_append, List.cons_append, List.append_nil, List.append_assoc, inR_i64, true_and, and_true, Int.toNat_natCast]
      try dsimp only [Ty.den, Ty.dflt]
      repeat' apply And.intro
      all_goals first | trivial | assumption | omega | exact decide_eq_true ‹_› | exact decide_eq_false ‹_› | (simp [*]; done)
    refine sw_condT rfl ?_
    refine sw_seq ?_
    refine sw_region hP 3 [] rfl (by kernel_rfl) (fun _ => by kernel_rfl) (by first | trivial | (simp [conj]; done) | (simp [conj] at *; (try dsimp only [Ty.den, Ty.dflt] at *); omega)) ?_
    refine sw_ret ⟨.inl rfl, _, rfl, ?_⟩
    simp [conj, rootV, inV, *]
    try omega
  · skip
    replace g1_3 : poolV d = true := by simpa using g1_3
    refine sw_dec hP 2 [(3, false)] 8 rfl (fun g1_8 => ?_) (fun g1_8 => ?_)
    · skip
      replace g1_8 : tg < 0 := of_decide_eq_true g1_8
      refine sw_region hP 2 [(3, false), (8, true)] rfl (by kernel_rfl) (fun _ => by kernel_rfl) ?_ ?_
      · skip
        simp only [conj, List.nil_append, List.cons_append, List.append_nil, List.append_assoc, inR_i64, true_and, and_true, Int.toNat_natCast]
        try dsimp only [Ty.den, Ty.dflt]
        repeat' apply And.intro
        all_goals first | trivial | assumption | omega | exact decide_eq_true ‹_› | exact decide_eq_false ‹_› | (simp [*]; done)
      refine sw_condT rfl ?_
      refine sw_seq ?_
      refine sw_region hP 3 [] rfl (by kernel_rfl) (fun _ => by kernel_rfl) (by first | trivial | (simp [conj]; done) | (simp [conj] at *; (try dsimp only [Ty.den, Ty.dflt] at *); omega)) ?_
      refine sw_ret ⟨.inl rfl, _, rfl, ?_⟩
      simp [conj, rootV, inV, *]
      try omega
    · skip
      replace g1_8 : ¬ tg < 0 := of_decide_eq_false g1_8
      refine sw_dec hP 2 [(3, false), (8, false)] 13 rfl (fun g1_13 => ?_) (fun g1_13 => ?_)
      · skip
        replace g1_13 : 100000 < tg := of_decide_eq_true g1_13
        refine sw_region hP 2 [(3, false), (8, false), (13, true)] rfl (by kernel_rfl) (fun _ => by kernel_rfl) ?_ ?_
        · skip
          simp only [conj, List.nil_append, List.cons_append, List.append_nil, List.append_assoc, inR_i64, true_and, and_true, Int.toNat_natCast]
          try dsimp only [Ty.den, Ty.dflt]
          repeat' apply And.intro
          all_goals first | trivial | assumption | omega | exact decide_eq_true ‹_› | exact decide_eq_false ‹_› | (simp [*]; done)
        refine sw_condT rfl ?_
        refine sw_seq ?_
        refine sw_region hP 3 [] rfl (by kernel_rfl) (fun _ => by kernel_rfl) (by first | trivial | (simp [conj]; done) | (simp [conj] at *; (try dsimp only [Ty.den, Ty.dflt] at *); omega)) ?_
        refine sw_ret ⟨.inl rfl, _, rfl, ?_⟩
        simp [conj, rootV, inV, *]
        try omega
      · skip
        replace g1_13 : ¬ 100000 < tg := of_decide_eq_false g1_13
        refine sw_region hP 2 [(3, false), (8, false), (13, false)] rfl (by kernel_rfl) (fun _ => by kernel_rfl) ?_ ?_
        · skip
          simp only [conj, List.nil_append, List.cons_append, List.append_nil, List.append_assoc, inR_i64, true_and, and_true, Int.toNat_natCast]
          try dsimp only [Ty.den, Ty.dflt]
          repeat' apply And.intro
          all_goals first | trivial | assumption | omega | exact decide_eq_true ‹_› | exact decide_eq_false ‹_› | (simp [*]; done)
        refine sw_cond rfl (fun c1 => ?_) (fun c1 => ?_)
        · skip
          replace c1 : volsV d l = false := by simpa using c1
          refine sw_seq ?_
          refine sw_region hP 3 [] rfl (by kernel_rfl) (fun _ => by kernel_rfl) (by first | trivial | (simp [conj]; done) | (simp [conj] at *; (try dsimp only [Ty.den, Ty.dflt] at *); omega)) ?_
          refine sw_ret ⟨.inl rfl, _, rfl, ?_⟩
          simp [conj, rootV, inV, *]
          try omega
        · skip
          replace c1 : volsV d l = true := by simpa using c1
          have hsv := volsV_small c1
          have hbl := blks_all hsv
          have hin : inV tg 0 100000 = true := by simp [inV]; omega
          refine sw_skip ?_
          refine sw_seq ?_
          refine sw_region hP 3 [] rfl (by kernel_rfl) (fun _ => by kernel_rfl) (by first | trivial | (simp [conj]; done) | (simp [conj] at *; (try dsimp only [Ty.den, Ty.dflt] at *); omega)) ?_
          refine sw_seq ?_
          refine sw_seq ?_
          refine sw_region hP 4 [] rfl (by kernel_rfl) (fun _ => by kernel_rfl) ?_ ?_
          · skip
            simp [conj, maxL]
            try dsimp only [Ty.den, Ty.dflt]
            try simp only [rd_eta]
            exact hsv
          refine sw_block ?_
          refine sw_loop (ι := Nat × List (Plc × Ptr_)) (fun ⟨i, m⟩ => ⟨[sInt .i64 d, .junk, .junk, .v false [.ptr ⟨1, 0, 0⟩ 0], .junk, .v false [.own ⟨0, 9, 0⟩], .junk, .junk, .junk, .junk, .junk, .junk, .junk, .junk, .junk, .junk, .junk, .junk, .junk, .junk, .junk, .junk, .junk, .junk, .junk, .junk, .junk, .junk, .junk, .junk, .junk, .junk, .junk, .junk, .v false [.own ⟨0, 9, 1⟩], sInt .i64 ((blksOf l).length : Int), sInt .i64 (i : Int), .junk, .junk, .junk, .junk, .junk, .junk, .junk, .junk, .junk, .junk, .junk, .junk, .junk, .junk, .junk, .junk, .junk, .junk, .junk, .junk, .junk, .junk, .junk, .junk, .junk, .junk, .junk, .junk], [(⟨1, 0, 0⟩, .var [.d TI pF tg, .d (.sl T_Vol) (.all .b) l]), (⟨0, 9, 0⟩, .mp true true T_Place T_Ptr mapF m), (⟨0, 9, 1⟩, .sl T_Ptr (.all .b) (blksOf l))], 4, []⟩) (fun ⟨i, m⟩ => (blksOf l).length - i) (fun ⟨i, m⟩ => i ≤ (blksOf l).length ∧ ownGo m (pairsOf ((blksOf l).drop i)) = ownGo [] (pairsOf (blksOf l))) (0, []) ⟨?_, ?_⟩ ?_
          · skip
            exact ⟨Nat.zero_le _, rfl⟩
          · refine ent_ok rfl ?_
            simp [conj]
          · rintro ⟨i, m⟩ ⟨hi, hgo0⟩
            refine sw_seq ?_
            refine sw_region hP 5 [] rfl (by kernel_rfl) (fun _ => by kernel_rfl) (by first | trivial | (simp [conj]; done) | (simp [conj] at *; (try dsimp only [Ty.den, Ty.dflt] at *); omega)) ?_
            refine sw_seq ?_
            refine sw_cond rfl (fun c5 => ?_) (fun c5 => ?_)
            · skip
              have hlt : i < (blksOf l).length := by simpa using c5
              have hpl1 := hpl0 _ (List.getElem_mem hlt)
              refine sw_skip ?_
              refine sw_seq ?_
              refine sw_block ?_
              refine sw_seq ?_
              refine sw_region hP 6 [] rfl (by kernel_rfl) (fun _ => by kernel_rfl) ?_ ?_
              · skip
                simp [conj, List.getElem?_eq_getElem hlt]
                exact hlt
              refine sw_seq ?_
              refine sw_region hP 7 [] rfl (by kernel_rfl) (fun _ => by kernel_rfl) (by first | trivial | (simp [conj]; done) | (simp [conj] at *; (try dsimp only [Ty.den, Ty.dflt] at *); omega)) ?_
              refine sw_block ?_
              refine sw_loop (ι := Nat × List (Plc × Ptr_)) (fun ⟨j, m⟩ => ⟨[sInt .i64 d, .junk, .junk, .v false [.ptr ⟨1, 0, 0⟩ 0], .junk, .v false [.own ⟨0, 9, 0⟩], .junk, .v false [.ptr ⟨0, 9, 2⟩ 0], .junk, .junk, .junk, .junk, .junk, .junk, .junk, .junk, .junk, .junk, .junk, .junk, .junk, .junk, .junk, .junk, .junk, .junk, .junk, .junk, .junk, .junk, .junk, .junk, .junk, .junk, .v false [.own ⟨0, 9, 1⟩], sInt .i64 ((blksOf l).length : Int), sInt .i64 (i : Int), .junk, .junk, .junk, .junk, .v false [.d (.sl T_Place) (.all .b) (blksOf l)[i].2.2], sInt .i64 ((blksOf l)[i].2.2.length : Int), sInt .i64 (j : Int), .junk, .junk, .junk, .junk, .junk, .junk, .junk, .junk, .junk, .junk, .junk, .junk, .junk, .junk, .junk, .junk, .junk, .junk, .junk, .junk, .junk], [(⟨1, 0, 0⟩, .var [.d TI pF tg, .d (.sl T_Vol) (.all .b) l]), (⟨0, 9, 0⟩, .mp true true T_Place T_Ptr mapF m), (⟨0, 9, 1⟩, .sl T_Ptr (.all .b) (blksOf l)), (⟨0, 9, 2⟩, .var [.d TI pF (blksOf l)[i].1, .d TI pF (blksOf l)[i].2.1, .d (.sl T_Place) (.all .b) (blksOf l)[i].2.2])], 7, []⟩) (fun ⟨j, m⟩ => (blksOf l)[i].2.2.length - j) (fun ⟨j, m⟩ => j ≤ (blksOf l)[i].2.2.length ∧ ownGo m (((blksOf l)[i].2.2.drop j).map (fun a => (a, (blksOf l)[i])) ++ pairsOf ((blksOf l).drop (i + 1))) = ownGo [] (pairsOf (blksOf l))) (0, m) ⟨?_, ?_⟩ ?_
              · skip
                exact ⟨Nat.zero_le _, own_in hlt hgo0⟩
              · refine ent_ok rfl ?_
                simp [conj, List.getElem?_eq_getElem hlt]
              · rintro ⟨j, m⟩ ⟨hj, hgo⟩
                refine sw_seq ?_
                refine sw_region hP 8 [] rfl (by kernel_rfl) (fun _ => by kernel_rfl) (by first | trivial | (simp [conj]; done) | (simp [conj] at *; (try dsimp only [Ty.den, Ty.dflt] at *); omega)) ?_
                refine sw_seq ?_
                refine sw_cond rfl (fun c8 => ?_) (fun c8 => ?_)
                · skip
                  have hlj : j < (blksOf l)[i].2.2.length := by simpa using c8
                  refine sw_skip ?_
                  refine sw_seq ?_
                  refine sw_block ?_
                  refine sw_seq ?_
                  refine sw_region hP 9 [] rfl (by kernel_rfl) (fun _ => by kernel_rfl) ?_ ?_
                  · skip
                    simp [conj, List.getElem?_eq_getElem hlj]
                    exact hlj
                  refine sw_seq ?_
                  refine sw_seq ?_
                  refine sw_region hP 10 [] rfl (by kernel_rfl) (fun _ => by kernel_rfl) ?_ ?_
                  · skip
                    simp [conj, List.getElem?_eq_getElem hlj]
                  refine sw_seq ?_
                  refine sw_dec hP 11 [] 1 rfl (fun g11_1 => ?_) (fun g11_1 => ?_)
                  · skip
                    have hg : (mget PK m (blksOf l)[i].2.2[j]).isSome = true := by simpa [List.getElem?_eq_getElem hlt, List.getElem?_eq_getElem hlj] using g11_1
                    obtain ⟨q, hq⟩ := Option.isSome_iff_exists.1 hg
                    refine sw_region hP 11 [(1, true)] rfl (by kernel_rfl) (fun _ => by kernel_rfl) ?_ ?_
                    · skip
                      simp only [conj, List.nil_append, List.cons_append, List.append_nil, List.append_assoc, inR_i64, true_and, and_true, Int.toNat_natCast]
                      try dsimp only [Ty.den, Ty.dflt]
                      repeat' apply And.intro
                      all_goals first | trivial | exact g11_1 | exact And.intro trivial g11_1
                    refine sw_cond rfl (fun c11 => ?_) (fun c11 => ?_)
                    · skip
                      replace c11 : ¬ (blksOf l)[i] = q := by
                        have h := c11
                        simp [List.getElem?_eq_getElem hlt, List.getElem?_eq_getElem hlj, hq] at h
                        intro e
                        rw [e] at h
                        simp at h
                      have hv := own_bad hlj hgo hq c11
                      refine sw_seq ?_
                      refine sw_region hP 12 [] rfl (by kernel_rfl) (fun _ => by kernel_rfl) (by first | trivial | (simp [conj]; done) | (simp [conj] at *; (try dsimp only [Ty.den, Ty.dflt] at *); omega)) ?_
                      refine sw_ret ⟨.inl rfl, _, rfl, ?_⟩
                      simp [conj, rootV, g1_3, hin, c1, hv]
                    · skip
                      replace c11 : (blksOf l)[i] = q := by
                        have h := c11
                        simp [List.getElem?_eq_getElem hlt, List.getElem?_eq_getElem hlj, hq] at h
                        exact Prod.ext h.1 (Prod.ext h.2.1 h.2.2)
                      have hnx := own_some hlj hgo hq c11
                      refine sw_skip ?_
                      refine sw_region hP 12 [] rfl (by kernel_rfl) (fun _ => by kernel_rfl) ?_ ?_
                      · skip
                        simp [conj, maxL]
                        try dsimp only [Ty.den, Ty.dflt]
                        try simp only [rd_eta]
                        repeat' apply And.intro
                        all_goals first | rfl | assumption | omega
                      refine sw_region hP 13 [] rfl (by kernel_rfl) (fun _ => by kernel_rfl) (by first | trivial | (simp [conj]; done) | (simp [conj] at *; (try dsimp only [Ty.den, Ty.dflt] at *); omega)) ?_
                      refine ⟨(j + 1, mset PK m (blksOf l)[i].2.2[j] (blksOf l)[i]), ?_, ?_, ent_ok rfl ?_⟩
                      · skip
                        exact ⟨hlj, hnx⟩
                      · skip
                        show (blksOf l)[i].2.2.length - (j + 1) < (blksOf l)[i].2.2.length - j
                        omega
                      · skip
                        simp [conj, List.getElem?_eq_getElem hlt, List.getElem?_eq_getElem hlj]
                  · skip
                    have hg : mget PK m (blksOf l)[i].2.2[j] = none := by simpa [List.getElem?_eq_getElem hlt, List.getElem?_eq_getElem hlj] using g11_1
                    have hnx := own_none hlj hgo hg
                    refine sw_region hP 11 [(1, false)] rfl (by kernel_rfl) (fun _ => by kernel_rfl) ?_ ?_
                    · skip
                      simp only [conj, List.nil_append, List.cons_append, List.append_nil, List.append_assoc, inR_i64, true_and, and_true, Int.toNat_natCast]
                      try dsimp only [Ty.den, Ty.dflt]
                      repeat' apply And.intro
                      all_goals first | trivial | exact g11_1 | exact And.intro trivial g11_1
                    refine sw_condF rfl ?_
                    refine sw_skip ?_
                    refine sw_region hP 12 [] rfl (by kernel_rfl) (fun _ => by kernel_rfl) ?_ ?_
                    · skip
                      simp [conj, maxL]
                      try dsimp only [Ty.den, Ty.dflt]
                      try simp only [rd_eta]
                      repeat' apply And.intro
                      all_goals first | rfl | assumption | omega
                    refine sw_region hP 13 [] rfl (by kernel_rfl) (fun _ => by kernel_rfl) (by first | trivial | (simp [conj]; done) | (simp [conj] at *; (try dsimp only [Ty.den, Ty.dflt] at *); omega)) ?_
                    refine ⟨(j + 1, mset PK m (blksOf l)[i].2.2[j] (blksOf l)[i]), ?_, ?_, ent_ok rfl ?_⟩
                    · skip
                      exact ⟨hlj, hnx⟩
                    · skip
                      show (blksOf l)[i].2.2.length - (j + 1) < (blksOf l)[i].2.2.length - j
                      omega
                    · skip
                      simp [conj, List.getElem?_eq_getElem hlt, List.getElem?_eq_getElem hlj]
                · skip
                  obtain rfl : j = (blksOf l)[i].2.2.length := by simp at c8; omega
                  refine sw_exit ?_
                  refine sw_region hP 9 [] rfl (by kernel_rfl) (fun _ => by kernel_rfl) (by first | trivial | (simp [conj]; done) | (simp [conj] at *; (try dsimp only [Ty.den, Ty.dflt] at *); omega)) ?_
                  refine ⟨(i + 1, m), ?_, ?_, ent_ok rfl ?_⟩
                  · skip
                    exact ⟨hlt, own_out hgo⟩
                  · skip
                    show (blksOf l).length - (i + 1) < (blksOf l).length - i
                    omega
                  · skip
                    simp [conj]
            · skip
              obtain rfl : i = (blksOf l).length := by simp at c5; omega
              refine sw_exit ?_
              refine sw_seq ?_
              refine sw_region hP 6 [] rfl (by kernel_rfl) (fun _ => by kernel_rfl) (by first | trivial | (simp [conj]; done) | (simp [conj] at *; (try dsimp only [Ty.den, Ty.dflt] at *); omega)) ?_
              refine sw_ret ⟨.inl rfl, _, rfl, ?_⟩
              have hv := own_end hgo0
              simp [conj, rootV, g1_3, hin, c1, hv]
end Go.Sx

namespace Go.Sx
open Go Go.RowKit
theorem weighGo_app : ∀ (l : Str) (i : Nat) (c : UInt8), weighGo (l ++ [c]) i = weighGo l i + (c.toNat : Int) * (65536 + ((i + l.length : Nat) : Int) + 1) := by
  intro l
  induction l with
  | nil => intro i c; simp [weighGo]
  | cons a l ih =>
    intro i c
    simp only [List.cons_append, weighGo, ih, List.length_cons]
    rw [show i + 1 + l.length = i + (l.length + 1) by omega]
    omega
theorem weiS_weigh (l : Str) (hl : l.length ≤ 1000000) : ∀ k, k ≤ l.length → Proofs.weiS (Proofs.weiUp (mkS l) k) = weighGo (l.take k) 0 := by
  intro k
  induction k with
  | zero => intro _; rfl
  | succ k ih =>
    intro hk
    have hlt : k < l.length := hk
    rw [Proofs.weiUp, Proofs.volUp_succ, Proofs.weiS_add, List.take_succ_eq_append_getElem hlt, weighGo_app, ← ih (by omega)]
    have e1 : (Proofs.weiF (mkS l) k).val = (k, l[k]) := by
      show (min k 999999, (mkS l).data[k]?.getD 0) = _
      have : (mkS l).data[k]? = some l[k] := by simp [mkS, hlt]
      rw [this]
      simp
      omega
    rw [e1, List.length_take]
    simp only
    rw [show ((0 + min k l.length : Nat) : Int) = (k : Int) by omega]
    rw [Proofs.weiUp]
    congr 1
def cWeigh : Ctr := ⟨42, [.val false .str pF], fun x => List.length x.1 ≤ 1000000, fun x => (sInt .i64 (weighV x.1), [])⟩
theorem weighV_bd {s : Str} (h : s.length ≤ 1000000) : 0 ≤ weighV s ∧ weighV s ≤ (s.length : Int) * 300000000 := by
  have h1 := weiS_weigh s h s.length (Nat.le_refl _)
  rw [List.take_length] at h1
  have h2 := Proofs.weiS_bd _ (Proofs.weiUp (mkS s) s.length) rfl
  rw [h1] at h2
  rw [show (Proofs.weiUp (mkS s) s.length).length = s.length from Proofs.volUp_length _ _] at h2
  exact h2
theorem cWeigh_ok : CtrOk Proofs.Tryz.prog cWeigh := by
  refine ctr_of_below (fn := Proofs.Tryz.f42) Proofs.Tryz.func42 rfl rfl rfl ?_
  rintro G w args ⟨(s : Str), ⟨⟩⟩ _ _ ⟨v, vs, rfl, ⟨_, cs, rfl, _, ⟨rfl, hl⟩⟩, rfl⟩ hpre
  replace hpre : s.length ≤ 1000000 := hpre
  have h := Proofs.wei_in Fence.wide 3 trivial trivial trivial rfl (Nat.le_refl _) (mkS s) (by exact hpre) w
  refine (callsIn_wide.1 h).mono ?_
  rintro e w' ⟨rfl, hB⟩
  refine ⟨_, rfl, hB, fun G' => ?_, rfl⟩
  rw [show (mkS s).size = s.length from rfl, weiS_weigh s hpre _ (Nat.le_refl _), List.take_length]
  have := weighV_bd hpre
  show MtS G' w' (sInt .i64 (weighV s)) (.int .i64 (weighV s))
  exact .ofInt (by rw [inR_i64]; omega)
theorem grown_below (w : World) (k : Nat) (os : Array Obj) : Below w.heap.size w (Sort.grow (w.drewN k) os) :=
  ⟨rfl, rfl, rfl, by show w.heap.size ≤ (w.heap ++ os).size; rw [Array.size_append]; omega, fun j hj => by
    show (w.heap ++ os)[j]? = w.heap[j]?
    exact Array.getElem?_append_left hj⟩
def cItoa : Ctr := ⟨40, [.val false TI pF], fun _ => True, fun x => (sStr (itoaV x.1), [])⟩
theorem cItoa_ok : CtrOk Proofs.Tryz.prog cItoa := by
  refine ctr_of_below (fn := Proofs.Tryz.f40) Proofs.Tryz.func40 rfl rfl rfl ?_
  rintro G w args ⟨(n : Int), ⟨⟩⟩ _ ham ⟨v, vs, rfl, ⟨_, cs, rfl, _, ⟨rfl, hn⟩⟩, rfl⟩ _
  rw [inR_i64] at hn
  have htab : Lib.TabIs Proofs.Tryz.prog w "internal/strconv.uint64pow10" .u64 Lib.pow10Tab := by
    unfold Lib.TabIs World.var?
    cases hg : Proofs.Tryz.prog.globalNamed "internal/strconv.uint64pow10" with
    | none =>
      have h0 : (Proofs.Tryz.prog.globalNamed "internal/strconv.uint64pow10").isSome = true := by kernel_rfl
      rw [hg] at h0
      cases h0
    | some b =>
      obtain ⟨_, C, t, fz, h2, h3⟩ := ham.1 _ _ (List.mem_cons_self ..) b hg
      simp only [Option.bind_some, h2, Option.some.injEq]
      apply Array.ext'
      rw [h3]
      rfl
  refine (Proofs.Tryz.strconv_Itoa n hn.1 hn.2 w htab).mono ?_
  rintro e w' ⟨rfl, k, os, rfl⟩
  refine ⟨_, rfl, grown_below w k os, fun G' => ?_, rfl⟩
  refine .of1 rfl ⟨rfl, rfl, ?_⟩
  have := Lib.itoa_length_le n hn.1 hn.2
  show (Lib.itoa n).length ≤ maxL
  unfold maxL; omega
def cJoin : Ctr := ⟨71, [.val false (.sl .str) (.all .b), .val false .str pF], fun x => List.length (Lib.join x.1 x.2.1) ≤ 1000000, fun x => (sStr (Lib.join x.1 x.2.1), [])⟩
theorem join_mk (l : List Str) (s : Str) : (⟨(Lib.join ((l.map mkS).map (·.data.toList)) (mkS s).data.toList).toArray⟩ : ByteArray) = mkS (Lib.join l s) := by
  have h : (l.map mkS).map (·.data.toList) = l := by
    rw [List.map_map]
    exact (List.map_congr_left (fun x _ => rfl)).trans (List.map_id l)
  rw [h]
  rfl
theorem cJoin_ok : CtrOk Proofs.Tryz.prog cJoin := by
  refine ctr_of_below (fn := Proofs.Tryz.f71) Proofs.Tryz.func71 rfl rfl rfl ?_
  rintro G w args ⟨(l : List Str), (s : Str), ⟨⟩⟩ hbnd ham ⟨v, vs, rfl, ⟨_, cs, rfl, _, ⟨A, n, c, rfl, hn, hc, hm, _, hblk⟩⟩, v2, vs2, rfl, ⟨_, cs2, rfl, _, ⟨rfl, hl2⟩⟩, rfl⟩ hpre
  replace hpre : (Lib.join l s).length ≤ 1000000 := hpre
  replace hn : n = l.length := hn
  subst hn
  have fin : ∀ G' w', MtS G' w' (sStr (Lib.join l s)) (.string (mkS (Lib.join l s))) := fun G' w' => .of1 rfl ⟨rfl, rfl, by show (Lib.join l s).length ≤ maxL; unfold maxL; omega⟩
  rcases hblk with ⟨_, hz⟩ | ⟨b, off, C, t, fz, rfl, hlab, hh, hs, _, hj⟩
  · have h0 : l = [] := List.eq_nil_of_length_eq_zero (by omega)
    subst h0
    refine (Proofs.Tryz.strings_Join_none A c (mkS s) w).mono ?_
    rintro e w' ⟨rfl, rfl⟩
    exact ⟨_, rfl, Below.refl _ _, fun G' => fin G' _, rfl⟩
  · have hb : b < w.heap.size := hbnd b (by rcases hlab with h | h <;> (rw [h]; simp))
    have := Proofs.Tryz.strings_Join b off c (l.map mkS) (mkS s) w (fun j x hx => by
      rw [List.getElem?_map, Option.map_eq_some_iff] at hx
      obtain ⟨y, hy, rfl⟩ := hx
      have h1 := (hj j y hy).1
      have h2 : (cellsAt C (off + j * 1) 1)[0]? = some (.string (mkS y)) := by
        rw [show (Ty.str).size = 1 from rfl] at h1
        rw [h1]; rfl
      have h3 := cellsAt_get h2
      rw [cell_of_heap hh (o := off) j]
      rw [show off + j * 1 + 0 = off + j by omega] at h3
      exact h3) hb (by rw [List.length_map]; exact hm) (by rw [List.length_map]; exact hc) (by
      have h := congrArg (fun b : ByteArray => b.data.toList.length) (join_mk l s)
      simp only [mkS] at h
      refine Nat.le_trans (Nat.le_of_eq ?_) (Nat.le_trans hpre (by omega))
      simpa [mkS] using h)
    rw [List.length_map] at this
    refine this.mono ?_
    rintro e w' ⟨rfl, hB⟩
    exact ⟨_, rfl, hB, fun G' => by rw [join_mk]; exact fin G' _, rfl⟩
end Go.Sx

/- Roots: what the reference's walks need, plain. -/
namespace Go.Sx
open Go
theorem all_next {α : Type} {p : α → Bool} {l : List α} {i : Nat} {v : Bool} (hlt : i < l.length) (h : (l.drop i).all p = v) (hp : p l[i] = true) : (l.drop (i + 1)).all p = v := by
  rw [drop_at hlt, List.all_cons, hp, Bool.true_and] at h; exact h
theorem all_hit {α : Type} {p : α → Bool} {l : List α} {i : Nat} {v : Bool} (hlt : i < l.length) (h : (l.drop i).all p = v) (hp : p l[i] = false) : v = false := by
  rw [drop_at hlt, List.all_cons, hp, Bool.false_and] at h; exact h.symm
theorem all_end {α : Type} {p : α → Bool} {l : List α} {v : Bool} (h : (l.drop l.length).all p = v) : v = true := by
  rw [List.drop_length] at h; exact h.symm
theorem lower_t {c : UInt8} (h1 : 97 ≤ (c.toNat : Int)) (h2 : (c.toNat : Int) ≤ 122) : lower c = true := by simp [lower]; omega
theorem lower_l {c : UInt8} (h1 : (c.toNat : Int) < 97) : lower c = false := by simp [lower]; omega
theorem lower_h {c : UInt8} (h1 : 122 < (c.toNat : Int)) : lower c = false := by simp [lower]; omega
theorem placeV_no1 {d : Int} {a : Plc} (h : inV a.1 0 (d - 1) = false) : placeV d a = false := by
  simp only [inV, placeV, Bool.and_eq_false_iff, decide_eq_false_iff_not] at h ⊢
  omega
theorem placeV_no2 {d : Int} {a : Plc} (h : inV a.2 0 11 = false) : placeV d a = false := by
  simp only [inV, placeV, Bool.and_eq_false_iff, decide_eq_false_iff_not] at h ⊢
  omega
theorem placeV_yes {d : Int} {a : Plc} (h1 : inV a.1 0 (d - 1) = true) (h2 : inV a.2 0 11 = true) : placeV d a = true := by
  simp only [inV, placeV, Bool.and_eq_true, decide_eq_true_eq] at h1 h2 ⊢
  omega
theorem volG_small {l : List Vol_} (h : chk volG l = true) (h4 : l.length ≤ 4) : SmallV l := by
  refine ⟨by omega, fun v hv => ?_⟩
  obtain ⟨i, hi, rfl⟩ := List.getElem_of_mem hv
  have h1 := chk_iff.1 h i hi
  simp only [volG, Bool.and_eq_true, decide_eq_true_eq] at h1
  omega
theorem itoaV_small {n : Int} (h : 0 ≤ n) (h2 : n < 10) : itoaV n = [UInt8.ofNat (48 + n).toNat] := by
  obtain ⟨u, rfl⟩ := Int.eq_ofNat_of_zero_le h
  unfold itoaV
  rw [Lib.itoa_nonneg, Lib.decDigits_one (by omega)]
  congr 2
theorem itoaV_big {n : Int} (h : 0 ≤ n) (h2 : ¬ n < 10) : itoaV n = itoaV (n / 10) ++ [UInt8.ofNat (48 + n % 10).toNat] := by
  obtain ⟨u, rfl⟩ := Int.eq_ofNat_of_zero_le h
  unfold itoaV
  rw [Lib.itoa_nonneg, show ((u : Int) / 10) = ((u / 10 : Nat) : Int) by omega, Lib.itoa_nonneg, Lib.decDigits, dif_neg (by omega)]
  congr 3
def wordS (a : Plc) : Str := [32] ++ wordV a
theorem words_join {sz sm : Int} {pl : List Plc} : Lib.join (wordsV (sz, sm, pl)) [32] = (tPtr ++ [32] ++ itoaV sz ++ [32] ++ itoaV sm) ++ catGo wordS (pl.drop 0) := by
  rw [show wordsV (sz, sm, pl) = tPtr :: (itoaV sz :: itoaV sm :: pl.map wordV) from rfl, Lib.join_cons, List.drop_zero]
  have h : ∀ q : List Plc, Lib.joinTail [32] (q.map wordV) = catGo wordS q := by
    intro q
    induction q with
    | nil => rfl
    | cons a q ih => simp only [List.map_cons, Lib.joinTail, List.flatten_cons, catGo, wordS] at ih ⊢; rw [ih]
  rw [← h]
  simp [Lib.joinTail]
theorem ptrV_none {d : Int} {p : Ptr_} (h : ptrV d p = true) (h0 : p.1 = 0) : noneV p = true := by
  simp only [ptrV, Bool.and_eq_true, Bool.or_eq_true] at h
  rcases h.2 with h2 | h2
  · exact h2
  · have h3 := h2.1
    simp only [sizeV, inV, Bool.and_eq_true, decide_eq_true_eq] at h3
    omega
theorem ptrV_pos {d : Int} {p : Ptr_} (h : ptrV d p = true) (h0 : ¬ p.1 = 0) : 0 ≤ p.1 ∧ 0 ≤ p.2.1 ∧ ∀ a ∈ p.2.2, 0 ≤ a.1 ∧ 0 ≤ a.2 := by
  simp only [ptrV, Bool.and_eq_true, Bool.or_eq_true] at h
  rcases h.2 with h2 | h2
  · simp only [noneV, Bool.and_eq_true, decide_eq_true_eq] at h2
    exact absurd h2.1 h0
  · have h3 := h2.1
    simp only [sizeV, inV, Bool.and_eq_true, decide_eq_true_eq] at h3
    refine ⟨by omega, by omega, fun a ha => ?_⟩
    obtain ⟨i, hi, rfl⟩ := List.getElem_of_mem ha
    have h4 := chk_iff.1 h2.2 i hi
    simp only [placeF, placeV, Bool.and_eq_true, decide_eq_true_eq] at h4
    omega
theorem rootV_txg {d : Int} {r : Root_} (h : rootV d r = true) : 0 ≤ r.1 := by
  simp only [rootV, inV, Bool.and_eq_true, decide_eq_true_eq] at h
  exact h.2.1.1
theorem weigh_one {c : UInt8} {i : Nat} (h : i < 1000000) : 0 ≤ (c.toNat : Int) * (65536 + (i : Int) + 1) ∧ (c.toNat : Int) * (65536 + (i : Int) + 1) ≤ 300000000 := by
  have h1 : c.toNat < 256 := c.toNat_lt
  refine ⟨Int.mul_nonneg (by omega) (by omega), ?_⟩
  have := Int.mul_le_mul (a := (c.toNat : Int)) (b := 65536 + (i : Int) + 1) (c := 255) (d := 1065536) (by omega) (by omega) (by omega) (by omega)
  omega
theorem weigh_next {s : Str} {i : Nat} {n v : Int} (hlt : i < s.length) (h : n + weighGo (s.drop i) i = v) : (n + (s[i].toNat : Int) * (65536 + (i : Int) + 1)) + weighGo (s.drop (i + 1)) (i + 1) = v := by
  rw [drop_at hlt] at h
  simp only [weighGo] at h
  omega
theorem weigh_end {s : Str} {n v : Int} (h : n + weighGo (s.drop s.length) s.length = v) : v = n := by
  rw [List.drop_length] at h; simp only [weighGo] at h; omega
end Go.Sx

/- Sizes and copies of roots: plain law. -/
namespace Go.Sx
open Go
instance : DecidableEq Plc := instDecidableEqProd
instance : DecidableEq Ptr_ := instDecidableEqProd
instance : DecidableEq Vol_ := instDecidableEqProd
instance : DecidableEq Root_ := instDecidableEqProd
def szGo {α : Type} (f : α → Int → Int) : List α → Int → Int
  | [], left => left
  | x :: r, left => if f x left < 0 then -1 else szGo f r (f x left)
def szL {α : Type} (f : α → Int → Int) (l : List α) (left : Int) : Int := if left - l.length < 0 then -1 else szGo f l (left - l.length)
def szPl (l : List Plc) (left : Int) : Int := if left - l.length < 0 then -1 else left - l.length
def szP (p : Ptr_) (left : Int) : Int := szPl p.2.2 left
def szPs (l : List Ptr_) (left : Int) : Int := szL szP l left
def szV (v : Vol_) (left : Int) : Int := if left - v.1.length < 0 then -1 else szPs v.2 (left - v.1.length)
def szVs (l : List Vol_) (left : Int) : Int := szL szV l left
def SzOk {α : Type} (f : α → Int → Int) : Prop := ∀ x left, 0 ≤ left → -1 ≤ f x left ∧ f x left ≤ left
theorem szGo_bd {α : Type} {f : α → Int → Int} (hf : SzOk f) : ∀ {l : List α} {left : Int}, 0 ≤ left → -1 ≤ szGo f l left ∧ szGo f l left ≤ left := by
  intro l
  induction l with
  | nil => intro left h; exact ⟨by simp only [szGo]; omega, Int.le_refl _⟩
  | cons s r ih =>
    intro left h
    simp only [szGo]
    have h1 := hf s left h
    split
    · omega
    · have := ih (left := f s left) (by omega)
      omega
theorem szL_ok {α : Type} {f : α → Int → Int} (hf : SzOk f) : SzOk (szL f) := by
  intro l left h
  unfold szL
  split
  · omega
  · have := szGo_bd hf (l := l) (left := left - l.length) (by omega)
    omega
theorem szPl_ok : SzOk szPl := by
  intro l left h
  unfold szPl
  split <;> omega
theorem szP_ok : SzOk szP := fun p left h => szPl_ok p.2.2 left h
theorem szPs_ok : SzOk szPs := szL_ok szP_ok
theorem szV_ok : SzOk szV := by
  intro v left h
  unfold szV
  split
  · omega
  · have := szPs_ok v.2 (left - v.1.length) (by omega)
    omega
theorem szVs_ok : SzOk szVs := szL_ok szV_ok
theorem sz_neg {α : Type} {f : α → Int → Int} (hf : SzOk f) {x : α} {left : Int} (h : 0 ≤ left) (h2 : f x left < 0) : f x left = -1 := by have := hf x left h; omega
theorem sz_next {α : Type} {f : α → Int → Int} {l : List α} {i : Nat} {left v : Int} (hlt : i < l.length) (h : szGo f (l.drop i) left = v) (h0 : ¬ f l[i] left < 0) : szGo f (l.drop (i + 1)) (f l[i] left) = v := by
  rw [drop_at hlt] at h; simp only [szGo] at h; rwa [if_neg h0] at h
theorem sz_hit {α : Type} {f : α → Int → Int} {l : List α} {i : Nat} {left v : Int} (hlt : i < l.length) (h : szGo f (l.drop i) left = v) (h0 : f l[i] left < 0) : v = -1 := by
  rw [drop_at hlt] at h; simp only [szGo] at h; rw [if_pos h0] at h; exact h.symm
theorem sz_end {α : Type} {f : α → Int → Int} {l : List α} {left v : Int} (h : szGo f (l.drop l.length) left = v) : v = left := by
  rw [List.drop_length] at h; exact h.symm
/-- within the bound that the laws set -/
def SmP (p : Ptr_) : Prop := p.2.2.length ≤ 1048576
def SmPs (l : List Ptr_) : Prop := l.length ≤ 1048576 ∧ ∀ p ∈ l, SmP p
def SmVs (l : List Vol_) : Prop := l.length ≤ 1048576 ∧ ∀ v ∈ l, SmPs v.2
theorem szGo_sm {α : Type} {f : α → Int → Int} {Q : α → Prop} (hf : SzOk f) (hq : ∀ x left, 0 ≤ left → left ≤ 1048576 → 0 ≤ f x left → Q x) : ∀ {l : List α} {left : Int}, 0 ≤ left → left ≤ 1048576 → 0 ≤ szGo f l left → ∀ x ∈ l, Q x := by
  intro l
  induction l with
  | nil => intro left _ _ _ x hx; cases hx
  | cons s r ih =>
    intro left h0 h1 h x hx
    simp only [szGo] at h
    have hb := hf s left h0
    split at h
    · omega
    · rcases List.mem_cons.1 hx with rfl | hx
      · exact hq x left h0 h1 (by omega)
      · exact ih (left := f s left) (by omega) (by omega) h x hx
theorem szP_sm (p : Ptr_) (left : Int) (h0 : 0 ≤ left) (h1 : left ≤ 1048576) (h : 0 ≤ szP p left) : SmP p := by
  unfold szP szPl at h
  split at h
  · omega
  · unfold SmP; omega
theorem szPs_sm (l : List Ptr_) (left : Int) (h0 : 0 ≤ left) (h1 : left ≤ 1048576) (h : 0 ≤ szPs l left) : SmPs l := by
  unfold szPs szL at h
  split at h
  · omega
  · exact ⟨by omega, szGo_sm szP_ok szP_sm (by omega) (by omega) h⟩
theorem szV_sm (v : Vol_) (left : Int) (h0 : 0 ≤ left) (h1 : left ≤ 1048576) (h : 0 ≤ szV v left) : SmPs v.2 := by
  unfold szV at h
  split at h
  · omega
  · exact szPs_sm v.2 _ (by omega) (by omega) h
theorem szVs_sm (l : List Vol_) (left : Int) (h0 : 0 ≤ left) (h1 : left ≤ 1048576) (h : 0 ≤ szVs l left) : SmVs l := by
  unfold szVs szL at h
  split at h
  · omega
  · exact ⟨by omega, szGo_sm szV_ok szV_sm (by omega) (by omega) h⟩
def cpL {α : Type} (l : List α) (d : α) (i : Nat) : List α := l.take i ++ List.replicate (l.length - i) d
theorem cpL_next {α : Type} {l : List α} {d : α} {i : Nat} (hlt : i < l.length) : (cpL l d i).set i l[i] = cpL l d (i + 1) := by
  unfold cpL
  rw [List.set_append_right _ _ (by simp; omega)]
  have h1 : i - (l.take i).length = 0 := by simp; omega
  rw [h1, show l.length - i = (l.length - (i + 1)) + 1 by omega, List.replicate_succ, List.set_cons_zero, List.take_succ_eq_append_getElem hlt, List.append_assoc]
  rfl
theorem cpL_len {α : Type} {l : List α} {d : α} {i : Nat} (h : i ≤ l.length) : (cpL l d i).length = l.length := by
  unfold cpL; simp; omega
theorem cpL_end {α : Type} {l : List α} {d : α} : cpL l d l.length = l := by unfold cpL; simp
theorem cpL_zero {α : Type} {l : List α} {d : α} : cpL l d 0 = List.replicate l.length d := by unfold cpL; simp
end Go.Sx

/- Roots drawn: plain law. -/
namespace Go.Sx
open Go
def rd0 (code : List Int) : Rd := (code.take 2000, 0)
theorem rd0_ok {code : List Int} (h : ∀ v ∈ code, inR .u8 v) : ROk (rd0 code) 3000 := by
  refine ⟨fun v hv => ?_, ?_, by show (0 : Int) ≤ 0; decide, by show (0 : Int) + 3000 ≤ 1099511627776; decide⟩
  · have := h v (List.mem_of_mem_take hv); rwa [inR_u8] at this
  · exact List.length_take_le _ _
def plcGo (d fr : Int) : Nat → Nat → Rd → List Plc → List Plc × Rd
  | 0, _, R, out => (out, R)
  | n + 1, i, R, out => plcGo d fr n (i + 1) (nx R) (out ++ [((fr + (i : Int)).tmod d, pk R 12)])
def plcD (R : Rd) (d c : Int) : List Plc × Rd := plcGo d (pk R d) c.toNat 0 (nx R) []
theorem plcGo_rd : ∀ (n i : Nat) (d fr : Int) (R : Rd) (out : List Plc), (plcGo d fr n i R out).2 = (R.1, R.2 + n) ∧ (plcGo d fr n i R out).1.length = out.length + n := by
  intro n
  induction n with
  | zero => intro i d fr R out; simp [plcGo]
  | succ n ih =>
    intro i d fr R out
    simp only [plcGo]
    obtain ⟨h1, h2⟩ := ih (i + 1) d fr (nx R) (out ++ [((fr + (i : Int)).tmod d, pk R 12)])
    rw [h1, h2]
    simp [nx]
    omega
def ptrT (R : Rd) (d : Int) : Str := textV R (3 * sMin 3 (d - 1) - 1) ++ [107]
def ptrD (R : Rd) (d : Int) : Ptr_ × Rd := ((((ptrT R d).length : Int), weighV ((ptrT R d).take 9), (plcD (textR R (3 * sMin 3 (d - 1) - 1)) d (colsV ((ptrT R d).length : Int) + 1)).1), (plcD (textR R (3 * sMin 3 (d - 1) - 1)) d (colsV ((ptrT R d).length : Int) + 1)).2)
theorem sMin_bd' {d : Int} (h : 3 ≤ d ∧ d ≤ 4) : 3 * sMin 3 (d - 1) - 1 = 3 * (d - 1) - 1 := by rw [sMin_bd d h]
theorem ptrT_len {R : Rd} {d : Int} (h : ROk R 30) (hd : 3 ≤ d ∧ d ≤ 4) : 1 ≤ (ptrT R d).length ∧ (ptrT R d).length ≤ 9 := by
  unfold ptrT
  rw [sMin_bd' hd]
  have := textV_len h (by decide) (most := 3 * (d - 1) - 1) (by omega)
  rw [List.length_append]
  simp only [List.length_cons, List.length_nil]
  omega
theorem colsV_le {n : Int} (h0 : 1 ≤ n) (h1 : n ≤ 9) : 1 ≤ colsV n ∧ colsV n ≤ 3 := by
  have : colsV n = (n + 3 - 1) / 3 := Int.tdiv_eq_ediv_of_nonneg (by omega)
  omega
theorem ptrD_len {R : Rd} {d : Int} (h : ROk R 30) (hd : 3 ≤ d ∧ d ≤ 4) : 2 ≤ (ptrD R d).1.2.2.length ∧ (ptrD R d).1.2.2.length ≤ 4 := by
  have h1 := ptrT_len h hd
  have h2 := colsV_le (n := ((ptrT R d).length : Int)) (by omega) (by omega)
  simp only [ptrD, plcD]
  rw [(plcGo_rd _ _ _ _ _ _).2]
  simp only [List.length_nil]
  omega
theorem ptrD_ok {R : Rd} {d m : Int} (hm : 0 ≤ m) (h : ROk R (m + 30)) (hd : 3 ≤ d ∧ d ≤ 4) : ROk (ptrD R d).2 m := by
  have h1 := ptrT_len (h.le (by omega)) hd
  have h2 := colsV_le (n := ((ptrT R d).length : Int)) (by omega) (by omega)
  have ht : ROk (textR R (3 * sMin 3 (d - 1) - 1)) (m + 5) := textR_ok h (by omega) (by rw [sMin_bd' hd]; omega) (by rw [sMin_bd' hd]; omega)
  simp only [ptrD, plcD]
  rw [(plcGo_rd _ _ _ _ _ _).1]
  have hp := ht.p1
  have hp0 := ht.p0
  refine ⟨ht.b, ht.len, ?_, ?_⟩ <;> simp only [nx] <;> omega
def zP : Ptr_ := (0, 0, [])
def aS : List Int := [-1, 1000000000, 1000000001]
def aT : List Int := [-1, 12]
def aX : List Int := [-1, 100000, 100001]
def someD (R : Rd) (d : Int) : Ptr_ × Rd :=
  if pk R 5 = 0 then (zP, nx R) else
  let q := ptrD (nx R) d
  let p := q.1
  let R2 := nx q.2
  if pk q.2 20 = 0 then ((pk R2 14 - 1, p.2.1, p.2.2), nx R2)
  else if pk q.2 20 = 1 then ((p.1, aS.getD (pk R2 3).toNat 0, p.2.2), nx R2)
  else if pk q.2 20 = 2 then ((p.1, p.2.1, p.2.2.set 0 ((p.2.2.getD 0 (0, 0)).1, aT.getD (pk R2 2).toNat 0)), nx R2)
  else if pk q.2 20 = 3 then ((p.1, p.2.1, p.2.2.set 0 (p.2.2.getD 1 (0, 0))), R2)
  else if pk q.2 20 = 4 then ((p.1, p.2.1, p.2.2.drop 1), R2)
  else (p, R2)
def meetsNo (p : Ptr_) (l : List Ptr_) : Bool := l.all fun x => !meetV p x
def clrB (R : Rd) (d : Int) (all : List Ptr_) (k : Nat) (bl : List Ptr_) : Bool := (decide (0 < pk (ptrD R d).2 3) && meetsNo (ptrD R d).1 all) && meetsNo (ptrD R d).1 (bl.take k)
def blkStep (d : Int) (all : List Ptr_) (k : Nat) (bl : List Ptr_) (R : Rd) : List Ptr_ × Rd :=
  let q := ptrD R d
  let R2 := nx q.2
  if clrB R d all k bl = true then (bl.set k q.1, R2)
  else if 0 < all.length then (if pk R2 2 = 0 then (bl.set k (all.getD (pk (nx R2) all.length).toNat zP), nx (nx R2)) else (bl, nx R2))
  else (bl, R2)
def blkGo (d : Int) (all : List Ptr_) : Nat → Nat → List Ptr_ → Rd → List Ptr_ × Rd
  | 0, _, bl, R => (bl, R)
  | n + 1, k, bl, R => blkGo d all n (k + 1) (blkStep d all k bl R).1 (blkStep d all k bl R).2
def nms : List Str := [[97], [98], [99, 100], [120, 121, 122], [113], [122, 122]]
def nmD (R : Rd) : Str := nms.getD (pk R 6).toNat []
def hasN_ (vs : List Vol_) (nm : Str) : Bool := vs.any fun v => decide (v.1 = nm)
def volGo (d : Int) : Nat → List Vol_ → Rd → List Vol_ × Rd
  | 0, vs, R => (vs, R)
  | n + 1, vs, R => if hasN_ vs (nmD R) = true then volGo d n vs (nx R) else
    volGo d n (vs ++ [(nmD R, (blkGo d (blksOf vs) 3 0 [zP, zP, zP] (nx R)).1)]) (blkGo d (blksOf vs) 3 0 [zP, zP, zP] (nx R)).2
def rootD (R : Rd) (d : Int) : Root_ × Rd := ((pk R 9, (volGo d (pk (nx R) 5).toNat [] (nx (nx R))).1), (volGo d (pk (nx R) 5).toNat [] (nx (nx R))).2)
def fillGo : Nat → List Vol_ → List Vol_
  | 0, vs => vs
  | n + 1, vs => fillGo n (vs ++ [([UInt8.ofNat (107 + vs.length)], [zP, zP, zP])])
def v0 (vs : List Vol_) : Vol_ := vs.getD 0 ([], [])
def offD (R : Rd) (d : Int) : Root_ × Rd :=
  let q := rootD R d
  let r := q.1
  let R1 := nx q.2
  let R2 := nx R1
  if 0 < pk q.2 12 then (r, R1)
  else if pk R1 6 = 0 then ((aX.getD (pk R2 3).toNat 0, r.2), nx R2)
  else if pk R1 6 = 1 then ((r.1, r.2 ++ [([65], [zP, zP, zP])]), R2)
  else if pk R1 6 = 2 then (if 0 < r.2.length then (r.1, r.2.set 0 ((v0 r.2).1, (v0 r.2).2.drop 1)) else r, R2)
  else if pk R1 6 = 3 then (if 0 < r.2.length then ((r.1, r.2.set 0 ((v0 r.2).1, (v0 r.2).2.set 0 (someD R2 d).1)), (someD R2 d).2) else (r, R2))
  else if pk R1 6 = 4 then (if 0 < r.2.length then (r.1, r.2 ++ [v0 r.2]) else r, R2)
  else ((r.1, fillGo (5 - r.2.length) r.2), R2)
theorem blkStep_ok {d m : Int} {all bl : List Ptr_} {k : Nat} {R : Rd} (hm : 0 ≤ m) (h : ROk R (m + 40)) (hd : 3 ≤ d ∧ d ≤ 4) : ROk (blkStep d all k bl R).2 m ∧ (blkStep d all k bl R).1.length = bl.length := by
  have h1 : ROk (ptrD R d).2 (m + 3) := ptrD_ok (m := m + 3) (by omega) (h.le (by omega)) hd
  have h2 : ROk (nx (ptrD R d).2) (m + 2) := h1.nx (by omega)
  have h3 : ROk (nx (nx (ptrD R d).2)) (m + 1) := h2.nx (by omega)
  have h4 : ROk (nx (nx (nx (ptrD R d).2))) m := h3.nx (by omega)
  unfold blkStep
  simp only
  split
  · exact ⟨h2.le (by omega), by simp⟩
  · split
    · split
      · exact ⟨h4, by simp⟩
      · exact ⟨h3.le (by omega), rfl⟩
    · exact ⟨h2.le (by omega), rfl⟩
theorem blkGo_ok {d : Int} {all : List Ptr_} (hd : 3 ≤ d ∧ d ≤ 4) : ∀ (n k : Nat) (bl : List Ptr_) (R : Rd) (m : Int), 0 ≤ m → ROk R (m + 40 * n) → ROk (blkGo d all n k bl R).2 m ∧ (blkGo d all n k bl R).1.length = bl.length := by
  intro n
  induction n with
  | zero => intro k bl R m _ h; exact ⟨h.le (by omega), rfl⟩
  | succ n ih =>
    intro k bl R m hm h
    simp only [blkGo]
    obtain ⟨h1, h2⟩ := blkStep_ok (m := m + 40 * n) (all := all) (bl := bl) (k := k) (by omega) (h.le (by push_cast; omega)) hd
    obtain ⟨h3, h4⟩ := ih (k + 1) (blkStep d all k bl R).1 (blkStep d all k bl R).2 m hm h1
    exact ⟨h3, by rw [h4, h2]⟩
theorem volGo_ok {d : Int} (hd : 3 ≤ d ∧ d ≤ 4) : ∀ (n : Nat) (vs : List Vol_) (R : Rd) (m : Int), 0 ≤ m → ROk R (m + 130 * n) → (∀ v ∈ vs, v.2.length = 3) → ROk (volGo d n vs R).2 m ∧ (volGo d n vs R).1.length ≤ vs.length + n ∧ ∀ v ∈ (volGo d n vs R).1, v.2.length = 3 := by
  intro n
  induction n with
  | zero => intro vs R m _ h hv; exact ⟨h.le (by omega), by simp [volGo], hv⟩
  | succ n ih =>
    intro vs R m hm h hv
    simp only [volGo]
    split
    · obtain ⟨a, b, c⟩ := ih vs (nx R) m hm (h.nx (by push_cast; omega)) hv
      exact ⟨a, by omega, c⟩
    · have hR : ROk (nx R) (m + 130 * n + 120) := h.nx (by push_cast; omega)
      obtain ⟨h1, h2⟩ := blkGo_ok (all := blksOf vs) hd 3 0 [zP, zP, zP] (nx R) (m + 130 * n) (by omega) (hR.le (by omega))
      obtain ⟨a, b, c⟩ := ih (vs ++ [(nmD R, (blkGo d (blksOf vs) 3 0 [zP, zP, zP] (nx R)).1)]) _ m hm h1 (fun v hv' => by
        rcases List.mem_append.1 hv' with hv' | hv'
        · exact hv v hv'
        · rw [List.mem_singleton.1 hv']; exact h2)
      exact ⟨a, by rw [List.length_append] at b; simp only [List.length_cons, List.length_nil] at b; omega, c⟩
theorem rootD_ok {R : Rd} {d m : Int} (hm : 0 ≤ m) (h : ROk R (m + 600)) (hd : 3 ≤ d ∧ d ≤ 4) : ROk (rootD R d).2 m ∧ (rootD R d).1.2.length ≤ 4 ∧ ∀ v ∈ (rootD R d).1.2, v.2.length = 3 := by
  have h1 : ROk (nx R) (m + 599) := h.nx (by omega)
  have h2 : ROk (nx (nx R)) (m + 598) := h1.nx (by omega)
  have hb := pk_bd h1 (by omega) (n := 5) (by omega)
  obtain ⟨a, b, c⟩ := volGo_ok hd (pk (nx R) 5).toNat [] (nx (nx R)) m hm (h2.le (by omega)) (fun v hv => by cases hv)
  exact ⟨a, by simp only [rootD]; simp only [List.length_nil] at b; omega, c⟩
end Go.Sx

/- Roots drawn: loops' plain lemmas. -/
namespace Go.Sx
open Go
theorem idxFGo_bd {α : Type} {p : α → Bool} : ∀ {l : List α} {i : Nat}, -1 ≤ idxFGo p l i ∧ idxFGo p l i ≤ ((i + l.length : Nat) : Int) := by
  intro l
  induction l with
  | nil => intro i; simp only [idxFGo]; omega
  | cons a l ih =>
    intro i
    simp only [idxFGo]
    have h := ih (i := i + 1)
    rw [List.length_cons]
    split
    · omega
    · omega
theorem hasN_idx {vs : List Vol_} {nm : Str} : hasN_ vs nm = decide (0 ≤ idxF (fun v : Vol_ => decide (v.1 = nm)) vs) := idxF_any.symm
theorem mN_next {c : Bool} {p : Ptr_} {l : List Ptr_} {i : Nat} (hlt : i < l.length) : (c && meetsNo p (l.take (i + 1))) = ((c && meetsNo p (l.take i)) && !meetV p l[i]) := by
  unfold meetsNo
  rw [List.take_succ_eq_append_getElem hlt, List.all_append]
  simp [Bool.and_assoc]
theorem mN_zero {p : Ptr_} {l : List Ptr_} : meetsNo p (l.take 0) = true := rfl
theorem mN_end {p : Ptr_} {l : List Ptr_} : meetsNo p (l.take l.length) = meetsNo p l := by rw [List.take_length]
theorem vols_small {vs : List Vol_} (h1 : vs.length ≤ 4) (h2 : ∀ v ∈ vs, v.2.length = 3) : SmallV vs := ⟨by omega, fun v hv => by have := h2 v hv; omega⟩
theorem blksOf_len {vs : List Vol_} (h1 : vs.length ≤ 4) (h2 : ∀ v ∈ vs, v.2.length = 3) : (blksOf vs).length ≤ 12 := by
  have : ∀ (vs : List Vol_), (∀ v ∈ vs, v.2.length = 3) → (blksOf vs).length = vs.length * 3 := by
    intro vs
    induction vs with
    | nil => intro _; rfl
    | cons v vs ih =>
      intro h
      have h3 := ih (fun w hw => h w (List.mem_cons_of_mem _ hw))
      have h4 := h v List.mem_cons_self
      simp only [blksOf, List.flatMap_cons, List.length_append, List.length_cons] at h3 ⊢
      omega
  have := this vs h2
  omega
end Go.Sx

/- Roots: the program's test is the reference's. -/
namespace Go.Sx
open Go
theorem keyPK (x y : Plc) : keyEq PK x y = decide (x = y) := by
  simp only [keyEq]
  refine Bool.eq_iff_iff.2 ?_
  simp only [Bool.and_eq_true, decide_eq_true_eq]
  exact ⟨fun h => Prod.ext h.1 h.2, fun h => by rw [h]; exact ⟨rfl, rfl⟩⟩
theorem mget_mset {m : List (Plc × Ptr_)} {a b : Plc} {p : Ptr_} : mget PK (mset PK m a p) b = if b = a then some p else mget PK m b := by
  induction m with
  | nil =>
    simp only [mset, mget]
    rw [keyPK]
    by_cases h : b = a <;> simp [h]
  | cons e m ih =>
    simp only [mset]
    rw [keyPK]
    by_cases h : a = e.1
    · simp only [h, decide_true, cond_true, mget]
      rw [keyPK]
      by_cases h2 : b = e.1 <;> simp [h2]
    · simp only [h, decide_false, cond_false, mget]
      rw [keyPK, ih]
      by_cases h2 : b = e.1
      · have h3 : ¬ b = a := fun e2 => h (e2.symm.trans h2)
        simp [h2, h3]
        intro e2
        exact absurd e2.symm h
      · simp [h2]
theorem own_iff : ∀ {l m : List (Plc × Ptr_)}, ownGo m l = true ↔ (∀ e ∈ l, ∀ q, mget PK m e.1 = some q → e.2 = q) ∧ ∀ e ∈ l, ∀ f ∈ l, e.1 = f.1 → e.2 = f.2 := by
  intro l
  induction l with
  | nil => intro m; simp [ownGo]
  | cons c r ih =>
    intro m
    obtain ⟨a, p⟩ := c
    simp only [ownGo, Bool.and_eq_true]
    rw [ih]
    constructor
    · rintro ⟨h1, h2, h3⟩
      have ha : ∀ q, mget PK m a = some q → p = q := fun q hq => by rw [hq] at h1; simpa using h1
      have hp : ∀ e ∈ r, e.1 = a → e.2 = p := fun e he hea => h2 e he p (by rw [mget_mset, if_pos hea])
      refine ⟨fun e he q hq => ?_, fun e he f hf hef => ?_⟩
      · rcases List.mem_cons.1 he with rfl | he
        · exact ha q hq
        · by_cases hea : e.1 = a
          · rw [hp e he hea]; exact ha q (by rw [← hea]; exact hq)
          · exact h2 e he q (by rw [mget_mset, if_neg hea]; exact hq)
      · rcases List.mem_cons.1 he with rfl | he <;> rcases List.mem_cons.1 hf with rfl | hf
        · rfl
        · exact (hp f hf hef.symm).symm
        · exact hp e he hef
        · exact h3 e he f hf hef
    · rintro ⟨h1, h2⟩
      refine ⟨?_, fun e he q hq => ?_, fun e he f hf => h2 e (List.mem_cons_of_mem _ he) f (List.mem_cons_of_mem _ hf)⟩
      · cases hq : mget PK m a with
        | none => rfl
        | some q => have := h1 (a, p) List.mem_cons_self q hq; simpa using this
      · rw [mget_mset] at hq
        by_cases hea : e.1 = a
        · rw [if_pos hea] at hq
          cases hq
          exact h2 e (List.mem_cons_of_mem _ he) (a, p) List.mem_cons_self hea
        · rw [if_neg hea] at hq
          exact h1 e (List.mem_cons_of_mem _ he) q hq
theorem mem_pairs {ps : List Ptr_} {e : Plc × Ptr_} : e ∈ pairsOf ps ↔ e.2 ∈ ps ∧ e.1 ∈ e.2.2.2 := by
  obtain ⟨a, p⟩ := e
  simp only [pairsOf, List.mem_flatMap, List.mem_map, Prod.mk.injEq]
  constructor
  · rintro ⟨q, hq, b, hb, rfl, rfl⟩
    exact ⟨hq, hb⟩
  · rintro ⟨h1, h2⟩
    exact ⟨p, h1, a, h2, rfl, rfl⟩
theorem meet_iff {p q : Ptr_} : meetV p q = true ↔ ∃ a, a ∈ p.2.2 ∧ a ∈ q.2.2 := by
  simp only [meetV, List.any_eq_true, decide_eq_true_eq]
  constructor
  · rintro ⟨a, ha, b, hb, rfl⟩; exact ⟨a, ha, hb⟩
  · rintro ⟨a, ha, hb⟩; exact ⟨a, ha, a, hb, rfl⟩
theorem own_meet {ps : List Ptr_} : ownGo [] (pairsOf ps) = true ↔ ∀ i (h : i < ps.length), ∀ q ∈ ps.take i, meetV ps[i] q = true → ps[i] = q := by
  rw [own_iff]
  constructor
  · rintro ⟨_, h2⟩ i hi q hq hm
    obtain ⟨a, ha, hb⟩ := meet_iff.1 hm
    exact h2 (a, ps[i]) (mem_pairs.2 ⟨List.getElem_mem hi, ha⟩) (a, q) (mem_pairs.2 ⟨List.mem_of_mem_take hq, hb⟩) rfl
  · intro h
    refine ⟨fun e _ q hq => by simp [mget] at hq, fun e he f hf hef => ?_⟩
    obtain ⟨e1, e2⟩ := mem_pairs.1 he
    obtain ⟨f1, f2⟩ := mem_pairs.1 hf
    obtain ⟨i, hi, hie⟩ := List.getElem_of_mem e1
    obtain ⟨k, hk, hkf⟩ := List.getElem_of_mem f1
    rw [← hie] at e2 ⊢
    rw [← hkf] at f2 ⊢
    rcases Nat.lt_trichotomy i k with hlt | rfl | hlt
    · refine (h k hk ps[i] (List.mem_take_iff_getElem.2 ⟨i, by omega, rfl⟩) (meet_iff.2 ⟨f.1, f2, ?_⟩)).symm
      rw [← hef]; exact e2
    · rfl
    · refine h i hi ps[k] (List.mem_take_iff_getElem.2 ⟨k, by omega, rfl⟩) (meet_iff.2 ⟨e.1, e2, ?_⟩)
      rw [hef]; exact f2
theorem ptrV_W {d : Int} {p : Ptr_} (h : poolV d = true) : ptrV d p = ptrW d p := by
  unfold ptrV ptrW
  rw [h, Bool.true_and]
  by_cases h0 : p.1 = 0
  · rw [if_pos h0]
    have h1 : sizeV d p = false := by simp [sizeV, inV, h0]
    rw [h1]
    simp [noneV, h0]
  · rw [if_neg h0]
    simp [noneV, h0]
theorem volF_G {d : Int} {pre : List Vol_} {v : Vol_} : volF d pre v = (volG pre v && v.2.all (ptrV d)) := by
  simp only [volF, volG, Bool.and_assoc]
theorem chk_volF {d : Int} {l : List Vol_} : chk (volF d) l = true ↔ chk volG l = true ∧ ∀ p ∈ blksOf l, ptrV d p = true := by
  simp only [chk_iff, volF_G, Bool.and_eq_true, List.all_eq_true]
  constructor
  · intro h
    refine ⟨fun i hi => (h i hi).1, fun p hp => ?_⟩
    obtain ⟨v, hv, hp⟩ := List.mem_flatMap.1 hp
    obtain ⟨i, hi, rfl⟩ := List.getElem_of_mem hv
    exact (h i hi).2 p hp
  · rintro ⟨h1, h2⟩ i hi
    exact ⟨h1 i hi, fun p hp => h2 p (List.mem_flatMap.2 ⟨l[i], List.getElem_mem hi, hp⟩)⟩
theorem chk_ptrG {d : Int} {ps : List Ptr_} : chk (ptrG d) ps = true ↔ (∀ p ∈ ps, ptrW d p = true) ∧ ∀ i (h : i < ps.length), ∀ q ∈ ps.take i, meetV ps[i] q = true → ps[i] = q := by
  simp only [chk_iff, ptrG, Bool.and_eq_true]
  constructor
  · intro h
    refine ⟨fun p hp => ?_, fun i hi q hq hm => ?_⟩
    · obtain ⟨i, hi, rfl⟩ := List.getElem_of_mem hp
      exact (h i hi).1
    · have h2 := (h i hi).2
      simp only [Bool.not_eq_true', List.any_eq_false, Bool.and_eq_true, not_and] at h2
      have := h2 q hq hm
      simpa using this
  · rintro ⟨h1, h2⟩ i hi
    refine ⟨h1 _ (List.getElem_mem hi), ?_⟩
    simp only [Bool.not_eq_true', List.any_eq_false, Bool.and_eq_true, not_and]
    intro q hq hm
    have := h2 i hi q hq hm
    simpa using this
theorem rootV_S {d : Int} {r : Root_} : rootV d r = rootS d r := by
  unfold rootV rootS
  cases hp : poolV d with
  | false => rfl
  | true =>
    simp only [Bool.true_and]
    congr 1
    refine Bool.eq_iff_iff.2 ?_
    simp only [volsV, volsS, Bool.and_eq_true, chk_volF, chk_ptrG, own_meet, decide_eq_true_eq]
    have hw : (∀ p ∈ blksOf r.2, ptrV d p = true) ↔ ∀ p ∈ blksOf r.2, ptrW d p = true := by simp only [ptrV_W hp]
    rw [hw]
    constructor
    · rintro ⟨⟨⟨a, b⟩, c⟩, e⟩; exact ⟨c, a, b, e⟩
    · rintro ⟨c, a, b, e⟩; exact ⟨⟨⟨a, b⟩, c⟩, e⟩
theorem line_all {l : List Vol_} (h : ∀ v ∈ l, ∀ p ∈ v.2, inR .i64 p.1 ∧ inR .i64 p.2.1 ∧ ∀ a ∈ p.2.2, inR .i64 a.1 ∧ inR .i64 a.2) (hs : SmallR l) : ∀ v ∈ l, (volT v).length ≤ 1000 := by
  intro v hv
  obtain ⟨h1, h2, h3⟩ := hs.2 v hv
  have h4 := cat_len (f := lineV) (m := 300) (l := v.2) fun p hp => by
    obtain ⟨d, hd⟩ := h3 p hp
    obtain ⟨a, b, c⟩ := h v hv p hp
    exact lineV_len' a b c hd
  unfold volT
  simp only [List.length_append, List.length_cons, List.length_nil, tVol]
  rw [h2] at h4
  omega
theorem body_len {d tg : Int} {l : List Vol_} (h0 : inR .i64 tg) (h : ∀ v ∈ l, ∀ p ∈ v.2, inR .i64 p.1 ∧ inR .i64 p.2.1 ∧ ∀ a ∈ p.2.2, inR .i64 a.1 ∧ inR .i64 a.2) (hr : rootV d ((tg, l) : Root_) = true) : (bodyV ((tg, l) : Root_)).length ≤ 5000 := by
  have hs := rootV_small hr
  have h4 := cat_len (f := volT) (m := 1000) (l := l) (line_all h hs)
  have h5 : l.length ≤ 4 := hs.1
  have h6 := itoaV_len h0
  unfold bodyV
  simp only [List.length_append, List.length_cons, List.length_nil, tRoot]
  omega
end Go.Sx

/- Roots drawn; what is ok with fewer disks is ok with more: plain. -/
namespace Go.Sx
open Go
def drN (code : List Int) : Int := 3 + pk (rd0 code) 2
def drR (code : List Int) : Root_ := (offD (nx (rd0 code)) (drN code)).1
def drP (code : List Int) : Ptr_ := (someD (nx (rd0 code)) (drN code)).1
def drQ (code : List Int) : Rd := (someD (nx (rd0 code)) (drN code)).2
def aN : List Int := [2, 5, 0]
def drM (code : List Int) : Int := if pk (drQ code) 12 = 0 then aN.getD (pk (nx (drQ code)) 3).toNat 0 else drN code
theorem drN_bd {code : List Int} (h : ROk (rd0 code) 3000) : 3 ≤ drN code ∧ drN code ≤ 4 := by
  have := pk_bd h (by omega) (n := 2) (by omega)
  unfold drN; omega
theorem someD_ok {R : Rd} {d m : Int} (hm : 0 ≤ m) (h : ROk R (m + 40)) (hd : 3 ≤ d ∧ d ≤ 4) : ROk (someD R d).2 m := by
  have h0 : ROk (nx R) (m + 39) := h.nx (by omega)
  have h1 : ROk (ptrD (nx R) d).2 (m + 9) := ptrD_ok (m := m + 9) (by omega) (h0.le (by omega)) hd
  have h2 : ROk (nx (ptrD (nx R) d).2) (m + 8) := h1.nx (by omega)
  have h3 : ROk (nx (nx (ptrD (nx R) d).2)) (m + 7) := h2.nx (by omega)
  unfold someD
  simp only
  split
  · exact h0.le (by omega)
  · split
    · exact h3.le (by omega)
    · split
      · exact h3.le (by omega)
      · split
        · exact h3.le (by omega)
        · split
          · exact h2.le (by omega)
          · split <;> exact h2.le (by omega)
theorem chk_mono {α : Type} {f g : List α → α → Bool} (h : ∀ pre a, f pre a = true → g pre a = true) {l : List α} (hl : chk f l = true) : chk g l = true := by
  rw [chk_iff] at hl ⊢
  exact fun i hi => h _ _ (hl i hi)
theorem poolV_iff {d : Int} : poolV d = true ↔ 3 ≤ d ∧ d ≤ 4 := by simp [poolV, inV]
theorem placeF_wide {d : Int} (hd : d ≤ 4) (pre : List Plc) (a : Plc) (h : placeF d pre a = true) : placeF 4 pre a = true := by
  simp only [placeF, placeV, Bool.and_eq_true, decide_eq_true_eq] at h ⊢
  exact ⟨⟨h.1.1, by omega, h.1.2.2⟩, h.2⟩
theorem mostV_wide {d : Int} (h : 3 ≤ d ∧ d ≤ 4) : mostV d ≤ mostV 4 := by
  obtain rfl | rfl : d = 3 ∨ d = 4 := by omega
  · decide
  · decide
theorem sizeV_wide {d : Int} {p : Ptr_} (hd : 3 ≤ d ∧ d ≤ 4) (h : sizeV d p = true) : sizeV 4 p = true := by
  have hm := mostV_wide hd
  simp only [sizeV, inV, Bool.and_eq_true, decide_eq_true_eq] at h ⊢
  exact ⟨⟨h.1.1, by omega⟩, h.2⟩
theorem ptrV_wide {d : Int} {p : Ptr_} (h : ptrV d p = true) : ptrV 4 p = true := by
  simp only [ptrV, Bool.and_eq_true, Bool.or_eq_true] at h ⊢
  obtain ⟨hd, h⟩ := h
  have hd2 := poolV_iff.1 hd
  refine ⟨rfl, h.imp id fun h => ⟨sizeV_wide hd2 h.1, chk_mono (placeF_wide hd2.2) h.2⟩⟩
theorem volF_wide {d : Int} (pre : List Vol_) (v : Vol_) (h : volF d pre v = true) : volF 4 pre v = true := by
  simp only [volF, Bool.and_eq_true, List.all_eq_true] at h ⊢
  exact ⟨h.1, h.2.1, h.2.2.1, fun p hp => ptrV_wide (h.2.2.2 p hp)⟩
theorem rootV_wide {d : Int} {r : Root_} (h : rootV d r = true) : rootV 4 r = true := by
  simp only [rootV, volsV, Bool.and_eq_true] at h ⊢
  exact ⟨rfl, h.2.1, ⟨chk_mono volF_wide h.2.2.1.1, h.2.2.1.2⟩, h.2.2.2⟩
theorem rootT_wide {d : Int} {r : Root_} (h : rootV d r = true) : rootT 4 r = rootT d r := by
  unfold rootT; rw [if_pos h, if_pos (rootV_wide h)]
theorem ptrV_P {d : Int} {p : Ptr_} : ptrV d p = (poolV d && ptrW d p) := by
  cases h : poolV d with
  | true => rw [ptrV_W h, Bool.true_and]
  | false => simp [ptrV, h]
end Go.Sx

/- Roots read back from their texts: plain. -/
namespace Go.Sx
open Go
/-! numbers -/
def numGo : Str → Int → Int
  | [], n => n
  | c :: r, n => if c.toNat < 48 ∨ 57 < c.toNat then -1 else numGo r (10 * n + ((c.toNat : Int) - 48))
def numV (s : Str) : Int := if inV s.length 1 12 = true then numGo s 0 else -1
theorem dig_toNat {k : Int} (h0 : 0 ≤ k) (h1 : k < 10) : ((UInt8.ofNat (48 + k).toNat).toNat : Int) = 48 + k := by
  obtain ⟨u, rfl⟩ := Int.eq_ofNat_of_zero_le h0
  have hu : u < 10 := by omega
  rw [show (48 + (u : Int)).toNat = 48 + u by omega, UInt8.toNat_ofNat']
  omega
theorem itoa_ind {P : Int → Prop} (h0 : ∀ n, 0 ≤ n → n < 10 → P n) (h1 : ∀ n, 0 ≤ n → ¬ n < 10 → P (n / 10) → P n) : ∀ n, 0 ≤ n → P n := by
  have : ∀ (k : Nat) (n : Int), 0 ≤ n → n < k → P n := by
    intro k
    induction k with
    | zero => intro n h hk; omega
    | succ k ih =>
      intro n h hk
      by_cases hn : n < 10
      · exact h0 n h hn
      · exact h1 n h hn (ih (n / 10) (by omega) (by omega))
  intro n hn
  exact this (n.toNat + 1) n hn (by omega)
theorem itoaV_dig : ∀ n : Int, 0 ≤ n → ∀ c ∈ itoaV n, 48 ≤ c.toNat ∧ c.toNat ≤ 57 := by
  refine itoa_ind ?_ ?_
  · intro n h h2 c hc
    rw [itoaV_small h h2, List.mem_singleton] at hc
    have := dig_toNat h h2
    subst hc
    omega
  · intro n h h2 ih c hc
    rw [itoaV_big h h2] at hc
    rcases List.mem_append.1 hc with hc | hc
    · exact ih c hc
    · rw [List.mem_singleton] at hc
      have := dig_toNat (k := n % 10) (by omega) (by omega)
      subst hc
      omega
theorem itoaV_lenk : ∀ (k : Nat) (n : Int), 0 ≤ n → n < 10 ^ (k + 1) → 1 ≤ (itoaV n).length ∧ (itoaV n).length ≤ k + 1 := by
  intro k
  induction k with
  | zero => intro n h h2; rw [itoaV_small h (by simpa using h2)]; simp
  | succ k ih =>
    intro n h h2
    by_cases hn : n < 10
    · rw [itoaV_small h hn]; simp
    · rw [itoaV_big h hn]
      rw [Int.pow_succ] at h2
      have := ih (n / 10) (by omega) (by omega)
      simp only [List.length_append, List.length_cons, List.length_nil]
      omega
theorem numGo_itoa : ∀ n : Int, 0 ≤ n → ∀ r, numGo (itoaV n ++ r) 0 = numGo r n := by
  refine itoa_ind ?_ ?_
  · intro n h h2 r
    have hd := dig_toNat h h2
    rw [itoaV_small h h2, List.singleton_append]
    simp only [numGo]
    rw [if_neg (by omega), hd]
    congr 1
    omega
  · intro n h h2 ih r
    have hd := dig_toNat (k := n % 10) (by omega) (by omega)
    rw [itoaV_big h h2, List.append_assoc, ih, List.singleton_append]
    simp only [numGo]
    rw [if_neg (by omega), hd]
    congr 1
    omega
theorem numV_itoa {n : Int} (h : 0 ≤ n) (h2 : n < 1000000000000) : numV (itoaV n) = n := by
  have hl := itoaV_lenk 11 n h (by omega)
  unfold numV
  rw [if_pos (by simp [inV]; omega)]
  have := numGo_itoa n h []
  rwa [List.append_nil] at this
/-! cutting -/
def cutGo (a : UInt8) : Str → Str → List Str
  | cur, [] => [cur]
  | cur, c :: r => if c = a then cur :: cutGo a [] r else cutGo a (cur ++ [c]) r
def cutV (a : UInt8) (s : Str) : List Str := cutGo a [] s
theorem cutGo_word {a : UInt8} : ∀ {w cur r : Str}, (∀ c ∈ w, c ≠ a) → cutGo a cur (w ++ r) = cutGo a (cur ++ w) r := by
  intro w
  induction w with
  | nil => intro cur r _; simp
  | cons c w ih =>
    intro cur r h
    rw [List.cons_append]
    simp only [cutGo]
    rw [if_neg (h c List.mem_cons_self), ih (fun x hx => h x (List.mem_cons_of_mem _ hx)), List.append_assoc, List.singleton_append]
theorem cutGo_at {a : UInt8} {cur r : Str} : cutGo a cur (a :: r) = cur :: cutGo a [] r := by simp [cutGo]
theorem cut_lines {a : UInt8} : ∀ {ls : List Str}, (∀ l ∈ ls, ∀ c ∈ l, c ≠ a) → cutV a (catGo (fun l => l ++ [a]) ls) = ls ++ [[]] := by
  intro ls
  induction ls with
  | nil => intro _; rfl
  | cons l ls ih =>
    intro h
    have ih2 := ih (fun x hx => h x (List.mem_cons_of_mem _ hx))
    unfold cutV at ih2 ⊢
    simp only [catGo]
    rw [List.append_assoc, cutGo_word (h l List.mem_cons_self), List.nil_append, List.singleton_append, cutGo_at, ih2]
    rfl
theorem cut_tail {a : UInt8} : ∀ {ws : List Str} {cur : Str}, (∀ w ∈ ws, ∀ c ∈ w, c ≠ a) → cutGo a cur (Lib.joinTail [a] ws) = cur :: ws := by
  intro ws
  induction ws with
  | nil => intro cur _; rfl
  | cons w ws ih =>
    intro cur h
    have e : Lib.joinTail [a] (w :: ws) = a :: (w ++ Lib.joinTail [a] ws) := by simp [Lib.joinTail]
    rw [e, cutGo_at, cutGo_word (h w List.mem_cons_self), List.nil_append, ih (fun x hx => h x (List.mem_cons_of_mem _ hx))]
theorem cut_join {a : UInt8} {w : Str} {ws : List Str} (h : ∀ x ∈ w :: ws, ∀ c ∈ x, c ≠ a) : cutV a (Lib.join (w :: ws) [a]) = w :: ws := by
  unfold cutV
  rw [Lib.join_cons, cutGo_word (h w List.mem_cons_self), List.nil_append, cut_tail (fun x hx => h x (List.mem_cons_of_mem _ hx))]
/-! lines -/
def nR : Str := [114, 111, 111, 116]
def nV : Str := [118, 111, 108]
def nS : Str := [115, 117, 109]
def nN : Str := [110, 111, 110, 101]
def lineW (ws : List Str) : Str := Lib.join ws [32] ++ [10]
def pW (p : Ptr_) : List Str := if noneV p = true then [nN] else wordsV p
def vW (v : Vol_) : List (List Str) := [nV, v.1] :: v.2.map pW
def rW (r : Root_) : List (List Str) := [nR, itoaV r.1] :: r.2.flatMap vW
theorem cat_append {α : Type} {f : α → Str} {a b : List α} : catGo f (a ++ b) = catGo f a ++ catGo f b := by
  induction a with
  | nil => rfl
  | cons x a ih => simp only [List.cons_append, catGo, ih, List.append_assoc]
theorem cat_map {α β : Type} {f : β → Str} {g : α → β} {l : List α} : catGo f (l.map g) = catGo (fun x => f (g x)) l := by
  induction l with
  | nil => rfl
  | cons x l ih => simp only [List.map_cons, catGo, ih]
theorem cat_flat {α β : Type} {f : β → Str} {g : α → List β} {l : List α} : catGo f (l.flatMap g) = catGo (fun x => catGo f (g x)) l := by
  induction l with
  | nil => rfl
  | cons x l ih => rw [List.flatMap_cons, cat_append, ih]; rfl
theorem cat_congr {α : Type} {f g : α → Str} {l : List α} (h : ∀ x, f x = g x) : catGo f l = catGo g l := by rw [show f = g from funext h]
theorem lineV_W (p : Ptr_) : lineV p = lineW (pW p) := by
  unfold lineV lineW pW
  split
  · rw [Lib.join_one]; rfl
  · rfl
theorem join_two (a b s : Str) : Lib.join [a, b] s = a ++ s ++ b := by rw [Lib.join_cons]; simp [Lib.joinTail]
theorem volT_W (v : Vol_) : volT v = catGo lineW (vW v) := by
  unfold volT vW
  simp only [catGo]
  rw [cat_map, cat_congr lineV_W]
  congr 1
  rw [lineW, join_two]
  rfl
theorem body_W (r : Root_) : bodyV r = catGo lineW (rW r) := by
  unfold bodyV rW
  simp only [catGo]
  rw [cat_flat, cat_congr volT_W]
  congr 1
  rw [lineW, join_two]
  rfl
theorem seal_W (r : Root_) : sealV (bodyV r) = catGo lineW (rW r ++ [[nS, itoaV (weighV (bodyV r))]]) := by
  rw [cat_append, ← body_W]
  unfold sealV
  simp only [catGo]
  rw [lineW, join_two, List.append_nil, List.append_assoc, List.append_assoc, List.append_assoc]
  rfl
/-! words are clean -/
def Cl (w : Str) : Prop := ∀ c ∈ w, c ≠ 32 ∧ c ≠ 10
theorem cl_num {n : Int} (h : 0 ≤ n) : Cl (itoaV n) := by
  intro c hc
  have := itoaV_dig n h c hc
  refine ⟨?_, ?_⟩ <;> · rintro rfl; revert this; decide
theorem cl_name {s : Str} (h : s.all lower = true) : Cl s := by
  intro c hc
  have := List.all_eq_true.1 h c hc
  refine ⟨?_, ?_⟩ <;> · rintro rfl; revert this; decide
theorem cl_app {a b : Str} (ha : Cl a) (hb : Cl b) : Cl (a ++ b) := fun c hc => (List.mem_append.1 hc).elim (ha c) (hb c)
theorem cl_lit {s : Str} (h : (s.all fun c => decide (c ≠ 32 ∧ c ≠ 10)) = true) : Cl s := fun c hc => of_decide_eq_true (List.all_eq_true.1 h c hc)
def LOk (ws : List Str) : Prop := ws ≠ [] ∧ ∀ w ∈ ws, Cl w
theorem lok_two {a b : Str} (ha : Cl a) (hb : Cl b) : LOk [a, b] := ⟨by simp, fun w hw => by
  simp only [List.mem_cons, List.not_mem_nil, or_false] at hw
  rcases hw with rfl | rfl
  · exact ha
  · exact hb⟩
theorem cut_line {ws : List Str} (h : LOk ws) : cutV 32 (Lib.join ws [32]) = ws := by
  cases ws with
  | nil => exact absurd rfl h.1
  | cons w ws => exact cut_join fun x hx c hc => (h.2 x hx c hc).1
theorem join_no10 {ws : List Str} (h : LOk ws) : ∀ c ∈ Lib.join ws [32], c ≠ 10 := by
  cases ws with
  | nil => exact absurd rfl h.1
  | cons w ws =>
    intro c hc
    rw [Lib.join_cons] at hc
    rcases List.mem_append.1 hc with hc | hc
    · exact (h.2 w List.mem_cons_self c hc).2
    · simp only [Lib.joinTail, List.mem_flatten, List.mem_map] at hc
      obtain ⟨l, ⟨x, hx, rfl⟩, hc⟩ := hc
      rcases List.mem_append.1 hc with hc | hc
      · rw [List.mem_singleton] at hc; subst hc; decide
      · exact (h.2 x (List.mem_cons_of_mem _ hx) c hc).2
theorem cut_all {ls : List (List Str)} (h : ∀ ws ∈ ls, LOk ws) : (cutV 10 (catGo lineW ls)).map (cutV 32) = ls ++ [[[]]] := by
  have e : catGo lineW ls = catGo (fun l => l ++ [10]) (ls.map fun ws => Lib.join ws [32]) := by rw [cat_map]; rfl
  rw [e, cut_lines (fun l hl => by obtain ⟨ws, hws, rfl⟩ := List.mem_map.1 hl; exact join_no10 (h ws hws)), List.map_append, List.map_map]
  congr 1
  rw [show ls = ls.map id from (List.map_id _).symm, List.map_map]
  exact List.map_congr_left fun ws hws => cut_line (h ws hws)
/-! pointers of lines -/
def plcR (w : Str) : Plc := (numV ((cutV 46 w).getD 0 []), if (cutV 46 w).length = 2 then numV ((cutV 46 w).getD 1 []) else -1)
def ptrR (ws : List Str) : Ptr_ := if ws.getD 0 [] ≠ tPtr ∨ ws.length < 3 then (0, 0, []) else (numV (ws.getD 1 []), numV (ws.getD 2 []), (ws.drop 3).map plcR)
theorem plcR_word {d : Int} {a : Plc} (h : placeV d a = true) (hd : d ≤ 4) : plcR (wordV a) = a := by
  simp only [placeV, Bool.and_eq_true, decide_eq_true_eq] at h
  have hn : ∀ n : Int, 0 ≤ n → ∀ c ∈ itoaV n, c ≠ 46 := by
    intro n hn c hc
    have := itoaV_dig n hn c hc
    rintro rfl; revert this; decide
  have e : cutV 46 (wordV a) = [itoaV a.1, itoaV a.2] := by
    unfold cutV wordV
    rw [List.append_assoc, cutGo_word (hn _ h.1), List.nil_append, List.singleton_append, cutGo_at]
    have := cutGo_word (a := 46) (cur := []) (r := []) (hn a.2 h.2.2.1)
    rw [List.append_nil, List.nil_append] at this
    rw [this]
    rfl
  unfold plcR
  rw [e]
  show (numV (itoaV a.1), numV (itoaV a.2)) = a
  rw [numV_itoa h.1 (by omega), numV_itoa h.2.2.1 (by omega)]
theorem ptrV_wide2 {d : Int} {p : Ptr_} (h : ptrV d p = true) (hn : ¬ noneV p = true) : (0 ≤ p.1 ∧ p.1 ≤ 9) ∧ (0 ≤ p.2.1 ∧ p.2.1 ≤ 1000000000) ∧ ∀ a ∈ p.2.2, placeV 4 a = true := by
  have h4 := ptrV_wide h
  simp only [ptrV, Bool.and_eq_true, Bool.or_eq_true] at h4
  rcases h4.2 with h1 | h1
  · exact absurd h1 hn
  · obtain ⟨h1, h2⟩ := h1
    simp only [sizeV, inV, Bool.and_eq_true, decide_eq_true_eq] at h1
    have hm : mostV 4 = 9 := by decide
    refine ⟨by omega, by omega, fun a ha => ?_⟩
    obtain ⟨i, hi, rfl⟩ := List.getElem_of_mem ha
    have := chk_iff.1 h2 i hi
    simp only [placeF, Bool.and_eq_true] at this
    exact this.1
theorem none_eq {p : Ptr_} (h : noneV p = true) : p = (0, 0, []) := by
  simp only [noneV, Bool.and_eq_true, decide_eq_true_eq] at h
  obtain ⟨a, b, c⟩ := p
  obtain ⟨rfl, rfl, h3⟩ := h
  have h4 : c = [] := List.eq_nil_of_length_eq_zero h3
  rw [h4]
theorem ptrR_W {d : Int} {p : Ptr_} (h : ptrV d p = true) : ptrR (pW p) = p := by
  by_cases hn : noneV p = true
  · rw [none_eq hn]; decide
  · obtain ⟨h1, h2, h3⟩ := ptrV_wide2 h hn
    have e : pW p = tPtr :: itoaV p.1 :: itoaV p.2.1 :: p.2.2.map wordV := by unfold pW; rw [if_neg hn]; rfl
    rw [e]
    unfold ptrR
    rw [if_neg (by simp)]
    show (numV (itoaV p.1), numV (itoaV p.2.1), (p.2.2.map wordV).map plcR) = p
    rw [numV_itoa h1.1 (by omega), numV_itoa h2.1 (by omega), List.map_map]
    have : p.2.2.map (plcR ∘ wordV) = p.2.2 := by
      conv => rhs; rw [← List.map_id p.2.2]
      exact List.map_congr_left fun a ha => plcR_word (h3 a ha) (by decide)
    rw [this]
theorem lok_W {d : Int} {p : Ptr_} (h : ptrV d p = true) : LOk (pW p) := by
  unfold pW
  split
  · exact ⟨by simp, fun w hw => by rw [List.mem_singleton.1 hw]; exact cl_lit (by decide)⟩
  · rename_i hn
    obtain ⟨h1, h2, h3⟩ := ptrV_wide2 h hn
    refine ⟨by simp [wordsV], fun w hw => ?_⟩
    rcases List.mem_append.1 hw with hw | hw
    · simp only [List.mem_cons, List.not_mem_nil, or_false] at hw
      rcases hw with rfl | rfl | rfl
      · exact cl_lit (by decide)
      · exact cl_num h1.1
      · exact cl_num h2.1
    · obtain ⟨a, ha, rfl⟩ := List.mem_map.1 hw
      have h4 := h3 a ha
      simp only [placeV, Bool.and_eq_true, decide_eq_true_eq] at h4
      exact cl_app (cl_app (cl_num h4.1) (cl_lit (by decide))) (cl_num h4.2.2.1)
/-! the reader -/
def rdStep (b : Bool) (o : Root_) (ws : List Str) : Root_ :=
  if b = true ∧ ws.length = 2 then (numV (ws.getD 1 []), o.2)
  else if ws.getD 0 [] = nV ∧ ws.length = 2 then (o.1, o.2 ++ [(ws.getD 1 [], [])])
  else if 0 < o.2.length ∧ (ws.getD 0 [] = tPtr ∨ ws.getD 0 [] = nN) then (o.1, o.2.set (o.2.length - 1) ((o.2.getD (o.2.length - 1) ([], [])).1, (o.2.getD (o.2.length - 1) ([], [])).2 ++ [ptrR ws]))
  else o
def rdGo : Bool → Root_ → List (List Str) → Root_
  | _, o, [] => o
  | b, o, ws :: r => rdGo false (rdStep b o ws) r
def parseV (s : Str) : Root_ := rdGo true (0, []) ((cutV 10 s).map (cutV 32))
theorem step_ptr {t : Int} {pre : List Vol_} {nm : Str} {done : List Ptr_} {p : Ptr_} {d : Int} (h : ptrV d p = true) : rdStep false (t, pre ++ [(nm, done)]) (pW p) = (t, pre ++ [(nm, done ++ [p])]) := by
  have hr := ptrR_W h
  have h0 : (pW p).getD 0 [] = tPtr ∨ (pW p).getD 0 [] = nN := by
    unfold pW
    split
    · exact .inr rfl
    · exact .inl rfl
  unfold rdStep
  rw [if_neg (by simp), if_neg (by rcases h0 with h0 | h0 <;> · rw [h0]; intro hh; exact absurd hh.1 (by decide)), if_pos ⟨by simp, h0⟩, hr]
  simp
theorem rd_blocks {t : Int} {pre : List Vol_} {nm : Str} {d : Int} : ∀ {bl done : List Ptr_} {rest : List (List Str)}, (∀ p ∈ bl, ptrV d p = true) → rdGo false (t, pre ++ [(nm, done)]) (bl.map pW ++ rest) = rdGo false (t, pre ++ [(nm, done ++ bl)]) rest := by
  intro bl
  induction bl with
  | nil => intro done rest _; simp
  | cons p bl ih =>
    intro done rest h
    rw [List.map_cons, List.cons_append]
    simp only [rdGo]
    rw [step_ptr (h p List.mem_cons_self), ih (fun q hq => h q (List.mem_cons_of_mem _ hq)), List.append_assoc, List.singleton_append]
theorem rd_vol {t : Int} {pre : List Vol_} {v : Vol_} {d : Int} {rest : List (List Str)} (h : ∀ p ∈ v.2, ptrV d p = true) : rdGo false (t, pre) (vW v ++ rest) = rdGo false (t, pre ++ [v]) rest := by
  unfold vW
  rw [List.cons_append]
  simp only [rdGo]
  have e : rdStep false (t, pre) [nV, v.1] = (t, pre ++ [(v.1, [])]) := by
    unfold rdStep
    rw [if_neg (by simp), if_pos ⟨rfl, rfl⟩]
    rfl
  rw [e, rd_blocks h, List.nil_append]
theorem rd_vols {t : Int} {d : Int} : ∀ {vs pre : List Vol_} {rest : List (List Str)}, (∀ v ∈ vs, ∀ p ∈ v.2, ptrV d p = true) → rdGo false (t, pre) (vs.flatMap vW ++ rest) = rdGo false (t, pre ++ vs) rest := by
  intro vs
  induction vs with
  | nil => intro pre rest _; simp
  | cons v vs ih =>
    intro pre rest h
    rw [List.flatMap_cons, List.append_assoc, rd_vol (h v List.mem_cons_self), ih (fun w hw => h w (List.mem_cons_of_mem _ hw)), List.append_assoc, List.singleton_append]
theorem root_parts {d : Int} {r : Root_} (h : rootV d r = true) : (0 ≤ r.1 ∧ r.1 ≤ 100000) ∧ (∀ v ∈ r.2, nameV v.1 = true ∧ v.2.length = 3 ∧ ∀ p ∈ v.2, ptrV d p = true) ∧ r.2.length ≤ 4 := by
  simp only [rootV, volsV, inV, Bool.and_eq_true, decide_eq_true_eq] at h
  refine ⟨h.2.1, fun v hv => ?_, h.2.2.1.2⟩
  obtain ⟨i, hi, rfl⟩ := List.getElem_of_mem hv
  have := chk_iff.1 h.2.2.1.1 i hi
  simp only [volF, Bool.and_eq_true, decide_eq_true_eq, List.all_eq_true] at this
  exact ⟨this.1, this.2.1, this.2.2.2⟩
theorem weighGo_nn : ∀ (s : Str) (i : Nat), 0 ≤ weighGo s i := by
  intro s
  induction s with
  | nil => intro i; exact Int.le_refl _
  | cons c s ih =>
    intro i
    simp only [weighGo]
    have := ih (i + 1)
    have h1 : (0 : Int) ≤ (c.toNat : Int) * (65536 + (i : Int) + 1) := Int.mul_nonneg (by omega) (by omega)
    omega
theorem lok_root {d : Int} {r : Root_} (h : rootV d r = true) : ∀ ws ∈ rW r ++ [[nS, itoaV (weighV (bodyV r))]], LOk ws := by
  obtain ⟨h1, h2, _⟩ := root_parts h
  intro ws hws
  rcases List.mem_append.1 hws with hws | hws
  · unfold rW at hws
    rcases List.mem_cons.1 hws with rfl | hws
    · exact lok_two (cl_lit (by decide)) (cl_num h1.1)
    · obtain ⟨v, hv, hws⟩ := List.mem_flatMap.1 hws
      obtain ⟨a, _, c⟩ := h2 v hv
      unfold vW at hws
      rcases List.mem_cons.1 hws with rfl | hws
      · refine lok_two (cl_lit (by decide)) (cl_name ?_)
        simp only [nameV, Bool.and_eq_true] at a
        exact a.2
      · obtain ⟨p, hp, rfl⟩ := List.mem_map.1 hws
        exact lok_W (c p hp)
  · rw [List.mem_singleton.1 hws]
    exact lok_two (cl_lit (by decide)) (cl_num (weighGo_nn _ _))
theorem step_none {o : Root_} {ws : List Str} (h1 : ws.getD 0 [] ≠ nV) (h2 : ws.getD 0 [] ≠ tPtr) (h3 : ws.getD 0 [] ≠ nN) : rdStep false o ws = o := by
  unfold rdStep
  rw [if_neg (by simp), if_neg (fun hh => h1 hh.1), if_neg (fun hh => hh.2.elim h2 h3)]
/-- a root is read back from its text -/
theorem parse_seal {d : Int} {r : Root_} (h : rootV d r = true) : parseV (sealV (bodyV r)) = r := by
  obtain ⟨h1, h2, _⟩ := root_parts h
  unfold parseV
  rw [seal_W, cut_all (lok_root h)]
  unfold rW
  rw [List.cons_append, List.cons_append]
  simp only [rdGo]
  have e : rdStep true (0, []) [nR, itoaV r.1] = (r.1, []) := by
    unfold rdStep
    rw [if_pos ⟨rfl, rfl⟩]
    show (numV (itoaV r.1), []) = _
    rw [numV_itoa h1.1 (by omega)]
  rw [e, List.append_assoc, rd_vols (fun v hv => (h2 v hv).2.2), List.nil_append, List.singleton_append]
  simp only [rdGo]
  rw [step_none (by simp [nS]; decide) (by simp [nS]; decide) (by simp [nS]; decide), step_none (by simp; decide) (by simp; decide) (by simp; decide)]
theorem seal_ne {s : Str} : sealV s ≠ [] := by unfold sealV; simp
theorem rootT_nil {d : Int} {r : Root_} : rootT d r = [] ↔ ¬ rootV d r = true := by
  unfold rootT
  split
  · rename_i h
    exact ⟨fun e => absurd e seal_ne, fun e => absurd h e⟩
  · rename_i h
    exact ⟨fun _ => h, fun _ => rfl⟩
theorem parse_root {d : Int} {r : Root_} (h : rootV d r = true) : parseV (rootT d r) = r := by
  unfold rootT
  rw [if_pos h, parse_seal h]
theorem rootT_inj {d : Int} {a b : Root_} (ha : rootV d a = true) (hb : rootV d b = true) : rootT d a = rootT d b ↔ a = b :=
  ⟨fun e => by rw [← parse_root ha, ← parse_root hb, e], fun e => by rw [e]⟩
end Go.Sx

/- The program's reader of roots: plain. -/
namespace Go.Sx
open Go
/-! what the library's functions are here -/
theorem cutGo_cons {a : UInt8} : ∀ {s cur : Str}, cutGo a cur s = (match cutGo a [] s with | [] => [] | w :: ws => (cur ++ w) :: ws) := by
  intro s
  induction s with
  | nil => intro cur; simp [cutGo]
  | cons c s ih =>
    intro cur
    simp only [cutGo]
    split
    · simp
    · rw [ih (cur := cur ++ [c]), ih (cur := [] ++ [c])]
      cases cutGo a [] s with
      | nil => rfl
      | cons w ws => simp
theorem cutV_ne {a : UInt8} {s : Str} : cutV a s ≠ [] := by
  unfold cutV
  induction s with
  | nil => simp [cutGo]
  | cons c s ih =>
    simp only [cutGo]
    split
    · simp
    · rw [cutGo_cons]
      cases h : cutGo a [] s with
      | nil => exact absurd h ih
      | cons w ws => simp
theorem index_miss_cut {a : UInt8} : ∀ {s : Str}, Lib.index s [a] = -1 → cutV a s = [s] := by
  intro s
  induction s with
  | nil => intro _; rfl
  | cons c s ih =>
    intro h
    unfold Lib.index at h
    by_cases hc : c = a
    · subst hc; simp [List.isPrefixOf] at h
    · have hp : ([a] : List UInt8).isPrefixOf (c :: s) = false := by simp [List.isPrefixOf, Ne.symm hc]
      rw [hp] at h
      by_cases hm : Lib.index s [a] = -1
      · have := ih hm
        unfold cutV at this ⊢
        simp only [cutGo]
        rw [if_neg hc, cutGo_cons, this]
        rfl
      · have hge := Lib.index_ge s [a]
        simp [hm] at h <;> omega
theorem index_hit_cut {a : UInt8} : ∀ {s : Str} {i : Nat}, Lib.index s [a] = i → cutV a s = s.take i :: cutV a (s.drop (i + 1)) := by
  intro s
  induction s with
  | nil => intro i h; simp [Lib.index] at h <;> omega
  | cons c s ih =>
    intro i h
    unfold Lib.index at h
    by_cases hc : c = a
    · subst hc
      simp [List.isPrefixOf] at h
      obtain rfl : i = 0 := by omega
      unfold cutV
      simp [cutGo]
    · have hp : ([a] : List UInt8).isPrefixOf (c :: s) = false := by simp [List.isPrefixOf, Ne.symm hc]
      rw [hp] at h
      by_cases hm : Lib.index s [a] = -1
      · simp [hm] at h <;> omega
      · have hge := Lib.index_ge s [a]
        simp [hm] at h
        obtain ⟨j, rfl⟩ : ∃ j, i = j + 1 := ⟨i - 1, by omega⟩
        have := ih (i := j) (by omega)
        unfold cutV at this ⊢
        simp only [cutGo]
        rw [if_neg hc, cutGo_cons, this]
        rfl
theorem splitK_cut {a : UInt8} : ∀ (k : Nat) (s : Str), Lib.count s [a] = k → Lib.splitK [a] 0 k s = cutV a s := by
  intro k
  induction k with
  | zero =>
    intro s h
    show [s] = _
    by_cases hm : Lib.index s [a] = -1
    · exact (index_miss_cut hm).symm
    · have hge := Lib.index_ge s [a]
      obtain ⟨i, hi⟩ : ∃ i : Nat, Lib.index s [a] = i := ⟨(Lib.index s [a]).toNat, by omega⟩
      have := Lib.count_hit (by simp) hi
      omega
  | succ k ih =>
    intro s h
    by_cases hm : Lib.index s [a] = -1
    · have := Lib.count_miss hm; omega
    · have hge := Lib.index_ge s [a]
      obtain ⟨i, hi⟩ : ∃ i : Nat, Lib.index s [a] = i := ⟨(Lib.index s [a]).toNat, by omega⟩
      have hc := Lib.count_hit (by simp) hi
      simp only [List.length_cons, List.length_nil, Nat.zero_add] at hc
      unfold Lib.splitK
      rw [if_neg (by simp [hm]), hi, index_hit_cut hi, ← ih (s.drop (i + 1)) (by omega)]
      simp
theorem split_cut {a : UInt8} {s : Str} : (Lib.splitB (mkS [a]) 0 (Lib.countB (mkS s) (mkS [a])) (mkS s)).map (·.data.toList) = cutV a s := by
  rw [Lib.splitB_data]
  exact splitK_cut _ s rfl
def atoN (s : Str) : Int := match Lib.atoiAll s with | .ok v => v | .range => Lib.atoiSat s | _ => 0
def atoE (s : Str) : Nat := match Lib.atoiAll s with | .ok _ => 0 | _ => 2
theorem decFrom_itoa : ∀ n : Int, 0 ≤ n → ∀ r, Lib.decFrom 0 (itoaV n ++ r) = Lib.decFrom n.toNat r := by
  refine itoa_ind ?_ ?_
  · intro n h h2 r
    have hd := dig_toNat h h2
    rw [itoaV_small h h2, List.singleton_append]
    simp only [Lib.decFrom, Lib.digitVal]
    rw [if_pos (by omega)]
    simp only
    congr 1
    omega
  · intro n h h2 ih r
    have hd := dig_toNat (k := n % 10) (by omega) (by omega)
    rw [itoaV_big h h2, List.append_assoc, ih, List.singleton_append]
    simp only [Lib.decFrom, Lib.digitVal]
    rw [if_pos (by omega)]
    simp only
    congr 1
    omega
theorem atoi_itoa {n : Int} (h : 0 ≤ n) (h2 : n < 1000000000000) : Lib.atoiAll (itoaV n) = .ok n := by
  have hl := itoaV_lenk 11 n h (by omega)
  rw [Lib.atoiAll_short _ (by omega)]
  have hd := decFrom_itoa n h []
  rw [List.append_nil] at hd
  have hdig := itoaV_dig n h
  cases hi : itoaV n with
  | nil => rw [hi] at hl; simp at hl
  | cons b r =>
    rw [hi] at hd hdig
    have hb := hdig b List.mem_cons_self
    have e1 : ¬ b = 45 := by rintro rfl; revert hb; decide
    have e2 : ¬ b = 43 := by rintro rfl; revert hb; decide
    simp only [Lib.atoi, beq_iff_eq]
    rw [if_neg e1, if_neg e2]
    unfold Lib.decNat
    simp only [List.isEmpty_cons, Bool.false_eq_true, if_false]
    rw [hd]
    simp only [Lib.decFrom, Option.map, Lib.NumEnd.ofOption]
    congr 1
    omega
theorem atoN_itoa {n : Int} (h : 0 ≤ n) (h2 : n < 1000000000000) : atoN (itoaV n) = n ∧ atoE (itoaV n) = 0 := by
  unfold atoN atoE
  rw [atoi_itoa h h2]
  exact ⟨rfl, rfl⟩
theorem cut_word {w r : Str} {a : UInt8} (h : ∀ c ∈ w, c ≠ a) : Lib.index (w ++ a :: r) [a] = (w.length : Int) := by
  induction w with
  | nil => unfold Lib.index; simp [List.isPrefixOf]
  | cons c w ih =>
    have hc : ¬ c = a := h c List.mem_cons_self
    have hp : ([a] : List UInt8).isPrefixOf (c :: (w ++ a :: r)) = false := by simp [List.isPrefixOf, Ne.symm hc]
    rw [List.cons_append]
    unfold Lib.index
    rw [hp, ih (fun x hx => h x (List.mem_cons_of_mem _ hx))]
    have : ((w.length : Int) == -1) = false := by rw [beq_eq_false_iff_ne]; omega
    simp [this]
theorem cut_at {w r : Str} {a : UInt8} (h : ∀ c ∈ w, c ≠ a) : Lib.cut (w ++ a :: r) [a] = (w, r, true) := by
  unfold Lib.cut
  rw [cut_word h, if_pos (by omega)]
  simp
/-! the reader -/
abbrev RdS := List Str × Nat
def wordsI (first : Str) (s : RdS) : List Str × RdS :=
  if s.1.length = 0 then ([], (s.1, 1))
  else ((cutV 32 (s.1.getD 0 [])).drop 1, (s.1.drop 1, if (cutV 32 (s.1.getD 0 [])).getD 0 [] = first then s.2 else 1))
def numI (w : Str) (s : RdS) : Int × RdS := (atoN w, (s.1, if atoE w = 0 then s.2 else 1))
def onlyI (ws : List Str) (s : RdS) : Str × RdS := if ws.length = 1 then (ws.getD 0 [], s) else ([], (s.1, 1))
def nextI (first : Str) (s : RdS) : Bool := if s.1.length = 0 then false else Lib.hasPrefix (s.1.getD 0 [] ++ [32]) (first ++ [32])
def plcsI : List Str → List Plc → RdS → List Plc × RdS
  | [], out, s => (out, s)
  | w :: ws, out, s => plcsI ws (out ++ [(atoN (Lib.cut w [46]).1, atoN (Lib.cut w [46]).2.1)]) (numI (Lib.cut w [46]).2.1 (numI (Lib.cut w [46]).1 s).2).2
def ptrI (s : RdS) : Ptr_ × RdS :=
  if nextI nN s = true then ((0, 0, []), (wordsI nN s).2)
  else
    let ws := (wordsI tPtr s).1
    let s1 := (wordsI tPtr s).2
    if ws.length < 2 then ((0, 0, []), (s1.1, 1))
    else
      let s3 := (numI (ws.getD 1 []) (numI (ws.getD 0 []) s1).2).2
      let q := plcsI (ws.drop 2) [] s3
      ((atoN (ws.getD 0 []), atoN (ws.getD 1 []), q.1), q.2)
def blksI : Nat → List Ptr_ → RdS → List Ptr_ × RdS
  | 0, out, s => (out, s)
  | n + 1, out, s => blksI n (out ++ [(ptrI s).1]) (ptrI s).2
def volsI : Nat → List Vol_ → RdS → List Vol_ × RdS
  | 0, out, s => (out, s)
  | n + 1, out, s =>
    if s.2 = 0 ∧ nextI nV s = true then
      let w := wordsI nV s
      let o := onlyI w.1 w.2
      let q := blksI 3 [] o.2
      volsI n (out ++ [(o.1, q.1)]) q.2
    else (out, s)
def rootI (s : RdS) : Root_ × RdS :=
  let w := wordsI nR s
  let o := onlyI w.1 w.2
  let n := numI o.1 o.2
  let q := volsI s.1.length [] n.2
  ((n.1, q.1), q.2)
def readI (d : Int) (t : Str) : Root_ × Bool :=
  if 700 < t.length ∨ t = [] then ((0, []), false)
  else
    let q := rootI (cutV 10 t, 0)
    if q.2.2 = 1 ∨ rootT d q.1 ≠ t then ((0, []), false) else (q.1, true)
def readS (d : Int) (t : Str) : Root_ × Bool :=
  if 700 < t.length then ((0, []), false)
  else if rootT d (parseV t) ≠ t ∨ t = [] then ((0, []), false) else (parseV t, true)
end Go.Sx

/- What the shelf says of strings.Split, strings.Cut, strings.HasPrefix, strconv.Atoi, and errors.Is, as contracts of Sx. -/
namespace Go.Sx
open Go Go.RowKit
/-- a contract from a walk by the kit's own means, where nothing that lay has turned, and what is new stays -/
theorem ctr_of_new {P : Program} {c : Ctr} {fn : Func} {body : Code} (hf : P.funcs[c.f]? = some fn) (hb : fn.body = some body) (hn : (fn.name == "runtime.NumGoroutine") = false) (href : noRefs c.ins = true)
    (h : ∀ G w args x, (∀ b, G.g b ≠ .no → b < w.heap.size) → Amb P G.g w → ArgsOk G w 0 c.ins x args → c.pre x → Calls P c.f args.toArray w fun e w' => ∃ v, e = .returned v ∧ Below w.heap.size w w' ∧
      (∀ G' : Gh, (∀ b, w.heap.size ≤ b → b < w'.heap.size → G'.g b = .per) → MtS G' w' (c.post x).1 v) ∧ (c.post x).2 = []) : CtrOk P c := by
  intro G w args x hbnd ham hargs hpre
  have hrun : (callFunc c.f args.toArray).run P w = .ok (.enter c.f args.toArray) w := by
    have hn' : ¬ fn.name = "runtime.NumGoroutine" := by simpa using hn
    simp [callFunc, hf, hn', hb]
  refine ⟨_, _, hrun, .inr (.inl ⟨rfl, ?_⟩)⟩
  intro cs
  obtain ⟨e, w', fr, ⟨v, rfl, hB, hm, hp⟩, h1, h2, h3⟩ := h G w args x hbnd ham hargs hpre cs
  refine ⟨_, w', fr, ?_, h1, h2, h3⟩
  let G' : Gh := ⟨fun _ => .bool false, fun b => if w.heap.size ≤ b ∧ b < w'.heap.size then .per else G.g b⟩
  have hk : ∀ b, G.g b ≠ .no → w'.heap[b]? = w.heap[b]? := fun b hb => hB.block b (hbnd b hb)
  have hg : ∀ b, b < w.heap.size → G'.g b = G.g b := fun b hb => if_neg (by omega)
  have hgn : ∀ b, G.g b ≠ .no → G'.g b = G.g b := fun b hb => hg b (hbnd b hb)
  refine ⟨G', ⟨fun _ h => h.elim, ⟨fun b hb => ⟨(hgn b (by rw [hb]; simp)).trans hb, hk b (by rw [hb]; simp)⟩, fun b hb => ⟨(hgn b (by rw [hb]; simp)).trans hb, hk b (by rw [hb]; simp)⟩⟩, fun b j q hq _ => ⟨(hgn b (by rw [hq]; simp)).trans hq, hk b (by rw [hq]; simp)⟩, fun b hlt hb => ⟨hB.block b hlt, (hg b hlt).trans hb⟩, fun b hb => ?_, fun _ _ => rfl, hB.os, hB.tape, hB.output, hB.size⟩, fun _ => rfl, ?_, hm G' (fun b h1 h2 => if_pos ⟨h1, h2⟩), ?_⟩
  · by_cases hlt : w.heap.size ≤ b ∧ b < w'.heap.size
    · exact hlt.2
    · have : G'.g b = G.g b := if_neg hlt
      rw [this] at hb
      exact Nat.lt_of_lt_of_le (hbnd b hb) hB.size
  · rw [noRefs_ptr href]; intro p hp; cases hp
  · rw [hp]; intro i R hi; cases hi
theorem maxLen_cell {G : Gh} {w : World} (ham : Amb Proofs.Tryz.prog G.g w) : ∃ m, w.cell? ⟨1, 0, none⟩ = some (.int .i64 m) := by
  obtain ⟨_, C, t, fz, h1, m, h2⟩ := ham.1 "internal/bytealg.MaxLen" (fun cs => ∃ m, cs = [.int .i64 m]) (.tail _ (List.mem_cons_self ..)) 1 (by kernel_rfl)
  refine ⟨m, ?_⟩
  have : C = #[.int .i64 m] := Array.ext' h2
  simp [World.cell?, h1, this]
def cPref : Ctr := ⟨82, [.val false .str pF, .val false .str pF], fun _ => True, fun x => (sBool (Lib.hasPrefix x.1 x.2.1), [])⟩
theorem cPref_ok : CtrOk Proofs.Tryz.prog cPref := by
  refine ctr_of_below (fn := Proofs.Tryz.f82) Proofs.Tryz.func82 rfl rfl rfl ?_
  rintro G w args ⟨(s : Str), (p : Str), ⟨⟩⟩ _ _ ⟨v, vs, rfl, ⟨_, cs, rfl, _, ⟨rfl, hl⟩⟩, v2, vs2, rfl, ⟨_, cs2, rfl, _, ⟨rfl, hl2⟩⟩, rfl⟩ _
  refine (Proofs.Tryz.strings_HasPrefix (mkS s) (mkS p) w).mono ?_
  rintro e w' ⟨rfl, rfl⟩
  exact ⟨_, rfl, Below.refl _ _, fun G' => MtS.ofBool, rfl⟩
def cCut : Ctr := ⟨83, [.val false .str pF, .val false .str pF], fun x => List.length x.1 ≤ 1000000, fun x => (.tup [(false, [.d .str pF (Lib.cut x.1 x.2.1).1]), (false, [.d .str pF (Lib.cut x.1 x.2.1).2.1]), (false, [.d .bool pF (Lib.cut x.1 x.2.1).2.2])], [])⟩
theorem cut_len (s a : Str) : (Lib.cut s a).1.length ≤ s.length ∧ (Lib.cut s a).2.1.length ≤ s.length := by
  unfold Lib.cut
  split
  · simp only [List.length_take, List.length_drop]; omega
  · exact ⟨Nat.le_refl _, Nat.zero_le _⟩
theorem size_ok {s : Str} (h : s.length ≤ 1000000) : (mkS s).size < 4294967281 := by
  have : (mkS s).size = s.length := rfl
  omega
theorem maxL_ok {n : Nat} (h : n ≤ 1000000) : n ≤ maxL := by unfold maxL; omega
theorem drewN_below (w : World) (n : Nat) : Below w.heap.size w (w.drewN n) := ⟨rfl, rfl, rfl, Nat.le_refl _, fun _ _ => rfl⟩
theorem cCut_ok : CtrOk Proofs.Tryz.prog cCut := by
  refine ctr_of_below (fn := Proofs.Tryz.f83) Proofs.Tryz.func83 rfl rfl rfl ?_
  rintro G w args ⟨(s : Str), (a : Str), ⟨⟩⟩ _ ham ⟨v, vs, rfl, ⟨_, cs, rfl, _, ⟨rfl, hl⟩⟩, v2, vs2, rfl, ⟨_, cs2, rfl, _, ⟨rfl, hl2⟩⟩, rfl⟩ hpre
  replace hpre : s.length ≤ 1000000 := hpre
  obtain ⟨m, hm⟩ := maxLen_cell ham
  refine (Proofs.Tryz.strings_Cut (mkS s) (mkS a) m w (size_ok hpre) hm).mono ?_
  rintro e w' ⟨rfl, n, rfl⟩
  have hc := cut_len s a
  exact ⟨_, rfl, drewN_below w n, fun G' => ⟨_, rfl, _, _, rfl, (MtS.ofStr (maxL_ok (by show (Lib.cut s a).1.length ≤ _; omega)) : MtS G' _ (sStr (Lib.cut s a).1) _), _, _, rfl, (MtS.ofStr (maxL_ok (by show (Lib.cut s a).2.1.length ≤ _; omega)) : MtS G' _ (sStr (Lib.cut s a).2.1) _), _, _, rfl, (MtS.ofBool : MtS G' _ (sBool (Lib.cut s a).2.2) _), rfl⟩, rfl⟩
def cAtoi : Ctr := ⟨81, [.val false .str pF], fun x => List.length x.1 ≤ 1000000, fun x => (.tup [(false, [.d TI pF (atoN x.1)]), (false, [.d .er pF (atoE x.1)])], [])⟩
theorem errVar_cell {G : Gh} {w : World} (ham : Amb Proofs.Tryz.prog G.g w) : (∃ t p, w.cell? ⟨5, 0, none⟩ = some (.iface t p)) ∧ ∃ t p, w.cell? ⟨6, 0, none⟩ = some (.iface t p) := by
  constructor
  · obtain ⟨_, C, t, fz, h1, t2, p, h2⟩ := ham.1 "strconv.ErrSyntax" (fun cs => ∃ t p, cs = [.iface t p]) (.tail _ (.tail _ (List.mem_cons_self ..))) 5 (by kernel_rfl)
    refine ⟨t2, p, ?_⟩
    have : C = #[.iface t2 p] := Array.ext' h2
    simp [World.cell?, h1, this]
  · obtain ⟨_, C, t, fz, h1, t2, p, h2⟩ := ham.1 "strconv.ErrRange" (fun cs => ∃ t p, cs = [.iface t p]) (.tail _ (.tail _ (.tail _ (List.mem_cons_self ..)))) 6 (by kernel_rfl)
    refine ⟨t2, p, ?_⟩
    have : C = #[.iface t2 p] := Array.ext' h2
    simp [World.cell?, h1, this]
theorem cAtoi_ok : CtrOk Proofs.Tryz.prog cAtoi := by
  refine ctr_of_below (fn := Proofs.Tryz.f81) Proofs.Tryz.func81 rfl rfl rfl ?_
  rintro G w args ⟨(s : Str), ⟨⟩⟩ _ ham ⟨v, vs, rfl, ⟨_, cs, rfl, _, ⟨rfl, hl⟩⟩, rfl⟩ hpre
  replace hpre : s.length ≤ 1000000 := hpre
  have hsz : (mkS s).size = s.length := rfl
  obtain ⟨⟨t5, p5, h5⟩, t6, p6, h6⟩ := errVar_cell ham
  cases h : Lib.atoiAll s with
  | ok n =>
    have hb := Lib.atoiAll_bounds h
    refine (Proofs.Tryz.strconv_Atoi_ok (mkS s) (by omega) n h w).mono ?_
    rintro e w' ⟨rfl, hw⟩
    refine ⟨_, rfl, ?_, fun G' => ⟨_, rfl, _, _, rfl, ?_, _, _, rfl, ?_, rfl⟩, rfl⟩
    · rcases hw with rfl | ⟨t, rfl⟩
      · exact Below.refl _ _
      · exact Lib.bytesWorld_below w 5 t
    · show MtS G' w' (sInt .i64 (atoN s)) _
      unfold atoN
      rw [h]
      exact .ofInt (by rw [inR_i64]; exact hb)
    · show MtS G' w' (.v false [.d .er pF (atoE s)]) _
      unfold atoE
      rw [h]
      exact .of1 rfl ⟨rfl, _, rfl, .inl ⟨rfl, rfl⟩⟩
  | range =>
    refine (Proofs.Tryz.strconv_Atoi_range (mkS s) (by omega) h _ w h6 (.inr ⟨_, _, rfl⟩)).mono ?_
    rintro e w' ⟨N, rfl, _, _, hB⟩
    refine ⟨_, rfl, hB, fun G' => ⟨_, rfl, _, _, rfl, ?_, _, _, rfl, ?_, rfl⟩, rfl⟩
    · show MtS G' w' (sInt .i64 (atoN s)) _
      unfold atoN
      rw [h]
      refine .ofInt ?_
      rw [inR_i64]
      show _ ≤ Lib.atoiSat s ∧ Lib.atoiSat s ≤ _
      unfold Lib.atoiSat
      split <;> decide
    · show MtS G' w' (.v false [.d .er pF (atoE s)]) _
      unfold atoE
      rw [h]
      exact .of1 rfl ⟨rfl, _, rfl, .inr (.inr ⟨rfl, _, _, rfl⟩)⟩
  | _ =>
    refine (Proofs.Tryz.strconv_Atoi_syntax (mkS s) (by omega) h _ w h5 (.inr ⟨_, _, rfl⟩)).mono ?_
    rintro e w' ⟨N, rfl, _, _, hB⟩
    refine ⟨_, rfl, hB, fun G' => ⟨_, rfl, _, _, rfl, ?_, _, _, rfl, ?_, rfl⟩, rfl⟩
    · show MtS G' w' (sInt .i64 (atoN s)) _
      unfold atoN
      rw [h]
      exact .ofInt (by rw [inR_i64]; show (-9223372036854775808 : Int) ≤ 0 ∧ (0 : Int) ≤ 9223372036854775807; decide)
    · show MtS G' w' (.v false [.d .er pF (atoE s)]) _
      unfold atoE
      rw [h]
      exact .of1 rfl ⟨rfl, _, rfl, .inr (.inr ⟨rfl, _, _, rfl⟩)⟩
def cSplit : Ctr := ⟨23, [.val false .str pF, .val false .str pF], fun x => List.length x.1 ≤ 1000000 ∧ List.length x.2.1 = 1, fun x => (.v false [.d (.sl .str) pF (cutV (List.headD x.2.1 0) x.1)], [])⟩
theorem cutGo_len {a : UInt8} : ∀ {s cur : Str}, ∀ x ∈ cutGo a cur s, x.length ≤ cur.length + s.length := by
  intro s
  induction s with
  | nil => intro cur x hx; rw [List.mem_singleton.1 hx]; exact Nat.le_add_right _ _
  | cons c s ih =>
    intro cur x hx
    simp only [cutGo] at hx
    split at hx
    · rcases List.mem_cons.1 hx with rfl | hx
      · exact Nat.le_add_right _ _
      · have := ih x hx
        simp only [List.length_nil, List.length_cons] at this ⊢
        omega
    · have := ih x hx
      simp only [List.length_append, List.length_cons, List.length_nil] at this ⊢
      omega
theorem cutV_len {a : UInt8} {s : Str} : ∀ x ∈ cutV a s, x.length ≤ s.length := fun x hx => by
  have := cutGo_len x hx
  simpa using this
theorem cSplit_ok : CtrOk Proofs.Tryz.prog cSplit := by
  refine ctr_of_new (fn := Proofs.Tryz.f23) Proofs.Tryz.func23 rfl rfl rfl ?_
  rintro G w args ⟨(s : Str), (p : Str), ⟨⟩⟩ _ ham ⟨v, vs, rfl, ⟨_, cs, rfl, _, ⟨rfl, hl⟩⟩, v2, vs2, rfl, ⟨_, cs2, rfl, _, ⟨rfl, hl2⟩⟩, rfl⟩ ⟨hpre, hp1⟩
  replace hpre : s.length ≤ 1000000 := hpre
  obtain ⟨a, rfl⟩ : ∃ a, p = [a] := List.length_eq_one_iff.1 hp1
  obtain ⟨m, hm⟩ := maxLen_cell ham
  refine (Proofs.Tryz.strings_Split (mkS s) (mkS [a]) m w (size_ok hpre) hm (Nat.le_refl _)).mono ?_
  rintro e w' ⟨rfl, rfl⟩
  have hlen : (Lib.splitB (mkS [a]) 0 (Lib.countB (mkS s) (mkS [a])) (mkS s)).length = Lib.countB (mkS s) (mkS [a]) + 1 := Lib.splitB_all (mkS [a]) (Nat.le_refl _) 0 _ (mkS s) rfl
  have hcl : Lib.countB (mkS s) (mkS [a]) ≤ s.length := Lib.countB_le (mkS [a]) (Nat.le_refl _) _ (mkS s) (Nat.le_refl _)
  have hcut : (Lib.splitB (mkS [a]) 0 (Lib.countB (mkS s) (mkS [a])) (mkS s)).map (·.data.toList) = cutV a s := split_cut
  have hcl2 : (cutV a s).length = Lib.countB (mkS s) (mkS [a]) + 1 := by rw [← hcut, List.length_map, hlen]
  refine ⟨_, rfl, (Below.refl _ w).alloc (Nat.le_refl _) _, fun G' hper => ?_, rfl⟩
  have hper0 := hper w.heap.size (Nat.le_refl _) (by simp [World.size_alloc])
  refine .of1 rfl ⟨rfl, some ⟨w.heap.size, 0, none⟩, _, _, rfl, hcl2.symm, Nat.le_refl _, by unfold maxL; omega, fun _ => rfl, .inr ⟨w.heap.size, 0, ((Lib.splitB (mkS [a]) 0 (Lib.countB (mkS s) (mkS [a])) (mkS s)).map Value.string).toArray, 9, (0, 0), rfl, hper0, ?_, ?_, fun h => (by cases h), ?_⟩⟩
  · show (w.heap.push _)[w.heap.size]? = _
    exact Array.getElem?_push_size
  · simp [hlen, Ty.size]
  · intro j x hx
    have hx' : (cutV a s)[j]? = some x := hx
    rw [← hcut, List.getElem?_map, Option.map_eq_some_iff] at hx'
    obtain ⟨y, hy, rfl⟩ := hx'
    have hmem : y.data.toList ∈ cutV a s := by rw [← hcut]; exact List.mem_map_of_mem (List.mem_of_getElem? hy)
    refine ⟨?_, maxL_ok (Nat.le_trans (cutV_len _ hmem) hpre)⟩
    unfold cellsAt
    rw [show (0 + j * Ty.str.size) = j by simp [Ty.size], show Ty.str.size = 1 from rfl]
    simp only [List.toList_toArray]
    rw [List.drop_eq_getElem_cons (by rw [List.length_map]; exact (List.getElem?_eq_some_iff.1 hy).1)]
    simp only [List.take_succ_cons, List.take_zero, List.getElem_map, (List.getElem?_eq_some_iff.1 hy).2]
    rfl
/-! errors.Is -/
open Go.Extern.Stop Go.Stop Go.Extern
theorem isTypeOf (v : Value) (w : World) : (Extern.ReflectliteType.typeOf #[.iface 179 v]).run Proofs.Tryz.prog w = .ok (.iface 111 (.agg #[.pointer (some ⟨9, 179, none⟩)])) w := by kernel_rfl
def cmpX : Array Value → Sem Value := Extern.ReflectliteType.method fun t => do Extern.Rtype.noPackHeld "Comparable" t; pure (.bool (← typeInfo t).comparable)
theorem isComparable (w : World) : (cmpX #[.agg #[.pointer (some ⟨9, 179, none⟩)]]).run Proofs.Tryz.prog w = .ok (.bool true) w := by kernel_rfl
theorem isComp : (Proofs.Tryz.prog.info? 179).map (·.comparable) = some true := by kernel_rfl
theorem isSize : (Proofs.Tryz.prog.info? 181).map (·.size) = some 1 := by kernel_rfl
theorem isMethodComparable (v : Value) (w : World) : (Go.method 314 111 v "Comparable").run Proofs.Tryz.prog w = .ok (170, v) w := by kernel_rfl
set_option maxRecDepth 100000 in
set_option maxHeartbeats 1000000 in
theorem is_same (a : Addr) (w : World) :
    Calls Proofs.Tryz.prog 25 #[.iface 179 (.pointer (some a)), .iface 179 (.pointer (some a))] w fun e w' => e = .returned (.bool true) ∧ w' = w := by
  obtain ⟨i, hi, hcmp⟩ := Option.map_eq_some_iff.1 isComp
  obtain ⟨j, hj, hjs⟩ := Option.map_eq_some_iff.1 isSize
  have h8 := @run_callFunc_extern Proofs.Tryz.prog 53 _ Extern.ReflectliteType.typeOf Proofs.Tryz.func53 (by kernel_rfl) (by kernel_rfl) (by kernel_rfl) (by kernel_rfl)
  have h32 := @run_callFunc_extern Proofs.Tryz.prog 170 _ cmpX Proofs.Tryz.func170 (by kernel_rfl) (by kernel_rfl) (by kernel_rfl) (by kernel_rfl)
  have tT := isTypeOf
  have cT := isComparable
  have mR := isMethodComparable
  have heq := run_eql_iface_ptr_same (P := Proofs.Tryz.prog) w a Proofs.Tryz.underlying46 Proofs.Tryz.underlying179 hi hcmp hj
  open Proofs.Tryz in go_enter func25, ntmps25
  go_wp2
  refine wp_loop_rounds 1 ?_
  rw [rounds_succ]
  go_wp2
  go_ret
  exact ⟨rfl, rfl⟩
set_option maxRecDepth 100000 in
theorem is_nil (b : Addr) (w : World) :
    Calls Proofs.Tryz.prog 25 #[.nilIface, .iface 179 (.pointer (some b))] w fun e w' => e = .returned (.bool false) ∧ w' = w := by
  have hn := run_eql_iface_nil_left (P := Proofs.Tryz.prog) w 179 (.pointer (some b)) Proofs.Tryz.underlying46
  open Proofs.Tryz in go_enter func25, ntmps25
  go_wp2
  go_ret
  exact ⟨rfl, rfl⟩
def cIs : Ctr := ⟨25, [.val false .er pF, .val false .er pF], fun x => x.1 ≤ 1 ∧ x.2.1 = 1, fun x => (sBool (Nat.beq x.1 1), [])⟩
theorem cIs_ok : CtrOk Proofs.Tryz.prog cIs := by
  refine ctr_of_below (fn := Proofs.Tryz.f25) Proofs.Tryz.func25 rfl rfl rfl ?_
  rintro G w args ⟨(e : Nat), (t : Nat), ⟨⟩⟩ _ ham ⟨v, vs, rfl, ⟨_, cs, rfl, _, ⟨u, rfl, h1⟩⟩, v2, vs2, rfl, ⟨_, cs2, rfl, _, ⟨u2, rfl, h2⟩⟩, rfl⟩ ⟨hp1, hp2⟩
  replace hp1 : e ≤ 1 := hp1
  replace hp2 : t = 1 := hp2
  subst hp2
  rcases h2 with h2 | ⟨_, hg, C, t2, fz, A, hh, hC, rfl⟩ | h2
  · exact absurd (show (1 : Nat) = 0 from h2.1) (by decide)
  · rcases h1 with ⟨he, rfl⟩ | ⟨he, _, C', t3, fz', A', hh', hC', rfl⟩ | h1
    · replace he : e = 0 := he
      subst he
      refine (is_nil A w).mono ?_
      rintro e w' ⟨rfl, rfl⟩
      exact ⟨_, rfl, Below.refl _ _, fun G' => MtS.ofBool, rfl⟩
    · replace he : e = 1 := he
      subst he
      rw [hh] at hh'
      simp only [Option.some.injEq, Obj.cells.injEq] at hh'
      rw [← hh'.1, hC] at hC'
      simp only [List.cons.injEq, Value.iface.injEq, Value.pointer.injEq, Option.some.injEq, and_true, true_and] at hC'
      subst hC'
      refine (is_same A w).mono ?_
      rintro e w' ⟨rfl, rfl⟩
      exact ⟨_, rfl, Below.refl _ _, fun G' => MtS.ofBool, rfl⟩
    · have : e = 2 := h1.1
      omega
  · exact absurd (show (1 : Nat) = 2 from h2.1) (by decide)
end Go.Sx

/- The program's reader of roots: bounds. -/
namespace Go.Sx
open Go
structure RdOk (s : RdS) : Prop where
  ln : ∀ l ∈ s.1, l.length ≤ 700
  num : s.1.length ≤ 701
  er : s.2 ≤ 1
theorem words_ok {f : Str} {s : RdS} (h : RdOk s) : RdOk (wordsI f s).2 ∧ (wordsI f s).2.1.length ≤ s.1.length ∧ (0 < s.1.length → (wordsI f s).2.1.length < s.1.length) := by
  obtain ⟨h1, h2, h3⟩ := h
  unfold wordsI
  split
  · exact ⟨⟨h1, h2, Nat.le_refl _⟩, Nat.le_refl _, fun h => by omega⟩
  · refine ⟨⟨fun l hl => h1 l (List.mem_of_mem_drop hl), by simp only [List.length_drop]; omega, ?_⟩, by simp only [List.length_drop]; omega, fun _ => by simp only [List.length_drop]; omega⟩
    simp only
    split <;> omega
theorem cutGo_len' {a : UInt8} : ∀ {s cur : Str}, ∀ x ∈ cutGo a cur s, x.length ≤ cur.length + s.length := by
  intro s
  induction s with
  | nil => intro cur x hx; rw [List.mem_singleton.1 hx]; exact Nat.le_add_right _ _
  | cons c s ih =>
    intro cur x hx
    simp only [cutGo] at hx
    split at hx
    · rcases List.mem_cons.1 hx with rfl | hx
      · exact Nat.le_add_right _ _
      · have := ih x hx
        simp only [List.length_nil, List.length_cons] at this ⊢
        omega
    · have := ih x hx
      simp only [List.length_append, List.length_cons, List.length_nil] at this ⊢
      omega
theorem words_len {f : Str} {s : RdS} (h : RdOk s) : (∀ w ∈ (wordsI f s).1, w.length ≤ 700) ∧ (wordsI f s).1.length ≤ 701 := by
  unfold wordsI
  split
  · simp
  · rename_i hne
    have hlt : 0 < s.1.length := by omega
    have h0 : (s.1.getD 0 []).length ≤ 700 := by
      rw [List.getD_eq_getElem?_getD, List.getElem?_eq_getElem hlt]
      exact h.1 _ (List.getElem_mem hlt)
    refine ⟨fun w hw => ?_, ?_⟩
    · have := cutGo_len' w (List.mem_of_mem_drop hw)
      simp only [List.length_nil] at this
      omega
    · have : ∀ (s cur : Str), (cutGo 32 cur s).length ≤ s.length + 1 := by
        intro s
        induction s with
        | nil => intro cur; simp [cutGo]
        | cons c s ih =>
          intro cur
          simp only [cutGo]
          split
          · have := ih []
            simp only [List.length_cons]
            omega
          · have := ih (cur ++ [c])
            simp only [List.length_cons]
            omega
      have h1 := this (s.1.getD 0 []) []
      simp only [List.length_drop]
      unfold cutV
      omega
theorem plcs_next {l : List Str} {i : Nat} {out : List Plc} {s : RdS} {v : List Plc × RdS} (hlt : i < l.length) (h : plcsI (l.drop i) out s = v) : plcsI (l.drop (i + 1)) (out ++ [(atoN (Lib.cut (l.getD i []) [46]).1, atoN (Lib.cut (l.getD i []) [46]).2.1)]) (numI (Lib.cut (l.getD i []) [46]).2.1 (numI (Lib.cut (l.getD i []) [46]).1 s).2).2 = v := by
  rw [List.drop_eq_getElem_cons hlt] at h
  rw [List.getD_eq_getElem?_getD, List.getElem?_eq_getElem hlt]
  exact h
theorem plcs_end {l : List Str} {out : List Plc} {s : RdS} {v : List Plc × RdS} (h : plcsI (l.drop l.length) out s = v) : (out, s) = v := by
  rw [List.drop_length] at h
  exact h
theorem num_ok {f : Str} {s : RdS} (h : RdOk s) : RdOk (numI f s).2 ∧ (numI f s).2.1 = s.1 := by
  obtain ⟨h1, h2, h3⟩ := h
  unfold numI
  refine ⟨⟨h1, h2, ?_⟩, rfl⟩
  simp only
  split <;> omega
theorem only_ok {ws : List Str} {s : RdS} (h : RdOk s) : RdOk (onlyI ws s).2 ∧ (onlyI ws s).2.1 = s.1 := by
  obtain ⟨h1, h2, h3⟩ := h
  unfold onlyI
  split
  · exact ⟨⟨h1, h2, h3⟩, rfl⟩
  · exact ⟨⟨h1, h2, Nat.le_refl _⟩, rfl⟩
theorem plcs_ok : ∀ {ws : List Str} {out : List Plc} {s : RdS}, RdOk s → RdOk (plcsI ws out s).2 ∧ (plcsI ws out s).2.1 = s.1 := by
  intro ws
  induction ws with
  | nil => intro out s h; exact ⟨h, rfl⟩
  | cons w ws ih =>
    intro out s h
    simp only [plcsI]
    obtain ⟨a1, a2⟩ := num_ok (f := (Lib.cut w [46]).1) h
    obtain ⟨b1, b2⟩ := num_ok (f := (Lib.cut w [46]).2.1) a1
    obtain ⟨c1, c2⟩ := ih (out := out ++ [(atoN (Lib.cut w [46]).1, atoN (Lib.cut w [46]).2.1)]) b1
    exact ⟨c1, c2.trans (b2.trans a2)⟩
theorem ptrI_ok {s : RdS} (h : RdOk s) : RdOk (ptrI s).2 ∧ (ptrI s).2.1.length ≤ s.1.length := by
  unfold ptrI
  split
  · exact ⟨(words_ok h).1, (words_ok h).2.1⟩
  · obtain ⟨a1, a2, _⟩ := words_ok (f := tPtr) h
    simp only
    split
    · exact ⟨⟨a1.1, a1.2, Nat.le_refl _⟩, a2⟩
    · obtain ⟨b1, b2⟩ := num_ok (f := (wordsI tPtr s).1.getD 0 []) a1
      obtain ⟨c1, c2⟩ := num_ok (f := (wordsI tPtr s).1.getD 1 []) b1
      obtain ⟨d1, d2⟩ := plcs_ok (ws := (wordsI tPtr s).1.drop 2) (out := []) c1
      refine ⟨d1, ?_⟩
      rw [d2, c2, b2]
      exact a2
theorem blksI_ok : ∀ (n : Nat) (out : List Ptr_) (s : RdS), RdOk s → RdOk (blksI n out s).2 ∧ (blksI n out s).2.1.length ≤ s.1.length := by
  intro n
  induction n with
  | zero => intro out s h; exact ⟨h, Nat.le_refl _⟩
  | succ n ih =>
    intro out s h
    simp only [blksI]
    obtain ⟨a1, a2⟩ := ptrI_ok h
    obtain ⟨b1, b2⟩ := ih (out ++ [(ptrI s).1]) _ a1
    exact ⟨b1, by omega⟩
theorem nextI_pos {f : Str} {s : RdS} (h : nextI f s = true) : 0 < s.1.length := by
  unfold nextI at h
  split at h
  · cases h
  · omega
theorem volsI_stop {n : Nat} {vs : List Vol_} {s : RdS} (h : ¬ (s.2 = 0 ∧ nextI nV s = true)) : volsI n vs s = (vs, s) := by
  cases n with
  | zero => rfl
  | succ n => simp only [volsI]; rw [if_neg h]
theorem cut_ok {t : Str} (h : t.length ≤ 700) : RdOk (cutV 10 t, 0) := by
  refine ⟨fun l hl => ?_, ?_, Nat.zero_le _⟩
  · have := cutGo_len' l hl
    simp only [List.length_nil] at this
    omega
  · have : ∀ (s cur : Str), (cutGo 10 cur s).length ≤ s.length + 1 := by
      intro s
      induction s with
      | nil => intro cur; simp [cutGo]
      | cons c s ih =>
        intro cur
        simp only [cutGo]
        split
        · have := ih []
          simp only [List.length_cons]
          omega
        · have := ih (cur ++ [c])
          simp only [List.length_cons]
          omega
    have h1 := this t []
    show (cutGo 10 [] t).length ≤ 701
    omega
theorem volsI_ok : ∀ (n : Nat) (out : List Vol_) (s : RdS), RdOk s → RdOk (volsI n out s).2 := by
  intro n
  induction n with
  | zero => intro out s h; exact h
  | succ n ih =>
    intro out s h
    simp only [volsI]
    split
    · exact ih _ _ (blksI_ok 3 [] _ (only_ok (words_ok h).1).1).1
    · exact h
theorem rootI_ok {s : RdS} (h : RdOk s) : RdOk (rootI s).2 := volsI_ok _ _ _ (num_ok (only_ok (words_ok h).1).1).1
theorem only_len {ws : List Str} {s : RdS} (h : ∀ w ∈ ws, w.length ≤ 700) : (onlyI ws s).1.length ≤ 700 := by
  unfold onlyI
  split
  · rename_i h1
    have hlt : 0 < ws.length := by omega
    show (ws.getD 0 []).length ≤ 700
    rw [List.getD_eq_getElem?_getD, List.getElem?_eq_getElem hlt]
    exact h _ (List.getElem_mem hlt)
  · exact Nat.zero_le _
end Go.Sx

namespace Go.Sx
open Go
set_option maxRecDepth 100000
set_option linter.unusedVariables false
set_option linter.unusedSimpArgs false
set_option maxHeartbeats 2000000

def cNextI : Ctr := ⟨51, [.ref T_rootReader pF, .val false .str pF], fun x => RdOk x.1 ∧ List.length x.2.1 ≤ 1000, fun x => (sBool (nextI x.2.1 x.1), [(⟨0, 0, 0⟩, .var [.d (.sl .str) pF x.1.1, .d .er pF x.1.2])])⟩
theorem cNextI_ok : CtrOk Proofs.Tryz.prog cNextI := by
  have hP := ((Prg.none ttok mtok).and cPref_ok)
  refine ctr_of_body hP cNextI (fn := Proofs.Tryz.f51) (rts := [.tmp 4]) Proofs.Tryz.func51 rfl (by kernel_rfl) rfl rfl ?_
  rintro ⟨⟨(ls : List Str), (er : Nat)⟩, (f : Str), ⟨⟩⟩ _ ⟨hpre, hfl⟩
  try dsimp only [Ty.den, Mode.den, mdens] at hpre
  try dsimp only [Ty.den, Mode.den, mdens] at hfl
  refine ⟨rfl, ?_⟩
  replace hpre : RdOk (ls, er) := hpre
  replace hfl : f.length ≤ 1000 := hfl
  have hl : ∀ l ∈ ls, l.length ≤ 700 := hpre.1
  have hn : ls.length ≤ 701 := hpre.2
  refine sw_seq ?_
  refine sw_region hP 1 [] rfl (by kernel_rfl) (fun _ => by kernel_rfl) (by first | trivial | (simp [conj]; done) | (simp [conj] at *; (try dsimp only [Ty.den, Ty.dflt] at *); omega)) ?_
  refine sw_seq ?_
  refine sw_dec hP 2 [] 6 rfl (fun g1_6 => ?_) (fun g1_6 => ?_)
  · skip
    have hlt : 0 < ls.length := by simpa using g1_6
    have h0 := hl _ (List.getElem_mem hlt)
    have hne : ¬ ls = [] := by intro e; rw [e] at hlt; cases hlt
    refine sw_region hP 2 [(6, true)] rfl (by kernel_rfl) (fun _ => by kernel_rfl) ?_ ?_
    · skip
      simp [conj, maxL, bytesL, List.getElem?_eq_getElem hlt]
      repeat' apply And.intro
      all_goals first | omega | trivial
    refine sw_ret ⟨.inl rfl, _, rfl, ?_⟩
    simp [conj, nextI, hne, bytesL, List.getElem?_eq_getElem hlt]
  · skip
    obtain rfl : ls = [] := by have h : decide ((0 : Int) < (ls.length : Int)) = false := g1_6; simpa using h
    refine sw_region hP 2 [(6, false)] rfl (by kernel_rfl) (fun _ => by kernel_rfl) ?_ ?_
    · skip
      simp [conj]
    refine sw_ret ⟨.inl rfl, _, rfl, ?_⟩
    simp [conj, nextI]

def cWordsI : Ctr := ⟨50, [.ref T_rootReader pF, .val false .str pF], fun x => RdOk x.1, fun x => (.v false [.d (.sl .str) pF (wordsI x.2.1 x.1).1], [(⟨0, 0, 0⟩, .var [.d (.sl .str) pF (wordsI x.2.1 x.1).2.1, .d .er pF (wordsI x.2.1 x.1).2.2])])⟩
theorem cWordsI_ok : CtrOk Proofs.Tryz.prog cWordsI := by
  have hP := ((Prg.none ttok mtok).and cSplit_ok)
  refine ctr_of_body hP cWordsI (fn := Proofs.Tryz.f50) (rts := [.tmp 4]) Proofs.Tryz.func50 rfl (by kernel_rfl) rfl rfl ?_
  rintro ⟨⟨(ls : List Str), (er : Nat)⟩, (f : Str), ⟨⟩⟩ _ hpre
  try dsimp only [Ty.den, Mode.den, mdens] at hpre
  refine ⟨rfl, ?_⟩
  replace hpre : RdOk (ls, er) := hpre
  have hl : ∀ l ∈ ls, l.length ≤ 700 := hpre.1
  have hn : ls.length ≤ 701 := hpre.2
  refine sw_seq ?_
  refine sw_region hP 1 [] rfl (by kernel_rfl) (fun _ => by kernel_rfl) (by first | trivial | (simp [conj]; done) | (simp [conj] at *; (try dsimp only [Ty.den, Ty.dflt] at *); omega)) ?_
  refine sw_seq ?_
  refine sw_seq ?_
  refine sw_region hP 2 [] rfl (by kernel_rfl) (fun _ => by kernel_rfl) (by first | trivial | (simp [conj]; done) | (simp [conj] at *; (try dsimp only [Ty.den, Ty.dflt] at *); omega)) ?_
  refine sw_cond rfl (fun c1 => ?_) (fun c1 => ?_)
  · skip
    have hlt : ls.length = 0 := by simpa using c1
    obtain rfl : ls = [] := List.eq_nil_of_length_eq_zero hlt
    refine sw_seq ?_
    refine sw_region hP 3 [] rfl (by kernel_rfl) (fun _ => by kernel_rfl) (by first | trivial | (simp [conj]; done) | (simp [conj] at *; (try dsimp only [Ty.den, Ty.dflt] at *); omega)) ?_
    refine sw_seq ?_
    refine sw_region hP 4 [] rfl (by kernel_rfl) (fun _ => by kernel_rfl) (by first | trivial | (simp [conj]; done) | (simp [conj] at *; (try dsimp only [Ty.den, Ty.dflt] at *); omega)) ?_
    refine sw_ret ⟨.inl rfl, _, rfl, ?_⟩
    simp [conj, wordsI]
  · skip
    have hlt : 0 < ls.length := by
      rcases Nat.eq_zero_or_pos ls.length with h | h
      · simp [h] at c1
      · exact h
    have h0 := hl _ (List.getElem_mem hlt)
    have hcv := List.length_pos_iff.2 (cutV_ne (a := 32) (s := ls[0]))
    refine sw_skip ?_
    refine sw_seq ?_
    refine sw_region hP 3 [] rfl (by kernel_rfl) (fun _ => by kernel_rfl) ?_ ?_
    · skip
      simp [conj, List.getElem?_eq_getElem hlt, bytesL]
      repeat' apply And.intro
      all_goals first | omega | trivial | (show List.length ls[0] ≤ 1000000; omega)
    refine sw_seq ?_
    refine sw_region hP 4 [] rfl (by kernel_rfl) (fun _ => by kernel_rfl) ?_ ?_
    · skip
      simp [conj, List.getElem?_eq_getElem hlt]
      repeat' apply And.intro
      all_goals first | omega | trivial
    refine sw_seq ?_
    refine sw_seq ?_
    refine sw_region hP 5 [] rfl (by kernel_rfl) (fun _ => by kernel_rfl) ?_ ?_
    · skip
      simp [conj, List.getElem?_eq_getElem hlt, bytesL]
      repeat' apply And.intro
      all_goals first | omega | trivial
    refine sw_cond rfl (fun c6 => ?_) (fun c6 => ?_)
    · skip
      have hw : ¬ (cutV 32 ls[0])[0] = f := by simpa [List.getElem?_eq_getElem hlt, bytesL, List.getElem?_eq_getElem hcv] using c6
      refine sw_region hP 6 [] rfl (by kernel_rfl) (fun _ => by kernel_rfl) (by first | trivial | (simp [conj]; done) | (simp [conj] at *; (try dsimp only [Ty.den, Ty.dflt] at *); omega)) ?_
      refine sw_seq ?_
      refine sw_region hP 7 [] rfl (by kernel_rfl) (fun _ => by kernel_rfl) ?_ ?_
      · skip
        simp [conj, List.getElem?_eq_getElem hlt, bytesL]
        repeat' apply And.intro
        all_goals first | omega | trivial
      refine sw_ret ⟨.inl rfl, _, rfl, ?_⟩
      have hne : ¬ ls.length = 0 := by omega
      simp [conj, wordsI, hne, List.getElem?_eq_getElem hlt, List.getElem?_eq_getElem hcv, hw, bytesL]
    · skip
      have hw : (cutV 32 ls[0])[0] = f := by simpa [List.getElem?_eq_getElem hlt, bytesL, List.getElem?_eq_getElem hcv] using c6
      refine sw_skip ?_
      refine sw_seq ?_
      refine sw_region hP 6 [] rfl (by kernel_rfl) (fun _ => by kernel_rfl) ?_ ?_
      · skip
        simp [conj, List.getElem?_eq_getElem hlt, bytesL]
        repeat' apply And.intro
        all_goals first | omega | trivial
      refine sw_ret ⟨.inl rfl, _, rfl, ?_⟩
      have hne : ¬ ls.length = 0 := by omega
      simp [conj, wordsI, hne, List.getElem?_eq_getElem hlt, List.getElem?_eq_getElem hcv, hw, bytesL]

def cNumI : Ctr := ⟨48, [.ref T_rootReader pF, .val false .str pF], fun x => List.length x.2.1 ≤ 1000000, fun x => (sInt .i64 (numI x.2.1 x.1).1, [(⟨0, 0, 0⟩, .var [.d (.sl .str) pF (numI x.2.1 x.1).2.1, .d .er pF (numI x.2.1 x.1).2.2])])⟩
theorem cNumI_ok : CtrOk Proofs.Tryz.prog cNumI := by
  have hP := ((Prg.none ttok mtok).and cAtoi_ok)
  refine ctr_of_body hP cNumI (fn := Proofs.Tryz.f48) (rts := [.tmp 4]) Proofs.Tryz.func48 rfl (by kernel_rfl) rfl rfl ?_
  rintro ⟨⟨(ls : List Str), (er : Nat)⟩, (f : Str), ⟨⟩⟩ _ hpre
  try dsimp only [Ty.den, Mode.den, mdens] at hpre
  refine ⟨rfl, ?_⟩
  replace hpre : f.length ≤ 1000000 := hpre
  refine sw_seq ?_
  refine sw_region hP 1 [] rfl (by kernel_rfl) (fun _ => by kernel_rfl) (by first | trivial | (simp [conj]; done) | (simp [conj] at *; (try dsimp only [Ty.den, Ty.dflt] at *); omega)) ?_
  refine sw_seq ?_
  refine sw_region hP 2 [] rfl (by kernel_rfl) (fun _ => by kernel_rfl) ?_ ?_
  · skip
    simp only [conj, List.nil_append, List.cons_append, List.append_nil, List.append_assoc, inR_i64, true_and, and_true, Int.toNat_natCast]
    try dsimp only [Ty.den, Ty.dflt]
    repeat' apply And.intro
    all_goals first | omega | assumption | trivial
  refine sw_seq ?_
  refine sw_seq ?_
  refine sw_region hP 3 [] rfl (by kernel_rfl) (fun _ => by kernel_rfl) (by first | trivial | (simp [conj]; done) | (simp [conj] at *; (try dsimp only [Ty.den, Ty.dflt] at *); omega)) ?_
  refine sw_cond rfl (fun c2 => ?_) (fun c2 => ?_)
  · skip
    have he : ¬ atoE f = 0 := by have h : (!Nat.beq (atoE f) 0) = true := c2; intro e; rw [e] at h; cases h
    refine sw_region hP 4 [] rfl (by kernel_rfl) (fun _ => by kernel_rfl) (by first | trivial | (simp [conj]; done) | (simp [conj] at *; (try dsimp only [Ty.den, Ty.dflt] at *); omega)) ?_
    refine sw_seq ?_
    refine sw_region hP 5 [] rfl (by kernel_rfl) (fun _ => by kernel_rfl) (by first | trivial | (simp [conj]; done) | (simp [conj] at *; (try dsimp only [Ty.den, Ty.dflt] at *); omega)) ?_
    refine sw_ret ⟨.inl rfl, _, rfl, ?_⟩
    simp [conj, numI, he]
  · skip
    have he : atoE f = 0 := by have h : (!Nat.beq (atoE f) 0) = false := c2; simpa using h
    refine sw_skip ?_
    refine sw_seq ?_
    refine sw_region hP 4 [] rfl (by kernel_rfl) (fun _ => by kernel_rfl) (by first | trivial | (simp [conj]; done) | (simp [conj] at *; (try dsimp only [Ty.den, Ty.dflt] at *); omega)) ?_
    refine sw_ret ⟨.inl rfl, _, rfl, ?_⟩
    simp [conj, numI, he]

def cOnlyI : Ctr := ⟨49, [.ref T_rootReader pF, .val false (.sl .str) pF], fun x => True, fun x => (sStr (onlyI x.2.1 x.1).1, [(⟨0, 0, 0⟩, .var [.d (.sl .str) pF (onlyI x.2.1 x.1).2.1, .d .er pF (onlyI x.2.1 x.1).2.2])])⟩
theorem cOnlyI_ok : CtrOk Proofs.Tryz.prog cOnlyI := by
  have hP := (Prg.none ttok mtok)
  refine ctr_of_body hP cOnlyI (fn := Proofs.Tryz.f49) (rts := [.tmp 4]) Proofs.Tryz.func49 rfl (by kernel_rfl) rfl rfl ?_
  rintro ⟨⟨(ls : List Str), (er : Nat)⟩, (ws : List Str), ⟨⟩⟩ _ _
  try dsimp only [Ty.den, Mode.den, mdens] at _
  refine ⟨rfl, ?_⟩
  refine sw_seq ?_
  refine sw_region hP 1 [] rfl (by kernel_rfl) (fun _ => by kernel_rfl) (by first | trivial | (simp [conj]; done) | (simp [conj] at *; (try dsimp only [Ty.den, Ty.dflt] at *); omega)) ?_
  refine sw_seq ?_
  refine sw_seq ?_
  refine sw_region hP 2 [] rfl (by kernel_rfl) (fun _ => by kernel_rfl) (by first | trivial | (simp [conj]; done) | (simp [conj] at *; (try dsimp only [Ty.den, Ty.dflt] at *); omega)) ?_
  refine sw_cond rfl (fun c1 => ?_) (fun c1 => ?_)
  · skip
    have hw : ¬ ws.length = 1 := by have h := c1; simp at h; omega
    refine sw_seq ?_
    refine sw_region hP 3 [] rfl (by kernel_rfl) (fun _ => by kernel_rfl) (by first | trivial | (simp [conj]; done) | (simp [conj] at *; (try dsimp only [Ty.den, Ty.dflt] at *); omega)) ?_
    refine sw_seq ?_
    refine sw_region hP 4 [] rfl (by kernel_rfl) (fun _ => by kernel_rfl) (by first | trivial | (simp [conj]; done) | (simp [conj] at *; (try dsimp only [Ty.den, Ty.dflt] at *); omega)) ?_
    refine sw_ret ⟨.inl rfl, _, rfl, ?_⟩
    simp [conj, onlyI, hw, bytesL]
  · skip
    have hw : ws.length = 1 := by have h := c1; simp at h; omega
    have hlt : 0 < ws.length := by omega
    refine sw_skip ?_
    refine sw_seq ?_
    refine sw_region hP 3 [] rfl (by kernel_rfl) (fun _ => by kernel_rfl) ?_ ?_
    · skip
      simp [conj, List.getElem?_eq_getElem hlt]
      repeat' apply And.intro
      all_goals first | omega | trivial
    refine sw_ret ⟨.inl rfl, _, rfl, ?_⟩
    simp [conj, onlyI, hw, bytesL]
end Go.Sx

namespace Go.Sx
open Go
set_option maxRecDepth 100000
set_option linter.unusedVariables false
set_option linter.unusedSimpArgs false
set_option maxHeartbeats 2000000

def cPtrI : Ctr := ⟨52, [.ref T_rootReader pF], fun x => RdOk x.1, fun x => (.v true [.d TI pF (ptrI x.1).1.1, .d TI pF (ptrI x.1).1.2.1, .own ⟨1, 0, 0⟩], [(⟨0, 0, 0⟩, .var [.d (.sl .str) pF (ptrI x.1).2.1, .d .er pF (ptrI x.1).2.2]), (⟨1, 0, 0⟩, .sl T_Place pF (ptrI x.1).1.2.2)])⟩
theorem cPtrI_ok : CtrOk Proofs.Tryz.prog cPtrI := by
  have hP := (((((Prg.none ttok mtok).and cNextI_ok).and cWordsI_ok).and cNumI_ok).and cCut_ok)
  refine ctr_of_body hP cPtrI (fn := Proofs.Tryz.f52) (rts := [.cell 2 57]) Proofs.Tryz.func52 rfl (by kernel_rfl) rfl rfl ?_
  rintro ⟨⟨(ls : List Str), (er : Nat)⟩, ⟨⟩⟩ _ hpre
  try dsimp only [Ty.den, Mode.den, mdens] at hpre
  refine ⟨rfl, ?_⟩
  replace hpre : RdOk (ls, er) := hpre
  refine sw_seq ?_
  refine sw_region hP 1 [] rfl (by kernel_rfl) (fun _ => by kernel_rfl) (by first | trivial | (simp [conj]; done) | (simp [conj] at *; (try dsimp only [Ty.den, Ty.dflt] at *); omega)) ?_
  refine sw_seq ?_
  refine sw_seq ?_
  refine sw_region hP 2 [] rfl (by kernel_rfl) (fun _ => by kernel_rfl) ?_ ?_
  · skip
    simp only [conj, List.nil_append, List.cons_append, List.append_nil, List.append_assoc, inR_i64, true_and, and_true, Int.toNat_natCast]
    try dsimp only [Ty.den, Ty.dflt]
    repeat' apply And.intro
    all_goals first | omega | assumption | trivial | exact hpre | (show 4 ≤ 1000; decide)
  refine sw_cond rfl (fun c1 => ?_) (fun c1 => ?_)
  · skip
    replace c1 : nextI nN (ls, er) = true := c1
    refine sw_seq ?_
    refine sw_region hP 3 [] rfl (by kernel_rfl) (fun _ => by kernel_rfl) ?_ ?_
    · skip
      simp only [conj, List.nil_append, List.cons_append, List.append_nil, List.append_assoc, inR_i64, true_and, and_true, Int.toNat_natCast]
      try dsimp only [Ty.den, Ty.dflt]
      repeat' apply And.intro
      all_goals first | omega | assumption | trivial | exact hpre
    refine sw_seq ?_
    refine sw_region hP 4 [] rfl (by kernel_rfl) (fun _ => by kernel_rfl) (by first | trivial | (simp [conj]; done) | (simp [conj] at *; (try dsimp only [Ty.den, Ty.dflt] at *); omega)) ?_
    refine sw_ret ⟨.inl rfl, _, rfl, ?_⟩
    have hv : ptrI (ls, er) = ((0, 0, []), (wordsI nN (ls, er)).2) := by
      unfold ptrI
      rw [if_pos c1]
    rw [hv]
    simp [conj, bytesL, nN]
  · skip
    replace c1 : ¬ nextI nN (ls, er) = true := by have h : nextI nN (ls, er) = false := c1; rw [h]; decide
    refine sw_skip ?_
    refine sw_seq ?_
    refine sw_region hP 3 [] rfl (by kernel_rfl) (fun _ => by kernel_rfl) ?_ ?_
    · skip
      simp only [conj, List.nil_append, List.cons_append, List.append_nil, List.append_assoc, inR_i64, true_and, and_true, Int.toNat_natCast]
      try dsimp only [Ty.den, Ty.dflt]
      repeat' apply And.intro
      all_goals first | omega | assumption | trivial | exact hpre
    refine sw_seq ?_
    refine sw_seq ?_
    obtain ⟨q, hq⟩ : ∃ q, wordsI tPtr (ls, er) = q := ⟨_, rfl⟩
    have hqo : RdOk q.2 := hq ▸ (words_ok hpre).1
    have hql : (∀ w ∈ q.1, w.length ≤ 700) ∧ q.1.length ≤ 701 := hq ▸ words_len hpre
    refine sw_ent (st' := ⟨[.v false [.ptr ⟨0, 0, 0⟩ 0], .junk, .v false [.ptr ⟨1, 0, 0⟩ 0], .v false [.d (.sl .str) pF q.1], .junk, .junk, .junk, .junk, .junk, .junk, .junk, .junk, .junk, .junk, .junk, .junk, .junk, .junk, .junk, .junk, .junk, .junk, .junk, .junk, .junk, .junk, .junk, .junk, .junk, .junk, .junk, .junk, .junk, .junk, .junk, .junk, .junk, .junk, .junk, .junk, .junk, .junk, .junk, .junk, .junk, .junk, .junk, .junk, .junk, .junk, .junk, .junk, .junk, .junk, .junk, .junk, .junk, .junk, .junk, .junk, .junk, .junk, .junk], [(⟨0, 0, 0⟩, .var [.d (.sl .str) pF q.2.1, .d .er pF q.2.2]), (⟨1, 0, 0⟩, .var [.d TI pF 0, .d TI pF 0, .d (.sl T_Place) pF []])], 3, [[.v false [.ptr ⟨0, 0, 0⟩ 0]]]⟩) (ent_ok rfl ?_) ?_
    · skip
      simp [conj, ← hq, bytesL, tPtr]
    refine sw_region hP 4 [] rfl (by kernel_rfl) (fun _ => by kernel_rfl) (by first | trivial | (simp [conj]; done) | (simp [conj] at *; (try dsimp only [Ty.den, Ty.dflt] at *); omega)) ?_
    refine sw_cond rfl (fun c5 => ?_) (fun c5 => ?_)
    · skip
      replace c5 : q.1.length < 2 := by have h := c5; simp at h; omega
      refine sw_seq ?_
      refine sw_region hP 5 [] rfl (by kernel_rfl) (fun _ => by kernel_rfl) (by first | trivial | (simp [conj]; done) | (simp [conj] at *; (try dsimp only [Ty.den, Ty.dflt] at *); omega)) ?_
      refine sw_seq ?_
      refine sw_region hP 6 [] rfl (by kernel_rfl) (fun _ => by kernel_rfl) (by first | trivial | (simp [conj]; done) | (simp [conj] at *; (try dsimp only [Ty.den, Ty.dflt] at *); omega)) ?_
      refine sw_ret ⟨.inl rfl, _, rfl, ?_⟩
      have hv : ptrI (ls, er) = ((0, 0, []), (q.2.1, 1)) := by
        unfold ptrI
        simp only [hq]
        rw [if_neg c1, if_pos c5]
      simp [conj, hv]
    · skip
      replace c5 : ¬ q.1.length < 2 := by have h := c5; simp at h; omega
      have h0 : 0 < q.1.length := by omega
      have h1 : 1 < q.1.length := by omega
      have l0 := hql.1 _ (List.getElem_mem h0)
      have l1 := hql.1 _ (List.getElem_mem h1)
      have hl2 : (q.1.drop 2).length ≤ 701 := by rw [List.length_drop]; omega
      refine sw_skip ?_
      refine sw_seq ?_
      refine sw_region hP 5 [] rfl (by kernel_rfl) (fun _ => by kernel_rfl) ?_ ?_
      · skip
        simp [conj, List.getElem?_eq_getElem h0, List.getElem?_eq_getElem h1]
        repeat' apply And.intro
        all_goals first | omega | trivial | exact Int.ofNat_lt.2 h1 | exact Int.ofNat_lt.2 h0 | (show List.length q.1[0] ≤ 1000000; omega) | (show List.length q.1[1] ≤ 1000000; omega)
      refine sw_seq ?_
      refine sw_seq ?_
      refine sw_region hP 6 [] rfl (by kernel_rfl) (fun _ => by kernel_rfl) ?_ ?_
      · skip
        simp [conj]
        repeat' apply And.intro
        all_goals first | omega | trivial
      refine sw_block ?_
      refine sw_loop (ι := Nat × List Plc × RdS) (fun ⟨i, out, s⟩ => ⟨[.v false [.ptr ⟨0, 0, 0⟩ 0], .junk, .v false [.ptr ⟨1, 0, 0⟩ 0], .junk, .v false [.ptr ⟨5, 11, 0⟩ 0], .junk, .junk, .junk, .junk, .junk, .junk, .junk, .junk, .junk, .junk, .junk, .junk, .junk, .junk, .junk, .junk, .junk, .junk, .junk, .junk, .junk, .junk, .junk, .junk, .junk, .junk, .junk, .junk, .junk, .junk, .junk, .junk, .v false [.d (.sl .str) pF (q.1.drop 2)], sInt .i64 ((q.1.drop 2).length : Int), sInt .i64 (i : Int), .junk, .junk, .junk, .junk, .junk, .junk, .junk, .junk, .junk, .junk, .junk, .junk, .junk, .junk, .junk, .junk, .junk, .junk, .junk, .junk, .junk, .junk, .junk], [(⟨0, 0, 0⟩, .var [.d (.sl .str) pF s.1, .d .er pF s.2]), (⟨1, 0, 0⟩, .var [.d TI pF 0, .d TI pF 0, .d (.sl T_Place) pF []]), (⟨5, 11, 0⟩, .var [.d TI pF (atoN (q.1.getD 0 [])), .d TI pF (atoN (q.1.getD 1 [])), .own ⟨0, 9, 0⟩]), (⟨0, 9, 0⟩, .sl T_Place pF out)], 6, [[.v false [.ptr ⟨0, 0, 0⟩ 0]]]⟩) (fun ⟨i, out, s⟩ => (q.1.drop 2).length - i) (fun ⟨i, out, s⟩ => i ≤ (q.1.drop 2).length ∧ out.length = i ∧ plcsI ((q.1.drop 2).drop i) out s = (plcsI (q.1.drop 2) [] (numI (q.1.getD 1 []) (numI (q.1.getD 0 []) q.2).2).2)) (0, [], (numI (q.1.getD 1 []) (numI (q.1.getD 0 []) q.2).2).2) ⟨?_, ?_⟩ ?_
      · skip
        exact ⟨Nat.zero_le _, rfl, rfl⟩
      · refine ent_ok rfl ?_
        simp [conj, numI, List.getElem?_eq_getElem h0, List.getElem?_eq_getElem h1]
      · rintro ⟨i, out, s⟩ ⟨hi, hol, hgo⟩
        refine sw_seq ?_
        refine sw_region hP 7 [] rfl (by kernel_rfl) (fun _ => by kernel_rfl) (by first | trivial | (simp [conj]; done) | (simp [conj] at *; (try dsimp only [Ty.den, Ty.dflt] at *); omega)) ?_
        refine sw_seq ?_
        refine sw_cond rfl (fun c10 => ?_) (fun c10 => ?_)
        · skip
          have hlt : i < (q.1.drop 2).length := by have h := c10; simp at h; simp; omega
          have hwl : ((q.1.drop 2).getD i []).length ≤ 700 := by
            rw [List.getD_eq_getElem?_getD, List.getElem?_eq_getElem hlt]
            exact hql.1 _ (List.mem_of_mem_drop (List.getElem_mem hlt))
          have hcl := cut_len ((q.1.drop 2).getD i []) [46]
          refine sw_skip ?_
          refine sw_seq ?_
          refine sw_block ?_
          refine sw_seq ?_
          refine sw_region hP 8 [] rfl (by kernel_rfl) (fun _ => by kernel_rfl) ?_ ?_
          · skip
            simp [conj]
            repeat' apply And.intro
            all_goals first | omega | trivial | (simpa using hlt)
          refine sw_seq ?_
          refine sw_region hP 9 [] rfl (by kernel_rfl) (fun _ => by kernel_rfl) ?_ ?_
          · skip
            simp only [conj, List.nil_append, List.cons_append, List.append_nil, List.append_assoc, inR_i64, true_and, and_true, Int.toNat_natCast]
            try dsimp only [Ty.den, Ty.dflt]
            repeat' apply And.intro
            all_goals first | (show List.length ((q.1.drop 2).getD i []) ≤ 1000000; omega) | trivial
          refine sw_region hP 10 [] rfl (by kernel_rfl) (fun _ => by kernel_rfl) ?_ ?_
          · skip
            simp only [conj, List.nil_append, List.cons_append, List.append_nil, List.append_assoc, inR_i64, true_and, and_true, Int.toNat_natCast]
            try dsimp only [Ty.den, Ty.dflt]
            simp only [maxL]
            repeat' apply And.intro
            all_goals first | omega | (show List.length (Lib.cut ((q.1.drop 2).getD i []) [46]).1 ≤ 1000000; omega) | (show List.length (Lib.cut ((q.1.drop 2).getD i []) [46]).2.1 ≤ 1000000; omega) | trivial | (simp; omega)
          refine sw_region hP 11 [] rfl (by kernel_rfl) (fun _ => by kernel_rfl) (by first | trivial | (simp [conj]; done) | (simp [conj] at *; (try dsimp only [Ty.den, Ty.dflt] at *); omega)) ?_
          refine ⟨(i + 1, out ++ [(atoN (Lib.cut ((q.1.drop 2).getD i []) [46]).1, atoN (Lib.cut ((q.1.drop 2).getD i []) [46]).2.1)], (numI (Lib.cut ((q.1.drop 2).getD i []) [46]).2.1 (numI (Lib.cut ((q.1.drop 2).getD i []) [46]).1 s).2).2), ?_, ?_, ent_ok rfl ?_⟩
          · skip
            exact ⟨hlt, by simp [hol], plcs_next hlt hgo⟩
          · skip
            show (q.1.drop 2).length - (i + 1) < (q.1.drop 2).length - i
            omega
          · skip
            simp [conj, numI, bytesL]
            exact ⟨⟨rfl, rfl⟩, rfl⟩
        · skip
          obtain rfl : i = (q.1.drop 2).length := by have h := c10; simp at h; simp at hi; simp; omega
          replace hgo := plcs_end hgo
          refine sw_exit ?_
          refine sw_seq ?_
          refine sw_region hP 8 [] rfl (by kernel_rfl) (fun _ => by kernel_rfl) (by first | trivial | (simp [conj]; done) | (simp [conj] at *; (try dsimp only [Ty.den, Ty.dflt] at *); omega)) ?_
          refine sw_ret ⟨.inl rfl, _, rfl, ?_⟩
          have hv : ptrI (ls, er) = ((atoN (q.1.getD 0 []), atoN (q.1.getD 1 []), out), s) := by
            unfold ptrI
            simp only [hq]
            rw [if_neg c1, if_neg c5, ← hgo]
          simp [conj, hv]
end Go.Sx
