import Derived.Test.YtbnmeeajooljmaaMD8
import Derived.Test.YtbnmeeajooljmaaMD11
import Derived.Test.YtbnmeeajooljmaaMPt
set_option linter.all false
namespace Go.Sx
open Go
set_option maxRecDepth 100000
set_option linter.unusedVariables false
set_option linter.unusedSimpArgs false
set_option maxHeartbeats 4000000

def cTexts : Ctr := ⟨11, [.val false (.sl .str) (.all .b), .val false (.sl .str) (.all .b)], fun _ => True, fun x => (sBool (decide ((x.1 : List Str) = x.2.1)), [])⟩
theorem cTexts_ok : CtrOk Proofs.Try.prog cTexts := by
  have hP := (Prg.none ttok mtok)
  refine ctr_of_body hP cTexts (fn := Proofs.Try.f11) (rts := [.tmp 4]) Proofs.Try.func11 rfl (by kernel_rfl) rfl rfl ?_
  rintro ⟨(a : List Str), (b : List Str), ⟨⟩⟩ ⟨hda, hdb, _⟩ hpre
  try dsimp only [Ty.den, Mode.den, mdens] at hpre
  refine ⟨rfl, ?_⟩
  have hml : a.length ≤ 140737488355328 := hda.1
  have hmb : b.length ≤ 140737488355328 := hdb.1
  refine sw_seq ?_
  refine sw_region hP 1 [] rfl (by kernel_rfl) (fun _ => by kernel_rfl) (by first | trivial | (simp [conj]; done) | (simp [conj] at *; (try dsimp only [Ty.den, Ty.dflt] at *); omega)) ?_
  refine sw_seq ?_
  refine sw_seq ?_
  refine sw_region hP 2 [] rfl (by kernel_rfl) (fun _ => by kernel_rfl) (by first | trivial | (simp [conj]; done) | (simp [conj] at *; (try dsimp only [Ty.den, Ty.dflt] at *); omega)) ?_
  refine sw_cond rfl (fun c1 => ?_) (fun c1 => ?_)
  · skip
    replace c1 : ¬ a.length = b.length := by simp at c1; omega
    refine sw_seq ?_
    refine sw_region hP 3 [] rfl (by kernel_rfl) (fun _ => by kernel_rfl) (by first | trivial | (simp [conj]; done) | (simp [conj] at *; (try dsimp only [Ty.den, Ty.dflt] at *); omega)) ?_
    refine sw_ret ⟨.inl rfl, _, rfl, ?_⟩
    exact (eq_len' c1).symm
  · skip
    replace c1 : a.length = b.length := by simp at c1; omega
    refine sw_skip ?_
    refine sw_seq ?_
    refine sw_seq ?_
    refine sw_region hP 3 [] rfl (by kernel_rfl) (fun _ => by kernel_rfl) (by first | trivial | (simp [conj]; done) | (simp [conj] at *; (try dsimp only [Ty.den, Ty.dflt] at *); omega)) ?_
    refine sw_block ?_
    refine sw_loop (ι := Nat) (fun i => ⟨[.v false [.d (.sl .str) (.all .b) a], .v false [.d (.sl .str) (.all .b) b], .junk, .junk, .junk, sInt .i64 (i : Int), .junk, .junk, .junk, .junk, .junk, .junk, .junk, .junk, .junk, .junk, .junk, .junk, .junk, .junk, .junk, .junk, .junk, .junk, .junk, .junk], [], 3, []⟩) (fun i => a.length - i) (fun i => i ≤ a.length ∧ decide (a.drop i = b.drop i) = decide (a = b)) 0 ⟨?_, ?_⟩ ?_
    · skip
      exact ⟨Nat.zero_le _, rfl⟩
    · refine ent_ok rfl ?_
      first | trivial | (simp [conj]; done) | (simp [conj] at *; (try dsimp only [Ty.den, Ty.dflt] at *); omega)
    · rintro i ⟨hi, hgo⟩
      refine sw_seq ?_
      refine sw_seq ?_
      refine sw_region hP 4 [] rfl (by kernel_rfl) (fun _ => by kernel_rfl) (by first | trivial | (simp [conj]; done) | (simp [conj] at *; (try dsimp only [Ty.den, Ty.dflt] at *); omega)) ?_
      refine sw_cond rfl (fun c4 => ?_) (fun c4 => ?_)
      · skip
        have hlt : i < a.length := by simpa using c4
        have hlt2 : i < b.length := by omega
        refine sw_skip ?_
        refine sw_seq ?_
        refine sw_block ?_
        refine sw_seq ?_
        refine sw_region hP 5 [] rfl (by kernel_rfl) (fun _ => by kernel_rfl) ?_ ?_
        · skip
          simp [conj, maxL]
          try dsimp only [Ty.den, Ty.dflt]
          try simp only [rd_eta]
          repeat' apply And.intro
          all_goals first | rfl | assumption | omega | trivial
        refine sw_cond rfl (fun c6 => ?_) (fun c6 => ?_)
        · skip
          replace c6 : ¬ a[i] = b[i] := by have h := c6; simp [List.getElem?_eq_getElem hlt, List.getElem?_eq_getElem hlt2] at h; first | exact h | (intro e; rw [e] at h; simp at h) | (intro e; exact h (by rw [e]) )
          refine sw_seq ?_
          refine sw_region hP 6 [] rfl (by kernel_rfl) (fun _ => by kernel_rfl) (by first | trivial | (simp [conj]; done) | (simp [conj] at *; (try dsimp only [Ty.den, Ty.dflt] at *); omega)) ?_
          refine sw_ret ⟨.inl rfl, _, rfl, ?_⟩
          exact (eq_hit' hlt hlt2 hgo c6).symm
        · skip
          replace c6 : a[i] = b[i] := by have h := c6; simp [List.getElem?_eq_getElem hlt, List.getElem?_eq_getElem hlt2] at h; first | exact h | exact Prod.ext h.1 (Prod.ext h.2.1 h.2.2)
          refine sw_skip ?_
          refine sw_region hP 6 [] rfl (by kernel_rfl) (fun _ => by kernel_rfl) (by first | trivial | (simp [conj]; done) | (simp [conj] at *; (try dsimp only [Ty.den, Ty.dflt] at *); omega)) ?_
          refine ⟨i + 1, ?_, ?_, ent_ok rfl ?_⟩
          · skip
            exact ⟨hlt, eq_next' hlt hlt2 hgo c6⟩
          · skip
            omega
          · skip
            simp [conj]
      · skip
        obtain rfl : i = a.length := by simp at c4; omega
        refine sw_exit ?_
        refine sw_seq ?_
        refine sw_region hP 5 [] rfl (by kernel_rfl) (fun _ => by kernel_rfl) (by first | trivial | (simp [conj]; done) | (simp [conj] at *; (try dsimp only [Ty.den, Ty.dflt] at *); omega)) ?_
        refine sw_ret ⟨.inl rfl, _, rfl, ?_⟩
        exact (eq_end' c1 hgo).symm

def cLDisk : Ctr := ⟨8, [.val true T_Disk (.all .b), .val true T_Disk (.all .b)], fun _ => True, fun x => (sBool (eqDV x.1 x.2.1), [])⟩
theorem cLDisk_ok : CtrOk Proofs.Try.prog cLDisk := by
  have hP := ((Prg.none ttok mtok).and cTexts_ok)
  refine ctr_of_body hP cLDisk (fn := Proofs.Try.f8) (rts := [.tmp 4]) Proofs.Try.func8 rfl (by kernel_rfl) rfl rfl ?_
  rintro ⟨⟨(st : Int), (sl : List Str), (rg : List Str), (sp : List Bool), (wt : List Put)⟩, ⟨(st2 : Int), (sl2 : List Str), (rg2 : List Str), (sp2 : List Bool), (wt2 : List Put)⟩, ⟨⟩⟩ ⟨⟨_, _, _, hsp0, hwt0⟩, _⟩ _
  try dsimp only [Ty.den, Mode.den, mdens] at _
  refine ⟨rfl, ?_⟩
  have hm1 : sp.length ≤ 140737488355328 := hsp0.1
  have hm2 : wt.length ≤ 140737488355328 := hwt0.1
  refine sw_seq ?_
  refine sw_region hP 1 [] rfl (by kernel_rfl) (fun _ => by kernel_rfl) (by first | trivial | (simp [conj]; done) | (simp [conj] at *; (try dsimp only [Ty.den, Ty.dflt] at *); omega)) ?_
  refine sw_seq ?_
  refine sw_seq ?_
  refine sw_dec hP 2 [] 5 rfl (fun g1_5 => ?_) (fun g1_5 => ?_)
  · skip
    replace g1_5 : ¬ st = st2 := by simpa using g1_5
    refine sw_region hP 2 [(5, true)] rfl (by kernel_rfl) (fun _ => by kernel_rfl) ?_ ?_
    · skip
      simp [conj]
      try trivial
      all_goals repeat' apply And.intro
      all_goals first | trivial | assumption | omega | (simp_all; done) | (simp_all; omega)
    refine sw_condT rfl ?_
    refine sw_seq ?_
    refine sw_region hP 3 [] rfl (by kernel_rfl) (fun _ => by kernel_rfl) (by first | trivial | (simp [conj]; done) | (simp [conj] at *; (try dsimp only [Ty.den, Ty.dflt] at *); omega)) ?_
    refine sw_ret ⟨.inl rfl, _, rfl, ?_⟩
    simp [conj, eqDV, *]
  · skip
    replace g1_5 : st = st2 := by simpa using g1_5
    refine sw_dec hP 2 [(5, false)] 13 rfl (fun g1_13 => ?_) (fun g1_13 => ?_)
    · skip
      replace g1_13 : ¬ sl = sl2 := by simpa using g1_13
      refine sw_region hP 2 [(5, false), (13, true)] rfl (by kernel_rfl) (fun _ => by kernel_rfl) ?_ ?_
      · skip
        simp [conj]
        try trivial
        all_goals repeat' apply And.intro
        all_goals first | trivial | assumption | omega | (simp_all; done) | (simp_all; omega)
      refine sw_condT rfl ?_
      refine sw_seq ?_
      refine sw_region hP 3 [] rfl (by kernel_rfl) (fun _ => by kernel_rfl) (by first | trivial | (simp [conj]; done) | (simp [conj] at *; (try dsimp only [Ty.den, Ty.dflt] at *); omega)) ?_
      refine sw_ret ⟨.inl rfl, _, rfl, ?_⟩
      simp [conj, eqDV, *]
    · skip
      replace g1_13 : sl = sl2 := by simpa using g1_13
      refine sw_dec hP 2 [(5, false), (13, false)] 21 rfl (fun g1_21 => ?_) (fun g1_21 => ?_)
      · skip
        replace g1_21 : ¬ rg = rg2 := by simpa using g1_21
        refine sw_region hP 2 [(5, false), (13, false), (21, true)] rfl (by kernel_rfl) (fun _ => by kernel_rfl) ?_ ?_
        · skip
          simp [conj]
          try trivial
          all_goals repeat' apply And.intro
          all_goals first | trivial | assumption | omega | (simp_all; done) | (simp_all; omega)
        refine sw_condT rfl ?_
        refine sw_seq ?_
        refine sw_region hP 3 [] rfl (by kernel_rfl) (fun _ => by kernel_rfl) (by first | trivial | (simp [conj]; done) | (simp [conj] at *; (try dsimp only [Ty.den, Ty.dflt] at *); omega)) ?_
        refine sw_ret ⟨.inl rfl, _, rfl, ?_⟩
        simp [conj, eqDV, *]
      · skip
        replace g1_21 : rg = rg2 := by simpa using g1_21
        refine sw_dec hP 2 [(5, false), (13, false), (21, false)] 30 rfl (fun g1_30 => ?_) (fun g1_30 => ?_)
        · skip
          replace g1_30 : ¬ sp.length = sp2.length := by have h := g1_30; simp at h; omega
          refine sw_region hP 2 [(5, false), (13, false), (21, false), (30, true)] rfl (by kernel_rfl) (fun _ => by kernel_rfl) ?_ ?_
          · skip
            simp [conj]
            try trivial
            all_goals repeat' apply And.intro
            all_goals first | trivial | assumption | omega | (simp_all; done) | (simp_all; omega)
          refine sw_condT rfl ?_
          refine sw_seq ?_
          refine sw_region hP 3 [] rfl (by kernel_rfl) (fun _ => by kernel_rfl) (by first | trivial | (simp [conj]; done) | (simp [conj] at *; (try dsimp only [Ty.den, Ty.dflt] at *); omega)) ?_
          refine sw_ret ⟨.inl rfl, _, rfl, ?_⟩
          have hv : ¬ sp = sp2 := fun e => g1_30 (by rw [e])
          simp [conj, eqDV, hv]
        · skip
          replace g1_30 : sp.length = sp2.length := by have h := g1_30; simp at h; omega
          refine sw_region hP 2 [(5, false), (13, false), (21, false), (30, false)] rfl (by kernel_rfl) (fun _ => by kernel_rfl) ?_ ?_
          · skip
            simp [conj]
            try trivial
            all_goals repeat' apply And.intro
            all_goals first | trivial | assumption | omega | (simp_all; done) | (simp_all; omega)
          refine sw_cond rfl (fun c1 => ?_) (fun c1 => ?_)
          · skip
            replace c1 : ¬ wt.length = wt2.length := by have h := c1; simp at h; omega
            refine sw_seq ?_
            refine sw_region hP 3 [] rfl (by kernel_rfl) (fun _ => by kernel_rfl) (by first | trivial | (simp [conj]; done) | (simp [conj] at *; (try dsimp only [Ty.den, Ty.dflt] at *); omega)) ?_
            refine sw_ret ⟨.inl rfl, _, rfl, ?_⟩
            have hv : ¬ wt = wt2 := fun e => c1 (by rw [e])
            simp [conj, eqDV, hv]
          · skip
            replace c1 : wt.length = wt2.length := by have h := c1; simp at h; omega
            refine sw_skip ?_
            refine sw_seq ?_
            refine sw_seq ?_
            refine sw_region hP 3 [] rfl (by kernel_rfl) (fun _ => by kernel_rfl) (by first | trivial | (simp [conj]; done) | (simp [conj] at *; (try dsimp only [Ty.den, Ty.dflt] at *); omega)) ?_
            refine sw_block ?_
            refine sw_loop (ι := Nat) (fun i => ⟨[.junk, .junk, .v false [.ptr ⟨1, 0, 0⟩ 0], .v false [.ptr ⟨1, 1, 0⟩ 0], .junk, sInt .i64 (i : Int), .junk, .junk, .junk, .junk, .junk, .junk, .junk, .junk, .junk, .junk, .junk, .junk, .junk, .junk, .junk, .junk, .junk, .junk, .junk, .junk, .junk, .junk, .junk, .junk, .junk, .junk, .junk, .junk, .junk, .junk, .junk, .junk, .junk, .junk, .junk, .junk, .junk, .junk, .junk, .junk, .junk, .junk, .junk, .junk, .junk, .junk, .junk, .junk, .junk, .junk, .junk, .junk, .junk, .junk, .junk, .junk, .junk, .junk, .junk, .junk, .junk, .junk, .junk, .junk, .junk, .junk, .junk, .junk, .junk, .junk, .junk, .junk, .junk, .junk, .junk, .junk], [(⟨1, 0, 0⟩, .var [.d TI pF st, .d (.sl .str) (.all .b) sl, .d (.sl .str) (.all .b) rg, .d (.sl .bool) (.all .b) sp, .d (.sl T_Put) (.all .b) wt]), (⟨1, 1, 0⟩, .var [.d TI pF st2, .d (.sl .str) (.all .b) sl2, .d (.sl .str) (.all .b) rg2, .d (.sl .bool) (.all .b) sp2, .d (.sl T_Put) (.all .b) wt2])], 3, []⟩) (fun i => sp.length - i) (fun i => i ≤ sp.length ∧ decide (sp.drop i = sp2.drop i) = decide (sp = sp2)) 0 ⟨?_, ?_⟩ ?_
            · skip
              exact ⟨Nat.zero_le _, rfl⟩
            · refine ent_ok rfl ?_
              first | trivial | (simp [conj]; done) | (simp [conj] at *; (try dsimp only [Ty.den, Ty.dflt] at *); omega)
            · rintro i ⟨hi, hgo⟩
              refine sw_seq ?_
              refine sw_seq ?_
              refine sw_region hP 4 [] rfl (by kernel_rfl) (fun _ => by kernel_rfl) (by first | trivial | (simp [conj]; done) | (simp [conj] at *; (try dsimp only [Ty.den, Ty.dflt] at *); omega)) ?_
              refine sw_cond rfl (fun c4 => ?_) (fun c4 => ?_)
              · skip
                have hlt : i < sp.length := by simpa using c4
                have hlt2 : i < sp2.length := by omega
                refine sw_skip ?_
                refine sw_seq ?_
                refine sw_block ?_
                refine sw_seq ?_
                refine sw_region hP 5 [] rfl (by kernel_rfl) (fun _ => by kernel_rfl) ?_ ?_
                · skip
                  simp [conj, List.getElem?_eq_getElem hlt, List.getElem?_eq_getElem hlt2]
                  try exact ⟨hlt, hlt2⟩
                refine sw_cond rfl (fun c6 => ?_) (fun c6 => ?_)
                · skip
                  replace c6 : ¬ sp[i] = sp2[i] := by simpa [List.getElem?_eq_getElem hlt, List.getElem?_eq_getElem hlt2] using c6
                  refine sw_seq ?_
                  refine sw_region hP 6 [] rfl (by kernel_rfl) (fun _ => by kernel_rfl) (by first | trivial | (simp [conj]; done) | (simp [conj] at *; (try dsimp only [Ty.den, Ty.dflt] at *); omega)) ?_
                  refine sw_ret ⟨.inl rfl, _, rfl, ?_⟩
                  have hv := eq_hit' hlt hlt2 hgo c6
                  replace hv : ¬ sp = sp2 := of_decide_eq_false hv
                  simp [conj, eqDV, hv]
                · skip
                  replace c6 : sp[i] = sp2[i] := by simpa [List.getElem?_eq_getElem hlt, List.getElem?_eq_getElem hlt2] using c6
                  refine sw_skip ?_
                  refine sw_region hP 6 [] rfl (by kernel_rfl) (fun _ => by kernel_rfl) (by first | trivial | (simp [conj]; done) | (simp [conj] at *; (try dsimp only [Ty.den, Ty.dflt] at *); omega)) ?_
                  refine ⟨i + 1, ?_, ?_, ent_ok rfl ?_⟩
                  · skip
                    exact ⟨hlt, eq_next' hlt hlt2 hgo c6⟩
                  · skip
                    omega
                  · skip
                    simp [conj]
              · skip
                obtain rfl : i = sp.length := by simp at c4; omega
                have hsp : sp = sp2 := of_decide_eq_true (eq_end' g1_30 hgo)
                refine sw_exit ?_
                refine sw_seq ?_
                refine sw_seq ?_
                refine sw_region hP 5 [] rfl (by kernel_rfl) (fun _ => by kernel_rfl) (by first | trivial | (simp [conj]; done) | (simp [conj] at *; (try dsimp only [Ty.den, Ty.dflt] at *); omega)) ?_
                refine sw_block ?_
                refine sw_loop (ι := Nat) (fun i => ⟨[.junk, .junk, .v false [.ptr ⟨1, 0, 0⟩ 0], .v false [.ptr ⟨1, 1, 0⟩ 0], .junk, .junk, sInt .i64 (i : Int), .junk, .junk, .junk, .junk, .junk, .junk, .junk, .junk, .junk, .junk, .junk, .junk, .junk, .junk, .junk, .junk, .junk, .junk, .junk, .junk, .junk, .junk, .junk, .junk, .junk, .junk, .junk, .junk, .junk, .junk, .junk, .junk, .junk, .junk, .junk, .junk, .junk, .junk, .junk, .junk, .junk, .junk, .junk, .junk, .junk, .junk, .junk, .junk, .junk, .junk, .junk, .junk, .junk, .junk, .junk, .junk, .junk, .junk, .junk, .junk, .junk, .junk, .junk, .junk, .junk, .junk, .junk, .junk, .junk, .junk, .junk, .junk, .junk, .junk, .junk], [(⟨1, 0, 0⟩, .var [.d TI pF st, .d (.sl .str) (.all .b) sl, .d (.sl .str) (.all .b) rg, .d (.sl .bool) (.all .b) sp, .d (.sl T_Put) (.all .b) wt]), (⟨1, 1, 0⟩, .var [.d TI pF st2, .d (.sl .str) (.all .b) sl2, .d (.sl .str) (.all .b) rg2, .d (.sl .bool) (.all .b) sp2, .d (.sl T_Put) (.all .b) wt2])], 5, []⟩) (fun i => wt.length - i) (fun i => i ≤ wt.length ∧ decide (wt.drop i = wt2.drop i) = decide (wt = wt2)) 0 ⟨?_, ?_⟩ ?_
                · skip
                  exact ⟨Nat.zero_le _, rfl⟩
                · refine ent_ok rfl ?_
                  first | trivial | (simp [conj]; done) | (simp [conj] at *; (try dsimp only [Ty.den, Ty.dflt] at *); omega)
                · rintro i ⟨hi, hgo⟩
                  refine sw_seq ?_
                  refine sw_seq ?_
                  refine sw_region hP 6 [] rfl (by kernel_rfl) (fun _ => by kernel_rfl) (by first | trivial | (simp [conj]; done) | (simp [conj] at *; (try dsimp only [Ty.den, Ty.dflt] at *); omega)) ?_
                  refine sw_cond rfl (fun c9 => ?_) (fun c9 => ?_)
                  · skip
                    have hlt : i < wt.length := by simpa using c9
                    have hlt2 : i < wt2.length := by omega
                    refine sw_skip ?_
                    refine sw_seq ?_
                    refine sw_block ?_
                    refine sw_seq ?_
                    refine sw_region hP 7 [] rfl (by kernel_rfl) (fun _ => by kernel_rfl) ?_ ?_
                    · skip
                      simp [conj, List.getElem?_eq_getElem hlt, List.getElem?_eq_getElem hlt2]
                      try exact ⟨hlt, hlt2⟩
                    refine sw_cond rfl (fun c11 => ?_) (fun c11 => ?_)
                    · skip
                      replace c11 : ¬ wt[i] = wt2[i] := by intro e; simp [List.getElem?_eq_getElem hlt, List.getElem?_eq_getElem hlt2, e] at c11
                      refine sw_seq ?_
                      refine sw_region hP 8 [] rfl (by kernel_rfl) (fun _ => by kernel_rfl) (by first | trivial | (simp [conj]; done) | (simp [conj] at *; (try dsimp only [Ty.den, Ty.dflt] at *); omega)) ?_
                      refine sw_ret ⟨.inl rfl, _, rfl, ?_⟩
                      have hv := eq_hit' hlt hlt2 hgo c11
                      replace hv : ¬ wt = wt2 := of_decide_eq_false hv
                      simp [conj, eqDV, hv]
                    · skip
                      replace c11 : wt[i] = wt2[i] := by have h := c11; simp [List.getElem?_eq_getElem hlt, List.getElem?_eq_getElem hlt2] at h; exact Prod.ext h.1 (Prod.ext h.2.1 h.2.2)
                      refine sw_skip ?_
                      refine sw_region hP 8 [] rfl (by kernel_rfl) (fun _ => by kernel_rfl) (by first | trivial | (simp [conj]; done) | (simp [conj] at *; (try dsimp only [Ty.den, Ty.dflt] at *); omega)) ?_
                      refine ⟨i + 1, ?_, ?_, ent_ok rfl ?_⟩
                      · skip
                        exact ⟨hlt, eq_next' hlt hlt2 hgo c11⟩
                      · skip
                        omega
                      · skip
                        simp [conj]
                  · skip
                    obtain rfl : i = wt.length := by simp at c9; omega
                    have hwt : wt = wt2 := of_decide_eq_true (eq_end' c1 hgo)
                    refine sw_exit ?_
                    refine sw_seq ?_
                    refine sw_region hP 7 [] rfl (by kernel_rfl) (fun _ => by kernel_rfl) (by first | trivial | (simp [conj]; done) | (simp [conj] at *; (try dsimp only [Ty.den, Ty.dflt] at *); omega)) ?_
                    refine sw_ret ⟨.inl rfl, _, rfl, ?_⟩
                    simp [conj, eqDV, *]

def cOpen : Ctr := ⟨22, [.val false TB pF], fun _ => True, fun x => (.v false [.ptr ⟨1, 0, 0⟩ 0], [(⟨1, 0, 0⟩, rdA (List.take 2000 x.1, 0))])⟩
theorem cOpen_ok : CtrOk Proofs.Try.prog cOpen := by
  have hP := (Prg.none ttok mtok)
  refine ctr_of_body hP cOpen (fn := Proofs.Try.f22) (rts := [.tmp 2]) Proofs.Try.func22 rfl (by kernel_rfl) rfl rfl ?_
  rintro ⟨(code : List Int), ⟨⟩⟩ hd hpre
  try dsimp only [Ty.den, Mode.den, mdens] at hpre
  refine ⟨rfl, ?_⟩
  refine sw_seq ?_
  refine sw_region hP 1 [] rfl (by kernel_rfl) (fun _ => by kernel_rfl) (by first | trivial | (simp [conj]; done) | (simp [conj] at *; (try dsimp only [Ty.den, Ty.dflt] at *); omega)) ?_
  refine sw_seq ?_
  refine sw_seq ?_
  refine sw_region hP 2 [] rfl (by kernel_rfl) (fun _ => by kernel_rfl) (by first | trivial | (simp [conj]; done) | (simp [conj] at *; (try dsimp only [Ty.den, Ty.dflt] at *); omega)) ?_
  refine sw_cond rfl (fun c1 => ?_) (fun c1 => ?_)
  · skip
    refine sw_region hP 3 [] rfl (by kernel_rfl) (fun _ => by kernel_rfl) (by first | trivial | (simp [conj]; done) | (simp [conj] at *; (try dsimp only [Ty.den, Ty.dflt] at *); omega)) ?_
    refine sw_seq ?_
    refine sw_region hP 4 [] rfl (by kernel_rfl) (fun _ => by kernel_rfl) (by first | trivial | (simp [conj]; done) | (simp [conj] at *; (try dsimp only [Ty.den, Ty.dflt] at *); omega)) ?_
    refine sw_ret ⟨.inl rfl, _, rfl, ?_⟩
    simp [conj] at *
    try (rw [List.take_of_length_le (by omega)])
  · skip
    refine sw_skip ?_
    refine sw_seq ?_
    refine sw_region hP 3 [] rfl (by kernel_rfl) (fun _ => by kernel_rfl) (by first | trivial | (simp [conj]; done) | (simp [conj] at *; (try dsimp only [Ty.den, Ty.dflt] at *); omega)) ?_
    refine sw_ret ⟨.inl rfl, _, rfl, ?_⟩
    simp [conj] at *
    try (rw [List.take_of_length_le (by omega)])

def cPick : Ctr := ⟨24, [.ref T_l6Rd pF, .val false TI pF], fun x => ROk x.1 1, fun x => (sInt .i64 (pk x.1 x.2.1), [(⟨0, 0, 0⟩, rdA (nx x.1))])⟩
theorem cPick_ok : CtrOk Proofs.Try.prog cPick := by
  have hP := (Prg.none ttok mtok)
  refine ctr_of_body hP cPick (fn := Proofs.Try.f24) (rts := [.tmp 4]) Proofs.Try.func24 rfl (by kernel_rfl) rfl rfl ?_
  rintro ⟨⟨(b : List Int), (p : Int)⟩, (n : Int), ⟨⟩⟩ hd hpre
  try dsimp only [Ty.den, Mode.den, mdens] at hpre
  refine ⟨rfl, ?_⟩
  have h0 : 0 ≤ p := hpre.p0
  have h1 : p + 1 ≤ 1099511627776 := hpre.p1
  have hl : b.length ≤ 2000 := hpre.len
  have hb : BOk b := hpre.b
  refine sw_seq ?_
  refine sw_region hP 1 [] rfl (by kernel_rfl) (fun _ => by kernel_rfl) (by first | trivial | (simp [conj]; done) | (simp [conj] at *; (try dsimp only [Ty.den, Ty.dflt] at *); omega)) ?_
  refine sw_seq ?_
  refine sw_region hP 2 [] rfl (by kernel_rfl) (fun _ => by kernel_rfl) (by first | trivial | (simp [conj]; done) | (simp [conj] at *; (try dsimp only [Ty.den, Ty.dflt] at *); omega)) ?_
  refine sw_seq ?_
  refine sw_seq ?_
  refine sw_dec hP 3 [] 2 rfl (fun g2_2 => ?_) (fun g2_2 => ?_)
  · skip
    refine sw_region hP 3 [(2, true)] rfl (by kernel_rfl) (fun _ => by kernel_rfl) (by first | trivial | (simp [conj]; done) | (simp [conj] at *; (try dsimp only [Ty.den, Ty.dflt] at *); omega)) ?_
    refine sw_condT rfl ?_
    refine sw_seq ?_
    refine sw_region hP 4 [] rfl (by kernel_rfl) (fun _ => by kernel_rfl) (by first | trivial | (simp [conj]; done) | (simp [conj] at *; (try dsimp only [Ty.den, Ty.dflt] at *); omega)) ?_
    refine sw_ret ⟨.inl rfl, _, rfl, ?_⟩
    simp [conj, maxL] at *
    try dsimp only [Ty.den, Ty.dflt] at *
    try simp only [rd_eta] at *
    simp [pk, pickV, nx, pickX]
    first | omega | (intros; omega) | (intro _ hh; exact absurd c2 hh) | (rw [if_neg (by omega)]; first | (rw [if_neg c2, if_pos c5]; done) | (rw [if_neg c2, if_neg (by omega)]; done) | (intros; simp_all; done))
  · skip
    refine sw_region hP 3 [(2, false)] rfl (by kernel_rfl) (fun _ => by kernel_rfl) (by first | trivial | (simp [conj]; done) | (simp [conj] at *; (try dsimp only [Ty.den, Ty.dflt] at *); omega)) ?_
    refine sw_cond rfl (fun c2 => ?_) (fun c2 => ?_)
    · skip
      refine sw_seq ?_
      refine sw_region hP 4 [] rfl (by kernel_rfl) (fun _ => by kernel_rfl) (by first | trivial | (simp [conj]; done) | (simp [conj] at *; (try dsimp only [Ty.den, Ty.dflt] at *); omega)) ?_
      refine sw_ret ⟨.inl rfl, _, rfl, ?_⟩
      simp [conj, maxL] at *
      try dsimp only [Ty.den, Ty.dflt] at *
      try simp only [rd_eta] at *
      simp [pk, pickV, nx, pickX]
      first | omega | (intros; omega) | (intro _ hh; exact absurd c2 hh) | (rw [if_neg (by omega)]; first | (rw [if_neg c2, if_pos c5]; done) | (rw [if_neg c2, if_neg (by omega)]; done) | (intros; simp_all; done))
    · skip
      refine sw_skip ?_
      refine sw_seq ?_
      refine sw_region hP 4 [] rfl (by kernel_rfl) (fun _ => by kernel_rfl) (by first | trivial | (simp [conj]; done) | (simp [conj] at *; (try dsimp only [Ty.den, Ty.dflt] at *); omega)) ?_
      refine sw_seq ?_
      refine sw_seq ?_
      refine sw_region hP 5 [] rfl (by kernel_rfl) (fun _ => by kernel_rfl) (by first | trivial | (simp [conj]; done) | (simp [conj] at *; (try dsimp only [Ty.den, Ty.dflt] at *); omega)) ?_
      refine sw_cond rfl (fun c5 => ?_) (fun c5 => ?_)
      · skip
        refine sw_seq ?_
        refine sw_region hP 6 [] rfl (by kernel_rfl) (fun _ => by kernel_rfl) ?_ ?_
        · skip
          simp [conj] at *
          dsimp only [Ty.den, Ty.dflt] at *
          have := getD_b' hb p.toNat
          omega
        refine sw_ret ⟨.inl rfl, _, rfl, ?_⟩
        simp [conj, maxL] at *
        try dsimp only [Ty.den, Ty.dflt] at *
        try simp only [rd_eta] at *
        simp [pk, pickV, nx, pickX]
        first | omega | (intros; omega) | (intro _ hh; exact absurd c2 hh) | (rw [if_neg (by omega)]; first | (rw [if_neg c2, if_pos c5]; done) | (rw [if_neg c2, if_neg (by omega)]; done) | (intros; simp_all; done))
      · skip
        refine sw_skip ?_
        refine sw_seq ?_
        refine sw_region hP 6 [] rfl (by kernel_rfl) (fun _ => by kernel_rfl) ?_ ?_
        · skip
          simp [conj] at *
          dsimp only [Ty.den, Ty.dflt] at *
          have hlp : 0 < b.length := List.length_pos_iff.2 c2
          have a1 := getD_b' hb (Int.tmod p b.length).toNat
          have a2 := getD_b' hb (Int.tmod (p * 7 + 3) b.length).toNat
          have a3 := tmod_ix (a := p) (n := b.length) h0 (by omega)
          have a4 := tmod_ix (a := p * 7 + 3) (n := b.length) (by omega) (by omega)
          have a5 : 0 ≤ Int.tdiv p b.length ∧ Int.tdiv p b.length ≤ p := ⟨Int.tdiv_nonneg h0 (by omega), Int.tdiv_le_self _ h0⟩
          repeat' apply And.intro
          all_goals first | assumption | omega
        refine sw_seq ?_
        refine sw_region hP 7 [] rfl (by kernel_rfl) (fun _ => by kernel_rfl) ?_ ?_
        · skip
          have a5 := pickX_bd hpre (by omega)
          simp only [pickX, List.getD_eq_getElem?_getD] at a5
          have a6 : 0 ≤ (pickX b p).tdiv 64 ∧ (pickX b p).tdiv 64 ≤ pickX b p := ⟨Int.tdiv_nonneg a5.1 (by omega), Int.tdiv_le_self _ a5.1⟩
          simp only [pickX, List.getD_eq_getElem?_getD] at a6
          simp [conj] at *
          dsimp only [Ty.den, Ty.dflt] at *
          omega
        refine sw_seq ?_
        refine sw_region hP 8 [] rfl (by kernel_rfl) (fun _ => by kernel_rfl) (by first | trivial | (simp [conj]; done) | (simp [conj] at *; (try dsimp only [Ty.den, Ty.dflt] at *); omega)) ?_
        refine sw_ret ⟨.inl rfl, _, rfl, ?_⟩
        simp [conj, maxL] at *
        try dsimp only [Ty.den, Ty.dflt] at *
        try simp only [rd_eta] at *
        simp [pk, pickV, nx, pickX]
        first | omega | (intros; omega) | (intro _ hh; exact absurd c2 hh) | (rw [if_neg (by omega)]; first | (rw [if_neg c2, if_pos c5]; done) | (rw [if_neg c2, if_neg (by omega)]; done) | (intros; simp_all; done))

def cText : Ctr := ⟨70, [.ref T_l6Rd pF, .val false TI pF], fun x => ROk x.1 (2 * x.2.1 + 3) ∧ 0 ≤ x.2.1 ∧ x.2.1 ≤ 1000, fun x => (sStr (textV x.1 x.2.1), [(⟨0, 0, 0⟩, rdA (textR x.1 x.2.1))])⟩
theorem cText_ok : CtrOk Proofs.Try.prog cText := by
  have hP := ((Prg.none ttok mtok).and cPick_ok)
  refine ctr_of_body hP cText (fn := Proofs.Try.f70) (rts := [.tmp 4]) Proofs.Try.func70 rfl (by kernel_rfl) rfl rfl ?_
  rintro ⟨(r : Rd), (most : Int), ⟨⟩⟩ hd ⟨hr, h0, h1⟩
  try dsimp only [Ty.den, Mode.den, mdens] at hr
  try dsimp only [Ty.den, Mode.den, mdens] at h0
  try dsimp only [Ty.den, Mode.den, mdens] at h1
  refine ⟨rfl, ?_⟩
  have hn := pk_bd hr (by omega) (n := most + 1) (by omega)
  refine sw_seq ?_
  refine sw_region hP 1 [] rfl (by kernel_rfl) (fun _ => by kernel_rfl) (by first | trivial | (simp [conj]; done) | (simp [conj] at *; (try dsimp only [Ty.den, Ty.dflt] at *); omega)) ?_
  refine sw_seq ?_
  refine sw_region hP 2 [] rfl (by kernel_rfl) (fun _ => by kernel_rfl) (by first | trivial | (simp [conj]; done) | (simp [conj] at *; (try dsimp only [Ty.den, Ty.dflt] at *); omega)) ?_
  refine sw_seq ?_
  refine sw_seq ?_
  refine sw_region hP 3 [] rfl (by kernel_rfl) (fun _ => by kernel_rfl) ?_ ?_
  · skip
    simp [conj]
    exact ⟨by omega, hr.le (by omega)⟩
  refine sw_block ?_
  refine sw_loop (ι := Nat × Rd × List Int) (fun ⟨k, R, out⟩ => ⟨[.v false [.ptr ⟨0, 0, 0⟩ 0], .junk, .junk, .junk, .junk, .v false [.own ⟨0, 9, 0⟩], sInt .i64 (k : Int), .junk, .junk, .junk, .junk, .junk, .junk, .junk, .junk, .junk, .junk, .junk, .junk, .junk, .junk, .junk, .junk, .junk, .junk, .junk, .junk, .junk, .junk, .junk], [(⟨0, 0, 0⟩, rdA R), (⟨0, 9, 0⟩, .sl (.int .u8) pF out)], 3, [[.v false [.ptr ⟨0, 0, 0⟩ 0], .junk]]⟩) (fun ⟨k, R, out⟩ => k) (fun ⟨k, R, out⟩ => ROk R (2 * k + 1) ∧ textGo k R out = textGo (pk r (most + 1)).toNat (nx r) [] ∧ out.length + k ≤ 1001) ((pk r (most + 1)).toNat, nx r, []) ⟨?_, ?_⟩ ?_
  · skip
    refine ⟨hr.nx (by omega), rfl, ?_⟩
    simp; omega
  · refine ent_ok rfl ?_
    simp [conj, maxL]
    try dsimp only [Ty.den, Ty.dflt]
    try simp only [rd_eta]
    omega
  · rintro ⟨k, R, out⟩ ⟨hR, hgo, hlen⟩
    refine sw_seq ?_
    refine sw_seq ?_
    refine sw_region hP 4 [] rfl (by kernel_rfl) (fun _ => by kernel_rfl) (by first | trivial | (simp [conj]; done) | (simp [conj] at *; (try dsimp only [Ty.den, Ty.dflt] at *); omega)) ?_
    refine sw_cond rfl (fun c3 => ?_) (fun c3 => ?_)
    · skip
      obtain ⟨k, rfl⟩ : ∃ m, k = m + 1 := ⟨k - 1, by simp at c3; omega⟩
      refine sw_skip ?_
      refine sw_seq ?_
      refine sw_block ?_
      refine sw_region hP 5 [] rfl (by kernel_rfl) (fun _ => by kernel_rfl) ?_ ?_
      · skip
        have ha := pk_bd hR (by omega) (n := 6) (by omega)
        have hR1 : ROk (nx R) (2 * k + 2) := hR.nx (by omega)
        have hb := pk_bd hR1 (by omega) (n := 3) (by omega)
        have hb2 : pk (nx R) 3 ≤ 255 := by omega
        simp [conj, maxL]
        try dsimp only [Ty.den, Ty.dflt]
        try simp only [rd_eta]
        repeat' apply And.intro
        all_goals first | assumption | omega | exact hR.le (by omega) | exact hR1.le (by omega) | exact hb.1 | exact hb2 | exact ha.1 | exact ha.2
      refine sw_region hP 6 [] rfl (by kernel_rfl) (fun _ => by kernel_rfl) (by first | trivial | (simp [conj]; done) | (simp [conj] at *; (try dsimp only [Ty.den, Ty.dflt] at *); omega)) ?_
      refine ⟨(k, nx (nx R), out ++ [(([97, 98, 122, 0, 255, 128] : List Int).getD (pk R 6).toNat 0 + pk (nx R) 3) % 256]), ?_, ?_, ent_ok rfl ?_⟩
      · skip
        exact ⟨(hR.nx (m' := 2 * k + 2) (by omega)).nx (by omega), hgo, by simp; omega⟩
      · skip
        exact Nat.lt_succ_self k
      · skip
        simp [conj, maxL]
        try dsimp only [Ty.den, Ty.dflt]
        try simp only [rd_eta]
        try rfl
    · skip
      refine sw_exit ?_
      refine sw_seq ?_
      refine sw_region hP 5 [] rfl (by kernel_rfl) (fun _ => by kernel_rfl) (by first | trivial | (simp [conj]; done) | (simp [conj] at *; (try dsimp only [Ty.den, Ty.dflt] at *); omega)) ?_
      refine sw_ret ⟨.inl rfl, _, rfl, ?_⟩
      obtain rfl : k = 0 := by simp at c3; omega
      simp only [textGo] at hgo
      simp [conj, textV, textR, ← hgo]

def cSec : Ctr := ⟨71, [.val false .str pF], fun _ => True, fun x => (sStr (secT x.1), [])⟩
theorem cSec_ok : CtrOk Proofs.Try.prog cSec := by
  have hP := (Prg.none ttok mtok)
  refine ctr_of_body hP cSec (fn := Proofs.Try.f71) (rts := [.tmp 2]) Proofs.Try.func71 rfl (by kernel_rfl) rfl rfl ?_
  rintro ⟨(s0 : Str), ⟨⟩⟩ ⟨hds, _⟩ _
  try dsimp only [Ty.den, Mode.den, mdens] at _
  refine ⟨rfl, ?_⟩
  have hml : s0.length ≤ 140737488355328 := hds
  refine sw_seq ?_
  refine sw_region hP 1 [] rfl (by kernel_rfl) (fun _ => by kernel_rfl) (by first | trivial | (simp [conj]; done) | (simp [conj] at *; (try dsimp only [Ty.den, Ty.dflt] at *); omega)) ?_
  refine sw_seq ?_
  refine sw_block ?_
  refine sw_loop (ι := Str) (fun s => ⟨[sStr s, .junk, .junk, .junk, .junk, .junk, .junk, .junk, .junk, .junk], [], 1, []⟩) (fun s => 3 - s.length) (fun s => secT s = secT s0 ∧ s.length ≤ 140737488355328) s0 ⟨?_, ?_⟩ ?_
  · skip
    exact ⟨rfl, hml⟩
  · refine ent_ok rfl ?_
    simp [conj]
  · rintro s ⟨hgo, hl⟩
    refine sw_seq ?_
    refine sw_seq ?_
    refine sw_region hP 2 [] rfl (by kernel_rfl) (fun _ => by kernel_rfl) (by first | trivial | (simp [conj]; done) | (simp [conj] at *; (try dsimp only [Ty.den, Ty.dflt] at *); omega)) ?_
    refine sw_cond rfl (fun c1 => ?_) (fun c1 => ?_)
    · skip
      have hlt : s.length < 3 := by simp at c1; omega
      refine sw_skip ?_
      refine sw_block ?_
      refine sw_region hP 3 [] rfl (by kernel_rfl) (fun _ => by kernel_rfl) ?_ ?_
      · skip
        simp [conj, maxL, bytesL]
        omega
      refine ⟨s ++ [0], ?_, ?_, ent_ok rfl ?_⟩
      · skip
        exact ⟨by rw [secT_next hlt, hgo], by simp; omega⟩
      · skip
        show 3 - (s ++ [0]).length < 3 - s.length
        simp; omega
      · skip
        simp [conj, bytesL]
    · skip
      have hge : ¬ s.length < 3 := by simp at c1; omega
      refine sw_exit ?_
      refine sw_seq ?_
      refine sw_region hP 3 [] rfl (by kernel_rfl) (fun _ => by kernel_rfl) ?_ ?_
      · skip
        simp [conj]
        omega
      refine sw_ret ⟨.inl rfl, _, rfl, ?_⟩
      rw [← hgo, secT_end hge]
      simp [conj]

def cDPutG : Ctr := ⟨34, [.ref T_l6Rd pF], fun x => ROk x.1 20, fun x => (.v true [.d .bool pF (putG x.1).1, .d TI pF (putG x.1).2.1, .d .str pF (putG x.1).2.2], [(⟨0, 0, 0⟩, rdA (putQ x.1))])⟩
theorem cDPutG_ok : CtrOk Proofs.Try.prog cDPutG := by
  have hP := ((((Prg.none ttok mtok).and cPick_ok).and cText_ok).and cSec_ok)
  refine ctr_of_body hP cDPutG (fn := Proofs.Try.f34) (rts := [.cell 2 33]) Proofs.Try.func34 rfl (by kernel_rfl) rfl rfl ?_
  rintro ⟨(r : Rd), ⟨⟩⟩ _ hpre
  try dsimp only [Ty.den, Mode.den, mdens] at hpre
  refine ⟨rfl, ?_⟩
  replace hpre : ROk r 20 := hpre
  refine sw_seq ?_
  refine sw_region hP 1 [] rfl (by kernel_rfl) (fun _ => by kernel_rfl) (by first | trivial | (simp [conj]; done) | (simp [conj] at *; (try dsimp only [Ty.den, Ty.dflt] at *); omega)) ?_
  refine sw_seq ?_
  refine sw_seq ?_
  refine sw_region hP 2 [] rfl (by kernel_rfl) (fun _ => by kernel_rfl) ?_ ?_
  · skip
    simp [conj]
    exact hpre.le (m' := 1) (by omega)
  refine sw_cond rfl (fun c1 => ?_) (fun c1 => ?_)
  · skip
    replace c1 : pk r 4 = 0 := by have h := c1; simpa using h
    have h1 : ROk (nx r) 19 := hpre.nx (by omega)
    have h2 : ROk (nx (nx r)) 18 := h1.nx (by omega)
    have hg : putG r = (true, pk (nx r) 2, textV (nx (nx r)) 6) := by unfold putG; rw [if_pos c1]
    have hR : putQ r = textR (nx (nx r)) 6 := by unfold putQ; rw [if_pos c1]
    refine sw_seq ?_
    refine sw_region hP 3 [] rfl (by kernel_rfl) (fun _ => by kernel_rfl) ?_ ?_
    · skip
      simp [conj]
      exact ⟨h1.le (m' := 1) (by omega), h2.le (m' := 2 * 6 + 3) (by omega), by show (0 : Int) ≤ 6; decide, by show (6 : Int) ≤ 1000; decide⟩
    refine sw_ret ⟨.inl rfl, _, rfl, ?_⟩
    rw [hg, hR]
    simp [conj]
  · skip
    replace c1 : ¬ pk r 4 = 0 := by have h := c1; simpa using h
    have h1 : ROk (nx r) 19 := hpre.nx (by omega)
    have h2 : ROk (nx (nx r)) 18 := h1.nx (by omega)
    have hg : putG r = (false, pk (nx r) 12, secT (textV (nx (nx r)) 3)) := by unfold putG; rw [if_neg c1]
    have hR : putQ r = textR (nx (nx r)) 3 := by unfold putQ; rw [if_neg c1]
    refine sw_skip ?_
    refine sw_seq ?_
    refine sw_region hP 3 [] rfl (by kernel_rfl) (fun _ => by kernel_rfl) ?_ ?_
    · skip
      simp [conj]
      exact ⟨⟨h1.le (m' := 1) (by omega), h2.le (m' := 2 * 3 + 3) (by omega), by show (0 : Int) ≤ 3; decide, by show (3 : Int) ≤ 1000; decide⟩, trivial⟩
    refine sw_ret ⟨.inl rfl, _, rfl, ?_⟩
    rw [hg, hR]
    simp [conj]

def cDraw : Ctr := ⟨23, [.ref T_l6Rd pF], fun x => ROk x.1 3000, fun x => (.v true [.d TI pF (drawD x.1).1, .own ⟨1, 0, 0⟩, .own ⟨1, 1, 0⟩, .own ⟨1, 2, 0⟩, .own ⟨1, 3, 0⟩], [(⟨0, 0, 0⟩, rdA (drawR x.1)), (⟨1, 0, 0⟩, .sl .str (.all .w) (drawD x.1).2.1), (⟨1, 1, 0⟩, .sl .str (.all .w) (drawD x.1).2.2.1), (⟨1, 2, 0⟩, .sl .bool (.all .w) (drawD x.1).2.2.2.1), (⟨1, 3, 0⟩, .sl T_Put (.all .w) (drawD x.1).2.2.2.2)])⟩
theorem cDraw_ok : CtrOk Proofs.Try.prog cDraw := by
  have hP := (((((((Prg.none ttok mtok).and cPick_ok).and cDPutG_ok).and cNewS_ok).and cFlushS_ok).and cWriteS_ok).and cSpoil_ok)
  refine ctr_of_body hP cDraw (fn := Proofs.Try.f23) (rts := [.cell 2 27]) Proofs.Try.func23 rfl (by kernel_rfl) rfl rfl ?_
  rintro ⟨(r : Rd), ⟨⟩⟩ _ hpre
  try dsimp only [Ty.den, Mode.den, mdens] at hpre
  refine ⟨rfl, ?_⟩
  replace hpre : ROk r 3000 := hpre
  have hb0 := pk_bd hpre (by omega) (n := 4) (by omega)
  have hr1 : ROk (nx r) 2999 := hpre.nx (by omega)
  have hr2 : ROk (nx (nx r)) 2998 := hr1.nx (by omega)
  have hb1 := pk_bd hr1 (by omega) (n := 12) (by omega)
  have hsS := drawS_bd (r := r)
  refine sw_seq ?_
  refine sw_region hP 1 [] rfl (by kernel_rfl) (fun _ => by kernel_rfl) (by first | trivial | (simp [conj]; done) | (simp [conj] at *; (try dsimp only [Ty.den, Ty.dflt] at *); omega)) ?_
  refine sw_seq ?_
  refine sw_region hP 2 [] rfl (by kernel_rfl) (fun _ => by kernel_rfl) ?_ ?_
  · skip
    simp only [conj, List.nil_append, List.cons_append, List.append_nil, List.append_assoc, inR_i64, true_and, and_true, Int.toNat_natCast]
    try dsimp only [Ty.den, Ty.dflt]
    repeat' apply And.intro
    all_goals first | trivial | omega | exact hpre.le (m' := 1) (by omega) | exact hb0.1 | exact hb0.2 | (show (pk r 4).toNat < 4; omega) | exact hsS.1 | exact hsS.2
  refine sw_seq ?_
  refine sw_seq ?_
  refine sw_region hP 3 [] rfl (by kernel_rfl) (fun _ => by kernel_rfl) ?_ ?_
  · skip
    simp only [conj, List.nil_append, List.cons_append, List.append_nil, List.append_assoc, inR_i64, true_and, and_true, Int.toNat_natCast]
    try dsimp only [Ty.den, Ty.dflt]
    repeat' apply And.intro
    all_goals first | trivial | omega | exact hr1.le (m' := 1) (by omega)
  refine sw_block ?_
  refine sw_loop (ι := Nat × Dsk × Rd) (fun ⟨k, d, R⟩ => ⟨[.v false [.ptr ⟨0, 0, 0⟩ 0], .junk, .v false [.ptr ⟨1, 0, 0⟩ 0], .v false [.ptr ⟨0, 9, 0⟩ 0], sInt .i64 (k : Int), .junk, .junk, .junk, .junk, .junk, .junk, .junk, .junk, .junk, .junk, .junk, .junk, .junk, .junk, .junk, .junk, .junk, .junk, .junk, .junk, .junk, .junk, .junk, .junk, .junk, .junk, .junk, .junk, .junk, .junk, .junk, .junk, .junk, .junk, .junk, .junk, .junk, .junk, .junk, .junk, .junk, .junk, .junk, .junk, .junk, .junk, .junk, .junk, .junk, .junk, .junk, .junk, .junk, .junk, .junk, .junk, .junk, .junk, .junk, .junk, .junk, .junk, .junk, .junk, .junk, .junk, .junk, .junk, .junk, .junk, .junk, .junk, .junk, .junk, .junk, .junk, .junk, .junk, .junk, .junk, .junk, .junk, .junk, .junk, .junk, .junk, .junk, .junk], [(⟨0, 0, 0⟩, rdA R), (⟨0, 9, 0⟩, .var [.d TI pF d.1, .own ⟨0, 9, 1⟩, .own ⟨0, 9, 2⟩, .own ⟨0, 9, 3⟩, .own ⟨0, 9, 4⟩]), (⟨0, 9, 1⟩, .sl .str (.all .w) d.2.1), (⟨0, 9, 2⟩, .sl .str (.all .w) d.2.2.1), (⟨0, 9, 3⟩, .sl .bool (.all .w) d.2.2.2.1), (⟨0, 9, 4⟩, .sl T_Put (.all .w) d.2.2.2.2), (⟨1, 0, 0⟩, .var [.d TI pF 0, .nils, .nils, .nils, .nils])], 3, [[.v false [.ptr ⟨0, 0, 0⟩ 0]]]⟩) (fun ⟨k, d, R⟩ => k) (fun ⟨k, d, R⟩ => DrOk d ∧ ROk R (30 * k + 2000) ∧ k ≤ 12 ∧ loopG k d R = drawL r) ((pk (nx r) 12).toNat, newD (drawS r), nx (nx r)) ⟨?_, ?_⟩ ?_
  · skip
    exact ⟨newD_ok, hr2.le (by omega), by omega, rfl⟩
  · refine ent_ok rfl ?_
    simp only [conj, List.nil_append, List.cons_append, List.append_nil, List.append_assoc, inR_i64, true_and, and_true, Int.toNat_natCast]
    try dsimp only [Ty.den, Ty.dflt]
    repeat' apply And.intro
    all_goals first | trivial | omega | rfl | exact (Int.toNat_of_nonneg hb1.1).symm | exact Int.toNat_of_nonneg hb1.1
  · rintro ⟨k, d, R⟩ ⟨hd, hR, hk, hgo⟩
    refine sw_seq ?_
    refine sw_seq ?_
    refine sw_region hP 4 [] rfl (by kernel_rfl) (fun _ => by kernel_rfl) (by first | trivial | (simp [conj]; done) | (simp [conj] at *; (try dsimp only [Ty.den, Ty.dflt] at *); omega)) ?_
    refine sw_cond rfl (fun c3 => ?_) (fun c3 => ?_)
    · skip
      obtain ⟨k, rfl⟩ : ∃ m, k = m + 1 := ⟨k - 1, by simp at c3; omega⟩
      have hput := putG_ok hR (by omega)
      have hw1 : DrOk (stD1 d R) := write_DrOk hd hput
      have hR1 : ROk (putQ R) (30 * k + 2010) := putQ_ok hR (by omega) (by omega)
      have hR2 : ROk (nx (putQ R)) (30 * k + 2009) := hR1.nx (by omega)
      refine sw_skip ?_
      refine sw_seq ?_
      refine sw_block ?_
      refine sw_seq ?_
      refine sw_region hP 5 [] rfl (by kernel_rfl) (fun _ => by kernel_rfl) ?_ ?_
      · skip
        simp only [conj, List.nil_append, List.cons_append, List.append_nil, List.append_assoc, inR_i64, true_and, and_true, Int.toNat_natCast]
        try dsimp only [Ty.den, Ty.dflt]
        repeat' apply And.intro
        all_goals first | trivial | omega | exact hR.le (m' := 20) (by omega) | exact hd.drv.1 | exact hd.drv.2.1 | exact hd.drv.2.2 | exact hd.drv | exact hd.wait | exact hd.len | exact hd.col
      refine sw_seq ?_
      refine sw_seq ?_
      refine sw_region hP 6 [] rfl (by kernel_rfl) (fun _ => by kernel_rfl) ?_ ?_
      · skip
        simp only [conj, List.nil_append, List.cons_append, List.append_nil, List.append_assoc, inR_i64, true_and, and_true, Int.toNat_natCast]
        try dsimp only [Ty.den, Ty.dflt]
        repeat' apply And.intro
        all_goals first | trivial | omega | exact hR1.le (m' := 1) (by omega)
      refine sw_cond rfl (fun c6 => ?_) (fun c6 => ?_)
      · skip
        replace c6 : pk (putQ R) 3 = 0 := of_decide_eq_true c6
        have hs2 : stD2 (stD1 d R) (putQ R) = dskOf (stD1 d R).1 (comes (stD1 d R).2.2.2.2 (drvOf (stD1 d R))) [] := if_pos c6
        have hw2 := flush_DrOk hw1
        refine sw_region hP 7 [] rfl (by kernel_rfl) (fun _ => by kernel_rfl) ?_ ?_
        · skip
          simp only [conj, List.nil_append, List.cons_append, List.append_nil, List.append_assoc, inR_i64, true_and, and_true, Int.toNat_natCast]
          try dsimp only [Ty.den, Ty.dflt]
          repeat' apply And.intro
          all_goals first | trivial | omega | exact hw1.drv.1 | exact hw1.drv.2.1 | exact hw1.drv.2.2 | exact hw1.drv | exact hw1.wait | exact hw1.len | exact hw1.col
        refine sw_seq ?_
        refine sw_region hP 8 [] rfl (by kernel_rfl) (fun _ => by kernel_rfl) ?_ ?_
        · skip
          simp only [conj, List.nil_append, List.cons_append, List.append_nil, List.append_assoc, inR_i64, true_and, and_true, Int.toNat_natCast]
          try dsimp only [Ty.den, Ty.dflt]
          repeat' apply And.intro
          all_goals first | trivial | omega | exact hR2.le (m' := 1) (by omega)
        refine sw_cond rfl (fun c8 => ?_) (fun c8 => ?_)
        · skip
          replace c8 : pk (nx (putQ R)) 5 = 0 := of_decide_eq_true c8
          have hS : stD d R = spoilV (stD2 (stD1 d R) (putQ R)) (pk (nx (nx (putQ R))) 12) (pk (nx (nx (nx (putQ R)))) 3) (1 + pk (nx (nx (nx (nx (putQ R))))) 255) := if_pos c8
          rw [hs2] at hS
          have hT : stR R = nx (nx (nx (nx (nx (putQ R))))) := if_pos c8
          have hR3 : ROk (nx (nx (putQ R))) (30 * k + 2008) := hR2.nx (by omega)
          have hR4 : ROk (nx (nx (nx (putQ R)))) (30 * k + 2007) := hR3.nx (by omega)
          have hR5 : ROk (nx (nx (nx (nx (putQ R))))) (30 * k + 2006) := hR4.nx (by omega)
          have hp1 := pk_bd hR3 (by omega) (n := 12) (by omega)
          have hp2 := pk_bd hR4 (by omega) (n := 3) (by omega)
          have hp5 := pk_bd hR5 (by omega) (n := 255) (by omega)
          refine sw_region hP 9 [] rfl (by kernel_rfl) (fun _ => by kernel_rfl) ?_ ?_
          · skip
            simp only [conj, List.nil_append, List.cons_append, List.append_nil, List.append_assoc, inR_i64, true_and, and_true, Int.toNat_natCast]
            try dsimp only [Ty.den, Ty.dflt]
            repeat' apply And.intro
            all_goals first | trivial | omega | exact hR3.le (m' := 1) (by omega) | exact hR4.le (m' := 1) (by omega) | exact hR5.le (m' := 1) (by omega) | exact hp1.1 | exact hp1.2 | exact hp2.1 | exact hp2.2 | (show (0 : Int) ≤ 1 + pk (nx (nx (nx (nx (putQ R))))) 255; omega) | (show 1 + pk (nx (nx (nx (nx (putQ R))))) 255 ≤ 255; omega) | (show -9223372036854775808 ≤ 1 + pk (nx (nx (nx (nx (putQ R))))) 255; omega) | (show 1 + pk (nx (nx (nx (nx (putQ R))))) 255 ≤ 9223372036854775807; omega)| exact hw2.drv.1 | exact hw2.drv.2.1 | exact hw2.drv.2.2 | exact hw2.drv | exact hw2.wait | exact hw2.len | exact hw2.col
          refine sw_region hP 10 [] rfl (by kernel_rfl) (fun _ => by kernel_rfl) (by first | trivial | (simp [conj]; done) | (simp [conj] at *; (try dsimp only [Ty.den, Ty.dflt] at *); omega)) ?_
          refine ⟨(k, stD d R, stR R), ?_, ?_, ent_ok rfl ?_⟩
          · skip
            exact ⟨stD_ok hd hR (by omega), stR_ok hR (by omega) (by omega), by omega, hgo⟩
          · skip
            exact Nat.lt_succ_self k
          · skip
            simp only [conj, List.nil_append, List.cons_append, List.append_nil, List.append_assoc, inR_i64, true_and, and_true, Int.toNat_natCast]
            try dsimp only [Ty.den, Ty.dflt]
            rw [hS, hT]
            repeat' apply And.intro
            all_goals first | rfl | trivial | (push_cast; omega)
        · skip
          replace c8 : ¬ pk (nx (putQ R)) 5 = 0 := of_decide_eq_false c8
          have hS : stD d R = stD2 (stD1 d R) (putQ R) := if_neg c8
          rw [hs2] at hS
          have hT : stR R = nx (nx (putQ R)) := if_neg c8
          refine sw_skip ?_
          refine sw_region hP 9 [] rfl (by kernel_rfl) (fun _ => by kernel_rfl) (by first | trivial | (simp [conj]; done) | (simp [conj] at *; (try dsimp only [Ty.den, Ty.dflt] at *); omega)) ?_
          refine ⟨(k, stD d R, stR R), ?_, ?_, ent_ok rfl ?_⟩
          · skip
            exact ⟨stD_ok hd hR (by omega), stR_ok hR (by omega) (by omega), by omega, hgo⟩
          · skip
            exact Nat.lt_succ_self k
          · skip
            simp only [conj, List.nil_append, List.cons_append, List.append_nil, List.append_assoc, inR_i64, true_and, and_true, Int.toNat_natCast]
            try dsimp only [Ty.den, Ty.dflt]
            rw [hS, hT]
            repeat' apply And.intro
            all_goals first | rfl | trivial | (push_cast; omega)
      · skip
        replace c6 : ¬ pk (putQ R) 3 = 0 := of_decide_eq_false c6
        have hs2 : stD2 (stD1 d R) (putQ R) = stD1 d R := if_neg c6
        have hw2 := hw1
        refine sw_skip ?_
        refine sw_seq ?_
        refine sw_region hP 7 [] rfl (by kernel_rfl) (fun _ => by kernel_rfl) ?_ ?_
        · skip
          simp only [conj, List.nil_append, List.cons_append, List.append_nil, List.append_assoc, inR_i64, true_and, and_true, Int.toNat_natCast]
          try dsimp only [Ty.den, Ty.dflt]
          repeat' apply And.intro
          all_goals first | trivial | omega | exact hR2.le (m' := 1) (by omega)
        refine sw_cond rfl (fun c8 => ?_) (fun c8 => ?_)
        · skip
          replace c8 : pk (nx (putQ R)) 5 = 0 := of_decide_eq_true c8
          have hS : stD d R = spoilV (stD2 (stD1 d R) (putQ R)) (pk (nx (nx (putQ R))) 12) (pk (nx (nx (nx (putQ R)))) 3) (1 + pk (nx (nx (nx (nx (putQ R))))) 255) := if_pos c8
          rw [hs2] at hS
          have hT : stR R = nx (nx (nx (nx (nx (putQ R))))) := if_pos c8
          have hR3 : ROk (nx (nx (putQ R))) (30 * k + 2008) := hR2.nx (by omega)
          have hR4 : ROk (nx (nx (nx (putQ R)))) (30 * k + 2007) := hR3.nx (by omega)
          have hR5 : ROk (nx (nx (nx (nx (putQ R))))) (30 * k + 2006) := hR4.nx (by omega)
          have hp1 := pk_bd hR3 (by omega) (n := 12) (by omega)
          have hp2 := pk_bd hR4 (by omega) (n := 3) (by omega)
          have hp5 := pk_bd hR5 (by omega) (n := 255) (by omega)
          refine sw_region hP 8 [] rfl (by kernel_rfl) (fun _ => by kernel_rfl) ?_ ?_
          · skip
            simp only [conj, List.nil_append, List.cons_append, List.append_nil, List.append_assoc, inR_i64, true_and, and_true, Int.toNat_natCast]
            try dsimp only [Ty.den, Ty.dflt]
            repeat' apply And.intro
            all_goals first | trivial | omega | exact hR3.le (m' := 1) (by omega) | exact hR4.le (m' := 1) (by omega) | exact hR5.le (m' := 1) (by omega) | exact hp1.1 | exact hp1.2 | exact hp2.1 | exact hp2.2 | (show (0 : Int) ≤ 1 + pk (nx (nx (nx (nx (putQ R))))) 255; omega) | (show 1 + pk (nx (nx (nx (nx (putQ R))))) 255 ≤ 255; omega) | (show -9223372036854775808 ≤ 1 + pk (nx (nx (nx (nx (putQ R))))) 255; omega) | (show 1 + pk (nx (nx (nx (nx (putQ R))))) 255 ≤ 9223372036854775807; omega)| exact hw2.drv.1 | exact hw2.drv.2.1 | exact hw2.drv.2.2 | exact hw2.drv | exact hw2.wait | exact hw2.len | exact hw2.col
          refine sw_region hP 9 [] rfl (by kernel_rfl) (fun _ => by kernel_rfl) (by first | trivial | (simp [conj]; done) | (simp [conj] at *; (try dsimp only [Ty.den, Ty.dflt] at *); omega)) ?_
          refine ⟨(k, stD d R, stR R), ?_, ?_, ent_ok rfl ?_⟩
          · skip
            exact ⟨stD_ok hd hR (by omega), stR_ok hR (by omega) (by omega), by omega, hgo⟩
          · skip
            exact Nat.lt_succ_self k
          · skip
            simp only [conj, List.nil_append, List.cons_append, List.append_nil, List.append_assoc, inR_i64, true_and, and_true, Int.toNat_natCast]
            try dsimp only [Ty.den, Ty.dflt]
            rw [hS, hT]
            repeat' apply And.intro
            all_goals first | rfl | trivial | (push_cast; omega)
        · skip
          replace c8 : ¬ pk (nx (putQ R)) 5 = 0 := of_decide_eq_false c8
          have hS : stD d R = stD2 (stD1 d R) (putQ R) := if_neg c8
          rw [hs2] at hS
          have hT : stR R = nx (nx (putQ R)) := if_neg c8
          refine sw_skip ?_
          refine sw_region hP 8 [] rfl (by kernel_rfl) (fun _ => by kernel_rfl) (by first | trivial | (simp [conj]; done) | (simp [conj] at *; (try dsimp only [Ty.den, Ty.dflt] at *); omega)) ?_
          refine ⟨(k, stD d R, stR R), ?_, ?_, ent_ok rfl ?_⟩
          · skip
            exact ⟨stD_ok hd hR (by omega), stR_ok hR (by omega) (by omega), by omega, hgo⟩
          · skip
            exact Nat.lt_succ_self k
          · skip
            simp only [conj, List.nil_append, List.cons_append, List.append_nil, List.append_assoc, inR_i64, true_and, and_true, Int.toNat_natCast]
            try dsimp only [Ty.den, Ty.dflt]
            rw [hS, hT]
            repeat' apply And.intro
            all_goals first | rfl | trivial | (push_cast; omega)
    · skip
      obtain rfl : k = 0 := by simp at c3; omega
      replace hgo : (d, R) = drawL r := hgo
      have hR1 : ROk (nx R) 1999 := hR.nx (by omega)
      have hR2 : ROk (nx (nx R)) 1998 := hR1.nx (by omega)
      have hp3 := pk_bd hR1 (by omega) (n := 3) (by omega)
      have hp12 := pk_bd hR1 (by omega) (n := 12) (by omega)
      have hq1 : (drawL r).1 = d := by rw [← hgo]
      have hq2 : (drawL r).2 = R := by rw [← hgo]
      have hdd := hd.drv
      obtain ⟨hd1, hd2, hd3⟩ := hdd
      replace hd1 : d.2.1.length = 12 := hd1
      replace hd2 : d.2.2.1.length = 2 := hd2
      replace hd3 : d.2.2.2.1.length = 12 := hd3
      have hd4 := hd.len
      refine sw_exit ?_
      refine sw_seq ?_
      refine sw_seq ?_
      refine sw_region hP 5 [] rfl (by kernel_rfl) (fun _ => by kernel_rfl) ?_ ?_
      · skip
        simp only [conj, List.nil_append, List.cons_append, List.append_nil, List.append_assoc, inR_i64, true_and, and_true, Int.toNat_natCast]
        try dsimp only [Ty.den, Ty.dflt]
        repeat' apply And.intro
        all_goals first | trivial | omega | exact hR.le (m' := 1) (by omega)
      refine sw_block ?_
      refine sw_seq ?_
      refine sw_region hP 6 [] rfl (by kernel_rfl) (fun _ => by kernel_rfl) (by first | trivial | (simp [conj]; done) | (simp [conj] at *; (try dsimp only [Ty.den, Ty.dflt] at *); omega)) ?_
      refine sw_cond rfl (fun c11 => ?_) (fun c11 => ?_)
      · skip
        have z0 : pk R 30 = 0 := of_decide_eq_true c11
        have hD : drawD r = (List.getD [(-1 : Int), 3, 1] (pk (nx R) 3).toNat 0, d.2) := by unfold drawD; rw [hq1, hq2]; unfold harmG; rw [ if_pos z0]
        have hT : drawR r = nx (nx R) := by unfold drawR; rw [hq1, hq2]; unfold harmG; rw [ if_pos z0]
        refine sw_region hP 7 [] rfl (by kernel_rfl) (fun _ => by kernel_rfl) ?_ ?_
        · skip
          simp only [conj, List.nil_append, List.cons_append, List.append_nil, List.append_assoc, inR_i64, true_and, and_true, Int.toNat_natCast]
          try dsimp only [Ty.den, Ty.dflt]
          repeat' apply And.intro
          all_goals first | trivial | omega | exact hR1.le (m' := 1) (by omega) | exact hp3.1 | exact hp3.2 | (show (pk (nx R) 3).toNat < 3; omega)
        refine sw_seq ?_
        refine sw_region hP 8 [] rfl (by kernel_rfl) (fun _ => by kernel_rfl) (by first | trivial | (simp [conj]; done) | (simp [conj] at *; (try dsimp only [Ty.den, Ty.dflt] at *); omega)) ?_
        refine sw_ret ⟨.inl rfl, _, rfl, ?_⟩
        rw [hD, hT]
        simp [conj]
        try rfl
      · skip
        have z0 : ¬ pk R 30 = 0 := of_decide_eq_false c11
        refine sw_seq ?_
        refine sw_region hP 7 [] rfl (by kernel_rfl) (fun _ => by kernel_rfl) (by first | trivial | (simp [conj]; done) | (simp [conj] at *; (try dsimp only [Ty.den, Ty.dflt] at *); omega)) ?_
        refine sw_cond rfl (fun c13 => ?_) (fun c13 => ?_)
        · skip
          have z1 : pk R 30 = 1 := of_decide_eq_true c13
          have hD : drawD r = (d.1, d.2.1.set (pk (nx R) 12).toNat abT, d.2.2) := by unfold drawD; rw [hq1, hq2]; unfold harmG; rw [if_neg z0, if_pos z1]
          have hT : drawR r = nx (nx R) := by unfold drawR; rw [hq1, hq2]; unfold harmG; rw [if_neg z0, if_pos z1]
          refine sw_region hP 8 [] rfl (by kernel_rfl) (fun _ => by kernel_rfl) ?_ ?_
          · skip
            simp only [conj, List.nil_append, List.cons_append, List.append_nil, List.append_assoc, inR_i64, true_and, and_true, Int.toNat_natCast]
            try dsimp only [Ty.den, Ty.dflt]
            repeat' apply And.intro
            all_goals first | trivial | omega | exact hR1.le (m' := 1) (by omega) | exact hp12.1 | (show pk (nx R) 12 < ((d.2.1.length : Nat) : Int); omega) | (show (pk (nx R) 12).toNat < d.2.1.length; omega)
          refine sw_seq ?_
          refine sw_region hP 9 [] rfl (by kernel_rfl) (fun _ => by kernel_rfl) (by first | trivial | (simp [conj]; done) | (simp [conj] at *; (try dsimp only [Ty.den, Ty.dflt] at *); omega)) ?_
          refine sw_ret ⟨.inl rfl, _, rfl, ?_⟩
          rw [hD, hT]
          simp [conj]
          try rfl
        · skip
          have z1 : ¬ pk R 30 = 1 := of_decide_eq_false c13
          refine sw_seq ?_
          refine sw_region hP 8 [] rfl (by kernel_rfl) (fun _ => by kernel_rfl) (by first | trivial | (simp [conj]; done) | (simp [conj] at *; (try dsimp only [Ty.den, Ty.dflt] at *); omega)) ?_
          refine sw_cond rfl (fun c15 => ?_) (fun c15 => ?_)
          · skip
            have z2 : pk R 30 = 2 := of_decide_eq_true c15
            have hD : drawD r = (d.1, d.2.1, d.2.2.1, d.2.2.2.1.set (pk (nx R) 12).toNat true, d.2.2.2.2) := by unfold drawD; rw [hq1, hq2]; unfold harmG; rw [if_neg z0, if_neg z1, if_pos z2]
            have hT : drawR r = nx (nx R) := by unfold drawR; rw [hq1, hq2]; unfold harmG; rw [if_neg z0, if_neg z1, if_pos z2]
            refine sw_region hP 9 [] rfl (by kernel_rfl) (fun _ => by kernel_rfl) ?_ ?_
            · skip
              simp only [conj, List.nil_append, List.cons_append, List.append_nil, List.append_assoc, inR_i64, true_and, and_true, Int.toNat_natCast]
              try dsimp only [Ty.den, Ty.dflt]
              repeat' apply And.intro
              all_goals first | trivial | omega | exact hR1.le (m' := 1) (by omega) | exact hp12.1 | (show pk (nx R) 12 < ((d.2.2.2.1.length : Nat) : Int); omega) | (show (pk (nx R) 12).toNat < d.2.2.2.1.length; omega)
            refine sw_seq ?_
            refine sw_region hP 10 [] rfl (by kernel_rfl) (fun _ => by kernel_rfl) (by first | trivial | (simp [conj]; done) | (simp [conj] at *; (try dsimp only [Ty.den, Ty.dflt] at *); omega)) ?_
            refine sw_ret ⟨.inl rfl, _, rfl, ?_⟩
            rw [hD, hT]
            simp [conj]
            try rfl
          · skip
            have z2 : ¬ pk R 30 = 2 := of_decide_eq_false c15
            refine sw_seq ?_
            refine sw_region hP 9 [] rfl (by kernel_rfl) (fun _ => by kernel_rfl) (by first | trivial | (simp [conj]; done) | (simp [conj] at *; (try dsimp only [Ty.den, Ty.dflt] at *); omega)) ?_
            refine sw_cond rfl (fun c17 => ?_) (fun c17 => ?_)
            · skip
              have z3 : pk R 30 = 3 := of_decide_eq_true c17
              have hD : drawD r = (d.1, d.2.1, d.2.2.1, d.2.2.2.1, d.2.2.2.2 ++ [(false, 12, abcT)]) := by unfold drawD; rw [hq1, hq2]; unfold harmG; rw [if_neg z0, if_neg z1, if_neg z2, if_pos z3]
              have hT : drawR r = nx R := by unfold drawR; rw [hq1, hq2]; unfold harmG; rw [if_neg z0, if_neg z1, if_neg z2, if_pos z3]
              refine sw_region hP 10 [] rfl (by kernel_rfl) (fun _ => by kernel_rfl) ?_ ?_
              · skip
                simp [conj, maxL]
                try omega
              refine sw_seq ?_
              refine sw_region hP 11 [] rfl (by kernel_rfl) (fun _ => by kernel_rfl) (by first | trivial | (simp [conj]; done) | (simp [conj] at *; (try dsimp only [Ty.den, Ty.dflt] at *); omega)) ?_
              refine sw_ret ⟨.inl rfl, _, rfl, ?_⟩
              rw [hD, hT]
              simp [conj]
              try rfl
            · skip
              have z3 : ¬ pk R 30 = 3 := of_decide_eq_false c17
              refine sw_seq ?_
              refine sw_region hP 10 [] rfl (by kernel_rfl) (fun _ => by kernel_rfl) (by first | trivial | (simp [conj]; done) | (simp [conj] at *; (try dsimp only [Ty.den, Ty.dflt] at *); omega)) ?_
              refine sw_cond rfl (fun c19 => ?_) (fun c19 => ?_)
              · skip
                have z4 : pk R 30 = 4 := of_decide_eq_true c19
                have hD : drawD r = (d.1, d.2.1, d.2.2.1, d.2.2.2.1, (fillG 50 d.2.2.2.2 (nx R)).1) := by unfold drawD; rw [hq1, hq2]; unfold harmG; rw [if_neg z0, if_neg z1, if_neg z2, if_neg z3, if_pos z4]
                have hT : drawR r = (fillG 50 d.2.2.2.2 (nx R)).2 := by unfold drawR; rw [hq1, hq2]; unfold harmG; rw [if_neg z0, if_neg z1, if_neg z2, if_neg z3, if_pos z4]
                refine sw_block ?_
                refine sw_loop (ι := Nat × List Put × Rd) (fun ⟨j, l, Q⟩ => ⟨[.v false [.ptr ⟨0, 0, 0⟩ 0], .junk, .v false [.ptr ⟨1, 0, 0⟩ 0], .v false [.ptr ⟨0, 9, 0⟩ 0], .junk, .junk, .junk, .junk, .junk, .junk, .junk, .junk, .junk, .junk, .junk, .junk, .junk, .junk, .junk, .junk, .junk, .junk, .junk, .junk, .junk, .junk, .junk, .junk, .junk, .junk, .junk, .junk, .junk, .junk, .junk, .junk, .junk, .junk, .junk, .junk, .junk, .junk, .junk, .junk, .junk, .junk, .junk, .junk, .junk, .junk, .junk, .junk, .junk, .junk, .junk, .junk, .junk, .junk, .junk, .junk, .junk, .junk, .junk, .junk, .junk, .junk, .junk, .junk, .junk, .junk, .junk, .junk, .junk, .junk, .junk, .junk, .junk, .junk, .junk, .junk, .junk, .junk, .junk, .junk, .junk, .junk, .junk, .junk, .junk, .junk, .junk, .junk, .junk], [(⟨0, 0, 0⟩, rdA Q), (⟨0, 9, 0⟩, .var [.d TI pF d.1, .own ⟨0, 9, 1⟩, .own ⟨0, 9, 2⟩, .own ⟨0, 9, 3⟩, .own ⟨0, 9, 4⟩]), (⟨0, 9, 1⟩, .sl .str (.all .w) d.2.1), (⟨0, 9, 2⟩, .sl .str (.all .w) d.2.2.1), (⟨0, 9, 3⟩, .sl .bool (.all .w) d.2.2.2.1), (⟨0, 9, 4⟩, .sl T_Put (.all .w) l), (⟨1, 0, 0⟩, .var [.d TI pF 0, .nils, .nils, .nils, .nils])], 10, [[.v false [.ptr ⟨0, 0, 0⟩ 0]]]⟩) (fun ⟨j, l, Q⟩ => j) (fun ⟨j, l, Q⟩ => ROk Q (21 * j + 10) ∧ 41 < l.length + j ∧ l.length ≤ 41 ∧ fillG j l Q = fillG 50 d.2.2.2.2 (nx R)) (50, d.2.2.2.2, nx R) ⟨?_, ?_⟩ ?_
                · skip
                  exact ⟨hR1.le (by omega), by show 41 < d.2.2.2.2.length + 50; omega, by show d.2.2.2.2.length ≤ 41; omega, rfl⟩
                · refine ent_ok rfl ?_
                  simp [conj]
                · rintro ⟨j, l, Q⟩ ⟨hQ, hj, hl, hf⟩
                  refine sw_seq ?_
                  refine sw_seq ?_
                  have hq40 := pk_bd hQ (by omega) (n := 2) (by omega)
                  refine sw_region hP 11 [] rfl (by kernel_rfl) (fun _ => by kernel_rfl) ?_ ?_
                  · skip
                    simp only [conj, List.nil_append, List.cons_append, List.append_nil, List.append_assoc, inR_i64, true_and, and_true, Int.toNat_natCast]
                    try dsimp only [Ty.den, Ty.dflt]
                    repeat' apply And.intro
                    all_goals first | trivial | omega | exact hQ.le (m' := 1) (by omega) | (show -9223372036854775808 ≤ 40 + pk Q 2; omega) | (show 40 + pk Q 2 ≤ 9223372036854775807; omega)
                  refine sw_cond rfl (fun c20 => ?_) (fun c20 => ?_)
                  · skip
                    replace c20 : (l.length : Int) < 40 + pk Q 2 := of_decide_eq_true c20
                    obtain ⟨j, rfl⟩ : ∃ m, j = m + 1 := ⟨j - 1, by omega⟩
                    rw [fillG_next c20] at hf
                    have hQ1 : ROk (nx Q) (21 * j + 30) := hQ.nx (by omega)
                    refine sw_skip ?_
                    refine sw_block ?_
                    refine sw_region hP 12 [] rfl (by kernel_rfl) (fun _ => by kernel_rfl) ?_ ?_
                    · skip
                      simp [conj, maxL]
                      refine ⟨hQ1.le (m' := 20) (by omega), ?_⟩
                      omega
                    refine ⟨(j, l ++ [putG (nx Q)], putQ (nx Q)), ?_, ?_, ent_ok rfl ?_⟩
                    · skip
                      exact ⟨putQ_ok hQ1 (by omega) (by omega), by show 41 < (l ++ [putG (nx Q)]).length + j; simp; omega, by show (l ++ [putG (nx Q)]).length ≤ 41; simp; omega, hf⟩
                    · skip
                      exact Nat.lt_succ_self j
                    · skip
                      simp [conj]
                  · skip
                    replace c20 : ¬ (l.length : Int) < 40 + pk Q 2 := of_decide_eq_false c20
                    obtain ⟨j, rfl⟩ : ∃ m, j = m + 1 := ⟨j - 1, by omega⟩
                    rw [fillG_end c20] at hf
                    rw [← hf] at hD hT
                    refine sw_exit ?_
                    refine sw_seq ?_
                    refine sw_region hP 12 [] rfl (by kernel_rfl) (fun _ => by kernel_rfl) (by first | trivial | (simp [conj]; done) | (simp [conj] at *; (try dsimp only [Ty.den, Ty.dflt] at *); omega)) ?_
                    refine sw_ret ⟨.inl rfl, _, rfl, ?_⟩
                    rw [hD, hT]
                    simp [conj]
                    try rfl
              · skip
                have z4 : ¬ pk R 30 = 4 := of_decide_eq_false c19
                refine sw_seq ?_
                refine sw_region hP 11 [] rfl (by kernel_rfl) (fun _ => by kernel_rfl) (by first | trivial | (simp [conj]; done) | (simp [conj] at *; (try dsimp only [Ty.den, Ty.dflt] at *); omega)) ?_
                refine sw_cond rfl (fun c22 => ?_) (fun c22 => ?_)
                · skip
                  have z5 : pk R 30 = 5 := of_decide_eq_true c22
                  have hD : drawD r = (d.1, d.2.1, d.2.2.1.drop 1, d.2.2.2.1, d.2.2.2.2) := by unfold drawD; rw [hq1, hq2]; unfold harmG; rw [if_neg z0, if_neg z1, if_neg z2, if_neg z3, if_neg z4, if_pos z5]
                  have hT : drawR r = nx R := by unfold drawR; rw [hq1, hq2]; unfold harmG; rw [if_neg z0, if_neg z1, if_neg z2, if_neg z3, if_neg z4, if_pos z5]
                  refine sw_region hP 12 [] rfl (by kernel_rfl) (fun _ => by kernel_rfl) ?_ ?_
                  · skip
                    simp [conj]
                    show (1 : Int) < ((d.2.2.1.length : Nat) : Int)
                    omega
                  refine sw_seq ?_
                  refine sw_region hP 13 [] rfl (by kernel_rfl) (fun _ => by kernel_rfl) (by first | trivial | (simp [conj]; done) | (simp [conj] at *; (try dsimp only [Ty.den, Ty.dflt] at *); omega)) ?_
                  refine sw_ret ⟨.inl rfl, _, rfl, ?_⟩
                  rw [hD, hT]
                  simp [conj]
                  try rfl
                · skip
                  have z5 : ¬ pk R 30 = 5 := of_decide_eq_false c22
                  have hD : drawD r = d := by unfold drawD; rw [hq1, hq2]; unfold harmG; rw [if_neg z0, if_neg z1, if_neg z2, if_neg z3, if_neg z4, if_neg z5]
                  have hT : drawR r = nx R := by unfold drawR; rw [hq1, hq2]; unfold harmG; rw [if_neg z0, if_neg z1, if_neg z2, if_neg z3, if_neg z4, if_neg z5]
                  refine sw_skip ?_
                  refine sw_seq ?_
                  refine sw_region hP 12 [] rfl (by kernel_rfl) (fun _ => by kernel_rfl) (by first | trivial | (simp [conj]; done) | (simp [conj] at *; (try dsimp only [Ty.den, Ty.dflt] at *); omega)) ?_
                  refine sw_ret ⟨.inl rfl, _, rfl, ?_⟩
                  rw [hD, hT]
                  simp [conj]
                  try rfl
end Go.Sx
