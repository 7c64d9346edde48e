import Derived.Test.YtdoennebblhfbaaMG7
import Derived.Test.YtdoennebblhfbaaMPl
set_option linter.all false
namespace Go.Sx
open Go
set_option maxRecDepth 100000
set_option linter.unusedVariables false
set_option linter.unusedSimpArgs false
set_option maxHeartbeats 4000000

def cLDrop : Ctr := ⟨5, [.val false TB pF], fun _ => True, fun x => (sBool true, [])⟩
theorem cLDrop_ok : CtrOk Proofs.Try.prog cLDrop := by
  have hP := (((((((Prg.none ttok mtok).and cDMake_ok).and cMake_ok).and cIMake_ok).and cModels_ok).and cIDrop_ok).and cIRead_ok)
  refine ctr_of_body hP cLDrop (fn := Proofs.Try.f5) (rts := [.tmp 2]) Proofs.Try.func5 rfl (by kernel_rfl) rfl rfl ?_
  rintro ⟨(code : List Int), ⟨⟩⟩ ⟨hdc, _⟩ hpre
  try dsimp only [Ty.den, Mode.den, mdens] at hpre
  refine ⟨rfl, ?_⟩
  obtain ⟨m, name, hmn⟩ : ∃ m name, dMake code = (m, name) := ⟨_, _, rfl⟩
  have hcl : code.length ≤ 140737488355328 := hdc.1
  have hw : thoughtV (clMake name) m = makeV m name := thought_make
  refine sw_seq ?_
  refine sw_region hP 1 [] rfl (by kernel_rfl) (fun _ => by kernel_rfl) (by first | trivial | (simp [conj]; done) | (simp [conj] at *; (try dsimp only [Ty.den, Ty.dflt] at *); omega)) ?_
  refine sw_seq ?_
  refine sw_seq ?_
  refine sw_region hP 2 [] rfl (by kernel_rfl) (fun _ => by kernel_rfl) (by first | trivial | (simp [conj]; done) | (simp [conj] at *; (try dsimp only [Ty.den, Ty.dflt] at *); omega)) ?_
  refine sw_cond rfl (fun c1 => ?_) (fun c1 => ?_)
  · skip
    refine sw_seq ?_
    refine sw_region hP 3 [] rfl (by kernel_rfl) (fun _ => by kernel_rfl) (by first | trivial | (simp [conj]; done) | (simp [conj] at *; (try dsimp only [Ty.den, Ty.dflt] at *); omega)) ?_
    refine sw_ret ⟨.inl rfl, _, rfl, ?_⟩
    simp [conj]
  · skip
    refine sw_skip ?_
    refine sw_seq ?_
    refine sw_region hP 3 [] rfl (by kernel_rfl) (fun _ => by kernel_rfl) (by first | trivial | (simp [conj]; done) | (simp [conj] at *; (try dsimp only [Ty.den, Ty.dflt] at *); omega)) ?_
    refine sw_seq ?_
    refine sw_ent (st' := ⟨[.junk, .junk, .junk, .v false [.ptr ⟨3, 5, 0⟩ 0], sStr name, .junk, .junk, .junk, .junk, .junk, .junk, .junk, .junk, .junk, .junk, .junk, .junk, .junk, .junk, .junk, .junk, .junk, .junk, .junk, .junk, .junk, .junk, .junk, .junk, .junk, .junk, .junk, .junk, .junk, .junk, .junk, .junk, .junk, .junk, .junk, .junk, .junk, .junk, .junk, .junk, .junk, .junk, .junk, .junk, .junk, .junk, .junk, .junk, .junk, .junk, .junk, .junk, .junk, .junk, .junk, .junk, .junk, .junk, .junk, .junk, .junk, .junk, .junk, .junk, .junk, .junk, .junk, .junk, .junk, .junk, .junk, .junk, .junk, .junk, .junk, .junk, .junk, .junk, .junk, .junk, .junk, .junk, .junk, .junk, .junk, .junk, .junk, .junk], [(⟨3, 5, 0⟩, .var [.d T_Model pF m])], 3, []⟩) (ent_ok rfl ?_) ?_
    · skip
      simp [conj, hmn]
    refine sw_region hP 4 [] rfl (by kernel_rfl) (fun _ => by kernel_rfl) trivial ?_
    refine sw_seq ?_
    refine sw_region hP 5 [] rfl (by kernel_rfl) (fun _ => by kernel_rfl) trivial ?_
    refine sw_seq ?_
    refine sw_seq ?_
    refine sw_ent (st' := ⟨[.junk, .junk, .junk, .v false [.ptr ⟨3, 5, 0⟩ 0], sStr name, .v false [.ptr ⟨4, 6, 0⟩ 0], sInt .i64 (makeV m name).2, .v false [.ptr ⟨5, 6, 0⟩ 0], sInt .i64 (makeV m name).2, .junk, .junk, .junk, .junk, .junk, .junk, .junk, .junk, .junk, .junk, .junk, .junk, .junk, .junk, .junk, .junk, .junk, .junk, .junk, .junk, .junk, .junk, .junk, .junk, .junk, .junk, .junk, .junk, .junk, .junk, .junk, .junk, .junk, .junk, .junk, .junk, .junk, .junk, .junk, .junk, .junk, .junk, .junk, .junk, .junk, .junk, .junk, .junk, .junk, .junk, .junk, .junk, .junk, .junk, .junk, .junk, .junk, .junk, .junk, .junk, .junk, .junk, .junk, .junk, .junk, .junk, .junk, .junk, .junk, .junk, .junk, .junk, .junk, .junk, .junk, .junk, .junk, .junk, .junk, .junk, .junk, .junk, .junk, .junk], [(⟨3, 5, 0⟩, .var [.d T_Model pF m]), (⟨4, 6, 0⟩, .var [.own ⟨4, 2, 0⟩]), (⟨4, 2, 0⟩, .sl T_Shelf (.all .w) (makeV m name).1), (⟨5, 6, 0⟩, .var [.d T_Model pF (makeV m name).1])], 5, []⟩) (ent_ok rfl ?_) ?_
    · skip
      simp [conj, hw]
    refine sw_dec hP 6 [] 3 rfl (fun g6_3 => ?_) (fun g6_3 => ?_)
    · skip
      simp at g6_3
    · skip
      refine sw_dec hP 6 [(3, false)] 9 rfl (fun g6_9 => ?_) (fun g6_9 => ?_)
      · skip
        simp at g6_9
      · skip
        refine sw_region hP 6 [(3, false), (9, false)] rfl (by kernel_rfl) (fun _ => by kernel_rfl) (by first | trivial | (simp [conj]; done) | (simp [conj] at *; (try dsimp only [Ty.den, Ty.dflt] at *); omega)) ?_
        refine sw_cond rfl (fun c6 => ?_) (fun c6 => ?_)
        · skip
          refine sw_seq ?_
          refine sw_dec hP 7 [] 3 rfl (fun g7_3 => ?_) (fun g7_3 => ?_)
          · skip
            refine sw_region hP 7 [(3, true)] rfl (by kernel_rfl) (fun _ => by kernel_rfl) (by first | trivial | (simp [conj]; done) | (simp [conj] at *; (try dsimp only [Ty.den, Ty.dflt] at *); omega)) ?_
            refine sw_ret ⟨.inl rfl, _, rfl, ?_⟩
            simp [conj]
          · skip
            simp at g7_3
        · skip
          replace c6 : (makeV m name).2 = 0 := by simpa using c6
          obtain ⟨e1, e2, e3⟩ := law_drop c6
          have e4 : thoughtV (clDrop name) (makeV m name).1 = (m, 0) := thought_drop.trans e1
          refine sw_skip ?_
          refine sw_seq ?_
          refine sw_region hP 7 [] rfl (by kernel_rfl) (fun _ => by kernel_rfl) (by first | trivial | (simp [conj]; done) | (simp [conj] at *; (try dsimp only [Ty.den, Ty.dflt] at *); omega)) ?_
          refine sw_seq ?_
          refine sw_region hP 8 [] rfl (by kernel_rfl) (fun _ => by kernel_rfl) (by first | trivial | (simp [conj]; done) | (simp [conj] at *; (try dsimp only [Ty.den, Ty.dflt] at *); omega)) ?_
          refine sw_seq ?_
          refine sw_region hP 9 [] rfl (by kernel_rfl) (fun _ => by kernel_rfl) (by first | trivial | (simp [conj]; done) | (simp [conj] at *; (try dsimp only [Ty.den, Ty.dflt] at *); omega)) ?_
          refine sw_seq ?_
          refine sw_ent (st' := ⟨[.junk, .junk, .junk, .v false [.ptr ⟨3, 5, 0⟩ 0], sStr name, .v false [.ptr ⟨4, 6, 0⟩ 0], .junk, .v false [.ptr ⟨5, 6, 0⟩ 0], .junk, .v false [.ptr ⟨7, 6, 0⟩ 0], sInt .i64 0, .junk, sInt .i64 2, sStr [], sInt .i64 0, .junk, .junk, .junk, .junk, .junk, .junk, .junk, .junk, .junk, .junk, .junk, .junk, .junk, .junk, .junk, .junk, .junk, .junk, .junk, .junk, .junk, .junk, .junk, .junk, .junk, .junk, .junk, .junk, .junk, .junk, .junk, .junk, .junk, .junk, .junk, .junk, .junk, .junk, .junk, .junk, .junk, .junk, .junk, .junk, .junk, .junk, .junk, .junk, .junk, .junk, .junk, .junk, .junk, .junk, .junk, .junk, .junk, .junk, .junk, .junk, .junk, .junk, .junk, .junk, .junk, .junk, .junk, .junk, .junk, .junk, .junk, .junk, .junk, .junk, .junk, .junk, .junk, .junk], [(⟨3, 5, 0⟩, .var [.d T_Model pF m]), (⟨7, 6, 0⟩, .var [.d T_Model pF m])], 9, []⟩) (ent_ok rfl ?_) ?_
          · skip
            simp [conj, e2, e3, e4]
          refine sw_dec hP 10 [] 2 rfl (fun g11_2 => ?_) (fun g11_2 => ?_)
          · skip
            refine sw_dec hP 10 [(2, true)] 7 rfl (fun g11_7 => ?_) (fun g11_7 => ?_)
            · skip
              refine sw_dec hP 10 [(2, true), (7, true)] 11 rfl (fun g11_11 => ?_) (fun g11_11 => ?_)
              · skip
                refine sw_dec hP 10 [(2, true), (7, true), (11, true)] 15 rfl (fun g11_15 => ?_) (fun g11_15 => ?_)
                · skip
                  refine sw_region hP 10 [(2, true), (7, true), (11, true), (15, true)] rfl (by kernel_rfl) (fun _ => by kernel_rfl) (by first | trivial | (simp [conj]; done) | (simp [conj] at *; (try dsimp only [Ty.den, Ty.dflt] at *); omega)) ?_
                  refine sw_ret ⟨.inl rfl, _, rfl, ?_⟩
                  simp [conj]
                · skip
                  first | (simp at g11_15; done) | exact (of_decide_eq_false g11_15 rfl).elim
              · skip
                first | (simp at g11_11; done) | exact (of_decide_eq_false g11_11 rfl).elim
            · skip
              first | (simp at g11_7; done) | exact (of_decide_eq_false g11_7 rfl).elim
          · skip
            first | (simp at g11_2; done) | exact (of_decide_eq_false g11_2 rfl).elim
end Go.Sx
