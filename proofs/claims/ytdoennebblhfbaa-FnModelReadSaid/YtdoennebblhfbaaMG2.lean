import Derived.Test.YtdoennebblhfbaaMG1
import Derived.Test.YtdoennebblhfbaaMPm
set_option linter.all false
namespace Go.Sx
open Go
set_option maxRecDepth 100000
set_option linter.unusedVariables false
set_option linter.unusedSimpArgs false

def cIn : Ctr := ⟨30, [.val false TI pF, .val false TI pF, .val false TI pF], fun _ => True, fun x => (sBool (inV x.1 x.2.1 x.2.2.1), [])⟩
theorem cIn_ok : CtrOk Proofs.Try.prog cIn := by
  have hP := (Prg.none ttok mtok)
  refine ctr_of_body hP cIn (fn := Proofs.Try.f30) (rts := [.tmp 6]) Proofs.Try.func30 rfl (by kernel_rfl) rfl rfl ?_
  rintro ⟨(n : Int), (lo : Int), (hi : Int), ⟨⟩⟩ hd hpre
  try dsimp only [Ty.den, Mode.den, mdens] at hpre
  refine ⟨rfl, ?_⟩
  refine sw_seq ?_
  refine sw_region hP 1 [] rfl (by kernel_rfl) (fun _ => by kernel_rfl) (by first | trivial | (simp [conj]; done) | (simp [conj] at *; (try dsimp only [Ty.den, Ty.dflt] at *); omega)) ?_
  refine sw_seq ?_
  refine sw_dec hP 2 [] 3 rfl (fun g1_3 => ?_) (fun g1_3 => ?_)
  · skip
    refine sw_region hP 2 [(3, true)] rfl (by kernel_rfl) (fun _ => by kernel_rfl) (by first | trivial | (simp [conj]; done) | (simp [conj] at *; (try dsimp only [Ty.den, Ty.dflt] at *); omega)) ?_
    refine sw_ret ⟨.inl rfl, _, rfl, ?_⟩
    simp [conj] at *
    simp [inV, *]
    try omega
  · skip
    refine sw_region hP 2 [(3, false)] rfl (by kernel_rfl) (fun _ => by kernel_rfl) (by first | trivial | (simp [conj]; done) | (simp [conj] at *; (try dsimp only [Ty.den, Ty.dflt] at *); omega)) ?_
    refine sw_ret ⟨.inl rfl, _, rfl, ?_⟩
    simp [conj] at *
    simp [inV, *]
    try omega

def cFind : Ctr := ⟨29, [.val true T_Model (.all .b), .val false .str pF], fun _ => True, fun x => (sInt .i64 (findV x.1 x.2.1), [])⟩
theorem cFind_ok : CtrOk Proofs.Try.prog cFind := by
  have hP := (Prg.none ttok mtok)
  refine ctr_of_body hP cFind (fn := Proofs.Try.f29) (rts := [.tmp 4]) Proofs.Try.func29 rfl (by kernel_rfl) rfl rfl ?_
  rintro ⟨(m : List Shf), (name : Str), ⟨⟩⟩ ⟨hdm, hdn⟩ hpre
  try dsimp only [Ty.den, Mode.den, mdens] at hpre
  refine ⟨rfl, ?_⟩
  have hml : m.length ≤ 140737488355328 := hdm.1
  refine sw_seq ?_
  refine sw_region hP 1 [] rfl (by kernel_rfl) (fun _ => by kernel_rfl) (by first | trivial | (simp [conj]; done) | (simp [conj] at *; (try dsimp only [Ty.den, Ty.dflt] at *); omega)) ?_
  refine sw_seq ?_
  refine sw_seq ?_
  refine sw_region hP 2 [] rfl (by kernel_rfl) (fun _ => by kernel_rfl) (by first | trivial | (simp [conj]; done) | (simp [conj] at *; (try dsimp only [Ty.den, Ty.dflt] at *); omega)) ?_
  refine sw_block ?_
  refine sw_loop (ι := Nat) (fun i => ⟨[.junk, .v false [.d .str pF name], .v false [.ptr ⟨1, 0, 0⟩ 0], .junk, .junk, sInt .i64 (i : Int), .junk, .junk, .junk, .junk, .junk, .junk, .junk, .junk, .junk, .junk, .junk, .junk, .junk, .junk, .junk, .junk], [(⟨1, 0, 0⟩, .var [.d T_Model (.all .b) m])], 2, []⟩) (fun i => m.length - i) (fun i => i ≤ m.length ∧ findGo name (m.drop i) i = findV m name) 0 ⟨?_, ?_⟩ ?_
  · skip
    exact ⟨Nat.zero_le _, rfl⟩
  · refine ent_ok rfl ?_
    first | trivial | (simp [conj]; done) | (simp [conj] at *; (try dsimp only [Ty.den, Ty.dflt] at *); omega)
  · rintro i ⟨hi, hgo⟩
    refine sw_seq ?_
    refine sw_seq ?_
    refine sw_region hP 3 [] rfl (by kernel_rfl) (fun _ => by kernel_rfl) (by first | trivial | (simp [conj]; done) | (simp [conj] at *; (try dsimp only [Ty.den, Ty.dflt] at *); omega)) ?_
    refine sw_cond rfl (fun c2 => ?_) (fun c2 => ?_)
    · skip
      have hlt : i < m.length := by simpa using c2
      refine sw_skip ?_
      refine sw_seq ?_
      refine sw_block ?_
      refine sw_seq ?_
      refine sw_region hP 4 [] rfl (by kernel_rfl) (fun _ => by kernel_rfl) (by first | trivial | (simp [conj]; done) | (simp [conj] at *; (try dsimp only [Ty.den, Ty.dflt] at *); omega)) ?_
      refine sw_cond rfl (fun c4 => ?_) (fun c4 => ?_)
      · skip
        refine sw_seq ?_
        refine sw_region hP 5 [] rfl (by kernel_rfl) (fun _ => by kernel_rfl) (by first | trivial | (simp [conj]; done) | (simp [conj] at *; (try dsimp only [Ty.den, Ty.dflt] at *); omega)) ?_
        refine sw_ret ⟨.inl rfl, _, rfl, ?_⟩
        first | (simp [conj, find_hit hlt hgo (by simpa [List.getElem?_eq_getElem hlt] using c4)]; done) | (simp [conj, find_end hgo]; done)
      · skip
        refine sw_skip ?_
        refine sw_region hP 5 [] rfl (by kernel_rfl) (fun _ => by kernel_rfl) (by first | trivial | (simp [conj]; done) | (simp [conj] at *; (try dsimp only [Ty.den, Ty.dflt] at *); omega)) ?_
        refine ⟨i + 1, ?_, ?_, ent_ok rfl ?_⟩
        · skip
          exact ⟨hlt, find_next hlt hgo (by simpa [List.getElem?_eq_getElem hlt] using c4)⟩
        · skip
          omega
        · skip
          simp [conj]
    · skip
      obtain rfl : i = m.length := by simp at c2; omega
      refine sw_exit ?_
      refine sw_seq ?_
      refine sw_region hP 4 [] rfl (by kernel_rfl) (fun _ => by kernel_rfl) (by first | trivial | (simp [conj]; done) | (simp [conj] at *; (try dsimp only [Ty.den, Ty.dflt] at *); omega)) ?_
      refine sw_ret ⟨.inl rfl, _, rfl, ?_⟩
      first | (simp [conj, find_hit hlt hgo (by simpa [List.getElem?_eq_getElem hlt] using c4)]; done) | (simp [conj, find_end hgo]; done)

def cName : Ctr := ⟨49, [.val false .str pF], fun _ => True, fun x => (sBool (nameV x.1), [])⟩
theorem cName_ok : CtrOk Proofs.Try.prog cName := by
  have hP := ((Prg.none ttok mtok).and cIn_ok)
  refine ctr_of_body hP cName (fn := Proofs.Try.f49) (rts := [.tmp 2]) Proofs.Try.func49 rfl (by kernel_rfl) rfl rfl ?_
  rintro ⟨(s : Str), ⟨⟩⟩ ⟨hds, _⟩ hpre
  try dsimp only [Ty.den, Mode.den, mdens] at hpre
  refine ⟨rfl, ?_⟩
  have hml : s.length ≤ 140737488355328 := hds
  refine sw_seq ?_
  refine sw_region hP 1 [] rfl (by kernel_rfl) (fun _ => by kernel_rfl) (by first | trivial | (simp [conj]; done) | (simp [conj] at *; (try dsimp only [Ty.den, Ty.dflt] at *); omega)) ?_
  refine sw_seq ?_
  refine sw_seq ?_
  refine sw_region hP 2 [] rfl (by kernel_rfl) (fun _ => by kernel_rfl) ?_ ?_
  · skip
    exact trivial
  refine sw_cond rfl (fun c1 => ?_) (fun c1 => ?_)
  · skip
    refine sw_seq ?_
    refine sw_region hP 3 [] rfl (by kernel_rfl) (fun _ => by kernel_rfl) (by first | trivial | (simp [conj]; done) | (simp [conj] at *; (try dsimp only [Ty.den, Ty.dflt] at *); omega)) ?_
    refine sw_ret ⟨.inl rfl, _, rfl, ?_⟩
    first | (simp at c1; simp [conj, nameV, c1]; done) | (simp [List.getElem?_eq_getElem hlt] at g6_4; simp only [conj, nameV, hin, all_hit hlt hgo (lower_l g6_4)]; rfl) | (simp [List.getElem?_eq_getElem hlt] at c6; simp only [conj, nameV, hin, all_hit hlt hgo (lower_h c6)]; rfl) | (simp only [conj, nameV, hin, all_end hgo]; rfl)
  · skip
    refine sw_skip ?_
    refine sw_seq ?_
    refine sw_seq ?_
    refine sw_region hP 3 [] rfl (by kernel_rfl) (fun _ => by kernel_rfl) (by first | trivial | (simp [conj]; done) | (simp [conj] at *; (try dsimp only [Ty.den, Ty.dflt] at *); omega)) ?_
    refine sw_block ?_
    refine sw_loop (ι := Nat) (fun i => ⟨[.v false [.d .str pF s], .junk, .junk, sInt .i64 (i : Int), .junk, .junk, .junk, .junk, .junk, .junk, .junk, .junk, .junk, .junk, .junk, .junk, .junk, .junk, .junk, .junk, .junk, .junk, .junk, .junk], [], 3, []⟩) (fun i => s.length - i) (fun i => i ≤ s.length ∧ (inV s.length 1 3 = true) ∧ (s.drop i).all lower = s.all lower) 0 ⟨?_, ?_⟩ ?_
    · skip
      refine ⟨Nat.zero_le _, ?_, rfl⟩
      simpa using c1
    · refine ent_ok rfl ?_
      first | trivial | (simp [conj]; done) | (simp [conj] at *; (try dsimp only [Ty.den, Ty.dflt] at *); omega)
    · rintro i ⟨hi, hin, hgo⟩
      refine sw_seq ?_
      refine sw_seq ?_
      refine sw_region hP 4 [] rfl (by kernel_rfl) (fun _ => by kernel_rfl) (by first | trivial | (simp [conj]; done) | (simp [conj] at *; (try dsimp only [Ty.den, Ty.dflt] at *); omega)) ?_
      refine sw_cond rfl (fun c4 => ?_) (fun c4 => ?_)
      · skip
        have hlt : i < s.length := by simpa using c4
        refine sw_skip ?_
        refine sw_seq ?_
        refine sw_block ?_
        refine sw_seq ?_
        refine sw_dec hP 5 [] 4 rfl (fun g6_4 => ?_) (fun g6_4 => ?_)
        · skip
          refine sw_region hP 5 [(4, true)] rfl (by kernel_rfl) (fun _ => by kernel_rfl) (by first | trivial | (simp [conj]; done) | (simp [conj] at *; (try dsimp only [Ty.den, Ty.dflt] at *); omega)) ?_
          refine sw_condT rfl ?_
          refine sw_seq ?_
          refine sw_region hP 6 [] rfl (by kernel_rfl) (fun _ => by kernel_rfl) (by first | trivial | (simp [conj]; done) | (simp [conj] at *; (try dsimp only [Ty.den, Ty.dflt] at *); omega)) ?_
          refine sw_ret ⟨.inl rfl, _, rfl, ?_⟩
          first | (simp at c1; simp [conj, nameV, c1]; done) | (simp [List.getElem?_eq_getElem hlt] at g6_4; simp only [conj, nameV, hin, all_hit hlt hgo (lower_l g6_4)]; rfl) | (simp [List.getElem?_eq_getElem hlt] at c6; simp only [conj, nameV, hin, all_hit hlt hgo (lower_h c6)]; rfl) | (simp only [conj, nameV, hin, all_end hgo]; rfl)
        · skip
          refine sw_region hP 5 [(4, false)] rfl (by kernel_rfl) (fun _ => by kernel_rfl) (by first | trivial | (simp [conj]; done) | (simp [conj] at *; (try dsimp only [Ty.den, Ty.dflt] at *); omega)) ?_
          refine sw_cond rfl (fun c6 => ?_) (fun c6 => ?_)
          · skip
            refine sw_seq ?_
            refine sw_region hP 6 [] rfl (by kernel_rfl) (fun _ => by kernel_rfl) (by first | trivial | (simp [conj]; done) | (simp [conj] at *; (try dsimp only [Ty.den, Ty.dflt] at *); omega)) ?_
            refine sw_ret ⟨.inl rfl, _, rfl, ?_⟩
            first | (simp at c1; simp [conj, nameV, c1]; done) | (simp [List.getElem?_eq_getElem hlt] at g6_4; simp only [conj, nameV, hin, all_hit hlt hgo (lower_l g6_4)]; rfl) | (simp [List.getElem?_eq_getElem hlt] at c6; simp only [conj, nameV, hin, all_hit hlt hgo (lower_h c6)]; rfl) | (simp only [conj, nameV, hin, all_end hgo]; rfl)
          · skip
            refine sw_skip ?_
            refine sw_region hP 6 [] rfl (by kernel_rfl) (fun _ => by kernel_rfl) (by first | trivial | (simp [conj]; done) | (simp [conj] at *; (try dsimp only [Ty.den, Ty.dflt] at *); omega)) ?_
            refine ⟨i + 1, ?_, ?_, ent_ok rfl ?_⟩
            · skip
              simp [List.getElem?_eq_getElem hlt] at g6_4 c6
              exact ⟨hlt, hin, all_next hlt hgo (lower_t g6_4 c6)⟩
            · skip
              omega
            · skip
              simp [conj]
      · skip
        obtain rfl : i = s.length := by simp at c4; omega
        refine sw_exit ?_
        refine sw_seq ?_
        refine sw_region hP 5 [] rfl (by kernel_rfl) (fun _ => by kernel_rfl) (by first | trivial | (simp [conj]; done) | (simp [conj] at *; (try dsimp only [Ty.den, Ty.dflt] at *); omega)) ?_
        refine sw_ret ⟨.inl rfl, _, rfl, ?_⟩
        first | (simp at c1; simp [conj, nameV, c1]; done) | (simp [List.getElem?_eq_getElem hlt] at g6_4; simp only [conj, nameV, hin, all_hit hlt hgo (lower_l g6_4)]; rfl) | (simp [List.getElem?_eq_getElem hlt] at c6; simp only [conj, nameV, hin, all_hit hlt hgo (lower_h c6)]; rfl) | (simp only [conj, nameV, hin, all_end hgo]; rfl)

def cMok : Ctr := ⟨27, [.val true T_Model (.all .b)], fun _ => True, fun x => (sBool (mokV x.1), [])⟩
theorem cMok_ok : CtrOk Proofs.Try.prog cMok := by
  have hP := (((Prg.none ttok mtok).and cName_ok).and cFind_ok)
  refine ctr_of_body hP cMok (fn := Proofs.Try.f27) (rts := [.tmp 2]) Proofs.Try.func27 rfl (by kernel_rfl) rfl rfl ?_
  rintro ⟨(m : List Shf), ⟨⟩⟩ ⟨hdm, _⟩ hpre
  try dsimp only [Ty.den, Mode.den, mdens] at hpre
  refine ⟨rfl, ?_⟩
  have hml : m.length ≤ 140737488355328 := hdm.1
  refine sw_seq ?_
  refine sw_region hP 1 [] rfl (by kernel_rfl) (fun _ => by kernel_rfl) (by first | trivial | (simp [conj]; done) | (simp [conj] at *; (try dsimp only [Ty.den, Ty.dflt] at *); omega)) ?_
  refine sw_seq ?_
  refine sw_seq ?_
  refine sw_region hP 2 [] rfl (by kernel_rfl) (fun _ => by kernel_rfl) (by first | trivial | (simp [conj]; done) | (simp [conj] at *; (try dsimp only [Ty.den, Ty.dflt] at *); omega)) ?_
  refine sw_cond rfl (fun c1 => ?_) (fun c1 => ?_)
  · skip
    refine sw_seq ?_
    refine sw_region hP 3 [] rfl (by kernel_rfl) (fun _ => by kernel_rfl) (by first | trivial | (simp [conj]; done) | (simp [conj] at *; (try dsimp only [Ty.den, Ty.dflt] at *); omega)) ?_
    refine sw_ret ⟨.inl rfl, _, rfl, ?_⟩
    first | (exact (mokV_long (by simp at c1; exact_mod_cast c1)).symm) | (simp [List.getElem?_eq_getElem hltk] at c12; exact (mok_short hlt hgo (all_hit hltk hgk (by simp; omega))).symm) | (simp [List.getElem?_eq_getElem hlt] at c7; exact (mok_find hlt hgo c7).symm) | (simp [List.getElem?_eq_getElem hlt] at g7_10; exact (mok_len hlt hgo (by omega)).symm) | (simp [List.getElem?_eq_getElem hlt] at g7_4; exact (mok_name hlt hgo g7_4).symm) | (exact (mok_end hgo).symm)
  · skip
    refine sw_skip ?_
    refine sw_seq ?_
    refine sw_seq ?_
    refine sw_region hP 3 [] rfl (by kernel_rfl) (fun _ => by kernel_rfl) (by first | trivial | (simp [conj]; done) | (simp [conj] at *; (try dsimp only [Ty.den, Ty.dflt] at *); omega)) ?_
    refine sw_block ?_
    refine sw_loop (ι := Nat) (fun i => ⟨[.junk, .v false [.ptr ⟨1, 0, 0⟩ 0], .junk, sInt .i64 (i : Int), .junk, .junk, .junk, .junk, .junk, .junk, .junk, .junk, .junk, .junk, .junk, .junk, .junk, .junk, .junk, .junk, .junk, .junk, .junk, .junk, .junk, .junk, .junk, .junk, .junk, .junk, .junk, .junk, .junk, .junk, .junk, .junk, .junk, .junk, .junk, .junk, .junk, .junk, .junk, .junk, .junk, .junk, .junk, .junk, .junk, .junk, .junk, .junk, .junk, .junk], [(⟨1, 0, 0⟩, .var [.d T_Model (.all .b) m])], 3, []⟩) (fun i => m.length - i) (fun i => i ≤ m.length ∧ m.length ≤ 4 ∧ mokGo m (m.drop i) i = mokV m) 0 ⟨?_, ?_⟩ ?_
    · skip
      have h4 : m.length ≤ 4 := by simp at c1; omega
      exact ⟨Nat.zero_le _, h4, mokV_of h4⟩
    · refine ent_ok rfl ?_
      first | trivial | (simp [conj]; done) | (simp [conj] at *; (try dsimp only [Ty.den, Ty.dflt] at *); omega)
    · rintro i ⟨hi, h4, hgo⟩
      refine sw_seq ?_
      refine sw_seq ?_
      refine sw_region hP 4 [] rfl (by kernel_rfl) (fun _ => by kernel_rfl) (by first | trivial | (simp [conj]; done) | (simp [conj] at *; (try dsimp only [Ty.den, Ty.dflt] at *); omega)) ?_
      refine sw_cond rfl (fun c4 => ?_) (fun c4 => ?_)
      · skip
        have hlt : i < m.length := by simpa using c4
        have hbl : m[i].2.length ≤ 140737488355328 := (hdm.2 _ (List.getElem_mem hlt)).2.1
        refine sw_skip ?_
        refine sw_seq ?_
        refine sw_block ?_
        refine sw_seq ?_
        refine sw_region hP 5 [] rfl (by kernel_rfl) (fun _ => by kernel_rfl) (by first | trivial | (simp [conj]; done) | (simp [conj] at *; (try dsimp only [Ty.den, Ty.dflt] at *); omega)) ?_
        refine sw_seq ?_
        refine sw_seq ?_
        refine sw_dec hP 6 [] 4 rfl (fun g7_4 => ?_) (fun g7_4 => ?_)
        · skip
          refine sw_region hP 6 [(4, true)] rfl (by kernel_rfl) (fun _ => by kernel_rfl) (by first | trivial | (simp [conj]; done) | (simp [conj] at *; (try dsimp only [Ty.den, Ty.dflt] at *); omega)) ?_
          refine sw_condT rfl ?_
          refine sw_seq ?_
          refine sw_region hP 7 [] rfl (by kernel_rfl) (fun _ => by kernel_rfl) (by first | trivial | (simp [conj]; done) | (simp [conj] at *; (try dsimp only [Ty.den, Ty.dflt] at *); omega)) ?_
          refine sw_ret ⟨.inl rfl, _, rfl, ?_⟩
          first | (exact (mokV_long (by simp at c1; exact_mod_cast c1)).symm) | (simp [List.getElem?_eq_getElem hltk] at c12; exact (mok_short hlt hgo (all_hit hltk hgk (by simp; omega))).symm) | (simp [List.getElem?_eq_getElem hlt] at c7; exact (mok_find hlt hgo c7).symm) | (simp [List.getElem?_eq_getElem hlt] at g7_10; exact (mok_len hlt hgo (by omega)).symm) | (simp [List.getElem?_eq_getElem hlt] at g7_4; exact (mok_name hlt hgo g7_4).symm) | (exact (mok_end hgo).symm)
        · skip
          refine sw_dec hP 6 [(4, false)] 10 rfl (fun g7_10 => ?_) (fun g7_10 => ?_)
          · skip
            refine sw_region hP 6 [(4, false), (10, true)] rfl (by kernel_rfl) (fun _ => by kernel_rfl) (by first | trivial | (simp [conj]; done) | (simp [conj] at *; (try dsimp only [Ty.den, Ty.dflt] at *); omega)) ?_
            refine sw_condT rfl ?_
            refine sw_seq ?_
            refine sw_region hP 7 [] rfl (by kernel_rfl) (fun _ => by kernel_rfl) (by first | trivial | (simp [conj]; done) | (simp [conj] at *; (try dsimp only [Ty.den, Ty.dflt] at *); omega)) ?_
            refine sw_ret ⟨.inl rfl, _, rfl, ?_⟩
            first | (exact (mokV_long (by simp at c1; exact_mod_cast c1)).symm) | (simp [List.getElem?_eq_getElem hltk] at c12; exact (mok_short hlt hgo (all_hit hltk hgk (by simp; omega))).symm) | (simp [List.getElem?_eq_getElem hlt] at c7; exact (mok_find hlt hgo c7).symm) | (simp [List.getElem?_eq_getElem hlt] at g7_10; exact (mok_len hlt hgo (by omega)).symm) | (simp [List.getElem?_eq_getElem hlt] at g7_4; exact (mok_name hlt hgo g7_4).symm) | (exact (mok_end hgo).symm)
          · skip
            refine sw_region hP 6 [(4, false), (10, false)] rfl (by kernel_rfl) (fun _ => by kernel_rfl) (by first | trivial | (simp [conj]; done) | (simp [conj] at *; (try dsimp only [Ty.den, Ty.dflt] at *); omega)) ?_
            refine sw_cond rfl (fun c7 => ?_) (fun c7 => ?_)
            · skip
              refine sw_seq ?_
              refine sw_region hP 7 [] rfl (by kernel_rfl) (fun _ => by kernel_rfl) (by first | trivial | (simp [conj]; done) | (simp [conj] at *; (try dsimp only [Ty.den, Ty.dflt] at *); omega)) ?_
              refine sw_ret ⟨.inl rfl, _, rfl, ?_⟩
              first | (exact (mokV_long (by simp at c1; exact_mod_cast c1)).symm) | (simp [List.getElem?_eq_getElem hltk] at c12; exact (mok_short hlt hgo (all_hit hltk hgk (by simp; omega))).symm) | (simp [List.getElem?_eq_getElem hlt] at c7; exact (mok_find hlt hgo c7).symm) | (simp [List.getElem?_eq_getElem hlt] at g7_10; exact (mok_len hlt hgo (by omega)).symm) | (simp [List.getElem?_eq_getElem hlt] at g7_4; exact (mok_name hlt hgo g7_4).symm) | (exact (mok_end hgo).symm)
            · skip
              refine sw_skip ?_
              refine sw_seq ?_
              refine sw_region hP 7 [] rfl (by kernel_rfl) (fun _ => by kernel_rfl) (by first | trivial | (simp [conj]; done) | (simp [conj] at *; (try dsimp only [Ty.den, Ty.dflt] at *); omega)) ?_
              refine sw_block ?_
              refine sw_loop (ι := Nat) (fun k => ⟨[.junk, .v false [.ptr ⟨1, 0, 0⟩ 0], .junk, sInt .i64 (i : Int), .v false [.ptr ⟨5, 5, 0⟩ 0], sInt .i64 (k : Int), .junk, .junk, .junk, .junk, .junk, .junk, .junk, .junk, .junk, .junk, .junk, .junk, .junk, .junk, .junk, .junk, .junk, .junk, .junk, .junk, .junk, .junk, .junk, .junk, .junk, .junk, .junk, .junk, .junk, .junk, .junk, .junk, .junk, .junk, .junk, .junk, .junk, .junk, .junk, .junk, .junk, .junk, .junk, .junk, .junk, .junk, .junk, .junk], [(⟨1, 0, 0⟩, .var [.d T_Model (.all .b) m]), (⟨5, 5, 0⟩, .var [.d .str pF m[i].1, .d (.sl .str) (.all .b) m[i].2])], 7, []⟩) (fun k => m[i].2.length - k) (fun k => k ≤ m[i].2.length ∧ ((m[i].2).drop k).all (fun t => decide (t.length ≤ 9)) = shortV m[i].2) 0 ⟨?_, ?_⟩ ?_
              · skip
                exact ⟨Nat.zero_le _, rfl⟩
              · refine ent_ok rfl ?_
                simp [conj, List.getElem?_eq_getElem hlt]
              · rintro k ⟨hk, hgk⟩
                refine sw_seq ?_
                refine sw_seq ?_
                refine sw_region hP 8 [] rfl (by kernel_rfl) (fun _ => by kernel_rfl) (by first | trivial | (simp [conj]; done) | (simp [conj] at *; (try dsimp only [Ty.den, Ty.dflt] at *); omega)) ?_
                refine sw_cond rfl (fun c10 => ?_) (fun c10 => ?_)
                · skip
                  have hltk : k < m[i].2.length := by simpa using c10
                  refine sw_skip ?_
                  refine sw_seq ?_
                  refine sw_block ?_
                  refine sw_seq ?_
                  refine sw_region hP 9 [] rfl (by kernel_rfl) (fun _ => by kernel_rfl) (by first | trivial | (simp [conj]; done) | (simp [conj] at *; (try dsimp only [Ty.den, Ty.dflt] at *); omega)) ?_
                  refine sw_cond rfl (fun c12 => ?_) (fun c12 => ?_)
                  · skip
                    refine sw_seq ?_
                    refine sw_region hP 10 [] rfl (by kernel_rfl) (fun _ => by kernel_rfl) (by first | trivial | (simp [conj]; done) | (simp [conj] at *; (try dsimp only [Ty.den, Ty.dflt] at *); omega)) ?_
                    refine sw_ret ⟨.inl rfl, _, rfl, ?_⟩
                    first | (exact (mokV_long (by simp at c1; exact_mod_cast c1)).symm) | (simp [List.getElem?_eq_getElem hltk] at c12; exact (mok_short hlt hgo (all_hit hltk hgk (by simp; omega))).symm) | (simp [List.getElem?_eq_getElem hlt] at c7; exact (mok_find hlt hgo c7).symm) | (simp [List.getElem?_eq_getElem hlt] at g7_10; exact (mok_len hlt hgo (by omega)).symm) | (simp [List.getElem?_eq_getElem hlt] at g7_4; exact (mok_name hlt hgo g7_4).symm) | (exact (mok_end hgo).symm)
                  · skip
                    refine sw_skip ?_
                    refine sw_region hP 10 [] rfl (by kernel_rfl) (fun _ => by kernel_rfl) (by first | trivial | (simp [conj]; done) | (simp [conj] at *; (try dsimp only [Ty.den, Ty.dflt] at *); omega)) ?_
                    refine ⟨k + 1, ?_, ?_, ent_ok rfl ?_⟩
                    · skip
                      simp [List.getElem?_eq_getElem hltk] at c12
                      exact ⟨hltk, all_next hltk hgk (by simp; omega)⟩
                    · skip
                      omega
                    · skip
                      simp [conj]
                · skip
                  obtain rfl : k = m[i].2.length := by simp at c10; omega
                  refine sw_exit ?_
                  refine sw_region hP 9 [] rfl (by kernel_rfl) (fun _ => by kernel_rfl) (by first | trivial | (simp [conj]; done) | (simp [conj] at *; (try dsimp only [Ty.den, Ty.dflt] at *); omega)) ?_
                  refine ⟨i + 1, ?_, ?_, ent_ok rfl ?_⟩
                  · skip
                    simp [List.getElem?_eq_getElem hlt] at g7_4 g7_10 c7
                    exact ⟨hlt, h4, mok_next hlt hgo g7_4 (by omega) c7 (all_end hgk)⟩
                  · skip
                    omega
                  · skip
                    simp [conj]
      · skip
        obtain rfl : i = m.length := by simp at c4; omega
        refine sw_exit ?_
        refine sw_seq ?_
        refine sw_region hP 5 [] rfl (by kernel_rfl) (fun _ => by kernel_rfl) (by first | trivial | (simp [conj]; done) | (simp [conj] at *; (try dsimp only [Ty.den, Ty.dflt] at *); omega)) ?_
        refine sw_ret ⟨.inl rfl, _, rfl, ?_⟩
        first | (exact (mokV_long (by simp at c1; exact_mod_cast c1)).symm) | (simp [List.getElem?_eq_getElem hltk] at c12; exact (mok_short hlt hgo (all_hit hltk hgk (by simp; omega))).symm) | (simp [List.getElem?_eq_getElem hlt] at c7; exact (mok_find hlt hgo c7).symm) | (simp [List.getElem?_eq_getElem hlt] at g7_10; exact (mok_len hlt hgo (by omega)).symm) | (simp [List.getElem?_eq_getElem hlt] at g7_4; exact (mok_name hlt hgo g7_4).symm) | (exact (mok_end hgo).symm)

def cAdd : Ctr := ⟨45, [.val true T_Model (.all .b), .val false .str pF], fun _ => True, fun x => (sInt .i64 (addV x.1 x.2.1), [])⟩
theorem cAdd_ok : CtrOk Proofs.Try.prog cAdd := by
  have hP := (((Prg.none ttok mtok).and cName_ok).and cFind_ok)
  refine ctr_of_body hP cAdd (fn := Proofs.Try.f45) (rts := [.tmp 4]) Proofs.Try.func45 rfl (by kernel_rfl) rfl rfl ?_
  rintro ⟨(m : List Shf), (name : Str), ⟨⟩⟩ ⟨hdm, _⟩ hpre
  try dsimp only [Ty.den, Mode.den, mdens] at hpre
  refine ⟨rfl, ?_⟩
  have hml : m.length ≤ 140737488355328 := hdm.1
  refine sw_seq ?_
  refine sw_region hP 1 [] rfl (by kernel_rfl) (fun _ => by kernel_rfl) (by first | trivial | (simp [conj]; done) | (simp [conj] at *; (try dsimp only [Ty.den, Ty.dflt] at *); omega)) ?_
  refine sw_seq ?_
  refine sw_seq ?_
  refine sw_dec hP 2 [] 3 rfl (fun g1_3 => ?_) (fun g1_3 => ?_)
  · skip
    refine sw_region hP 2 [(3, true)] rfl (by kernel_rfl) (fun _ => by kernel_rfl) (by first | trivial | (simp [conj]; done) | (simp [conj] at *; (try dsimp only [Ty.den, Ty.dflt] at *); omega)) ?_
    refine sw_condT rfl ?_
    refine sw_seq ?_
    refine sw_region hP 3 [] rfl (by kernel_rfl) (fun _ => by kernel_rfl) (by first | trivial | (simp [conj]; done) | (simp [conj] at *; (try dsimp only [Ty.den, Ty.dflt] at *); omega)) ?_
    refine sw_ret ⟨.inl rfl, _, rfl, ?_⟩
    simp at *
    first | exact (addV_name g1_3).symm | exact (addV_there c1).symm | exact (addV_full g1_3 c1 c3).symm | exact (addV_fine g1_3 c1 c3).symm
  · skip
    refine sw_region hP 2 [(3, false)] rfl (by kernel_rfl) (fun _ => by kernel_rfl) (by first | trivial | (simp [conj]; done) | (simp [conj] at *; (try dsimp only [Ty.den, Ty.dflt] at *); omega)) ?_
    refine sw_cond rfl (fun c1 => ?_) (fun c1 => ?_)
    · skip
      refine sw_seq ?_
      refine sw_region hP 3 [] rfl (by kernel_rfl) (fun _ => by kernel_rfl) (by first | trivial | (simp [conj]; done) | (simp [conj] at *; (try dsimp only [Ty.den, Ty.dflt] at *); omega)) ?_
      refine sw_ret ⟨.inl rfl, _, rfl, ?_⟩
      simp at *
      first | exact (addV_name g1_3).symm | exact (addV_there c1).symm | exact (addV_full g1_3 c1 c3).symm | exact (addV_fine g1_3 c1 c3).symm
    · skip
      refine sw_skip ?_
      refine sw_seq ?_
      refine sw_seq ?_
      refine sw_region hP 3 [] rfl (by kernel_rfl) (fun _ => by kernel_rfl) (by first | trivial | (simp [conj]; done) | (simp [conj] at *; (try dsimp only [Ty.den, Ty.dflt] at *); omega)) ?_
      refine sw_cond rfl (fun c3 => ?_) (fun c3 => ?_)
      · skip
        refine sw_seq ?_
        refine sw_region hP 4 [] rfl (by kernel_rfl) (fun _ => by kernel_rfl) (by first | trivial | (simp [conj]; done) | (simp [conj] at *; (try dsimp only [Ty.den, Ty.dflt] at *); omega)) ?_
        refine sw_ret ⟨.inl rfl, _, rfl, ?_⟩
        simp at *
        first | exact (addV_name g1_3).symm | exact (addV_there c1).symm | exact (addV_full g1_3 c1 c3).symm | exact (addV_fine g1_3 c1 c3).symm
      · skip
        refine sw_skip ?_
        refine sw_seq ?_
        refine sw_region hP 4 [] rfl (by kernel_rfl) (fun _ => by kernel_rfl) (by first | trivial | (simp [conj]; done) | (simp [conj] at *; (try dsimp only [Ty.den, Ty.dflt] at *); omega)) ?_
        refine sw_ret ⟨.inl rfl, _, rfl, ?_⟩
        simp at *
        first | exact (addV_name g1_3).symm | exact (addV_there c1).symm | exact (addV_full g1_3 c1 c3).symm | exact (addV_fine g1_3 c1 c3).symm

def cTexts : Ctr := ⟨34, [.val false (.sl .str) (.all .b), .val false (.sl .str) (.all .b)], fun _ => True, fun x => (sBool (decide ((x.1 : List Str) = x.2.1)), [])⟩
theorem cTexts_ok : CtrOk Proofs.Try.prog cTexts := by
  have hP := (Prg.none ttok mtok)
  refine ctr_of_body hP cTexts (fn := Proofs.Try.f34) (rts := [.tmp 4]) Proofs.Try.func34 rfl (by kernel_rfl) rfl rfl ?_
  rintro ⟨(a : List Str), (b : List Str), ⟨⟩⟩ ⟨hda, _⟩ hpre
  try dsimp only [Ty.den, Mode.den, mdens] at hpre
  refine ⟨rfl, ?_⟩
  have hml : a.length ≤ 140737488355328 := hda.1
  refine sw_seq ?_
  refine sw_region hP 1 [] rfl (by kernel_rfl) (fun _ => by kernel_rfl) (by first | trivial | (simp [conj]; done) | (simp [conj] at *; (try dsimp only [Ty.den, Ty.dflt] at *); omega)) ?_
  refine sw_seq ?_
  refine sw_seq ?_
  refine sw_region hP 2 [] rfl (by kernel_rfl) (fun _ => by kernel_rfl) (by first | trivial | (simp [conj]; done) | (simp [conj] at *; (try dsimp only [Ty.den, Ty.dflt] at *); omega)) ?_
  refine sw_cond rfl (fun c1 => ?_) (fun c1 => ?_)
  · skip
    refine sw_seq ?_
    refine sw_region hP 3 [] rfl (by kernel_rfl) (fun _ => by kernel_rfl) (by first | trivial | (simp [conj]; done) | (simp [conj] at *; (try dsimp only [Ty.den, Ty.dflt] at *); omega)) ?_
    refine sw_ret ⟨.inl rfl, _, rfl, ?_⟩
    first | (exact (eq_len (by simp at c1; exact_mod_cast c1)).symm) | (simp [List.getElem?_eq_getElem hlt, List.getElem?_eq_getElem hlt2] at c6; exact (eq_hit hlt hlt2 hgo c6).symm) | exact (eq_end hab hgo).symm
  · skip
    have hab : a.length = b.length := by simp at c1; omega
    refine sw_skip ?_
    refine sw_seq ?_
    refine sw_seq ?_
    refine sw_region hP 3 [] rfl (by kernel_rfl) (fun _ => by kernel_rfl) (by first | trivial | (simp [conj]; done) | (simp [conj] at *; (try dsimp only [Ty.den, Ty.dflt] at *); omega)) ?_
    refine sw_block ?_
    refine sw_loop (ι := Nat) (fun i => ⟨[.v false [.d (.sl .str) (.all .b) a], .v false [.d (.sl .str) (.all .b) b], .junk, .junk, .junk, sInt .i64 (i : Int), .junk, .junk, .junk, .junk, .junk, .junk, .junk, .junk, .junk, .junk, .junk, .junk, .junk, .junk, .junk, .junk, .junk, .junk, .junk, .junk], [], 3, []⟩) (fun i => a.length - i) (fun i => i ≤ a.length ∧ decide (a.drop i = b.drop i) = decide (a = b)) 0 ⟨?_, ?_⟩ ?_
    · skip
      exact ⟨Nat.zero_le _, rfl⟩
    · refine ent_ok rfl ?_
      first | trivial | (simp [conj]; done) | (simp [conj] at *; (try dsimp only [Ty.den, Ty.dflt] at *); omega)
    · rintro i ⟨hi, hgo⟩
      refine sw_seq ?_
      refine sw_seq ?_
      refine sw_region hP 4 [] rfl (by kernel_rfl) (fun _ => by kernel_rfl) (by first | trivial | (simp [conj]; done) | (simp [conj] at *; (try dsimp only [Ty.den, Ty.dflt] at *); omega)) ?_
      refine sw_cond rfl (fun c4 => ?_) (fun c4 => ?_)
      · skip
        have hlt : i < a.length := by simpa using c4
        have hlt2 : i < b.length := by omega
        refine sw_skip ?_
        refine sw_seq ?_
        refine sw_block ?_
        refine sw_seq ?_
        refine sw_region hP 5 [] rfl (by kernel_rfl) (fun _ => by kernel_rfl) (by first | trivial | (simp [conj]; done) | (simp [conj] at *; (try dsimp only [Ty.den, Ty.dflt] at *); omega)) ?_
        refine sw_cond rfl (fun c6 => ?_) (fun c6 => ?_)
        · skip
          refine sw_seq ?_
          refine sw_region hP 6 [] rfl (by kernel_rfl) (fun _ => by kernel_rfl) (by first | trivial | (simp [conj]; done) | (simp [conj] at *; (try dsimp only [Ty.den, Ty.dflt] at *); omega)) ?_
          refine sw_ret ⟨.inl rfl, _, rfl, ?_⟩
          first | (exact (eq_len (by simp at c1; exact_mod_cast c1)).symm) | (simp [List.getElem?_eq_getElem hlt, List.getElem?_eq_getElem hlt2] at c6; exact (eq_hit hlt hlt2 hgo c6).symm) | exact (eq_end hab hgo).symm
        · skip
          refine sw_skip ?_
          refine sw_region hP 6 [] rfl (by kernel_rfl) (fun _ => by kernel_rfl) (by first | trivial | (simp [conj]; done) | (simp [conj] at *; (try dsimp only [Ty.den, Ty.dflt] at *); omega)) ?_
          refine ⟨i + 1, ?_, ?_, ent_ok rfl ?_⟩
          · skip
            simp [List.getElem?_eq_getElem hlt, List.getElem?_eq_getElem hlt2] at c6
            exact ⟨hlt, eq_next hlt hlt2 hgo c6⟩
          · skip
            omega
          · skip
            simp [conj]
      · skip
        obtain rfl : i = a.length := by simp at c4; omega
        refine sw_exit ?_
        refine sw_seq ?_
        refine sw_region hP 5 [] rfl (by kernel_rfl) (fun _ => by kernel_rfl) (by first | trivial | (simp [conj]; done) | (simp [conj] at *; (try dsimp only [Ty.den, Ty.dflt] at *); omega)) ?_
        refine sw_ret ⟨.inl rfl, _, rfl, ?_⟩
        first | (exact (eq_len (by simp at c1; exact_mod_cast c1)).symm) | (simp [List.getElem?_eq_getElem hlt, List.getElem?_eq_getElem hlt2] at c6; exact (eq_hit hlt hlt2 hgo c6).symm) | exact (eq_end hab hgo).symm

def cModels : Ctr := ⟨10, [.val true T_Model (.all .b), .val true T_Model (.all .b)], fun _ => True, fun x => (sBool (decide ((x.1 : List Shf) = x.2.1)), [])⟩
theorem cModels_ok : CtrOk Proofs.Try.prog cModels := by
  have hP := ((Prg.none ttok mtok).and cTexts_ok)
  refine ctr_of_body hP cModels (fn := Proofs.Try.f10) (rts := [.tmp 4]) Proofs.Try.func10 rfl (by kernel_rfl) rfl rfl ?_
  rintro ⟨(a : List Shf), (b : List Shf), ⟨⟩⟩ ⟨hda, _⟩ hpre
  try dsimp only [Ty.den, Mode.den, mdens] at hpre
  refine ⟨rfl, ?_⟩
  have hml : a.length ≤ 140737488355328 := hda.1
  refine sw_seq ?_
  refine sw_region hP 1 [] rfl (by kernel_rfl) (fun _ => by kernel_rfl) (by first | trivial | (simp [conj]; done) | (simp [conj] at *; (try dsimp only [Ty.den, Ty.dflt] at *); omega)) ?_
  refine sw_seq ?_
  refine sw_seq ?_
  refine sw_region hP 2 [] rfl (by kernel_rfl) (fun _ => by kernel_rfl) (by first | trivial | (simp [conj]; done) | (simp [conj] at *; (try dsimp only [Ty.den, Ty.dflt] at *); omega)) ?_
  refine sw_cond rfl (fun c1 => ?_) (fun c1 => ?_)
  · skip
    refine sw_seq ?_
    refine sw_region hP 3 [] rfl (by kernel_rfl) (fun _ => by kernel_rfl) (by first | trivial | (simp [conj]; done) | (simp [conj] at *; (try dsimp only [Ty.den, Ty.dflt] at *); omega)) ?_
    refine sw_ret ⟨.inl rfl, _, rfl, ?_⟩
    first | (exact (eq_len (by simp at c1; exact_mod_cast c1)).symm) | (simp [List.getElem?_eq_getElem hlt, List.getElem?_eq_getElem hlt2] at c6; exact (eq_hit hlt hlt2 hgo (fun e => c6 (by rw [e]))).symm) | (simp [List.getElem?_eq_getElem hlt, List.getElem?_eq_getElem hlt2] at g6_13; exact (eq_hit hlt hlt2 hgo (fun e => g6_13 (by rw [e]))).symm) | exact (eq_end hab hgo).symm
  · skip
    have hab : a.length = b.length := by simp at c1; omega
    refine sw_skip ?_
    refine sw_seq ?_
    refine sw_seq ?_
    refine sw_region hP 3 [] rfl (by kernel_rfl) (fun _ => by kernel_rfl) (by first | trivial | (simp [conj]; done) | (simp [conj] at *; (try dsimp only [Ty.den, Ty.dflt] at *); omega)) ?_
    refine sw_block ?_
    refine sw_loop (ι := Nat) (fun i => ⟨[.junk, .junk, .v false [.ptr ⟨1, 0, 0⟩ 0], .v false [.ptr ⟨1, 1, 0⟩ 0], .junk, sInt .i64 (i : Int), .junk, .junk, .junk, .junk, .junk, .junk, .junk, .junk, .junk, .junk, .junk, .junk, .junk, .junk, .junk, .junk, .junk, .junk, .junk, .junk, .junk, .junk, .junk, .junk, .junk, .junk, .junk, .junk, .junk, .junk, .junk, .junk, .junk, .junk, .junk, .junk, .junk, .junk, .junk, .junk, .junk, .junk, .junk], [(⟨1, 0, 0⟩, .var [.d T_Model (.all .b) a]), (⟨1, 1, 0⟩, .var [.d T_Model (.all .b) b])], 3, []⟩) (fun i => a.length - i) (fun i => i ≤ a.length ∧ decide (a.drop i = b.drop i) = decide (a = b)) 0 ⟨?_, ?_⟩ ?_
    · skip
      exact ⟨Nat.zero_le _, rfl⟩
    · refine ent_ok rfl ?_
      first | trivial | (simp [conj]; done) | (simp [conj] at *; (try dsimp only [Ty.den, Ty.dflt] at *); omega)
    · rintro i ⟨hi, hgo⟩
      refine sw_seq ?_
      refine sw_seq ?_
      refine sw_region hP 4 [] rfl (by kernel_rfl) (fun _ => by kernel_rfl) (by first | trivial | (simp [conj]; done) | (simp [conj] at *; (try dsimp only [Ty.den, Ty.dflt] at *); omega)) ?_
      refine sw_cond rfl (fun c4 => ?_) (fun c4 => ?_)
      · skip
        have hlt : i < a.length := by simpa using c4
        have hlt2 : i < b.length := by omega
        refine sw_skip ?_
        refine sw_seq ?_
        refine sw_block ?_
        refine sw_seq ?_
        refine sw_dec hP 5 [] 13 rfl (fun g6_13 => ?_) (fun g6_13 => ?_)
        · skip
          refine sw_region hP 5 [(13, true)] rfl (by kernel_rfl) (fun _ => by kernel_rfl) ?_ ?_
          · skip
            simp [conj, maxL] at *
            try dsimp only [Ty.den, Ty.dflt] at *
            try simp only [rd_eta] at *
            repeat' apply And.intro
            all_goals first | assumption | omega | exact trivial
          refine sw_condT rfl ?_
          refine sw_seq ?_
          refine sw_region hP 6 [] rfl (by kernel_rfl) (fun _ => by kernel_rfl) (by first | trivial | (simp [conj]; done) | (simp [conj] at *; (try dsimp only [Ty.den, Ty.dflt] at *); omega)) ?_
          refine sw_ret ⟨.inl rfl, _, rfl, ?_⟩
          first | (exact (eq_len (by simp at c1; exact_mod_cast c1)).symm) | (simp [List.getElem?_eq_getElem hlt, List.getElem?_eq_getElem hlt2] at c6; exact (eq_hit hlt hlt2 hgo (fun e => c6 (by rw [e]))).symm) | (simp [List.getElem?_eq_getElem hlt, List.getElem?_eq_getElem hlt2] at g6_13; exact (eq_hit hlt hlt2 hgo (fun e => g6_13 (by rw [e]))).symm) | exact (eq_end hab hgo).symm
        · skip
          refine sw_region hP 5 [(13, false)] rfl (by kernel_rfl) (fun _ => by kernel_rfl) ?_ ?_
          · skip
            simp [conj, maxL] at *
            try dsimp only [Ty.den, Ty.dflt] at *
            try simp only [rd_eta] at *
            repeat' apply And.intro
            all_goals first | assumption | omega | exact trivial
          refine sw_cond rfl (fun c6 => ?_) (fun c6 => ?_)
          · skip
            refine sw_seq ?_
            refine sw_region hP 6 [] rfl (by kernel_rfl) (fun _ => by kernel_rfl) (by first | trivial | (simp [conj]; done) | (simp [conj] at *; (try dsimp only [Ty.den, Ty.dflt] at *); omega)) ?_
            refine sw_ret ⟨.inl rfl, _, rfl, ?_⟩
            first | (exact (eq_len (by simp at c1; exact_mod_cast c1)).symm) | (simp [List.getElem?_eq_getElem hlt, List.getElem?_eq_getElem hlt2] at c6; exact (eq_hit hlt hlt2 hgo (fun e => c6 (by rw [e]))).symm) | (simp [List.getElem?_eq_getElem hlt, List.getElem?_eq_getElem hlt2] at g6_13; exact (eq_hit hlt hlt2 hgo (fun e => g6_13 (by rw [e]))).symm) | exact (eq_end hab hgo).symm
          · skip
            refine sw_skip ?_
            refine sw_region hP 6 [] rfl (by kernel_rfl) (fun _ => by kernel_rfl) (by first | trivial | (simp [conj]; done) | (simp [conj] at *; (try dsimp only [Ty.den, Ty.dflt] at *); omega)) ?_
            refine ⟨i + 1, ?_, ?_, ent_ok rfl ?_⟩
            · skip
              simp [List.getElem?_eq_getElem hlt, List.getElem?_eq_getElem hlt2] at g6_13 c6
              exact ⟨hlt, eq_next hlt hlt2 hgo (Prod.ext g6_13 c6)⟩
            · skip
              omega
            · skip
              simp [conj]
      · skip
        obtain rfl : i = a.length := by simp at c4; omega
        refine sw_exit ?_
        refine sw_seq ?_
        refine sw_region hP 5 [] rfl (by kernel_rfl) (fun _ => by kernel_rfl) (by first | trivial | (simp [conj]; done) | (simp [conj] at *; (try dsimp only [Ty.den, Ty.dflt] at *); omega)) ?_
        refine sw_ret ⟨.inl rfl, _, rfl, ?_⟩
        first | (exact (eq_len (by simp at c1; exact_mod_cast c1)).symm) | (simp [List.getElem?_eq_getElem hlt, List.getElem?_eq_getElem hlt2] at c6; exact (eq_hit hlt hlt2 hgo (fun e => c6 (by rw [e]))).symm) | (simp [List.getElem?_eq_getElem hlt, List.getElem?_eq_getElem hlt2] at g6_13; exact (eq_hit hlt hlt2 hgo (fun e => g6_13 (by rw [e]))).symm) | exact (eq_end hab hgo).symm
end Go.Sx
