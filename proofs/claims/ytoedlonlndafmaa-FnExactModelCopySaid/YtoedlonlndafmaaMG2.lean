import Derived.Test.YtoedlonlndafmaaMBase
import Derived.Test.YtoedlonlndafmaaMPm
set_option linter.all false
namespace Go.Sx
open Go
set_option maxRecDepth 100000
set_option linter.unusedVariables false
set_option linter.unusedSimpArgs false

def cIn : Ctr := ⟨35, [.val false TI pF, .val false TI pF, .val false TI pF], fun _ => True, fun x => (sBool (inV x.1 x.2.1 x.2.2.1), [])⟩
theorem cIn_ok : CtrOk Proofs.Try.prog cIn := by
  have hP := (Prg.none ttok mtok)
  refine ctr_of_body hP cIn (fn := Proofs.Try.f35) (rts := [.tmp 6]) Proofs.Try.func35 rfl (by kernel_rfl) rfl rfl ?_
  rintro ⟨(n : Int), (lo : Int), (hi : Int), ⟨⟩⟩ hd hpre
  try dsimp only [Ty.den, Mode.den, mdens] at hpre
  refine ⟨rfl, ?_⟩
  refine sw_seq ?_
  refine sw_region hP 1 [] rfl (by kernel_rfl) (fun _ => by kernel_rfl) (by first | trivial | (simp [conj]; done) | (simp [conj] at *; (try dsimp only [Ty.den, Ty.dflt] at *); omega)) ?_
  refine sw_seq ?_
  refine sw_dec hP 2 [] 3 rfl (fun g1_3 => ?_) (fun g1_3 => ?_)
  · skip
    refine sw_region hP 2 [(3, true)] rfl (by kernel_rfl) (fun _ => by kernel_rfl) (by first | trivial | (simp [conj]; done) | (simp [conj] at *; (try dsimp only [Ty.den, Ty.dflt] at *); omega)) ?_
    refine sw_ret ⟨.inl rfl, _, rfl, ?_⟩
    simp [conj] at *
    simp [inV, *]
    try omega
  · skip
    refine sw_region hP 2 [(3, false)] rfl (by kernel_rfl) (fun _ => by kernel_rfl) (by first | trivial | (simp [conj]; done) | (simp [conj] at *; (try dsimp only [Ty.den, Ty.dflt] at *); omega)) ?_
    refine sw_ret ⟨.inl rfl, _, rfl, ?_⟩
    simp [conj] at *
    simp [inV, *]
    try omega

def cFind : Ctr := ⟨23, [.val true T_Model (.all .b), .val false .str pF], fun _ => True, fun x => (sInt .i64 (findV x.1 x.2.1), [])⟩
theorem cFind_ok : CtrOk Proofs.Try.prog cFind := by
  have hP := (Prg.none ttok mtok)
  refine ctr_of_body hP cFind (fn := Proofs.Try.f23) (rts := [.tmp 4]) Proofs.Try.func23 rfl (by kernel_rfl) rfl rfl ?_
  rintro ⟨(m : List Shf), (name : Str), ⟨⟩⟩ ⟨hdm, hdn⟩ hpre
  try dsimp only [Ty.den, Mode.den, mdens] at hpre
  refine ⟨rfl, ?_⟩
  have hml : m.length ≤ 140737488355328 := hdm.1
  refine sw_seq ?_
  refine sw_region hP 1 [] rfl (by kernel_rfl) (fun _ => by kernel_rfl) (by first | trivial | (simp [conj]; done) | (simp [conj] at *; (try dsimp only [Ty.den, Ty.dflt] at *); omega)) ?_
  refine sw_seq ?_
  refine sw_seq ?_
  refine sw_region hP 2 [] rfl (by kernel_rfl) (fun _ => by kernel_rfl) (by first | trivial | (simp [conj]; done) | (simp [conj] at *; (try dsimp only [Ty.den, Ty.dflt] at *); omega)) ?_
  refine sw_block ?_
  refine sw_loop (ι := Nat) (fun i => ⟨[.junk, .v false [.d .str pF name], .v false [.ptr ⟨1, 0, 0⟩ 0], .junk, .junk, sInt .i64 (i : Int), .junk, .junk, .junk, .junk, .junk, .junk, .junk, .junk, .junk, .junk, .junk, .junk, .junk, .junk, .junk, .junk], [(⟨1, 0, 0⟩, .var [.d T_Model (.all .b) m])], 2, []⟩) (fun i => m.length - i) (fun i => i ≤ m.length ∧ findGo name (m.drop i) i = findV m name) 0 ⟨?_, ?_⟩ ?_
  · skip
    exact ⟨Nat.zero_le _, rfl⟩
  · refine ent_ok rfl ?_
    first | trivial | (simp [conj]; done) | (simp [conj] at *; (try dsimp only [Ty.den, Ty.dflt] at *); omega)
  · rintro i ⟨hi, hgo⟩
    refine sw_seq ?_
    refine sw_seq ?_
    refine sw_region hP 3 [] rfl (by kernel_rfl) (fun _ => by kernel_rfl) (by first | trivial | (simp [conj]; done) | (simp [conj] at *; (try dsimp only [Ty.den, Ty.dflt] at *); omega)) ?_
    refine sw_cond rfl (fun c2 => ?_) (fun c2 => ?_)
    · skip
      have hlt : i < m.length := by simpa using c2
      refine sw_skip ?_
      refine sw_seq ?_
      refine sw_block ?_
      refine sw_seq ?_
      refine sw_region hP 4 [] rfl (by kernel_rfl) (fun _ => by kernel_rfl) (by first | trivial | (simp [conj]; done) | (simp [conj] at *; (try dsimp only [Ty.den, Ty.dflt] at *); omega)) ?_
      refine sw_cond rfl (fun c4 => ?_) (fun c4 => ?_)
      · skip
        refine sw_seq ?_
        refine sw_region hP 5 [] rfl (by kernel_rfl) (fun _ => by kernel_rfl) (by first | trivial | (simp [conj]; done) | (simp [conj] at *; (try dsimp only [Ty.den, Ty.dflt] at *); omega)) ?_
        refine sw_ret ⟨.inl rfl, _, rfl, ?_⟩
        first | (simp [conj, find_hit hlt hgo (by simpa [List.getElem?_eq_getElem hlt] using c4)]; done) | (simp [conj, find_end hgo]; done)
      · skip
        refine sw_skip ?_
        refine sw_region hP 5 [] rfl (by kernel_rfl) (fun _ => by kernel_rfl) (by first | trivial | (simp [conj]; done) | (simp [conj] at *; (try dsimp only [Ty.den, Ty.dflt] at *); omega)) ?_
        refine ⟨i + 1, ?_, ?_, ent_ok rfl ?_⟩
        · skip
          exact ⟨hlt, find_next hlt hgo (by simpa [List.getElem?_eq_getElem hlt] using c4)⟩
        · skip
          omega
        · skip
          simp [conj]
    · skip
      obtain rfl : i = m.length := by simp at c2; omega
      refine sw_exit ?_
      refine sw_seq ?_
      refine sw_region hP 4 [] rfl (by kernel_rfl) (fun _ => by kernel_rfl) (by first | trivial | (simp [conj]; done) | (simp [conj] at *; (try dsimp only [Ty.den, Ty.dflt] at *); omega)) ?_
      refine sw_ret ⟨.inl rfl, _, rfl, ?_⟩
      first | (simp [conj, find_hit hlt hgo (by simpa [List.getElem?_eq_getElem hlt] using c4)]; done) | (simp [conj, find_end hgo]; done)

def cName : Ctr := ⟨40, [.val false .str pF], fun _ => True, fun x => (sBool (nameV x.1), [])⟩
theorem cName_ok : CtrOk Proofs.Try.prog cName := by
  have hP := ((Prg.none ttok mtok).and cIn_ok)
  refine ctr_of_body hP cName (fn := Proofs.Try.f40) (rts := [.tmp 2]) Proofs.Try.func40 rfl (by kernel_rfl) rfl rfl ?_
  rintro ⟨(s : Str), ⟨⟩⟩ ⟨hds, _⟩ hpre
  try dsimp only [Ty.den, Mode.den, mdens] at hpre
  refine ⟨rfl, ?_⟩
  have hml : s.length ≤ 140737488355328 := hds
  refine sw_seq ?_
  refine sw_region hP 1 [] rfl (by kernel_rfl) (fun _ => by kernel_rfl) (by first | trivial | (simp [conj]; done) | (simp [conj] at *; (try dsimp only [Ty.den, Ty.dflt] at *); omega)) ?_
  refine sw_seq ?_
  refine sw_seq ?_
  refine sw_region hP 2 [] rfl (by kernel_rfl) (fun _ => by kernel_rfl) ?_ ?_
  · skip
    exact trivial
  refine sw_cond rfl (fun c1 => ?_) (fun c1 => ?_)
  · skip
    refine sw_seq ?_
    refine sw_region hP 3 [] rfl (by kernel_rfl) (fun _ => by kernel_rfl) (by first | trivial | (simp [conj]; done) | (simp [conj] at *; (try dsimp only [Ty.den, Ty.dflt] at *); omega)) ?_
    refine sw_ret ⟨.inl rfl, _, rfl, ?_⟩
    first | (simp at c1; simp [conj, nameV, c1]; done) | (simp [List.getElem?_eq_getElem hlt] at g6_4; simp only [conj, nameV, hin, all_hit hlt hgo (lower_l g6_4)]; rfl) | (simp [List.getElem?_eq_getElem hlt] at c6; simp only [conj, nameV, hin, all_hit hlt hgo (lower_h c6)]; rfl) | (simp only [conj, nameV, hin, all_end hgo]; rfl)
  · skip
    refine sw_skip ?_
    refine sw_seq ?_
    refine sw_seq ?_
    refine sw_region hP 3 [] rfl (by kernel_rfl) (fun _ => by kernel_rfl) (by first | trivial | (simp [conj]; done) | (simp [conj] at *; (try dsimp only [Ty.den, Ty.dflt] at *); omega)) ?_
    refine sw_block ?_
    refine sw_loop (ι := Nat) (fun i => ⟨[.v false [.d .str pF s], .junk, .junk, sInt .i64 (i : Int), .junk, .junk, .junk, .junk, .junk, .junk, .junk, .junk, .junk, .junk, .junk, .junk, .junk, .junk, .junk, .junk, .junk, .junk, .junk, .junk], [], 3, []⟩) (fun i => s.length - i) (fun i => i ≤ s.length ∧ (inV s.length 1 3 = true) ∧ (s.drop i).all lower = s.all lower) 0 ⟨?_, ?_⟩ ?_
    · skip
      refine ⟨Nat.zero_le _, ?_, rfl⟩
      simpa using c1
    · refine ent_ok rfl ?_
      first | trivial | (simp [conj]; done) | (simp [conj] at *; (try dsimp only [Ty.den, Ty.dflt] at *); omega)
    · rintro i ⟨hi, hin, hgo⟩
      refine sw_seq ?_
      refine sw_seq ?_
      refine sw_region hP 4 [] rfl (by kernel_rfl) (fun _ => by kernel_rfl) (by first | trivial | (simp [conj]; done) | (simp [conj] at *; (try dsimp only [Ty.den, Ty.dflt] at *); omega)) ?_
      refine sw_cond rfl (fun c4 => ?_) (fun c4 => ?_)
      · skip
        have hlt : i < s.length := by simpa using c4
        refine sw_skip ?_
        refine sw_seq ?_
        refine sw_block ?_
        refine sw_seq ?_
        refine sw_dec hP 5 [] 4 rfl (fun g6_4 => ?_) (fun g6_4 => ?_)
        · skip
          refine sw_region hP 5 [(4, true)] rfl (by kernel_rfl) (fun _ => by kernel_rfl) (by first | trivial | (simp [conj]; done) | (simp [conj] at *; (try dsimp only [Ty.den, Ty.dflt] at *); omega)) ?_
          refine sw_condT rfl ?_
          refine sw_seq ?_
          refine sw_region hP 6 [] rfl (by kernel_rfl) (fun _ => by kernel_rfl) (by first | trivial | (simp [conj]; done) | (simp [conj] at *; (try dsimp only [Ty.den, Ty.dflt] at *); omega)) ?_
          refine sw_ret ⟨.inl rfl, _, rfl, ?_⟩
          first | (simp at c1; simp [conj, nameV, c1]; done) | (simp [List.getElem?_eq_getElem hlt] at g6_4; simp only [conj, nameV, hin, all_hit hlt hgo (lower_l g6_4)]; rfl) | (simp [List.getElem?_eq_getElem hlt] at c6; simp only [conj, nameV, hin, all_hit hlt hgo (lower_h c6)]; rfl) | (simp only [conj, nameV, hin, all_end hgo]; rfl)
        · skip
          refine sw_region hP 5 [(4, false)] rfl (by kernel_rfl) (fun _ => by kernel_rfl) (by first | trivial | (simp [conj]; done) | (simp [conj] at *; (try dsimp only [Ty.den, Ty.dflt] at *); omega)) ?_
          refine sw_cond rfl (fun c6 => ?_) (fun c6 => ?_)
          · skip
            refine sw_seq ?_
            refine sw_region hP 6 [] rfl (by kernel_rfl) (fun _ => by kernel_rfl) (by first | trivial | (simp [conj]; done) | (simp [conj] at *; (try dsimp only [Ty.den, Ty.dflt] at *); omega)) ?_
            refine sw_ret ⟨.inl rfl, _, rfl, ?_⟩
            first | (simp at c1; simp [conj, nameV, c1]; done) | (simp [List.getElem?_eq_getElem hlt] at g6_4; simp only [conj, nameV, hin, all_hit hlt hgo (lower_l g6_4)]; rfl) | (simp [List.getElem?_eq_getElem hlt] at c6; simp only [conj, nameV, hin, all_hit hlt hgo (lower_h c6)]; rfl) | (simp only [conj, nameV, hin, all_end hgo]; rfl)
          · skip
            refine sw_skip ?_
            refine sw_region hP 6 [] rfl (by kernel_rfl) (fun _ => by kernel_rfl) (by first | trivial | (simp [conj]; done) | (simp [conj] at *; (try dsimp only [Ty.den, Ty.dflt] at *); omega)) ?_
            refine ⟨i + 1, ?_, ?_, ent_ok rfl ?_⟩
            · skip
              simp [List.getElem?_eq_getElem hlt] at g6_4 c6
              exact ⟨hlt, hin, all_next hlt hgo (lower_t g6_4 c6)⟩
            · skip
              omega
            · skip
              simp [conj]
      · skip
        obtain rfl : i = s.length := by simp at c4; omega
        refine sw_exit ?_
        refine sw_seq ?_
        refine sw_region hP 5 [] rfl (by kernel_rfl) (fun _ => by kernel_rfl) (by first | trivial | (simp [conj]; done) | (simp [conj] at *; (try dsimp only [Ty.den, Ty.dflt] at *); omega)) ?_
        refine sw_ret ⟨.inl rfl, _, rfl, ?_⟩
        first | (simp at c1; simp [conj, nameV, c1]; done) | (simp [List.getElem?_eq_getElem hlt] at g6_4; simp only [conj, nameV, hin, all_hit hlt hgo (lower_l g6_4)]; rfl) | (simp [List.getElem?_eq_getElem hlt] at c6; simp only [conj, nameV, hin, all_hit hlt hgo (lower_h c6)]; rfl) | (simp only [conj, nameV, hin, all_end hgo]; rfl)

def cMok : Ctr := ⟨21, [.val true T_Model (.all .b)], fun _ => True, fun x => (sBool (mokV x.1), [])⟩
theorem cMok_ok : CtrOk Proofs.Try.prog cMok := by
  have hP := (((Prg.none ttok mtok).and cName_ok).and cFind_ok)
  refine ctr_of_body hP cMok (fn := Proofs.Try.f21) (rts := [.tmp 2]) Proofs.Try.func21 rfl (by kernel_rfl) rfl rfl ?_
  rintro ⟨(m : List Shf), ⟨⟩⟩ ⟨hdm, _⟩ hpre
  try dsimp only [Ty.den, Mode.den, mdens] at hpre
  refine ⟨rfl, ?_⟩
  have hml : m.length ≤ 140737488355328 := hdm.1
  refine sw_seq ?_
  refine sw_region hP 1 [] rfl (by kernel_rfl) (fun _ => by kernel_rfl) (by first | trivial | (simp [conj]; done) | (simp [conj] at *; (try dsimp only [Ty.den, Ty.dflt] at *); omega)) ?_
  refine sw_seq ?_
  refine sw_seq ?_
  refine sw_region hP 2 [] rfl (by kernel_rfl) (fun _ => by kernel_rfl) (by first | trivial | (simp [conj]; done) | (simp [conj] at *; (try dsimp only [Ty.den, Ty.dflt] at *); omega)) ?_
  refine sw_cond rfl (fun c1 => ?_) (fun c1 => ?_)
  · skip
    refine sw_seq ?_
    refine sw_region hP 3 [] rfl (by kernel_rfl) (fun _ => by kernel_rfl) (by first | trivial | (simp [conj]; done) | (simp [conj] at *; (try dsimp only [Ty.den, Ty.dflt] at *); omega)) ?_
    refine sw_ret ⟨.inl rfl, _, rfl, ?_⟩
    first | (exact (mokV_long (by simp at c1; exact_mod_cast c1)).symm) | (simp [List.getElem?_eq_getElem hltk] at c12; exact (mok_short hlt hgo (all_hit hltk hgk (by simp; omega))).symm) | (simp [List.getElem?_eq_getElem hlt] at c7; exact (mok_find hlt hgo c7).symm) | (simp [List.getElem?_eq_getElem hlt] at g7_10; exact (mok_len hlt hgo (by omega)).symm) | (simp [List.getElem?_eq_getElem hlt] at g7_4; exact (mok_name hlt hgo g7_4).symm) | (exact (mok_end hgo).symm)
  · skip
    refine sw_skip ?_
    refine sw_seq ?_
    refine sw_seq ?_
    refine sw_region hP 3 [] rfl (by kernel_rfl) (fun _ => by kernel_rfl) (by first | trivial | (simp [conj]; done) | (simp [conj] at *; (try dsimp only [Ty.den, Ty.dflt] at *); omega)) ?_
    refine sw_block ?_
    refine sw_loop (ι := Nat) (fun i => ⟨[.junk, .v false [.ptr ⟨1, 0, 0⟩ 0], .junk, sInt .i64 (i : Int), .junk, .junk, .junk, .junk, .junk, .junk, .junk, .junk, .junk, .junk, .junk, .junk, .junk, .junk, .junk, .junk, .junk, .junk, .junk, .junk, .junk, .junk, .junk, .junk, .junk, .junk, .junk, .junk, .junk, .junk, .junk, .junk, .junk, .junk, .junk, .junk, .junk, .junk, .junk, .junk, .junk, .junk, .junk, .junk, .junk, .junk, .junk, .junk, .junk, .junk], [(⟨1, 0, 0⟩, .var [.d T_Model (.all .b) m])], 3, []⟩) (fun i => m.length - i) (fun i => i ≤ m.length ∧ m.length ≤ 4 ∧ mokGo m (m.drop i) i = mokV m) 0 ⟨?_, ?_⟩ ?_
    · skip
      have h4 : m.length ≤ 4 := by simp at c1; omega
      exact ⟨Nat.zero_le _, h4, mokV_of h4⟩
    · refine ent_ok rfl ?_
      first | trivial | (simp [conj]; done) | (simp [conj] at *; (try dsimp only [Ty.den, Ty.dflt] at *); omega)
    · rintro i ⟨hi, h4, hgo⟩
      refine sw_seq ?_
      refine sw_seq ?_
      refine sw_region hP 4 [] rfl (by kernel_rfl) (fun _ => by kernel_rfl) (by first | trivial | (simp [conj]; done) | (simp [conj] at *; (try dsimp only [Ty.den, Ty.dflt] at *); omega)) ?_
      refine sw_cond rfl (fun c4 => ?_) (fun c4 => ?_)
      · skip
        have hlt : i < m.length := by simpa using c4
        have hbl : m[i].2.length ≤ 140737488355328 := (hdm.2 _ (List.getElem_mem hlt)).2.1
        refine sw_skip ?_
        refine sw_seq ?_
        refine sw_block ?_
        refine sw_seq ?_
        refine sw_region hP 5 [] rfl (by kernel_rfl) (fun _ => by kernel_rfl) (by first | trivial | (simp [conj]; done) | (simp [conj] at *; (try dsimp only [Ty.den, Ty.dflt] at *); omega)) ?_
        refine sw_seq ?_
        refine sw_seq ?_
        refine sw_dec hP 6 [] 4 rfl (fun g7_4 => ?_) (fun g7_4 => ?_)
        · skip
          refine sw_region hP 6 [(4, true)] rfl (by kernel_rfl) (fun _ => by kernel_rfl) (by first | trivial | (simp [conj]; done) | (simp [conj] at *; (try dsimp only [Ty.den, Ty.dflt] at *); omega)) ?_
          refine sw_condT rfl ?_
          refine sw_seq ?_
          refine sw_region hP 7 [] rfl (by kernel_rfl) (fun _ => by kernel_rfl) (by first | trivial | (simp [conj]; done) | (simp [conj] at *; (try dsimp only [Ty.den, Ty.dflt] at *); omega)) ?_
          refine sw_ret ⟨.inl rfl, _, rfl, ?_⟩
          first | (exact (mokV_long (by simp at c1; exact_mod_cast c1)).symm) | (simp [List.getElem?_eq_getElem hltk] at c12; exact (mok_short hlt hgo (all_hit hltk hgk (by simp; omega))).symm) | (simp [List.getElem?_eq_getElem hlt] at c7; exact (mok_find hlt hgo c7).symm) | (simp [List.getElem?_eq_getElem hlt] at g7_10; exact (mok_len hlt hgo (by omega)).symm) | (simp [List.getElem?_eq_getElem hlt] at g7_4; exact (mok_name hlt hgo g7_4).symm) | (exact (mok_end hgo).symm)
        · skip
          refine sw_dec hP 6 [(4, false)] 10 rfl (fun g7_10 => ?_) (fun g7_10 => ?_)
          · skip
            refine sw_region hP 6 [(4, false), (10, true)] rfl (by kernel_rfl) (fun _ => by kernel_rfl) (by first | trivial | (simp [conj]; done) | (simp [conj] at *; (try dsimp only [Ty.den, Ty.dflt] at *); omega)) ?_
            refine sw_condT rfl ?_
            refine sw_seq ?_
            refine sw_region hP 7 [] rfl (by kernel_rfl) (fun _ => by kernel_rfl) (by first | trivial | (simp [conj]; done) | (simp [conj] at *; (try dsimp only [Ty.den, Ty.dflt] at *); omega)) ?_
            refine sw_ret ⟨.inl rfl, _, rfl, ?_⟩
            first | (exact (mokV_long (by simp at c1; exact_mod_cast c1)).symm) | (simp [List.getElem?_eq_getElem hltk] at c12; exact (mok_short hlt hgo (all_hit hltk hgk (by simp; omega))).symm) | (simp [List.getElem?_eq_getElem hlt] at c7; exact (mok_find hlt hgo c7).symm) | (simp [List.getElem?_eq_getElem hlt] at g7_10; exact (mok_len hlt hgo (by omega)).symm) | (simp [List.getElem?_eq_getElem hlt] at g7_4; exact (mok_name hlt hgo g7_4).symm) | (exact (mok_end hgo).symm)
          · skip
            refine sw_region hP 6 [(4, false), (10, false)] rfl (by kernel_rfl) (fun _ => by kernel_rfl) (by first | trivial | (simp [conj]; done) | (simp [conj] at *; (try dsimp only [Ty.den, Ty.dflt] at *); omega)) ?_
            refine sw_cond rfl (fun c7 => ?_) (fun c7 => ?_)
            · skip
              refine sw_seq ?_
              refine sw_region hP 7 [] rfl (by kernel_rfl) (fun _ => by kernel_rfl) (by first | trivial | (simp [conj]; done) | (simp [conj] at *; (try dsimp only [Ty.den, Ty.dflt] at *); omega)) ?_
              refine sw_ret ⟨.inl rfl, _, rfl, ?_⟩
              first | (exact (mokV_long (by simp at c1; exact_mod_cast c1)).symm) | (simp [List.getElem?_eq_getElem hltk] at c12; exact (mok_short hlt hgo (all_hit hltk hgk (by simp; omega))).symm) | (simp [List.getElem?_eq_getElem hlt] at c7; exact (mok_find hlt hgo c7).symm) | (simp [List.getElem?_eq_getElem hlt] at g7_10; exact (mok_len hlt hgo (by omega)).symm) | (simp [List.getElem?_eq_getElem hlt] at g7_4; exact (mok_name hlt hgo g7_4).symm) | (exact (mok_end hgo).symm)
            · skip
              refine sw_skip ?_
              refine sw_seq ?_
              refine sw_region hP 7 [] rfl (by kernel_rfl) (fun _ => by kernel_rfl) (by first | trivial | (simp [conj]; done) | (simp [conj] at *; (try dsimp only [Ty.den, Ty.dflt] at *); omega)) ?_
              refine sw_block ?_
              refine sw_loop (ι := Nat) (fun k => ⟨[.junk, .v false [.ptr ⟨1, 0, 0⟩ 0], .junk, sInt .i64 (i : Int), .v false [.ptr ⟨5, 5, 0⟩ 0], sInt .i64 (k : Int), .junk, .junk, .junk, .junk, .junk, .junk, .junk, .junk, .junk, .junk, .junk, .junk, .junk, .junk, .junk, .junk, .junk, .junk, .junk, .junk, .junk, .junk, .junk, .junk, .junk, .junk, .junk, .junk, .junk, .junk, .junk, .junk, .junk, .junk, .junk, .junk, .junk, .junk, .junk, .junk, .junk, .junk, .junk, .junk, .junk, .junk, .junk, .junk], [(⟨1, 0, 0⟩, .var [.d T_Model (.all .b) m]), (⟨5, 5, 0⟩, .var [.d .str pF m[i].1, .d (.sl .str) (.all .b) m[i].2])], 7, []⟩) (fun k => m[i].2.length - k) (fun k => k ≤ m[i].2.length ∧ ((m[i].2).drop k).all (fun t => decide (t.length ≤ 9)) = shortV m[i].2) 0 ⟨?_, ?_⟩ ?_
              · skip
                exact ⟨Nat.zero_le _, rfl⟩
              · refine ent_ok rfl ?_
                simp [conj, List.getElem?_eq_getElem hlt]
              · rintro k ⟨hk, hgk⟩
                refine sw_seq ?_
                refine sw_seq ?_
                refine sw_region hP 8 [] rfl (by kernel_rfl) (fun _ => by kernel_rfl) (by first | trivial | (simp [conj]; done) | (simp [conj] at *; (try dsimp only [Ty.den, Ty.dflt] at *); omega)) ?_
                refine sw_cond rfl (fun c10 => ?_) (fun c10 => ?_)
                · skip
                  have hltk : k < m[i].2.length := by simpa using c10
                  refine sw_skip ?_
                  refine sw_seq ?_
                  refine sw_block ?_
                  refine sw_seq ?_
                  refine sw_region hP 9 [] rfl (by kernel_rfl) (fun _ => by kernel_rfl) (by first | trivial | (simp [conj]; done) | (simp [conj] at *; (try dsimp only [Ty.den, Ty.dflt] at *); omega)) ?_
                  refine sw_cond rfl (fun c12 => ?_) (fun c12 => ?_)
                  · skip
                    refine sw_seq ?_
                    refine sw_region hP 10 [] rfl (by kernel_rfl) (fun _ => by kernel_rfl) (by first | trivial | (simp [conj]; done) | (simp [conj] at *; (try dsimp only [Ty.den, Ty.dflt] at *); omega)) ?_
                    refine sw_ret ⟨.inl rfl, _, rfl, ?_⟩
                    first | (exact (mokV_long (by simp at c1; exact_mod_cast c1)).symm) | (simp [List.getElem?_eq_getElem hltk] at c12; exact (mok_short hlt hgo (all_hit hltk hgk (by simp; omega))).symm) | (simp [List.getElem?_eq_getElem hlt] at c7; exact (mok_find hlt hgo c7).symm) | (simp [List.getElem?_eq_getElem hlt] at g7_10; exact (mok_len hlt hgo (by omega)).symm) | (simp [List.getElem?_eq_getElem hlt] at g7_4; exact (mok_name hlt hgo g7_4).symm) | (exact (mok_end hgo).symm)
                  · skip
                    refine sw_skip ?_
                    refine sw_region hP 10 [] rfl (by kernel_rfl) (fun _ => by kernel_rfl) (by first | trivial | (simp [conj]; done) | (simp [conj] at *; (try dsimp only [Ty.den, Ty.dflt] at *); omega)) ?_
                    refine ⟨k + 1, ?_, ?_, ent_ok rfl ?_⟩
                    · skip
                      simp [List.getElem?_eq_getElem hltk] at c12
                      exact ⟨hltk, all_next hltk hgk (by simp; omega)⟩
                    · skip
                      omega
                    · skip
                      simp [conj]
                · skip
                  obtain rfl : k = m[i].2.length := by simp at c10; omega
                  refine sw_exit ?_
                  refine sw_region hP 9 [] rfl (by kernel_rfl) (fun _ => by kernel_rfl) (by first | trivial | (simp [conj]; done) | (simp [conj] at *; (try dsimp only [Ty.den, Ty.dflt] at *); omega)) ?_
                  refine ⟨i + 1, ?_, ?_, ent_ok rfl ?_⟩
                  · skip
                    simp [List.getElem?_eq_getElem hlt] at g7_4 g7_10 c7
                    exact ⟨hlt, h4, mok_next hlt hgo g7_4 (by omega) c7 (all_end hgk)⟩
                  · skip
                    omega
                  · skip
                    simp [conj]
      · skip
        obtain rfl : i = m.length := by simp at c4; omega
        refine sw_exit ?_
        refine sw_seq ?_
        refine sw_region hP 5 [] rfl (by kernel_rfl) (fun _ => by kernel_rfl) (by first | trivial | (simp [conj]; done) | (simp [conj] at *; (try dsimp only [Ty.den, Ty.dflt] at *); omega)) ?_
        refine sw_ret ⟨.inl rfl, _, rfl, ?_⟩
        first | (exact (mokV_long (by simp at c1; exact_mod_cast c1)).symm) | (simp [List.getElem?_eq_getElem hltk] at c12; exact (mok_short hlt hgo (all_hit hltk hgk (by simp; omega))).symm) | (simp [List.getElem?_eq_getElem hlt] at c7; exact (mok_find hlt hgo c7).symm) | (simp [List.getElem?_eq_getElem hlt] at g7_10; exact (mok_len hlt hgo (by omega)).symm) | (simp [List.getElem?_eq_getElem hlt] at g7_4; exact (mok_name hlt hgo g7_4).symm) | (exact (mok_end hgo).symm)

def cAdd : Ctr := ⟨32, [.val true T_Model (.all .b), .val false .str pF], fun _ => True, fun x => (sInt .i64 (addV x.1 x.2.1), [])⟩
theorem cAdd_ok : CtrOk Proofs.Try.prog cAdd := by
  have hP := (((Prg.none ttok mtok).and cName_ok).and cFind_ok)
  refine ctr_of_body hP cAdd (fn := Proofs.Try.f32) (rts := [.tmp 4]) Proofs.Try.func32 rfl (by kernel_rfl) rfl rfl ?_
  rintro ⟨(m : List Shf), (name : Str), ⟨⟩⟩ ⟨hdm, _⟩ hpre
  try dsimp only [Ty.den, Mode.den, mdens] at hpre
  refine ⟨rfl, ?_⟩
  have hml : m.length ≤ 140737488355328 := hdm.1
  refine sw_seq ?_
  refine sw_region hP 1 [] rfl (by kernel_rfl) (fun _ => by kernel_rfl) (by first | trivial | (simp [conj]; done) | (simp [conj] at *; (try dsimp only [Ty.den, Ty.dflt] at *); omega)) ?_
  refine sw_seq ?_
  refine sw_seq ?_
  refine sw_dec hP 2 [] 3 rfl (fun g1_3 => ?_) (fun g1_3 => ?_)
  · skip
    refine sw_region hP 2 [(3, true)] rfl (by kernel_rfl) (fun _ => by kernel_rfl) (by first | trivial | (simp [conj]; done) | (simp [conj] at *; (try dsimp only [Ty.den, Ty.dflt] at *); omega)) ?_
    refine sw_condT rfl ?_
    refine sw_seq ?_
    refine sw_region hP 3 [] rfl (by kernel_rfl) (fun _ => by kernel_rfl) (by first | trivial | (simp [conj]; done) | (simp [conj] at *; (try dsimp only [Ty.den, Ty.dflt] at *); omega)) ?_
    refine sw_ret ⟨.inl rfl, _, rfl, ?_⟩
    simp at *
    first | exact (addV_name g1_3).symm | exact (addV_there c1).symm | exact (addV_full g1_3 c1 c3).symm | exact (addV_fine g1_3 c1 c3).symm
  · skip
    refine sw_region hP 2 [(3, false)] rfl (by kernel_rfl) (fun _ => by kernel_rfl) (by first | trivial | (simp [conj]; done) | (simp [conj] at *; (try dsimp only [Ty.den, Ty.dflt] at *); omega)) ?_
    refine sw_cond rfl (fun c1 => ?_) (fun c1 => ?_)
    · skip
      refine sw_seq ?_
      refine sw_region hP 3 [] rfl (by kernel_rfl) (fun _ => by kernel_rfl) (by first | trivial | (simp [conj]; done) | (simp [conj] at *; (try dsimp only [Ty.den, Ty.dflt] at *); omega)) ?_
      refine sw_ret ⟨.inl rfl, _, rfl, ?_⟩
      simp at *
      first | exact (addV_name g1_3).symm | exact (addV_there c1).symm | exact (addV_full g1_3 c1 c3).symm | exact (addV_fine g1_3 c1 c3).symm
    · skip
      refine sw_skip ?_
      refine sw_seq ?_
      refine sw_seq ?_
      refine sw_region hP 3 [] rfl (by kernel_rfl) (fun _ => by kernel_rfl) (by first | trivial | (simp [conj]; done) | (simp [conj] at *; (try dsimp only [Ty.den, Ty.dflt] at *); omega)) ?_
      refine sw_cond rfl (fun c3 => ?_) (fun c3 => ?_)
      · skip
        refine sw_seq ?_
        refine sw_region hP 4 [] rfl (by kernel_rfl) (fun _ => by kernel_rfl) (by first | trivial | (simp [conj]; done) | (simp [conj] at *; (try dsimp only [Ty.den, Ty.dflt] at *); omega)) ?_
        refine sw_ret ⟨.inl rfl, _, rfl, ?_⟩
        simp at *
        first | exact (addV_name g1_3).symm | exact (addV_there c1).symm | exact (addV_full g1_3 c1 c3).symm | exact (addV_fine g1_3 c1 c3).symm
      · skip
        refine sw_skip ?_
        refine sw_seq ?_
        refine sw_region hP 4 [] rfl (by kernel_rfl) (fun _ => by kernel_rfl) (by first | trivial | (simp [conj]; done) | (simp [conj] at *; (try dsimp only [Ty.den, Ty.dflt] at *); omega)) ?_
        refine sw_ret ⟨.inl rfl, _, rfl, ?_⟩
        simp at *
        first | exact (addV_name g1_3).symm | exact (addV_there c1).symm | exact (addV_full g1_3 c1 c3).symm | exact (addV_fine g1_3 c1 c3).symm
end Go.Sx
