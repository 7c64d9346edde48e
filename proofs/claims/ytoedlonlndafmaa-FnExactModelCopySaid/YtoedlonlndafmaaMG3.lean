import Derived.Test.YtoedlonlndafmaaMG2
import Derived.Test.YtoedlonlndafmaaMPd
set_option linter.all false
namespace Go.Sx
open Go
set_option maxRecDepth 100000
set_option linter.unusedVariables false
set_option linter.unusedSimpArgs false

def cCopy : Ctr := ⟨22, [.val true T_Model (.all .b)], fun x => mokV x.1 = true, fun x => (.v true [.own ⟨1, 0, 0⟩], [(⟨1, 0, 0⟩, .sl T_Shelf (.all .w) x.1)])⟩
theorem cCopy_ok : CtrOk Proofs.Try.prog cCopy := by
  have hP := (Prg.none ttok mtok)
  refine ctr_of_body hP cCopy (fn := Proofs.Try.f22) (rts := [.cell 2 28]) Proofs.Try.func22 rfl (by kernel_rfl) rfl rfl ?_
  rintro ⟨(m : List Shf), ⟨⟩⟩ ⟨hdm, _⟩ hpre
  try dsimp only [Ty.den, Mode.den, mdens] at hpre
  refine ⟨rfl, ?_⟩
  have h4 : m.length ≤ 4 := mok_len4 hpre
  refine sw_seq ?_
  refine sw_region hP 1 [] rfl (by kernel_rfl) (fun _ => by kernel_rfl) (by first | trivial | (simp [conj]; done) | (simp [conj] at *; (try dsimp only [Ty.den, Ty.dflt] at *); omega)) ?_
  refine sw_seq ?_
  refine sw_region hP 2 [] rfl (by kernel_rfl) (fun _ => by kernel_rfl) (by first | trivial | (simp [conj]; done) | (simp [conj] at *; (try dsimp only [Ty.den, Ty.dflt] at *); omega)) ?_
  refine sw_seq ?_
  refine sw_seq ?_
  refine sw_region hP 3 [] rfl (by kernel_rfl) (fun _ => by kernel_rfl) (by first | trivial | (simp [conj]; done) | (simp [conj] at *; (try dsimp only [Ty.den, Ty.dflt] at *); omega)) ?_
  refine sw_block ?_
  refine sw_loop (ι := Nat) (fun i => ⟨[.junk, .v false [.ptr ⟨1, 0, 0⟩ 0], .v false [.ptr ⟨1, 1, 0⟩ 0], .v false [.ptr ⟨2, 2, 0⟩ 0], sInt .i64 (i : Int), .junk, .junk, .junk, .junk, .junk, .junk, .junk, .junk, .junk, .junk, .junk, .junk, .junk, .junk, .junk, .junk, .junk, .junk, .junk, .junk, .junk, .junk, .junk, .junk, .junk, .junk, .junk, .junk, .junk, .junk], [(⟨1, 0, 0⟩, .var [.d T_Model (.all .b) m]), (⟨1, 1, 0⟩, .var [.d T_Model pF []]), (⟨2, 2, 0⟩, .var [.own ⟨2, 0, 0⟩]), (⟨2, 0, 0⟩, .sl T_Shelf (.all .w) (m.take i))], 3, []⟩) (fun i => m.length - i) (fun i => i ≤ m.length) 0 ⟨?_, ?_⟩ ?_
  · skip
    exact Nat.zero_le _
  · refine ent_ok rfl ?_
    first | trivial | (simp [conj]; done) | (simp [conj] at *; (try dsimp only [Ty.den, Ty.dflt] at *); omega)
  · rintro i hi
    refine sw_seq ?_
    refine sw_seq ?_
    refine sw_region hP 4 [] rfl (by kernel_rfl) (fun _ => by kernel_rfl) (by first | trivial | (simp [conj]; done) | (simp [conj] at *; (try dsimp only [Ty.den, Ty.dflt] at *); omega)) ?_
    refine sw_cond rfl (fun c3 => ?_) (fun c3 => ?_)
    · skip
      have hlt : i < m.length := by simpa using c3
      have h3 : m[i].2.length = 3 := mok_at hpre hlt
      refine sw_skip ?_
      refine sw_seq ?_
      refine sw_block ?_
      refine sw_region hP 5 [] rfl (by kernel_rfl) (fun _ => by kernel_rfl) ?_ ?_
      · skip
        simp [conj, List.getElem?_eq_getElem hlt, maxL]
        omega
      refine sw_region hP 6 [] rfl (by kernel_rfl) (fun _ => by kernel_rfl) (by first | trivial | (simp [conj]; done) | (simp [conj] at *; (try dsimp only [Ty.den, Ty.dflt] at *); omega)) ?_
      refine ⟨i + 1, ?_, ?_, ent_ok rfl ?_⟩
      · skip
        exact hlt
      · skip
        omega
      · skip
        simp [conj, maxL]
        try dsimp only [Ty.den, Ty.dflt]
        try simp only [rd_eta]
        exact copy_next' hlt
    · skip
      obtain rfl : i = m.length := by simp at c3; omega
      refine sw_exit ?_
      refine sw_seq ?_
      refine sw_region hP 5 [] rfl (by kernel_rfl) (fun _ => by kernel_rfl) (by first | trivial | (simp [conj]; done) | (simp [conj] at *; (try dsimp only [Ty.den, Ty.dflt] at *); omega)) ?_
      refine sw_ret ⟨.inl rfl, _, rfl, ?_⟩
      simp [conj]

def cMake : Ctr := ⟨14, [.val true T_Model (.all .b), .val false .str pF], fun _ => True, fun x => (.tup [(true, [.own ⟨1, 0, 0⟩]), (false, [.d TI pF (makeV x.1 x.2.1).2])], [(⟨1, 0, 0⟩, .sl T_Shelf (.all .w) (makeV x.1 x.2.1).1)])⟩
theorem cMake_ok : CtrOk Proofs.Try.prog cMake := by
  have hP := ((((Prg.none ttok mtok).and cMok_ok).and cCopy_ok).and cAdd_ok)
  refine ctr_of_body hP cMake (fn := Proofs.Try.f14) (rts := [.cell 4 28, .tmp 5]) Proofs.Try.func14 rfl (by kernel_rfl) rfl rfl ?_
  rintro ⟨(m : List Shf), (name : Str), ⟨⟩⟩ ⟨hdm, _⟩ hpre
  try dsimp only [Ty.den, Mode.den, mdens] at hpre
  refine ⟨rfl, ?_⟩
  refine sw_seq ?_
  refine sw_region hP 1 [] rfl (by kernel_rfl) (fun _ => by kernel_rfl) (by first | trivial | (simp [conj]; done) | (simp [conj] at *; (try dsimp only [Ty.den, Ty.dflt] at *); omega)) ?_
  refine sw_seq ?_
  refine sw_seq ?_
  refine sw_region hP 2 [] rfl (by kernel_rfl) (fun _ => by kernel_rfl) (by first | trivial | (simp [conj]; done) | (simp [conj] at *; (try dsimp only [Ty.den, Ty.dflt] at *); omega)) ?_
  refine sw_cond rfl (fun c1 => ?_) (fun c1 => ?_)
  · skip
    refine sw_seq ?_
    refine sw_region hP 3 [] rfl (by kernel_rfl) (fun _ => by kernel_rfl) (by first | trivial | (simp [conj]; done) | (simp [conj] at *; (try dsimp only [Ty.den, Ty.dflt] at *); omega)) ?_
    refine sw_ret ⟨.inl rfl, _, rfl, ?_⟩
    simp [conj] at *
    first | (simp [makeV, *]; done) | (simp [makeV, c5, c1]; done)
  · skip
    replace c1 : mokV m = true := by simpa using c1
    have h4 : m.length ≤ 4 := mok_len4 c1
    refine sw_skip ?_
    refine sw_seq ?_
    refine sw_region hP 3 [] rfl (by kernel_rfl) (fun _ => by kernel_rfl) ?_ ?_
    · skip
      simp [conj, maxL]
      try dsimp only [Ty.den, Ty.dflt]
      try simp only [rd_eta]
      exact c1
    refine sw_seq ?_
    refine sw_region hP 4 [] rfl (by kernel_rfl) (fun _ => by kernel_rfl) (by first | trivial | (simp [conj]; done) | (simp [conj] at *; (try dsimp only [Ty.den, Ty.dflt] at *); omega)) ?_
    refine sw_seq ?_
    refine sw_seq ?_
    refine sw_region hP 5 [] rfl (by kernel_rfl) (fun _ => by kernel_rfl) (by first | trivial | (simp [conj]; done) | (simp [conj] at *; (try dsimp only [Ty.den, Ty.dflt] at *); omega)) ?_
    refine sw_cond rfl (fun c5 => ?_) (fun c5 => ?_)
    · skip
      refine sw_region hP 6 [] rfl (by kernel_rfl) (fun _ => by kernel_rfl) ?_ ?_
      · skip
        simp [conj, maxL]
        try dsimp only [Ty.den, Ty.dflt]
        try simp only [rd_eta]
        omega
      refine sw_seq ?_
      refine sw_region hP 7 [] rfl (by kernel_rfl) (fun _ => by kernel_rfl) (by first | trivial | (simp [conj]; done) | (simp [conj] at *; (try dsimp only [Ty.den, Ty.dflt] at *); omega)) ?_
      refine sw_ret ⟨.inl rfl, _, rfl, ?_⟩
      simp [conj] at *
      first | (simp [makeV, *]; done) | (simp [makeV, c5, c1]; done)
    · skip
      refine sw_skip ?_
      refine sw_seq ?_
      refine sw_region hP 6 [] rfl (by kernel_rfl) (fun _ => by kernel_rfl) (by first | trivial | (simp [conj]; done) | (simp [conj] at *; (try dsimp only [Ty.den, Ty.dflt] at *); omega)) ?_
      refine sw_ret ⟨.inl rfl, _, rfl, ?_⟩
      simp [conj] at *
      first | (simp [makeV, *]; done) | (simp [makeV, c5, c1]; done)

def cDrop : Ctr := ⟨8, [.val true T_Model (.all .b), .val false .str pF], fun _ => True, fun x => (.tup [(true, [.own ⟨1, 0, 0⟩]), (false, [.d TI pF (dropV x.1 x.2.1).2])], [(⟨1, 0, 0⟩, .sl T_Shelf (.all .w) (dropV x.1 x.2.1).1)])⟩
theorem cDrop_ok : CtrOk Proofs.Try.prog cDrop := by
  have hP := ((((Prg.none ttok mtok).and cMok_ok).and cCopy_ok).and cFind_ok)
  refine ctr_of_body hP cDrop (fn := Proofs.Try.f8) (rts := [.cell 4 28, .tmp 5]) Proofs.Try.func8 rfl (by kernel_rfl) rfl rfl ?_
  rintro ⟨(m : List Shf), (name : Str), ⟨⟩⟩ ⟨hdm, _⟩ hpre
  try dsimp only [Ty.den, Mode.den, mdens] at hpre
  refine ⟨rfl, ?_⟩
  refine sw_seq ?_
  refine sw_region hP 1 [] rfl (by kernel_rfl) (fun _ => by kernel_rfl) (by first | trivial | (simp [conj]; done) | (simp [conj] at *; (try dsimp only [Ty.den, Ty.dflt] at *); omega)) ?_
  refine sw_seq ?_
  refine sw_seq ?_
  refine sw_region hP 2 [] rfl (by kernel_rfl) (fun _ => by kernel_rfl) (by first | trivial | (simp [conj]; done) | (simp [conj] at *; (try dsimp only [Ty.den, Ty.dflt] at *); omega)) ?_
  refine sw_cond rfl (fun c1 => ?_) (fun c1 => ?_)
  · skip
    refine sw_seq ?_
    refine sw_region hP 3 [] rfl (by kernel_rfl) (fun _ => by kernel_rfl) (by first | trivial | (simp [conj]; done) | (simp [conj] at *; (try dsimp only [Ty.den, Ty.dflt] at *); omega)) ?_
    refine sw_ret ⟨.inl rfl, _, rfl, ?_⟩
    simp [conj] at *
    first | (simp [dropV, *]; done) | (rw [dropV_ok c1 c5]; exact ⟨by simp only []; congr 2; omega, rfl⟩)
  · skip
    replace c1 : mokV m = true := by simpa using c1
    have h4 : m.length ≤ 4 := mok_len4 c1
    refine sw_skip ?_
    refine sw_seq ?_
    refine sw_region hP 3 [] rfl (by kernel_rfl) (fun _ => by kernel_rfl) ?_ ?_
    · skip
      simp [conj, maxL]
      try dsimp only [Ty.den, Ty.dflt]
      try simp only [rd_eta]
      exact c1
    refine sw_seq ?_
    refine sw_region hP 4 [] rfl (by kernel_rfl) (fun _ => by kernel_rfl) (by first | trivial | (simp [conj]; done) | (simp [conj] at *; (try dsimp only [Ty.den, Ty.dflt] at *); omega)) ?_
    refine sw_seq ?_
    refine sw_seq ?_
    refine sw_region hP 5 [] rfl (by kernel_rfl) (fun _ => by kernel_rfl) (by first | trivial | (simp [conj]; done) | (simp [conj] at *; (try dsimp only [Ty.den, Ty.dflt] at *); omega)) ?_
    refine sw_cond rfl (fun c5 => ?_) (fun c5 => ?_)
    · skip
      refine sw_seq ?_
      refine sw_region hP 6 [] rfl (by kernel_rfl) (fun _ => by kernel_rfl) (by first | trivial | (simp [conj]; done) | (simp [conj] at *; (try dsimp only [Ty.den, Ty.dflt] at *); omega)) ?_
      refine sw_ret ⟨.inl rfl, _, rfl, ?_⟩
      simp [conj] at *
      first | (simp [dropV, *]; done) | (rw [dropV_ok c1 c5]; exact ⟨by simp only []; congr 2; omega, rfl⟩)
    · skip
      replace c5 : 0 ≤ findV m name := by simpa using c5
      have hn : ¬ findV m name < 0 := by omega
      have hk := findV_bd c5
      refine sw_skip ?_
      refine sw_seq ?_
      refine sw_region hP 6 [] rfl (by kernel_rfl) (fun _ => by kernel_rfl) ?_ ?_
      · skip
        simp [conj, maxL]
        try dsimp only [Ty.den, Ty.dflt]
        try simp only [rd_eta]
        omega
      refine sw_seq ?_
      refine sw_region hP 7 [] rfl (by kernel_rfl) (fun _ => by kernel_rfl) (by first | trivial | (simp [conj]; done) | (simp [conj] at *; (try dsimp only [Ty.den, Ty.dflt] at *); omega)) ?_
      refine sw_ret ⟨.inl rfl, _, rfl, ?_⟩
      simp [conj] at *
      first | (simp [dropV, *]; done) | (rw [dropV_ok c1 c5]; exact ⟨by simp only []; congr 2; omega, rfl⟩)

def cCopyM : Ctr := ⟨18, [.val true T_Model (.all .b), .val false .str pF, .val false .str pF], fun _ => True, fun x => (.tup [(true, [.own ⟨1, 0, 0⟩]), (false, [.d TI pF (copyV x.1 x.2.1 x.2.2.1).2])], [(⟨1, 0, 0⟩, .sl T_Shelf (.all .w) (copyV x.1 x.2.1 x.2.2.1).1)])⟩
theorem cCopyM_ok : CtrOk Proofs.Try.prog cCopyM := by
  have hP := (((((Prg.none ttok mtok).and cMok_ok).and cCopy_ok).and cAdd_ok).and cFind_ok)
  refine ctr_of_body hP cCopyM (fn := Proofs.Try.f18) (rts := [.cell 6 28, .tmp 7]) Proofs.Try.func18 rfl (by kernel_rfl) rfl rfl ?_
  rintro ⟨(m : List Shf), (frm : Str), (name : Str), ⟨⟩⟩ ⟨hdm, _⟩ hpre
  try dsimp only [Ty.den, Mode.den, mdens] at hpre
  refine ⟨rfl, ?_⟩
  refine sw_seq ?_
  refine sw_region hP 1 [] rfl (by kernel_rfl) (fun _ => by kernel_rfl) (by first | trivial | (simp [conj]; done) | (simp [conj] at *; (try dsimp only [Ty.den, Ty.dflt] at *); omega)) ?_
  refine sw_seq ?_
  refine sw_seq ?_
  refine sw_region hP 2 [] rfl (by kernel_rfl) (fun _ => by kernel_rfl) (by first | trivial | (simp [conj]; done) | (simp [conj] at *; (try dsimp only [Ty.den, Ty.dflt] at *); omega)) ?_
  refine sw_cond rfl (fun c1 => ?_) (fun c1 => ?_)
  · skip
    refine sw_seq ?_
    refine sw_region hP 3 [] rfl (by kernel_rfl) (fun _ => by kernel_rfl) (by first | trivial | (simp [conj]; done) | (simp [conj] at *; (try dsimp only [Ty.den, Ty.dflt] at *); omega)) ?_
    refine sw_ret ⟨.inl rfl, _, rfl, ?_⟩
    simp [conj] at *
    first | (simp [copyV, *]; done) | (rw [copyV_ok c1 c5 c8, List.getD_eq_getElem?_getD, List.getElem?_eq_getElem hk]; exact ⟨rfl, c8⟩) | (rw [copyV_no c1 c5 c8]; exact ⟨rfl, rfl⟩)
  · skip
    replace c1 : mokV m = true := by simpa using c1
    have h4 : m.length ≤ 4 := mok_len4 c1
    refine sw_skip ?_
    refine sw_seq ?_
    refine sw_region hP 3 [] rfl (by kernel_rfl) (fun _ => by kernel_rfl) ?_ ?_
    · skip
      simp [conj, maxL]
      try dsimp only [Ty.den, Ty.dflt]
      try simp only [rd_eta]
      exact c1
    refine sw_seq ?_
    refine sw_region hP 4 [] rfl (by kernel_rfl) (fun _ => by kernel_rfl) (by first | trivial | (simp [conj]; done) | (simp [conj] at *; (try dsimp only [Ty.den, Ty.dflt] at *); omega)) ?_
    refine sw_seq ?_
    refine sw_seq ?_
    refine sw_region hP 5 [] rfl (by kernel_rfl) (fun _ => by kernel_rfl) (by first | trivial | (simp [conj]; done) | (simp [conj] at *; (try dsimp only [Ty.den, Ty.dflt] at *); omega)) ?_
    refine sw_cond rfl (fun c5 => ?_) (fun c5 => ?_)
    · skip
      refine sw_seq ?_
      refine sw_region hP 6 [] rfl (by kernel_rfl) (fun _ => by kernel_rfl) (by first | trivial | (simp [conj]; done) | (simp [conj] at *; (try dsimp only [Ty.den, Ty.dflt] at *); omega)) ?_
      refine sw_ret ⟨.inl rfl, _, rfl, ?_⟩
      simp [conj] at *
      first | (simp [copyV, *]; done) | (rw [copyV_ok c1 c5 c8, List.getD_eq_getElem?_getD, List.getElem?_eq_getElem hk]; exact ⟨rfl, c8⟩) | (rw [copyV_no c1 c5 c8]; exact ⟨rfl, rfl⟩)
    · skip
      replace c5 : 0 ≤ findV m frm := by simpa using c5
      have hn : ¬ findV m frm < 0 := by omega
      have hk := findV_bd c5
      have h3 := mok_at c1 hk
      refine sw_skip ?_
      refine sw_seq ?_
      refine sw_region hP 6 [] rfl (by kernel_rfl) (fun _ => by kernel_rfl) (by first | trivial | (simp [conj]; done) | (simp [conj] at *; (try dsimp only [Ty.den, Ty.dflt] at *); omega)) ?_
      refine sw_seq ?_
      refine sw_seq ?_
      refine sw_region hP 7 [] rfl (by kernel_rfl) (fun _ => by kernel_rfl) (by first | trivial | (simp [conj]; done) | (simp [conj] at *; (try dsimp only [Ty.den, Ty.dflt] at *); omega)) ?_
      refine sw_cond rfl (fun c8 => ?_) (fun c8 => ?_)
      · skip
        refine sw_region hP 8 [] rfl (by kernel_rfl) (fun _ => by kernel_rfl) ?_ ?_
        · skip
          simp [conj, maxL]
          try dsimp only [Ty.den, Ty.dflt]
          try simp only [rd_eta]
          simp only [List.getElem?_eq_getElem hk, Option.getD_some, h3]
          omega
        refine sw_seq ?_
        refine sw_region hP 9 [] rfl (by kernel_rfl) (fun _ => by kernel_rfl) (by first | trivial | (simp [conj]; done) | (simp [conj] at *; (try dsimp only [Ty.den, Ty.dflt] at *); omega)) ?_
        refine sw_ret ⟨.inl rfl, _, rfl, ?_⟩
        simp [conj] at *
        first | (simp [copyV, *]; done) | (rw [copyV_ok c1 c5 c8, List.getD_eq_getElem?_getD, List.getElem?_eq_getElem hk]; exact ⟨rfl, c8⟩) | (rw [copyV_no c1 c5 c8]; exact ⟨rfl, rfl⟩)
      · skip
        refine sw_skip ?_
        refine sw_seq ?_
        refine sw_region hP 8 [] rfl (by kernel_rfl) (fun _ => by kernel_rfl) (by first | trivial | (simp [conj]; done) | (simp [conj] at *; (try dsimp only [Ty.den, Ty.dflt] at *); omega)) ?_
        refine sw_ret ⟨.inl rfl, _, rfl, ?_⟩
        simp [conj] at *
        first | (simp [copyV, *]; done) | (rw [copyV_ok c1 c5 c8, List.getD_eq_getElem?_getD, List.getElem?_eq_getElem hk]; exact ⟨rfl, c8⟩) | (rw [copyV_no c1 c5 c8]; exact ⟨rfl, rfl⟩)

def cWrite : Ctr := ⟨16, [.val true T_Model (.all .b), .val false .str pF, .val false TI pF, .val false .str pF], fun _ => True, fun x => (.tup [(true, [.own ⟨1, 0, 0⟩]), (false, [.d TI pF (writeV x.1 x.2.1 x.2.2.1 x.2.2.2.1).2])], [(⟨1, 0, 0⟩, .sl T_Shelf (.all .w) (writeV x.1 x.2.1 x.2.2.1 x.2.2.2.1).1)])⟩
theorem cWrite_ok : CtrOk Proofs.Try.prog cWrite := by
  have hP := (((((Prg.none ttok mtok).and cMok_ok).and cCopy_ok).and cFind_ok).and cIn_ok)
  refine ctr_of_body hP cWrite (fn := Proofs.Try.f16) (rts := [.cell 8 28, .tmp 9]) Proofs.Try.func16 rfl (by kernel_rfl) rfl rfl ?_
  rintro ⟨(m : List Shf), (name : Str), (block : Int), (text : Str), ⟨⟩⟩ ⟨hdm, _⟩ hpre
  try dsimp only [Ty.den, Mode.den, mdens] at hpre
  refine ⟨rfl, ?_⟩
  refine sw_seq ?_
  refine sw_region hP 1 [] rfl (by kernel_rfl) (fun _ => by kernel_rfl) (by first | trivial | (simp [conj]; done) | (simp [conj] at *; (try dsimp only [Ty.den, Ty.dflt] at *); omega)) ?_
  refine sw_seq ?_
  refine sw_seq ?_
  refine sw_region hP 2 [] rfl (by kernel_rfl) (fun _ => by kernel_rfl) (by first | trivial | (simp [conj]; done) | (simp [conj] at *; (try dsimp only [Ty.den, Ty.dflt] at *); omega)) ?_
  refine sw_cond rfl (fun c1 => ?_) (fun c1 => ?_)
  · skip
    refine sw_seq ?_
    refine sw_region hP 3 [] rfl (by kernel_rfl) (fun _ => by kernel_rfl) (by first | trivial | (simp [conj]; done) | (simp [conj] at *; (try dsimp only [Ty.den, Ty.dflt] at *); omega)) ?_
    refine sw_ret ⟨.inl rfl, _, rfl, ?_⟩
    simp [conj] at *
    first | (simp [writeV, *]; done) | (rw [writeV_out c1 c5 g7_3]; exact ⟨rfl, rfl⟩) | (rw [writeV_long c1 c5 (by omega)]; exact ⟨rfl, rfl⟩) | (rw [writeV_ok c1 c5 g7_3 (by omega)]; exact ⟨by simp [hk], rfl⟩)
  · skip
    replace c1 : mokV m = true := by simpa using c1
    have h4 : m.length ≤ 4 := mok_len4 c1
    refine sw_skip ?_
    refine sw_seq ?_
    refine sw_region hP 3 [] rfl (by kernel_rfl) (fun _ => by kernel_rfl) ?_ ?_
    · skip
      simp [conj, maxL]
      try dsimp only [Ty.den, Ty.dflt]
      try simp only [rd_eta]
      exact c1
    refine sw_seq ?_
    refine sw_region hP 4 [] rfl (by kernel_rfl) (fun _ => by kernel_rfl) (by first | trivial | (simp [conj]; done) | (simp [conj] at *; (try dsimp only [Ty.den, Ty.dflt] at *); omega)) ?_
    refine sw_seq ?_
    refine sw_seq ?_
    refine sw_region hP 5 [] rfl (by kernel_rfl) (fun _ => by kernel_rfl) (by first | trivial | (simp [conj]; done) | (simp [conj] at *; (try dsimp only [Ty.den, Ty.dflt] at *); omega)) ?_
    refine sw_cond rfl (fun c5 => ?_) (fun c5 => ?_)
    · skip
      refine sw_seq ?_
      refine sw_region hP 6 [] rfl (by kernel_rfl) (fun _ => by kernel_rfl) (by first | trivial | (simp [conj]; done) | (simp [conj] at *; (try dsimp only [Ty.den, Ty.dflt] at *); omega)) ?_
      refine sw_ret ⟨.inl rfl, _, rfl, ?_⟩
      simp [conj] at *
      first | (simp [writeV, *]; done) | (rw [writeV_out c1 c5 g7_3]; exact ⟨rfl, rfl⟩) | (rw [writeV_long c1 c5 (by omega)]; exact ⟨rfl, rfl⟩) | (rw [writeV_ok c1 c5 g7_3 (by omega)]; exact ⟨by simp [hk], rfl⟩)
    · skip
      replace c5 : 0 ≤ findV m name := by simpa using c5
      have hn : ¬ findV m name < 0 := by omega
      have hk := findV_bd c5
      have h3 := mok_at c1 hk
      refine sw_skip ?_
      refine sw_seq ?_
      refine sw_seq ?_
      refine sw_dec hP 6 [] 3 rfl (fun g7_3 => ?_) (fun g7_3 => ?_)
      · skip
        refine sw_region hP 6 [(3, true)] rfl (by kernel_rfl) (fun _ => by kernel_rfl) (by first | trivial | (simp [conj]; done) | (simp [conj] at *; (try dsimp only [Ty.den, Ty.dflt] at *); omega)) ?_
        refine sw_condT rfl ?_
        refine sw_seq ?_
        refine sw_region hP 7 [] rfl (by kernel_rfl) (fun _ => by kernel_rfl) (by first | trivial | (simp [conj]; done) | (simp [conj] at *; (try dsimp only [Ty.den, Ty.dflt] at *); omega)) ?_
        refine sw_ret ⟨.inl rfl, _, rfl, ?_⟩
        simp [conj] at *
        first | (simp [writeV, *]; done) | (rw [writeV_out c1 c5 g7_3]; exact ⟨rfl, rfl⟩) | (rw [writeV_long c1 c5 (by omega)]; exact ⟨rfl, rfl⟩) | (rw [writeV_ok c1 c5 g7_3 (by omega)]; exact ⟨by simp [hk], rfl⟩)
      · skip
        refine sw_region hP 6 [(3, false)] rfl (by kernel_rfl) (fun _ => by kernel_rfl) (by first | trivial | (simp [conj]; done) | (simp [conj] at *; (try dsimp only [Ty.den, Ty.dflt] at *); omega)) ?_
        refine sw_cond rfl (fun c7 => ?_) (fun c7 => ?_)
        · skip
          refine sw_seq ?_
          refine sw_region hP 7 [] rfl (by kernel_rfl) (fun _ => by kernel_rfl) (by first | trivial | (simp [conj]; done) | (simp [conj] at *; (try dsimp only [Ty.den, Ty.dflt] at *); omega)) ?_
          refine sw_ret ⟨.inl rfl, _, rfl, ?_⟩
          simp [conj] at *
          first | (simp [writeV, *]; done) | (rw [writeV_out c1 c5 g7_3]; exact ⟨rfl, rfl⟩) | (rw [writeV_long c1 c5 (by omega)]; exact ⟨rfl, rfl⟩) | (rw [writeV_ok c1 c5 g7_3 (by omega)]; exact ⟨by simp [hk], rfl⟩)
        · skip
          replace g7_3 : inV block 0 2 = true := by simpa using g7_3
          refine sw_skip ?_
          refine sw_seq ?_
          refine sw_region hP 7 [] rfl (by kernel_rfl) (fun _ => by kernel_rfl) ?_ ?_
          · skip
            have hb := inV_bd g7_3
            simp [conj, maxL]
            try dsimp only [Ty.den, Ty.dflt]
            try simp only [rd_eta]
            simp only [List.getElem?_eq_getElem hk, Option.getD_some, h3]
            omega
          refine sw_seq ?_
          refine sw_region hP 8 [] rfl (by kernel_rfl) (fun _ => by kernel_rfl) (by first | trivial | (simp [conj]; done) | (simp [conj] at *; (try dsimp only [Ty.den, Ty.dflt] at *); omega)) ?_
          refine sw_ret ⟨.inl rfl, _, rfl, ?_⟩
          simp [conj] at *
          first | (simp [writeV, *]; done) | (rw [writeV_out c1 c5 g7_3]; exact ⟨rfl, rfl⟩) | (rw [writeV_long c1 c5 (by omega)]; exact ⟨rfl, rfl⟩) | (rw [writeV_ok c1 c5 g7_3 (by omega)]; exact ⟨by simp [hk], rfl⟩)
end Go.Sx
