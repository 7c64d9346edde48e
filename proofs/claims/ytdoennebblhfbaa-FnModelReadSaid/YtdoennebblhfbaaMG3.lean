import Derived.Test.YtdoennebblhfbaaMG2
import Derived.Test.YtdoennebblhfbaaMPd
set_option linter.all false
namespace Go.Sx
open Go
set_option maxRecDepth 100000
set_option linter.unusedVariables false
set_option linter.unusedSimpArgs false

def cCopy : Ctr := ⟨28, [.val true T_Model (.all .b)], fun x => mokV x.1 = true, fun x => (.v true [.own ⟨1, 0, 0⟩], [(⟨1, 0, 0⟩, .sl T_Shelf (.all .w) x.1)])⟩
theorem cCopy_ok : CtrOk Proofs.Try.prog cCopy := by
  have hP := (Prg.none ttok mtok)
  refine ctr_of_body hP cCopy (fn := Proofs.Try.f28) (rts := [.cell 2 25]) Proofs.Try.func28 rfl (by kernel_rfl) rfl rfl ?_
  rintro ⟨(m : List Shf), ⟨⟩⟩ ⟨hdm, _⟩ hpre
  try dsimp only [Ty.den, Mode.den, mdens] at hpre
  refine ⟨rfl, ?_⟩
  have h4 : m.length ≤ 4 := mok_len4 hpre
  refine sw_seq ?_
  refine sw_region hP 1 [] rfl (by kernel_rfl) (fun _ => by kernel_rfl) (by first | trivial | (simp [conj]; done) | (simp [conj] at *; (try dsimp only [Ty.den, Ty.dflt] at *); omega)) ?_
  refine sw_seq ?_
  refine sw_region hP 2 [] rfl (by kernel_rfl) (fun _ => by kernel_rfl) (by first | trivial | (simp [conj]; done) | (simp [conj] at *; (try dsimp only [Ty.den, Ty.dflt] at *); omega)) ?_
  refine sw_seq ?_
  refine sw_seq ?_
  refine sw_region hP 3 [] rfl (by kernel_rfl) (fun _ => by kernel_rfl) (by first | trivial | (simp [conj]; done) | (simp [conj] at *; (try dsimp only [Ty.den, Ty.dflt] at *); omega)) ?_
  refine sw_block ?_
  refine sw_loop (ι := Nat) (fun i => ⟨[.junk, .v false [.ptr ⟨1, 0, 0⟩ 0], .v false [.ptr ⟨1, 1, 0⟩ 0], .v false [.ptr ⟨2, 2, 0⟩ 0], sInt .i64 (i : Int), .junk, .junk, .junk, .junk, .junk, .junk, .junk, .junk, .junk, .junk, .junk, .junk, .junk, .junk, .junk, .junk, .junk, .junk, .junk, .junk, .junk, .junk, .junk, .junk, .junk, .junk, .junk, .junk, .junk, .junk], [(⟨1, 0, 0⟩, .var [.d T_Model (.all .b) m]), (⟨1, 1, 0⟩, .var [.d T_Model pF []]), (⟨2, 2, 0⟩, .var [.own ⟨2, 0, 0⟩]), (⟨2, 0, 0⟩, .sl T_Shelf (.all .w) (m.take i))], 3, []⟩) (fun i => m.length - i) (fun i => i ≤ m.length) 0 ⟨?_, ?_⟩ ?_
  · skip
    exact Nat.zero_le _
  · refine ent_ok rfl ?_
    first | trivial | (simp [conj]; done) | (simp [conj] at *; (try dsimp only [Ty.den, Ty.dflt] at *); omega)
  · rintro i hi
    refine sw_seq ?_
    refine sw_seq ?_
    refine sw_region hP 4 [] rfl (by kernel_rfl) (fun _ => by kernel_rfl) (by first | trivial | (simp [conj]; done) | (simp [conj] at *; (try dsimp only [Ty.den, Ty.dflt] at *); omega)) ?_
    refine sw_cond rfl (fun c3 => ?_) (fun c3 => ?_)
    · skip
      have hlt : i < m.length := by simpa using c3
      have h3 : m[i].2.length = 3 := mok_at hpre hlt
      refine sw_skip ?_
      refine sw_seq ?_
      refine sw_block ?_
      refine sw_region hP 5 [] rfl (by kernel_rfl) (fun _ => by kernel_rfl) ?_ ?_
      · skip
        simp [conj, List.getElem?_eq_getElem hlt, maxL]
        omega
      refine sw_region hP 6 [] rfl (by kernel_rfl) (fun _ => by kernel_rfl) (by first | trivial | (simp [conj]; done) | (simp [conj] at *; (try dsimp only [Ty.den, Ty.dflt] at *); omega)) ?_
      refine ⟨i + 1, ?_, ?_, ent_ok rfl ?_⟩
      · skip
        exact hlt
      · skip
        omega
      · skip
        simp [conj, maxL]
        try dsimp only [Ty.den, Ty.dflt]
        try simp only [rd_eta]
        exact copy_next' hlt
    · skip
      obtain rfl : i = m.length := by simp at c3; omega
      refine sw_exit ?_
      refine sw_seq ?_
      refine sw_region hP 5 [] rfl (by kernel_rfl) (fun _ => by kernel_rfl) (by first | trivial | (simp [conj]; done) | (simp [conj] at *; (try dsimp only [Ty.den, Ty.dflt] at *); omega)) ?_
      refine sw_ret ⟨.inl rfl, _, rfl, ?_⟩
      simp [conj]

def cMake : Ctr := ⟨17, [.val true T_Model (.all .b), .val false .str pF], fun _ => True, fun x => (.tup [(true, [.own ⟨1, 0, 0⟩]), (false, [.d TI pF (makeV x.1 x.2.1).2])], [(⟨1, 0, 0⟩, .sl T_Shelf (.all .w) (makeV x.1 x.2.1).1)])⟩
theorem cMake_ok : CtrOk Proofs.Try.prog cMake := by
  have hP := ((((Prg.none ttok mtok).and cMok_ok).and cCopy_ok).and cAdd_ok)
  refine ctr_of_body hP cMake (fn := Proofs.Try.f17) (rts := [.cell 4 25, .tmp 5]) Proofs.Try.func17 rfl (by kernel_rfl) rfl rfl ?_
  rintro ⟨(m : List Shf), (name : Str), ⟨⟩⟩ ⟨hdm, _⟩ hpre
  try dsimp only [Ty.den, Mode.den, mdens] at hpre
  refine ⟨rfl, ?_⟩
  refine sw_seq ?_
  refine sw_region hP 1 [] rfl (by kernel_rfl) (fun _ => by kernel_rfl) (by first | trivial | (simp [conj]; done) | (simp [conj] at *; (try dsimp only [Ty.den, Ty.dflt] at *); omega)) ?_
  refine sw_seq ?_
  refine sw_seq ?_
  refine sw_region hP 2 [] rfl (by kernel_rfl) (fun _ => by kernel_rfl) (by first | trivial | (simp [conj]; done) | (simp [conj] at *; (try dsimp only [Ty.den, Ty.dflt] at *); omega)) ?_
  refine sw_cond rfl (fun c1 => ?_) (fun c1 => ?_)
  · skip
    refine sw_seq ?_
    refine sw_region hP 3 [] rfl (by kernel_rfl) (fun _ => by kernel_rfl) (by first | trivial | (simp [conj]; done) | (simp [conj] at *; (try dsimp only [Ty.den, Ty.dflt] at *); omega)) ?_
    refine sw_ret ⟨.inl rfl, _, rfl, ?_⟩
    simp [conj] at *
    first | (simp [makeV, *]; done) | (simp [makeV, c5, c1]; done)
  · skip
    replace c1 : mokV m = true := by simpa using c1
    have h4 : m.length ≤ 4 := mok_len4 c1
    refine sw_skip ?_
    refine sw_seq ?_
    refine sw_region hP 3 [] rfl (by kernel_rfl) (fun _ => by kernel_rfl) ?_ ?_
    · skip
      simp [conj, maxL]
      try dsimp only [Ty.den, Ty.dflt]
      try simp only [rd_eta]
      exact c1
    refine sw_seq ?_
    refine sw_region hP 4 [] rfl (by kernel_rfl) (fun _ => by kernel_rfl) (by first | trivial | (simp [conj]; done) | (simp [conj] at *; (try dsimp only [Ty.den, Ty.dflt] at *); omega)) ?_
    refine sw_seq ?_
    refine sw_seq ?_
    refine sw_region hP 5 [] rfl (by kernel_rfl) (fun _ => by kernel_rfl) (by first | trivial | (simp [conj]; done) | (simp [conj] at *; (try dsimp only [Ty.den, Ty.dflt] at *); omega)) ?_
    refine sw_cond rfl (fun c5 => ?_) (fun c5 => ?_)
    · skip
      refine sw_region hP 6 [] rfl (by kernel_rfl) (fun _ => by kernel_rfl) ?_ ?_
      · skip
        simp [conj, maxL]
        try dsimp only [Ty.den, Ty.dflt]
        try simp only [rd_eta]
        omega
      refine sw_seq ?_
      refine sw_region hP 7 [] rfl (by kernel_rfl) (fun _ => by kernel_rfl) (by first | trivial | (simp [conj]; done) | (simp [conj] at *; (try dsimp only [Ty.den, Ty.dflt] at *); omega)) ?_
      refine sw_ret ⟨.inl rfl, _, rfl, ?_⟩
      simp [conj] at *
      first | (simp [makeV, *]; done) | (simp [makeV, c5, c1]; done)
    · skip
      refine sw_skip ?_
      refine sw_seq ?_
      refine sw_region hP 6 [] rfl (by kernel_rfl) (fun _ => by kernel_rfl) (by first | trivial | (simp [conj]; done) | (simp [conj] at *; (try dsimp only [Ty.den, Ty.dflt] at *); omega)) ?_
      refine sw_ret ⟨.inl rfl, _, rfl, ?_⟩
      simp [conj] at *
      first | (simp [makeV, *]; done) | (simp [makeV, c5, c1]; done)

def cDrop : Ctr := ⟨14, [.val true T_Model (.all .b), .val false .str pF], fun _ => True, fun x => (.tup [(true, [.own ⟨1, 0, 0⟩]), (false, [.d TI pF (dropV x.1 x.2.1).2])], [(⟨1, 0, 0⟩, .sl T_Shelf (.all .w) (dropV x.1 x.2.1).1)])⟩
theorem cDrop_ok : CtrOk Proofs.Try.prog cDrop := by
  have hP := ((((Prg.none ttok mtok).and cMok_ok).and cCopy_ok).and cFind_ok)
  refine ctr_of_body hP cDrop (fn := Proofs.Try.f14) (rts := [.cell 4 25, .tmp 5]) Proofs.Try.func14 rfl (by kernel_rfl) rfl rfl ?_
  rintro ⟨(m : List Shf), (name : Str), ⟨⟩⟩ ⟨hdm, _⟩ hpre
  try dsimp only [Ty.den, Mode.den, mdens] at hpre
  refine ⟨rfl, ?_⟩
  refine sw_seq ?_
  refine sw_region hP 1 [] rfl (by kernel_rfl) (fun _ => by kernel_rfl) (by first | trivial | (simp [conj]; done) | (simp [conj] at *; (try dsimp only [Ty.den, Ty.dflt] at *); omega)) ?_
  refine sw_seq ?_
  refine sw_seq ?_
  refine sw_region hP 2 [] rfl (by kernel_rfl) (fun _ => by kernel_rfl) (by first | trivial | (simp [conj]; done) | (simp [conj] at *; (try dsimp only [Ty.den, Ty.dflt] at *); omega)) ?_
  refine sw_cond rfl (fun c1 => ?_) (fun c1 => ?_)
  · skip
    refine sw_seq ?_
    refine sw_region hP 3 [] rfl (by kernel_rfl) (fun _ => by kernel_rfl) (by first | trivial | (simp [conj]; done) | (simp [conj] at *; (try dsimp only [Ty.den, Ty.dflt] at *); omega)) ?_
    refine sw_ret ⟨.inl rfl, _, rfl, ?_⟩
    simp [conj] at *
    first | (simp [dropV, *]; done) | (rw [dropV_ok c1 c5]; exact ⟨by simp only []; congr 2; omega, rfl⟩)
  · skip
    replace c1 : mokV m = true := by simpa using c1
    have h4 : m.length ≤ 4 := mok_len4 c1
    refine sw_skip ?_
    refine sw_seq ?_
    refine sw_region hP 3 [] rfl (by kernel_rfl) (fun _ => by kernel_rfl) ?_ ?_
    · skip
      simp [conj, maxL]
      try dsimp only [Ty.den, Ty.dflt]
      try simp only [rd_eta]
      exact c1
    refine sw_seq ?_
    refine sw_region hP 4 [] rfl (by kernel_rfl) (fun _ => by kernel_rfl) (by first | trivial | (simp [conj]; done) | (simp [conj] at *; (try dsimp only [Ty.den, Ty.dflt] at *); omega)) ?_
    refine sw_seq ?_
    refine sw_seq ?_
    refine sw_region hP 5 [] rfl (by kernel_rfl) (fun _ => by kernel_rfl) (by first | trivial | (simp [conj]; done) | (simp [conj] at *; (try dsimp only [Ty.den, Ty.dflt] at *); omega)) ?_
    refine sw_cond rfl (fun c5 => ?_) (fun c5 => ?_)
    · skip
      refine sw_seq ?_
      refine sw_region hP 6 [] rfl (by kernel_rfl) (fun _ => by kernel_rfl) (by first | trivial | (simp [conj]; done) | (simp [conj] at *; (try dsimp only [Ty.den, Ty.dflt] at *); omega)) ?_
      refine sw_ret ⟨.inl rfl, _, rfl, ?_⟩
      simp [conj] at *
      first | (simp [dropV, *]; done) | (rw [dropV_ok c1 c5]; exact ⟨by simp only []; congr 2; omega, rfl⟩)
    · skip
      replace c5 : 0 ≤ findV m name := by simpa using c5
      have hn : ¬ findV m name < 0 := by omega
      have hk := findV_bd c5
      refine sw_skip ?_
      refine sw_seq ?_
      refine sw_region hP 6 [] rfl (by kernel_rfl) (fun _ => by kernel_rfl) ?_ ?_
      · skip
        simp [conj, maxL]
        try dsimp only [Ty.den, Ty.dflt]
        try simp only [rd_eta]
        omega
      refine sw_seq ?_
      refine sw_region hP 7 [] rfl (by kernel_rfl) (fun _ => by kernel_rfl) (by first | trivial | (simp [conj]; done) | (simp [conj] at *; (try dsimp only [Ty.den, Ty.dflt] at *); omega)) ?_
      refine sw_ret ⟨.inl rfl, _, rfl, ?_⟩
      simp [conj] at *
      first | (simp [dropV, *]; done) | (rw [dropV_ok c1 c5]; exact ⟨by simp only []; congr 2; omega, rfl⟩)

def cCopyM : Ctr := ⟨20, [.val true T_Model (.all .b), .val false .str pF, .val false .str pF], fun _ => True, fun x => (.tup [(true, [.own ⟨1, 0, 0⟩]), (false, [.d TI pF (copyV x.1 x.2.1 x.2.2.1).2])], [(⟨1, 0, 0⟩, .sl T_Shelf (.all .w) (copyV x.1 x.2.1 x.2.2.1).1)])⟩
theorem cCopyM_ok : CtrOk Proofs.Try.prog cCopyM := by
  have hP := (((((Prg.none ttok mtok).and cMok_ok).and cCopy_ok).and cAdd_ok).and cFind_ok)
  refine ctr_of_body hP cCopyM (fn := Proofs.Try.f20) (rts := [.cell 6 25, .tmp 7]) Proofs.Try.func20 rfl (by kernel_rfl) rfl rfl ?_
  rintro ⟨(m : List Shf), (frm : Str), (name : Str), ⟨⟩⟩ ⟨hdm, _⟩ hpre
  try dsimp only [Ty.den, Mode.den, mdens] at hpre
  refine ⟨rfl, ?_⟩
  refine sw_seq ?_
  refine sw_region hP 1 [] rfl (by kernel_rfl) (fun _ => by kernel_rfl) (by first | trivial | (simp [conj]; done) | (simp [conj] at *; (try dsimp only [Ty.den, Ty.dflt] at *); omega)) ?_
  refine sw_seq ?_
  refine sw_seq ?_
  refine sw_region hP 2 [] rfl (by kernel_rfl) (fun _ => by kernel_rfl) (by first | trivial | (simp [conj]; done) | (simp [conj] at *; (try dsimp only [Ty.den, Ty.dflt] at *); omega)) ?_
  refine sw_cond rfl (fun c1 => ?_) (fun c1 => ?_)
  · skip
    refine sw_seq ?_
    refine sw_region hP 3 [] rfl (by kernel_rfl) (fun _ => by kernel_rfl) (by first | trivial | (simp [conj]; done) | (simp [conj] at *; (try dsimp only [Ty.den, Ty.dflt] at *); omega)) ?_
    refine sw_ret ⟨.inl rfl, _, rfl, ?_⟩
    simp [conj] at *
    first | (simp [copyV, *]; done) | (rw [copyV_ok c1 c5 c8, List.getD_eq_getElem?_getD, List.getElem?_eq_getElem hk]; exact ⟨rfl, c8⟩) | (rw [copyV_no c1 c5 c8]; exact ⟨rfl, rfl⟩)
  · skip
    replace c1 : mokV m = true := by simpa using c1
    have h4 : m.length ≤ 4 := mok_len4 c1
    refine sw_skip ?_
    refine sw_seq ?_
    refine sw_region hP 3 [] rfl (by kernel_rfl) (fun _ => by kernel_rfl) ?_ ?_
    · skip
      simp [conj, maxL]
      try dsimp only [Ty.den, Ty.dflt]
      try simp only [rd_eta]
      exact c1
    refine sw_seq ?_
    refine sw_region hP 4 [] rfl (by kernel_rfl) (fun _ => by kernel_rfl) (by first | trivial | (simp [conj]; done) | (simp [conj] at *; (try dsimp only [Ty.den, Ty.dflt] at *); omega)) ?_
    refine sw_seq ?_
    refine sw_seq ?_
    refine sw_region hP 5 [] rfl (by kernel_rfl) (fun _ => by kernel_rfl) (by first | trivial | (simp [conj]; done) | (simp [conj] at *; (try dsimp only [Ty.den, Ty.dflt] at *); omega)) ?_
    refine sw_cond rfl (fun c5 => ?_) (fun c5 => ?_)
    · skip
      refine sw_seq ?_
      refine sw_region hP 6 [] rfl (by kernel_rfl) (fun _ => by kernel_rfl) (by first | trivial | (simp [conj]; done) | (simp [conj] at *; (try dsimp only [Ty.den, Ty.dflt] at *); omega)) ?_
      refine sw_ret ⟨.inl rfl, _, rfl, ?_⟩
      simp [conj] at *
      first | (simp [copyV, *]; done) | (rw [copyV_ok c1 c5 c8, List.getD_eq_getElem?_getD, List.getElem?_eq_getElem hk]; exact ⟨rfl, c8⟩) | (rw [copyV_no c1 c5 c8]; exact ⟨rfl, rfl⟩)
    · skip
      replace c5 : 0 ≤ findV m frm := by simpa using c5
      have hn : ¬ findV m frm < 0 := by omega
      have hk := findV_bd c5
      have h3 := mok_at c1 hk
      refine sw_skip ?_
      refine sw_seq ?_
      refine sw_region hP 6 [] rfl (by kernel_rfl) (fun _ => by kernel_rfl) (by first | trivial | (simp [conj]; done) | (simp [conj] at *; (try dsimp only [Ty.den, Ty.dflt] at *); omega)) ?_
      refine sw_seq ?_
      refine sw_seq ?_
      refine sw_region hP 7 [] rfl (by kernel_rfl) (fun _ => by kernel_rfl) (by first | trivial | (simp [conj]; done) | (simp [conj] at *; (try dsimp only [Ty.den, Ty.dflt] at *); omega)) ?_
      refine sw_cond rfl (fun c8 => ?_) (fun c8 => ?_)
      · skip
        refine sw_region hP 8 [] rfl (by kernel_rfl) (fun _ => by kernel_rfl) ?_ ?_
        · skip
          simp [conj, maxL]
          try dsimp only [Ty.den, Ty.dflt]
          try simp only [rd_eta]
          simp only [List.getElem?_eq_getElem hk, Option.getD_some, h3]
          omega
        refine sw_seq ?_
        refine sw_region hP 9 [] rfl (by kernel_rfl) (fun _ => by kernel_rfl) (by first | trivial | (simp [conj]; done) | (simp [conj] at *; (try dsimp only [Ty.den, Ty.dflt] at *); omega)) ?_
        refine sw_ret ⟨.inl rfl, _, rfl, ?_⟩
        simp [conj] at *
        first | (simp [copyV, *]; done) | (rw [copyV_ok c1 c5 c8, List.getD_eq_getElem?_getD, List.getElem?_eq_getElem hk]; exact ⟨rfl, c8⟩) | (rw [copyV_no c1 c5 c8]; exact ⟨rfl, rfl⟩)
      · skip
        refine sw_skip ?_
        refine sw_seq ?_
        refine sw_region hP 8 [] rfl (by kernel_rfl) (fun _ => by kernel_rfl) (by first | trivial | (simp [conj]; done) | (simp [conj] at *; (try dsimp only [Ty.den, Ty.dflt] at *); omega)) ?_
        refine sw_ret ⟨.inl rfl, _, rfl, ?_⟩
        simp [conj] at *
        first | (simp [copyV, *]; done) | (rw [copyV_ok c1 c5 c8, List.getD_eq_getElem?_getD, List.getElem?_eq_getElem hk]; exact ⟨rfl, c8⟩) | (rw [copyV_no c1 c5 c8]; exact ⟨rfl, rfl⟩)

def cWrite : Ctr := ⟨8, [.val true T_Model (.all .b), .val false .str pF, .val false TI pF, .val false .str pF], fun _ => True, fun x => (.tup [(true, [.own ⟨1, 0, 0⟩]), (false, [.d TI pF (writeV x.1 x.2.1 x.2.2.1 x.2.2.2.1).2])], [(⟨1, 0, 0⟩, .sl T_Shelf (.all .w) (writeV x.1 x.2.1 x.2.2.1 x.2.2.2.1).1)])⟩
theorem cWrite_ok : CtrOk Proofs.Try.prog cWrite := by
  have hP := (((((Prg.none ttok mtok).and cMok_ok).and cCopy_ok).and cFind_ok).and cIn_ok)
  refine ctr_of_body hP cWrite (fn := Proofs.Try.f8) (rts := [.cell 8 25, .tmp 9]) Proofs.Try.func8 rfl (by kernel_rfl) rfl rfl ?_
  rintro ⟨(m : List Shf), (name : Str), (block : Int), (text : Str), ⟨⟩⟩ ⟨hdm, _⟩ hpre
  try dsimp only [Ty.den, Mode.den, mdens] at hpre
  refine ⟨rfl, ?_⟩
  refine sw_seq ?_
  refine sw_region hP 1 [] rfl (by kernel_rfl) (fun _ => by kernel_rfl) (by first | trivial | (simp [conj]; done) | (simp [conj] at *; (try dsimp only [Ty.den, Ty.dflt] at *); omega)) ?_
  refine sw_seq ?_
  refine sw_seq ?_
  refine sw_region hP 2 [] rfl (by kernel_rfl) (fun _ => by kernel_rfl) (by first | trivial | (simp [conj]; done) | (simp [conj] at *; (try dsimp only [Ty.den, Ty.dflt] at *); omega)) ?_
  refine sw_cond rfl (fun c1 => ?_) (fun c1 => ?_)
  · skip
    refine sw_seq ?_
    refine sw_region hP 3 [] rfl (by kernel_rfl) (fun _ => by kernel_rfl) (by first | trivial | (simp [conj]; done) | (simp [conj] at *; (try dsimp only [Ty.den, Ty.dflt] at *); omega)) ?_
    refine sw_ret ⟨.inl rfl, _, rfl, ?_⟩
    simp [conj] at *
    first | (simp [writeV, *]; done) | (rw [writeV_out c1 c5 g7_3]; exact ⟨rfl, rfl⟩) | (rw [writeV_long c1 c5 (by omega)]; exact ⟨rfl, rfl⟩) | (rw [writeV_ok c1 c5 g7_3 (by omega)]; exact ⟨by simp [hk], rfl⟩)
  · skip
    replace c1 : mokV m = true := by simpa using c1
    have h4 : m.length ≤ 4 := mok_len4 c1
    refine sw_skip ?_
    refine sw_seq ?_
    refine sw_region hP 3 [] rfl (by kernel_rfl) (fun _ => by kernel_rfl) ?_ ?_
    · skip
      simp [conj, maxL]
      try dsimp only [Ty.den, Ty.dflt]
      try simp only [rd_eta]
      exact c1
    refine sw_seq ?_
    refine sw_region hP 4 [] rfl (by kernel_rfl) (fun _ => by kernel_rfl) (by first | trivial | (simp [conj]; done) | (simp [conj] at *; (try dsimp only [Ty.den, Ty.dflt] at *); omega)) ?_
    refine sw_seq ?_
    refine sw_seq ?_
    refine sw_region hP 5 [] rfl (by kernel_rfl) (fun _ => by kernel_rfl) (by first | trivial | (simp [conj]; done) | (simp [conj] at *; (try dsimp only [Ty.den, Ty.dflt] at *); omega)) ?_
    refine sw_cond rfl (fun c5 => ?_) (fun c5 => ?_)
    · skip
      refine sw_seq ?_
      refine sw_region hP 6 [] rfl (by kernel_rfl) (fun _ => by kernel_rfl) (by first | trivial | (simp [conj]; done) | (simp [conj] at *; (try dsimp only [Ty.den, Ty.dflt] at *); omega)) ?_
      refine sw_ret ⟨.inl rfl, _, rfl, ?_⟩
      simp [conj] at *
      first | (simp [writeV, *]; done) | (rw [writeV_out c1 c5 g7_3]; exact ⟨rfl, rfl⟩) | (rw [writeV_long c1 c5 (by omega)]; exact ⟨rfl, rfl⟩) | (rw [writeV_ok c1 c5 g7_3 (by omega)]; exact ⟨by simp [hk], rfl⟩)
    · skip
      replace c5 : 0 ≤ findV m name := by simpa using c5
      have hn : ¬ findV m name < 0 := by omega
      have hk := findV_bd c5
      have h3 := mok_at c1 hk
      refine sw_skip ?_
      refine sw_seq ?_
      refine sw_seq ?_
      refine sw_dec hP 6 [] 3 rfl (fun g7_3 => ?_) (fun g7_3 => ?_)
      · skip
        refine sw_region hP 6 [(3, true)] rfl (by kernel_rfl) (fun _ => by kernel_rfl) (by first | trivial | (simp [conj]; done) | (simp [conj] at *; (try dsimp only [Ty.den, Ty.dflt] at *); omega)) ?_
        refine sw_condT rfl ?_
        refine sw_seq ?_
        refine sw_region hP 7 [] rfl (by kernel_rfl) (fun _ => by kernel_rfl) (by first | trivial | (simp [conj]; done) | (simp [conj] at *; (try dsimp only [Ty.den, Ty.dflt] at *); omega)) ?_
        refine sw_ret ⟨.inl rfl, _, rfl, ?_⟩
        simp [conj] at *
        first | (simp [writeV, *]; done) | (rw [writeV_out c1 c5 g7_3]; exact ⟨rfl, rfl⟩) | (rw [writeV_long c1 c5 (by omega)]; exact ⟨rfl, rfl⟩) | (rw [writeV_ok c1 c5 g7_3 (by omega)]; exact ⟨by simp [hk], rfl⟩)
      · skip
        refine sw_region hP 6 [(3, false)] rfl (by kernel_rfl) (fun _ => by kernel_rfl) (by first | trivial | (simp [conj]; done) | (simp [conj] at *; (try dsimp only [Ty.den, Ty.dflt] at *); omega)) ?_
        refine sw_cond rfl (fun c7 => ?_) (fun c7 => ?_)
        · skip
          refine sw_seq ?_
          refine sw_region hP 7 [] rfl (by kernel_rfl) (fun _ => by kernel_rfl) (by first | trivial | (simp [conj]; done) | (simp [conj] at *; (try dsimp only [Ty.den, Ty.dflt] at *); omega)) ?_
          refine sw_ret ⟨.inl rfl, _, rfl, ?_⟩
          simp [conj] at *
          first | (simp [writeV, *]; done) | (rw [writeV_out c1 c5 g7_3]; exact ⟨rfl, rfl⟩) | (rw [writeV_long c1 c5 (by omega)]; exact ⟨rfl, rfl⟩) | (rw [writeV_ok c1 c5 g7_3 (by omega)]; exact ⟨by simp [hk], rfl⟩)
        · skip
          replace g7_3 : inV block 0 2 = true := by simpa using g7_3
          refine sw_skip ?_
          refine sw_seq ?_
          refine sw_region hP 7 [] rfl (by kernel_rfl) (fun _ => by kernel_rfl) ?_ ?_
          · skip
            have hb := inV_bd g7_3
            simp [conj, maxL]
            try dsimp only [Ty.den, Ty.dflt]
            try simp only [rd_eta]
            simp only [List.getElem?_eq_getElem hk, Option.getD_some, h3]
            omega
          refine sw_seq ?_
          refine sw_region hP 8 [] rfl (by kernel_rfl) (fun _ => by kernel_rfl) (by first | trivial | (simp [conj]; done) | (simp [conj] at *; (try dsimp only [Ty.den, Ty.dflt] at *); omega)) ?_
          refine sw_ret ⟨.inl rfl, _, rfl, ?_⟩
          simp [conj] at *
          first | (simp [writeV, *]; done) | (rw [writeV_out c1 c5 g7_3]; exact ⟨rfl, rfl⟩) | (rw [writeV_long c1 c5 (by omega)]; exact ⟨rfl, rfl⟩) | (rw [writeV_ok c1 c5 g7_3 (by omega)]; exact ⟨by simp [hk], rfl⟩)

def cModel : Ctr := ⟨23, [.ref T_l6Rd pF], fun x => ROk x.1 400, fun x => (.v true [.d T_Model pF (modV x.1).1], [(⟨0, 0, 0⟩, rdA (modV x.1).2)])⟩
theorem cModel_ok : CtrOk Proofs.Try.prog cModel := by
  have hP := (((((Prg.none ttok mtok).and cPick_ok).and cOf_ok).and cFind_ok).and cText_ok)
  refine ctr_of_body hP cModel (fn := Proofs.Try.f23) (rts := [.cell 2 25]) Proofs.Try.func23 rfl (by kernel_rfl) rfl rfl ?_
  rintro ⟨(r : Rd), ⟨⟩⟩ _ hpre
  try dsimp only [Ty.den, Mode.den, mdens] at hpre
  refine ⟨rfl, ?_⟩
  have hr : ROk r 400 := hpre
  have hb : 0 ≤ pk r 5 ∧ pk r 5 < 5 := pk_bd hr (by omega) (by omega)
  refine sw_seq ?_
  refine sw_region hP 1 [] rfl (by kernel_rfl) (fun _ => by kernel_rfl) (by first | trivial | (simp [conj]; done) | (simp [conj] at *; (try dsimp only [Ty.den, Ty.dflt] at *); omega)) ?_
  refine sw_seq ?_
  refine sw_region hP 2 [] rfl (by kernel_rfl) (fun _ => by kernel_rfl) (by first | trivial | (simp [conj]; done) | (simp [conj] at *; (try dsimp only [Ty.den, Ty.dflt] at *); omega)) ?_
  refine sw_seq ?_
  refine sw_seq ?_
  refine sw_region hP 3 [] rfl (by kernel_rfl) (fun _ => by kernel_rfl) ?_ ?_
  · skip
    simp [conj, maxL]
    try dsimp only [Ty.den, Ty.dflt]
    try simp only [rd_eta]
    repeat' apply And.intro
    all_goals first | assumption | omega | exact hr.le (by omega)
  refine sw_block ?_
  refine sw_loop (ι := Nat × Rd × List Shf) (fun ⟨k, R, out⟩ => ⟨[.v false [.ptr ⟨0, 0, 0⟩ 0], .junk, .v false [.ptr ⟨1, 0, 0⟩ 0], .v false [.ptr ⟨2, 2, 0⟩ 0], sInt .i64 (k : Int), .junk, .junk, .junk, .junk, .junk, .junk, .junk, .junk, .junk, .junk, .junk, .junk, .junk, .junk, .junk, .junk, .junk, .junk, .junk, .junk, .junk, .junk, .junk, .junk, .junk, .junk, .junk, .junk, .junk, .junk, .junk, .junk, .junk, .junk, .junk, .junk, .junk, .junk, .junk, .junk, .junk, .junk, .junk, .junk, .junk, .junk, .junk, .junk, .junk, .junk, .junk, .junk, .junk, .junk, .junk, .junk, .junk, .junk, .junk, .junk, .junk, .junk, .junk, .junk, .junk, .junk, .junk, .junk, .junk, .junk, .junk, .junk, .junk, .junk, .junk, .junk, .junk, .junk, .junk, .junk, .junk, .junk, .junk, .junk], [(⟨0, 0, 0⟩, rdA R), (⟨1, 0, 0⟩, .var [.d T_Model pF []]), (⟨2, 2, 0⟩, .var [.own ⟨2, 0, 0⟩]), (⟨2, 0, 0⟩, .sl T_Shelf (.all .w) out)], 3, [[.v false [.ptr ⟨0, 0, 0⟩ 0]]]⟩) (fun ⟨k, R, out⟩ => k) (fun ⟨k, R, out⟩ => ROk R (102 + 58 * k) ∧ modGo k R out = modG r ∧ out.length + k ≤ 4 ∧ Thr out) ((pk r 5).toNat, nx r, []) ⟨?_, ?_⟩ ?_
  · skip
    exact ⟨hr.nx (by omega), rfl, by simp; omega, Thr.nil⟩
  · refine ent_ok rfl ?_
    simp [conj, maxL]
    try dsimp only [Ty.den, Ty.dflt]
    try simp only [rd_eta]
    omega
  · rintro ⟨k, R, out⟩ ⟨hR, hgo, hlen, hthr⟩
    refine sw_seq ?_
    refine sw_seq ?_
    refine sw_region hP 4 [] rfl (by kernel_rfl) (fun _ => by kernel_rfl) (by first | trivial | (simp [conj]; done) | (simp [conj] at *; (try dsimp only [Ty.den, Ty.dflt] at *); omega)) ?_
    refine sw_cond rfl (fun c3 => ?_) (fun c3 => ?_)
    · skip
      obtain ⟨k, rfl⟩ : ∃ q, k = q + 1 := ⟨k - 1, by simp at c3; omega⟩
      refine sw_skip ?_
      refine sw_seq ?_
      refine sw_block ?_
      refine sw_seq ?_
      refine sw_region hP 5 [] rfl (by kernel_rfl) (fun _ => by kernel_rfl) ?_ ?_
      · skip
        simp [conj, maxL]
        try dsimp only [Ty.den, Ty.dflt]
        try simp only [rd_eta]
        repeat' apply And.intro
        all_goals first | assumption | omega | exact (hR.le (by omega) : ROk R 1) | exact (by simp)
      refine sw_seq ?_
      refine sw_seq ?_
      refine sw_region hP 6 [] rfl (by kernel_rfl) (fun _ => by kernel_rfl) (by first | trivial | (simp [conj]; done) | (simp [conj] at *; (try dsimp only [Ty.den, Ty.dflt] at *); omega)) ?_
      refine sw_cond rfl (fun c6 => ?_) (fun c6 => ?_)
      · skip
        replace c6 : 0 ≤ findV out (nmV R) := of_decide_eq_true c6
        refine sw_exit ?_
        refine sw_region hP 7 [] rfl (by kernel_rfl) (fun _ => by kernel_rfl) (by first | trivial | (simp [conj]; done) | (simp [conj] at *; (try dsimp only [Ty.den, Ty.dflt] at *); omega)) ?_
        refine ⟨(k, nx R, out), ?_, ?_, ent_ok rfl ?_⟩
        · skip
          exact ⟨hR.nx (by omega), modGo_skip hgo c6, (by omega : out.length + k ≤ 4), hthr⟩
        · skip
          exact Nat.lt_succ_self k
        · skip
          simp [conj, maxL]
          try dsimp only [Ty.den, Ty.dflt]
          try simp only [rd_eta]
          repeat' apply And.intro
          all_goals first | rfl | assumption | omega
      · skip
        replace c6 : ¬ 0 ≤ findV out (nmV R) := of_decide_eq_false c6
        refine sw_skip ?_
        refine sw_seq ?_
        refine sw_seq ?_
        refine sw_region hP 7 [] rfl (by kernel_rfl) (fun _ => by kernel_rfl) (by first | trivial | (simp [conj]; done) | (simp [conj] at *; (try dsimp only [Ty.den, Ty.dflt] at *); omega)) ?_
        refine sw_block ?_
        refine sw_loop (ι := Nat × Rd × List Str) (fun ⟨j, R', l⟩ => ⟨[.v false [.ptr ⟨0, 0, 0⟩ 0], .junk, .v false [.ptr ⟨1, 0, 0⟩ 0], .v false [.ptr ⟨2, 2, 0⟩ 0], sInt .i64 ((k + 1 : Nat) : Int), .v false [.ptr ⟨5, 4, 0⟩ 0], sInt .i64 (3 - (j : Int)), .junk, .junk, .junk, .junk, .junk, .junk, .junk, .junk, .junk, .junk, .junk, .junk, .junk, .junk, .junk, .junk, .junk, .junk, .junk, .junk, .junk, .junk, .junk, .junk, .junk, .junk, .junk, .junk, .junk, .junk, .junk, .junk, .junk, .junk, .junk, .junk, .junk, .junk, .junk, .junk, .junk, .junk, .junk, .junk, .junk, .junk, .junk, .junk, .junk, .junk, .junk, .junk, .junk, .junk, .junk, .junk, .junk, .junk, .junk, .junk, .junk, .junk, .junk, .junk, .junk, .junk, .junk, .junk, .junk, .junk, .junk, .junk, .junk, .junk, .junk, .junk, .junk, .junk, .junk, .junk, .junk, .junk], [(⟨0, 0, 0⟩, rdA R'), (⟨1, 0, 0⟩, .var [.d T_Model pF []]), (⟨2, 2, 0⟩, .var [.own ⟨2, 0, 0⟩]), (⟨2, 0, 0⟩, .sl T_Shelf (.all .w) out), (⟨5, 4, 0⟩, .var [.d .str pF (nmV R), .own ⟨0, 9, 0⟩]), (⟨0, 9, 0⟩, .sl .str (.all .w) l)], 7, [[.v false [.ptr ⟨0, 0, 0⟩ 0]]]⟩) (fun ⟨j, R', l⟩ => j) (fun ⟨j, R', l⟩ => ROk R' (102 + 58 * k + 19 * j) ∧ txGo j R' l = txGo 3 (nx R) [] ∧ l.length + j = 3) (3, nx R, []) ⟨?_, ?_⟩ ?_
        · skip
          exact ⟨hR.nx (by omega), rfl, rfl⟩
        · refine ent_ok rfl ?_
          simp [conj, maxL]
          try dsimp only [Ty.den, Ty.dflt]
          try simp only [rd_eta]
          repeat' apply And.intro
          all_goals first | rfl | assumption | omega
        · rintro ⟨j, R', l⟩ ⟨hR', hgl, hll⟩
          refine sw_seq ?_
          refine sw_seq ?_
          refine sw_region hP 8 [] rfl (by kernel_rfl) (fun _ => by kernel_rfl) (by first | trivial | (simp [conj]; done) | (simp [conj] at *; (try dsimp only [Ty.den, Ty.dflt] at *); omega)) ?_
          refine sw_cond rfl (fun c8 => ?_) (fun c8 => ?_)
          · skip
            obtain ⟨j, rfl⟩ : ∃ q, j = q + 1 := ⟨j - 1, by simp at c8; omega⟩
            refine sw_skip ?_
            refine sw_seq ?_
            refine sw_block ?_
            refine sw_region hP 9 [] rfl (by kernel_rfl) (fun _ => by kernel_rfl) ?_ ?_
            · skip
              simp [conj, maxL]
              try dsimp only [Ty.den, Ty.dflt]
              try simp only [rd_eta]
              repeat' apply And.intro
              all_goals first | assumption | omega | exact (hR'.le (by omega) : ROk R' (2 * 9 + 3)) | exact (by simp)
            refine sw_region hP 10 [] rfl (by kernel_rfl) (fun _ => by kernel_rfl) (by first | trivial | (simp [conj]; done) | (simp [conj] at *; (try dsimp only [Ty.den, Ty.dflt] at *); omega)) ?_
            refine ⟨(j, textR R' 9, l ++ [textV R' 9]), ?_, ?_, ent_ok rfl ?_⟩
            · skip
              exact ⟨textR_ok hR' (by omega) (by omega) (by omega), hgl, by simp; omega⟩
            · skip
              exact Nat.lt_succ_self j
            · skip
              simp [conj, maxL]
              try dsimp only [Ty.den, Ty.dflt]
              try simp only [rd_eta]
              repeat' apply And.intro
              all_goals first | rfl | assumption | omega
          · skip
            obtain rfl : j = 0 := by simp at c8; omega
            replace hgl : (l, R') = txGo 3 (nx R) [] := hgl
            refine sw_exit ?_
            refine sw_region hP 9 [] rfl (by kernel_rfl) (fun _ => by kernel_rfl) ?_ ?_
            · skip
              simp [conj, maxL]
              try dsimp only [Ty.den, Ty.dflt]
              try simp only [rd_eta]
              omega
            refine sw_region hP 10 [] rfl (by kernel_rfl) (fun _ => by kernel_rfl) (by first | trivial | (simp [conj]; done) | (simp [conj] at *; (try dsimp only [Ty.den, Ty.dflt] at *); omega)) ?_
            refine ⟨(k, (txGo 3 (nx R) []).2, out ++ [(nmV R, (txGo 3 (nx R) []).1)]), ?_, ?_, ent_ok rfl ?_⟩
            · skip
              rw [← hgl]
              exact ⟨hR'.le (by omega), by rw [modGo_more hgo c6, ← hgl], by simp; omega, hthr.add (by omega)⟩
            · skip
              exact Nat.lt_succ_self k
            · skip
              rw [← hgl]
              simp [conj, maxL]
              try dsimp only [Ty.den, Ty.dflt]
              try simp only [rd_eta]
              repeat' apply And.intro
              all_goals first | rfl | assumption | omega
    · skip
      obtain rfl : k = 0 := by simp at c3; omega
      replace hgo : (out, R) = modG r := hgo
      refine sw_exit ?_
      refine sw_seq ?_
      refine sw_seq ?_
      refine sw_dec hP 5 [] 3 rfl (fun g12_3 => ?_) (fun g12_3 => ?_)
      · skip
        replace g12_3 : 0 < pk R 12 := of_decide_eq_true g12_3
        refine sw_region hP 5 [(3, true)] rfl (by kernel_rfl) (fun _ => by kernel_rfl) ?_ ?_
        · skip
          simp [conj, maxL]
          try dsimp only [Ty.den, Ty.dflt]
          try simp only [rd_eta]
          first | exact hR.le (by omega) | exact ⟨hR.le (by omega), g12_3⟩ | exact ⟨hR.le (by omega), by omega⟩
        refine sw_condT rfl ?_
        refine sw_seq ?_
        refine sw_frz ⟨2, 0, 0⟩ rfl ?_
        refine sw_region hP 6 [] rfl (by kernel_rfl) (fun _ => by kernel_rfl) (by first | trivial | (simp [conj]; done) | (simp [conj] at *; (try dsimp only [Ty.den, Ty.dflt] at *); omega)) ?_
        refine sw_ret ⟨.inl rfl, _, rfl, ?_⟩
        have hv := modV_a hgo (.inl g12_3)
        simp only [hv]
        simp [conj, maxL]
        try dsimp only [Ty.den, Ty.dflt]
        try simp only [rd_eta]
        repeat' apply And.intro
        all_goals first | rfl | assumption | omega
      · skip
        replace g12_3 : ¬ 0 < pk R 12 := of_decide_eq_false g12_3
        refine sw_region hP 5 [(3, false)] rfl (by kernel_rfl) (fun _ => by kernel_rfl) ?_ ?_
        · skip
          simp [conj, maxL]
          try dsimp only [Ty.den, Ty.dflt]
          try simp only [rd_eta]
          first | exact hR.le (by omega) | exact ⟨hR.le (by omega), g12_3⟩ | exact ⟨hR.le (by omega), by omega⟩
        refine sw_cond rfl (fun c12 => ?_) (fun c12 => ?_)
        · skip
          replace c12 : out = [] := by simpa using c12
          refine sw_seq ?_
          refine sw_frz ⟨2, 0, 0⟩ rfl ?_
          refine sw_region hP 6 [] rfl (by kernel_rfl) (fun _ => by kernel_rfl) (by first | trivial | (simp [conj]; done) | (simp [conj] at *; (try dsimp only [Ty.den, Ty.dflt] at *); omega)) ?_
          refine sw_ret ⟨.inl rfl, _, rfl, ?_⟩
          have hv := modV_a hgo (.inr c12)
          simp only [hv]
          simp [conj, maxL]
          try dsimp only [Ty.den, Ty.dflt]
          try simp only [rd_eta]
          repeat' apply And.intro
          all_goals first | rfl | assumption | omega
        · skip
          replace c12 : ¬ out = [] := by simpa using c12
          have hpos : 0 < out.length := List.length_pos_iff.2 c12
          have h0 : (out[0]?.getD ([], [])).2.length = 3 := hthr.shf0 c12
          have h0' : ¬ (out[0]?.getD ([], [])).2 = [] := by intro e; rw [e] at h0; cases h0
          refine sw_skip ?_
          refine sw_seq ?_
          refine sw_seq ?_
          refine sw_region hP 6 [] rfl (by kernel_rfl) (fun _ => by kernel_rfl) ?_ ?_
          · skip
            simp [conj, maxL]
            try dsimp only [Ty.den, Ty.dflt]
            try simp only [rd_eta]
            repeat' apply And.intro
            all_goals first | assumption | omega | exact (hR.nx (by omega) : ROk (nx R) 1)
          refine sw_block ?_
          refine sw_seq ?_
          refine sw_region hP 7 [] rfl (by kernel_rfl) (fun _ => by kernel_rfl) (by first | trivial | (simp [conj]; done) | (simp [conj] at *; (try dsimp only [Ty.den, Ty.dflt] at *); omega)) ?_
          refine sw_cond rfl (fun c16 => ?_) (fun c16 => ?_)
          · skip
            replace c16 : pk (nx R) 4 = 0 := of_decide_eq_true c16
            refine sw_frzIn ⟨2, 0, 0⟩ rfl ?_
            refine sw_region hP 8 [] rfl (by kernel_rfl) (fun _ => by kernel_rfl) ?_ ?_
            · skip
              simp [conj, maxL]
              try dsimp only [Ty.den, Ty.dflt]
              try simp only [rd_eta]
              repeat' apply And.intro
              all_goals first | rfl | assumption | omega
            refine sw_seq ?_
            refine sw_frz ⟨8, 7, 0⟩ rfl ?_
            refine sw_region hP 9 [] rfl (by kernel_rfl) (fun _ => by kernel_rfl) (by first | trivial | (simp [conj]; done) | (simp [conj] at *; (try dsimp only [Ty.den, Ty.dflt] at *); omega)) ?_
            refine sw_ret ⟨.inl rfl, _, rfl, ?_⟩
            have hv := modV_b hgo g12_3 c12
            unfold modX at hv
            rw [if_pos c16] at hv
            simp only [hv]
            simp [conj, maxL]
            try dsimp only [Ty.den, Ty.dflt]
            try simp only [rd_eta]
            repeat' apply And.intro
            all_goals first | rfl | assumption | omega
          · skip
            replace c16 : ¬ pk (nx R) 4 = 0 := of_decide_eq_false c16
            refine sw_seq ?_
            refine sw_region hP 8 [] rfl (by kernel_rfl) (fun _ => by kernel_rfl) (by first | trivial | (simp [conj]; done) | (simp [conj] at *; (try dsimp only [Ty.den, Ty.dflt] at *); omega)) ?_
            refine sw_cond rfl (fun c18 => ?_) (fun c18 => ?_)
            · skip
              replace c18 : pk (nx R) 4 = 1 := of_decide_eq_true c18
              refine sw_region hP 9 [] rfl (by kernel_rfl) (fun _ => by kernel_rfl) ?_ ?_
              · skip
                simp [conj, maxL]
                try dsimp only [Ty.den, Ty.dflt]
                try simp only [rd_eta]
                repeat' apply And.intro
                all_goals first | rfl | assumption | omega
              refine sw_seq ?_
              refine sw_frz ⟨2, 0, 0⟩ rfl ?_
              refine sw_region hP 10 [] rfl (by kernel_rfl) (fun _ => by kernel_rfl) (by first | trivial | (simp [conj]; done) | (simp [conj] at *; (try dsimp only [Ty.den, Ty.dflt] at *); omega)) ?_
              refine sw_ret ⟨.inl rfl, _, rfl, ?_⟩
              have hv := modV_b hgo g12_3 c12
              unfold modX at hv
              rw [if_neg c16, if_pos c18] at hv
              simp only [hv]
              simp [conj, maxL]
              try dsimp only [Ty.den, Ty.dflt]
              try simp only [rd_eta]
              repeat' apply And.intro
              all_goals first | rfl | assumption | omega
            · skip
              replace c18 : ¬ pk (nx R) 4 = 1 := of_decide_eq_false c18
              refine sw_seq ?_
              refine sw_region hP 9 [] rfl (by kernel_rfl) (fun _ => by kernel_rfl) (by first | trivial | (simp [conj]; done) | (simp [conj] at *; (try dsimp only [Ty.den, Ty.dflt] at *); omega)) ?_
              refine sw_cond rfl (fun c20 => ?_) (fun c20 => ?_)
              · skip
                replace c20 : pk (nx R) 4 = 2 := of_decide_eq_true c20
                refine sw_frzIn ⟨2, 0, 0⟩ rfl ?_
                refine sw_region hP 10 [] rfl (by kernel_rfl) (fun _ => by kernel_rfl) ?_ ?_
                · skip
                  simp [conj, maxL]
                  try dsimp only [Ty.den, Ty.dflt]
                  try simp only [rd_eta]
                  repeat' apply And.intro
                  all_goals first | rfl | assumption | omega
                refine sw_seq ?_
                refine sw_frz ⟨2, 0, 0⟩ rfl ?_
                refine sw_region hP 11 [] rfl (by kernel_rfl) (fun _ => by kernel_rfl) (by first | trivial | (simp [conj]; done) | (simp [conj] at *; (try dsimp only [Ty.den, Ty.dflt] at *); omega)) ?_
                refine sw_ret ⟨.inl rfl, _, rfl, ?_⟩
                have hv := modV_b hgo g12_3 c12
                unfold modX at hv
                rw [if_neg c16, if_neg c18, if_pos c20] at hv
                simp only [hv]
                simp [conj, maxL]
                try dsimp only [Ty.den, Ty.dflt]
                try simp only [rd_eta]
                repeat' apply And.intro
                all_goals first | rfl | assumption | omega
              · skip
                replace c20 : ¬ pk (nx R) 4 = 2 := of_decide_eq_false c20
                refine sw_region hP 10 [] rfl (by kernel_rfl) (fun _ => by kernel_rfl) ?_ ?_
                · skip
                  simp [conj, maxL]
                  try dsimp only [Ty.den, Ty.dflt]
                  try simp only [rd_eta]
                  repeat' apply And.intro
                  all_goals first | rfl | assumption | omega
                refine sw_seq ?_
                refine sw_pack ⟨2, 0, 0⟩ T_Shelf (.all .w) rfl ?_
                refine sw_frz ⟨2, 0, 0⟩ rfl ?_
                refine sw_region hP 11 [] rfl (by kernel_rfl) (fun _ => by kernel_rfl) (by first | trivial | (simp [conj]; done) | (simp [conj] at *; (try dsimp only [Ty.den, Ty.dflt] at *); omega)) ?_
                refine sw_ret ⟨.inl rfl, _, rfl, ?_⟩
                have hv := modV_b hgo g12_3 c12
                unfold modX at hv
                rw [if_neg c16, if_neg c18, if_neg c20] at hv
                simp only [hv]
                simp [conj, maxL]
                try dsimp only [Ty.den, Ty.dflt]
                try simp only [rd_eta]
                repeat' apply And.intro
                all_goals first | rfl | assumption | omega
end Go.Sx
