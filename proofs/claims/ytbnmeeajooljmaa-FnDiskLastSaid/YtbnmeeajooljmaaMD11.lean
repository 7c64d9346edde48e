import Derived.Test.YtbnmeeajooljmaaMD7
import Derived.Test.YtbnmeeajooljmaaMPr
set_option linter.all false
namespace Go.Sx
open Go
set_option maxRecDepth 100000
set_option linter.unusedVariables false
set_option linter.unusedSimpArgs false
set_option maxHeartbeats 2000000

def cDOk : Ctr := ⟨10, [.val true T_Disk (.all .b)], fun _ => True, fun x => (sBool (rdV x.1), [])⟩
theorem cDOk_ok : CtrOk Proofs.Try.prog cDOk := by
  have hP := (Prg.none ttok mtok)
  refine ctr_of_body hP cDOk (fn := Proofs.Try.f10) (rts := [.tmp 2]) Proofs.Try.func10 rfl (by kernel_rfl) rfl rfl ?_
  rintro ⟨⟨(st : Int), (sl : List Str), (rg : List Str), (sp : List Bool), (wt : List Put)⟩, ⟨⟩⟩ _ _
  try dsimp only [Ty.den, Mode.den, mdens] at _
  refine ⟨rfl, ?_⟩
  by_cases h1 : rdV ((st, sl, rg, sp, wt) : Dsk) = true
  · skip
    have hP := ((Prg.none ttok mtok).and cRead_ok)
    refine sw_seq ?_
    refine sw_region hP 1 [] rfl (by kernel_rfl) (fun _ => by kernel_rfl) (by first | trivial | (simp [conj]; done) | (simp [conj] at *; (try dsimp only [Ty.den, Ty.dflt] at *); omega)) ?_
    refine sw_seq ?_
    refine sw_region hP 2 [] rfl (by kernel_rfl) (fun _ => by kernel_rfl) ?_ ?_
    · skip
      simp [conj, maxL]
      try dsimp only [Ty.den, Ty.dflt]
      try simp only [rd_eta]
      exact h1
    refine sw_seq ?_
    refine sw_region hP 3 [] rfl (by kernel_rfl) (fun _ => by kernel_rfl) (by first | trivial | (simp [conj]; done) | (simp [conj] at *; (try dsimp only [Ty.den, Ty.dflt] at *); omega)) ?_
    refine sw_ret ⟨.inl rfl, _, rfl, ?_⟩
    simp [conj, h1]
  · skip
    have hP := ((Prg.none ttok mtok).and cReadB_ok)
    have h1b : rdV ((st, sl, rg, sp, wt) : Dsk) = false := by simpa using h1
    refine sw_seq ?_
    refine sw_region hP 1 [] rfl (by kernel_rfl) (fun _ => by kernel_rfl) (by first | trivial | (simp [conj]; done) | (simp [conj] at *; (try dsimp only [Ty.den, Ty.dflt] at *); omega)) ?_
    refine sw_seq ?_
    refine sw_region hP 2 [] rfl (by kernel_rfl) (fun _ => by kernel_rfl) ?_ ?_
    · skip
      simp [conj, maxL]
      try dsimp only [Ty.den, Ty.dflt]
      try simp only [rd_eta]
      exact h1b
    refine sw_seq ?_
    refine sw_region hP 3 [] rfl (by kernel_rfl) (fun _ => by kernel_rfl) (by first | trivial | (simp [conj]; done) | (simp [conj] at *; (try dsimp only [Ty.den, Ty.dflt] at *); omega)) ?_
    refine sw_ret ⟨.inl rfl, _, rfl, ?_⟩
    simp [conj, h1b]

def cDRead : Ctr := ⟨16, [.val true T_Disk (.all .b), .val false TI pF], fun _ => True, fun x => (.tup [(false, [.d .str pF (readV x.1 x.2.1)]), (false, [.d .bool pF (decide (readV x.1 x.2.1 ≠ []))])], [])⟩
theorem cDRead_ok : CtrOk Proofs.Try.prog cDRead := by
  have hP := (Prg.none ttok mtok)
  refine ctr_of_body hP cDRead (fn := Proofs.Try.f16) (rts := [.tmp 4, .tmp 5]) Proofs.Try.func16 rfl (by kernel_rfl) rfl rfl ?_
  rintro ⟨⟨(st : Int), (sl : List Str), (rg : List Str), (sp : List Bool), (wt : List Put)⟩, (at_ : Int), ⟨⟩⟩ _ _
  try dsimp only [Ty.den, Mode.den, mdens] at _
  refine ⟨rfl, ?_⟩
  by_cases h1 : rdV ((st, sl, rg, sp, wt) : Dsk) = true
  · skip
    have hP := ((Prg.none ttok mtok).and cRead_ok)
    by_cases h2 : 0 ≤ at_ ∧ at_ < 12
    · skip
      obtain ⟨hsh, hwb, hsb, hrb, hgb⟩ := rd_parts h1
      obtain ⟨hst, h12, h2b, h12b, h40⟩ := shaped_iff hsh
      dsimp only at h40
      have hv : readV ((st, sl, rg, sp, wt) : Dsk) at_ = seenV (sl, rg, sp) wt at_ := readV_ok h1 h2
      replace hP := hP.andX (cSeen_ok (st := st) (t := (sl, rg, sp)) (l := wt) (at_ := at_) (d := ⟨2, 1, 0⟩) (c := ⟨2, 1, 64⟩) h40 h2.1 h2.2)
      refine sw_seq ?_
      refine sw_region hP 1 [] rfl (by kernel_rfl) (fun _ => by kernel_rfl) (by first | trivial | (simp [conj]; done) | (simp [conj] at *; (try dsimp only [Ty.den, Ty.dflt] at *); omega)) ?_
      refine sw_seq ?_
      refine sw_region hP 2 [] rfl (by kernel_rfl) (fun _ => by kernel_rfl) ?_ ?_
      · skip
        simp [conj, maxL]
        try dsimp only [Ty.den, Ty.dflt]
        try simp only [rd_eta]
        exact h1
      refine sw_seq ?_
      refine sw_seq ?_
      refine sw_dec hP 3 [] 2 rfl (fun g2_2 => ?_) (fun g2_2 => ?_)
      · skip
        cases g2_2
      · skip
        refine sw_dec hP 3 [(2, false)] 6 rfl (fun g2_6 => ?_) (fun g2_6 => ?_)
        · skip
          have h : at_ < 0 := of_decide_eq_true g2_6
          omega
        · skip
          replace g2_6 : ¬ at_ < 0 := of_decide_eq_false g2_6
          refine sw_region hP 3 [(2, false), (6, false)] rfl (by kernel_rfl) (fun _ => by kernel_rfl) (by first | trivial | (simp [conj]; done) | (simp [conj] at *; (try dsimp only [Ty.den, Ty.dflt] at *); omega)) ?_
          refine sw_cond rfl (fun c2 => ?_) (fun c2 => ?_)
          · skip
            have h : at_ ≥ 12 := of_decide_eq_true c2
            omega
          · skip
            refine sw_skip ?_
            refine sw_seq ?_
            refine sw_region hP 4 [] rfl (by kernel_rfl) (fun _ => by kernel_rfl) (by first | trivial | (simp [conj]; done) | (simp [conj] at *; (try dsimp only [Ty.den, Ty.dflt] at *); omega)) ?_
            refine sw_seq ?_
            refine sw_region hP 5 [] rfl (by kernel_rfl) (fun _ => by kernel_rfl) (by first | trivial | (simp [conj]; done) | (simp [conj] at *; (try dsimp only [Ty.den, Ty.dflt] at *); omega)) ?_
            refine sw_ret ⟨.inl rfl, _, rfl, ?_⟩
            simp [conj, hv]
            try exact Iff.rfl
            try rfl
    · skip
      have hv : readV ((st, sl, rg, sp, wt) : Dsk) at_ = [] := readV_no h2
      refine sw_seq ?_
      refine sw_region hP 1 [] rfl (by kernel_rfl) (fun _ => by kernel_rfl) (by first | trivial | (simp [conj]; done) | (simp [conj] at *; (try dsimp only [Ty.den, Ty.dflt] at *); omega)) ?_
      refine sw_seq ?_
      refine sw_region hP 2 [] rfl (by kernel_rfl) (fun _ => by kernel_rfl) ?_ ?_
      · skip
        simp [conj, maxL]
        try dsimp only [Ty.den, Ty.dflt]
        try simp only [rd_eta]
        exact h1
      refine sw_seq ?_
      refine sw_seq ?_
      refine sw_dec hP 3 [] 2 rfl (fun g2_2 => ?_) (fun g2_2 => ?_)
      · skip
        cases g2_2
      · skip
        refine sw_dec hP 3 [(2, false)] 6 rfl (fun g2_6 => ?_) (fun g2_6 => ?_)
        · skip
          refine sw_region hP 3 [(2, false), (6, true)] rfl (by kernel_rfl) (fun _ => by kernel_rfl) (by first | trivial | (simp [conj]; done) | (simp [conj] at *; (try dsimp only [Ty.den, Ty.dflt] at *); omega)) ?_
          refine sw_condT rfl ?_
          refine sw_seq ?_
          refine sw_region hP 4 [] rfl (by kernel_rfl) (fun _ => by kernel_rfl) (by first | trivial | (simp [conj]; done) | (simp [conj] at *; (try dsimp only [Ty.den, Ty.dflt] at *); omega)) ?_
          refine sw_ret ⟨.inl rfl, _, rfl, ?_⟩
          simp [conj, hv]
          try exact Iff.rfl
          try rfl
        · skip
          replace g2_6 : ¬ at_ < 0 := of_decide_eq_false g2_6
          refine sw_region hP 3 [(2, false), (6, false)] rfl (by kernel_rfl) (fun _ => by kernel_rfl) (by first | trivial | (simp [conj]; done) | (simp [conj] at *; (try dsimp only [Ty.den, Ty.dflt] at *); omega)) ?_
          refine sw_cond rfl (fun c2 => ?_) (fun c2 => ?_)
          · skip
            refine sw_seq ?_
            refine sw_region hP 4 [] rfl (by kernel_rfl) (fun _ => by kernel_rfl) (by first | trivial | (simp [conj]; done) | (simp [conj] at *; (try dsimp only [Ty.den, Ty.dflt] at *); omega)) ?_
            refine sw_ret ⟨.inl rfl, _, rfl, ?_⟩
            simp [conj, hv]
            try exact Iff.rfl
            try rfl
          · skip
            have h : ¬ at_ ≥ 12 := of_decide_eq_false c2
            omega
  · skip
    have hP := ((Prg.none ttok mtok).and cReadB_ok)
    have h1b : rdV ((st, sl, rg, sp, wt) : Dsk) = false := by simpa using h1
    have hv : readV ((st, sl, rg, sp, wt) : Dsk) at_ = [] := readV_bad h1
    refine sw_seq ?_
    refine sw_region hP 1 [] rfl (by kernel_rfl) (fun _ => by kernel_rfl) (by first | trivial | (simp [conj]; done) | (simp [conj] at *; (try dsimp only [Ty.den, Ty.dflt] at *); omega)) ?_
    refine sw_seq ?_
    refine sw_region hP 2 [] rfl (by kernel_rfl) (fun _ => by kernel_rfl) ?_ ?_
    · skip
      simp [conj, maxL]
      try dsimp only [Ty.den, Ty.dflt]
      try simp only [rd_eta]
      exact h1b
    refine sw_seq ?_
    refine sw_seq ?_
    refine sw_dec hP 3 [] 2 rfl (fun g2_2 => ?_) (fun g2_2 => ?_)
    · skip
      refine sw_region hP 3 [(2, true)] rfl (by kernel_rfl) (fun _ => by kernel_rfl) (by first | trivial | (simp [conj]; done) | (simp [conj] at *; (try dsimp only [Ty.den, Ty.dflt] at *); omega)) ?_
      refine sw_condT rfl ?_
      refine sw_seq ?_
      refine sw_region hP 4 [] rfl (by kernel_rfl) (fun _ => by kernel_rfl) (by first | trivial | (simp [conj]; done) | (simp [conj] at *; (try dsimp only [Ty.den, Ty.dflt] at *); omega)) ?_
      refine sw_ret ⟨.inl rfl, _, rfl, ?_⟩
      simp [conj, hv]
      try exact Iff.rfl
      try rfl
    · skip
      cases g2_2

def cFlushS : Ctr := ⟨57, [.own true T_Disk (.all .w)], fun x => (drvOf x.1).ok ∧ x.1.2.2.2.2.any badP = false ∧ List.length x.1.2.2.2.2 ≤ 40, fun x => (.v true [.d TI pF (dskOf x.1.1 (comes x.1.2.2.2.2 (drvOf x.1)) []).1, .own ⟨1, 0, 0⟩, .own ⟨1, 1, 0⟩, .own ⟨1, 2, 0⟩, .own ⟨1, 3, 0⟩], [(⟨1, 0, 0⟩, .sl .str (.all .w) (dskOf x.1.1 (comes x.1.2.2.2.2 (drvOf x.1)) []).2.1), (⟨1, 1, 0⟩, .sl .str (.all .w) (dskOf x.1.1 (comes x.1.2.2.2.2 (drvOf x.1)) []).2.2.1), (⟨1, 2, 0⟩, .sl .bool (.all .w) (dskOf x.1.1 (comes x.1.2.2.2.2 (drvOf x.1)) []).2.2.2.1), (⟨1, 3, 0⟩, .sl T_Put (.all .w) (dskOf x.1.1 (comes x.1.2.2.2.2 (drvOf x.1)) []).2.2.2.2)])⟩
theorem cFlushS_ok : CtrOk Proofs.Try.prog cFlushS := by
  have hP := ((Prg.none ttok mtok).and cComeS_ok)
  refine ctr_of_body hP cFlushS (fn := Proofs.Try.f57) (rts := [.cell 2 27]) Proofs.Try.func57 rfl (by kernel_rfl) rfl rfl ?_
  rintro ⟨⟨(st : Int), (sl : List Str), (rg : List Str), (sp : List Bool), (wt : List Put)⟩, ⟨⟩⟩ _ ⟨ho, hw, h40⟩
  try dsimp only [Ty.den, Mode.den, mdens] at ho
  try dsimp only [Ty.den, Mode.den, mdens] at hw
  try dsimp only [Ty.den, Mode.den, mdens] at h40
  refine ⟨rfl, ?_⟩
  replace h40 : wt.length ≤ 40 := h40
  replace hw : wt.any badP = false := hw
  replace ho : Drv.ok (sl, rg, sp) := ho
  refine sw_seq ?_
  refine sw_region hP 1 [] rfl (by kernel_rfl) (fun _ => by kernel_rfl) (by first | trivial | (simp [conj]; done) | (simp [conj] at *; (try dsimp only [Ty.den, Ty.dflt] at *); omega)) ?_
  refine sw_seq ?_
  refine sw_seq ?_
  refine sw_region hP 2 [] rfl (by kernel_rfl) (fun _ => by kernel_rfl) (by first | trivial | (simp [conj]; done) | (simp [conj] at *; (try dsimp only [Ty.den, Ty.dflt] at *); omega)) ?_
  refine sw_block ?_
  refine sw_loop (ι := Nat × Drv) (fun ⟨i, u⟩ => ⟨[.junk, .v false [.ptr ⟨1, 0, 0⟩ 0], .v false [.ptr ⟨1, 1, 0⟩ 0], sInt .i64 (i : Int), .junk, .junk, .junk, .junk, .junk, .junk, .junk, .junk, .junk, .junk, .junk, .junk, .junk, .junk, .junk, .junk, .junk], [(⟨1, 0, 0⟩, .var [.d TI pF st, .own ⟨0, 9, 1⟩, .own ⟨0, 9, 2⟩, .own ⟨0, 9, 3⟩, .own ⟨0, 9, 4⟩]), (⟨0, 9, 1⟩, .sl .str (.all .w) u.1), (⟨0, 9, 2⟩, .sl .str (.all .w) u.2.1), (⟨0, 9, 3⟩, .sl .bool (.all .w) u.2.2), (⟨0, 9, 4⟩, .sl T_Put (.all .w) wt), (⟨1, 1, 0⟩, .var [.d TI pF 0, .nils, .nils, .nils, .nils])], 2, []⟩) (fun ⟨i, u⟩ => wt.length - i) (fun ⟨i, u⟩ => i ≤ wt.length ∧ comes (wt.drop i) u = comes wt (sl, rg, sp) ∧ u.ok) (0, (sl, rg, sp)) ⟨?_, ?_⟩ ?_
  · skip
    exact ⟨Nat.zero_le _, rfl, ho⟩
  · refine ent_ok rfl ?_
    simp [conj]
  · rintro ⟨i, u⟩ ⟨hi, hgo, hu⟩
    refine sw_seq ?_
    refine sw_seq ?_
    refine sw_region hP 3 [] rfl (by kernel_rfl) (fun _ => by kernel_rfl) (by first | trivial | (simp [conj]; done) | (simp [conj] at *; (try dsimp only [Ty.den, Ty.dflt] at *); omega)) ?_
    refine sw_cond rfl (fun c2 => ?_) (fun c2 => ?_)
    · skip
      have hlt : i < wt.length := by simpa using c2
      have hg : (List.getD wt i T_Put.dflt : Put) = wt[i] := by rw [List.getD, List.getElem?_eq_getElem hlt]; rfl
      have hp := wait_at hw hlt
      rw [← hg] at hp
      have hnx := comes_next hlt hgo
      rw [← hg] at hnx
      refine sw_skip ?_
      refine sw_seq ?_
      refine sw_block ?_
      refine sw_region hP 4 [] rfl (by kernel_rfl) (fun _ => by kernel_rfl) ?_ ?_
      · skip
        simp only [conj, List.nil_append, List.cons_append, List.append_nil, List.append_assoc, inR_i64, true_and, and_true, Int.toNat_natCast]
        try dsimp only [Ty.den, Ty.dflt]
        repeat' apply And.intro
        all_goals first | exact hp | exact hu.1 | exact hu.2.1 | exact hu.2.2 | rfl | omega | assumption | trivial
      refine sw_region hP 5 [] rfl (by kernel_rfl) (fun _ => by kernel_rfl) ?_ ?_
      · skip
        simp only [conj, List.nil_append, List.cons_append, List.append_nil, List.append_assoc, inR_i64, true_and, and_true, Int.toNat_natCast]
        try dsimp only [Ty.den, Ty.dflt]
        repeat' apply And.intro
        all_goals first | rfl | omega | assumption | trivial
      refine ⟨(i + 1, come (List.getD wt i T_Put.dflt) u), ?_, ?_, ent_ok rfl ?_⟩
      · skip
        exact ⟨hlt, hnx, come_ok hu⟩
      · skip
        show wt.length - (i + 1) < wt.length - i
        omega
      · skip
        simp [conj, comeD, dskOf, drvOf]
    · skip
      obtain rfl : i = wt.length := by simp at c2; omega
      refine sw_exit ?_
      refine sw_seq ?_
      refine sw_region hP 4 [] rfl (by kernel_rfl) (fun _ => by kernel_rfl) (by first | trivial | (simp [conj]; done) | (simp [conj] at *; (try dsimp only [Ty.den, Ty.dflt] at *); omega)) ?_
      refine sw_seq ?_
      refine sw_region hP 5 [] rfl (by kernel_rfl) (fun _ => by kernel_rfl) (by first | trivial | (simp [conj]; done) | (simp [conj] at *; (try dsimp only [Ty.den, Ty.dflt] at *); omega)) ?_
      refine sw_ret ⟨.inl rfl, _, rfl, ?_⟩
      have hv := comes_end hgo
      subst hv
      simp [conj, dskOf, drvOf]

def cWriteS : Ctr := ⟨39, [.own true T_Disk (.all .w), .val true T_Put pF], fun x => (drvOf x.1).ok ∧ x.1.2.2.2.2.any badP = false ∧ List.length x.1.2.2.2.2 ≤ 40, fun x => (.v true [.d TI pF (writeD x.1 x.2.1).1, .own ⟨1, 0, 0⟩, .own ⟨1, 1, 0⟩, .own ⟨1, 2, 0⟩, .own ⟨1, 3, 0⟩], [(⟨1, 0, 0⟩, .sl .str (.all .w) (writeD x.1 x.2.1).2.1), (⟨1, 1, 0⟩, .sl .str (.all .w) (writeD x.1 x.2.1).2.2.1), (⟨1, 2, 0⟩, .sl .bool (.all .w) (writeD x.1 x.2.1).2.2.2.1), (⟨1, 3, 0⟩, .sl T_Put (.all .w) (writeD x.1 x.2.1).2.2.2.2)])⟩
theorem cWriteS_ok : CtrOk Proofs.Try.prog cWriteS := by
  have hP := ((Prg.none ttok mtok).and cFlushS_ok)
  refine ctr_of_body hP cWriteS (fn := Proofs.Try.f39) (rts := [.cell 4 27]) Proofs.Try.func39 rfl (by kernel_rfl) rfl rfl ?_
  rintro ⟨⟨(st : Int), (sl : List Str), (rg : List Str), (sp : List Bool), (wt : List Put)⟩, ⟨(rn : Bool), (at_ : Int), (tx : Str)⟩, ⟨⟩⟩ _ ⟨ho, hw, h40⟩
  try dsimp only [Ty.den, Mode.den, mdens] at ho
  try dsimp only [Ty.den, Mode.den, mdens] at hw
  try dsimp only [Ty.den, Mode.den, mdens] at h40
  refine ⟨rfl, ?_⟩
  replace h40 : wt.length ≤ 40 := h40
  replace hw : wt.any badP = false := hw
  replace ho : Drv.ok (sl, rg, sp) := ho
  refine sw_seq ?_
  refine sw_region hP 1 [] rfl (by kernel_rfl) (fun _ => by kernel_rfl) (by first | trivial | (simp [conj]; done) | (simp [conj] at *; (try dsimp only [Ty.den, Ty.dflt] at *); omega)) ?_
  refine sw_seq ?_
  refine sw_seq ?_
  refine sw_region hP 2 [] rfl (by kernel_rfl) (fun _ => by kernel_rfl) (by first | trivial | (simp [conj]; done) | (simp [conj] at *; (try dsimp only [Ty.den, Ty.dflt] at *); omega)) ?_
  refine sw_cond rfl (fun c1 => ?_) (fun c1 => ?_)
  · skip
    replace c1 : st = 1 := of_decide_eq_true c1
    have hu := putU_gone (l := wt) (t := (sl, rg, sp)) c1
    have hm := putM_gone (l := wt) (p := (rn, at_, tx)) c1
    refine sw_seq ?_
    refine sw_region hP 3 [] rfl (by kernel_rfl) (fun _ => by kernel_rfl) (by first | trivial | (simp [conj]; done) | (simp [conj] at *; (try dsimp only [Ty.den, Ty.dflt] at *); omega)) ?_
    refine sw_ret ⟨.inl rfl, _, rfl, ?_⟩
    simp [conj, writeD, dskOf, drvOf, hu, hm]
  · skip
    replace c1 : ¬ st = 1 := of_decide_eq_false c1
    have hu := putU_live (l := wt) (t := (sl, rg, sp)) c1
    have hm := putM_live (l := wt) (p := (rn, at_, tx)) c1
    refine sw_skip ?_
    refine sw_seq ?_
    refine sw_seq ?_
    refine sw_region hP 3 [] rfl (by kernel_rfl) (fun _ => by kernel_rfl) (by first | trivial | (simp [conj]; done) | (simp [conj] at *; (try dsimp only [Ty.den, Ty.dflt] at *); omega)) ?_
    refine sw_cond rfl (fun c3 => ?_) (fun c3 => ?_)
    · skip
      replace c3 : wt.length = 40 := by have h : ((wt.length : Nat) : Int) = 40 := of_decide_eq_true c3; omega
      rw [putT_full c3] at hu
      rw [putW_full c3] at hm
      refine sw_region hP 4 [] rfl (by kernel_rfl) (fun _ => by kernel_rfl) ?_ ?_
      · skip
        simp only [conj, List.nil_append, List.cons_append, List.append_nil, List.append_assoc, inR_i64, true_and, and_true, Int.toNat_natCast]
        try dsimp only [Ty.den, Ty.dflt]
        repeat' apply And.intro
        all_goals first | exact ho.1 | exact ho.2.1 | exact ho.2.2 | exact hw | exact h40 | rfl | omega | assumption | trivial
      refine sw_seq ?_
      refine sw_region hP 5 [] rfl (by kernel_rfl) (fun _ => by kernel_rfl) ?_ ?_
      · skip
        simp [conj, maxL, dskOf]
        try omega
      refine sw_seq ?_
      refine sw_region hP 6 [] rfl (by kernel_rfl) (fun _ => by kernel_rfl) ?_ ?_
      · skip
        simp only [conj, List.nil_append, List.cons_append, List.append_nil, List.append_assoc, inR_i64, true_and, and_true, Int.toNat_natCast]
        try dsimp only [Ty.den, Ty.dflt]
        repeat' apply And.intro
        all_goals first | rfl | omega | assumption | trivial
      refine sw_ret ⟨.inl rfl, _, rfl, ?_⟩
      simp [conj, writeD, dskOf, drvOf, hu, hm]
    · skip
      replace c3 : ¬ wt.length = 40 := by have h : ¬ ((wt.length : Nat) : Int) = 40 := of_decide_eq_false c3; omega
      rw [putT_room c3] at hu
      rw [putW_room c3] at hm
      refine sw_skip ?_
      refine sw_seq ?_
      refine sw_region hP 4 [] rfl (by kernel_rfl) (fun _ => by kernel_rfl) ?_ ?_
      · skip
        simp [conj, maxL, dskOf]
        try omega
      refine sw_seq ?_
      refine sw_region hP 5 [] rfl (by kernel_rfl) (fun _ => by kernel_rfl) ?_ ?_
      · skip
        simp only [conj, List.nil_append, List.cons_append, List.append_nil, List.append_assoc, inR_i64, true_and, and_true, Int.toNat_natCast]
        try dsimp only [Ty.den, Ty.dflt]
        repeat' apply And.intro
        all_goals first | rfl | omega | assumption | trivial
      refine sw_ret ⟨.inl rfl, _, rfl, ?_⟩
      simp [conj, writeD, dskOf, drvOf, hu, hm]

def cSPut : Ctr := ⟨15, [.val true T_Disk (.all .b), .val true T_Put pF], fun _ => True, fun x => (.v true [.d TI pF (putD x.1 x.2.1).1, .own ⟨1, 0, 0⟩, .own ⟨1, 1, 0⟩, .own ⟨1, 2, 0⟩, .own ⟨1, 3, 0⟩], [(⟨1, 0, 0⟩, .sl .str (.all .w) (putD x.1 x.2.1).2.1), (⟨1, 1, 0⟩, .sl .str (.all .w) (putD x.1 x.2.1).2.2.1), (⟨1, 2, 0⟩, .sl .bool (.all .w) (putD x.1 x.2.1).2.2.2.1), (⟨1, 3, 0⟩, .sl T_Put (.all .w) (putD x.1 x.2.1).2.2.2.2)])⟩
theorem cSPut_ok : CtrOk Proofs.Try.prog cSPut := by
  have hP := (((((Prg.none ttok mtok).and cDok_ok).and cPutS_ok).and cCopyD_ok).and cWriteS_ok)
  refine ctr_of_body hP cSPut (fn := Proofs.Try.f15) (rts := [.cell 4 27]) Proofs.Try.func15 rfl (by kernel_rfl) rfl rfl ?_
  rintro ⟨⟨(st : Int), (sl : List Str), (rg : List Str), (sp : List Bool), (wt : List Put)⟩, ⟨(rn : Bool), (at_ : Int), (tx : Str)⟩, ⟨⟩⟩ _ hpre
  try dsimp only [Ty.den, Mode.den, mdens] at hpre
  refine ⟨rfl, ?_⟩
  refine sw_seq ?_
  refine sw_region hP 1 [] rfl (by kernel_rfl) (fun _ => by kernel_rfl) (by first | trivial | (simp [conj]; done) | (simp [conj] at *; (try dsimp only [Ty.den, Ty.dflt] at *); omega)) ?_
  refine sw_seq ?_
  refine sw_seq ?_
  refine sw_dec hP 2 [] 3 rfl (fun g1_3 => ?_) (fun g1_3 => ?_)
  · skip
    have h1 : ¬ rdV ((st, sl, rg, sp, wt) : Dsk) = true := by have h : (!rdV ((st, sl, rg, sp, wt) : Dsk)) = true := g1_3; simpa using h
    have hv : putD ((st, sl, rg, sp, wt) : Dsk) ((rn, at_, tx) : Put) = zeroD := putD_bad h1
    refine sw_region hP 2 [(3, true)] rfl (by kernel_rfl) (fun _ => by kernel_rfl) ?_ ?_
    · skip
      simp [conj]
      repeat' apply And.intro
      all_goals first | trivial | assumption | omega | (simp_all; done) | (simp_all; omega)
    refine sw_condT rfl ?_
    refine sw_seq ?_
    refine sw_region hP 3 [] rfl (by kernel_rfl) (fun _ => by kernel_rfl) (by first | trivial | (simp [conj]; done) | (simp [conj] at *; (try dsimp only [Ty.den, Ty.dflt] at *); omega)) ?_
    refine sw_ret ⟨.inl rfl, _, rfl, ?_⟩
    simp [conj, hv, zeroD, dskOf, drvOf, writeD]
  · skip
    have h1 : rdV ((st, sl, rg, sp, wt) : Dsk) = true := by have h : (!rdV ((st, sl, rg, sp, wt) : Dsk)) = false := g1_3; simpa using h
    refine sw_region hP 2 [(3, false)] rfl (by kernel_rfl) (fun _ => by kernel_rfl) ?_ ?_
    · skip
      simp [conj]
      repeat' apply And.intro
      all_goals first | trivial | assumption | omega | (simp_all; done) | (simp_all; omega)
    refine sw_cond rfl (fun c1 => ?_) (fun c1 => ?_)
    · skip
      replace c1 : ¬ putV ((rn, at_, tx) : Put) = true := by have h : (!putV ((rn, at_, tx) : Put)) = true := c1; simpa using h
      have hv : putD ((st, sl, rg, sp, wt) : Dsk) ((rn, at_, tx) : Put) = zeroD := putD_no c1
      refine sw_seq ?_
      refine sw_region hP 3 [] rfl (by kernel_rfl) (fun _ => by kernel_rfl) (by first | trivial | (simp [conj]; done) | (simp [conj] at *; (try dsimp only [Ty.den, Ty.dflt] at *); omega)) ?_
      refine sw_ret ⟨.inl rfl, _, rfl, ?_⟩
      simp [conj, hv, zeroD, dskOf, drvOf, writeD]
    · skip
      replace c1 : putV ((rn, at_, tx) : Put) = true := by have h : (!putV ((rn, at_, tx) : Put)) = false := c1; simpa using h
      have hv := putD_ok h1 c1
      obtain ⟨hsh, hwb, hsb, hrb, hgb⟩ := rd_parts h1
      dsimp only at hwb
      obtain ⟨hst, h12, h2b, h12b, h40⟩ := shaped_iff hsh
      dsimp only at h12 h2b h12b h40
      have hok : Drv.ok (sl, rg, sp) := drv_ok hsh
      have hsm : SmallD (st, sl, rg, sp, wt) := ⟨by show sl.length ≤ _; omega, by show rg.length ≤ _; omega, by show sp.length ≤ _; omega, by show wt.length ≤ _; omega⟩
      refine sw_skip ?_
      refine sw_seq ?_
      refine sw_region hP 3 [] rfl (by kernel_rfl) (fun _ => by kernel_rfl) ?_ ?_
      · skip
        simp only [conj, List.nil_append, List.cons_append, List.append_nil, List.append_assoc, inR_i64, true_and, and_true, Int.toNat_natCast]
        try dsimp only [Ty.den, Ty.dflt]
        repeat' apply And.intro
        all_goals first | exact hsm.1 | exact hsm.2.1 | exact hsm.2.2.1 | exact hsm.2.2.2 | exact hok.1 | exact hok.2.1 | exact hok.2.2 | exact hwb | exact h40 | rfl | omega | assumption | trivial
      refine sw_ret ⟨.inl rfl, _, rfl, ?_⟩
      simp [conj, hv, zeroD, dskOf, drvOf, writeD]

def cNewS : Ctr := ⟨56, [.val false TI pF], fun x => 0 ≤ x.1 ∧ x.1 ≤ 2, fun x => (.v true [.d TI pF (newD x.1).1, .own ⟨1, 0, 0⟩, .own ⟨1, 1, 0⟩, .own ⟨1, 2, 0⟩, .own ⟨1, 3, 0⟩], [(⟨1, 0, 0⟩, .sl .str (.all .w) (newD x.1).2.1), (⟨1, 1, 0⟩, .sl .str (.all .w) (newD x.1).2.2.1), (⟨1, 2, 0⟩, .sl .bool (.all .w) (newD x.1).2.2.2.1), (⟨1, 3, 0⟩, .sl T_Put (.all .w) (newD x.1).2.2.2.2)])⟩
theorem cNewS_ok : CtrOk Proofs.Try.prog cNewS := by
  have hP := ((Prg.none ttok mtok).and cIn_ok)
  refine ctr_of_body hP cNewS (fn := Proofs.Try.f56) (rts := [.cell 2 27]) Proofs.Try.func56 rfl (by kernel_rfl) rfl rfl ?_
  rintro ⟨(n : Int), ⟨⟩⟩ _ ⟨h0, h1⟩
  try dsimp only [Ty.den, Mode.den, mdens] at h0
  try dsimp only [Ty.den, Mode.den, mdens] at h1
  refine ⟨rfl, ?_⟩
  refine sw_seq ?_
  refine sw_region hP 1 [] rfl (by kernel_rfl) (fun _ => by kernel_rfl) (by first | trivial | (simp [conj]; done) | (simp [conj] at *; (try dsimp only [Ty.den, Ty.dflt] at *); omega)) ?_
  refine sw_seq ?_
  refine sw_seq ?_
  refine sw_region hP 2 [] rfl (by kernel_rfl) (fun _ => by kernel_rfl) ?_ ?_
  · skip
    simp [conj, maxL]
    try dsimp only [Ty.den, Ty.dflt]
    try simp only [rd_eta]
    try trivial
  refine sw_cond rfl (fun c1 => ?_) (fun c1 => ?_)
  · skip
    have h : (!inV n 0 2) = true := c1
    simp [inV] at h
    omega
  · skip
    refine sw_skip ?_
    refine sw_seq ?_
    refine sw_region hP 3 [] rfl (by kernel_rfl) (fun _ => by kernel_rfl) ?_ ?_
    · skip
      simp only [conj, List.nil_append, List.cons_append, List.append_nil, List.append_assoc, inR_i64, true_and, and_true, Int.toNat_natCast]
      try dsimp only [Ty.den, Ty.dflt]
      repeat' apply And.intro
      all_goals first | rfl | omega | assumption | trivial
    refine sw_ret ⟨.inl rfl, _, rfl, ?_⟩
    simp [conj, newD]

def cSpoil : Ctr := ⟨58, [.own true T_Disk (.all .w), .val false TI pF, .val false TI pF, .val false TI pF], fun x => (drvOf x.1).ok ∧ 0 ≤ x.2.1 ∧ x.2.1 < 12 ∧ 0 ≤ x.2.2.1 ∧ x.2.2.1 < 3 ∧ 0 ≤ x.2.2.2.1 ∧ x.2.2.2.1 ≤ 255 ∧ x.1.2.1.all colS = true, fun x => (.v true [.d TI pF (spoilV x.1 x.2.1 x.2.2.1 x.2.2.2.1).1, .own ⟨1, 0, 0⟩, .own ⟨1, 1, 0⟩, .own ⟨1, 2, 0⟩, .own ⟨1, 3, 0⟩], [(⟨1, 0, 0⟩, .sl .str (.all .w) (spoilV x.1 x.2.1 x.2.2.1 x.2.2.2.1).2.1), (⟨1, 1, 0⟩, .sl .str (.all .w) (spoilV x.1 x.2.1 x.2.2.1 x.2.2.2.1).2.2.1), (⟨1, 2, 0⟩, .sl .bool (.all .w) (spoilV x.1 x.2.1 x.2.2.1 x.2.2.2.1).2.2.2.1), (⟨1, 3, 0⟩, .sl T_Put (.all .w) (spoilV x.1 x.2.1 x.2.2.1 x.2.2.2.1).2.2.2.2)])⟩
theorem cSpoil_ok : CtrOk Proofs.Try.prog cSpoil := by
  have hP := (Prg.none ttok mtok)
  refine ctr_of_body hP cSpoil (fn := Proofs.Try.f58) (rts := [.cell 8 27]) Proofs.Try.func58 rfl (by kernel_rfl) rfl rfl ?_
  rintro ⟨⟨(st : Int), (sl : List Str), (rg : List Str), (sp : List Bool), (wt : List Put)⟩, (a : Int), (b : Int), (c : Int), ⟨⟩⟩ _ ⟨ho, a0, a1, b0, b1, c0, c1_, hs⟩
  try dsimp only [Ty.den, Mode.den, mdens] at ho
  try dsimp only [Ty.den, Mode.den, mdens] at a0
  try dsimp only [Ty.den, Mode.den, mdens] at a1
  try dsimp only [Ty.den, Mode.den, mdens] at b0
  try dsimp only [Ty.den, Mode.den, mdens] at b1
  try dsimp only [Ty.den, Mode.den, mdens] at c0
  try dsimp only [Ty.den, Mode.den, mdens] at c1_
  try dsimp only [Ty.den, Mode.den, mdens] at hs
  refine ⟨rfl, ?_⟩
  obtain ⟨ho1, ho2, ho3⟩ := ho
  dsimp only [drvOf] at ho1 ho2 ho3
  refine sw_seq ?_
  refine sw_region hP 1 [] rfl (by kernel_rfl) (fun _ => by kernel_rfl) (by first | trivial | (simp [conj]; done) | (simp [conj] at *; (try dsimp only [Ty.den, Ty.dflt] at *); omega)) ?_
  refine sw_seq ?_
  refine sw_seq ?_
  refine sw_dec hP 2 [] 6 rfl (fun g1_6 => ?_) (fun g1_6 => ?_)
  · skip
    replace g1_6 : sl.getD a.toNat [] = [] := of_decide_eq_true g1_6
    have hv := spoil_no (d := ((st, sl, rg, sp, wt) : Dsk)) (a := a) (b := b) (c := c) (.inl g1_6)
    refine sw_region hP 2 [(6, true)] rfl (by kernel_rfl) (fun _ => by kernel_rfl) ?_ ?_
    · skip
      simp only [conj, List.nil_append, List.cons_append, List.append_nil, List.append_assoc, inR_i64, true_and, and_true, Int.toNat_natCast]
      try dsimp only [Ty.den, Ty.dflt]
      repeat' apply And.intro
      all_goals first | rfl | omega | assumption | trivial | exact decide_eq_true g1_6 | exact decide_eq_false g1_6
    refine sw_condT rfl ?_
    refine sw_seq ?_
    refine sw_region hP 3 [] rfl (by kernel_rfl) (fun _ => by kernel_rfl) (by first | trivial | (simp [conj]; done) | (simp [conj] at *; (try dsimp only [Ty.den, Ty.dflt] at *); omega)) ?_
    refine sw_ret ⟨.inl rfl, _, rfl, ?_⟩
    simp [conj, hv]
  · skip
    replace g1_6 : ¬ sl.getD a.toNat [] = [] := of_decide_eq_false g1_6
    refine sw_region hP 2 [(6, false)] rfl (by kernel_rfl) (fun _ => by kernel_rfl) ?_ ?_
    · skip
      simp only [conj, List.nil_append, List.cons_append, List.append_nil, List.append_assoc, inR_i64, true_and, and_true, Int.toNat_natCast]
      try dsimp only [Ty.den, Ty.dflt]
      repeat' apply And.intro
      all_goals first | rfl | omega | assumption | trivial | exact decide_eq_true g1_6 | exact decide_eq_false g1_6
    refine sw_cond rfl (fun c1 => ?_) (fun c1 => ?_)
    · skip
      replace c1 : sp.getD a.toNat false = true := c1
      have hv := spoil_no (d := ((st, sl, rg, sp, wt) : Dsk)) (a := a) (b := b) (c := c) (.inr c1)
      refine sw_seq ?_
      refine sw_region hP 3 [] rfl (by kernel_rfl) (fun _ => by kernel_rfl) (by first | trivial | (simp [conj]; done) | (simp [conj] at *; (try dsimp only [Ty.den, Ty.dflt] at *); omega)) ?_
      refine sw_ret ⟨.inl rfl, _, rfl, ?_⟩
      simp [conj, hv]
    · skip
      replace c1 : ¬ sp.getD a.toNat false = true := by have h : sp.getD a.toNat false = false := c1; rw [h]; decide
      have hv := spoil_yes (d := ((st, sl, rg, sp, wt) : Dsk)) (a := a) (b := b) (c := c) g1_6 c1
      have hla : a.toNat < sl.length := by omega
      have hl3 : (sl.getD a.toNat []).length = 3 := by have h := List.all_eq_true.1 hs (sl.getD a.toNat []) (by rw [List.getD_eq_getElem?_getD, List.getElem?_eq_getElem hla]; exact List.getElem_mem hla); simp [colS, -List.getD_eq_getElem?_getD] at h; exact h.resolve_left g1_6
      have hlb0 : (toBytes (sl.getD a.toNat [])).length = 3 := by simp only [toBytes, List.length_map]; exact hl3
      rw [List.getD_eq_getElem?_getD] at hlb0
      have hlb : (toBytes (sl[a.toNat]?.getD Ty.str.dflt)).length = 3 := hlb0
      refine sw_skip ?_
      refine sw_seq ?_
      refine sw_region hP 3 [] rfl (by kernel_rfl) (fun _ => by kernel_rfl) ?_ ?_
      · skip
        simp only [conj, List.nil_append, List.cons_append, List.append_nil, List.append_assoc, inR_i64, true_and, and_true, Int.toNat_natCast]
        try dsimp only [Ty.den, Ty.dflt]
        repeat' apply And.intro
        all_goals first | rfl | omega | assumption | trivial
      refine sw_seq ?_
      refine sw_region hP 4 [] rfl (by kernel_rfl) (fun _ => by kernel_rfl) ?_ ?_
      · skip
        simp [conj, hlb]
        exact ⟨⟨⟨⟨b0, b1⟩, c0, c1_⟩, b0, b1⟩, b1⟩
      refine sw_seq ?_
      refine sw_region hP 5 [] rfl (by kernel_rfl) (fun _ => by kernel_rfl) ?_ ?_
      · skip
        simp only [conj, List.nil_append, List.cons_append, List.append_nil, List.append_assoc, inR_i64, true_and, and_true, Int.toNat_natCast]
        try dsimp only [Ty.den, Ty.dflt]
        repeat' apply And.intro
        all_goals first | rfl | omega | assumption | trivial
      refine sw_seq ?_
      refine sw_region hP 6 [] rfl (by kernel_rfl) (fun _ => by kernel_rfl) ?_ ?_
      · skip
        simp only [conj, List.nil_append, List.cons_append, List.append_nil, List.append_assoc, inR_i64, true_and, and_true, Int.toNat_natCast]
        try dsimp only [Ty.den, Ty.dflt]
        repeat' apply And.intro
        all_goals first | rfl | omega | assumption | trivial
      refine sw_seq ?_
      refine sw_region hP 7 [] rfl (by kernel_rfl) (fun _ => by kernel_rfl) (by first | trivial | (simp [conj]; done) | (simp [conj] at *; (try dsimp only [Ty.den, Ty.dflt] at *); omega)) ?_
      refine sw_ret ⟨.inl rfl, _, rfl, ?_⟩
      simp [conj, hv]
      rfl
end Go.Sx
