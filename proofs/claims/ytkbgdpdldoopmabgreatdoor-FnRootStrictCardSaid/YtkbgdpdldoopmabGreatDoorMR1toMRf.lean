/- Several texts, one behind the other. -/
import Derived.Test.YtkbgdpdldoopmabGreatDoorMOpentoMShelf
set_option linter.all false
namespace Go.Sx
open Go
set_option maxRecDepth 100000
set_option linter.unusedVariables false
set_option linter.unusedSimpArgs false
set_option maxHeartbeats 2000000
def cPool : Ctr := ⟨27, [.val false TI pF], fun x => True, fun x => (sBool (poolV x.1), [])⟩
theorem cPool_ok : CtrOk Proofs.Tryz.prog cPool := by
 have hP := (Prg.none ttok mtok)
 refine ctr_of_body hP cPool (fn := Proofs.Tryz.f27) (rts := [.tmp 2]) Proofs.Tryz.func27 rfl (by kernel_rfl) rfl rfl ?_
 rintro ⟨(n : Int), ⟨⟩⟩ _ hpre
 try dsimp only [Ty.den, Mode.den, mdens] at hpre
 refine ⟨rfl, ?_⟩
 refine sw_seq (rd hP 1 rfl (sw_seq ?_))
 refine sw_dec hP 2 [] 2 rfl (fun g1_2 => ?_) (fun g1_2 => ?_)
 ·refine rD hP 2 [(2, true)] rfl (sw_ret ⟨.inl rfl, _, rfl, ?_⟩)
  simp [conj, poolV, inV] at *
  try omega
 ·refine rD hP 2 [(2, false)] rfl (sw_ret ⟨.inl rfl, _, rfl, ?_⟩)
  simp [conj, poolV, inV] at *
  try omega
def cNone : Ctr := ⟨73, [.val true T_Ptr (.all .b)], fun x => True, fun x => (sBool (noneV x.1), [])⟩
theorem cNone_ok : CtrOk Proofs.Tryz.prog cNone := by
 have hP := (Prg.none ttok mtok)
 refine ctr_of_body hP cNone (fn := Proofs.Tryz.f73) (rts := [.tmp 2]) Proofs.Tryz.func73 rfl (by kernel_rfl) rfl rfl ?_
 rintro ⟨⟨(sz : Int), (sm : Int), (pl : List Plc)⟩, ⟨⟩⟩ _ hpre
 try dsimp only [Ty.den, Mode.den, mdens] at hpre
 refine ⟨rfl, ?_⟩
 refine sw_seq (rd hP 1 rfl (sw_seq ?_))
 refine sw_dec hP 2 [] 3 rfl (fun g1_3 => ?_) (fun g1_3 => ?_)
 ·refine sw_dec hP 2 [(3, true)] 8 rfl (fun g1_8 => ?_) (fun g1_8 => ?_)
  ·refine rD hP 2 [(3, true), (8, true)] rfl (sw_ret ⟨.inl rfl, _, rfl, ?_⟩)
   simp [conj, noneV, *]
  ·refine rD hP 2 [(3, true), (8, false)] rfl (sw_ret ⟨.inl rfl, _, rfl, ?_⟩)
   simp [conj, noneV, *]
 ·refine rD hP 2 [(3, false)] rfl (sw_ret ⟨.inl rfl, _, rfl, ?_⟩)
  simp [conj, noneV, *]
def cMost : Ctr := ⟨74, [.val false TI pF], fun x => poolV x.1 = true, fun x => (sInt .i64 (mostV x.1), [])⟩
theorem cMost_ok : CtrOk Proofs.Tryz.prog cMost := by
 have hP := (Prg.none ttok mtok)
 refine ctr_of_body hP cMost (fn := Proofs.Tryz.f74) (rts := [.tmp 2]) Proofs.Tryz.func74 rfl (by kernel_rfl) rfl rfl ?_
 rintro ⟨(d : Int), ⟨⟩⟩ _ hpre
 try dsimp only [Ty.den, Mode.den, mdens] at hpre
 refine ⟨rfl, ?_⟩
 replace hpre : poolV d = true := hpre
 have hb : 3 ≤ d ∧ d ≤ 4 := by simpa [poolV, inV] using hpre
 have hmm := sMin_bd d hb
 refine sw_seq (rd hP 1 rfl (sw_seq (rg hP 2 [] rfl ?_ ?_)))
 ·simp only [cj, cl]
  try dsimp only [Ty.den, Ty.dflt]
  repeat' apply And.intro
  all_goals first | omega | (show _ ≤ 3 * sMin 3 (d - 1); omega) | (show 3 * sMin 3 (d - 1) ≤ _; omega)
 refine sw_ret ⟨.inl rfl, _, rfl, ?_⟩
 simp [conj, mostV]
def cCols : Ctr := ⟨75, [.val false TI pF], fun x => 0 ≤ x.1 ∧ x.1 ≤ 1000000, fun x => (sInt .i64 (colsV x.1), [])⟩
theorem cCols_ok : CtrOk Proofs.Tryz.prog cCols := by
 have hP := (Prg.none ttok mtok)
 refine ctr_of_body hP cCols (fn := Proofs.Tryz.f75) (rts := [.tmp 2]) Proofs.Tryz.func75 rfl (by kernel_rfl) rfl rfl ?_
 rintro ⟨(n : Int), ⟨⟩⟩ _ ⟨h0, h1⟩
 try dsimp only [Ty.den, Mode.den, mdens] at h0
 try dsimp only [Ty.den, Mode.den, mdens] at h1
 refine ⟨rfl, ?_⟩
 have hq := colsV_bd h0 h1
 unfold colsV at hq
 refine sw_seq (rd hP 1 rfl (sw_seq (rg hP 2 [] rfl ?_ ?_)))
 ·simp only [cj, cl]
  try dsimp only [Ty.den, Ty.dflt]
  repeat' apply And.intro
  all_goals first | rfl | omega | assumption | trivial
 refine sw_ret ⟨.inl rfl, _, rfl, ?_⟩
 simp [conj, colsV]
def cPlOk : Ctr := ⟨76, [.val true T_Place pF, .val false TI pF], fun x => True, fun x => (sBool (placeV x.2.1 x.1), [])⟩
theorem cPlOk_ok : CtrOk Proofs.Tryz.prog cPlOk := by
 have hP := (Prg.none ttok mtok)
 refine ctr_of_body hP cPlOk (fn := Proofs.Tryz.f76) (rts := [.tmp 4]) Proofs.Tryz.func76 rfl (by kernel_rfl) rfl rfl ?_
 rintro ⟨⟨(a : Int), (b : Int)⟩, (d : Int), ⟨⟩⟩ _ hpre
 try dsimp only [Ty.den, Mode.den, mdens] at hpre
 refine ⟨rfl, ?_⟩
 refine sw_seq (rd hP 1 rfl (sw_seq ?_))
 refine sw_dec hP 2 [] 3 rfl (fun g1_3 => ?_) (fun g1_3 => ?_)
 ·refine sw_dec hP 2 [(3, true)] 9 rfl (fun g1_9 => ?_) (fun g1_9 => ?_)
  ·refine sw_dec hP 2 [(3, true), (9, true)] 14 rfl (fun g1_14 => ?_) (fun g1_14 => ?_)
   ·refine rD hP 2 [(3, true), (9, true), (14, true)] rfl (sw_ret ⟨.inl rfl, _, rfl, ?_⟩)
    simp [conj, placeV, *]
   ·refine rD hP 2 [(3, true), (9, true), (14, false)] rfl (sw_ret ⟨.inl rfl, _, rfl, ?_⟩)
    simp [conj, placeV, *]
  ·refine rD hP 2 [(3, true), (9, false)] rfl (sw_ret ⟨.inl rfl, _, rfl, ?_⟩)
   simp [conj, placeV, *]
 ·refine rD hP 2 [(3, false)] rfl (sw_ret ⟨.inl rfl, _, rfl, ?_⟩)
  simp [conj, placeV, *]
def cPtr1 : Ctr := ⟨78, [.val true T_Place pF, .rp T_Place pF], fun x => True, fun x => (sBool (decide (x.1.1 = x.2.1.1)), [])⟩
theorem cPtr1_ok : CtrOk Proofs.Tryz.prog cPtr1 := by
 have hP := (Prg.none ttok mtok)
 refine ctr_of_body hP cPtr1 (fn := Proofs.Tryz.f78) (rts := [.tmp 3]) Proofs.Tryz.func78 rfl (by kernel_rfl) rfl rfl ?_
 rintro ⟨⟨(a : Int), (b : Int)⟩, ⟨(c : Int), (e : Int)⟩, ⟨⟩⟩ _ hpre
 try dsimp only [Ty.den, Mode.den, mdens] at hpre
 refine ⟨rfl, ?_⟩
 refine sw_seq (rd hP 1 rfl (sw_seq (rd hP 2 rfl (sw_ret ⟨.inl rfl, _, rfl, ?_⟩))))
 simp [conj]
def cIdxPl : Ctr := ⟨94, [.val false (.sl T_Place) (.all .b), .clo 78 [(false, T_Place, pF)]], fun _ => True, fun x => (sInt .i64 (idxF (fun q : Plc => decide (q.1 = x.2.1.1.1)) x.1), [])⟩
theorem cIdxPl_ok : CtrOk Proofs.Tryz.prog cIdxPl := by
 have hP := ((Prg.none ttok mtok).and cPtr1_ok)
 refine ctr_of_body hP cIdxPl (fn := Proofs.Tryz.f94) (rts := [.tmp 4]) Proofs.Tryz.func94 rfl (by kernel_rfl) rfl rfl ?_
 rintro ⟨(l : List Plc), ⟨(y : Plc), ⟨⟩⟩, ⟨⟩⟩ ⟨hdl, _⟩ hpre
 try dsimp only [Ty.den, Mode.den, mdens] at hpre
 refine ⟨rfl, ?_⟩
 have hml : l.length ≤ 140737488355328 := hdl.1
 refine sw_seq (rd hP 1 rfl (sw_seq (sw_seq (rd hP 2 rfl (sw_block (sw_loop (ι := Nat) (fun i => ⟨[.v false [.d (.sl T_Place) (.all .b) l], .fn 78 [.rpt .b T_Place pF y], .j, .j, .j, .j, .j, sInt .i64 (l.length : Int), sInt .i64 (i : Int), .j, .j, .j, .j, .j, .j, .j, .j, .j, .j], [], 2, []⟩) (fun i => l.length - i) (fun i => i ≤ l.length ∧ idxFGo (fun q : Plc => decide (q.1 = y.1)) (l.drop i) i = idxF (fun q : Plc => decide (q.1 = y.1)) l) 0 ⟨?_, ?_⟩ ?_))))))
 ·exact ⟨Nat.zero_le _, rfl⟩
 ·refine ent_ok rfl ?_
  first | trivial | (simp [conj]; done) | (simp [conj] at *; (try dsimp only [Ty.den, Ty.dflt] at *); omega)
 ·rintro i ⟨hi, hgo⟩
  refine sw_seq (rd hP 3 rfl (sw_seq (sw_cond rfl (fun c2 => ?_) (fun c2 => ?_))))
  ·have hlt : i < l.length := by simpa using c2
   refine sw_skip (sw_seq (sw_block (sw_seq (rd hP 4 rfl (sw_seq (rg hP 5 [] rfl ?_ ?_))))))
   ·simp [conj, maxL]
    try dsimp only [Ty.den, Ty.dflt]
    try simp only [rd_eta]
    repeat' apply And.intro
    all_goals first | assumption | omega | exact trivial
   refine sw_cond rfl (fun c4 => ?_) (fun c4 => ?_)
   ·replace c4 : (fun q : Plc => decide (q.1 = y.1)) l[i] = true := by simpa [gE hlt] using c4
    refine sw_seq (rd hP 6 rfl (sw_ret ⟨.inl rfl, _, rfl, ?_⟩))
    simp [conj, idxF_hit hlt hgo c4]
   ·replace c4 : (fun q : Plc => decide (q.1 = y.1)) l[i] = false := by simpa [gE hlt] using c4
    refine sw_skip (rd hP 6 rfl (⟨i + 1, ?_, ?_, ent_ok rfl ?_⟩))
    ·exact ⟨hlt, idxF_next hlt hgo c4⟩
    ·omega
    ·simp [conj, maxL]
     try dsimp only [Ty.den, Ty.dflt]
     try simp only [rd_eta]
     repeat' apply And.intro
     all_goals first | rfl | assumption | omega
  ·obtain rfl : i = l.length := by simp at c2; omega
   refine sw_exit (sw_seq (rd hP 4 rfl (sw_ret ⟨.inl rfl, _, rfl, ?_⟩)))
   simp [conj, idxF_end hgo]
def cContPl : Ctr := ⟨77, [.val false (.sl T_Place) (.all .b), .clo 78 [(false, T_Place, pF)]], fun _ => True, fun x => (sBool (List.any x.1 (fun q : Plc => decide (q.1 = x.2.1.1.1))), [])⟩
theorem cContPl_ok : CtrOk Proofs.Tryz.prog cContPl := by
 have hP := ((Prg.none ttok mtok).and cIdxPl_ok)
 refine ctr_of_body hP cContPl (fn := Proofs.Tryz.f77) (rts := [.tmp 4]) Proofs.Tryz.func77 rfl (by kernel_rfl) rfl rfl ?_
 rintro ⟨(l : List Plc), ⟨(y : Plc), ⟨⟩⟩, ⟨⟩⟩ _ hpre
 try dsimp only [Ty.den, Mode.den, mdens] at hpre
 refine ⟨rfl, ?_⟩
 refine sw_seq (rd hP 1 rfl (sw_seq (rd hP 2 rfl (sw_ret ⟨.inl rfl, _, rfl, ?_⟩))))
 simp [conj]
 exact idxF_any
def cPtrOk : Ctr := ⟨53, [.val false TI pF, .val true T_Ptr (.all .b)], fun x => True, fun x => (sBool (ptrV x.1 x.2.1), [])⟩
theorem cPtrOk_ok : CtrOk Proofs.Tryz.prog cPtrOk := by
 have hP := (((((((Prg.none ttok mtok).and cPool_ok).and cNone_ok).and cMost_ok).and cCols_ok).and cPlOk_ok).and cContPl_ok)
 refine ctr_of_body hP cPtrOk (fn := Proofs.Tryz.f53) (rts := [.tmp 4]) Proofs.Tryz.func53 rfl (by kernel_rfl) rfl rfl ?_
 rintro ⟨(d : Int), ⟨(sz : Int), (sm : Int), (pl : List Plc)⟩, ⟨⟩⟩ ⟨_, ⟨_, _, hpl0⟩, _⟩ _
 try dsimp only [Ty.den, Mode.den, mdens] at _
 refine ⟨rfl, ?_⟩
 have hml : pl.length ≤ 140737488355328 := hpl0.1
 refine sw_seq (rd hP 1 rfl (sw_seq (sw_seq (rg hP 2 [] rfl ?_ ?_))))
 ·simp [conj, maxL]
  try dsimp only [Ty.den, Ty.dflt]
  try simp only [rd_eta]
  repeat' apply And.intro
  all_goals first | rfl | assumption | omega | trivial
 refine sw_cond rfl (fun c1 => ?_) (fun c1 => ?_)
 ·replace c1 : poolV d = false := by simpa using c1
  refine sw_seq (rd hP 3 rfl (sw_ret ⟨.inl rfl, _, rfl, ?_⟩))
  simp [conj, ptrV, c1]
 ·replace c1 : poolV d = true := by simpa using c1
  have hb : 3 ≤ d ∧ d ≤ 4 := by simpa [poolV, inV] using c1
  have hmm := sMin_bd d hb
  have hmv : mostV d = 3 * (d - 1) := by unfold mostV; rw [hmm]
  refine sw_skip (sw_seq (sw_seq (rg hP 3 [] rfl ?_ ?_)))
  ·simp [conj, maxL]
   try dsimp only [Ty.den, Ty.dflt]
   try simp only [rd_eta]
   repeat' apply And.intro
   all_goals first | rfl | assumption | omega | trivial
  refine sw_cond rfl (fun c3 => ?_) (fun c3 => ?_)
  ·replace c3 : noneV ((sz, sm, pl) : Ptr_) = true := c3
   refine sw_seq (rd hP 4 rfl (sw_ret ⟨.inl rfl, _, rfl, ?_⟩))
   simp [conj, ptrV, c1, c3]
  ·replace c3 : noneV ((sz, sm, pl) : Ptr_) = false := c3
   refine sw_skip (sw_seq (sw_seq ?_))
   refine sw_dec hP 4 [] 3 rfl (fun g5_3 => ?_) (fun g5_3 => ?_)
   ·have hsz : sizeV d ((sz, sm, pl) : Ptr_) = false := by
      have h : sz < 1 := of_decide_eq_true g5_3
      simp [sizeV, inV]; omega
    refine rg hP 4 [(3, true)] rfl ?_ ?_
    ·simp only [cj, cl]
     try dsimp only [Ty.den, Ty.dflt]
     repeat' apply And.intro
     all_goals first | trivial | assumption | omega | (show 0 ≤ sz; omega) | (show sz ≤ 1000000; omega) | exact decide_eq_false g5_3 | exact decide_eq_false g5_10 | exact decide_eq_false g5_15 | exact decide_eq_false g5_20
    refine sw_condT rfl (sw_seq (rd hP 5 rfl (sw_ret ⟨.inl rfl, _, rfl, ?_⟩)))
    simp [conj, ptrV, c1, c3, hsz]
   ·replace g5_3 : ¬ sz < 1 := of_decide_eq_false g5_3
    refine sw_dec hP 4 [(3, false)] 10 rfl (fun g5_10 => ?_) (fun g5_10 => ?_)
    ·have hsz : sizeV d ((sz, sm, pl) : Ptr_) = false := by
       have h : mostV d < sz := of_decide_eq_true g5_10
       simp [sizeV, inV]; omega
     refine rg hP 4 [(3, false), (10, true)] rfl ?_ ?_
     ·simp only [cj, cl]
      try dsimp only [Ty.den, Ty.dflt]
      repeat' apply And.intro
      all_goals first | trivial | assumption | omega | (show 0 ≤ sz; omega) | (show sz ≤ 1000000; omega) | exact decide_eq_false g5_3 | exact decide_eq_false g5_10 | exact decide_eq_false g5_15 | exact decide_eq_false g5_20
     refine sw_condT rfl (sw_seq (rd hP 5 rfl (sw_ret ⟨.inl rfl, _, rfl, ?_⟩)))
     simp [conj, ptrV, c1, c3, hsz]
    ·replace g5_10 : ¬ mostV d < sz := of_decide_eq_false g5_10
     refine sw_dec hP 4 [(3, false), (10, false)] 15 rfl (fun g5_15 => ?_) (fun g5_15 => ?_)
     ·have hsz : sizeV d ((sz, sm, pl) : Ptr_) = false := by
        have h : sm < 0 := of_decide_eq_true g5_15
        simp [sizeV, inV]; omega
      refine rg hP 4 [(3, false), (10, false), (15, true)] rfl ?_ ?_
      ·simp only [cj, cl]
       try dsimp only [Ty.den, Ty.dflt]
       repeat' apply And.intro
       all_goals first | trivial | assumption | omega | (show 0 ≤ sz; omega) | (show sz ≤ 1000000; omega) | exact decide_eq_false g5_3 | exact decide_eq_false g5_10 | exact decide_eq_false g5_15 | exact decide_eq_false g5_20
      refine sw_condT rfl (sw_seq (rd hP 5 rfl (sw_ret ⟨.inl rfl, _, rfl, ?_⟩)))
      simp [conj, ptrV, c1, c3, hsz]
     ·replace g5_15 : ¬ sm < 0 := of_decide_eq_false g5_15
      refine sw_dec hP 4 [(3, false), (10, false), (15, false)] 20 rfl (fun g5_20 => ?_) (fun g5_20 => ?_)
      ·have hsz : sizeV d ((sz, sm, pl) : Ptr_) = false := by
         have h : 1000000000 < sm := of_decide_eq_true g5_20
         simp [sizeV, inV]; omega
       refine rg hP 4 [(3, false), (10, false), (15, false), (20, true)] rfl ?_ ?_
       ·simp only [cj, cl]
        try dsimp only [Ty.den, Ty.dflt]
        repeat' apply And.intro
        all_goals first | trivial | assumption | omega | (show 0 ≤ sz; omega) | (show sz ≤ 1000000; omega) | exact decide_eq_false g5_3 | exact decide_eq_false g5_10 | exact decide_eq_false g5_15 | exact decide_eq_false g5_20
       refine sw_condT rfl (sw_seq (rd hP 5 rfl (sw_ret ⟨.inl rfl, _, rfl, ?_⟩)))
       simp [conj, ptrV, c1, c3, hsz]
      ·replace g5_20 : ¬ 1000000000 < sm := of_decide_eq_false g5_20
       have hcb := colsV_bd (n := sz) (by omega) (by omega)
       refine rg hP 4 [(3, false), (10, false), (15, false), (20, false)] rfl ?_ ?_
       ·simp only [cj, cl]
        try dsimp only [Ty.den, Ty.dflt]
        repeat' apply And.intro
        all_goals first | trivial | assumption | omega | (show 0 ≤ sz; omega) | (show sz ≤ 1000000; omega) | exact decide_eq_false g5_3 | exact decide_eq_false g5_10 | exact decide_eq_false g5_15 | exact decide_eq_false g5_20
       refine sw_cond rfl (fun c5 => ?_) (fun c5 => ?_)
       ·have hsz : sizeV d ((sz, sm, pl) : Ptr_) = false := by
          have h : (!decide ((pl.length : Int) = colsV sz + 1)) = true := c5
          simp [sizeV] at h ⊢; intros; omega
        refine sw_seq (rd hP 5 rfl (sw_ret ⟨.inl rfl, _, rfl, ?_⟩))
        simp [conj, ptrV, c1, c3, hsz]
       ·have hsz : sizeV d ((sz, sm, pl) : Ptr_) = true := by
          have h : (!decide ((pl.length : Int) = colsV sz + 1)) = false := c5
          simp [sizeV, inV] at h ⊢; omega
        refine sw_skip (sw_seq (sw_seq (rd hP 5 rfl (sw_block (sw_loop (ι := Nat) (fun i => ⟨[sInt .i64 d, .j, .j, .v false [.ptr ⟨1, 0, 0⟩ 0], .j, .j, .j, .j, .j, .j, .j, .j, .j, .j, .j, .j, .j, .j, .j, .j, .j, .j, .j, .j, .j, .j, .j, .j, .j, .j, .j, .j, .j, .j, .j, .j, .j, .j, .j, .j, .j, .j, .j, .v false [.d (.sl T_Place) (.all .b) pl], sInt .i64 (pl.length : Int), sInt .i64 (i : Int), .j, .j, .j, .j, .j, .j, .j, .j, .j, .j, .j, .j, .j, .j, .j, .j, .j], [(⟨1, 0, 0⟩, .var [.d TI pF sz, .d TI pF sm, .d (.sl T_Place) (.all .b) pl])], 5, []⟩) (fun i => pl.length - i) (fun i => i ≤ pl.length ∧ chkGo (placeF d) (pl.take i) (pl.drop i) = chk (placeF d) pl) 0 ⟨?_, ?_⟩ ?_)))))
        ·exact ⟨Nat.zero_le _, rfl⟩
        ·refine ent_ok rfl ?_
         simp [conj]
        ·rintro i ⟨hi, hgo⟩
         refine sw_seq (rd hP 6 rfl (sw_seq (sw_cond rfl (fun c8 => ?_) (fun c8 => ?_))))
         ·have hlt : i < pl.length := by simpa using c8
          refine sw_skip (sw_seq (sw_block (sw_seq (rd hP 7 rfl (sw_seq ?_)))))
          refine sw_dec hP 8 [] 4 rfl (fun g10_4 => ?_) (fun g10_4 => ?_)
          ·replace g10_4 : placeV d pl[i] = false := by simpa [gE hlt] using g10_4
           have hf : placeF d (pl.take i) pl[i] = false := by simp [placeF, g10_4]
           refine rg hP 8 [(4, true)] rfl ?_ ?_
           ·simp [conj, gE hlt]
            repeat' apply And.intro
            all_goals first | trivial | assumption | omega
           refine sw_condT rfl (sw_seq (rd hP 9 rfl (sw_ret ⟨.inl rfl, _, rfl, ?_⟩)))
           have hv := chk_hit hlt hgo hf
           simp [conj, ptrV, c1, c3, hsz, hv]
          ·replace g10_4 : placeV d pl[i] = true := by simpa [gE hlt] using g10_4
           refine rg hP 8 [(4, false)] rfl ?_ ?_
           ·simp [conj, gE hlt]
            repeat' apply And.intro
            all_goals first | trivial | assumption | omega
           refine sw_cond rfl (fun c10 => ?_) (fun c10 => ?_)
           ·have hf : placeF d (pl.take i) pl[i] = false := by
              have h : (pl.take i).any (fun q => decide (q.1 = pl[i].1)) = true := by simpa [gE hlt] using c10
              unfold placeF; rw [h]; simp
            refine sw_seq (rd hP 9 rfl (sw_ret ⟨.inl rfl, _, rfl, ?_⟩))
            have hv := chk_hit hlt hgo hf
            simp [conj, ptrV, c1, c3, hsz, hv]
           ·have hf : placeF d (pl.take i) pl[i] = true := by
              have h : (pl.take i).any (fun q => decide (q.1 = pl[i].1)) = false := by simpa [gE hlt] using c10
              unfold placeF; rw [h, g10_4]; rfl
            refine sw_skip (rd hP 9 rfl (⟨i + 1, ?_, ?_, ent_ok rfl ?_⟩))
            ·exact ⟨hlt, chk_next hlt hgo hf⟩
            ·omega
            ·simp [conj]
         ·obtain rfl : i = pl.length := by simp at c8; omega
          refine sw_exit (sw_seq (rd hP 7 rfl (sw_ret ⟨.inl rfl, _, rfl, ?_⟩)))
          have hv := chk_end hgo
          simp [conj, ptrV, c1, c3, hsz, hv]
end Go.Sx

namespace Go.Sx
open Go Go.RowKit
theorem volOk_eq (s : Str) : Proofs.volOk (mkS s) = nameV s := by
 have h : (mkS s).size = s.length := rfl
 have h2 : (mkS s).data.toList = s := rfl
 unfold Proofs.volOk nameV inV
 rw [h, h2, show (fun c : UInt8 => decide (97 ≤ c.toNat) && decide (c.toNat ≤ 122)) = lower from rfl]
 congr 1
 cases s with
 | nil => rfl
 | cons a l =>
  have e1 : ((a :: l).length == 0) = false := rfl
  rw [e1]
  simp only [Bool.not_false, Bool.true_and, List.length_cons]
  have e2 : decide ((1 : Int) ≤ ((l.length + 1 : Nat) : Int)) = true := by simp; omega
  rw [e2, Bool.true_and]
  exact decide_eq_decide.2 (by omega)
theorem ctr_of_below {P : Program} {c : Ctr} {fn : Func} {body : Code} (hf : P.funcs[c.f]? = some fn) (hb : fn.body = some body) (hn : (fn.name == "runtime.NumGoroutine") = false) (href : noRefs c.ins = true)
  (h : ∀ G w args x, (∀ b, G.g b ≠ .no → b < w.heap.size) → Amb P G.g w → ArgsOk G w 0 c.ins x args → c.pre x → Calls P c.f args.toArray w fun e w' => ∃ v, e = .returned v ∧ Below w.heap.size w w' ∧ (∀ G', MtS G' w' (c.post x).1 v) ∧ (c.post x).2 = []) : CtrOk P c := by
 intro G w args x hbnd ham hargs hpre
 have hrun : (callFunc c.f args.toArray).run P w = .ok (.enter c.f args.toArray) w := by
  have hn' : ¬ fn.name = "runtime.NumGoroutine" := by simpa using hn
  simp [callFunc, hf, hn', hb]
 refine ⟨_, _, hrun, .inr (.inl ⟨rfl, ?_⟩)⟩
 intro cs
 obtain ⟨e, w', fr, ⟨v, rfl, hB, hm, hp⟩, h1, h2, h3⟩ := h G w args x hbnd ham hargs hpre cs
 refine ⟨_, w', fr, ?_, h1, h2, h3⟩
 let G' : Gh := ⟨fun _ => .bool false, G.g⟩
 have hk : ∀ b, G.g b ≠ .no → w'.heap[b]? = w.heap[b]? := fun b hb => hB.block b (hbnd b hb)
 refine ⟨G', ⟨fun _ h => h.elim, ⟨fun b hb => ⟨hb, hk b (by rw [hb]; simp)⟩, fun b hb => ⟨hb, hk b (by rw [hb]; simp)⟩⟩, fun b j q hg _ => ⟨hg, hk b (by rw [hg]; simp)⟩, fun b hlt hb => ⟨hB.block b hlt, hb⟩, fun b hb => Nat.lt_of_lt_of_le (hbnd b hb) hB.size, fun _ _ => rfl, hB.os, hB.tape, hB.output, hB.size⟩, fun _ => rfl, ?_, hm G', ?_⟩
 ·rw [noRefs_ptr href]; intro p hp; cases hp
 ·rw [hp]; intro i R hi; cases hi
def cVol : Ctr := ⟨48, [.val false .str pF], fun _ => True, fun x => (sBool (nameV x.1), [])⟩
theorem cVol_ok : CtrOk Proofs.Tryz.prog cVol := by
 refine ctr_of_below (fn := Proofs.Tryz.f48) Proofs.Tryz.func48 rfl rfl rfl ?_
 rintro G w args ⟨(s : Str), ⟨⟩⟩ _ _ ⟨v, vs, rfl, ⟨_, cs, rfl, _, ⟨rfl, hl⟩⟩, rfl⟩ _
 have h := Proofs.vol48_in Fence.wide 3 trivial trivial trivial rfl (Nat.le_refl _) (mkS s) (by exact hl) w
 refine (callsIn_wide.1 h).mono ?_
 rintro e w' ⟨rfl, hB⟩
 refine ⟨_, rfl, hB, fun G' => ?_, rfl⟩
 rw [volOk_eq]
 exact MtS.ofBool
end Go.Sx

namespace Go.Sx
open Go
set_option maxRecDepth 100000
set_option linter.unusedVariables false
set_option linter.unusedSimpArgs false
set_option maxHeartbeats 2000000
def cVols1 : Ctr := ⟨50, [.val true T_Vol (.all .b), .rp T_Vol (.all .b)], fun x => True, fun x => (sBool (decide ((x.1.1 : Str) = x.2.1.1)), [])⟩
theorem cVols1_ok : CtrOk Proofs.Tryz.prog cVols1 := by
 have hP := (Prg.none ttok mtok)
 refine ctr_of_body hP cVols1 (fn := Proofs.Tryz.f50) (rts := [.tmp 3]) Proofs.Tryz.func50 rfl (by kernel_rfl) rfl rfl ?_
 rintro ⟨⟨(a : Str), (b : List Ptr_)⟩, ⟨(c : Str), (e : List Ptr_)⟩, ⟨⟩⟩ _ hpre
 try dsimp only [Ty.den, Mode.den, mdens] at hpre
 refine ⟨rfl, ?_⟩
 refine sw_seq (rd hP 1 rfl (sw_seq (rd hP 2 rfl (sw_ret ⟨.inl rfl, _, rfl, ?_⟩))))
 simp [conj]
def cVols2 : Ctr := ⟨52, [.val true T_Ptr (.all .b), .rp TI pF], fun x => True, fun x => (sBool (!ptrV x.2.1 x.1), [])⟩
theorem cVols2_ok : CtrOk Proofs.Tryz.prog cVols2 := by
 have hP := ((Prg.none ttok mtok).and cPtrOk_ok)
 refine ctr_of_body hP cVols2 (fn := Proofs.Tryz.f52) (rts := [.tmp 3]) Proofs.Tryz.func52 rfl (by kernel_rfl) rfl rfl ?_
 rintro ⟨⟨(sz : Int), (sm : Int), (pl : List Plc)⟩, (d : Int), ⟨⟩⟩ _ hpre
 try dsimp only [Ty.den, Mode.den, mdens] at hpre
 refine ⟨rfl, ?_⟩
 refine sw_seq (rd hP 1 rfl (sw_seq (rg hP 2 [] rfl ?_ ?_)))
 ·simp [conj, maxL]
  try dsimp only [Ty.den, Ty.dflt]
  try simp only [rd_eta]
  repeat' apply And.intro
  all_goals first | rfl | assumption | omega | trivial
 refine sw_ret ⟨.inl rfl, _, rfl, ?_⟩
 simp [conj]
def cIdxV1 : Ctr := ⟨71, [.val false (.sl T_Vol) (.all .b), .clo 50 [(false, T_Vol, (.all .b))]], fun _ => True, fun x => (sInt .i64 (idxF (fun w : Vol_ => decide (w.1 = x.2.1.1.1)) x.1), [])⟩
theorem cIdxV1_ok : CtrOk Proofs.Tryz.prog cIdxV1 := by
 have hP := ((Prg.none ttok mtok).and cVols1_ok)
 refine ctr_of_body hP cIdxV1 (fn := Proofs.Tryz.f71) (rts := [.tmp 4]) Proofs.Tryz.func71 rfl (by kernel_rfl) rfl rfl ?_
 rintro ⟨(l : List Vol_), ⟨(y : Vol_), ⟨⟩⟩, ⟨⟩⟩ ⟨hdl, _⟩ hpre
 try dsimp only [Ty.den, Mode.den, mdens] at hpre
 refine ⟨rfl, ?_⟩
 have hml : l.length ≤ 140737488355328 := hdl.1
 refine sw_seq (rd hP 1 rfl (sw_seq (sw_seq (rd hP 2 rfl (sw_block (sw_loop (ι := Nat) (fun i => ⟨[.v false [.d (.sl T_Vol) (.all .b) l], .fn 50 [.rpt .b T_Vol (.all .b) y], .j, .j, .j, .j, .j, sInt .i64 (l.length : Int), sInt .i64 (i : Int), .j, .j, .j, .j, .j, .j, .j, .j, .j, .j], [], 2, []⟩) (fun i => l.length - i) (fun i => i ≤ l.length ∧ idxFGo (fun w : Vol_ => decide (w.1 = y.1)) (l.drop i) i = idxF (fun w : Vol_ => decide (w.1 = y.1)) l) 0 ⟨?_, ?_⟩ ?_))))))
 ·exact ⟨Nat.zero_le _, rfl⟩
 ·refine ent_ok rfl ?_
  first | trivial | (simp [conj]; done) | (simp [conj] at *; (try dsimp only [Ty.den, Ty.dflt] at *); omega)
 ·rintro i ⟨hi, hgo⟩
  refine sw_seq (rd hP 3 rfl (sw_seq (sw_cond rfl (fun c2 => ?_) (fun c2 => ?_))))
  ·have hlt : i < l.length := by simpa using c2
   refine sw_skip (sw_seq (sw_block (sw_seq (rd hP 4 rfl (sw_seq (rg hP 5 [] rfl ?_ ?_))))))
   ·simp [conj, maxL]
    try dsimp only [Ty.den, Ty.dflt]
    try simp only [rd_eta]
    repeat' apply And.intro
    all_goals first | assumption | omega | exact trivial
   refine sw_cond rfl (fun c4 => ?_) (fun c4 => ?_)
   ·replace c4 : (fun w : Vol_ => decide (w.1 = y.1)) l[i] = true := by simpa [gE hlt] using c4
    refine sw_seq (rd hP 6 rfl (sw_ret ⟨.inl rfl, _, rfl, ?_⟩))
    simp [conj, idxF_hit hlt hgo c4]
   ·replace c4 : (fun w : Vol_ => decide (w.1 = y.1)) l[i] = false := by simpa [gE hlt] using c4
    refine sw_skip (rd hP 6 rfl (⟨i + 1, ?_, ?_, ent_ok rfl ?_⟩))
    ·exact ⟨hlt, idxF_next hlt hgo c4⟩
    ·omega
    ·simp [conj, maxL]
     try dsimp only [Ty.den, Ty.dflt]
     try simp only [rd_eta]
     repeat' apply And.intro
     all_goals first | rfl | assumption | omega
  ·obtain rfl : i = l.length := by simp at c2; omega
   refine sw_exit (sw_seq (rd hP 4 rfl (sw_ret ⟨.inl rfl, _, rfl, ?_⟩)))
   simp [conj, idxF_end hgo]
def cContV1 : Ctr := ⟨49, [.val false (.sl T_Vol) (.all .b), .clo 50 [(false, T_Vol, (.all .b))]], fun _ => True, fun x => (sBool (List.any x.1 (fun w : Vol_ => decide (w.1 = x.2.1.1.1))), [])⟩
theorem cContV1_ok : CtrOk Proofs.Tryz.prog cContV1 := by
 have hP := ((Prg.none ttok mtok).and cIdxV1_ok)
 refine ctr_of_body hP cContV1 (fn := Proofs.Tryz.f49) (rts := [.tmp 4]) Proofs.Tryz.func49 rfl (by kernel_rfl) rfl rfl ?_
 rintro ⟨(l : List Vol_), ⟨(y : Vol_), ⟨⟩⟩, ⟨⟩⟩ _ hpre
 try dsimp only [Ty.den, Mode.den, mdens] at hpre
 refine ⟨rfl, ?_⟩
 refine sw_seq (rd hP 1 rfl (sw_seq (rd hP 2 rfl (sw_ret ⟨.inl rfl, _, rfl, ?_⟩))))
 simp [conj]
 exact idxF_any
def cIdxV2 : Ctr := ⟨72, [.val false (.sl T_Ptr) (.all .b), .clo 52 [(false, TI, pF)]], fun _ => True, fun x => (sInt .i64 (idxF (fun p : Ptr_ => !ptrV x.2.1.1 p) x.1), [])⟩
theorem cIdxV2_ok : CtrOk Proofs.Tryz.prog cIdxV2 := by
 have hP := ((Prg.none ttok mtok).and cVols2_ok)
 refine ctr_of_body hP cIdxV2 (fn := Proofs.Tryz.f72) (rts := [.tmp 4]) Proofs.Tryz.func72 rfl (by kernel_rfl) rfl rfl ?_
 rintro ⟨(l : List Ptr_), ⟨(y : Int), ⟨⟩⟩, ⟨⟩⟩ ⟨hdl, _⟩ hpre
 try dsimp only [Ty.den, Mode.den, mdens] at hpre
 refine ⟨rfl, ?_⟩
 have hml : l.length ≤ 140737488355328 := hdl.1
 refine sw_seq (rd hP 1 rfl (sw_seq (sw_seq (rd hP 2 rfl (sw_block (sw_loop (ι := Nat) (fun i => ⟨[.v false [.d (.sl T_Ptr) (.all .b) l], .fn 52 [.rpt .b TI pF y], .j, .j, .j, .j, .j, sInt .i64 (l.length : Int), sInt .i64 (i : Int), .j, .j, .j, .j, .j, .j, .j, .j, .j, .j], [], 2, []⟩) (fun i => l.length - i) (fun i => i ≤ l.length ∧ idxFGo (fun p : Ptr_ => !ptrV y p) (l.drop i) i = idxF (fun p : Ptr_ => !ptrV y p) l) 0 ⟨?_, ?_⟩ ?_))))))
 ·exact ⟨Nat.zero_le _, rfl⟩
 ·refine ent_ok rfl ?_
  first | trivial | (simp [conj]; done) | (simp [conj] at *; (try dsimp only [Ty.den, Ty.dflt] at *); omega)
 ·rintro i ⟨hi, hgo⟩
  refine sw_seq (rd hP 3 rfl (sw_seq (sw_cond rfl (fun c2 => ?_) (fun c2 => ?_))))
  ·have hlt : i < l.length := by simpa using c2
   refine sw_skip (sw_seq (sw_block (sw_seq (rd hP 4 rfl (sw_seq (rg hP 5 [] rfl ?_ ?_))))))
   ·simp [conj, maxL]
    try dsimp only [Ty.den, Ty.dflt]
    try simp only [rd_eta]
    repeat' apply And.intro
    all_goals first | assumption | omega | exact trivial
   refine sw_cond rfl (fun c4 => ?_) (fun c4 => ?_)
   ·replace c4 : (fun p : Ptr_ => !ptrV y p) l[i] = true := by simpa [gE hlt] using c4
    refine sw_seq (rd hP 6 rfl (sw_ret ⟨.inl rfl, _, rfl, ?_⟩))
    simp [conj, idxF_hit hlt hgo c4]
   ·replace c4 : (fun p : Ptr_ => !ptrV y p) l[i] = false := by simpa [gE hlt] using c4
    refine sw_skip (rd hP 6 rfl (⟨i + 1, ?_, ?_, ent_ok rfl ?_⟩))
    ·exact ⟨hlt, idxF_next hlt hgo c4⟩
    ·omega
    ·simp [conj, maxL]
     try dsimp only [Ty.den, Ty.dflt]
     try simp only [rd_eta]
     repeat' apply And.intro
     all_goals first | rfl | assumption | omega
  ·obtain rfl : i = l.length := by simp at c2; omega
   refine sw_exit (sw_seq (rd hP 4 rfl (sw_ret ⟨.inl rfl, _, rfl, ?_⟩)))
   simp [conj, idxF_end hgo]
def cContV2 : Ctr := ⟨51, [.val false (.sl T_Ptr) (.all .b), .clo 52 [(false, TI, pF)]], fun _ => True, fun x => (sBool (List.any x.1 (fun p : Ptr_ => !ptrV x.2.1.1 p)), [])⟩
theorem cContV2_ok : CtrOk Proofs.Tryz.prog cContV2 := by
 have hP := ((Prg.none ttok mtok).and cIdxV2_ok)
 refine ctr_of_body hP cContV2 (fn := Proofs.Tryz.f51) (rts := [.tmp 4]) Proofs.Tryz.func51 rfl (by kernel_rfl) rfl rfl ?_
 rintro ⟨(l : List Ptr_), ⟨(y : Int), ⟨⟩⟩, ⟨⟩⟩ _ hpre
 try dsimp only [Ty.den, Mode.den, mdens] at hpre
 refine ⟨rfl, ?_⟩
 refine sw_seq (rd hP 1 rfl (sw_seq (rd hP 2 rfl (sw_ret ⟨.inl rfl, _, rfl, ?_⟩))))
 simp [conj]
 exact idxF_any
def cVols : Ctr := ⟨28, [.val false TI pF, .val false (.sl T_Vol) (.all .b)], fun x => True, fun x => (sBool (volsV x.1 x.2.1), [])⟩
theorem cVols_ok : CtrOk Proofs.Tryz.prog cVols := by
 have hP := ((((Prg.none ttok mtok).and cVol_ok).and cContV1_ok).and cContV2_ok)
 refine ctr_of_body hP cVols (fn := Proofs.Tryz.f28) (rts := [.tmp 4]) Proofs.Tryz.func28 rfl (by kernel_rfl) rfl rfl ?_
 rintro ⟨(d : Int), (l : List Vol_), ⟨⟩⟩ ⟨_, hl0, _⟩ _
 try dsimp only [Ty.den, Mode.den, mdens] at _
 refine ⟨rfl, ?_⟩
 have hml : l.length ≤ 140737488355328 := hl0.1
 refine sw_seq (rd hP 1 rfl (sw_seq (sw_seq (rd hP 2 rfl (sw_block (sw_loop (ι := Nat) (fun i => ⟨[.j, .v false [.d (.sl T_Vol) (.all .b) l], .v false [.ptr ⟨1, 0, 0⟩ 0], .j, .j, .j, .j, .v false [.d (.sl T_Vol) (.all .b) l], sInt .i64 (l.length : Int), sInt .i64 (i : Int), .j, .j, .j, .j, .j, .j, .j, .j, .j, .j, .j, .j, .j, .j, .j, .j, .j, .j, .j, .j, .j, .j, .j, .j, .j, .j, .j, .j, .j], [(⟨1, 0, 0⟩, .var [.d TI pF d])], 2, []⟩) (fun i => l.length - i) (fun i => i ≤ l.length ∧ chkGo (volF d) (l.take i) (l.drop i) = chk (volF d) l) 0 ⟨?_, ?_⟩ ?_))))))
 ·exact ⟨Nat.zero_le _, rfl⟩
 ·refine ent_ok rfl ?_
  simp [conj]
 ·rintro i ⟨hi, hgo⟩
  refine sw_seq (rd hP 3 rfl (sw_seq (sw_cond rfl (fun c2 => ?_) (fun c2 => ?_))))
  ·have hlt : i < l.length := by simpa using c2
   have hml2 : l[i].2.length ≤ 140737488355328 := (hl0.2 _ (List.getElem_mem hlt)).2.1
   refine sw_skip (sw_seq (sw_block (sw_seq (rd hP 4 rfl (sw_seq (sw_seq ?_))))))
   refine sw_dec hP 5 [] 4 rfl (fun g4_4 => ?_) (fun g4_4 => ?_)
   ·replace g4_4 : nameV l[i].1 = false := by simpa [gE hlt] using g4_4
    have hf : volF d (l.take i) l[i] = false := by simp [volF, g4_4]
    refine rg hP 5 [(4, true)] rfl ?_ ?_
    ·simp [conj, gE hlt]
     repeat' apply And.intro
     all_goals first | trivial | assumption | omega
    refine sw_condT rfl (sw_seq (rd hP 6 rfl (sw_ret ⟨.inl rfl, _, rfl, ?_⟩)))
    have hv := chk_hit hlt hgo hf
    simp [conj, volsV, hv]
   ·replace g4_4 : nameV l[i].1 = true := by simpa [gE hlt] using g4_4
    refine sw_dec hP 5 [(4, false)] 10 rfl (fun g4_10 => ?_) (fun g4_10 => ?_)
    ·replace g4_10 : ¬ l[i].2.length = 3 := by
       have h := g4_10
       simp [gE hlt] at h
       omega
     have hf : volF d (l.take i) l[i] = false := by simp [volF, g4_10]
     refine rg hP 5 [(4, false), (10, true)] rfl ?_ ?_
     ·simp [conj, gE hlt]
      repeat' apply And.intro
      all_goals first | trivial | assumption | omega
     refine sw_condT rfl (sw_seq (rd hP 6 rfl (sw_ret ⟨.inl rfl, _, rfl, ?_⟩)))
     have hv := chk_hit hlt hgo hf
     simp [conj, volsV, hv]
    ·replace g4_10 : l[i].2.length = 3 := by
       have h := g4_10
       simp [gE hlt] at h
       omega
     refine rg hP 5 [(4, false), (10, false)] rfl ?_ ?_
     ·simp [conj, gE hlt]
      repeat' apply And.intro
      all_goals first | trivial | assumption | omega
     refine sw_cond rfl (fun c4 => ?_) (fun c4 => ?_)
     ·replace c4 : (l.take i).any (fun w => decide (w.1 = l[i].1)) = true := by simpa [gE hlt] using c4
      have hf : volF d (l.take i) l[i] = false := by unfold volF; rw [c4]; simp
      refine sw_seq (rd hP 6 rfl (sw_ret ⟨.inl rfl, _, rfl, ?_⟩))
      have hv := chk_hit hlt hgo hf
      simp [conj, volsV, hv]
     ·replace c4 : (l.take i).any (fun w => decide (w.1 = l[i].1)) = false := by simpa [gE hlt] using c4
      refine sw_skip (sw_seq (rg hP 6 [] rfl ?_ ?_))
      ·simp [conj, maxL]
       try dsimp only [Ty.den, Ty.dflt]
       try simp only [rd_eta]
       repeat' apply And.intro
       all_goals first | rfl | assumption | omega | trivial
      refine sw_cond rfl (fun c6 => ?_) (fun c6 => ?_)
      ·replace c6 : l[i].2.any (fun p => !ptrV d p) = true := by simpa [gE hlt] using c6
       have hf : volF d (l.take i) l[i] = false := by
         have h : l[i].2.all (ptrV d) = false := by rw [← not_any]; simp [c6]
         simp [volF, h]
       refine sw_seq (rd hP 7 rfl (sw_ret ⟨.inl rfl, _, rfl, ?_⟩))
       have hv := chk_hit hlt hgo hf
       simp [conj, volsV, hv]
      ·replace c6 : l[i].2.any (fun p => !ptrV d p) = false := by simpa [gE hlt] using c6
       have hf : volF d (l.take i) l[i] = true := by
         have h : l[i].2.all (ptrV d) = true := by rw [← not_any]; simp [c6]
         unfold volF; rw [g4_4, c4, h, g4_10]; rfl
       refine sw_skip (rd hP 7 rfl (⟨i + 1, ?_, ?_, ent_ok rfl ?_⟩))
       ·exact ⟨hlt, chk_next hlt hgo hf⟩
       ·omega
       ·simp [conj]
  ·obtain rfl : i = l.length := by simp at c2; omega
   refine sw_exit (sw_seq (rd hP 4 rfl (sw_ret ⟨.inl rfl, _, rfl, ?_⟩)))
   have hv := chk_end hgo
   simp [conj, volsV, hv]
   try omega
def cEqPl : Ctr := ⟨54, [.val false (.sl T_Place) (.all .b), .val false (.sl T_Place) (.all .b)], fun x => True, fun x => (sBool (decide ((x.1 : List Plc) = x.2.1)), [])⟩
theorem cEqPl_ok : CtrOk Proofs.Tryz.prog cEqPl := by
 have hP := (Prg.none ttok mtok)
 refine ctr_of_body hP cEqPl (fn := Proofs.Tryz.f54) (rts := [.tmp 4]) Proofs.Tryz.func54 rfl (by kernel_rfl) rfl rfl ?_
 rintro ⟨(a : List Plc), (b : List Plc), ⟨⟩⟩ ⟨hda, hdb, _⟩ _
 try dsimp only [Ty.den, Mode.den, mdens] at _
 refine ⟨rfl, ?_⟩
 have hml : a.length ≤ 140737488355328 := hda.1
 have hmb : b.length ≤ 140737488355328 := hdb.1
 refine sw_seq (rd hP 1 rfl (sw_seq (sw_seq (rd hP 2 rfl (sw_cond rfl (fun c1 => ?_) (fun c1 => ?_))))))
 ·replace c1 : ¬ a.length = b.length := by simp at c1; omega
  refine sw_seq (rd hP 3 rfl (sw_ret ⟨.inl rfl, _, rfl, ?_⟩))
  have hv := eqL_len c1
  simp [conj, hv]
 ·replace c1 : a.length = b.length := by simp at c1; omega
  refine sw_skip (sw_seq (sw_seq (rd hP 3 rfl (sw_block (sw_loop (ι := Nat) (fun i => ⟨[.v false [.d (.sl T_Place) (.all .b) a], .v false [.d (.sl T_Place) (.all .b) b], .j, .j, .j, .j, .j, .j, .j, .j, .j, .j, sInt .i64 (a.length : Int), sInt .i64 (i : Int), .j, .j, .j, .j, .j, .j, .j, .j, .j, .j, .j, .j], [], 3, []⟩) (fun i => a.length - i) (fun i => i ≤ a.length ∧ decide (a.drop i = b.drop i) = decide (a = b)) 0 ⟨?_, ?_⟩ ?_)))))
  ·exact ⟨Nat.zero_le _, rfl⟩
  ·refine ent_ok rfl ?_
   first | trivial | (simp [conj]; done) | (simp [conj] at *; (try dsimp only [Ty.den, Ty.dflt] at *); omega)
  ·rintro i ⟨hi, hgo⟩
   refine sw_seq (rd hP 4 rfl (sw_seq (sw_cond rfl (fun c4 => ?_) (fun c4 => ?_))))
   ·have hlt : i < a.length := by simpa using c4
    have hlt2 : i < b.length := by omega
    refine sw_skip (sw_seq (sw_block (sw_seq (rd hP 5 rfl (sw_seq (rg hP 6 [] rfl ?_ ?_))))))
    ·simp [conj, gE hlt, gE hlt2]
     try exact ⟨hlt, hlt2⟩
    refine sw_cond rfl (fun c6 => ?_) (fun c6 => ?_)
    ·replace c6 : ¬ a[i] = b[i] := by intro e; simp [gE hlt, gE hlt2, e] at c6
     refine sw_seq (rd hP 7 rfl (sw_ret ⟨.inl rfl, _, rfl, ?_⟩))
     have hv := eqL_hit hlt hlt2 hgo c6
     simp [conj, hv]
    ·replace c6 : a[i] = b[i] := by have h := c6; simp [gE hlt, gE hlt2] at h; exact Prod.ext h.1 h.2
     refine sw_skip (rd hP 7 rfl (⟨i + 1, ?_, ?_, ent_ok rfl ?_⟩))
     ·exact ⟨hlt, eqL_next hlt hlt2 hgo c6⟩
     ·omega
     ·simp [conj]
   ·obtain rfl : i = a.length := by simp at c4; omega
    refine sw_exit (sw_seq (rd hP 5 rfl (sw_ret ⟨.inl rfl, _, rfl, ?_⟩)))
    have hv := eqL_end c1 hgo
    simp [conj, hv]
def cSame : Ctr := ⟨30, [.val true T_Ptr (.all .b), .val true T_Ptr (.all .b)], fun x => True, fun x => (sBool (decide ((x.1 : Ptr_) = x.2.1)), [])⟩
theorem cSame_ok : CtrOk Proofs.Tryz.prog cSame := by
 have hP := ((Prg.none ttok mtok).and cEqPl_ok)
 refine ctr_of_body hP cSame (fn := Proofs.Tryz.f30) (rts := [.tmp 4]) Proofs.Tryz.func30 rfl (by kernel_rfl) rfl rfl ?_
 rintro ⟨⟨(sz : Int), (sm : Int), (pl : List Plc)⟩, ⟨(sz2 : Int), (sm2 : Int), (pl2 : List Plc)⟩, ⟨⟩⟩ _ _
 try dsimp only [Ty.den, Mode.den, mdens] at _
 refine ⟨rfl, ?_⟩
 refine sw_seq (rd hP 1 rfl (sw_seq ?_))
 refine sw_dec hP 2 [] 5 rfl (fun g1_5 => ?_) (fun g1_5 => ?_)
 ·replace g1_5 : sz = sz2 := of_decide_eq_true g1_5
  refine sw_dec hP 2 [(5, true)] 12 rfl (fun g1_12 => ?_) (fun g1_12 => ?_)
  ·replace g1_12 : sm = sm2 := of_decide_eq_true g1_12
   refine rg hP 2 [(5, true), (12, true)] rfl ?_ ?_
   ·simp only [cj, cl]
    try dsimp only [Ty.den, Ty.dflt]
    repeat' apply And.intro
    all_goals first | trivial | assumption | omega | exact decide_eq_true ‹_› | exact decide_eq_false ‹_› | (simp [*]; done)
   refine sw_ret ⟨.inl rfl, _, rfl, ?_⟩
   simp [conj, Prod.ext_iff, *]
  ·replace g1_12 : ¬ sm = sm2 := of_decide_eq_false g1_12
   refine rg hP 2 [(5, true), (12, false)] rfl ?_ ?_
   ·simp only [cj, cl]
    try dsimp only [Ty.den, Ty.dflt]
    repeat' apply And.intro
    all_goals first | trivial | assumption | omega | exact decide_eq_true ‹_› | exact decide_eq_false ‹_› | (simp [*]; done)
   refine sw_ret ⟨.inl rfl, _, rfl, ?_⟩
   simp [conj, Prod.ext_iff, *]
 ·replace g1_5 : ¬ sz = sz2 := of_decide_eq_false g1_5
  refine rg hP 2 [(5, false)] rfl ?_ ?_
  ·simp only [cj, cl]
   try dsimp only [Ty.den, Ty.dflt]
   repeat' apply And.intro
   all_goals first | trivial | assumption | omega | exact decide_eq_true ‹_› | exact decide_eq_false ‹_› | (simp [*]; done)
  refine sw_ret ⟨.inl rfl, _, rfl, ?_⟩
  simp [conj, Prod.ext_iff, *]
def cPtrs : Ctr := ⟨29, [.val true T_Root (.all .b)], fun x => SmallV x.1.2, fun x => (.v false [.own ⟨1, 0, 0⟩], [(⟨1, 0, 0⟩, .sl T_Ptr (.all .b) (blksOf x.1.2))])⟩
theorem cPtrs_ok : CtrOk Proofs.Tryz.prog cPtrs := by
 have hP := (Prg.none ttok mtok)
 refine ctr_of_body hP cPtrs (fn := Proofs.Tryz.f29) (rts := [.tmp 2]) Proofs.Tryz.func29 rfl (by kernel_rfl) rfl rfl ?_
 rintro ⟨⟨(tg : Int), (l : List Vol_)⟩, ⟨⟩⟩ _ hpre
 try dsimp only [Ty.den, Mode.den, mdens] at hpre
 refine ⟨rfl, ?_⟩
 replace hpre : SmallV l := hpre
 have hml : l.length ≤ 100 := hpre.1
 refine sw_seq (rd hP 1 rfl (sw_seq (rd hP 2 rfl (sw_seq (sw_seq (rd hP 3 rfl (sw_block (sw_loop (ι := Nat) (fun i => ⟨[.j, .v false [.ptr ⟨1, 0, 0⟩ 0], .j, .v false [.own ⟨0, 9, 0⟩], .j, .j, .j, .v false [.d (.sl T_Vol) (.all .b) l], sInt .i64 (l.length : Int), sInt .i64 (i : Int), .j, .j, .j, .j, .j, .j, .j, .j, .j], [(⟨0, 9, 0⟩, .sl T_Ptr (.all .b) (blksOf (l.take i)))], 3, []⟩) (fun i => l.length - i) (fun i => i ≤ l.length) 0 ⟨?_, ?_⟩ ?_))))))))
 ·exact Nat.zero_le _
 ·refine ent_ok rfl ?_
  simp [conj, blksOf]
 ·rintro i hi
  refine sw_seq (rd hP 4 rfl (sw_seq (sw_cond rfl (fun c3 => ?_) (fun c3 => ?_))))
  ·have hlt : i < l.length := by simpa using c3
   have hb1 := blks_len hpre (i := i)
   have hb2 := hpre.2 _ (List.getElem_mem hlt)
   refine sw_skip (sw_seq (sw_block (sw_seq (rd hP 5 rfl (rg hP 6 [] rfl ?_ ?_)))))
   ·simp [conj, maxL, gE hlt]
    omega
   refine rd hP 7 rfl (⟨i + 1, ?_, ?_, ent_ok rfl ?_⟩)
   ·exact hlt
   ·omega
   ·simp [conj, gE hlt]
    exact flat_next hlt
  ·obtain rfl : i = l.length := by simp at c3; omega
   refine sw_exit (sw_seq (rd hP 5 rfl (sw_ret ⟨.inl rfl, _, rfl, ?_⟩)))
   simp [conj]
def cRootOk : Ctr := ⟨8, [.val false TI pF, .val true T_Root (.all .b)], fun x => True, fun x => (sBool (rootV x.1 x.2.1), [])⟩
theorem cRootOk_ok : CtrOk Proofs.Tryz.prog cRootOk := by
 have hP := (((((Prg.none ttok mtok).and cPool_ok).and cVols_ok).and cPtrs_ok).and cSame_ok)
 refine ctr_of_body hP cRootOk (fn := Proofs.Tryz.f8) (rts := [.tmp 4]) Proofs.Tryz.func8 rfl (by kernel_rfl) rfl rfl ?_
 rintro ⟨(d : Int), ⟨(tg : Int), (l : List Vol_)⟩, ⟨⟩⟩ ⟨_, ⟨_, hl0⟩, _⟩ _
 try dsimp only [Ty.den, Mode.den, mdens] at _
 refine ⟨rfl, ?_⟩
 have hml : l.length ≤ 140737488355328 := hl0.1
 have hpl0 := blks_pl (l := l) (fun v hv p hp => ((hl0.2 v hv).2.2 p hp).2.2.1)
 refine sw_seq (rd hP 1 rfl (sw_seq (sw_seq ?_)))
 refine sw_dec hP 2 [] 3 rfl (fun g1_3 => ?_) (fun g1_3 => ?_)
 ·replace g1_3 : poolV d = false := by simpa using g1_3
  refine rg hP 2 [(3, true)] rfl ?_ ?_
  ·simp only [cj, cl]
   try dsimp only [Ty.den, Ty.dflt]
   repeat' apply And.intro
   all_goals first | trivial | assumption | omega | exact decide_eq_true ‹_› | exact decide_eq_false ‹_› | (simp [*]; done)
  refine sw_condT rfl (sw_seq (rd hP 3 rfl (sw_ret ⟨.inl rfl, _, rfl, ?_⟩)))
  simp [conj, rootV, inV, *]
  try omega
 ·replace g1_3 : poolV d = true := by simpa using g1_3
  refine sw_dec hP 2 [(3, false)] 8 rfl (fun g1_8 => ?_) (fun g1_8 => ?_)
  ·replace g1_8 : tg < 0 := of_decide_eq_true g1_8
   refine rg hP 2 [(3, false), (8, true)] rfl ?_ ?_
   ·simp only [cj, cl]
    try dsimp only [Ty.den, Ty.dflt]
    repeat' apply And.intro
    all_goals first | trivial | assumption | omega | exact decide_eq_true ‹_› | exact decide_eq_false ‹_› | (simp [*]; done)
   refine sw_condT rfl (sw_seq (rd hP 3 rfl (sw_ret ⟨.inl rfl, _, rfl, ?_⟩)))
   simp [conj, rootV, inV, *]
   try omega
  ·replace g1_8 : ¬ tg < 0 := of_decide_eq_false g1_8
   refine sw_dec hP 2 [(3, false), (8, false)] 13 rfl (fun g1_13 => ?_) (fun g1_13 => ?_)
   ·replace g1_13 : 100000 < tg := of_decide_eq_true g1_13
    refine rg hP 2 [(3, false), (8, false), (13, true)] rfl ?_ ?_
    ·simp only [cj, cl]
     try dsimp only [Ty.den, Ty.dflt]
     repeat' apply And.intro
     all_goals first | trivial | assumption | omega | exact decide_eq_true ‹_› | exact decide_eq_false ‹_› | (simp [*]; done)
    refine sw_condT rfl (sw_seq (rd hP 3 rfl (sw_ret ⟨.inl rfl, _, rfl, ?_⟩)))
    simp [conj, rootV, inV, *]
    try omega
   ·replace g1_13 : ¬ 100000 < tg := of_decide_eq_false g1_13
    refine rg hP 2 [(3, false), (8, false), (13, false)] rfl ?_ ?_
    ·simp only [cj, cl]
     try dsimp only [Ty.den, Ty.dflt]
     repeat' apply And.intro
     all_goals first | trivial | assumption | omega | exact decide_eq_true ‹_› | exact decide_eq_false ‹_› | (simp [*]; done)
    refine sw_cond rfl (fun c1 => ?_) (fun c1 => ?_)
    ·replace c1 : volsV d l = false := by simpa using c1
     refine sw_seq (rd hP 3 rfl (sw_ret ⟨.inl rfl, _, rfl, ?_⟩))
     simp [conj, rootV, inV, *]
     try omega
    ·replace c1 : volsV d l = true := by simpa using c1
     have hsv := volsV_small c1
     have hbl := blks_all hsv
     have hin : inV tg 0 100000 = true := by simp [inV]; omega
     refine sw_skip (sw_seq (rd hP 3 rfl (sw_seq (sw_seq (rg hP 4 [] rfl ?_ ?_)))))
     ·simp [conj, maxL]
      try dsimp only [Ty.den, Ty.dflt]
      try simp only [rd_eta]
      exact hsv
     refine sw_block (sw_loop (ι := Nat × List (Plc × Ptr_)) (fun ⟨i, m⟩ => ⟨[sInt .i64 d, .j, .j, .v false [.ptr ⟨1, 0, 0⟩ 0], .j, .v false [.own ⟨0, 9, 0⟩], .j, .j, .j, .j, .j, .j, .j, .j, .j, .j, .j, .j, .j, .j, .j, .j, .j, .j, .j, .j, .j, .j, .j, .j, .j, .j, .j, .j, .v false [.own ⟨0, 9, 1⟩], sInt .i64 ((blksOf l).length : Int), sInt .i64 (i : Int), .j, .j, .j, .j, .j, .j, .j, .j, .j, .j, .j, .j, .j, .j, .j, .j, .j, .j, .j, .j, .j, .j, .j, .j, .j, .j, .j, .j], [(⟨1, 0, 0⟩, .var [.d TI pF tg, .d (.sl T_Vol) (.all .b) l]), (⟨0, 9, 0⟩, .mp true true T_Place T_Ptr mapF m), (⟨0, 9, 1⟩, .sl T_Ptr (.all .b) (blksOf l))], 4, []⟩) (fun ⟨i, m⟩ => (blksOf l).length - i) (fun ⟨i, m⟩ => i ≤ (blksOf l).length ∧ ownGo m (pairsOf ((blksOf l).drop i)) = ownGo [] (pairsOf (blksOf l))) (0, []) ⟨?_, ?_⟩ ?_)
     ·exact ⟨Nat.zero_le _, rfl⟩
     ·refine ent_ok rfl ?_
      simp [conj]
     ·rintro ⟨i, m⟩ ⟨hi, hgo0⟩
      refine sw_seq (rd hP 5 rfl (sw_seq (sw_cond rfl (fun c5 => ?_) (fun c5 => ?_))))
      ·have hlt : i < (blksOf l).length := by simpa using c5
       have hpl1 := hpl0 _ (List.getElem_mem hlt)
       refine sw_skip (sw_seq (sw_block (sw_seq (rg hP 6 [] rfl ?_ ?_))))
       ·simp [conj, gE hlt]
        exact hlt
       refine sw_seq (rd hP 7 rfl (sw_block (sw_loop (ι := Nat × List (Plc × Ptr_)) (fun ⟨j, m⟩ => ⟨[sInt .i64 d, .j, .j, .v false [.ptr ⟨1, 0, 0⟩ 0], .j, .v false [.own ⟨0, 9, 0⟩], .j, .v false [.ptr ⟨0, 9, 2⟩ 0], .j, .j, .j, .j, .j, .j, .j, .j, .j, .j, .j, .j, .j, .j, .j, .j, .j, .j, .j, .j, .j, .j, .j, .j, .j, .j, .v false [.own ⟨0, 9, 1⟩], sInt .i64 ((blksOf l).length : Int), sInt .i64 (i : Int), .j, .j, .j, .j, .v false [.d (.sl T_Place) (.all .b) (blksOf l)[i].2.2], sInt .i64 ((blksOf l)[i].2.2.length : Int), sInt .i64 (j : Int), .j, .j, .j, .j, .j, .j, .j, .j, .j, .j, .j, .j, .j, .j, .j, .j, .j, .j, .j, .j, .j], [(⟨1, 0, 0⟩, .var [.d TI pF tg, .d (.sl T_Vol) (.all .b) l]), (⟨0, 9, 0⟩, .mp true true T_Place T_Ptr mapF m), (⟨0, 9, 1⟩, .sl T_Ptr (.all .b) (blksOf l)), (⟨0, 9, 2⟩, .var [.d TI pF (blksOf l)[i].1, .d TI pF (blksOf l)[i].2.1, .d (.sl T_Place) (.all .b) (blksOf l)[i].2.2])], 7, []⟩) (fun ⟨j, m⟩ => (blksOf l)[i].2.2.length - j) (fun ⟨j, m⟩ => j ≤ (blksOf l)[i].2.2.length ∧ ownGo m (((blksOf l)[i].2.2.drop j).map (fun a => (a, (blksOf l)[i])) ++ pairsOf ((blksOf l).drop (i + 1))) = ownGo [] (pairsOf (blksOf l))) (0, m) ⟨?_, ?_⟩ ?_)))
       ·exact ⟨Nat.zero_le _, own_in hlt hgo0⟩
       ·refine ent_ok rfl ?_
        simp [conj, gE hlt]
       ·rintro ⟨j, m⟩ ⟨hj, hgo⟩
        refine sw_seq (rd hP 8 rfl (sw_seq (sw_cond rfl (fun c8 => ?_) (fun c8 => ?_))))
        ·have hlj : j < (blksOf l)[i].2.2.length := by simpa using c8
         refine sw_skip (sw_seq (sw_block (sw_seq (rg hP 9 [] rfl ?_ ?_))))
         ·simp [conj, gE hlj]
          exact hlj
         refine sw_seq (sw_seq (rg hP 10 [] rfl ?_ ?_))
         ·simp [conj, gE hlj]
         refine sw_seq ?_
         refine sw_dec hP 11 [] 1 rfl (fun g11_1 => ?_) (fun g11_1 => ?_)
         ·have hg : (mget PK m (blksOf l)[i].2.2[j]).isSome = true := by simpa [gE hlt, gE hlj] using g11_1
          obtain ⟨q, hq⟩ := Option.isSome_iff_exists.1 hg
          refine rg hP 11 [(1, true)] rfl ?_ ?_
          ·simp only [cj, cl]
           try dsimp only [Ty.den, Ty.dflt]
           repeat' apply And.intro
           all_goals first | trivial | exact g11_1 | exact And.intro trivial g11_1
          refine sw_cond rfl (fun c11 => ?_) (fun c11 => ?_)
          ·replace c11 : ¬ (blksOf l)[i] = q := by
             have h := c11
             simp [gE hlt, gE hlj, hq] at h
             intro e
             rw [e] at h
             simp at h
           have hv := own_bad hlj hgo hq c11
           refine sw_seq (rd hP 12 rfl (sw_ret ⟨.inl rfl, _, rfl, ?_⟩))
           simp [conj, rootV, g1_3, hin, c1, hv]
          ·replace c11 : (blksOf l)[i] = q := by
             have h := c11
             simp [gE hlt, gE hlj, hq] at h
             exact Prod.ext h.1 (Prod.ext h.2.1 h.2.2)
           have hnx := own_some hlj hgo hq c11
           refine sw_skip (rg hP 12 [] rfl ?_ ?_)
           ·simp [conj, maxL]
            try dsimp only [Ty.den, Ty.dflt]
            try simp only [rd_eta]
            repeat' apply And.intro
            all_goals first | rfl | assumption | omega
           refine rd hP 13 rfl (⟨(j + 1, mset PK m (blksOf l)[i].2.2[j] (blksOf l)[i]), ?_, ?_, ent_ok rfl ?_⟩)
           ·exact ⟨hlj, hnx⟩
           ·show (blksOf l)[i].2.2.length - (j + 1) < (blksOf l)[i].2.2.length - j
            omega
           ·simp [conj, gE hlt, gE hlj]
         ·have hg : mget PK m (blksOf l)[i].2.2[j] = none := by simpa [gE hlt, gE hlj] using g11_1
          have hnx := own_none hlj hgo hg
          refine rg hP 11 [(1, false)] rfl ?_ ?_
          ·simp only [cj, cl]
           try dsimp only [Ty.den, Ty.dflt]
           repeat' apply And.intro
           all_goals first | trivial | exact g11_1 | exact And.intro trivial g11_1
          refine sw_condF rfl (sw_skip (rg hP 12 [] rfl ?_ ?_))
          ·simp [conj, maxL]
           try dsimp only [Ty.den, Ty.dflt]
           try simp only [rd_eta]
           repeat' apply And.intro
           all_goals first | rfl | assumption | omega
          refine rd hP 13 rfl (⟨(j + 1, mset PK m (blksOf l)[i].2.2[j] (blksOf l)[i]), ?_, ?_, ent_ok rfl ?_⟩)
          ·exact ⟨hlj, hnx⟩
          ·show (blksOf l)[i].2.2.length - (j + 1) < (blksOf l)[i].2.2.length - j
           omega
          ·simp [conj, gE hlt, gE hlj]
        ·obtain rfl : j = (blksOf l)[i].2.2.length := by simp at c8; omega
         refine sw_exit (rd hP 9 rfl (⟨(i + 1, m), ?_, ?_, ent_ok rfl ?_⟩))
         ·exact ⟨hlt, own_out hgo⟩
         ·show (blksOf l).length - (i + 1) < (blksOf l).length - i
          omega
         ·simp [conj]
      ·obtain rfl : i = (blksOf l).length := by simp at c5; omega
       refine sw_exit (sw_seq (rd hP 6 rfl (sw_ret ⟨.inl rfl, _, rfl, ?_⟩)))
       have hv := own_end hgo0
       simp [conj, rootV, g1_3, hin, c1, hv]
end Go.Sx

namespace Go.Sx
open Go Go.RowKit
theorem weighGo_app : ∀ (l : Str) (i : Nat) (c : UInt8), weighGo (l ++ [c]) i = weighGo l i + (c.toNat : Int) * (65536 + ((i + l.length : Nat) : Int) + 1) := by
 intro l
 induction l with
 | nil => intro i c; simp [weighGo]
 | cons a l ih =>
  intro i c
  simp only [List.cons_append, weighGo, ih, List.length_cons]
  rw [show i + 1 + l.length = i + (l.length + 1) by omega]
  omega
theorem weiS_weigh (l : Str) (hl : l.length ≤ 1000000) : ∀ k, k ≤ l.length → Proofs.weiS (Proofs.weiUp (mkS l) k) = weighGo (l.take k) 0 := by
 intro k
 induction k with
 | zero => intro _; rfl
 | succ k ih =>
  intro hk
  have hlt : k < l.length := hk
  rw [Proofs.weiUp, Proofs.volUp_succ, Proofs.weiS_add, List.take_succ_eq_append_getElem hlt, weighGo_app, ← ih (by omega)]
  have e1 : (Proofs.weiF (mkS l) k).val = (k, l[k]) := by
   show (min k 999999, (mkS l).data[k]?.getD 0) = _
   have : (mkS l).data[k]? = some l[k] := by simp [mkS, hlt]
   rw [this]
   simp
   omega
  rw [e1, List.length_take]
  simp only
  rw [show ((0 + min k l.length : Nat) : Int) = (k : Int) by omega]
  rw [Proofs.weiUp]
  congr 1
def cWeigh : Ctr := ⟨57, [.val false .str pF], fun x => List.length x.1 ≤ 1000000, fun x => (sInt .i64 (weighV x.1), [])⟩
theorem weighV_bd {s : Str} (h : s.length ≤ 1000000) : 0 ≤ weighV s ∧ weighV s ≤ (s.length : Int) * 300000000 := by
 have h1 := weiS_weigh s h s.length (Nat.le_refl _)
 rw [List.take_length] at h1
 have h2 := Proofs.weiS_bd _ (Proofs.weiUp (mkS s) s.length) rfl
 rw [h1] at h2
 rw [show (Proofs.weiUp (mkS s) s.length).length = s.length from Proofs.volUp_length _ _] at h2
 exact h2
theorem cWeigh_ok : CtrOk Proofs.Tryz.prog cWeigh := by
 refine ctr_of_below (fn := Proofs.Tryz.f57) Proofs.Tryz.func57 rfl rfl rfl ?_
 rintro G w args ⟨(s : Str), ⟨⟩⟩ _ _ ⟨v, vs, rfl, ⟨_, cs, rfl, _, ⟨rfl, hl⟩⟩, rfl⟩ hpre
 replace hpre : s.length ≤ 1000000 := hpre
 have h := Proofs.wei_in Fence.wide 3 trivial trivial trivial rfl (Nat.le_refl _) (mkS s) (by exact hpre) w
 refine (callsIn_wide.1 h).mono ?_
 rintro e w' ⟨rfl, hB⟩
 refine ⟨_, rfl, hB, fun G' => ?_, rfl⟩
 rw [show (mkS s).size = s.length from rfl, weiS_weigh s hpre _ (Nat.le_refl _), List.take_length]
 have := weighV_bd hpre
 show MtS G' w' (sInt .i64 (weighV s)) (.int .i64 (weighV s))
 exact .ofInt (by rw [inR_i64]; omega)
theorem grown_below (w : World) (k : Nat) (os : Array Obj) : Below w.heap.size w (Sort.grow (w.drewN k) os) :=
 ⟨rfl, rfl, rfl, by show w.heap.size ≤ (w.heap ++ os).size; rw [Array.size_append]; omega, fun j hj => by
  show (w.heap ++ os)[j]? = w.heap[j]?
  exact Array.getElem?_append_left hj⟩
def cItoa : Ctr := ⟨55, [.val false TI pF], fun _ => True, fun x => (sStr (itoaV x.1), [])⟩
theorem cItoa_ok : CtrOk Proofs.Tryz.prog cItoa := by
 refine ctr_of_below (fn := Proofs.Tryz.f55) Proofs.Tryz.func55 rfl rfl rfl ?_
 rintro G w args ⟨(n : Int), ⟨⟩⟩ _ ham ⟨v, vs, rfl, ⟨_, cs, rfl, _, ⟨rfl, hn⟩⟩, rfl⟩ _
 rw [inR_i64] at hn
 have htab : Lib.TabIs Proofs.Tryz.prog w "internal/strconv.uint64pow10" .u64 Lib.pow10Tab := by
  unfold Lib.TabIs World.var?
  cases hg : Proofs.Tryz.prog.globalNamed "internal/strconv.uint64pow10" with
  | none =>
   have h0 : (Proofs.Tryz.prog.globalNamed "internal/strconv.uint64pow10").isSome = true := by kernel_rfl
   rw [hg] at h0
   cases h0
  | some b =>
   obtain ⟨_, C, t, fz, h2, h3⟩ := ham.1 _ _ (List.mem_cons_self ..) b hg
   simp only [Option.bind_some, h2, Option.some.injEq]
   apply Array.ext'
   rw [h3]
   rfl
 refine (Proofs.Tryz.strconv_Itoa n hn.1 hn.2 w htab).mono ?_
 rintro e w' ⟨rfl, k, os, rfl⟩
 refine ⟨_, rfl, grown_below w k os, fun G' => ?_, rfl⟩
 refine .of1 rfl ⟨rfl, rfl, ?_⟩
 have := Lib.itoa_length_le n hn.1 hn.2
 show (Lib.itoa n).length ≤ maxL
 unfold maxL; omega
def cJoin : Ctr := ⟨80, [.val false (.sl .str) (.all .b), .val false .str pF], fun x => List.length (Lib.join x.1 x.2.1) ≤ 1000000, fun x => (sStr (Lib.join x.1 x.2.1), [])⟩
theorem join_mk (l : List Str) (s : Str) : (⟨(Lib.join ((l.map mkS).map (·.data.toList)) (mkS s).data.toList).toArray⟩ : ByteArray) = mkS (Lib.join l s) := by
 have h : (l.map mkS).map (·.data.toList) = l := by
  rw [List.map_map]
  exact (List.map_congr_left (fun x _ => rfl)).trans (List.map_id l)
 rw [h]
 rfl
theorem cJoin_ok : CtrOk Proofs.Tryz.prog cJoin := by
 refine ctr_of_below (fn := Proofs.Tryz.f80) Proofs.Tryz.func80 rfl rfl rfl ?_
 rintro G w args ⟨(l : List Str), (s : Str), ⟨⟩⟩ hbnd ham ⟨v, vs, rfl, ⟨_, cs, rfl, _, ⟨A, n, c, rfl, hn, hc, hm, _, hblk⟩⟩, v2, vs2, rfl, ⟨_, cs2, rfl, _, ⟨rfl, hl2⟩⟩, rfl⟩ hpre
 replace hpre : (Lib.join l s).length ≤ 1000000 := hpre
 replace hn : n = l.length := hn
 subst hn
 have fin : ∀ G' w', MtS G' w' (sStr (Lib.join l s)) (.string (mkS (Lib.join l s))) := fun G' w' => .of1 rfl ⟨rfl, rfl, by show (Lib.join l s).length ≤ maxL; unfold maxL; omega⟩
 rcases hblk with ⟨_, hz⟩ | ⟨b, off, C, t, fz, rfl, hlab, hh, hs, _, hj⟩
 ·have h0 : l = [] := List.eq_nil_of_length_eq_zero (by omega)
  subst h0
  refine (Proofs.Tryz.strings_Join_none A c (mkS s) w).mono ?_
  rintro e w' ⟨rfl, rfl⟩
  exact ⟨_, rfl, Below.refl _ _, fun G' => fin G' _, rfl⟩
 ·have hb : b < w.heap.size := hbnd b (by rcases hlab with h | h <;> (rw [h]; simp))
  have := Proofs.Tryz.strings_Join b off c (l.map mkS) (mkS s) w (fun j x hx => by
   rw [List.getElem?_map, Option.map_eq_some_iff] at hx
   obtain ⟨y, hy, rfl⟩ := hx
   have h1 := (hj j y hy).1
   have h2 : (cellsAt C (off + j * 1) 1)[0]? = some (.string (mkS y)) := by
    rw [show (Ty.str).size = 1 from rfl] at h1
    rw [h1]; rfl
   have h3 := cellsAt_get h2
   rw [cell_of_heap hh (o := off) j]
   rw [show off + j * 1 + 0 = off + j by omega] at h3
   exact h3) hb (by rw [List.length_map]; exact hm) (by rw [List.length_map]; exact hc) (by
   have h := congrArg (fun b : ByteArray => b.data.toList.length) (join_mk l s)
   simp only [mkS] at h
   refine Nat.le_trans (Nat.le_of_eq ?_) (Nat.le_trans hpre (by omega))
   simpa [mkS] using h)
  rw [List.length_map] at this
  refine this.mono ?_
  rintro e w' ⟨rfl, hB⟩
  exact ⟨_, rfl, hB, fun G' => by rw [join_mk]; exact fin G' _, rfl⟩
end Go.Sx

namespace Go.Sx
open Go
set_option maxRecDepth 100000
set_option linter.unusedVariables false
set_option linter.unusedSimpArgs false
set_option maxHeartbeats 2000000
def cOpen : Ctr := ⟨10, [.val false TB pF], fun _ => True, fun x => (.v false [.ptr ⟨1, 0, 0⟩ 0], [(⟨1, 0, 0⟩, rdA (List.take 2000 x.1, 0))])⟩
theorem cOpen_ok : CtrOk Proofs.Tryz.prog cOpen := by
 have hP := (Prg.none ttok mtok)
 refine ctr_of_body hP cOpen (fn := Proofs.Tryz.f10) (rts := [.tmp 2]) Proofs.Tryz.func10 rfl (by kernel_rfl) rfl rfl ?_
 rintro ⟨(code : List Int), ⟨⟩⟩ hd hpre
 try dsimp only [Ty.den, Mode.den, mdens] at hpre
 refine ⟨rfl, ?_⟩
 refine sw_seq (rd hP 1 rfl (sw_seq (sw_seq (rd hP 2 rfl (sw_cond rfl (fun c1 => ?_) (fun c1 => ?_))))))
 ·refine rd hP 3 rfl (sw_seq (rd hP 4 rfl (sw_ret ⟨.inl rfl, _, rfl, ?_⟩)))
  simp [conj] at *
  try (rw [List.take_of_length_le (by omega)])
 ·refine sw_skip (sw_seq (rd hP 3 rfl (sw_ret ⟨.inl rfl, _, rfl, ?_⟩)))
  simp [conj] at *
  try (rw [List.take_of_length_le (by omega)])
def cPick : Ctr := ⟨14, [.ref T_l6Rd pF, .val false TI pF], fun x => ROk x.1 1, fun x => (sInt .i64 (pk x.1 x.2.1), [(⟨0, 0, 0⟩, rdA (nx x.1))])⟩
theorem cPick_ok : CtrOk Proofs.Tryz.prog cPick := by
 have hP := (Prg.none ttok mtok)
 refine ctr_of_body hP cPick (fn := Proofs.Tryz.f14) (rts := [.tmp 4]) Proofs.Tryz.func14 rfl (by kernel_rfl) rfl rfl ?_
 rintro ⟨⟨(b : List Int), (p : Int)⟩, (n : Int), ⟨⟩⟩ hd hpre
 try dsimp only [Ty.den, Mode.den, mdens] at hpre
 refine ⟨rfl, ?_⟩
 have h0 : 0 ≤ p := hpre.p0
 have h1 : p + 1 ≤ 1099511627776 := hpre.p1
 have hl : b.length ≤ 2000 := hpre.len
 have hb : BOk b := hpre.b
 refine sw_seq (rd hP 1 rfl (sw_seq (rd hP 2 rfl (sw_seq (sw_seq ?_)))))
 refine sw_dec hP 3 [] 2 rfl (fun g2_2 => ?_) (fun g2_2 => ?_)
 ·refine rD hP 3 [(2, true)] rfl (sw_condT rfl (sw_seq (rd hP 4 rfl (sw_ret ⟨.inl rfl, _, rfl, ?_⟩))))
  simp [conj, maxL] at *
  try dsimp only [Ty.den, Ty.dflt] at *
  try simp only [rd_eta] at *
  simp [pk, pickV, nx, pickX]
  first | omega | (intros; omega) | (intro _ hh; exact absurd c2 hh) | (rw [if_neg (by omega)]; first | (rw [if_neg c2, if_pos c5]; done) | (rw [if_neg c2, if_neg (by omega)]; done) | (intros; simp_all; done))
 ·refine rD hP 3 [(2, false)] rfl (sw_cond rfl (fun c2 => ?_) (fun c2 => ?_))
  ·refine sw_seq (rd hP 4 rfl (sw_ret ⟨.inl rfl, _, rfl, ?_⟩))
   simp [conj, maxL] at *
   try dsimp only [Ty.den, Ty.dflt] at *
   try simp only [rd_eta] at *
   simp [pk, pickV, nx, pickX]
   first | omega | (intros; omega) | (intro _ hh; exact absurd c2 hh) | (rw [if_neg (by omega)]; first | (rw [if_neg c2, if_pos c5]; done) | (rw [if_neg c2, if_neg (by omega)]; done) | (intros; simp_all; done))
  ·refine sw_skip (sw_seq (rd hP 4 rfl (sw_seq (sw_seq (rd hP 5 rfl (sw_cond rfl (fun c5 => ?_) (fun c5 => ?_)))))))
   ·refine sw_seq (rg hP 6 [] rfl ?_ ?_)
    ·simp [conj] at *
     dsimp only [Ty.den, Ty.dflt] at *
     have := getD_b' hb p.toNat
     omega
    refine sw_ret ⟨.inl rfl, _, rfl, ?_⟩
    simp [conj, maxL] at *
    try dsimp only [Ty.den, Ty.dflt] at *
    try simp only [rd_eta] at *
    simp [pk, pickV, nx, pickX]
    first | omega | (intros; omega) | (intro _ hh; exact absurd c2 hh) | (rw [if_neg (by omega)]; first | (rw [if_neg c2, if_pos c5]; done) | (rw [if_neg c2, if_neg (by omega)]; done) | (intros; simp_all; done))
   ·refine sw_skip (sw_seq (rg hP 6 [] rfl ?_ ?_))
    ·simp [conj] at *
     dsimp only [Ty.den, Ty.dflt] at *
     have hlp : 0 < b.length := List.length_pos_iff.2 c2
     have a1 := getD_b' hb (Int.tmod p b.length).toNat
     have a2 := getD_b' hb (Int.tmod (p * 7 + 3) b.length).toNat
     have a3 := tmod_ix (a := p) (n := b.length) h0 (by omega)
     have a4 := tmod_ix (a := p * 7 + 3) (n := b.length) (by omega) (by omega)
     have a5 : 0 ≤ Int.tdiv p b.length ∧ Int.tdiv p b.length ≤ p := ⟨Int.tdiv_nonneg h0 (by omega), Int.tdiv_le_self _ h0⟩
     repeat' apply And.intro
     all_goals first | assumption | omega
    refine sw_seq (rg hP 7 [] rfl ?_ ?_)
    ·have a5 := pickX_bd hpre (by omega)
     simp only [pickX, List.getD_eq_getElem?_getD] at a5
     have a6 : 0 ≤ (pickX b p).tdiv 64 ∧ (pickX b p).tdiv 64 ≤ pickX b p := ⟨Int.tdiv_nonneg a5.1 (by omega), Int.tdiv_le_self _ a5.1⟩
     simp only [pickX, List.getD_eq_getElem?_getD] at a6
     simp [conj] at *
     dsimp only [Ty.den, Ty.dflt] at *
     omega
    refine sw_seq (rd hP 8 rfl (sw_ret ⟨.inl rfl, _, rfl, ?_⟩))
    simp [conj, maxL] at *
    try dsimp only [Ty.den, Ty.dflt] at *
    try simp only [rd_eta] at *
    simp [pk, pickV, nx, pickX]
    first | omega | (intros; omega) | (intro _ hh; exact absurd c2 hh) | (rw [if_neg (by omega)]; first | (rw [if_neg c2, if_pos c5]; done) | (rw [if_neg c2, if_neg (by omega)]; done) | (intros; simp_all; done))
def cOf : Ctr := ⟨15, [.ref T_l6Rd pF, .val false (.sl .str) (.all .b)], fun x => ROk x.1 1 ∧ 0 < List.length x.2.1, fun x => (sStr (List.getD x.2.1 (pk x.1 (List.length x.2.1 : Int)).toNat []), [(⟨0, 0, 0⟩, rdA (nx x.1))])⟩
theorem cOf_ok : CtrOk Proofs.Tryz.prog cOf := by
 have hP := ((Prg.none ttok mtok).and cPick_ok)
 refine ctr_of_body hP cOf (fn := Proofs.Tryz.f15) (rts := [.tmp 4]) Proofs.Tryz.func15 rfl (by kernel_rfl) rfl rfl ?_
 rintro ⟨⟨(b : List Int), (p : Int)⟩, (l : List Str), ⟨⟩⟩ hd ⟨hr, hl⟩
 try dsimp only [Ty.den, Mode.den, mdens] at hr
 try dsimp only [Ty.den, Mode.den, mdens] at hl
 refine ⟨rfl, ?_⟩
 refine sw_seq (rd hP 1 rfl (sw_seq (rg hP 2 [] rfl ?_ ?_)))
 ·have := pk_bd hr (by omega) (n := List.length l) (by omega)
  simp [conj] at *
  exact ⟨hr, this⟩
 refine sw_ret ⟨.inl rfl, _, rfl, ?_⟩
 first | trivial | (simp [conj]; done) | (simp [conj] at *; (try dsimp only [Ty.den, Ty.dflt] at *); omega)
def cText : Ctr := ⟨60, [.ref T_l6Rd pF, .val false TI pF], fun x => ROk x.1 (2 * x.2.1 + 3) ∧ 0 ≤ x.2.1 ∧ x.2.1 ≤ 1000, fun x => (sStr (textV x.1 x.2.1), [(⟨0, 0, 0⟩, rdA (textR x.1 x.2.1))])⟩
theorem cText_ok : CtrOk Proofs.Tryz.prog cText := by
 have hP := ((Prg.none ttok mtok).and cPick_ok)
 refine ctr_of_body hP cText (fn := Proofs.Tryz.f60) (rts := [.tmp 4]) Proofs.Tryz.func60 rfl (by kernel_rfl) rfl rfl ?_
 rintro ⟨(r : Rd), (most : Int), ⟨⟩⟩ hd ⟨hr, h0, h1⟩
 try dsimp only [Ty.den, Mode.den, mdens] at hr
 try dsimp only [Ty.den, Mode.den, mdens] at h0
 try dsimp only [Ty.den, Mode.den, mdens] at h1
 refine ⟨rfl, ?_⟩
 have hn := pk_bd hr (by omega) (n := most + 1) (by omega)
 refine sw_seq (rd hP 1 rfl (sw_seq (rd hP 2 rfl (sw_seq (sw_seq (rg hP 3 [] rfl ?_ ?_))))))
 ·simp [conj]
  exact ⟨by omega, hr.le (by omega)⟩
 refine sw_block (sw_loop (ι := Nat × Rd × List Int) (fun ⟨k, R, out⟩ => ⟨[.v false [.ptr ⟨0, 0, 0⟩ 0], .j, .j, .j, .j, .v false [.own ⟨0, 9, 0⟩], sInt .i64 (k : Int), .j, .j, .j, .j, .j, .j, .j, .j, .j, .j, .j, .j, .j, .j, .j, .j, .j, .j, .j, .j, .j, .j, .j], [(⟨0, 0, 0⟩, rdA R), (⟨0, 9, 0⟩, .sl (.int .u8) pF out)], 3, [[.v false [.ptr ⟨0, 0, 0⟩ 0], .j]]⟩) (fun ⟨k, R, out⟩ => k) (fun ⟨k, R, out⟩ => ROk R (2 * k + 1) ∧ textGo k R out = textGo (pk r (most + 1)).toNat (nx r) [] ∧ out.length + k ≤ 1001) ((pk r (most + 1)).toNat, nx r, []) ⟨?_, ?_⟩ ?_)
 ·refine ⟨hr.nx (by omega), rfl, ?_⟩
  simp; omega
 ·refine ent_ok rfl ?_
  simp [conj, maxL]
  try dsimp only [Ty.den, Ty.dflt]
  try simp only [rd_eta]
  omega
 ·rintro ⟨k, R, out⟩ ⟨hR, hgo, hlen⟩
  refine sw_seq (sw_seq (rd hP 4 rfl (sw_cond rfl (fun c3 => ?_) (fun c3 => ?_))))
  ·obtain ⟨k, rfl⟩ : ∃ m, k = m + 1 := ⟨k - 1, by simp at c3; omega⟩
   refine sw_skip (sw_seq (sw_block (rg hP 5 [] rfl ?_ ?_)))
   ·have ha := pk_bd hR (by omega) (n := 6) (by omega)
    have hR1 : ROk (nx R) (2 * k + 2) := hR.nx (by omega)
    have hb := pk_bd hR1 (by omega) (n := 3) (by omega)
    have hb2 : pk (nx R) 3 ≤ 255 := by omega
    simp [conj, maxL]
    try dsimp only [Ty.den, Ty.dflt]
    try simp only [rd_eta]
    repeat' apply And.intro
    all_goals first | assumption | omega | exact hR.le (by omega) | exact hR1.le (by omega) | exact hb.1 | exact hb2 | exact ha.1 | exact ha.2
   refine rd hP 6 rfl (⟨(k, nx (nx R), out ++ [(([97, 98, 122, 0, 255, 128] : List Int).getD (pk R 6).toNat 0 + pk (nx R) 3) % 256]), ?_, ?_, ent_ok rfl ?_⟩)
   ·exact ⟨(hR.nx (m' := 2 * k + 2) (by omega)).nx (by omega), hgo, by simp; omega⟩
   ·exact Nat.lt_succ_self k
   ·simp [conj, maxL]
    try dsimp only [Ty.den, Ty.dflt]
    try simp only [rd_eta]
    try rfl
  ·refine sw_exit (sw_seq (rd hP 5 rfl (sw_ret ⟨.inl rfl, _, rfl, ?_⟩)))
   obtain rfl : k = 0 := by simp at c3; omega
   simp only [textGo] at hgo
   simp [conj, textV, textR, ← hgo]
def cDisksD : Ctr := ⟨11, [.ref T_l6Rd pF], fun x => ROk x.1 1, fun x => (sInt .i64 (3 + pk x.1 2), [(⟨0, 0, 0⟩, rdA (nx x.1))])⟩
theorem cDisksD_ok : CtrOk Proofs.Tryz.prog cDisksD := by
 have hP := ((Prg.none ttok mtok).and cPick_ok)
 refine ctr_of_body hP cDisksD (fn := Proofs.Tryz.f11) (rts := [.tmp 2]) Proofs.Tryz.func11 rfl (by kernel_rfl) rfl rfl ?_
 rintro ⟨(R : Rd), ⟨⟩⟩ _ hpre
 try dsimp only [Ty.den, Mode.den, mdens] at hpre
 refine ⟨rfl, ?_⟩
 replace hpre : ROk R 1 := hpre
 have hb := pk_bd hpre (by omega) (n := 2) (by omega)
 refine sw_seq (rd hP 1 rfl (sw_seq (rg hP 2 [] rfl ?_ ?_)))
 ·simp only [cj, cl]
  try dsimp only [Ty.den, Ty.dflt]
  repeat' apply And.intro
  all_goals first | omega | exact hpre | (show _ ≤ 3 + pk R 2; omega) | (show 3 + pk R 2 ≤ _; omega) | trivial
 refine sw_ret ⟨.inl rfl, _, rfl, ?_⟩
 simp [conj]
def cSumOf : Ctr := ⟨84, [.val false .str pF], fun x => True, fun x => (sInt .i64 (weighV (List.take 9 x.1)), [])⟩
theorem cSumOf_ok : CtrOk Proofs.Tryz.prog cSumOf := by
 have hP := (Prg.none ttok mtok)
 refine ctr_of_body hP cSumOf (fn := Proofs.Tryz.f84) (rts := [.tmp 2]) Proofs.Tryz.func84 rfl (by kernel_rfl) rfl rfl ?_
 rintro ⟨(s : Str), ⟨⟩⟩ ⟨hds, _⟩ _
 try dsimp only [Ty.den, Mode.den, mdens] at _
 refine ⟨rfl, ?_⟩
 have hml : s.length ≤ 140737488355328 := hds
 have hc9 : (s.take 9).length ≤ 9 := List.length_take_le _ _
 refine sw_seq (rd hP 1 rfl (sw_seq (rd hP 2 rfl (sw_seq (sw_seq (rd hP 3 rfl (sw_block (sw_loop (ι := Nat × Int) (fun ⟨i, n⟩ => ⟨[sStr s, .j, .j, sInt .i64 n, sInt .i64 (i : Int), .j, .j, .j, .j, .j, .j, .j, .j, .j, .j, .j, .j, .j, .j, .j, .j, .j, .j, .j, .j, .j], [], 3, []⟩) (fun ⟨i, n⟩ => 9 - i) (fun ⟨i, n⟩ => i ≤ (s.take 9).length ∧ n + weighGo ((s.take 9).drop i) i = weighV (s.take 9) ∧ 0 ≤ n ∧ n ≤ (i : Int) * 300000000) (0, 0) ⟨?_, ?_⟩ ?_))))))))
 ·exact ⟨Nat.zero_le _, by simp [weighV], by decide, by decide⟩
 ·refine ent_ok rfl ?_
  simp [conj]
 ·rintro ⟨i, n⟩ ⟨hi, hgo, hn0, hn1⟩
  refine sw_seq (sw_seq ?_)
  refine sw_dec hP 4 [] 4 rfl (fun g3_4 => ?_) (fun g3_4 => ?_)
  ·have k4 : i < s.length := by simpa using g3_4
   refine rg hP 4 [(4, true)] rfl ?_ ?_
   ·simp only [cj, cl]
    try dsimp only [Ty.den, Ty.dflt]
    repeat' apply And.intro
    all_goals first | exact g3_4 | omega | trivial
   refine sw_cond rfl (fun c3 => ?_) (fun c3 => ?_)
   ·have h9 : i < 9 := by have h := c3; simp at h; omega
    have hlt : i < s.length := k4
    have hlt9 : i < (s.take 9).length := by rw [List.length_take]; omega
    have hg9 : (s.take 9)[i] = s[i] := by simp
    have hone := weigh_one (c := s[i]) (i := i) (by omega)
    have hnx := weigh_next hlt9 hgo
    rw [hg9] at hnx
    refine sw_skip (sw_seq (sw_block (rg hP 5 [] rfl ?_ ?_)))
    ·simp [conj, gE hlt]
     have hu : s[i].toNat < 256 := s[i].toNat_lt
     repeat' apply And.intro
     all_goals omega
    refine rd hP 6 rfl (⟨(i + 1, n + (s[i].toNat : Int) * (65536 + (i : Int) + 1)), ?_, ?_, ent_ok rfl ?_⟩)
    ·exact ⟨hlt9, hnx, by show 0 ≤ n + (s[i].toNat : Int) * (65536 + (i : Int) + 1); omega, by show n + (s[i].toNat : Int) * (65536 + (i : Int) + 1) ≤ ((i + 1 : Nat) : Int) * 300000000; omega⟩
    ·show 9 - (i + 1) < 9 - i
     omega
    ·simp [conj, gE hlt]
   ·have h9 : ¬ i < 9 := by have h := c3; simp at h; omega
    obtain rfl : i = (s.take 9).length := by rw [List.length_take] at hi ⊢; omega
    have hv := weigh_end hgo
    refine sw_exit (sw_seq (rd hP 5 rfl (sw_ret ⟨.inl rfl, _, rfl, ?_⟩)))
    simp [conj, hv]
  ·have k4 : ¬ i < s.length := by simpa using g3_4
   obtain rfl : i = (s.take 9).length := by rw [List.length_take] at hi ⊢; omega
   have hv := weigh_end hgo
   refine rg hP 4 [(4, false)] rfl ?_ ?_
   ·simp only [cj, cl]
    try dsimp only [Ty.den, Ty.dflt]
    repeat' apply And.intro
    all_goals first | exact g3_4 | omega | trivial
   refine sw_condF rfl (sw_exit (sw_seq (rd hP 5 rfl (sw_ret ⟨.inl rfl, _, rfl, ?_⟩))))
   simp [conj, hv]
def cPlaces : Ctr := ⟨62, [.ref T_l6Rd pF, .val false TI pF, .val false TI pF], fun x => ROk x.1 6 ∧ (3 ≤ x.2.1 ∧ x.2.1 ≤ 4) ∧ 0 ≤ x.2.2.1 ∧ x.2.2.1 ≤ 4, fun x => (.v false [.own ⟨1, 0, 0⟩], [(⟨0, 0, 0⟩, rdA (plcD x.1 x.2.1 x.2.2.1).2), (⟨1, 0, 0⟩, .sl T_Place pF (plcD x.1 x.2.1 x.2.2.1).1)])⟩
theorem cPlaces_ok : CtrOk Proofs.Tryz.prog cPlaces := by
 have hP := ((Prg.none ttok mtok).and cPick_ok)
 refine ctr_of_body hP cPlaces (fn := Proofs.Tryz.f62) (rts := [.tmp 6]) Proofs.Tryz.func62 rfl (by kernel_rfl) rfl rfl ?_
 rintro ⟨(R : Rd), (d : Int), (c : Int), ⟨⟩⟩ _ ⟨hr, hd3, hc0, hc1⟩
 try dsimp only [Ty.den, Mode.den, mdens] at hr
 try dsimp only [Ty.den, Mode.den, mdens] at hd3
 try dsimp only [Ty.den, Mode.den, mdens] at hc0
 try dsimp only [Ty.den, Mode.den, mdens] at hc1
 refine ⟨rfl, ?_⟩
 replace hr : ROk R 6 := hr
 replace hd3 : 3 ≤ d ∧ d ≤ 4 := hd3
 have hb := pk_bd hr (by omega) (n := d) (by omega)
 refine sw_seq (rd hP 1 rfl (sw_seq (rd hP 2 rfl (sw_seq (rg hP 3 [] rfl ?_ ?_)))))
 ·simp only [cj, cl]
  try dsimp only [Ty.den, Ty.dflt]
  repeat' apply And.intro
  all_goals first | omega | exact hr.le (by omega) | trivial
 refine sw_seq (sw_seq (rd hP 4 rfl (sw_block (sw_loop (ι := Nat × Rd × List Plc) (fun ⟨i, Q, out⟩ => ⟨[.v false [.ptr ⟨0, 0, 0⟩ 0], sInt .i64 d, sInt .i64 c, .j, .j, .j, .j, .v false [.own ⟨0, 9, 0⟩], sInt .i64 (pk R d), sInt .i64 (i : Int), .j, .j, .j, .j, .j, .j, .j, .j, .j, .j, .j, .j, .j, .j, .j, .j, .j, .j, .j, .j, .j], [(⟨0, 0, 0⟩, rdA Q), (⟨0, 9, 0⟩, .sl T_Place pF out)], 4, [[.v false [.ptr ⟨0, 0, 0⟩ 0], .j, .j]]⟩) (fun ⟨i, Q, out⟩ => c.toNat - i) (fun ⟨i, Q, out⟩ => i ≤ c.toNat ∧ ROk Q (5 - (i : Int)) ∧ plcGo d (pk R d) (c.toNat - i) i Q out = (plcD R d c) ∧ out.length ≤ i) (0, nx R, []) ⟨?_, ?_⟩ ?_))))
 ·exact ⟨Nat.zero_le _, hr.nx (by omega), rfl, Nat.le_refl _⟩
 ·refine ent_ok rfl ?_
  simp [conj]
 ·rintro ⟨i, Q, out⟩ ⟨hi, hQ, hgo, hol⟩
  refine sw_seq (sw_seq (rd hP 5 rfl (sw_cond rfl (fun c4 => ?_) (fun c4 => ?_))))
  ·have hlt : i < c.toNat := by have h : ((i : Nat) : Int) < c := of_decide_eq_true c4; omega
   obtain ⟨n, hn⟩ : ∃ n, c.toNat - i = n + 1 := ⟨c.toNat - i - 1, by omega⟩
   have hb2 := pk_bd hQ (by omega) (n := 12) (by omega)
   rw [hn] at hgo
   have ht := tmod_ix (a := pk R d + (i : Int)) (n := d) (by omega) (by omega)
   have hn2 : c.toNat - (i + 1) = n := by omega
   refine sw_skip (sw_seq (sw_block (rg hP 6 [] rfl ?_ ?_)))
   ·simp only [cj, cl]
    try dsimp only [Ty.den, Ty.dflt]
    simp only [maxL]
    repeat' apply And.intro
    all_goals first | omega | exact hQ.le (by omega) | trivial | (show (out.length + 1) * 16 ≤ 140737488355328; omega)
   refine rd hP 7 rfl (⟨(i + 1, nx Q, out ++ [((pk R d + (i : Int)).tmod d, pk Q 12)]), ?_, ?_, ent_ok rfl ?_⟩)
   ·exact ⟨hlt, hQ.nx (by push_cast; omega), by show plcGo d (pk R d) (c.toNat - (i + 1)) _ _ _ = _; rw [hn2]; exact hgo, by simp; omega⟩
   ·show c.toNat - (i + 1) < c.toNat - i
    omega
   ·simp [conj]
  ·obtain rfl : i = c.toNat := by have h : ¬ ((i : Nat) : Int) < c := of_decide_eq_false c4; omega
   rw [Nat.sub_self] at hgo
   have hv1 : out = (plcD R d c).1 := by rw [← hgo]; rfl
   have hv2 : Q = (plcD R d c).2 := by rw [← hgo]; rfl
   refine sw_exit (sw_seq (rd hP 6 rfl (sw_ret ⟨.inl rfl, _, rfl, ?_⟩)))
   rw [← hv1, ← hv2]
   simp [conj]
def cL11 : Ctr := ⟨61, [.val false .str pF, .val false (.sl T_Place) (.all .b)], fun x => List.length x.2.1 ≤ 1000000, fun x => (.v true [.d TI pF (List.length x.1 : Int), .d TI pF (weighV (List.take 9 x.1)), .own ⟨1, 0, 0⟩], [(⟨1, 0, 0⟩, .sl T_Place pF x.2.1)])⟩
theorem cL11_ok : CtrOk Proofs.Tryz.prog cL11 := by
 have hP := ((Prg.none ttok mtok).and cSumOf_ok)
 refine ctr_of_body hP cL11 (fn := Proofs.Tryz.f61) (rts := [.cell 4 50]) Proofs.Tryz.func61 rfl (by kernel_rfl) rfl rfl ?_
 rintro ⟨(s : Str), (l : List Plc), ⟨⟩⟩ _ hpre
 try dsimp only [Ty.den, Mode.den, mdens] at hpre
 refine ⟨rfl, ?_⟩
 replace hpre : l.length ≤ 1000000 := hpre
 refine sw_seq (rd hP 1 rfl (sw_seq (rg hP 2 [] rfl ?_ ?_)))
 ·simp [conj, maxL]
  repeat' apply And.intro
  all_goals first | omega | trivial
 refine sw_ret ⟨.inl rfl, _, rfl, ?_⟩
 simp [conj]
end Go.Sx

namespace Go.Sx
open Go
set_option maxRecDepth 100000
set_option linter.unusedVariables false
set_option linter.unusedSimpArgs false
set_option maxHeartbeats 2000000
def cPtrO : Ctr := ⟨34, [.ref T_l6Rd pF, .val false TI pF], fun x => ROk x.1 30 ∧ 3 ≤ x.2.1 ∧ x.2.1 ≤ 4, fun x => (.v true [.d TI pF (ptrD x.1 x.2.1).1.1, .d TI pF (ptrD x.1 x.2.1).1.2.1, .own ⟨1, 0, 0⟩], [(⟨0, 0, 0⟩, rdA (ptrD x.1 x.2.1).2), (⟨1, 0, 0⟩, .sl T_Place pF (ptrD x.1 x.2.1).1.2.2)])⟩
theorem cPtrO_ok : CtrOk Proofs.Tryz.prog cPtrO := by
 have hP := (((((Prg.none ttok mtok).and cText_ok).and cColsS_ok).and cPlaces_ok).and cL11_ok)
 refine ctr_of_body hP cPtrO (fn := Proofs.Tryz.f34) (rts := [.cell 4 50]) Proofs.Tryz.func34 rfl (by kernel_rfl) rfl rfl ?_
 rintro ⟨(R : Rd), (d : Int), ⟨⟩⟩ _ ⟨hr, hd3⟩
 try dsimp only [Ty.den, Mode.den, mdens] at hr
 try dsimp only [Ty.den, Mode.den, mdens] at hd3
 refine ⟨rfl, ?_⟩
 replace hr : ROk R 30 := hr
 replace hd3 : 3 ≤ d ∧ d ≤ 4 := hd3
 have hmm := sMin_bd d hd3
 have hl := ptrT_len hr hd3
 have hcl := colsV_le (n := ((ptrT R d).length : Int)) (by omega) (by omega)
 have htl : (textV R (3 * sMin 3 (d - 1) - 1)).length ≤ 8 := by have h := textV_len hr (by decide) (most := (3 * sMin 3 (d - 1) - 1)) (by omega); omega
 have hT : ROk (textR R (3 * sMin 3 (d - 1) - 1)) 6 := textR_ok hr (by decide) (by omega) (by omega)
 have hpl := ptrD_len hr hd3
 refine sw_seq (rd hP 1 rfl (sw_seq (rg hP 2 [] rfl ?_ ?_)))
 ·simp only [cj, cl]
  try dsimp only [Ty.den, Ty.dflt]
  simp only [maxL, bytesL]
  repeat' apply And.intro
  all_goals first | omega | (show ROk R (2 * (3 * sMin 3 (d - 1) - 1) + 3); exact hr.le (by omega)) | (show _ ≤ (3 * sMin 3 (d - 1) - 1); omega) | (show (3 * sMin 3 (d - 1) - 1) ≤ _; omega) | (show _ ≤ 3 * sMin 3 (d - 1); omega) | (show 3 * sMin 3 (d - 1) ≤ _; omega) | (show (textV R (3 * sMin 3 (d - 1) - 1)).length + 1 ≤ 140737488355328; omega) | trivial
 refine sw_seq (rg hP 3 [] rfl ?_ ?_)
 ·simp only [cj, cl]
  try dsimp only [Ty.den, Ty.dflt]
  repeat' apply And.intro
  all_goals first | omega | exact hT | exact hd3.1 | exact hd3.2 | (show 0 ≤ ((ptrT R d).length : Int); omega) | (show ((ptrT R d).length : Int) ≤ 1000000; omega) | (show _ ≤ colsV ((ptrT R d).length : Int) + 1; omega) | (show colsV ((ptrT R d).length : Int) + 1 ≤ _; omega) | (show List.length (ptrD R d).1.2.2 ≤ 1000000; omega) | trivial
 refine sw_ret ⟨.inl rfl, _, rfl, ?_⟩
 simp [conj, ptrD, ptrT, bytesL]
def cPtrP : Ctr := ⟨34, [.ref T_l6Rd pF, .val false TI pF], fun x => ROk x.1 30 ∧ 3 ≤ x.2.1 ∧ x.2.1 ≤ 4, fun x => (.v true [.d TI pF (ptrD x.1 x.2.1).1.1, .d TI pF (ptrD x.1 x.2.1).1.2.1, .d (.sl T_Place) pF (ptrD x.1 x.2.1).1.2.2], [(⟨0, 0, 0⟩, rdA (ptrD x.1 x.2.1).2)])⟩
theorem cPtrP_ok : CtrOk Proofs.Tryz.prog cPtrP := by
 have hP := (((((Prg.none ttok mtok).and cText_ok).and cColsS_ok).and cPlaces_ok).and cL11_ok)
 refine ctr_of_body hP cPtrP (fn := Proofs.Tryz.f34) (rts := [.cell 4 50]) Proofs.Tryz.func34 rfl (by kernel_rfl) rfl rfl ?_
 rintro ⟨(R : Rd), (d : Int), ⟨⟩⟩ _ ⟨hr, hd3⟩
 try dsimp only [Ty.den, Mode.den, mdens] at hr
 try dsimp only [Ty.den, Mode.den, mdens] at hd3
 refine ⟨rfl, ?_⟩
 replace hr : ROk R 30 := hr
 replace hd3 : 3 ≤ d ∧ d ≤ 4 := hd3
 have hmm := sMin_bd d hd3
 have hl := ptrT_len hr hd3
 have hcl := colsV_le (n := ((ptrT R d).length : Int)) (by omega) (by omega)
 have htl : (textV R (3 * sMin 3 (d - 1) - 1)).length ≤ 8 := by have h := textV_len hr (by decide) (most := (3 * sMin 3 (d - 1) - 1)) (by omega); omega
 have hT : ROk (textR R (3 * sMin 3 (d - 1) - 1)) 6 := textR_ok hr (by decide) (by omega) (by omega)
 have hpl := ptrD_len hr hd3
 refine sw_seq (rd hP 1 rfl (sw_seq (rg hP 2 [] rfl ?_ ?_)))
 ·simp only [cj, cl]
  try dsimp only [Ty.den, Ty.dflt]
  simp only [maxL, bytesL]
  repeat' apply And.intro
  all_goals first | omega | (show ROk R (2 * (3 * sMin 3 (d - 1) - 1) + 3); exact hr.le (by omega)) | (show _ ≤ (3 * sMin 3 (d - 1) - 1); omega) | (show (3 * sMin 3 (d - 1) - 1) ≤ _; omega) | (show _ ≤ 3 * sMin 3 (d - 1); omega) | (show 3 * sMin 3 (d - 1) ≤ _; omega) | (show (textV R (3 * sMin 3 (d - 1) - 1)).length + 1 ≤ 140737488355328; omega) | trivial
 refine sw_seq (rg hP 3 [] rfl ?_ ?_)
 ·simp only [cj, cl]
  try dsimp only [Ty.den, Ty.dflt]
  repeat' apply And.intro
  all_goals first | omega | exact hT | exact hd3.1 | exact hd3.2 | (show 0 ≤ ((ptrT R d).length : Int); omega) | (show ((ptrT R d).length : Int) ≤ 1000000; omega) | (show _ ≤ colsV ((ptrT R d).length : Int) + 1; omega) | (show colsV ((ptrT R d).length : Int) + 1 ≤ _; omega) | (show List.length (ptrD R d).1.2.2 ≤ 1000000; omega) | trivial
 refine sw_frz ⟨3, 8, 0⟩ rfl ?_
 refine sw_ret ⟨.inl rfl, _, rfl, ?_⟩
 simp [conj, ptrD, ptrT, bytesL]
def cSome : Ctr := ⟨38, [.ref T_l6Rd pF, .val false TI pF], fun x => ROk x.1 40 ∧ 3 ≤ x.2.1 ∧ x.2.1 ≤ 4, fun x => (.v true [.d TI pF (someD x.1 x.2.1).1.1, .d TI pF (someD x.1 x.2.1).1.2.1, .d (.sl T_Place) pF (someD x.1 x.2.1).1.2.2], [(⟨0, 0, 0⟩, rdA (someD x.1 x.2.1).2)])⟩
theorem cSome_ok : CtrOk Proofs.Tryz.prog cSome := by
 have hP := (((Prg.none ttok mtok).and cPick_ok).and cPtrO_ok)
 refine ctr_of_body hP cSome (fn := Proofs.Tryz.f38) (rts := [.cell 4 50]) Proofs.Tryz.func38 rfl (by kernel_rfl) rfl rfl ?_
 rintro ⟨(R : Rd), (d : Int), ⟨⟩⟩ _ ⟨hr, hd3⟩
 try dsimp only [Ty.den, Mode.den, mdens] at hr
 try dsimp only [Ty.den, Mode.den, mdens] at hd3
 refine ⟨rfl, ?_⟩
 replace hr : ROk R 40 := hr
 replace hd3 : 3 ≤ d ∧ d ≤ 4 := hd3
 refine sw_seq (rd hP 1 rfl (sw_seq (sw_seq (rg hP 2 [] rfl ?_ ?_))))
 ·simp only [cj, cl]
  try dsimp only [Ty.den, Ty.dflt]
  repeat' apply And.intro
  all_goals first | omega | assumption | exact hr.le (by omega) | exact hr.le (by omega) | (show ROk R _; exact hr.le (by omega)) | (simp [conj]; omega) | trivial
 refine sw_cond rfl (fun c1 => ?_) (fun c1 => ?_)
 ·replace c1 : pk R 5 = 0 := by simpa using c1
  refine sw_seq (rd hP 3 rfl (sw_ret ⟨.inl rfl, _, rfl, ?_⟩))
  simp [conj, someD, zP, *]
 ·replace c1 : ¬ pk R 5 = 0 := by simpa using c1
  refine sw_skip (sw_seq (rg hP 3 [] rfl ?_ ?_))
  ·simp only [cj, cl]
   try dsimp only [Ty.den, Ty.dflt]
   repeat' apply And.intro
   all_goals first | omega | assumption | exact hd3.1 | exact hr.le (by omega) | (show ROk R _; exact hr.le (by omega)) | (simp [conj]; omega) | trivial | exact hr.nx (by omega) | exact hd3.2
  refine sw_seq (sw_seq ?_)
  obtain ⟨q, hq⟩ : ∃ q, ptrD (nx R) d = q := ⟨_, rfl⟩
  have hqo : ROk q.2 9 := hq ▸ ptrD_ok (m := 9) (by omega) (hr.nx (by omega)) hd3
  have hql : 2 ≤ q.1.2.2.length ∧ q.1.2.2.length ≤ 4 := hq ▸ ptrD_len (hr.nx (by omega)) hd3
  have hq3 : ROk (nx q.2) 8 := hqo.nx (by omega)
  have b14 := pk_bd hq3 (by omega) (n := 14) (by omega)
  have b3 := pk_bd hq3 (by omega) (n := 3) (by omega)
  have b2 := pk_bd hq3 (by omega) (n := 2) (by omega)
  refine sw_ent (st' := ⟨[.v false [.ptr ⟨0, 0, 0⟩ 0], sInt .i64 d, .j, .j, .v false [.ptr ⟨1, 0, 0⟩ 0], .v false [.ptr ⟨3, 3, 0⟩ 0], .j, .j, .j, .j, .j, .j, .j, .j, .j, .j, .j, .j, .j, .j, .j, .j, .j, .j, .j, .j, .j, .j, .j, .j, .j, .j, .j, .j, .j, .j, .j, .j, .j, .j, .j, .j, .j, .j, .j, .j, .j, .j, .j, .j, .j, .j, .j, .j, .j, .j], [(⟨0, 0, 0⟩, rdA q.2), (⟨1, 0, 0⟩, .var [.d TI pF 0, .d TI pF 0, .d (.sl T_Place) pF []]), (⟨3, 2, 0⟩, .sl T_Place pF q.1.2.2), (⟨3, 3, 0⟩, .var [.d TI pF q.1.1, .d TI pF q.1.2.1, .own ⟨3, 2, 0⟩])], 3, [[.v false [.ptr ⟨0, 0, 0⟩ 0], .j]]⟩) (ent_ok rfl ?_) ?_
  ·simp [conj, hq]
  refine rg hP 4 [] rfl ?_ ?_
  ·simp only [cj, cl]
   try dsimp only [Ty.den, Ty.dflt]
   repeat' apply And.intro
   all_goals first | omega | assumption | exact hqo.le (by omega) | exact hr.le (by omega) | (show ROk R _; exact hr.le (by omega)) | (simp [conj]; omega) | trivial
  refine sw_block (sw_seq (rd hP 5 rfl (sw_cond rfl (fun c5 => ?_) (fun c5 => ?_))))
  ·replace c5 : pk q.2 20 = 0 := by simpa using c5
   refine rg hP 6 [] rfl ?_ ?_
   ·simp only [cj, cl]
    try dsimp only [Ty.den, Ty.dflt]
    repeat' apply And.intro
    all_goals first | omega | assumption | exact hq3.le (by omega) | exact hr.le (by omega) | (show ROk R _; exact hr.le (by omega)) | (simp [conj]; omega) | trivial | (show _ ≤ pk (nx q.2) 14 - 1; omega) | (show pk (nx q.2) 14 - 1 ≤ _; omega)
   refine sw_seq (rd hP 7 rfl ?_)
   refine sw_frz ⟨3, 2, 0⟩ rfl ?_
   refine sw_ret ⟨.inl rfl, _, rfl, ?_⟩
   simp [conj, someD, zP, hq, aS, aT, *]
   try rfl
  ·replace c5 : ¬ pk q.2 20 = 0 := by simpa using c5
   refine sw_seq (rd hP 6 rfl (sw_cond rfl (fun c7 => ?_) (fun c7 => ?_)))
   ·replace c7 : pk q.2 20 = 1 := by simpa using c7
    refine rg hP 7 [] rfl ?_ ?_
    ·simp only [cj, cl]
     try dsimp only [Ty.den, Ty.dflt]
     repeat' apply And.intro
     all_goals first | omega | assumption | exact hq3.le (by omega) | exact hr.le (by omega) | (show ROk R _; exact hr.le (by omega)) | (simp [conj]; omega) | trivial | (show 0 ≤ pk (nx q.2) 3; omega) | (show pk (nx q.2) 3 < 3; omega) | (show (pk (nx q.2) 3).toNat < 3; omega)
    refine sw_seq (rd hP 8 rfl ?_)
    refine sw_frz ⟨3, 2, 0⟩ rfl ?_
    refine sw_ret ⟨.inl rfl, _, rfl, ?_⟩
    simp [conj, someD, zP, hq, aS, aT, *]
    try rfl
   ·replace c7 : ¬ pk q.2 20 = 1 := by simpa using c7
    refine sw_seq (rd hP 7 rfl (sw_cond rfl (fun c9 => ?_) (fun c9 => ?_)))
    ·replace c9 : pk q.2 20 = 2 := by simpa using c9
     refine rg hP 8 [] rfl ?_ ?_
     ·simp only [cj, cl]
      try dsimp only [Ty.den, Ty.dflt]
      repeat' apply And.intro
      all_goals first | omega | assumption | exact hq3.le (by omega) | exact hr.le (by omega) | (show ROk R _; exact hr.le (by omega)) | (simp [conj]; omega) | trivial | (show 0 ≤ pk (nx q.2) 2; omega) | (show pk (nx q.2) 2 < 2; omega) | (show (pk (nx q.2) 2).toNat < 2; omega)
     refine sw_seq (rd hP 9 rfl ?_)
     refine sw_frz ⟨3, 2, 0⟩ rfl ?_
     refine sw_ret ⟨.inl rfl, _, rfl, ?_⟩
     simp [conj, someD, zP, hq, aS, aT, *]
     try rfl
    ·replace c9 : ¬ pk q.2 20 = 2 := by simpa using c9
     refine sw_seq (rd hP 8 rfl (sw_cond rfl (fun c11 => ?_) (fun c11 => ?_)))
     ·replace c11 : pk q.2 20 = 3 := by simpa using c11
      refine rg hP 9 [] rfl ?_ ?_
      ·simp only [cj, cl]
       try dsimp only [Ty.den, Ty.dflt]
       repeat' apply And.intro
       all_goals first | omega | assumption | exact hq3.le (by omega) | exact hr.le (by omega) | (show ROk R _; exact hr.le (by omega)) | (simp [conj]; omega) | trivial
      refine sw_seq (rd hP 10 rfl ?_)
      refine sw_frz ⟨3, 2, 0⟩ rfl ?_
      refine sw_ret ⟨.inl rfl, _, rfl, ?_⟩
      simp [conj, someD, zP, hq, aS, aT, *]
      try rfl
     ·replace c11 : ¬ pk q.2 20 = 3 := by simpa using c11
      refine sw_seq (rd hP 9 rfl (sw_cond rfl (fun c13 => ?_) (fun c13 => ?_)))
      ·replace c13 : pk q.2 20 = 4 := by simpa using c13
       refine sw_frz ⟨3, 2, 0⟩ rfl ?_
       refine rg hP 10 [] rfl ?_ ?_
       ·simp only [cj, cl]
        try dsimp only [Ty.den, Ty.dflt]
        repeat' apply And.intro
        all_goals first | omega | assumption | exact hq3.le (by omega) | exact hr.le (by omega) | (show ROk R _; exact hr.le (by omega)) | (simp [conj]; omega) | trivial
       refine sw_seq (rd hP 11 rfl (sw_ret ⟨.inl rfl, _, rfl, ?_⟩))
       simp [conj, someD, zP, hq, aS, aT, *]
       try rfl
      ·replace c13 : ¬ pk q.2 20 = 4 := by simpa using c13
       refine sw_skip (sw_seq (rd hP 10 rfl ?_))
       refine sw_frz ⟨3, 2, 0⟩ rfl ?_
       refine sw_ret ⟨.inl rfl, _, rfl, ?_⟩
       simp [conj, someD, zP, hq, aS, aT, *]
       try rfl
end Go.Sx

namespace Go.Sx
open Go
theorem idxFGo_bd {α : Type} {p : α → Bool} : ∀ {l : List α} {i : Nat}, -1 ≤ idxFGo p l i ∧ idxFGo p l i ≤ ((i + l.length : Nat) : Int) := by
 intro l
 induction l with
 | nil => intro i; simp only [idxFGo]; omega
 | cons a l ih =>
  intro i
  simp only [idxFGo]
  have h := ih (i := i + 1)
  rw [List.length_cons]
  split
  ·omega
  ·omega
theorem hasN_idx {vs : List Vol_} {nm : Str} : hasN_ vs nm = decide (0 ≤ idxF (fun v : Vol_ => decide (v.1 = nm)) vs) := idxF_any.symm
theorem mN_next {c : Bool} {p : Ptr_} {l : List Ptr_} {i : Nat} (hlt : i < l.length) : (c && meetsNo p (l.take (i + 1))) = ((c && meetsNo p (l.take i)) && !meetV p l[i]) := by
 unfold meetsNo
 rw [List.take_succ_eq_append_getElem hlt, List.all_append]
 simp [Bool.and_assoc]
theorem mN_zero {p : Ptr_} {l : List Ptr_} : meetsNo p (l.take 0) = true := rfl
theorem mN_end {p : Ptr_} {l : List Ptr_} : meetsNo p (l.take l.length) = meetsNo p l := by rw [List.take_length]
theorem vols_small {vs : List Vol_} (h1 : vs.length ≤ 4) (h2 : ∀ v ∈ vs, v.2.length = 3) : SmallV vs := ⟨by omega, fun v hv => by have := h2 v hv; omega⟩
theorem blksOf_len {vs : List Vol_} (h1 : vs.length ≤ 4) (h2 : ∀ v ∈ vs, v.2.length = 3) : (blksOf vs).length ≤ 12 := by
 have : ∀ (vs : List Vol_), (∀ v ∈ vs, v.2.length = 3) → (blksOf vs).length = vs.length * 3 := by
  intro vs
  induction vs with
  | nil => intro _; rfl
  | cons v vs ih =>
   intro h
   have h3 := ih (fun w hw => h w (List.mem_cons_of_mem _ hw))
   have h4 := h v List.mem_cons_self
   simp only [blksOf, List.flatMap_cons, List.length_append, List.length_cons] at h3 ⊢
   omega
 have := this vs h2
 omega
end Go.Sx

namespace Go.Sx
open Go
set_option maxRecDepth 100000
set_option linter.unusedVariables false
set_option linter.unusedSimpArgs false
set_option maxHeartbeats 2000000
def cFind : Ctr := ⟨33, [.val true T_Root (.all .b), .val false .str pF], fun x => True, fun x => (sInt .i64 (idxF (fun v : Vol_ => decide (v.1 = x.2.1)) x.1.2), [])⟩
theorem cFind_ok : CtrOk Proofs.Tryz.prog cFind := by
 have hP := (Prg.none ttok mtok)
 refine ctr_of_body hP cFind (fn := Proofs.Tryz.f33) (rts := [.tmp 4]) Proofs.Tryz.func33 rfl (by kernel_rfl) rfl rfl ?_
 rintro ⟨⟨(tg : Int), (l : List Vol_)⟩, (s : Str), ⟨⟩⟩ ⟨⟨_, hdl⟩, _⟩ _
 try dsimp only [Ty.den, Mode.den, mdens] at _
 refine ⟨rfl, ?_⟩
 have hml : l.length ≤ 140737488355328 := hdl.1
 refine sw_seq (rd hP 1 rfl (sw_seq (sw_seq (rd hP 2 rfl (sw_block (sw_loop (ι := Nat) (fun i => ⟨[.j, .v false [.d .str pF s], .v false [.ptr ⟨1, 0, 0⟩ 0], .j, .j, sInt .i64 (i : Int), .j, .j, .j, .j, .j, .j, .j, .j, .j, .j, .j, .j, .j, .j, .j, .j], [(⟨1, 0, 0⟩, .var [.d TI pF tg, .d (.sl T_Vol) (.all .b) l])], 2, []⟩) (fun i => l.length - i) (fun i => i ≤ l.length ∧ idxFGo (fun v : Vol_ => decide (v.1 = s)) (l.drop i) i = idxF (fun v : Vol_ => decide (v.1 = s)) l) 0 ⟨?_, ?_⟩ ?_))))))
 ·exact ⟨Nat.zero_le _, rfl⟩
 ·refine ent_ok rfl ?_
  simp [conj]
 ·rintro i ⟨hi, hgo⟩
  refine sw_seq (sw_seq (rd hP 3 rfl (sw_cond rfl (fun c2 => ?_) (fun c2 => ?_))))
  ·have hlt : i < l.length := by simpa using c2
   refine sw_skip (sw_seq (sw_block (sw_seq (rg hP 4 [] rfl ?_ ?_))))
   ·simp [conj, gE hlt]
    repeat' apply And.intro
    all_goals first | omega | trivial
   refine sw_cond rfl (fun c4 => ?_) (fun c4 => ?_)
   ·replace c4 : (fun v : Vol_ => decide (v.1 = s)) l[i] = true := by simpa [gE hlt] using c4
    have hv := idxF_hit hlt hgo c4
    refine sw_seq (rd hP 5 rfl (sw_ret ⟨.inl rfl, _, rfl, ?_⟩))
    simp [conj, hv]
   ·replace c4 : (fun v : Vol_ => decide (v.1 = s)) l[i] = false := by simpa [gE hlt] using c4
    refine sw_skip (rd hP 5 rfl (⟨i + 1, ?_, ?_, ent_ok rfl ?_⟩))
    ·exact ⟨hlt, idxF_next hlt hgo c4⟩
    ·omega
    ·simp [conj]
  ·obtain rfl : i = l.length := by simp at c2; omega
   refine sw_exit (sw_seq (rd hP 4 rfl (sw_ret ⟨.inl rfl, _, rfl, ?_⟩)))
   have hv := idxF_end hgo
   simp [conj, hv]
def cAllP : Ctr := ⟨35, [.val true T_Root (.pr (.all .p) (.sl .b (.pr (.all .p) (.sl .b (.all .p)))))], fun x => SmallV x.1.2, fun x => (.v false [.own ⟨1, 0, 0⟩], [(⟨1, 0, 0⟩, .sl T_Ptr pF (blksOf x.1.2))])⟩
theorem cAllP_ok : CtrOk Proofs.Tryz.prog cAllP := by
 have hP := (Prg.none ttok mtok)
 refine ctr_of_body hP cAllP (fn := Proofs.Tryz.f35) (rts := [.tmp 2]) Proofs.Tryz.func35 rfl (by kernel_rfl) rfl rfl ?_
 rintro ⟨⟨(tg : Int), (l : List Vol_)⟩, ⟨⟩⟩ _ hpre
 try dsimp only [Ty.den, Mode.den, mdens] at hpre
 refine ⟨rfl, ?_⟩
 replace hpre : SmallV l := hpre
 have hml : l.length ≤ 100 := hpre.1
 refine sw_seq (rd hP 1 rfl (sw_seq (rd hP 2 rfl (sw_seq (sw_seq (rd hP 3 rfl (sw_block (sw_loop (ι := Nat) (fun i => ⟨[.j, .v false [.ptr ⟨1, 0, 0⟩ 0], .j, .v false [.own ⟨0, 9, 0⟩], sInt .i64 (i : Int), .j, .j, .j, .j, .j, .j, .j, .j, .j, .j, .j, .j, .j, .j, .j, .j, .j], [(⟨1, 0, 0⟩, .var [.d TI pF tg, .d (.sl T_Vol) (.sl .b (.pr (.all .p) (.sl .b (.all .p)))) l]), (⟨0, 9, 0⟩, .sl T_Ptr pF (blksOf (l.take i)))], 3, []⟩) (fun i => l.length - i) (fun i => i ≤ l.length) 0 ⟨?_, ?_⟩ ?_))))))))
 ·exact Nat.zero_le _
 ·refine ent_ok rfl ?_
  simp [conj, blksOf]
 ·rintro i hi
  refine sw_seq (sw_seq (rd hP 4 rfl (sw_cond rfl (fun c3 => ?_) (fun c3 => ?_))))
  ·have hlt : i < l.length := by simpa using c3
   have hb1 := blks_len hpre (i := i)
   have hb2 := hpre.2 _ (List.getElem_mem hlt)
   refine sw_skip (sw_seq (sw_block (rg hP 5 [] rfl ?_ ?_)))
   ·simp [conj, maxL, gE hlt]
    omega
   refine rd hP 6 rfl (⟨i + 1, ?_, ?_, ent_ok rfl ?_⟩)
   ·exact hlt
   ·omega
   ·simp [conj, gE hlt]
    exact flat_next hlt
  ·obtain rfl : i = l.length := by simp at c3; omega
   refine sw_exit (sw_seq (rd hP 5 rfl (sw_ret ⟨.inl rfl, _, rfl, ?_⟩)))
   simp [conj]
def cRootD : Ctr := ⟨13, [.ref T_l6Rd pF, .val false TI pF], fun x => ROk x.1 700 ∧ 3 ≤ x.2.1 ∧ x.2.1 ≤ 4, fun x => (.v true [.d TI pF (rootD x.1 x.2.1).1.1, .own ⟨1, 0, 0⟩], [(⟨0, 0, 0⟩, rdA (rootD x.1 x.2.1).2), (⟨1, 0, 0⟩, .sl T_Vol (.pr (.all .p) (.sl .w (.all .p))) (rootD x.1 x.2.1).1.2)])⟩
theorem cRootD_ok : CtrOk Proofs.Tryz.prog cRootD := by
 have hP := (((((((Prg.none ttok mtok).and cPick_ok).and cOf_ok).and cFind_ok).and cPtrP_ok).and cAllP_ok).and cMeet_ok)
 refine ctr_of_body hP cRootD (fn := Proofs.Tryz.f13) (rts := [.cell 4 27]) Proofs.Tryz.func13 rfl (by kernel_rfl) rfl rfl ?_
 rintro ⟨(R : Rd), (d : Int), ⟨⟩⟩ _ ⟨hr, hd3⟩
 try dsimp only [Ty.den, Mode.den, mdens] at hr
 try dsimp only [Ty.den, Mode.den, mdens] at hd3
 refine ⟨rfl, ?_⟩
 replace hr : ROk R 700 := hr
 replace hd3 : 3 ≤ d ∧ d ≤ 4 := hd3
 have hr1 : ROk (nx R) 699 := hr.nx (by omega)
 have hr2 : ROk (nx (nx R)) 698 := hr1.nx (by omega)
 have b5 := pk_bd hr1 (by omega) (n := 5) (by omega)
 refine sw_seq (rd hP 1 rfl (sw_seq (rg hP 2 [] rfl ?_ ?_)))
 ·simp only [cj, cl]
  try dsimp only [Ty.den, Ty.dflt]
  repeat' apply And.intro
  all_goals first | omega | assumption | exact hr.le (by omega) | trivial
 refine sw_seq (sw_seq (rg hP 3 [] rfl ?_ ?_))
 ·simp only [cj, cl]
  try dsimp only [Ty.den, Ty.dflt]
  repeat' apply And.intro
  all_goals first | omega | assumption | exact hr1.le (by omega) | trivial
 refine sw_block (sw_loop (ι := Nat × List Vol_ × Rd) (fun ⟨m, vs, Q⟩ => ⟨[.v false [.ptr ⟨0, 0, 0⟩ 0], sInt .i64 d, .j, .j, .v false [.ptr ⟨1, 0, 0⟩ 0], .v false [.ptr ⟨2, 4, 0⟩ 0], sInt .i64 (m : Int), .j, .j, .j, .j, .j, .j, .j, .j, .j, .j, .j, .j, .j, .j, .j, .j, .j, .j, .j, .j, .j, .j, .j, .j, .j, .j, .j, .j, .j, .j, .j, .j, .j, .j, .j, .j, .j, .j, .j, .j, .j, .j, .j, .j, .j, .j, .j, .j, .j, .j, .j, .j, .j, .j, .j, .j, .j, .j, .j, .j, .j, .j, .j, .j, .j, .j, .j, .j, .j, .j, .j, .j, .j, .j, .j, .j, .j, .j, .j, .j, .j, .j, .j, .j, .j, .j, .j, .j, .j, .j, .j, .j, .j, .j, .j, .j, .j, .j, .j, .j, .j, .j, .j], [(⟨0, 0, 0⟩, rdA Q), (⟨1, 0, 0⟩, .var [.d TI pF 0, .d (.sl T_Vol) pF []]), (⟨2, 4, 0⟩, .var [.d TI pF (pk R 9), .own ⟨0, 9, 0⟩]), (⟨0, 9, 0⟩, .sl T_Vol (.pr (.all .p) (.sl .w (.all .p))) vs)], 3, [[.v false [.ptr ⟨0, 0, 0⟩ 0], .j]]⟩) (fun ⟨m, vs, Q⟩ => m) (fun ⟨m, vs, Q⟩ => ROk Q (130 * m) ∧ vs.length + m ≤ 4 ∧ (∀ v ∈ vs, v.2.length = 3) ∧ volGo d m vs Q = (volGo d (pk (nx R) 5).toNat [] (nx (nx R)))) ((pk (nx R) 5).toNat, [], nx (nx R)) ⟨?_, ?_⟩ ?_)
 ·exact ⟨hr2.le (by omega), by show 0 + (pk (nx R) 5).toNat ≤ 4; omega, by simp, rfl⟩
 ·refine ent_ok rfl ?_
  simp [conj]
  show pk (nx R) 5 = max (pk (nx R) 5) 0
  omega
 ·rintro ⟨m, vs, Q⟩ ⟨hQ, hvl, hv3, hgo⟩
  refine sw_seq (sw_seq (rd hP 4 rfl (sw_cond rfl (fun c3 => ?_) (fun c3 => ?_))))
  ·obtain ⟨n, rfl⟩ : ∃ n, m = n + 1 := ⟨m - 1, by have h := c3; simp at h; omega⟩
   have hQ1 : ROk (nx Q) (130 * n + 121) := hQ.nx (by push_cast; omega)
   have hal := blksOf_len (by omega) hv3
   have hsm := vols_small (by omega) hv3
   simp only [volGo] at hgo
   have h6 := pk_bd hQ (by omega) (n := 6) (by omega)
   refine sw_skip (sw_seq (sw_block (sw_seq (rg hP 5 [] rfl ?_ ?_))))
   ·simp only [cj, cl]
    try dsimp only [Ty.den, Ty.dflt]
    repeat' apply And.intro
    all_goals first | omega | assumption | exact hQ.le (by push_cast; omega) | trivial | (show 0 < 6; decide)
   refine sw_seq (sw_seq ?_)
   refine sw_ent (st' := ⟨[.v false [.ptr ⟨0, 0, 0⟩ 0], sInt .i64 d, .j, .j, .v false [.ptr ⟨1, 0, 0⟩ 0], .v false [.ptr ⟨2, 4, 0⟩ 0], sInt .i64 (((n + 1 : Nat)) : Int), .v false [.ptr ⟨5, 5, 0⟩ 0], .j, .j, .j, .j, .j, .j, .j, .j, .j, .j, .j, .j, .j, .j, .j, .j, .j, .j, .j, .j, .j, .j, .j, .j, .j, .j, .j, .j, .j, .j, .j, .j, .j, .j, .j, .j, .j, .j, .j, .j, .j, .j, .j, .j, .j, .j, .j, .j, .j, .j, .j, .j, .j, .j, .j, .j, .j, .j, .j, .j, .j, .j, .j, .j, .j, .j, .j, .j, .j, .j, .j, .j, .j, .j, .j, .j, .j, .j, .j, .j, .j, .j, .j, .j, .j, .j, .j, .j, .j, .j, .j, .j, .j, .j, .j, .j, .j, .j, .j, .j, .j, .j], [(⟨0, 0, 0⟩, rdA (nx Q)), (⟨1, 0, 0⟩, .var [.d TI pF 0, .d (.sl T_Vol) pF []]), (⟨2, 4, 0⟩, .var [.d TI pF (pk R 9), .own ⟨0, 9, 0⟩]), (⟨0, 9, 0⟩, .sl T_Vol (.pr (.all .p) (.sl .w (.all .p))) vs), (⟨5, 5, 0⟩, .var [.d .str pF (nmD Q), .own ⟨5, 3, 0⟩]), (⟨5, 3, 0⟩, .sl T_Ptr pF [zP, zP, zP])], 5, [[.v false [.ptr ⟨0, 0, 0⟩ 0], .j]]⟩) (ent_ok rfl ?_) ?_
   ·simp [conj, nmD, nms, bytesL, zP]
   refine rd hP 6 rfl (sw_cond rfl (fun c6 => ?_) (fun c6 => ?_))
   ·have hn : hasN_ vs (nmD Q) = true := by rw [hasN_idx]; exact c6
    rw [if_pos hn] at hgo
    refine sw_exit (rd hP 7 rfl (⟨(n, vs, nx Q), ?_, ?_, ent_ok rfl ?_⟩))
    ·exact ⟨hQ.nx (by push_cast; omega), by show vs.length + n ≤ 4; omega, hv3, hgo⟩
    ·show n < n + 1
     omega
    ·simp [conj]
   ·have hn : ¬ hasN_ vs (nmD Q) = true := by
      have h6c : decide (0 ≤ idxF (fun v : Vol_ => decide (v.1 = nmD Q)) vs) = false := c6
      rw [hasN_idx, h6c]; decide
    rw [if_neg hn] at hgo
    refine sw_skip (sw_seq (sw_seq (rd hP 7 rfl (sw_block (sw_loop (ι := Nat × List Ptr_ × Rd) (fun ⟨k, bl, P⟩ => ⟨[.v false [.ptr ⟨0, 0, 0⟩ 0], sInt .i64 d, .j, .j, .v false [.ptr ⟨1, 0, 0⟩ 0], .v false [.ptr ⟨2, 4, 0⟩ 0], sInt .i64 (((n + 1 : Nat)) : Int), .v false [.ptr ⟨5, 5, 0⟩ 0], sInt .i64 (k : Int), .j, .j, .j, .j, .j, .j, .j, .j, .j, .j, .j, .j, .j, .j, .j, .j, .j, .j, .j, .j, .j, .j, .j, .j, .j, .j, .j, .j, .j, .j, .j, .j, .j, .j, .j, .j, .j, .j, .j, .j, .j, .j, .j, .j, .j, .j, .j, .j, .j, .j, .j, .j, .j, .j, .j, .j, .j, .j, .j, .j, .j, .j, .j, .j, .j, .j, .j, .j, .j, .j, .j, .j, .j, .j, .j, .j, .j, .j, .j, .j, .j, .j, .j, .j, .j, .j, .j, .j, .j, .j, .j, .j, .j, .j, .j, .j, .j, .j, .j, .j, .j], [(⟨0, 0, 0⟩, rdA P), (⟨1, 0, 0⟩, .var [.d TI pF 0, .d (.sl T_Vol) pF []]), (⟨2, 4, 0⟩, .var [.d TI pF (pk R 9), .own ⟨0, 9, 0⟩]), (⟨0, 9, 0⟩, .sl T_Vol (.pr (.all .p) (.sl .w (.all .p))) vs), (⟨5, 5, 0⟩, .var [.d .str pF (nmD Q), .own ⟨5, 3, 0⟩]), (⟨5, 3, 0⟩, .sl T_Ptr pF bl)], 7, [[.v false [.ptr ⟨0, 0, 0⟩ 0], .j]]⟩) (fun ⟨k, bl, P⟩ => 3 - k) (fun ⟨k, bl, P⟩ => k ≤ 3 ∧ bl.length = 3 ∧ ROk P (130 * n + 40 * (3 - k : Nat)) ∧ blkGo d (blksOf vs) (3 - k) k bl P = (blkGo d (blksOf vs) 3 0 [zP, zP, zP] (nx Q))) (0, [zP, zP, zP], nx Q) ⟨?_, ?_⟩ ?_)))))
    ·exact ⟨Nat.zero_le _, rfl, hQ1.le (by omega), rfl⟩
    ·refine ent_ok rfl ?_
     simp [conj]
    ·rintro ⟨k, bl, P⟩ ⟨hk, hbl, hRP, hgk⟩
     refine sw_seq (sw_seq (rd hP 8 rfl (sw_cond rfl (fun c8 => ?_) (fun c8 => ?_))))
     ·have hk3 : k < 3 := by have h := c8; simp at h; omega
      obtain ⟨j, hj⟩ : ∃ j, 3 - k = j + 1 := ⟨2 - k, by omega⟩
      have hj2 : 3 - (k + 1) = j := by omega
      rw [hj] at hgk hRP
      simp only [blkGo] at hgk
      refine sw_skip (sw_seq (sw_block (sw_seq (rg hP 9 [] rfl ?_ ?_))))
      ·simp only [cj, cl]
       try dsimp only [Ty.den, Ty.dflt]
       repeat' apply And.intro
       all_goals first | omega | assumption | exact hRP.le (by push_cast; omega) | trivial | exact hd3.1 | exact hd3.2
      refine sw_seq ?_
      obtain ⟨q, hq⟩ : ∃ q, ptrD P d = q := ⟨_, rfl⟩
      have hqo : ROk q.2 (130 * n + 40 * j + 10) := hq ▸ ptrD_ok (by omega) (hRP.le (by push_cast; omega)) hd3
      have hqo2 : ROk (ptrD P d).2 1 := by rw [hq]; exact hqo.le (by omega)
      have hqx : ROk (nx q.2) (130 * n + 40 * j + 9) := hqo.nx (by omega)
      have hbs := blkStep_ok (m := 130 * n + 40 * j) (all := blksOf vs) (bl := bl) (k := k) (R := P) (by omega) (hRP.le (by push_cast; omega)) hd3
      refine rg hP 10 [] rfl ?_ ?_
      ·simp only [cj, cl]
       try dsimp only [Ty.den, Ty.dflt]
       repeat' apply And.intro
       all_goals first | omega | assumption | exact hqo2 | trivial
      refine sw_seq (rg hP 11 [] rfl ?_ ?_)
      ·simp only [cj, cl]
       try dsimp only [Ty.den, Ty.dflt]
       repeat' apply And.intro
       all_goals first | omega | assumption | exact hsm.1 | trivial | exact hsm.2
      refine sw_seq (sw_seq (rd hP 12 rfl (sw_block (sw_loop (ι := Nat) (fun i => ⟨[.v false [.ptr ⟨0, 0, 0⟩ 0], sInt .i64 d, .j, .j, .v false [.ptr ⟨1, 0, 0⟩ 0], .v false [.ptr ⟨2, 4, 0⟩ 0], sInt .i64 (((n + 1 : Nat)) : Int), .v false [.ptr ⟨5, 5, 0⟩ 0], sInt .i64 (k : Int), .v false [.ptr ⟨9, 3, 0⟩ 0], sBool (decide (0 < pk q.2 3) && meetsNo q.1 ((blksOf vs).take i)), .v false [.own ⟨11, 1, 0⟩], sInt .i64 (i : Int), .j, .j, .j, .j, .j, .j, .j, .j, .j, .j, .j, .j, .j, .j, .j, .j, .j, .j, .j, .j, .j, .j, .j, .j, .j, .j, .j, .j, .j, .j, .j, .j, .j, .j, .j, .j, .j, .j, .j, .j, .j, .j, .j, .j, .j, .j, .j, .j, .j, .j, .j, .j, .j, .j, .j, .j, .j, .j, .j, .j, .j, .j, .j, .j, .j, .j, .j, .j, .j, .j, .j, .j, .j, .j, .j, .j, .j, .j, .j, .j, .j, .j, .j, .j, .j, .j, .j, .j, .j, .j, .j, .j, .j, .j, .j, .j, .j], [(⟨0, 0, 0⟩, rdA (nx q.2)), (⟨1, 0, 0⟩, .var [.d TI pF 0, .d (.sl T_Vol) pF []]), (⟨2, 4, 0⟩, .var [.d TI pF (pk R 9), .own ⟨0, 9, 0⟩]), (⟨0, 9, 0⟩, .sl T_Vol (.pr (.all .p) (.sl .w (.all .p))) vs), (⟨5, 5, 0⟩, .var [.d .str pF (nmD Q), .own ⟨5, 3, 0⟩]), (⟨5, 3, 0⟩, .sl T_Ptr pF bl), (⟨9, 3, 0⟩, .var [.d TI pF q.1.1, .d TI pF q.1.2.1, .d (.sl T_Place) pF q.1.2.2]), (⟨11, 1, 0⟩, .sl T_Ptr pF (blksOf vs))], 12, [[.v false [.ptr ⟨0, 0, 0⟩ 0], .j]]⟩) (fun i => (blksOf vs).length - i) (fun i => i ≤ (blksOf vs).length) 0 ⟨?_, ?_⟩ ?_))))
      ·exact Nat.zero_le _
      ·refine ent_ok rfl ?_
       simp [conj, hq, meetsNo]
      ·rintro i hi
       refine sw_seq (sw_seq (rd hP 13 rfl (sw_cond rfl (fun c14 => ?_) (fun c14 => ?_))))
       ·have hlt : i < (blksOf vs).length := by simpa using c14
        refine sw_skip (sw_seq (sw_block ?_))
        refine sw_dec hP 14 [] 1 rfl (fun g16_1 => ?_) (fun g16_1 => ?_)
        ·replace g16_1 : (decide (0 < pk q.2 3) && meetsNo q.1 ((blksOf vs).take i)) = true := g16_1
         refine rg hP 14 [(1, true)] rfl ?_ ?_
         ·have g := g16_1
          simp at g
          simp [conj, gE hlt]
          repeat' apply And.intro
          all_goals first | omega | trivial | exact g | exact g.1 | exact g.2
         refine rd hP 15 rfl (⟨i + 1, ?_, ?_, ent_ok rfl ?_⟩)
         ·exact hlt
         ·omega
         ·rw [mN_next hlt]
          simp [conj, g16_1, gE hlt]
        ·replace g16_1 : (decide (0 < pk q.2 3) && meetsNo q.1 ((blksOf vs).take i)) = false := g16_1
         refine rg hP 14 [(1, false)] rfl ?_ ?_
         ·have g := g16_1
          simp at g
          simp [conj, gE hlt]
          repeat' apply And.intro
          all_goals first | omega | trivial | exact g | exact g.1 | exact g.2
         refine rd hP 15 rfl (⟨i + 1, ?_, ?_, ent_ok rfl ?_⟩)
         ·exact hlt
         ·omega
         ·rw [mN_next hlt]
          simp [conj, g16_1]
       ·obtain rfl : i = (blksOf vs).length := by simp at c14; omega
        refine sw_exit (sw_seq (sw_seq (rd hP 14 rfl (sw_block (sw_loop (ι := Nat) (fun i => ⟨[.v false [.ptr ⟨0, 0, 0⟩ 0], sInt .i64 d, .j, .j, .v false [.ptr ⟨1, 0, 0⟩ 0], .v false [.ptr ⟨2, 4, 0⟩ 0], sInt .i64 (((n + 1 : Nat)) : Int), .v false [.ptr ⟨5, 5, 0⟩ 0], sInt .i64 (k : Int), .v false [.ptr ⟨9, 3, 0⟩ 0], sBool ((decide (0 < pk q.2 3) && meetsNo q.1 (blksOf vs)) && meetsNo q.1 (bl.take i)), .v false [.own ⟨11, 1, 0⟩], .j, sInt .i64 (i : Int), .j, .j, .j, .j, .j, .j, .j, .j, .j, .j, .j, .j, .j, .j, .j, .j, .j, .j, .j, .j, .j, .j, .j, .j, .j, .j, .j, .j, .j, .j, .j, .j, .j, .j, .j, .j, .j, .j, .j, .j, .j, .j, .j, .j, .j, .j, .j, .j, .j, .j, .j, .j, .j, .j, .j, .j, .j, .j, .j, .j, .j, .j, .j, .j, .j, .j, .j, .j, .j, .j, .j, .j, .j, .j, .j, .j, .j, .j, .j, .j, .j, .j, .j, .j, .j, .j, .j, .j, .j, .j, .j, .j, .j, .j, .j, .j], [(⟨0, 0, 0⟩, rdA (nx q.2)), (⟨1, 0, 0⟩, .var [.d TI pF 0, .d (.sl T_Vol) pF []]), (⟨2, 4, 0⟩, .var [.d TI pF (pk R 9), .own ⟨0, 9, 0⟩]), (⟨0, 9, 0⟩, .sl T_Vol (.pr (.all .p) (.sl .w (.all .p))) vs), (⟨5, 5, 0⟩, .var [.d .str pF (nmD Q), .own ⟨5, 3, 0⟩]), (⟨5, 3, 0⟩, .sl T_Ptr pF bl), (⟨9, 3, 0⟩, .var [.d TI pF q.1.1, .d TI pF q.1.2.1, .d (.sl T_Place) pF q.1.2.2]), (⟨11, 1, 0⟩, .sl T_Ptr pF (blksOf vs))], 14, [[.v false [.ptr ⟨0, 0, 0⟩ 0], .j]]⟩) (fun i => k - i) (fun i => i ≤ k) 0 ⟨?_, ?_⟩ ?_)))))
        ·exact Nat.zero_le _
        ·refine ent_ok rfl ?_
         simp [conj, meetsNo]
        ·rintro i hi
         refine sw_seq (sw_seq (rd hP 15 rfl (sw_cond rfl (fun c18 => ?_) (fun c18 => ?_))))
         ·have hik : i < k := by simpa using c18
          have hlt : i < bl.length := by omega
          refine sw_skip (sw_seq (sw_block ?_))
          refine sw_dec hP 16 [] 1 rfl (fun g20_1 => ?_) (fun g20_1 => ?_)
          ·replace g20_1 : ((decide (0 < pk q.2 3) && meetsNo q.1 (blksOf vs)) && meetsNo q.1 (bl.take i)) = true := g20_1
           refine rg hP 16 [(1, true)] rfl ?_ ?_
           ·have g := g20_1
            simp at g
            simp [conj, gE hlt]
            repeat' apply And.intro
            all_goals first | omega | trivial | exact g | exact g.2 | exact g.1 | exact g.1.1 | exact g.1.2
           refine rd hP 17 rfl (⟨i + 1, ?_, ?_, ent_ok rfl ?_⟩)
           ·exact hik
           ·omega
           ·rw [mN_next hlt]
            simp [conj, g20_1, gE hlt]
          ·replace g20_1 : ((decide (0 < pk q.2 3) && meetsNo q.1 (blksOf vs)) && meetsNo q.1 (bl.take i)) = false := g20_1
           refine rg hP 16 [(1, false)] rfl ?_ ?_
           ·have g := g20_1
            simp at g
            simp [conj, gE hlt]
            repeat' apply And.intro
            all_goals first | omega | trivial | exact g | exact g.2 | exact g.1 | exact g.1.1 | exact g.1.2
           refine rd hP 17 rfl (⟨i + 1, ?_, ?_, ent_ok rfl ?_⟩)
           ·exact hik
           ·omega
           ·rw [mN_next hlt]
            simp [conj, g20_1]
         ·obtain rfl : k = i := by simp at c18; omega
          refine sw_exit (sw_seq (rd hP 16 rfl (sw_cond rfl (fun c21 => ?_) (fun c21 => ?_))))
          ·have hc : clrB P d (blksOf vs) k bl = true := by unfold clrB; rw [hq]; exact c21
           refine rg hP 17 [] rfl ?_ ?_
           ·simp only [cj, cl]
            try dsimp only [Ty.den, Ty.dflt]
            repeat' apply And.intro
            all_goals first | omega | trivial
           refine rd hP 18 rfl (⟨(k + 1, bl.set k q.1, nx q.2), ?_, ?_, ent_ok rfl ?_⟩)
           ·have hst : blkStep d (blksOf vs) k bl P = (bl.set k q.1, nx q.2) := by
              unfold blkStep
              simp only [hq]
              rw [if_pos hc]
            rw [hst] at hbs hgk
            exact ⟨hk3, hbs.2.trans hbl, hbs.1.le (by omega), by show blkGo d _ (3 - (k + 1)) _ _ _ = _; rw [hj2]; exact hgk⟩
           ·show 3 - (k + 1) < 3 - k
            omega
           ·simp [conj]
          ·have hc : ¬ clrB P d (blksOf vs) k bl = true := by unfold clrB; rw [hq]; intro h; rw [h] at c21; cases c21
           refine sw_seq ?_
           refine sw_dec hP 17 [] 3 rfl (fun g23_3 => ?_) (fun g23_3 => ?_)
           ·have hln : 0 < (blksOf vs).length := by simpa using g23_3
            have hqy : ROk (nx (nx q.2)) (130 * n + 40 * j + 8) := hqx.nx (by omega)
            have hby := pk_bd hqy (by omega) (n := ((blksOf vs).length : Int)) (by omega)
            refine rg hP 17 [(3, true)] rfl ?_ ?_
            ·simp only [cj, cl]
             try dsimp only [Ty.den, Ty.dflt]
             repeat' apply And.intro
             all_goals first | omega | assumption | exact hqx.le (by omega) | trivial
            refine sw_cond rfl (fun c23 => ?_) (fun c23 => ?_)
            ·have hp0 : pk (nx q.2) 2 = 0 := by simpa using c23
             refine rg hP 18 [] rfl ?_ ?_
             ·simp only [cj, cl]
              try dsimp only [Ty.den, Ty.dflt]
              repeat' apply And.intro
              all_goals first | omega | assumption | exact hqy.le (by omega) | trivial | (show 0 ≤ pk (nx (nx q.2)) ((blksOf vs).length : Int); omega) | (show pk (nx (nx q.2)) ((blksOf vs).length : Int) < _; omega) | (show (pk (nx (nx q.2)) ((blksOf vs).length : Int)).toNat < (blksOf vs).length; omega)
             refine rd hP 19 rfl (⟨(k + 1, bl.set k ((blksOf vs).getD (pk (nx (nx q.2)) (blksOf vs).length).toNat zP), nx (nx (nx q.2))), ?_, ?_, ent_ok rfl ?_⟩)
             ·have hst : blkStep d (blksOf vs) k bl P = (bl.set k ((blksOf vs).getD (pk (nx (nx q.2)) (blksOf vs).length).toNat zP), nx (nx (nx q.2))) := by
                unfold blkStep
                simp only [hq]
                rw [if_neg hc, if_pos hln, if_pos hp0]
              rw [hst] at hbs hgk
              exact ⟨hk3, hbs.2.trans hbl, hbs.1.le (by omega), by show blkGo d _ (3 - (k + 1)) _ _ _ = _; rw [hj2]; exact hgk⟩
             ·show 3 - (k + 1) < 3 - k
              omega
             ·simp [conj]
              rfl
            ·have hp0 : ¬ pk (nx q.2) 2 = 0 := by simpa using c23
             refine sw_skip (rd hP 18 rfl (⟨(k + 1, bl, nx (nx q.2)), ?_, ?_, ent_ok rfl ?_⟩))
             ·have hst : blkStep d (blksOf vs) k bl P = (bl, nx (nx q.2)) := by
                unfold blkStep
                simp only [hq]
                rw [if_neg hc, if_pos hln, if_neg hp0]
              rw [hst] at hbs hgk
              exact ⟨hk3, hbs.2.trans hbl, hbs.1.le (by omega), by show blkGo d _ (3 - (k + 1)) _ _ _ = _; rw [hj2]; exact hgk⟩
             ·show 3 - (k + 1) < 3 - k
              omega
             ·simp [conj]
           ·have hln : ¬ 0 < (blksOf vs).length := by simpa using g23_3
            refine rg hP 17 [(3, false)] rfl ?_ ?_
            ·simp only [cj, cl]
             try dsimp only [Ty.den, Ty.dflt]
             repeat' apply And.intro
             all_goals first | omega | assumption | exact hqx.le (by omega) | trivial
            refine sw_condF rfl (sw_skip (rd hP 18 rfl (⟨(k + 1, bl, nx q.2), ?_, ?_, ent_ok rfl ?_⟩)))
            ·have hst : blkStep d (blksOf vs) k bl P = (bl, nx q.2) := by
               unfold blkStep
               simp only [hq]
               rw [if_neg hc, if_neg hln]
             rw [hst] at hbs hgk
             exact ⟨hk3, hbs.2.trans hbl, hbs.1.le (by omega), by show blkGo d _ (3 - (k + 1)) _ _ _ = _; rw [hj2]; exact hgk⟩
            ·show 3 - (k + 1) < 3 - k
             omega
            ·simp [conj]
     ·obtain rfl : k = 3 := by have h := c8; simp at h; omega
      replace hgk : (bl, P) = (blkGo d (blksOf vs) 3 0 [zP, zP, zP] (nx Q)) := hgk
      rw [← hgk] at hgo
      refine sw_exit (rg hP 9 [] rfl ?_ ?_)
      ·simp only [cj, cl]
       try dsimp only [Ty.den, Ty.dflt]
       simp only [maxL]
       repeat' apply And.intro
       all_goals first | omega | (show _ ≤ (9223372036854775807 : Int); simp; omega) | (simp; omega) | trivial
      refine rd hP 10 rfl (⟨(n, vs ++ [(nmD Q, bl)], P), ?_, ?_, ent_ok rfl ?_⟩)
      ·exact ⟨hRP.le (by omega), by simp; omega, fun v hv => by
           rcases List.mem_append.1 hv with hv | hv
           · exact hv3 v hv
           · rw [List.mem_singleton.1 hv]; exact hbl, hgo⟩
      ·show n < n + 1
       omega
      ·simp [conj]
  ·obtain rfl : m = 0 := by have h := c3; simp at h; omega
   replace hgo : (vs, Q) = (volGo d (pk (nx R) 5).toNat [] (nx (nx R))) := hgo
   refine sw_exit (sw_seq (rd hP 5 rfl (sw_ret ⟨.inl rfl, _, rfl, ?_⟩)))
   have e1 := congrArg Prod.fst hgo
   have e2 := congrArg Prod.snd hgo
   simp only at e1 e2
   simp [conj, rootD, ← e1, ← e2]
end Go.Sx

namespace Go.Sx
open Go
set_option maxRecDepth 100000
set_option linter.unusedVariables false
set_option linter.unusedSimpArgs false
set_option maxHeartbeats 2000000
def cOff : Ctr := ⟨17, [.ref T_l6Rd pF, .val false TI pF], fun x => ROk x.1 800 ∧ 3 ≤ x.2.1 ∧ x.2.1 ≤ 4, fun x => (.v true [.d TI pF (offD x.1 x.2.1).1.1, .d (.sl T_Vol) pF (offD x.1 x.2.1).1.2], [(⟨0, 0, 0⟩, rdA (offD x.1 x.2.1).2)])⟩
theorem cOff_ok : CtrOk Proofs.Tryz.prog cOff := by
 have hP := ((((Prg.none ttok mtok).and cPick_ok).and cRootD_ok).and cSome_ok)
 refine ctr_of_body hP cOff (fn := Proofs.Tryz.f17) (rts := [.cell 4 27]) Proofs.Tryz.func17 rfl (by kernel_rfl) rfl rfl ?_
 rintro ⟨(R : Rd), (d : Int), ⟨⟩⟩ _ ⟨hr, hd3⟩
 try dsimp only [Ty.den, Mode.den, mdens] at hr
 try dsimp only [Ty.den, Mode.den, mdens] at hd3
 refine ⟨rfl, ?_⟩
 replace hr : ROk R 800 := hr
 replace hd3 : 3 ≤ d ∧ d ≤ 4 := hd3
 refine sw_seq (rd hP 1 rfl (sw_seq (rg hP 2 [] rfl ?_ ?_)))
 ·simp only [cj, cl]
  try dsimp only [Ty.den, Ty.dflt]
  repeat' apply And.intro
  all_goals first | omega | assumption | exact hr.le (by omega) | trivial | exact hd3.1 | exact hd3.2
 refine sw_seq (sw_seq ?_)
 obtain ⟨q, hq⟩ : ∃ q, rootD R d = q := ⟨_, rfl⟩
 obtain ⟨hqo, hq4, hq3⟩ : ROk q.2 200 ∧ q.1.2.length ≤ 4 ∧ ∀ v ∈ q.1.2, v.2.length = 3 := hq ▸ rootD_ok (m := 200) (by omega) (hr.le (by omega)) hd3
 have hq1 : ROk (nx q.2) 199 := hqo.nx (by omega)
 have hq2 : ROk (nx (nx q.2)) 198 := hq1.nx (by omega)
 have b3 := pk_bd hq2 (by omega) (n := 3) (by omega)
 refine sw_ent (st' := ⟨[.v false [.ptr ⟨0, 0, 0⟩ 0], sInt .i64 d, .j, .j, .v false [.ptr ⟨1, 0, 0⟩ 0], .v false [.ptr ⟨2, 3, 0⟩ 0], .j, .j, .j, .j, .j, .j, .j, .j, .j, .j, .j, .j, .j, .j, .j, .j, .j, .j, .j, .j, .j, .j, .j, .j, .j, .j, .j, .j, .j, .j, .j, .j, .j, .j, .j, .j, .j, .j, .j, .j, .j, .j, .j, .j, .j, .j, .j, .j, .j, .j, .j, .j, .j, .j, .j, .j, .j, .j, .j, .j, .j, .j, .j, .j, .j, .j, .j, .j, .j, .j, .j, .j, .j, .j, .j, .j, .j, .j, .j, .j, .j, .j, .j, .j, .j, .j, .j, .j, .j, .j, .j], [(⟨0, 0, 0⟩, rdA (q.2)), (⟨1, 0, 0⟩, .var [.d TI pF 0, .d (.sl T_Vol) pF []]), (⟨2, 3, 0⟩, .var [.d TI pF q.1.1, .own ⟨2, 2, 0⟩]), (⟨2, 2, 0⟩, .sl T_Vol (.pr (.all .p) (.sl .w (.all .p))) q.1.2)], 2, [[.v false [.ptr ⟨0, 0, 0⟩ 0], .j]]⟩) (ent_ok rfl ?_) ?_
 ·simp [conj, hq]
 refine rg hP 3 [] rfl ?_ ?_
 ·simp only [cj, cl]
  try dsimp only [Ty.den, Ty.dflt]
  repeat' apply And.intro
  all_goals first | omega | assumption | exact hqo.le (by omega) | trivial
 refine sw_cond rfl (fun c2 => ?_) (fun c2 => ?_)
 ·replace c2 : 0 < pk q.2 12 := by simpa using c2
  refine sw_seq (rd hP 4 rfl ?_)
  refine sw_frz ⟨2, 2, 0⟩ rfl ?_
  refine sw_ret ⟨.inl rfl, _, rfl, ?_⟩
  have ho : offD R d = (q.1, nx q.2) := by
    unfold offD
    simp only [hq]
    rw [if_pos c2]
  simp [conj, ho, v0, aX, zP, bytesL]
  try rfl
 ·replace c2 : ¬ 0 < pk q.2 12 := by simpa using c2
  refine sw_skip (sw_seq (sw_seq (rg hP 4 [] rfl ?_ ?_)))
  ·simp only [cj, cl]
   try dsimp only [Ty.den, Ty.dflt]
   repeat' apply And.intro
   all_goals first | omega | assumption | exact hq1.le (by omega) | trivial
  refine sw_block (sw_seq (rd hP 5 rfl (sw_cond rfl (fun c7 => ?_) (fun c7 => ?_))))
  ·replace c7 : pk (nx q.2) 6 = 0 := by simpa using c7
   refine rg hP 6 [] rfl ?_ ?_
   ·simp only [cj, cl]
    try dsimp only [Ty.den, Ty.dflt]
    repeat' apply And.intro
    all_goals first | omega | assumption | exact hq2.le (by omega) | trivial | (show 0 ≤ pk (nx (nx q.2)) 3; omega) | (show pk (nx (nx q.2)) 3 < 3; omega) | (show (pk (nx (nx q.2)) 3).toNat < 3; omega)
   refine sw_seq (rd hP 7 rfl ?_)
   refine sw_frz ⟨2, 2, 0⟩ rfl ?_
   refine sw_ret ⟨.inl rfl, _, rfl, ?_⟩
   have ho : offD R d = ((aX.getD (pk (nx (nx q.2)) 3).toNat 0, q.1.2), nx (nx (nx q.2))) := by
     unfold offD
     simp only [hq]
     rw [if_neg c2, if_pos c7]
   simp [conj, ho, v0, aX, zP, bytesL]
   try rfl
  ·replace c7 : ¬ pk (nx q.2) 6 = 0 := by simpa using c7
   refine sw_seq (rd hP 6 rfl (sw_cond rfl (fun c9 => ?_) (fun c9 => ?_)))
   ·replace c9 : pk (nx q.2) 6 = 1 := by simpa using c9
    refine rg hP 7 [] rfl ?_ ?_
    ·simp only [cj, cl]
     try dsimp only [Ty.den, Ty.dflt]
     simp only [maxL]
     repeat' apply And.intro
     all_goals first | omega | (simp; omega) | trivial
    refine sw_seq (rd hP 8 rfl ?_)
    refine sw_frz ⟨7, 5, 0⟩ rfl ?_
    refine sw_ret ⟨.inl rfl, _, rfl, ?_⟩
    have ho : offD R d = ((q.1.1, q.1.2 ++ [([65], [zP, zP, zP])]), nx (nx q.2)) := by
      unfold offD
      simp only [hq]
      rw [if_neg c2, if_neg c7, if_pos c9]
    simp [conj, ho, v0, aX, zP, bytesL]
    try rfl
   ·replace c9 : ¬ pk (nx q.2) 6 = 1 := by simpa using c9
    refine sw_seq (rd hP 7 rfl (sw_cond rfl (fun c11 => ?_) (fun c11 => ?_)))
    ·replace c11 : pk (nx q.2) 6 = 2 := by simpa using c11
     refine sw_seq (rd hP 8 rfl (sw_cond rfl (fun c12 => ?_) (fun c12 => ?_)))
     ·replace c12 : 0 < q.1.2.length := by simpa using c12
      have h30 : (q.1.2[0]).2.length = 3 := hq3 _ (List.getElem_mem c12)
      refine sw_frzIn ⟨2, 2, 0⟩ rfl ?_
      refine rg hP 9 [] rfl ?_ ?_
      ·simp [conj, gE c12]
       omega
      refine sw_seq (rd hP 10 rfl ?_)
      refine sw_frz ⟨2, 2, 0⟩ rfl ?_
      refine sw_ret ⟨.inl rfl, _, rfl, ?_⟩
      have ho : offD R d = ((q.1.1, q.1.2.set 0 ((v0 q.1.2).1, (v0 q.1.2).2.drop 1)), nx (nx q.2)) := by
        unfold offD
        simp only [hq]
        rw [if_neg c2, if_neg c7, if_neg c9, if_pos c11, if_pos c12]
      simp [conj, ho, v0, aX, zP, bytesL]
      try rfl
     ·replace c12 : ¬ 0 < q.1.2.length := by simpa using c12
      refine sw_skip (sw_seq (rd hP 9 rfl ?_))
      refine sw_frz ⟨2, 2, 0⟩ rfl ?_
      refine sw_ret ⟨.inl rfl, _, rfl, ?_⟩
      have ho : offD R d = (q.1, nx (nx q.2)) := by
        unfold offD
        simp only [hq]
        rw [if_neg c2, if_neg c7, if_neg c9, if_pos c11, if_neg c12]
      simp [conj, ho, v0, aX, zP, bytesL]
      try rfl
    ·replace c11 : ¬ pk (nx q.2) 6 = 2 := by simpa using c11
     refine sw_seq (rd hP 8 rfl (sw_cond rfl (fun c14 => ?_) (fun c14 => ?_)))
     ·replace c14 : pk (nx q.2) 6 = 3 := by simpa using c14
      refine sw_seq (rd hP 9 rfl (sw_cond rfl (fun c15 => ?_) (fun c15 => ?_)))
      ·replace c15 : 0 < q.1.2.length := by simpa using c15
       have h30 : (q.1.2[0]).2.length = 3 := hq3 _ (List.getElem_mem c15)
       refine rg hP 10 [] rfl ?_ ?_
       ·simp only [cj, cl]
        try dsimp only [Ty.den, Ty.dflt]
        repeat' apply And.intro
        all_goals first | omega | assumption | exact hq2.le (by omega) | trivial | exact hd3.1 | exact hd3.2 | (simp [gE c15]; omega)
       refine sw_seq (rd hP 11 rfl ?_)
       refine sw_pack ⟨2, 2, 0⟩ T_Vol (.pr (.all .p) (.sl .w (.all .p))) rfl ?_
       refine sw_frz ⟨2, 2, 0⟩ rfl ?_
       refine sw_ret ⟨.inl rfl, _, rfl, ?_⟩
       have ho : offD R d = ((q.1.1, q.1.2.set 0 ((v0 q.1.2).1, (v0 q.1.2).2.set 0 (someD (nx (nx q.2)) d).1)), (someD (nx (nx q.2)) d).2) := by
         unfold offD
         simp only [hq]
         rw [if_neg c2, if_neg c7, if_neg c9, if_neg c11, if_pos c14, if_pos c15]
       simp [conj, ho, v0, aX, zP, bytesL]
       try rfl
      ·replace c15 : ¬ 0 < q.1.2.length := by simpa using c15
       refine sw_skip (sw_seq (rd hP 10 rfl ?_))
       refine sw_frz ⟨2, 2, 0⟩ rfl ?_
       refine sw_ret ⟨.inl rfl, _, rfl, ?_⟩
       have ho : offD R d = (q.1, nx (nx q.2)) := by
         unfold offD
         simp only [hq]
         rw [if_neg c2, if_neg c7, if_neg c9, if_neg c11, if_pos c14, if_neg c15]
       simp [conj, ho, v0, aX, zP, bytesL]
       try rfl
     ·replace c14 : ¬ pk (nx q.2) 6 = 3 := by simpa using c14
      refine sw_seq (rd hP 9 rfl (sw_cond rfl (fun c17 => ?_) (fun c17 => ?_)))
      ·replace c17 : pk (nx q.2) 6 = 4 := by simpa using c17
       refine sw_seq (rd hP 10 rfl (sw_cond rfl (fun c18 => ?_) (fun c18 => ?_)))
       ·replace c18 : 0 < q.1.2.length := by simpa using c18
        have h30 : (q.1.2[0]).2.length = 3 := hq3 _ (List.getElem_mem c18)
        refine sw_frzIn ⟨2, 2, 0⟩ rfl ?_
        refine rg hP 11 [] rfl ?_ ?_
        ·simp only [cj, cl]
         try dsimp only [Ty.den, Ty.dflt]
         simp only [maxL]
         repeat' apply And.intro
         all_goals first | omega | (simp; omega) | trivial
        refine sw_seq (rd hP 12 rfl ?_)
        refine sw_frz ⟨11, 7, 0⟩ rfl ?_
        refine sw_ret ⟨.inl rfl, _, rfl, ?_⟩
        have ho : offD R d = ((q.1.1, q.1.2 ++ [(v0 q.1.2)]), nx (nx q.2)) := by
          unfold offD
          simp only [hq]
          rw [if_neg c2, if_neg c7, if_neg c9, if_neg c11, if_neg c14, if_pos c17, if_pos c18]
        simp [conj, ho, v0, aX, zP, bytesL]
        try rfl
       ·replace c18 : ¬ 0 < q.1.2.length := by simpa using c18
        refine sw_skip (sw_seq (rd hP 11 rfl ?_))
        refine sw_frz ⟨2, 2, 0⟩ rfl ?_
        refine sw_ret ⟨.inl rfl, _, rfl, ?_⟩
        have ho : offD R d = (q.1, nx (nx q.2)) := by
          unfold offD
          simp only [hq]
          rw [if_neg c2, if_neg c7, if_neg c9, if_neg c11, if_neg c14, if_pos c17, if_neg c18]
        simp [conj, ho, v0, aX, zP, bytesL]
        try rfl
      ·replace c17 : ¬ pk (nx q.2) 6 = 4 := by simpa using c17
       refine sw_block (sw_loop (ι := List Vol_) (fun w => ⟨[.v false [.ptr ⟨0, 0, 0⟩ 0], sInt .i64 d, .j, .j, .v false [.ptr ⟨1, 0, 0⟩ 0], .v false [.ptr ⟨2, 3, 0⟩ 0], .j, .j, .j, .j, .j, .j, .j, .j, .j, .j, .j, .j, .j, .j, .j, .j, .j, .j, .j, .j, .j, .j, .j, .j, .j, .j, .j, .j, .j, .j, .j, .j, .j, .j, .j, .j, .j, .j, .j, .j, .j, .j, .j, .j, .j, .j, .j, .j, .j, .j, .j, .j, .j, .j, .j, .j, .j, .j, .j, .j, .j, .j, .j, .j, .j, .j, .j, .j, .j, .j, .j, .j, .j, .j, .j, .j, .j, .j, .j, .j, .j, .j, .j, .j, .j, .j, .j, .j, .j, .j, .j], [(⟨0, 0, 0⟩, rdA (nx (nx q.2))), (⟨1, 0, 0⟩, .var [.d TI pF 0, .d (.sl T_Vol) pF []]), (⟨2, 3, 0⟩, .var [.d TI pF q.1.1, .own ⟨0, 9, 0⟩]), (⟨0, 9, 0⟩, .sl T_Vol (.pr (.all .p) (.sl .w (.all .p))) w)], 9, [[.v false [.ptr ⟨0, 0, 0⟩ 0], .j]]⟩) (fun w => 5 - w.length) (fun w => w.length ≤ 5 ∧ fillGo (5 - w.length) w = fillGo (5 - q.1.2.length) q.1.2) q.1.2 ⟨?_, ?_⟩ ?_)
       ·exact ⟨by omega, rfl⟩
       ·refine ent_ok rfl ?_
        simp [conj]
       ·rintro w ⟨hwl, hgo⟩
        refine sw_seq (sw_seq (rd hP 10 rfl (sw_cond rfl (fun c5 => ?_) (fun c5 => ?_))))
        ·have hw : w.length ≤ 4 := by have h := c5; simp at h; omega
         obtain ⟨m, hm⟩ : ∃ m, 5 - w.length = m + 1 := ⟨4 - w.length, by omega⟩
         rw [hm] at hgo
         have hm2 : 5 - (w.length + 1) = m := by omega
         refine sw_skip (sw_block (rg hP 11 [] rfl ?_ ?_))
         ·simp only [cj, cl]
          try dsimp only [Ty.den, Ty.dflt]
          simp only [maxL]
          repeat' apply And.intro
          all_goals first | omega | (simp; omega) | (show (0 : Int) ≤ 107 + (w.length : Int); omega) | (show 107 + (w.length : Int) ≤ 255; omega) | trivial
         refine ⟨w ++ [([UInt8.ofNat (107 + w.length)], [zP, zP, zP])], ?_, ?_, ent_ok rfl ?_⟩
         ·exact ⟨by simp; omega, by rw [List.length_append, List.length_singleton, hm2]; exact hgo⟩
         ·show 5 - (w ++ [_]).length < 5 - w.length
          rw [List.length_append, List.length_singleton]
          omega
         ·simp [conj, zP]
          generalize w.length = n at hw ⊢
          (obtain rfl | rfl | rfl | rfl | rfl : n = 0 ∨ n = 1 ∨ n = 2 ∨ n = 3 ∨ n = 4 := by omega) <;> rfl
        ·have hw : 5 - w.length = 0 := by have h := c5; simp at h; omega
         rw [hw] at hgo
         replace hgo : w = fillGo (5 - q.1.2.length) q.1.2 := hgo
         refine sw_exit (sw_seq (rd hP 11 rfl ?_))
         refine sw_frz ⟨0, 9, 0⟩ rfl ?_
         refine sw_ret ⟨.inl rfl, _, rfl, ?_⟩
         have ho : offD R d = ((q.1.1, fillGo (5 - q.1.2.length) q.1.2), nx (nx q.2)) := by
           unfold offD
           simp only [hq]
           rw [if_neg c2, if_neg c7, if_neg c9, if_neg c11, if_neg c14, if_neg c17]
         rw [← hgo] at ho
         simp [conj, ho, v0, aX, zP, bytesL]
         try rfl
end Go.Sx

namespace Go.Sx
open Go
set_option maxRecDepth 100000
set_option linter.unusedVariables false
set_option linter.unusedSimpArgs false
set_option maxHeartbeats 2000000
def cVolsS : Ctr := ⟨59, [.val false TI pF, .val true T_Root (.all .b)], fun x => poolV x.1 = true ∧ List.length x.2.1.2 ≤ 4, fun x => (sBool (volsS x.1 x.2.1.2), [])⟩
theorem cVolsS_ok : CtrOk Proofs.Tryz.prog cVolsS := by
 have hP := ((((((Prg.none ttok mtok).and cName_ok).and cAll_ok).and cPtrS_ok).and cMeet_ok).and cSameS_ok)
 refine ctr_of_body hP cVolsS (fn := Proofs.Tryz.f59) (rts := [.tmp 4]) Proofs.Tryz.func59 rfl (by kernel_rfl) rfl rfl ?_
 rintro ⟨(d : Int), ⟨(tg : Int), (l : List Vol_)⟩, ⟨⟩⟩ ⟨_, ⟨_, hl0⟩, _⟩ ⟨hd1, h4⟩
 try dsimp only [Ty.den, Mode.den, mdens] at hd1
 try dsimp only [Ty.den, Mode.den, mdens] at h4
 refine ⟨rfl, ?_⟩
 replace hd1 : poolV d = true := hd1
 replace h4 : l.length ≤ 4 := h4
 refine sw_seq (rd hP 1 rfl (sw_seq (sw_seq (rd hP 2 rfl (sw_block (sw_loop (ι := Nat) (fun i => ⟨[sInt .i64 d, .j, .j, .v false [.ptr ⟨1, 0, 0⟩ 0], .j, sInt .i64 (i : Int), .j, .j, .j, .j, .j, .j, .j, .j, .j, .j, .j, .j, .j, .j, .j, .j, .j, .j, .j, .j, .j, .j, .j, .j, .j, .j, .j, .j, .j, .j, .j, .j, .j, .j, .j, .j, .j, .j, .j, .j, .j, .j, .j, .j, .j, .j, .j, .j, .j, .j, .j, .j, .j, .j, .j, .j, .j, .j, .j, .j, .j, .j, .j, .j, .j, .j, .j, .j, .j, .j, .j, .j, .j, .j, .j, .j, .j, .j, .j, .j, .j, .j, .j, .j, .j, .j, .j, .j], [(⟨1, 0, 0⟩, .var [.d TI pF tg, .d (.sl T_Vol) (.all .b) l])], 2, []⟩) (fun i => l.length - i) (fun i => i ≤ l.length ∧ chkGo volG (l.take i) (l.drop i) = chk volG l) 0 ⟨?_, ?_⟩ ?_))))))
 ·exact ⟨Nat.zero_le _, rfl⟩
 ·refine ent_ok rfl ?_
  simp [conj]
 ·rintro i ⟨hi, hgo⟩
  refine sw_seq (sw_seq (rd hP 3 rfl (sw_cond rfl (fun c2 => ?_) (fun c2 => ?_))))
  ·have hlt : i < l.length := by simpa using c2
   have hml2 : l[i].2.length ≤ 140737488355328 := (hl0.2 _ (List.getElem_mem hlt)).2.1
   refine sw_skip (sw_seq (sw_block (sw_seq (sw_seq ?_))))
   refine sw_dec hP 4 [] 8 rfl (fun g4_8 => ?_) (fun g4_8 => ?_)
   ·have k8 : nameV l[i].1 = false := by simpa [gE hlt] using g4_8
    have hf : volG (l.take i) l[i] = false := by simp [volG, k8]
    refine rg hP 4 [(8, true)] rfl ?_ ?_
    ·simp [conj, gE hlt]
     repeat' apply And.intro
     all_goals first | omega | assumption | (simp [*]; done) | trivial
    refine sw_condT rfl (sw_seq (rd hP 5 rfl (sw_ret ⟨.inl rfl, _, rfl, ?_⟩)))
    have hv := chk_hit hlt hgo hf
    simp [conj, volsS, hv]
   ·have k8 : nameV l[i].1 = true := by simpa [gE hlt] using g4_8
    refine rg hP 4 [(8, false)] rfl ?_ ?_
    ·simp [conj, gE hlt]
     repeat' apply And.intro
     all_goals first | omega | assumption | (simp [*]; done) | trivial
    refine sw_cond rfl (fun c4 => ?_) (fun c4 => ?_)
    ·replace c4 : ¬ l[i].2.length = 3 := by
       have h := c4
       simp [gE hlt] at h
       omega
     have hf : volG (l.take i) l[i] = false := by simp [volG, c4]
     refine sw_seq (rd hP 5 rfl (sw_ret ⟨.inl rfl, _, rfl, ?_⟩))
     have hv := chk_hit hlt hgo hf
     simp [conj, volsS, hv]
    ·replace c4 : l[i].2.length = 3 := by
       have h := c4
       simp [gE hlt] at h
       omega
     refine sw_skip (sw_seq (rd hP 5 rfl (sw_block (sw_loop (ι := Nat) (fun k => ⟨[sInt .i64 d, .j, .j, .v false [.ptr ⟨1, 0, 0⟩ 0], .j, sInt .i64 (i : Int), sInt .i64 (k : Int), .j, .j, .j, .j, .j, .j, .j, .j, .j, .j, .j, .j, .j, .j, .j, .j, .j, .j, .j, .j, .j, .j, .j, .j, .j, .j, .j, .j, .j, .j, .j, .j, .j, .j, .j, .j, .j, .j, .j, .j, .j, .j, .j, .j, .j, .j, .j, .j, .j, .j, .j, .j, .j, .j, .j, .j, .j, .j, .j, .j, .j, .j, .j, .j, .j, .j, .j, .j, .j, .j, .j, .j, .j, .j, .j, .j, .j, .j, .j, .j, .j, .j, .j, .j, .j, .j, .j], [(⟨1, 0, 0⟩, .var [.d TI pF tg, .d (.sl T_Vol) (.all .b) l])], 5, []⟩) (fun k => i - k) (fun k => k ≤ i ∧ (l.take k).any (fun w : Vol_ => decide (w.1 = l[i].1)) = false) 0 ⟨?_, ?_⟩ ?_))))
     ·exact ⟨Nat.zero_le _, rfl⟩
     ·refine ent_ok rfl ?_
      simp [conj]
     ·rintro k ⟨hk, hgk⟩
      refine sw_seq (sw_seq (rd hP 6 rfl (sw_cond rfl (fun c7 => ?_) (fun c7 => ?_))))
      ·have hki : k < i := by simpa using c7
       have hlk : k < l.length := by omega
       refine sw_skip (sw_seq (sw_block (sw_seq (rg hP 7 [] rfl ?_ ?_))))
       ·simp [conj, gE hlt, gE hlk]
        repeat' apply And.intro
        all_goals first | omega | trivial
       refine sw_cond rfl (fun c9 => ?_) (fun c9 => ?_)
       ·replace c9 : (fun w : Vol_ => decide (w.1 = l[i].1)) l[k] = true := by simpa [gE hlt, gE hlk] using c9
        have hf : volG (l.take i) l[i] = false := by unfold volG; rw [any_hit hki hlk c9]; simp
        refine sw_seq (rd hP 8 rfl (sw_ret ⟨.inl rfl, _, rfl, ?_⟩))
        have hv := chk_hit hlt hgo hf
        simp [conj, volsS, hv]
       ·replace c9 : (fun w : Vol_ => decide (w.1 = l[i].1)) l[k] = false := by simpa [gE hlt, gE hlk] using c9
        refine sw_skip (rd hP 8 rfl (⟨k + 1, ?_, ?_, ent_ok rfl ?_⟩))
        ·exact ⟨hki, any_next hlk hgk c9⟩
        ·omega
        ·simp [conj]
      ·obtain rfl : k = i := by simp at c7; omega
       have hf : volG (l.take k) l[k] = true := by unfold volG; rw [k8, hgk, c4]; rfl
       refine sw_exit (rd hP 7 rfl (⟨k + 1, ?_, ?_, ent_ok rfl ?_⟩))
       ·exact ⟨hlt, chk_next hlt hgo hf⟩
       ·omega
       ·simp [conj]
  ·obtain rfl : i = l.length := by simp at c2; omega
   have hvg : chk volG l = true := chk_end hgo
   have hsv := volG_small hvg h4
   have hbl := blks_all hsv
   refine sw_exit (sw_seq (rg hP 4 [] rfl ?_ ?_))
   ·simp [conj, maxL]
    try dsimp only [Ty.den, Ty.dflt]
    try simp only [rd_eta]
    exact hsv
   refine sw_seq (sw_seq (rd hP 5 rfl (sw_block (sw_loop (ι := Nat) (fun n => ⟨[sInt .i64 d, .j, .j, .v false [.ptr ⟨1, 0, 0⟩ 0], .j, .j, .j, .v false [.own ⟨0, 9, 0⟩], sInt .i64 (n : Int), .j, .j, .j, .j, .j, .j, .j, .j, .j, .j, .j, .j, .j, .j, .j, .j, .j, .j, .j, .j, .j, .j, .j, .j, .j, .j, .j, .j, .j, .j, .j, .j, .j, .j, .j, .j, .j, .j, .j, .j, .j, .j, .j, .j, .j, .j, .j, .j, .j, .j, .j, .j, .j, .j, .j, .j, .j, .j, .j, .j, .j, .j, .j, .j, .j, .j, .j, .j, .j, .j, .j, .j, .j, .j, .j, .j, .j, .j, .j, .j, .j, .j, .j, .j, .j], [(⟨1, 0, 0⟩, .var [.d TI pF tg, .d (.sl T_Vol) (.all .b) l]), (⟨0, 9, 0⟩, .sl T_Ptr (.all .b) (blksOf l))], 5, []⟩) (fun n => (blksOf l).length - n) (fun n => n ≤ (blksOf l).length ∧ chkGo (ptrG d) ((blksOf l).take n) ((blksOf l).drop n) = chk (ptrG d) (blksOf l)) 0 ⟨?_, ?_⟩ ?_))))
   ·exact ⟨Nat.zero_le _, rfl⟩
   ·refine ent_ok rfl ?_
    simp [conj]
   ·rintro n ⟨hn, hgn⟩
    refine sw_seq (sw_seq (rd hP 6 rfl (sw_cond rfl (fun c13 => ?_) (fun c13 => ?_))))
    ·have hln : n < (blksOf l).length := by simpa using c13
     refine sw_skip (sw_seq (sw_block (sw_seq (sw_seq (rg hP 7 [] rfl ?_ ?_)))))
     ·simp [conj, gE hln]
      repeat' apply And.intro
      all_goals first | omega | exact hd1 | trivial
     refine sw_cond rfl (fun c15 => ?_) (fun c15 => ?_)
     ·replace c15 : ptrW d (blksOf l)[n] = false := by simpa [gE hln] using c15
      have hf : ptrG d ((blksOf l).take n) (blksOf l)[n] = false := by simp [ptrG, c15]
      refine sw_seq (rd hP 8 rfl (sw_ret ⟨.inl rfl, _, rfl, ?_⟩))
      have hv := chk_hit hln hgn hf
      simp [conj, volsS, hvg, hv]
     ·replace c15 : ptrW d (blksOf l)[n] = true := by simpa [gE hln] using c15
      refine sw_skip (sw_seq (rd hP 8 rfl (sw_block (sw_loop (ι := Nat) (fun m => ⟨[sInt .i64 d, .j, .j, .v false [.ptr ⟨1, 0, 0⟩ 0], .j, .j, .j, .v false [.own ⟨0, 9, 0⟩], sInt .i64 (n : Int), sInt .i64 (m : Int), .j, .j, .j, .j, .j, .j, .j, .j, .j, .j, .j, .j, .j, .j, .j, .j, .j, .j, .j, .j, .j, .j, .j, .j, .j, .j, .j, .j, .j, .j, .j, .j, .j, .j, .j, .j, .j, .j, .j, .j, .j, .j, .j, .j, .j, .j, .j, .j, .j, .j, .j, .j, .j, .j, .j, .j, .j, .j, .j, .j, .j, .j, .j, .j, .j, .j, .j, .j, .j, .j, .j, .j, .j, .j, .j, .j, .j, .j, .j, .j, .j, .j, .j, .j], [(⟨1, 0, 0⟩, .var [.d TI pF tg, .d (.sl T_Vol) (.all .b) l]), (⟨0, 9, 0⟩, .sl T_Ptr (.all .b) (blksOf l))], 8, []⟩) (fun m => n - m) (fun m => m ≤ n ∧ ((blksOf l).take m).any (fun q : Ptr_ => meetV (blksOf l)[n] q && !decide ((blksOf l)[n] = q)) = false) 0 ⟨?_, ?_⟩ ?_))))
      ·exact ⟨Nat.zero_le _, rfl⟩
      ·refine ent_ok rfl ?_
       simp [conj]
      ·rintro m ⟨hm, hgm⟩
       refine sw_seq (sw_seq (rd hP 9 rfl (sw_cond rfl (fun c18 => ?_) (fun c18 => ?_))))
       ·have hmn : m < n := by simpa using c18
        have hlm : m < (blksOf l).length := by omega
        refine sw_skip (sw_seq (sw_block (sw_seq ?_)))
        refine sw_dec hP 10 [] 9 rfl (fun g20_9 => ?_) (fun g20_9 => ?_)
        ·have k9 : meetV (blksOf l)[n] (blksOf l)[m] = true := by simpa [gE hln, gE hlm] using g20_9
         refine rg hP 10 [(9, true)] rfl ?_ ?_
         ·simp [conj, gE hln, gE hlm]
          repeat' apply And.intro
          all_goals first | omega | assumption | exact k9 | trivial
         refine sw_cond rfl (fun c20 => ?_) (fun c20 => ?_)
         ·replace c20 : ¬ (blksOf l)[n] = (blksOf l)[m] := by
            intro e
            simp [gE hln, gE hlm, e] at c20
          have hq : (fun q : Ptr_ => meetV (blksOf l)[n] q && !decide ((blksOf l)[n] = q)) (blksOf l)[m] = true := by simp only [k9]; simp [c20]
          have hf : ptrG d ((blksOf l).take n) (blksOf l)[n] = false := by unfold ptrG; rw [any_hit hmn hlm hq]; simp
          refine sw_seq (rd hP 11 rfl (sw_ret ⟨.inl rfl, _, rfl, ?_⟩))
          have hv := chk_hit hln hgn hf
          simp [conj, volsS, hvg, hv]
         ·replace c20 : (blksOf l)[n] = (blksOf l)[m] := by
            have h := c20
            simp [gE hln, gE hlm] at h
            exact Prod.ext h.1 (Prod.ext h.2.1 h.2.2)
          have hq : (fun q : Ptr_ => meetV (blksOf l)[n] q && !decide ((blksOf l)[n] = q)) (blksOf l)[m] = false := by simp only [c20]; simp
          refine sw_skip (rd hP 11 rfl (⟨m + 1, ?_, ?_, ent_ok rfl ?_⟩))
          ·exact ⟨hmn, any_next hlm hgm hq⟩
          ·omega
          ·simp [conj]
        ·have k9 : meetV (blksOf l)[n] (blksOf l)[m] = false := by simpa [gE hln, gE hlm] using g20_9
         have hq : (fun q : Ptr_ => meetV (blksOf l)[n] q && !decide ((blksOf l)[n] = q)) (blksOf l)[m] = false := by simp only [k9]; rfl
         refine rg hP 10 [(9, false)] rfl ?_ ?_
         ·simp [conj, gE hln, gE hlm]
          repeat' apply And.intro
          all_goals first | omega | assumption | exact k9 | trivial
         refine sw_condF rfl (sw_skip (rd hP 11 rfl (⟨m + 1, ?_, ?_, ent_ok rfl ?_⟩)))
         ·exact ⟨hmn, any_next hlm hgm hq⟩
         ·omega
         ·simp [conj]
       ·obtain rfl : m = n := by simp at c18; omega
        have hf : ptrG d ((blksOf l).take m) (blksOf l)[m] = true := by unfold ptrG; rw [c15, hgm]; rfl
        refine sw_exit (rd hP 10 rfl (⟨m + 1, ?_, ?_, ent_ok rfl ?_⟩))
        ·exact ⟨hln, chk_next hln hgn hf⟩
        ·omega
        ·simp [conj]
    ·obtain rfl : n = (blksOf l).length := by simp at c13; omega
     refine sw_exit (sw_seq (rd hP 7 rfl (sw_ret ⟨.inl rfl, _, rfl, ?_⟩)))
     have hv := chk_end hgn
     simp [conj, volsS, hvg, hv]
def cRootOkS : Ctr := ⟨32, [.val false TI pF, .val true T_Root (.all .b)], fun x => True, fun x => (sBool (rootS x.1 x.2.1), [])⟩
theorem cRootOkS_ok : CtrOk Proofs.Tryz.prog cRootOkS := by
 have hP := ((((Prg.none ttok mtok).and cDisks_ok).and cIn_ok).and cVolsS_ok)
 refine ctr_of_body hP cRootOkS (fn := Proofs.Tryz.f32) (rts := [.tmp 4]) Proofs.Tryz.func32 rfl (by kernel_rfl) rfl rfl ?_
 rintro ⟨(d : Int), ⟨(tg : Int), (l : List Vol_)⟩, ⟨⟩⟩ _ _
 try dsimp only [Ty.den, Mode.den, mdens] at _
 refine ⟨rfl, ?_⟩
 refine sw_seq (rd hP 1 rfl (sw_seq ?_))
 refine sw_dec hP 2 [] 2 rfl (fun g1_2 => ?_) (fun g1_2 => ?_)
 ·have k2 : poolV d = true := g1_2
  refine sw_dec hP 2 [(2, true)] 7 rfl (fun g1_7 => ?_) (fun g1_7 => ?_)
  ·have k7 : inV tg 0 100000 = true := g1_7
   refine sw_dec hP 2 [(2, true), (7, true)] 13 rfl (fun g1_13 => ?_) (fun g1_13 => ?_)
   ·have k13 : l.length ≤ 4 := by have h := g1_13; simp at h; omega
    refine rg hP 2 [(2, true), (7, true), (13, true)] rfl ?_ ?_
    ·simp only [cj, cl]
     try dsimp only [Ty.den, Ty.dflt]
     repeat' apply And.intro
     all_goals first | trivial | exact g1_2 | exact g1_7 | exact g1_13 | assumption | exact k2 | exact k13
    refine sw_ret ⟨.inl rfl, _, rfl, ?_⟩
    simp [conj, rootS, *]
   ·have k13 : ¬ l.length ≤ 4 := by have h := g1_13; simp at h; omega
    refine rg hP 2 [(2, true), (7, true), (13, false)] rfl ?_ ?_
    ·simp only [cj, cl]
     try dsimp only [Ty.den, Ty.dflt]
     repeat' apply And.intro
     all_goals first | trivial | exact g1_2 | exact g1_7 | exact g1_13 | assumption | exact k2 | exact k13
    refine sw_ret ⟨.inl rfl, _, rfl, ?_⟩
    simp [conj, rootS, *]
  ·have k7 : inV tg 0 100000 = false := g1_7
   refine rg hP 2 [(2, true), (7, false)] rfl ?_ ?_
   ·simp only [cj, cl]
    try dsimp only [Ty.den, Ty.dflt]
    repeat' apply And.intro
    all_goals first | trivial | exact g1_2 | exact g1_7 | exact g1_13 | assumption | exact k2 | exact k13
   refine sw_ret ⟨.inl rfl, _, rfl, ?_⟩
   simp [conj, rootS, *]
 ·have k2 : poolV d = false := g1_2
  refine rg hP 2 [(2, false)] rfl ?_ ?_
  ·simp only [cj, cl]
   try dsimp only [Ty.den, Ty.dflt]
   repeat' apply And.intro
   all_goals first | trivial | exact g1_2 | exact g1_7 | exact g1_13 | assumption | exact k2 | exact k13
  refine sw_ret ⟨.inl rfl, _, rfl, ?_⟩
  simp [conj, rootS, *]
def cDecK (k : Nat) : Ctr := ⟨18, [.val false TI pF], fun x => 0 ≤ x.1 ∧ 1 ≤ k ∧ x.1 < 10 ^ k, fun x => (sStr (itoaV x.1), [])⟩
theorem cDecK_ok : ∀ k, CtrOk Proofs.Tryz.prog (cDecK k) := by
  intro k
  induction k with
  | zero =>
    rintro G w args ⟨(n : Int), ⟨⟩⟩ _ _ _ ⟨_, h1, _⟩
    exact absurd h1 (by decide)
  | succ k ih =>
   have hP := ((Prg.none ttok mtok).and ih)
   refine ctr_of_body hP (cDecK (k + 1)) (fn := Proofs.Tryz.f18) (rts := [.tmp 2]) Proofs.Tryz.func18 rfl (by kernel_rfl) rfl rfl ?_
   rintro ⟨(n : Int), ⟨⟩⟩ ⟨hn0, _⟩ ⟨h0, _, h1⟩
   try dsimp only [Ty.den, Mode.den, mdens] at h0
   try dsimp only [Ty.den, Mode.den, mdens] at _
   try dsimp only [Ty.den, Mode.den, mdens] at h1
   refine ⟨rfl, ?_⟩
   replace hn0 : inR .i64 n := hn0
   rw [inR_i64] at hn0
   replace h0 : 0 ≤ n := h0
   replace h1 : n < 10 ^ (k + 1) := h1
   rw [Int.pow_succ] at h1
   have hq : n.tdiv 10 = n / 10 := Int.tdiv_eq_ediv_of_nonneg h0
   have hr : n.tmod 10 = n % 10 := Int.tmod_eq_emod_of_nonneg h0
   have hlq : (itoaV (n.tdiv 10)).length ≤ 21 := itoaV_len (by rw [inR_i64]; omega)
   refine sw_seq (rd hP 1 rfl (sw_seq (sw_seq (rd hP 2 rfl (sw_cond rfl (fun c1 => ?_) (fun c1 => ?_))))))
   ·have h : n < -9223372036854775807 := of_decide_eq_true c1
    omega
   ·refine sw_skip (sw_seq (sw_seq (rd hP 3 rfl (sw_cond rfl (fun c3 => ?_) (fun c3 => ?_)))))
    ·have h : n < 0 := of_decide_eq_true c3
     omega
    ·refine sw_skip (sw_seq (sw_seq (rd hP 4 rfl (sw_cond rfl (fun c5 => ?_) (fun c5 => ?_)))))
     ·replace c5 : n < 10 := of_decide_eq_true c5
      refine sw_seq (rg hP 5 [] rfl ?_ ?_)
      ·simp only [cj, inR_u8, cl]
       try dsimp only [Ty.den, Ty.dflt]
       repeat' apply And.intro
       all_goals first | omega | trivial
      refine sw_ret ⟨.inl rfl, _, rfl, ?_⟩
      simp [conj, ofBytes]
      exact (itoaV_small h0 c5).symm
     ·replace c5 : ¬ n < 10 := of_decide_eq_false c5
      have hk : 1 ≤ k := by
        rcases k with _ | k
        · simp at h1; omega
        · omega
      refine sw_skip (sw_seq (rg hP 5 [] rfl ?_ ?_))
      ·simp only [cj, inR_u8, cl]
       try dsimp only [Ty.den, Ty.dflt]
       repeat' apply And.intro
       all_goals first | omega | (show 0 ≤ n.tdiv 10; omega) | (show n.tdiv 10 < 10 ^ k; omega) | (show _ ≤ n.tdiv 10; omega) | (show n.tdiv 10 ≤ _; omega) | (show _ ≤ 48 + n.tmod 10; omega) | (show 48 + n.tmod 10 ≤ _; omega) | trivial | exact hk | (show (itoaV (n.tdiv 10)).length + 1 ≤ 140737488355328; omega) | trace_state
      refine sw_ret ⟨.inl rfl, _, rfl, ?_⟩
      simp [conj, ofBytes]
      rw [itoaV_big h0 c5, hq, hr]
def cDec : Ctr := ⟨(cDecK 0).f, [.val false TI pF], fun x => 0 ≤ x.1, fun x => (sStr (itoaV x.1), [])⟩
theorem cDec_ok : CtrOk Proofs.Tryz.prog cDec := by
  rintro G w args ⟨(n : Int), ⟨⟩⟩ hb ha hargs h0
  have hn : inR .i64 n := by
    obtain ⟨v, vs, _, ⟨_, cs, _, _, ⟨_, hn⟩⟩, _⟩ := hargs
    exact hn
  rw [inR_i64] at hn
  exact cDecK_ok 19 G w args (n, ()) hb ha hargs ⟨h0, by decide, by show n < (10 : Int) ^ 19; rw [show (10 : Int) ^ 19 = 10000000000000000000 by decide]; omega⟩
def cLineS : Ctr := ⟨37, [.val true T_Ptr (.all .b)], fun x => ∃ d, ptrV d x.1 = true, fun x => (sStr (lineV x.1), [])⟩
theorem cLineS_ok : CtrOk Proofs.Tryz.prog cLineS := by
 have hP := ((Prg.none ttok mtok).and cDec_ok)
 refine ctr_of_body hP cLineS (fn := Proofs.Tryz.f37) (rts := [.tmp 2]) Proofs.Tryz.func37 rfl (by kernel_rfl) rfl rfl ?_
 rintro ⟨⟨(sz : Int), (sm : Int), (pl : List Plc)⟩, ⟨⟩⟩ ⟨⟨hz0, hm0, hpl0⟩, _⟩ ⟨d, hpre⟩
 try dsimp only [Ty.den, Mode.den, mdens] at d
 try dsimp only [Ty.den, Mode.den, mdens] at hpre
 refine ⟨rfl, ?_⟩
 replace hpre : ptrV d ((sz, sm, pl) : Ptr_) = true := hpre
 have hl4 : pl.length ≤ 4 := ptrV_len hpre
 have hi1 : (itoaV sz).length ≤ 21 := itoaV_len hz0
 have hi2 : (itoaV sm).length ≤ 21 := itoaV_len hm0
 refine sw_seq (rd hP 1 rfl (sw_seq (sw_seq (rd hP 2 rfl (sw_cond rfl (fun c1 => ?_) (fun c1 => ?_))))))
 ·replace c1 : sz = 0 := of_decide_eq_true c1
  have hnn : noneV ((sz, sm, pl) : Ptr_) = true := ptrV_none hpre c1
  refine sw_seq (rd hP 3 rfl (sw_ret ⟨.inl rfl, _, rfl, ?_⟩))
  simp [conj, lineV, hnn, bytesL]
  rfl
 ·replace c1 : ¬ sz = 0 := of_decide_eq_false c1
  have hnn : noneV ((sz, sm, pl) : Ptr_) = false := by simp [noneV, c1]
  obtain ⟨hp1, hp2, hp3⟩ := ptrV_pos hpre c1
  refine sw_skip (sw_seq (rg hP 3 [] rfl ?_ ?_))
  ·simp [conj, maxL, bytesL]
   repeat' apply And.intro
   all_goals first | omega | exact hp1 | exact hp2 | trivial
  refine sw_seq (sw_seq (rd hP 4 rfl (sw_block (sw_loop (ι := Nat × Str) (fun ⟨i, o⟩ => ⟨[.j, .v false [.ptr ⟨1, 0, 0⟩ 0], .j, sStr o, sInt .i64 (i : Int), .j, .j, .j, .j, .j, .j, .j, .j, .j, .j, .j, .j, .j, .j, .j, .j, .j, .j, .j, .j, .j, .j, .j, .j, .j, .j, .j, .j, .j, .j, .j, .j, .j, .j, .j, .j, .j, .j, .j, .j], [(⟨1, 0, 0⟩, .var [.d TI pF sz, .d TI pF sm, .d (.sl T_Place) (.all .b) pl])], 4, []⟩) (fun ⟨i, o⟩ => pl.length - i) (fun ⟨i, o⟩ => i ≤ pl.length ∧ o ++ catGo wordS (pl.drop i) = (Lib.join (wordsV ((sz, sm, pl) : Ptr_)) [32]) ∧ o.length ≤ 50 + i * 50) (0, tPtr ++ [32] ++ itoaV sz ++ [32] ++ itoaV sm) ⟨?_, ?_⟩ ?_))))
  ·exact ⟨Nat.zero_le _, words_join.symm, by simp [tPtr]; omega⟩
  ·refine ent_ok rfl ?_
   simp [conj, bytesL]
   rfl
  ·rintro ⟨i, o⟩ ⟨hi, hgo, hol⟩
   refine sw_seq (sw_seq (rd hP 5 rfl (sw_cond rfl (fun c5 => ?_) (fun c5 => ?_))))
   ·have hlt : i < pl.length := by simpa using c5
    have hin := hpl0.2 _ (List.getElem_mem hlt)
    have hpp := hp3 _ (List.getElem_mem hlt)
    have hi3 : (itoaV pl[i].1).length ≤ 21 := itoaV_len hin.1
    have hi4 : (itoaV pl[i].2).length ≤ 21 := itoaV_len hin.2
    refine sw_skip (sw_seq (sw_block (rg hP 6 [] rfl ?_ ?_)))
    ·simp [conj, maxL, bytesL, gE hlt]
     repeat' apply And.intro
     all_goals first | omega | exact hpp.1 | exact hpp.2 | trivial
    refine rd hP 7 rfl (⟨(i + 1, o ++ wordS pl[i]), ?_, ?_, ent_ok rfl ?_⟩)
    ·exact ⟨hlt, cat_next hlt hgo, by simp [wordS, wordV]; omega⟩
    ·show pl.length - (i + 1) < pl.length - i
     omega
    ·simp [conj, bytesL, wordS, wordV, gE hlt]
   ·obtain rfl : i = pl.length := by simp at c5; omega
    have hv := cat_end hgo
    subst hv
    refine sw_exit (sw_seq (rg hP 6 [] rfl ?_ ?_))
    ·simp [conj, maxL, bytesL]
     repeat' apply And.intro
     all_goals first | omega | trivial
    refine sw_ret ⟨.inl rfl, _, rfl, ?_⟩
    simp [conj, lineV, hnn, bytesL]
def cTextS : Ctr := ⟨16, [.val true T_Root (.all .b)], fun x => ∃ d, rootV d x.1 = true, fun x => (sStr (bodyV x.1), [])⟩
theorem cTextS_ok : CtrOk Proofs.Tryz.prog cTextS := by
 have hP := (((Prg.none ttok mtok).and cDec_ok).and cLineS_ok)
 refine ctr_of_body hP cTextS (fn := Proofs.Tryz.f16) (rts := [.tmp 2]) Proofs.Tryz.func16 rfl (by kernel_rfl) rfl rfl ?_
 rintro ⟨⟨(tg : Int), (l : List Vol_)⟩, ⟨⟩⟩ ⟨⟨ht0, hl0⟩, _⟩ ⟨d, hpre⟩
 try dsimp only [Ty.den, Mode.den, mdens] at d
 try dsimp only [Ty.den, Mode.den, mdens] at hpre
 refine ⟨rfl, ?_⟩
 replace hpre : rootV d ((tg, l) : Root_) = true := hpre
 have hs := rootV_small hpre
 have ht1 : 0 ≤ tg := rootV_txg hpre
 have hi1 : (itoaV tg).length ≤ 21 := itoaV_len ht0
 have hml : l.length ≤ 4 := hs.1
 refine sw_seq (rd hP 1 rfl (sw_seq (rg hP 2 [] rfl ?_ ?_)))
 ·simp [conj, maxL, bytesL]
  repeat' apply And.intro
  all_goals first | omega | exact ht1 | trivial
 refine sw_seq (sw_seq (rd hP 3 rfl (sw_block (sw_loop (ι := Nat × Str) (fun ⟨i, o⟩ => ⟨[.j, .v false [.ptr ⟨1, 0, 0⟩ 0], .j, sStr o, sInt .i64 (i : Int), .j, .j, .j, .j, .j, .j, .j, .j, .j, .j, .j, .j, .j, .j, .j, .j, .j, .j, .j, .j, .j, .j, .j, .j, .j, .j, .j, .j, .j, .j, .j, .j, .j, .j, .j, .j, .j, .j, .j, .j, .j, .j, .j, .j, .j, .j, .j], [(⟨1, 0, 0⟩, .var [.d TI pF tg, .d (.sl T_Vol) (.all .b) l])], 3, []⟩) (fun ⟨i, o⟩ => l.length - i) (fun ⟨i, o⟩ => i ≤ l.length ∧ o ++ catGo volT (l.drop i) = bodyV ((tg, l) : Root_) ∧ o.length ≤ 27 + i * 1000) (0, tRoot ++ itoaV tg ++ [10]) ⟨?_, ?_⟩ ?_))))
 ·exact ⟨Nat.zero_le _, rfl, by simp [tRoot]; omega⟩
 ·refine ent_ok rfl ?_
  simp [conj, bytesL]
  try rfl
 ·rintro ⟨i, o⟩ ⟨hi, hgo, hol⟩
  refine sw_seq (sw_seq (rd hP 4 rfl (sw_cond rfl (fun c3 => ?_) (fun c3 => ?_))))
  ·have hlt : i < l.length := by simpa using c3
   obtain ⟨hn3, hb3, hpv⟩ := hs.2 _ (List.getElem_mem hlt)
   refine sw_skip (sw_seq (sw_block (sw_seq (rg hP 5 [] rfl ?_ ?_))))
   ·simp [conj, maxL, bytesL, gE hlt]
    repeat' apply And.intro
    all_goals first | omega | trivial
   refine sw_seq (rd hP 6 rfl (sw_block (sw_loop (ι := Nat × Str) (fun ⟨j, o⟩ => ⟨[.j, .v false [.ptr ⟨1, 0, 0⟩ 0], .j, sStr o, sInt .i64 (i : Int), sInt .i64 (j : Int), .j, .j, .j, .j, .j, .j, .j, .j, .j, .j, .j, .j, .j, .j, .j, .j, .j, .j, .j, .j, .j, .j, .j, .j, .j, .j, .j, .j, .j, .j, .j, .j, .j, .j, .j, .j, .j, .j, .j, .j, .j, .j, .j, .j, .j, .j], [(⟨1, 0, 0⟩, .var [.d TI pF tg, .d (.sl T_Vol) (.all .b) l])], 6, []⟩) (fun ⟨j, o⟩ => l[i].2.length - j) (fun ⟨j, o⟩ => j ≤ l[i].2.length ∧ (o ++ catGo lineV (l[i].2.drop j)) ++ catGo volT (l.drop (i + 1)) = bodyV ((tg, l) : Root_) ∧ o.length ≤ 27 + i * 1000 + 8 + j * 300) (0, o ++ (tVol ++ l[i].1 ++ [10])) ⟨?_, ?_⟩ ?_)))
   ·exact ⟨Nat.zero_le _, vol_in hlt hgo, by simp [tVol]; omega⟩
   ·refine ent_ok rfl ?_
    simp [conj, bytesL, gE hlt]
    try rfl
   ·rintro ⟨j, o⟩ ⟨hj, hgo2, hol2⟩
    refine sw_seq (sw_seq (rg hP 7 [] rfl ?_ ?_))
    ·simp [conj, gE hlt]
     repeat' apply And.intro
     all_goals first | omega | trivial
    refine sw_cond rfl (fun c7 => ?_) (fun c7 => ?_)
    ·have hlj : j < l[i].2.length := by
       have h := c7
       simp [gE hlt] at h
       omega
     have hpj := hpv _ (List.getElem_mem hlj)
     obtain ⟨dd, hpd⟩ := hpj
     have hok := (hl0.2 _ (List.getElem_mem hlt)).2.2 _ (List.getElem_mem hlj)
     have hll := lineV_len' hok.1 hok.2.1 hok.2.2.2 hpd
     refine sw_skip (sw_seq (sw_block (rg hP 8 [] rfl ?_ ?_)))
     ·simp [conj, maxL, gE hlt, gE hlj]
      repeat' apply And.intro
      all_goals first | omega | exact ⟨dd, hpd⟩ | (have h : List.length (lineV l[i].2[j]) ≤ 300 := hll; show o.length + List.length (lineV l[i].2[j]) ≤ 140737488355328; omega) | trivial
     refine rd hP 9 rfl (⟨(j + 1, o ++ lineV l[i].2[j]), ?_, ?_, ent_ok rfl ?_⟩)
     ·exact ⟨hlj, vol_line hlj hgo2, by simp; omega⟩
     ·show l[i].2.length - (j + 1) < l[i].2.length - j
      omega
     ·simp [conj, gE hlt, gE hlj]
    ·obtain rfl : j = l[i].2.length := by
       have h := c7
       simp [gE hlt] at h
       omega
     refine sw_exit (rd hP 8 rfl (⟨(i + 1, o), ?_, ?_, ent_ok rfl ?_⟩))
     ·exact ⟨hlt, vol_out hgo2, by show o.length ≤ 27 + (i + 1) * 1000; omega⟩
     ·show l.length - (i + 1) < l.length - i
      omega
     ·simp [conj]
  ·obtain rfl : i = l.length := by simp at c3; omega
   have hv := cat_end hgo
   subst hv
   refine sw_exit (sw_seq (rd hP 5 rfl (sw_ret ⟨.inl rfl, _, rfl, ?_⟩)))
   simp [conj]
def cCheck : Ctr := ⟨19, [.val false .str pF], fun x => List.length x.1 ≤ 1000000, fun x => (sInt .i64 (weighV x.1), [])⟩
theorem cCheck_ok : CtrOk Proofs.Tryz.prog cCheck := by
 have hP := (Prg.none ttok mtok)
 refine ctr_of_body hP cCheck (fn := Proofs.Tryz.f19) (rts := [.tmp 2]) Proofs.Tryz.func19 rfl (by kernel_rfl) rfl rfl ?_
 rintro ⟨(s : Str), ⟨⟩⟩ _ hpre
 try dsimp only [Ty.den, Mode.den, mdens] at hpre
 refine ⟨rfl, ?_⟩
 replace hpre : s.length ≤ 1000000 := hpre
 refine sw_seq (rd hP 1 rfl (sw_seq (rd hP 2 rfl (sw_seq (sw_seq (rd hP 3 rfl (sw_block (sw_loop (ι := Nat × Int) (fun ⟨i, n⟩ => ⟨[sStr s, .j, .j, sInt .i64 n, sInt .i64 (i : Int), .j, .j, .j, .j, .j, .j, .j, .j, .j, .j, .j, .j, .j, .j, .j, .j, .j], [], 3, []⟩) (fun ⟨i, n⟩ => s.length - i) (fun ⟨i, n⟩ => i ≤ s.length ∧ n + weighGo (s.drop i) i = weighV s ∧ 0 ≤ n ∧ n ≤ (i : Int) * 300000000) (0, 0) ⟨?_, ?_⟩ ?_))))))))
 ·exact ⟨Nat.zero_le _, by simp [weighV], by decide, by decide⟩
 ·refine ent_ok rfl ?_
  simp [conj]
 ·rintro ⟨i, n⟩ ⟨hi, hgo, hn0, hn1⟩
  refine sw_seq (sw_seq (rd hP 4 rfl (sw_cond rfl (fun c3 => ?_) (fun c3 => ?_))))
  ·have hlt : i < s.length := by simpa using c3
   have hone := weigh_one (c := s[i]) (i := i) (by omega)
   refine sw_skip (sw_seq (sw_block (rg hP 5 [] rfl ?_ ?_)))
   ·simp [conj, gE hlt]
    have hu : s[i].toNat < 256 := s[i].toNat_lt
    repeat' apply And.intro
    all_goals omega
   refine rd hP 6 rfl (⟨(i + 1, n + (s[i].toNat : Int) * (65536 + (i : Int) + 1)), ?_, ?_, ent_ok rfl ?_⟩)
   ·exact ⟨hlt, weigh_next hlt hgo, by show 0 ≤ n + (s[i].toNat : Int) * (65536 + (i : Int) + 1); omega, by show n + (s[i].toNat : Int) * (65536 + (i : Int) + 1) ≤ ((i + 1 : Nat) : Int) * 300000000; omega⟩
   ·show s.length - (i + 1) < s.length - i
    omega
   ·simp [conj, gE hlt]
  ·obtain rfl : i = s.length := by simp at c3; omega
   have hv := weigh_end hgo
   refine sw_exit (sw_seq (rd hP 5 rfl (sw_ret ⟨.inl rfl, _, rfl, ?_⟩)))
   simp [conj, hv]
end Go.Sx

namespace Go.Sx
open Go
theorem keyPK (x y : Plc) : keyEq PK x y = decide (x = y) := by
 simp only [keyEq]
 refine Bool.eq_iff_iff.2 ?_
 simp only [Bool.and_eq_true, decide_eq_true_eq]
 exact ⟨fun h => Prod.ext h.1 h.2, fun h => by rw [h]; exact ⟨rfl, rfl⟩⟩
theorem mget_mset {m : List (Plc × Ptr_)} {a b : Plc} {p : Ptr_} : mget PK (mset PK m a p) b = if b = a then some p else mget PK m b := by
 induction m with
 | nil =>
  simp only [mset, mget]
  rw [keyPK]
  by_cases h : b = a <;> simp [h]
 | cons e m ih =>
  simp only [mset]
  rw [keyPK]
  by_cases h : a = e.1
  ·simp only [h, decide_true, cond_true, mget]
   rw [keyPK]
   by_cases h2 : b = e.1 <;> simp [h2]
  ·simp only [h, decide_false, cond_false, mget]
   rw [keyPK, ih]
   by_cases h2 : b = e.1
   ·have h3 : ¬ b = a := fun e2 => h (e2.symm.trans h2)
    simp [h2, h3]
    intro e2
    exact absurd e2.symm h
   ·simp [h2]
theorem own_iff : ∀ {l m : List (Plc × Ptr_)}, ownGo m l = true ↔ (∀ e ∈ l, ∀ q, mget PK m e.1 = some q → e.2 = q) ∧ ∀ e ∈ l, ∀ f ∈ l, e.1 = f.1 → e.2 = f.2 := by
 intro l
 induction l with
 | nil => intro m; simp [ownGo]
 | cons c r ih =>
  intro m
  obtain ⟨a, p⟩ := c
  simp only [ownGo, Bool.and_eq_true]
  rw [ih]
  constructor
  ·rintro ⟨h1, h2, h3⟩
   have ha : ∀ q, mget PK m a = some q → p = q := fun q hq => by rw [hq] at h1; simpa using h1
   have hp : ∀ e ∈ r, e.1 = a → e.2 = p := fun e he hea => h2 e he p (by rw [mget_mset, if_pos hea])
   refine ⟨fun e he q hq => ?_, fun e he f hf hef => ?_⟩
   ·rcases List.mem_cons.1 he with rfl | he
    ·exact ha q hq
    ·by_cases hea : e.1 = a
     ·rw [hp e he hea]; exact ha q (by rw [← hea]; exact hq)
     ·exact h2 e he q (by rw [mget_mset, if_neg hea]; exact hq)
   ·rcases List.mem_cons.1 he with rfl | he <;> rcases List.mem_cons.1 hf with rfl | hf
    ·rfl
    ·exact (hp f hf hef.symm).symm
    ·exact hp e he hef
    ·exact h3 e he f hf hef
  ·rintro ⟨h1, h2⟩
   refine ⟨?_, fun e he q hq => ?_, fun e he f hf => h2 e (List.mem_cons_of_mem _ he) f (List.mem_cons_of_mem _ hf)⟩
   ·cases hq : mget PK m a with
    | none => rfl
    | some q => have := h1 (a, p) List.mem_cons_self q hq; simpa using this
   ·rw [mget_mset] at hq
    by_cases hea : e.1 = a
    ·rw [if_pos hea] at hq
     cases hq
     exact h2 e (List.mem_cons_of_mem _ he) (a, p) List.mem_cons_self hea
    ·rw [if_neg hea] at hq
     exact h1 e (List.mem_cons_of_mem _ he) q hq
theorem mem_pairs {ps : List Ptr_} {e : Plc × Ptr_} : e ∈ pairsOf ps ↔ e.2 ∈ ps ∧ e.1 ∈ e.2.2.2 := by
 obtain ⟨a, p⟩ := e
 simp only [pairsOf, List.mem_flatMap, List.mem_map, Prod.mk.injEq]
 constructor
 ·rintro ⟨q, hq, b, hb, rfl, rfl⟩
  exact ⟨hq, hb⟩
 ·rintro ⟨h1, h2⟩
  exact ⟨p, h1, a, h2, rfl, rfl⟩
theorem meet_iff {p q : Ptr_} : meetV p q = true ↔ ∃ a, a ∈ p.2.2 ∧ a ∈ q.2.2 := by
 simp only [meetV, List.any_eq_true, decide_eq_true_eq]
 constructor
 ·rintro ⟨a, ha, b, hb, rfl⟩; exact ⟨a, ha, hb⟩
 ·rintro ⟨a, ha, hb⟩; exact ⟨a, ha, a, hb, rfl⟩
theorem own_meet {ps : List Ptr_} : ownGo [] (pairsOf ps) = true ↔ ∀ i (h : i < ps.length), ∀ q ∈ ps.take i, meetV ps[i] q = true → ps[i] = q := by
 rw [own_iff]
 constructor
 ·rintro ⟨_, h2⟩ i hi q hq hm
  obtain ⟨a, ha, hb⟩ := meet_iff.1 hm
  exact h2 (a, ps[i]) (mem_pairs.2 ⟨List.getElem_mem hi, ha⟩) (a, q) (mem_pairs.2 ⟨List.mem_of_mem_take hq, hb⟩) rfl
 ·intro h
  refine ⟨fun e _ q hq => by simp [mget] at hq, fun e he f hf hef => ?_⟩
  obtain ⟨e1, e2⟩ := mem_pairs.1 he
  obtain ⟨f1, f2⟩ := mem_pairs.1 hf
  obtain ⟨i, hi, hie⟩ := List.getElem_of_mem e1
  obtain ⟨k, hk, hkf⟩ := List.getElem_of_mem f1
  rw [← hie] at e2 ⊢
  rw [← hkf] at f2 ⊢
  rcases Nat.lt_trichotomy i k with hlt | rfl | hlt
  ·refine (h k hk ps[i] (List.mem_take_iff_getElem.2 ⟨i, by omega, rfl⟩) (meet_iff.2 ⟨f.1, f2, ?_⟩)).symm
   rw [← hef]; exact e2
  ·rfl
  ·refine h i hi ps[k] (List.mem_take_iff_getElem.2 ⟨k, by omega, rfl⟩) (meet_iff.2 ⟨e.1, e2, ?_⟩)
   rw [hef]; exact f2
theorem ptrV_W {d : Int} {p : Ptr_} (h : poolV d = true) : ptrV d p = ptrW d p := by
 unfold ptrV ptrW
 rw [h, Bool.true_and]
 by_cases h0 : p.1 = 0
 ·rw [if_pos h0]
  have h1 : sizeV d p = false := by simp [sizeV, inV, h0]
  rw [h1]
  simp [noneV, h0]
 ·rw [if_neg h0]
  simp [noneV, h0]
theorem volF_G {d : Int} {pre : List Vol_} {v : Vol_} : volF d pre v = (volG pre v && v.2.all (ptrV d)) := by
 simp only [volF, volG, Bool.and_assoc]
theorem chk_volF {d : Int} {l : List Vol_} : chk (volF d) l = true ↔ chk volG l = true ∧ ∀ p ∈ blksOf l, ptrV d p = true := by
 simp only [chk_iff, volF_G, Bool.and_eq_true, List.all_eq_true]
 constructor
 ·intro h
  refine ⟨fun i hi => (h i hi).1, fun p hp => ?_⟩
  obtain ⟨v, hv, hp⟩ := List.mem_flatMap.1 hp
  obtain ⟨i, hi, rfl⟩ := List.getElem_of_mem hv
  exact (h i hi).2 p hp
 ·rintro ⟨h1, h2⟩ i hi
  exact ⟨h1 i hi, fun p hp => h2 p (List.mem_flatMap.2 ⟨l[i], List.getElem_mem hi, hp⟩)⟩
theorem chk_ptrG {d : Int} {ps : List Ptr_} : chk (ptrG d) ps = true ↔ (∀ p ∈ ps, ptrW d p = true) ∧ ∀ i (h : i < ps.length), ∀ q ∈ ps.take i, meetV ps[i] q = true → ps[i] = q := by
 simp only [chk_iff, ptrG, Bool.and_eq_true]
 constructor
 ·intro h
  refine ⟨fun p hp => ?_, fun i hi q hq hm => ?_⟩
  ·obtain ⟨i, hi, rfl⟩ := List.getElem_of_mem hp
   exact (h i hi).1
  ·have h2 := (h i hi).2
   simp only [Bool.not_eq_true', List.any_eq_false, Bool.and_eq_true, not_and] at h2
   have := h2 q hq hm
   simpa using this
 ·rintro ⟨h1, h2⟩ i hi
  refine ⟨h1 _ (List.getElem_mem hi), ?_⟩
  simp only [Bool.not_eq_true', List.any_eq_false, Bool.and_eq_true, not_and]
  intro q hq hm
  have := h2 i hi q hq hm
  simpa using this
theorem rootV_S {d : Int} {r : Root_} : rootV d r = rootS d r := by
 unfold rootV rootS
 cases hp : poolV d with
 | false => rfl
 | true =>
  simp only [Bool.true_and]
  congr 1
  refine Bool.eq_iff_iff.2 ?_
  simp only [volsV, volsS, Bool.and_eq_true, chk_volF, chk_ptrG, own_meet, decide_eq_true_eq]
  have hw : (∀ p ∈ blksOf r.2, ptrV d p = true) ↔ ∀ p ∈ blksOf r.2, ptrW d p = true := by simp only [ptrV_W hp]
  rw [hw]
  constructor
  ·rintro ⟨⟨⟨a, b⟩, c⟩, e⟩; exact ⟨c, a, b, e⟩
  ·rintro ⟨c, a, b, e⟩; exact ⟨⟨⟨a, b⟩, c⟩, e⟩
theorem line_all {l : List Vol_} (h : ∀ v ∈ l, ∀ p ∈ v.2, inR .i64 p.1 ∧ inR .i64 p.2.1 ∧ ∀ a ∈ p.2.2, inR .i64 a.1 ∧ inR .i64 a.2) (hs : SmallR l) : ∀ v ∈ l, (volT v).length ≤ 1000 := by
 intro v hv
 obtain ⟨h1, h2, h3⟩ := hs.2 v hv
 have h4 := cat_len (f := lineV) (m := 300) (l := v.2) fun p hp => by
  obtain ⟨d, hd⟩ := h3 p hp
  obtain ⟨a, b, c⟩ := h v hv p hp
  exact lineV_len' a b c hd
 unfold volT
 simp only [List.length_append, List.length_cons, List.length_nil, tVol]
 rw [h2] at h4
 omega
theorem body_len {d tg : Int} {l : List Vol_} (h0 : inR .i64 tg) (h : ∀ v ∈ l, ∀ p ∈ v.2, inR .i64 p.1 ∧ inR .i64 p.2.1 ∧ ∀ a ∈ p.2.2, inR .i64 a.1 ∧ inR .i64 a.2) (hr : rootV d ((tg, l) : Root_) = true) : (bodyV ((tg, l) : Root_)).length ≤ 5000 := by
 have hs := rootV_small hr
 have h4 := cat_len (f := volT) (m := 1000) (l := l) (line_all h hs)
 have h5 : l.length ≤ 4 := hs.1
 have h6 := itoaV_len h0
 unfold bodyV
 simp only [List.length_append, List.length_cons, List.length_nil, tRoot]
 omega
end Go.Sx

namespace Go.Sx
open Go
def drN (code : List Int) : Int := 3 + pk (rd0 code) 2
def drR (code : List Int) : Root_ := (offD (nx (rd0 code)) (drN code)).1
def drP (code : List Int) : Ptr_ := (someD (nx (rd0 code)) (drN code)).1
def drQ (code : List Int) : Rd := (someD (nx (rd0 code)) (drN code)).2
def aN : List Int := [2, 5, 0]
def drM (code : List Int) : Int := if pk (drQ code) 12 = 0 then aN.getD (pk (nx (drQ code)) 3).toNat 0 else drN code
theorem drN_bd {code : List Int} (h : ROk (rd0 code) 3000) : 3 ≤ drN code ∧ drN code ≤ 4 := by
 have := pk_bd h (by omega) (n := 2) (by omega)
 unfold drN; omega
theorem someD_ok {R : Rd} {d m : Int} (hm : 0 ≤ m) (h : ROk R (m + 40)) (hd : 3 ≤ d ∧ d ≤ 4) : ROk (someD R d).2 m := by
 have h0 : ROk (nx R) (m + 39) := h.nx (by omega)
 have h1 : ROk (ptrD (nx R) d).2 (m + 9) := ptrD_ok (m := m + 9) (by omega) (h0.le (by omega)) hd
 have h2 : ROk (nx (ptrD (nx R) d).2) (m + 8) := h1.nx (by omega)
 have h3 : ROk (nx (nx (ptrD (nx R) d).2)) (m + 7) := h2.nx (by omega)
 unfold someD
 simp only
 split
 ·exact h0.le (by omega)
 ·split
  ·exact h3.le (by omega)
  ·split
   ·exact h3.le (by omega)
   ·split
    ·exact h3.le (by omega)
    ·split
     ·exact h2.le (by omega)
     ·split <;> exact h2.le (by omega)
theorem chk_mono {α : Type} {f g : List α → α → Bool} (h : ∀ pre a, f pre a = true → g pre a = true) {l : List α} (hl : chk f l = true) : chk g l = true := by
 rw [chk_iff] at hl ⊢
 exact fun i hi => h _ _ (hl i hi)
theorem poolV_iff {d : Int} : poolV d = true ↔ 3 ≤ d ∧ d ≤ 4 := by simp [poolV, inV]
theorem placeF_wide {d : Int} (hd : d ≤ 4) (pre : List Plc) (a : Plc) (h : placeF d pre a = true) : placeF 4 pre a = true := by
 simp only [placeF, placeV, Bool.and_eq_true, decide_eq_true_eq] at h ⊢
 exact ⟨⟨h.1.1, by omega, h.1.2.2⟩, h.2⟩
theorem mostV_wide {d : Int} (h : 3 ≤ d ∧ d ≤ 4) : mostV d ≤ mostV 4 := by
 obtain rfl | rfl : d = 3 ∨ d = 4 := by omega
 ·decide
 ·decide
theorem sizeV_wide {d : Int} {p : Ptr_} (hd : 3 ≤ d ∧ d ≤ 4) (h : sizeV d p = true) : sizeV 4 p = true := by
 have hm := mostV_wide hd
 simp only [sizeV, inV, Bool.and_eq_true, decide_eq_true_eq] at h ⊢
 exact ⟨⟨h.1.1, by omega⟩, h.2⟩
theorem ptrV_wide {d : Int} {p : Ptr_} (h : ptrV d p = true) : ptrV 4 p = true := by
 simp only [ptrV, Bool.and_eq_true, Bool.or_eq_true] at h ⊢
 obtain ⟨hd, h⟩ := h
 have hd2 := poolV_iff.1 hd
 refine ⟨rfl, h.imp id fun h => ⟨sizeV_wide hd2 h.1, chk_mono (placeF_wide hd2.2) h.2⟩⟩
theorem volF_wide {d : Int} (pre : List Vol_) (v : Vol_) (h : volF d pre v = true) : volF 4 pre v = true := by
 simp only [volF, Bool.and_eq_true, List.all_eq_true] at h ⊢
 exact ⟨h.1, h.2.1, h.2.2.1, fun p hp => ptrV_wide (h.2.2.2 p hp)⟩
theorem rootV_wide {d : Int} {r : Root_} (h : rootV d r = true) : rootV 4 r = true := by
 simp only [rootV, volsV, Bool.and_eq_true] at h ⊢
 exact ⟨rfl, h.2.1, ⟨chk_mono volF_wide h.2.2.1.1, h.2.2.1.2⟩, h.2.2.2⟩
theorem rootT_wide {d : Int} {r : Root_} (h : rootV d r = true) : rootT 4 r = rootT d r := by
 unfold rootT; rw [if_pos h, if_pos (rootV_wide h)]
theorem ptrV_P {d : Int} {p : Ptr_} : ptrV d p = (poolV d && ptrW d p) := by
 cases h : poolV d with
 | true => rw [ptrV_W h, Bool.true_and]
 | false => simp [ptrV, h]
end Go.Sx
