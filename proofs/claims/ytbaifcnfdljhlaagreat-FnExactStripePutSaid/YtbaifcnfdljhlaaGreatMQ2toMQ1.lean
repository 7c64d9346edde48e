/- Several texts, one behind the other. -/
import Derived.Test.YtbaifcnfdljhlaaGreatMD5toMK2
import Derived.Test.YtbaifcnfdljhlaaGreatMOpentoMPr
set_option linter.all false
namespace Go.Sx
open Go
set_option maxRecDepth 100000
set_option linter.unusedVariables false
set_option linter.unusedSimpArgs false
set_option maxHeartbeats 2000000
def cMkStr : Ctr := ⟨58, [.mu false .str (.all .w), .val false TI pF], fun x => 0 ≤ x.2.1 ∧ nxLs mkStr x.2.1 x.1 ≤ 1000000000, fun x => (sInt .i64 (nxLs mkStr x.2.1 x.1), [(⟨0, 0, 0⟩, .sl .str (.all .w) (mkLs mkStr x.2.1 x.1))])⟩
theorem cMkStr_ok : CtrOk Proofs.Tryz.prog cMkStr := by
 have hP := ((Prg.none ttok mtok).and cMkT_ok)
 refine ctr_of_body hP cMkStr (fn := Proofs.Tryz.f58) (rts := [.tmp 4]) Proofs.Tryz.func58 rfl (by kernel_rfl) rfl rfl ?_
 rintro ⟨(l : List Str), (k : Int), ⟨⟩⟩ ⟨hdl, _⟩ ⟨h0, h1⟩
 try dsimp only [Ty.den, Mode.den, mdens] at h0
 try dsimp only [Ty.den, Mode.den, mdens] at h1
 refine ⟨rfl, ?_⟩
 have hml : l.length ≤ 140737488355328 := hdl.1
 replace h0 : 0 ≤ k := h0
 replace h1 : nxLs mkStr k l ≤ 1000000000 := h1
 refine sw_seq (xr hP 1 rfl (sw_seq (sw_seq (xr hP 2 rfl (sw_block (sw_loop (ι := Nat) (fun i => ⟨[.v false [.own ⟨0, 0, 0⟩], sInt .i64 (nxLs mkStr k (l.take i)), .j, .j, .j, sInt .i64 (i : Int), .j, .j, .j, .j, .j, .j, .j, .j, .j, .j, .j, .j, .j, .j], [(⟨0, 0, 0⟩, .sl .str (.all .w) (mkLs mkStr k (l.take i) ++ l.drop i))], 2, [[.v false [.own ⟨0, 0, 0⟩], .j]]⟩) (fun i => l.length - i) (fun i => i ≤ l.length) 0 ⟨?_, ?_⟩ ?_))))))
 ·exact Nat.zero_le _
 ·refine ent_ok rfl ?_
  simp [conj, mkLs, nxLs]
 ·rintro i hi
  refine sw_seq (sw_seq (xr hP 3 rfl (sw_cond rfl (fun c2 => ?_) (fun c2 => ?_))))
  ·have hcl := mk_clen (m := mkStr) (k := k) hi
   have hlt : i < l.length := by have h : ((i : Nat) : Int) < ((mkLs mkStr k (l.take i) ++ l.drop i).length : Nat) := of_decide_eq_true c2; omega
   have hnx := mk_next (m := mkStr) (k := k) hlt
   have hnn := nx_next (m := mkStr) (k := k) hlt
   obtain ⟨s1, s2, s3⟩ := nx_split mkStr_ok (k := k) hlt
   have hget := mk_get (m := mkStr) (k := k) hlt
   have hgd : ∀ d, (mkLs mkStr k (l.take i) ++ l.drop i)[i]?.getD d = l[i] := fun d => by rw [hget]; rfl
   have hgi : ∀ h, (mkLs mkStr k (l.take i) ++ l.drop i)[i]'h = l[i] := fun h => by have h2 := hget; rw [gE h] at h2; exact Option.some.inj h2
   generalize hQ : (nxLs mkStr k (l.take i)) = Q at *
   replace s2 : Q ≤ Q + 1 := s2
   replace s3 : Q + 1 ≤ nxLs mkStr k l := s3
   refine sw_skip (sw_seq (sw_block (sw_seq (xg hP 4 [] rfl ?_ ?_))))
   ·simp [conj, hget, hgd, hgi, hcl, List.getElem?_set, hlt]
    repeat' apply And.intro
    all_goals first | trivial | assumption | omega | (show Q ≤ 1099511627776; omega)
   refine xg hP 5 [] rfl ?_ ?_
   ·simp [conj, hget, hgd, hgi, hcl, List.getElem?_set, hlt]
    repeat' apply And.intro
    all_goals first | trivial | assumption | omega | (show Q ≤ 1099511627776; omega)
   refine xg hP 6 [] rfl ?_ ?_
   ·simp only [cj, cl]
    try dsimp only [Ty.den, Ty.dflt]
    repeat' apply And.intro
    all_goals first | rfl | omega | assumption | trivial
   refine ⟨i + 1, ?_, ?_, ent_ok rfl ?_⟩
   ·exact hlt
   ·omega
   ·rw [hnn]
    simp [conj, hget, hgd, hgi, hcl, List.getElem?_set, hlt]
    repeat' apply And.intro
    all_goals first | rfl | exact hnx | omega
  ·have hcl := mk_clen (m := mkStr) (k := k) hi
   obtain rfl : i = l.length := by have h : ¬ ((i : Nat) : Int) < ((mkLs mkStr k (l.take i) ++ l.drop i).length : Nat) := of_decide_eq_false c2; omega
   refine sw_exit (sw_seq (xr hP 4 rfl (sw_ret ⟨.inl rfl, _, rfl, ?_⟩)))
   simp [conj]
def cMkBool : Ctr := ⟨59, [.mu false .bool (.all .w), .val false TI pF], fun x => 0 ≤ x.2.1 ∧ nxLs mkBool x.2.1 x.1 ≤ 1000000000, fun x => (sInt .i64 (nxLs mkBool x.2.1 x.1), [(⟨0, 0, 0⟩, .sl .bool (.all .w) (mkLs mkBool x.2.1 x.1))])⟩
theorem cMkBool_ok : CtrOk Proofs.Tryz.prog cMkBool := by
 have hP := (Prg.none ttok mtok)
 refine ctr_of_body hP cMkBool (fn := Proofs.Tryz.f59) (rts := [.tmp 4]) Proofs.Tryz.func59 rfl (by kernel_rfl) rfl rfl ?_
 rintro ⟨(l : List Bool), (k : Int), ⟨⟩⟩ ⟨hdl, _⟩ ⟨h0, h1⟩
 try dsimp only [Ty.den, Mode.den, mdens] at h0
 try dsimp only [Ty.den, Mode.den, mdens] at h1
 refine ⟨rfl, ?_⟩
 have hml : l.length ≤ 140737488355328 := hdl.1
 replace h0 : 0 ≤ k := h0
 replace h1 : nxLs mkBool k l ≤ 1000000000 := h1
 refine sw_seq (xr hP 1 rfl (sw_seq (sw_seq (xr hP 2 rfl (sw_block (sw_loop (ι := Nat) (fun i => ⟨[.v false [.own ⟨0, 0, 0⟩], sInt .i64 (nxLs mkBool k (l.take i)), .j, .j, .j, sInt .i64 (i : Int), .j, .j, .j, .j, .j, .j, .j, .j, .j, .j, .j, .j, .j, .j, .j], [(⟨0, 0, 0⟩, .sl .bool (.all .w) (mkLs mkBool k (l.take i) ++ l.drop i))], 2, [[.v false [.own ⟨0, 0, 0⟩], .j]]⟩) (fun i => l.length - i) (fun i => i ≤ l.length) 0 ⟨?_, ?_⟩ ?_))))))
 ·exact Nat.zero_le _
 ·refine ent_ok rfl ?_
  simp [conj, mkLs, nxLs]
 ·rintro i hi
  refine sw_seq (sw_seq (xr hP 3 rfl (sw_cond rfl (fun c2 => ?_) (fun c2 => ?_))))
  ·have hcl := mk_clen (m := mkBool) (k := k) hi
   have hlt : i < l.length := by have h : ((i : Nat) : Int) < ((mkLs mkBool k (l.take i) ++ l.drop i).length : Nat) := of_decide_eq_true c2; omega
   have hnx := mk_next (m := mkBool) (k := k) hlt
   have hnn := nx_next (m := mkBool) (k := k) hlt
   obtain ⟨s1, s2, s3⟩ := nx_split mkBool_ok (k := k) hlt
   have hget := mk_get (m := mkBool) (k := k) hlt
   have hgd : ∀ d, (mkLs mkBool k (l.take i) ++ l.drop i)[i]?.getD d = l[i] := fun d => by rw [hget]; rfl
   have hgi : ∀ h, (mkLs mkBool k (l.take i) ++ l.drop i)[i]'h = l[i] := fun h => by have h2 := hget; rw [gE h] at h2; exact Option.some.inj h2
   generalize hQ : (nxLs mkBool k (l.take i)) = Q at *
   replace s2 : Q ≤ Q + 1 := s2
   replace s3 : Q + 1 ≤ nxLs mkBool k l := s3
   refine sw_skip (sw_seq (sw_block (sw_seq (xg hP 4 [] rfl ?_ ?_))))
   ·simp [conj, hget, hgd, hgi, hcl, List.getElem?_set, hlt]
    repeat' apply And.intro
    all_goals first | trivial | assumption | omega
   refine xg hP 5 [] rfl ?_ ?_
   ·simp [conj, hget, hgd, hgi, hcl, List.getElem?_set, hlt]
    repeat' apply And.intro
    all_goals first | trivial | assumption | omega
   refine xg hP 6 [] rfl ?_ ?_
   ·simp only [cj, cl]
    try dsimp only [Ty.den, Ty.dflt]
    repeat' apply And.intro
    all_goals first | rfl | omega | assumption | trivial
   refine ⟨i + 1, ?_, ?_, ent_ok rfl ?_⟩
   ·exact hlt
   ·omega
   ·rw [hnn]
    simp [conj, hget, hgd, hgi, hcl, List.getElem?_set, hlt]
    repeat' apply And.intro
    all_goals first | rfl | exact hnx | omega
  ·have hcl := mk_clen (m := mkBool) (k := k) hi
   obtain rfl : i = l.length := by have h : ¬ ((i : Nat) : Int) < ((mkLs mkBool k (l.take i) ++ l.drop i).length : Nat) := of_decide_eq_false c2; omega
   refine sw_exit (sw_seq (xr hP 4 rfl (sw_ret ⟨.inl rfl, _, rfl, ?_⟩)))
   simp [conj]
def cMkInt : Ctr := ⟨29, [.mu false (.int .i64) (.all .w), .val false TI pF], fun x => 0 ≤ x.2.1 ∧ nxLs mkI x.2.1 x.1 ≤ 1000000000, fun x => (sInt .i64 (nxLs mkI x.2.1 x.1), [(⟨0, 0, 0⟩, .sl (.int .i64) (.all .w) (mkLs mkI x.2.1 x.1))])⟩
theorem cMkInt_ok : CtrOk Proofs.Tryz.prog cMkInt := by
 have hP := (Prg.none ttok mtok)
 refine ctr_of_body hP cMkInt (fn := Proofs.Tryz.f29) (rts := [.tmp 4]) Proofs.Tryz.func29 rfl (by kernel_rfl) rfl rfl ?_
 rintro ⟨(l : List Int), (k : Int), ⟨⟩⟩ ⟨hdl, _⟩ ⟨h0, h1⟩
 try dsimp only [Ty.den, Mode.den, mdens] at h0
 try dsimp only [Ty.den, Mode.den, mdens] at h1
 refine ⟨rfl, ?_⟩
 have hml : l.length ≤ 140737488355328 := hdl.1
 replace h0 : 0 ≤ k := h0
 replace h1 : nxLs mkI k l ≤ 1000000000 := h1
 refine sw_seq (xr hP 1 rfl (sw_seq (sw_seq (xr hP 2 rfl (sw_block (sw_loop (ι := Nat) (fun i => ⟨[.v false [.own ⟨0, 0, 0⟩], sInt .i64 (nxLs mkI k (l.take i)), .j, .j, .j, sInt .i64 (i : Int), .j, .j, .j, .j, .j, .j, .j, .j, .j, .j, .j, .j, .j], [(⟨0, 0, 0⟩, .sl (.int .i64) (.all .w) (mkLs mkI k (l.take i) ++ l.drop i))], 2, [[.v false [.own ⟨0, 0, 0⟩], .j]]⟩) (fun i => l.length - i) (fun i => i ≤ l.length) 0 ⟨?_, ?_⟩ ?_))))))
 ·exact Nat.zero_le _
 ·refine ent_ok rfl ?_
  simp [conj, mkLs, nxLs]
 ·rintro i hi
  refine sw_seq (sw_seq (xr hP 3 rfl (sw_cond rfl (fun c2 => ?_) (fun c2 => ?_))))
  ·have hcl := mk_clen (m := mkI) (k := k) hi
   have hlt : i < l.length := by have h : ((i : Nat) : Int) < ((mkLs mkI k (l.take i) ++ l.drop i).length : Nat) := of_decide_eq_true c2; omega
   have hnx := mk_next (m := mkI) (k := k) hlt
   have hnn := nx_next (m := mkI) (k := k) hlt
   obtain ⟨s1, s2, s3⟩ := nx_split mkI_ok (k := k) hlt
   have hget := mk_get (m := mkI) (k := k) hlt
   have hgd : ∀ d, (mkLs mkI k (l.take i) ++ l.drop i)[i]?.getD d = l[i] := fun d => by rw [hget]; rfl
   have hgi : ∀ h, (mkLs mkI k (l.take i) ++ l.drop i)[i]'h = l[i] := fun h => by have h2 := hget; rw [gE h] at h2; exact Option.some.inj h2
   generalize hQ : (nxLs mkI k (l.take i)) = Q at *
   replace s2 : Q ≤ Q + 1 := s2
   replace s3 : Q + 1 ≤ nxLs mkI k l := s3
   refine sw_skip (sw_seq (sw_block (sw_seq (xg hP 4 [] rfl ?_ ?_))))
   ·simp [conj, hget, hgd, hgi, hcl, List.getElem?_set, hlt]
    repeat' apply And.intro
    all_goals first | trivial | assumption | omega
   refine xg hP 5 [] rfl ?_ ?_
   ·simp [conj, hget, hgd, hgi, hcl, List.getElem?_set, hlt]
    repeat' apply And.intro
    all_goals first | trivial | assumption | omega
   refine xg hP 6 [] rfl ?_ ?_
   ·simp only [cj, cl]
    try dsimp only [Ty.den, Ty.dflt]
    repeat' apply And.intro
    all_goals first | rfl | omega | assumption | trivial
   refine ⟨i + 1, ?_, ?_, ent_ok rfl ?_⟩
   ·exact hlt
   ·omega
   ·rw [hnn]
    simp [conj, hget, hgd, hgi, hcl, List.getElem?_set, hlt]
    repeat' apply And.intro
    all_goals first | rfl | exact hnx | omega
  ·have hcl := mk_clen (m := mkI) (k := k) hi
   obtain rfl : i = l.length := by have h : ¬ ((i : Nat) : Int) < ((mkLs mkI k (l.take i) ++ l.drop i).length : Nat) := of_decide_eq_false c2; omega
   refine sw_exit (sw_seq (xr hP 4 rfl (sw_ret ⟨.inl rfl, _, rfl, ?_⟩)))
   simp [conj]
def cMkPut : Ctr := ⟨60, [.mu false T_Put (.all .w), .val false TI pF], fun x => 0 ≤ x.2.1 ∧ nxLs mPut x.2.1 x.1 ≤ 1000000000, fun x => (sInt .i64 (nxLs mPut x.2.1 x.1), [(⟨0, 0, 0⟩, .sl T_Put (.all .w) (mkLs mPut x.2.1 x.1))])⟩
theorem cMkPut_ok : CtrOk Proofs.Tryz.prog cMkPut := by
 have hP := ((Prg.none ttok mtok).and cMkT_ok)
 refine ctr_of_body hP cMkPut (fn := Proofs.Tryz.f60) (rts := [.tmp 4]) Proofs.Tryz.func60 rfl (by kernel_rfl) rfl rfl ?_
 rintro ⟨(l : List Put), (k : Int), ⟨⟩⟩ ⟨hdl, _⟩ ⟨h0, h1⟩
 try dsimp only [Ty.den, Mode.den, mdens] at h0
 try dsimp only [Ty.den, Mode.den, mdens] at h1
 refine ⟨rfl, ?_⟩
 have hml : l.length ≤ 140737488355328 := hdl.1
 replace h0 : 0 ≤ k := h0
 replace h1 : nxLs mPut k l ≤ 1000000000 := h1
 refine sw_seq (xr hP 1 rfl (sw_seq (sw_seq (xr hP 2 rfl (sw_block (sw_loop (ι := Nat) (fun i => ⟨[.v false [.own ⟨0, 0, 0⟩], sInt .i64 (nxLs mPut k (l.take i)), .j, .j, .j, sInt .i64 (i : Int), .j, .j, .j, .j, .j, .j, .j, .j, .j, .j, .j, .j, .j, .j, .j, .j, .j, .j, .j, .j, .j, .j, .j, .j, .j, .j, .j, .j, .j, .j, .j], [(⟨0, 0, 0⟩, .sl T_Put (.all .w) (mkLs mPut k (l.take i) ++ l.drop i))], 2, [[.v false [.own ⟨0, 0, 0⟩], .j]]⟩) (fun i => l.length - i) (fun i => i ≤ l.length) 0 ⟨?_, ?_⟩ ?_))))))
 ·exact Nat.zero_le _
 ·refine ent_ok rfl ?_
  simp [conj, mkLs, nxLs]
 ·rintro i hi
  refine sw_seq (sw_seq (xr hP 3 rfl (sw_cond rfl (fun c2 => ?_) (fun c2 => ?_))))
  ·have hcl := mk_clen (m := mPut) (k := k) hi
   have hlt : i < l.length := by have h : ((i : Nat) : Int) < ((mkLs mPut k (l.take i) ++ l.drop i).length : Nat) := of_decide_eq_true c2; omega
   have hnx := mk_next (m := mPut) (k := k) hlt
   have hnn := nx_next (m := mPut) (k := k) hlt
   obtain ⟨s1, s2, s3⟩ := nx_split mPut_ok (k := k) hlt
   have hget := mk_get (m := mPut) (k := k) hlt
   have hgd : ∀ d, (mkLs mPut k (l.take i) ++ l.drop i)[i]?.getD d = l[i] := fun d => by rw [hget]; rfl
   have hgi : ∀ h, (mkLs mPut k (l.take i) ++ l.drop i)[i]'h = l[i] := fun h => by have h2 := hget; rw [gE h] at h2; exact Option.some.inj h2
   generalize hQ : (nxLs mPut k (l.take i)) = Q at *
   replace s2 : Q ≤ Q + 1 + 1 + 1 := s2
   replace s3 : Q + 1 + 1 + 1 ≤ nxLs mPut k l := s3
   refine sw_skip (sw_seq (sw_block (sw_seq (xg hP 4 [] rfl ?_ ?_))))
   ·simp [conj, hget, hgd, hgi, hcl, List.getElem?_set, hlt]
    repeat' apply And.intro
    all_goals first | trivial | assumption | omega | (show Q + 1 + 1 ≤ 1099511627776; omega)
   refine sw_seq (xg hP 5 [] rfl ?_ ?_)
   ·simp [conj, hget, hgd, hgi, hcl, List.getElem?_set, hlt]
    repeat' apply And.intro
    all_goals first | trivial | assumption | omega | (show Q + 1 + 1 ≤ 1099511627776; omega)
   refine sw_seq (xg hP 6 [] rfl ?_ ?_)
   ·simp [conj, hget, hgd, hgi, hcl, List.getElem?_set, hlt]
    repeat' apply And.intro
    all_goals first | trivial | assumption | omega | (show Q + 1 + 1 ≤ 1099511627776; omega)
   refine sw_seq (xg hP 7 [] rfl ?_ ?_)
   ·simp [conj, hget, hgd, hgi, hcl, List.getElem?_set, hlt]
    repeat' apply And.intro
    all_goals first | trivial | assumption | omega | (show Q + 1 + 1 ≤ 1099511627776; omega)
   refine sw_seq (xg hP 8 [] rfl ?_ ?_)
   ·simp [conj, hget, hgd, hgi, hcl, List.getElem?_set, hlt]
    repeat' apply And.intro
    all_goals first | trivial | assumption | omega | (show Q + 1 + 1 ≤ 1099511627776; omega)
   refine xg hP 9 [] rfl ?_ ?_
   ·simp [conj, hget, hgd, hgi, hcl, List.getElem?_set, hlt]
    repeat' apply And.intro
    all_goals first | trivial | assumption | omega | (show Q + 1 + 1 ≤ 1099511627776; omega)
   refine xg hP 10 [] rfl ?_ ?_
   ·simp only [cj, cl]
    try dsimp only [Ty.den, Ty.dflt]
    repeat' apply And.intro
    all_goals first | rfl | omega | assumption | trivial
   refine ⟨i + 1, ?_, ?_, ent_ok rfl ?_⟩
   ·exact hlt
   ·omega
   ·rw [hnn]
    simp [conj, hget, hgd, hgi, hcl, List.getElem?_set, hlt]
    repeat' apply And.intro
    all_goals first | rfl | exact hnx | omega
  ·have hcl := mk_clen (m := mPut) (k := k) hi
   obtain rfl : i = l.length := by have h : ¬ ((i : Nat) : Int) < ((mkLs mPut k (l.take i) ++ l.drop i).length : Nat) := of_decide_eq_false c2; omega
   refine sw_exit (sw_seq (xr hP 4 rfl (sw_ret ⟨.inl rfl, _, rfl, ?_⟩)))
   simp [conj]
def cMkDs : Ctr := ⟨18, [.mu false T_Disk (.all .w), .val false TI pF], fun x => 0 ≤ x.2.1 ∧ nxLs mDsk x.2.1 x.1 ≤ 1000000000, fun x => (sInt .i64 (nxLs mDsk x.2.1 x.1), [(⟨0, 0, 0⟩, .sl T_Disk (.all .w) (mkLs mDsk x.2.1 x.1))])⟩
theorem cMkDs_ok : CtrOk Proofs.Tryz.prog cMkDs := by
 have hP := ((((Prg.none ttok mtok).and cMkStr_ok).and cMkBool_ok).and cMkPut_ok)
 refine ctr_of_body hP cMkDs (fn := Proofs.Tryz.f18) (rts := [.tmp 4]) Proofs.Tryz.func18 rfl (by kernel_rfl) rfl rfl ?_
 rintro ⟨(l : List Dsk), (k : Int), ⟨⟩⟩ ⟨hdl, _⟩ ⟨h0, h1⟩
 try dsimp only [Ty.den, Mode.den, mdens] at h0
 try dsimp only [Ty.den, Mode.den, mdens] at h1
 refine ⟨rfl, ?_⟩
 have hml : l.length ≤ 140737488355328 := hdl.1
 replace h0 : 0 ≤ k := h0
 replace h1 : nxLs mDsk k l ≤ 1000000000 := h1
 refine sw_seq (xr hP 1 rfl (sw_seq (sw_seq (xr hP 2 rfl (sw_block (sw_loop (ι := Nat) (fun i => ⟨[.v false [.own ⟨0, 0, 0⟩], sInt .i64 (nxLs mDsk k (l.take i)), .j, .j, .j, sInt .i64 (i : Int), .j, .j, .j, .j, .j, .j, .j, .j, .j, .j, .j, .j, .j, .j, .j, .j, .j, .j, .j, .j, .j, .j, .j, .j, .j, .j, .j, .j, .j, .j, .j, .j, .j, .j, .j, .j, .j, .j, .j, .j, .j, .j], [(⟨0, 0, 0⟩, .sl T_Disk (.all .w) (mkLs mDsk k (l.take i) ++ l.drop i))], 2, [[.v false [.own ⟨0, 0, 0⟩], .j]]⟩) (fun i => l.length - i) (fun i => i ≤ l.length) 0 ⟨?_, ?_⟩ ?_))))))
 ·exact Nat.zero_le _
 ·refine ent_ok rfl ?_
  simp [conj, mkLs, nxLs]
 ·rintro i hi
  refine sw_seq (sw_seq (xr hP 3 rfl (sw_cond rfl (fun c2 => ?_) (fun c2 => ?_))))
  ·have hcl := mk_clen (m := mDsk) (k := k) hi
   have hlt : i < l.length := by have h : ((i : Nat) : Int) < ((mkLs mDsk k (l.take i) ++ l.drop i).length : Nat) := of_decide_eq_true c2; omega
   have hnx := mk_next (m := mDsk) (k := k) hlt
   have hnn := nx_next (m := mDsk) (k := k) hlt
   obtain ⟨s1, s2, s3⟩ := nx_split mDsk_ok (k := k) hlt
   have hget := mk_get (m := mDsk) (k := k) hlt
   have hgd : ∀ d, (mkLs mDsk k (l.take i) ++ l.drop i)[i]?.getD d = l[i] := fun d => by rw [hget]; rfl
   have hgi : ∀ h, (mkLs mDsk k (l.take i) ++ l.drop i)[i]'h = l[i] := fun h => by have h2 := hget; rw [gE h] at h2; exact Option.some.inj h2
   generalize hQ : (nxLs mDsk k (l.take i)) = Q at *
   have s4 : (Q + 1) ≤ (nxLs mkStr (Q + 1) l[i].2.1) := (mkList_ok mkStr_ok).ge _ _
   have s5 : (nxLs mkStr (Q + 1) l[i].2.1) ≤ (nxLs mkStr (nxLs mkStr (Q + 1) l[i].2.1) l[i].2.2.1) := (mkList_ok mkStr_ok).ge _ _
   have s6 : (nxLs mkStr (nxLs mkStr (Q + 1) l[i].2.1) l[i].2.2.1) ≤ (nxLs mkBool (nxLs mkStr (nxLs mkStr (Q + 1) l[i].2.1) l[i].2.2.1) l[i].2.2.2.1) := (mkList_ok mkBool_ok).ge _ _
   have s7 : (nxLs mkBool (nxLs mkStr (nxLs mkStr (Q + 1) l[i].2.1) l[i].2.2.1) l[i].2.2.2.1) ≤ (nxLs mPut (nxLs mkBool (nxLs mkStr (nxLs mkStr (Q + 1) l[i].2.1) l[i].2.2.1) l[i].2.2.2.1) l[i].2.2.2.2) := (mkList_ok mPut_ok).ge _ _
   replace s3 : (nxLs mPut (nxLs mkBool (nxLs mkStr (nxLs mkStr (Q + 1) l[i].2.1) l[i].2.2.1) l[i].2.2.2.1) l[i].2.2.2.2) ≤ nxLs mDsk k l := s3
   refine sw_skip (sw_seq (sw_block (sw_seq (xg hP 4 [] rfl ?_ ?_))))
   ·simp [conj, hget, hgd, hgi, hcl, List.getElem?_set, hlt]
    repeat' apply And.intro
    all_goals first | trivial | assumption | omega | (show 0 ≤ (Q + 1); omega) | (show (Q + 1) ≤ _; omega) | (show 0 ≤ (nxLs mkStr (Q + 1) l[i].2.1); omega) | (show (nxLs mkStr (Q + 1) l[i].2.1) ≤ _; omega) | (show 0 ≤ (nxLs mkStr (nxLs mkStr (Q + 1) l[i].2.1) l[i].2.2.1); omega) | (show (nxLs mkStr (nxLs mkStr (Q + 1) l[i].2.1) l[i].2.2.1) ≤ _; omega) | (show 0 ≤ (nxLs mkBool (nxLs mkStr (nxLs mkStr (Q + 1) l[i].2.1) l[i].2.2.1) l[i].2.2.2.1); omega) | (show (nxLs mkBool (nxLs mkStr (nxLs mkStr (Q + 1) l[i].2.1) l[i].2.2.1) l[i].2.2.2.1) ≤ _; omega) | (show 0 ≤ (nxLs mPut (nxLs mkBool (nxLs mkStr (nxLs mkStr (Q + 1) l[i].2.1) l[i].2.2.1) l[i].2.2.2.1) l[i].2.2.2.2); omega) | (show (nxLs mPut (nxLs mkBool (nxLs mkStr (nxLs mkStr (Q + 1) l[i].2.1) l[i].2.2.1) l[i].2.2.2.1) l[i].2.2.2.2) ≤ _; omega)
   refine sw_seq (xg hP 5 [] rfl ?_ ?_)
   ·simp [conj, hget, hgd, hgi, hcl, List.getElem?_set, hlt]
    repeat' apply And.intro
    all_goals first | trivial | assumption | omega | (show 0 ≤ (Q + 1); omega) | (show (Q + 1) ≤ _; omega) | (show 0 ≤ (nxLs mkStr (Q + 1) l[i].2.1); omega) | (show (nxLs mkStr (Q + 1) l[i].2.1) ≤ _; omega) | (show 0 ≤ (nxLs mkStr (nxLs mkStr (Q + 1) l[i].2.1) l[i].2.2.1); omega) | (show (nxLs mkStr (nxLs mkStr (Q + 1) l[i].2.1) l[i].2.2.1) ≤ _; omega) | (show 0 ≤ (nxLs mkBool (nxLs mkStr (nxLs mkStr (Q + 1) l[i].2.1) l[i].2.2.1) l[i].2.2.2.1); omega) | (show (nxLs mkBool (nxLs mkStr (nxLs mkStr (Q + 1) l[i].2.1) l[i].2.2.1) l[i].2.2.2.1) ≤ _; omega) | (show 0 ≤ (nxLs mPut (nxLs mkBool (nxLs mkStr (nxLs mkStr (Q + 1) l[i].2.1) l[i].2.2.1) l[i].2.2.2.1) l[i].2.2.2.2); omega) | (show (nxLs mPut (nxLs mkBool (nxLs mkStr (nxLs mkStr (Q + 1) l[i].2.1) l[i].2.2.1) l[i].2.2.2.1) l[i].2.2.2.2) ≤ _; omega)
   refine sw_seq (xg hP 6 [] rfl ?_ ?_)
   ·simp [conj, hget, hgd, hgi, hcl, List.getElem?_set, hlt]
    repeat' apply And.intro
    all_goals first | trivial | assumption | omega | (show 0 ≤ (Q + 1); omega) | (show (Q + 1) ≤ _; omega) | (show 0 ≤ (nxLs mkStr (Q + 1) l[i].2.1); omega) | (show (nxLs mkStr (Q + 1) l[i].2.1) ≤ _; omega) | (show 0 ≤ (nxLs mkStr (nxLs mkStr (Q + 1) l[i].2.1) l[i].2.2.1); omega) | (show (nxLs mkStr (nxLs mkStr (Q + 1) l[i].2.1) l[i].2.2.1) ≤ _; omega) | (show 0 ≤ (nxLs mkBool (nxLs mkStr (nxLs mkStr (Q + 1) l[i].2.1) l[i].2.2.1) l[i].2.2.2.1); omega) | (show (nxLs mkBool (nxLs mkStr (nxLs mkStr (Q + 1) l[i].2.1) l[i].2.2.1) l[i].2.2.2.1) ≤ _; omega) | (show 0 ≤ (nxLs mPut (nxLs mkBool (nxLs mkStr (nxLs mkStr (Q + 1) l[i].2.1) l[i].2.2.1) l[i].2.2.2.1) l[i].2.2.2.2); omega) | (show (nxLs mPut (nxLs mkBool (nxLs mkStr (nxLs mkStr (Q + 1) l[i].2.1) l[i].2.2.1) l[i].2.2.2.1) l[i].2.2.2.2) ≤ _; omega)
   refine sw_seq (xg hP 7 [] rfl ?_ ?_)
   ·simp [conj, hget, hgd, hgi, hcl, List.getElem?_set, hlt]
    repeat' apply And.intro
    all_goals first | trivial | assumption | omega | (show 0 ≤ (Q + 1); omega) | (show (Q + 1) ≤ _; omega) | (show 0 ≤ (nxLs mkStr (Q + 1) l[i].2.1); omega) | (show (nxLs mkStr (Q + 1) l[i].2.1) ≤ _; omega) | (show 0 ≤ (nxLs mkStr (nxLs mkStr (Q + 1) l[i].2.1) l[i].2.2.1); omega) | (show (nxLs mkStr (nxLs mkStr (Q + 1) l[i].2.1) l[i].2.2.1) ≤ _; omega) | (show 0 ≤ (nxLs mkBool (nxLs mkStr (nxLs mkStr (Q + 1) l[i].2.1) l[i].2.2.1) l[i].2.2.2.1); omega) | (show (nxLs mkBool (nxLs mkStr (nxLs mkStr (Q + 1) l[i].2.1) l[i].2.2.1) l[i].2.2.2.1) ≤ _; omega) | (show 0 ≤ (nxLs mPut (nxLs mkBool (nxLs mkStr (nxLs mkStr (Q + 1) l[i].2.1) l[i].2.2.1) l[i].2.2.2.1) l[i].2.2.2.2); omega) | (show (nxLs mPut (nxLs mkBool (nxLs mkStr (nxLs mkStr (Q + 1) l[i].2.1) l[i].2.2.1) l[i].2.2.2.1) l[i].2.2.2.2) ≤ _; omega)
   refine sw_seq (xg hP 8 [] rfl ?_ ?_)
   ·simp [conj, hget, hgd, hgi, hcl, List.getElem?_set, hlt]
    repeat' apply And.intro
    all_goals first | trivial | assumption | omega | (show 0 ≤ (Q + 1); omega) | (show (Q + 1) ≤ _; omega) | (show 0 ≤ (nxLs mkStr (Q + 1) l[i].2.1); omega) | (show (nxLs mkStr (Q + 1) l[i].2.1) ≤ _; omega) | (show 0 ≤ (nxLs mkStr (nxLs mkStr (Q + 1) l[i].2.1) l[i].2.2.1); omega) | (show (nxLs mkStr (nxLs mkStr (Q + 1) l[i].2.1) l[i].2.2.1) ≤ _; omega) | (show 0 ≤ (nxLs mkBool (nxLs mkStr (nxLs mkStr (Q + 1) l[i].2.1) l[i].2.2.1) l[i].2.2.2.1); omega) | (show (nxLs mkBool (nxLs mkStr (nxLs mkStr (Q + 1) l[i].2.1) l[i].2.2.1) l[i].2.2.2.1) ≤ _; omega) | (show 0 ≤ (nxLs mPut (nxLs mkBool (nxLs mkStr (nxLs mkStr (Q + 1) l[i].2.1) l[i].2.2.1) l[i].2.2.2.1) l[i].2.2.2.2); omega) | (show (nxLs mPut (nxLs mkBool (nxLs mkStr (nxLs mkStr (Q + 1) l[i].2.1) l[i].2.2.1) l[i].2.2.2.1) l[i].2.2.2.2) ≤ _; omega)
   refine xg hP 9 [] rfl ?_ ?_
   ·simp [conj, hget, hgd, hgi, hcl, List.getElem?_set, hlt]
    repeat' apply And.intro
    all_goals first | trivial | assumption | omega | (show 0 ≤ (Q + 1); omega) | (show (Q + 1) ≤ _; omega) | (show 0 ≤ (nxLs mkStr (Q + 1) l[i].2.1); omega) | (show (nxLs mkStr (Q + 1) l[i].2.1) ≤ _; omega) | (show 0 ≤ (nxLs mkStr (nxLs mkStr (Q + 1) l[i].2.1) l[i].2.2.1); omega) | (show (nxLs mkStr (nxLs mkStr (Q + 1) l[i].2.1) l[i].2.2.1) ≤ _; omega) | (show 0 ≤ (nxLs mkBool (nxLs mkStr (nxLs mkStr (Q + 1) l[i].2.1) l[i].2.2.1) l[i].2.2.2.1); omega) | (show (nxLs mkBool (nxLs mkStr (nxLs mkStr (Q + 1) l[i].2.1) l[i].2.2.1) l[i].2.2.2.1) ≤ _; omega) | (show 0 ≤ (nxLs mPut (nxLs mkBool (nxLs mkStr (nxLs mkStr (Q + 1) l[i].2.1) l[i].2.2.1) l[i].2.2.2.1) l[i].2.2.2.2); omega) | (show (nxLs mPut (nxLs mkBool (nxLs mkStr (nxLs mkStr (Q + 1) l[i].2.1) l[i].2.2.1) l[i].2.2.2.1) l[i].2.2.2.2) ≤ _; omega)
   refine xg hP 10 [] rfl ?_ ?_
   ·simp only [cj, cl]
    try dsimp only [Ty.den, Ty.dflt]
    repeat' apply And.intro
    all_goals first | rfl | omega | assumption | trivial
   refine ⟨i + 1, ?_, ?_, ent_ok rfl ?_⟩
   ·exact hlt
   ·omega
   ·rw [hnn]
    simp [conj, hget, hgd, hgi, hcl, List.getElem?_set, hlt]
    repeat' apply And.intro
    all_goals first | rfl | exact hnx | omega
  ·have hcl := mk_clen (m := mDsk) (k := k) hi
   obtain rfl : i = l.length := by have h : ¬ ((i : Nat) : Int) < ((mkLs mDsk k (l.take i) ++ l.drop i).length : Nat) := of_decide_eq_false c2; omega
   refine sw_exit (sw_seq (xr hP 4 rfl (sw_ret ⟨.inl rfl, _, rfl, ?_⟩)))
   simp [conj]
def cHdStr : Ctr := ⟨62, [.val false (.sl .str) (.all .b), .val false TI pF], fun x => 0 ≤ x.2.1 ∧ nxLs mkStr x.2.1 x.1 ≤ 1000000000, fun x => (sInt .i64 (hdLs mkStr x.2.1 x.1), [])⟩
theorem cHdStr_ok : CtrOk Proofs.Tryz.prog cHdStr := by
 have hP := ((Prg.none ttok mtok).and cMkT_ok)
 refine ctr_of_body hP cHdStr (fn := Proofs.Tryz.f62) (rts := [.tmp 4]) Proofs.Tryz.func62 rfl (by kernel_rfl) rfl rfl ?_
 rintro ⟨(l : List Str), (k : Int), ⟨⟩⟩ ⟨hdl, _⟩ ⟨h0, h1⟩
 try dsimp only [Ty.den, Mode.den, mdens] at h0
 try dsimp only [Ty.den, Mode.den, mdens] at h1
 refine ⟨rfl, ?_⟩
 have hml : l.length ≤ 140737488355328 := hdl.1
 replace h0 : 0 ≤ k := h0
 replace h1 : nxLs mkStr k l ≤ 1000000000 := h1
 refine sw_seq (xr hP 1 rfl (sw_seq (sw_seq (xr hP 2 rfl (sw_block (sw_loop (ι := Nat × Int) (fun ⟨i, q⟩ => ⟨[.v false [.d (.sl .str) (.all .b) l], sInt .i64 q, .j, .j, .j, sInt .i64 (i : Int), .j, .j, .j, .j, .j, .j, .j, .j, .j, .j, .j, .j, .j, .j, .j, .j], [], 2, []⟩) (fun ⟨i, q⟩ => l.length - i) (fun ⟨i, q⟩ => i ≤ l.length ∧ 0 ≤ q ∧ hdLs mkStr q (l.drop i) = hdLs mkStr k l ∧ nxLs mkStr q (l.drop i) ≤ 1000000000) (0, k) ⟨?_, ?_⟩ ?_))))))
 ·exact ⟨Nat.zero_le _, h0, rfl, h1⟩
 ·refine ent_ok rfl ?_
  simp [conj]
 ·rintro ⟨i, q⟩ ⟨hi, hq, hgo, hb⟩
  refine sw_seq (sw_seq (xr hP 3 rfl (sw_cond rfl (fun c2 => ?_) (fun c2 => ?_))))
  ·have hlt : i < l.length := by simpa using c2
   obtain ⟨s1, s2, s3⟩ := nx_drop mkStr_ok (q := q) hlt
   rw [s1] at hb
   have hp0 : ¬ q + 1 < 0 := by omega
   replace s2 : q ≤ q + 1 := s2
   replace s3 : q + 1 ≤ nxLs mkStr (q + 1) (l.drop (i + 1)) := s3
   replace hb : nxLs mkStr (q + 1) (l.drop (i + 1)) ≤ 1000000000 := hb
   refine sw_skip (sw_seq (sw_block (sw_seq (sw_seq (xg hP 4 [] rfl ?_ ?_)))))
   ·simp [conj, gE hlt]
    repeat' apply And.intro
    all_goals first | trivial | assumption | omega | (show q ≤ 1099511627776; omega)
   refine sw_cond rfl (fun c4 => ?_) (fun c4 => ?_)
   ·replace c4 : ¬ l[i] = mkT q := by simpa [gE hlt] using c4
    have hn : mkStr.hd q l[i] < 0 := by simp [mkStr, mkPair, mkI, mkStr, mkBool, mkOne, mkList, mkNo, c4, hp0]
    refine sw_seq (xg hP 5 [] rfl ?_ ?_)
    ·simp [conj, gE hlt]
     repeat' apply And.intro
     all_goals first | trivial | assumption | omega | (show q ≤ 1099511627776; omega)
    refine sw_ret ⟨.inl rfl, _, rfl, ?_⟩
    simp [conj]
    exact (hd_hit hlt hgo hn).symm
   ·replace c4 : l[i] = mkT q := by simpa [gE hlt] using c4
    have hv : mkStr.hd q l[i] = q + 1 := by simp [mkStr, mkPair, mkI, mkStr, mkBool, mkOne, mkList, mkNo, c4, hp0]
    refine sw_skip (xg hP 5 [] rfl ?_ ?_)
    ·simp [conj, gE hlt]
     repeat' apply And.intro
     all_goals first | trivial | assumption | omega | (show q ≤ 1099511627776; omega)
    refine xg hP 6 [] rfl ?_ ?_
    ·simp only [cj, cl]
     try dsimp only [Ty.den, Ty.dflt]
     repeat' apply And.intro
     all_goals first | rfl | omega | assumption | trivial
    refine ⟨(i + 1, q + 1), ?_, ?_, ent_ok rfl ?_⟩
    ·have hnn : ¬ mkStr.hd q l[i] < 0 := by rw [hv]; omega
     have hgn := hd_next hlt hgo hnn
     have hpo := hd_pos mkStr_ok hnn
     have hbn : nxLs mkStr (q + 1) (l.drop (i + 1)) ≤ 1000000000 := by rw [← hv, hpo]; exact hb
     rw [hv] at hgn
     exact ⟨hlt, by show 0 ≤ q + 1; omega, hgn, hbn⟩
    ·show l.length - (i + 1) < l.length - i
     omega
    ·simp [conj, gE hlt]
  ·obtain rfl : i = l.length := by simp at c2; omega
   refine sw_exit (sw_seq (xr hP 4 rfl (sw_ret ⟨.inl rfl, _, rfl, ?_⟩)))
   simp [conj]
   exact (hd_end hgo).symm
def cHdBool : Ctr := ⟨63, [.val false (.sl .bool) (.all .b), .val false TI pF], fun x => 0 ≤ x.2.1 ∧ nxLs mkBool x.2.1 x.1 ≤ 1000000000, fun x => (sInt .i64 (hdLs mkBool x.2.1 x.1), [])⟩
theorem cHdBool_ok : CtrOk Proofs.Tryz.prog cHdBool := by
 have hP := (Prg.none ttok mtok)
 refine ctr_of_body hP cHdBool (fn := Proofs.Tryz.f63) (rts := [.tmp 4]) Proofs.Tryz.func63 rfl (by kernel_rfl) rfl rfl ?_
 rintro ⟨(l : List Bool), (k : Int), ⟨⟩⟩ ⟨hdl, _⟩ ⟨h0, h1⟩
 try dsimp only [Ty.den, Mode.den, mdens] at h0
 try dsimp only [Ty.den, Mode.den, mdens] at h1
 refine ⟨rfl, ?_⟩
 have hml : l.length ≤ 140737488355328 := hdl.1
 replace h0 : 0 ≤ k := h0
 replace h1 : nxLs mkBool k l ≤ 1000000000 := h1
 refine sw_seq (xr hP 1 rfl (sw_seq (sw_seq (xr hP 2 rfl (sw_block (sw_loop (ι := Nat × Int) (fun ⟨i, q⟩ => ⟨[.v false [.d (.sl .bool) (.all .b) l], sInt .i64 q, .j, .j, .j, sInt .i64 (i : Int), .j, .j, .j, .j, .j, .j, .j, .j, .j, .j, .j, .j, .j, .j, .j, .j, .j], [], 2, []⟩) (fun ⟨i, q⟩ => l.length - i) (fun ⟨i, q⟩ => i ≤ l.length ∧ 0 ≤ q ∧ hdLs mkBool q (l.drop i) = hdLs mkBool k l ∧ nxLs mkBool q (l.drop i) ≤ 1000000000) (0, k) ⟨?_, ?_⟩ ?_))))))
 ·exact ⟨Nat.zero_le _, h0, rfl, h1⟩
 ·refine ent_ok rfl ?_
  simp [conj]
 ·rintro ⟨i, q⟩ ⟨hi, hq, hgo, hb⟩
  refine sw_seq (sw_seq (xr hP 3 rfl (sw_cond rfl (fun c2 => ?_) (fun c2 => ?_))))
  ·have hlt : i < l.length := by simpa using c2
   obtain ⟨s1, s2, s3⟩ := nx_drop mkBool_ok (q := q) hlt
   rw [s1] at hb
   have hp0 : ¬ q + 1 < 0 := by omega
   replace s2 : q ≤ q + 1 := s2
   replace s3 : q + 1 ≤ nxLs mkBool (q + 1) (l.drop (i + 1)) := s3
   replace hb : nxLs mkBool (q + 1) (l.drop (i + 1)) ≤ 1000000000 := hb
   refine sw_skip (sw_seq (sw_block (sw_seq (sw_seq (xg hP 4 [] rfl ?_ ?_)))))
   ·simp [conj, gE hlt]
    repeat' apply And.intro
    all_goals first | trivial | assumption | omega
   refine sw_cond rfl (fun c4 => ?_) (fun c4 => ?_)
   ·replace c4 : ¬ l[i] = mkB q := by simpa [gE hlt, mkB] using c4
    have hn : mkBool.hd q l[i] < 0 := by simp [mkBool, mkPair, mkI, mkStr, mkBool, mkOne, mkList, mkNo, c4, hp0]
    refine sw_seq (xg hP 5 [] rfl ?_ ?_)
    ·simp [conj, gE hlt]
     repeat' apply And.intro
     all_goals first | trivial | assumption | omega
    refine sw_ret ⟨.inl rfl, _, rfl, ?_⟩
    simp [conj]
    exact (hd_hit hlt hgo hn).symm
   ·replace c4 : l[i] = mkB q := by simpa [gE hlt, mkB] using c4
    have hv : mkBool.hd q l[i] = q + 1 := by simp [mkBool, mkPair, mkI, mkStr, mkBool, mkOne, mkList, mkNo, c4, hp0]
    refine sw_skip (xg hP 5 [] rfl ?_ ?_)
    ·simp [conj, gE hlt]
     repeat' apply And.intro
     all_goals first | trivial | assumption | omega
    refine xg hP 6 [] rfl ?_ ?_
    ·simp only [cj, cl]
     try dsimp only [Ty.den, Ty.dflt]
     repeat' apply And.intro
     all_goals first | rfl | omega | assumption | trivial
    refine ⟨(i + 1, q + 1), ?_, ?_, ent_ok rfl ?_⟩
    ·have hnn : ¬ mkBool.hd q l[i] < 0 := by rw [hv]; omega
     have hgn := hd_next hlt hgo hnn
     have hpo := hd_pos mkBool_ok hnn
     have hbn : nxLs mkBool (q + 1) (l.drop (i + 1)) ≤ 1000000000 := by rw [← hv, hpo]; exact hb
     rw [hv] at hgn
     exact ⟨hlt, by show 0 ≤ q + 1; omega, hgn, hbn⟩
    ·show l.length - (i + 1) < l.length - i
     omega
    ·simp [conj, gE hlt]
  ·obtain rfl : i = l.length := by simp at c2; omega
   refine sw_exit (sw_seq (xr hP 4 rfl (sw_ret ⟨.inl rfl, _, rfl, ?_⟩)))
   simp [conj]
   exact (hd_end hgo).symm
def cHdPut : Ctr := ⟨64, [.val false (.sl T_Put) (.all .b), .val false TI pF], fun x => 0 ≤ x.2.1 ∧ nxLs mPut x.2.1 x.1 ≤ 1000000000, fun x => (sInt .i64 (hdLs mPut x.2.1 x.1), [])⟩
theorem cHdPut_ok : CtrOk Proofs.Tryz.prog cHdPut := by
 have hP := ((Prg.none ttok mtok).and cMkT_ok)
 refine ctr_of_body hP cHdPut (fn := Proofs.Tryz.f64) (rts := [.tmp 4]) Proofs.Tryz.func64 rfl (by kernel_rfl) rfl rfl ?_
 rintro ⟨(l : List Put), (k : Int), ⟨⟩⟩ ⟨hdl, _⟩ ⟨h0, h1⟩
 try dsimp only [Ty.den, Mode.den, mdens] at h0
 try dsimp only [Ty.den, Mode.den, mdens] at h1
 refine ⟨rfl, ?_⟩
 have hml : l.length ≤ 140737488355328 := hdl.1
 replace h0 : 0 ≤ k := h0
 replace h1 : nxLs mPut k l ≤ 1000000000 := h1
 refine sw_seq (xr hP 1 rfl (sw_seq (sw_seq (xr hP 2 rfl (sw_block (sw_loop (ι := Nat × Int) (fun ⟨i, q⟩ => ⟨[.v false [.d (.sl T_Put) (.all .b) l], sInt .i64 q, .j, .j, .j, sInt .i64 (i : Int), .j, .j, .j, .j, .j, .j, .j, .j, .j, .j, .j, .j, .j, .j, .j, .j, .j, .j, .j, .j, .j, .j, .j, .j, .j, .j, .j, .j, .j, .j, .j, .j, .j, .j, .j, .j, .j], [], 2, []⟩) (fun ⟨i, q⟩ => l.length - i) (fun ⟨i, q⟩ => i ≤ l.length ∧ 0 ≤ q ∧ hdLs mPut q (l.drop i) = hdLs mPut k l ∧ nxLs mPut q (l.drop i) ≤ 1000000000) (0, k) ⟨?_, ?_⟩ ?_))))))
 ·exact ⟨Nat.zero_le _, h0, rfl, h1⟩
 ·refine ent_ok rfl ?_
  simp [conj]
 ·rintro ⟨i, q⟩ ⟨hi, hq, hgo, hb⟩
  refine sw_seq (sw_seq (xr hP 3 rfl (sw_cond rfl (fun c2 => ?_) (fun c2 => ?_))))
  ·have hlt : i < l.length := by simpa using c2
   obtain ⟨s1, s2, s3⟩ := nx_drop mPut_ok (q := q) hlt
   rw [s1] at hb
   have hp0 : ¬ q + 1 < 0 := by omega
   have hp1 : ¬ q + 1 + 1 < 0 := by omega
   replace s2 : q ≤ q + 1 + 1 + 1 := s2
   replace s3 : q + 1 + 1 + 1 ≤ nxLs mPut (q + 1 + 1 + 1) (l.drop (i + 1)) := s3
   replace hb : nxLs mPut (q + 1 + 1 + 1) (l.drop (i + 1)) ≤ 1000000000 := hb
   refine sw_skip (sw_seq (sw_block (sw_seq (sw_seq (xg hP 4 [] rfl ?_ ?_)))))
   ·simp [conj, gE hlt]
    repeat' apply And.intro
    all_goals first | trivial | assumption | omega | (show q + 1 + 1 ≤ 1099511627776; omega)
   refine sw_cond rfl (fun c4 => ?_) (fun c4 => ?_)
   ·replace c4 : ¬ l[i].1 = mkB q := by simpa [gE hlt, mkB] using c4
    have hn : mPut.hd q l[i] < 0 := by simp [mPut, mkPair, mkI, mkStr, mkBool, mkOne, mkList, mkNo, c4, hp0, hp1]
    refine sw_seq (xg hP 5 [] rfl ?_ ?_)
    ·simp [conj, gE hlt]
     repeat' apply And.intro
     all_goals first | trivial | assumption | omega | (show q + 1 + 1 ≤ 1099511627776; omega)
    refine sw_ret ⟨.inl rfl, _, rfl, ?_⟩
    simp [conj]
    exact (hd_hit hlt hgo hn).symm
   ·replace c4 : l[i].1 = mkB q := by simpa [gE hlt, mkB] using c4
    refine sw_skip (sw_seq (xg hP 5 [] rfl ?_ ?_))
    ·simp [conj, gE hlt]
     repeat' apply And.intro
     all_goals first | trivial | assumption | omega | (show q + 1 + 1 ≤ 1099511627776; omega)
    refine sw_seq (sw_seq (xg hP 6 [] rfl ?_ ?_))
    ·simp [conj, gE hlt]
     repeat' apply And.intro
     all_goals first | trivial | assumption | omega | (show q + 1 + 1 ≤ 1099511627776; omega)
    refine sw_cond rfl (fun c7 => ?_) (fun c7 => ?_)
    ·replace c7 : ¬ l[i].2.1 = q + 1 := by simpa [gE hlt] using c7
     have hn : mPut.hd q l[i] < 0 := by simp [mPut, mkPair, mkI, mkStr, mkBool, mkOne, mkList, mkNo, c4, c7, hp0, hp1]
     refine sw_seq (xg hP 7 [] rfl ?_ ?_)
     ·simp [conj, gE hlt]
      repeat' apply And.intro
      all_goals first | trivial | assumption | omega | (show q + 1 + 1 ≤ 1099511627776; omega)
     refine sw_ret ⟨.inl rfl, _, rfl, ?_⟩
     simp [conj]
     exact (hd_hit hlt hgo hn).symm
    ·replace c7 : l[i].2.1 = q + 1 := by simpa [gE hlt] using c7
     refine sw_skip (sw_seq (xg hP 7 [] rfl ?_ ?_))
     ·simp [conj, gE hlt]
      repeat' apply And.intro
      all_goals first | trivial | assumption | omega | (show q + 1 + 1 ≤ 1099511627776; omega)
     refine sw_seq (sw_seq (xg hP 8 [] rfl ?_ ?_))
     ·simp [conj, gE hlt]
      repeat' apply And.intro
      all_goals first | trivial | assumption | omega | (show q + 1 + 1 ≤ 1099511627776; omega)
     refine sw_cond rfl (fun c10 => ?_) (fun c10 => ?_)
     ·replace c10 : ¬ l[i].2.2 = mkT (q + 1 + 1) := by simpa [gE hlt] using c10
      have hn : mPut.hd q l[i] < 0 := by simp [mPut, mkPair, mkI, mkStr, mkBool, mkOne, mkList, mkNo, c4, c7, c10, hp0, hp1]
      refine sw_seq (xg hP 9 [] rfl ?_ ?_)
      ·simp [conj, gE hlt]
       repeat' apply And.intro
       all_goals first | trivial | assumption | omega | (show q + 1 + 1 ≤ 1099511627776; omega)
      refine sw_ret ⟨.inl rfl, _, rfl, ?_⟩
      simp [conj]
      exact (hd_hit hlt hgo hn).symm
     ·replace c10 : l[i].2.2 = mkT (q + 1 + 1) := by simpa [gE hlt] using c10
      have hv : mPut.hd q l[i] = q + 1 + 1 + 1 := by simp [mPut, mkPair, mkI, mkStr, mkBool, mkOne, mkList, mkNo, c4, c7, c10, hp0, hp1]
      refine sw_skip (xg hP 9 [] rfl ?_ ?_)
      ·simp [conj, gE hlt]
       repeat' apply And.intro
       all_goals first | trivial | assumption | omega | (show q + 1 + 1 ≤ 1099511627776; omega)
      refine xg hP 10 [] rfl ?_ ?_
      ·simp only [cj, cl]
       try dsimp only [Ty.den, Ty.dflt]
       repeat' apply And.intro
       all_goals first | rfl | omega | assumption | trivial
      refine ⟨(i + 1, q + 1 + 1 + 1), ?_, ?_, ent_ok rfl ?_⟩
      ·have hnn : ¬ mPut.hd q l[i] < 0 := by rw [hv]; omega
       have hgn := hd_next hlt hgo hnn
       have hpo := hd_pos mPut_ok hnn
       have hbn : nxLs mPut (q + 1 + 1 + 1) (l.drop (i + 1)) ≤ 1000000000 := by rw [← hv, hpo]; exact hb
       rw [hv] at hgn
       exact ⟨hlt, by show 0 ≤ q + 1 + 1 + 1; omega, hgn, hbn⟩
      ·show l.length - (i + 1) < l.length - i
       omega
      ·simp [conj, gE hlt]
  ·obtain rfl : i = l.length := by simp at c2; omega
   refine sw_exit (sw_seq (xr hP 4 rfl (sw_ret ⟨.inl rfl, _, rfl, ?_⟩)))
   simp [conj]
   exact (hd_end hgo).symm
end Go.Sx

namespace Go.Sx
open Go
set_option maxRecDepth 100000
set_option linter.unusedVariables false
set_option linter.unusedSimpArgs false
set_option maxHeartbeats 2000000
def cHdDs : Ctr := ⟨20, [.val false (.sl T_Disk) (.all .b), .val false TI pF], fun x => 0 ≤ x.2.1 ∧ nxLs mDsk x.2.1 x.1 ≤ 1000000000, fun x => (sInt .i64 (hdLs mDsk x.2.1 x.1), [])⟩
theorem cHdDs_ok : CtrOk Proofs.Tryz.prog cHdDs := by
 have hP := ((((Prg.none ttok mtok).and cHdStr_ok).and cHdBool_ok).and cHdPut_ok)
 refine ctr_of_body hP cHdDs (fn := Proofs.Tryz.f20) (rts := [.tmp 4]) Proofs.Tryz.func20 rfl (by kernel_rfl) rfl rfl ?_
 rintro ⟨(l : List Dsk), (k : Int), ⟨⟩⟩ ⟨hdl, _⟩ ⟨h0, h1⟩
 try dsimp only [Ty.den, Mode.den, mdens] at h0
 try dsimp only [Ty.den, Mode.den, mdens] at h1
 refine ⟨rfl, ?_⟩
 have hml : l.length ≤ 140737488355328 := hdl.1
 replace h0 : 0 ≤ k := h0
 replace h1 : nxLs mDsk k l ≤ 1000000000 := h1
 refine sw_seq (xr hP 1 rfl (sw_seq (sw_seq (xr hP 2 rfl (sw_block (sw_loop (ι := Nat × Int) (fun ⟨i, q⟩ => ⟨[.v false [.d (.sl T_Disk) (.all .b) l], sInt .i64 q, .j, .j, .j, sInt .i64 (i : Int), .j, .j, .j, .j, .j, .j, .j, .j, .j, .j, .j, .j, .j, .j, .j, .j, .j, .j, .j, .j, .j, .j, .j, .j, .j, .j, .j, .j, .j, .j, .j, .j, .j, .j, .j, .j, .j, .j, .j, .j, .j, .j, .j, .j, .j, .j, .j, .j, .j, .j, .j, .j], [], 2, []⟩) (fun ⟨i, q⟩ => l.length - i) (fun ⟨i, q⟩ => i ≤ l.length ∧ 0 ≤ q ∧ hdLs mDsk q (l.drop i) = hdLs mDsk k l ∧ nxLs mDsk q (l.drop i) ≤ 1000000000) (0, k) ⟨?_, ?_⟩ ?_))))))
 ·exact ⟨Nat.zero_le _, h0, rfl, h1⟩
 ·refine ent_ok rfl ?_
  simp [conj]
 ·rintro ⟨i, q⟩ ⟨hi, hq, hgo, hb⟩
  refine sw_seq (sw_seq (xr hP 3 rfl (sw_cond rfl (fun c2 => ?_) (fun c2 => ?_))))
  ·have hlt : i < l.length := by simpa using c2
   obtain ⟨s1, s2, s3⟩ := nx_drop mDsk_ok (q := q) hlt
   rw [s1] at hb
   have hp0 : ¬ q + 1 < 0 := by omega
   have s4 : (q + 1) ≤ (nxLs mkStr (q + 1) l[i].2.1) := (mkList_ok mkStr_ok).ge _ _
   have s5 : (nxLs mkStr (q + 1) l[i].2.1) ≤ (nxLs mkStr (nxLs mkStr (q + 1) l[i].2.1) l[i].2.2.1) := (mkList_ok mkStr_ok).ge _ _
   have s6 : (nxLs mkStr (nxLs mkStr (q + 1) l[i].2.1) l[i].2.2.1) ≤ (nxLs mkBool (nxLs mkStr (nxLs mkStr (q + 1) l[i].2.1) l[i].2.2.1) l[i].2.2.2.1) := (mkList_ok mkBool_ok).ge _ _
   have s7 : (nxLs mkBool (nxLs mkStr (nxLs mkStr (q + 1) l[i].2.1) l[i].2.2.1) l[i].2.2.2.1) ≤ (nxLs mPut (nxLs mkBool (nxLs mkStr (nxLs mkStr (q + 1) l[i].2.1) l[i].2.2.1) l[i].2.2.2.1) l[i].2.2.2.2) := (mkList_ok mPut_ok).ge _ _
   replace s3 : (nxLs mPut (nxLs mkBool (nxLs mkStr (nxLs mkStr (q + 1) l[i].2.1) l[i].2.2.1) l[i].2.2.2.1) l[i].2.2.2.2) ≤ nxLs mDsk ((nxLs mPut (nxLs mkBool (nxLs mkStr (nxLs mkStr (q + 1) l[i].2.1) l[i].2.2.1) l[i].2.2.2.1) l[i].2.2.2.2)) (l.drop (i + 1)) := s3
   have hb2 : nxLs mDsk ((nxLs mPut (nxLs mkBool (nxLs mkStr (nxLs mkStr (q + 1) l[i].2.1) l[i].2.2.1) l[i].2.2.2.1) l[i].2.2.2.2)) (l.drop (i + 1)) ≤ 1000000000 := hb
   refine sw_skip (sw_seq (sw_block (sw_seq (sw_seq (xg hP 4 [] rfl ?_ ?_)))))
   ·simp [conj, gE hlt]
    repeat' apply And.intro
    all_goals first | trivial | assumption | omega | (show 0 ≤ (q + 1); omega) | (show nxLs mkStr (q + 1) l[i].2.1 ≤ _; omega) | (show 0 ≤ (hdLs mkStr (q + 1) l[i].2.1); rw [e0]; omega) | (show nxLs mkStr (hdLs mkStr (q + 1) l[i].2.1) l[i].2.2.1 ≤ _; rw [e0]; omega) | (show 0 ≤ (hdLs mkStr (hdLs mkStr (q + 1) l[i].2.1) l[i].2.2.1); rw [e1, e0]; omega) | (show nxLs mkBool (hdLs mkStr (hdLs mkStr (q + 1) l[i].2.1) l[i].2.2.1) l[i].2.2.2.1 ≤ _; rw [e1, e0]; omega) | (show 0 ≤ (hdLs mkBool (hdLs mkStr (hdLs mkStr (q + 1) l[i].2.1) l[i].2.2.1) l[i].2.2.2.1); rw [e2, e1, e0]; omega) | (show nxLs mPut (hdLs mkBool (hdLs mkStr (hdLs mkStr (q + 1) l[i].2.1) l[i].2.2.1) l[i].2.2.2.1) l[i].2.2.2.2 ≤ _; rw [e2, e1, e0]; omega)
   refine sw_cond rfl (fun c4 => ?_) (fun c4 => ?_)
   ·replace c4 : ¬ l[i].1 = q := by simpa [gE hlt] using c4
    have hn : mDsk.hd q l[i] < 0 := by simp [mDsk, mkPair, mkI, mkOne, mkList, mkNo, c4, hp0]
    refine sw_seq (xg hP 5 [] rfl ?_ ?_)
    ·simp [conj, gE hlt]
     repeat' apply And.intro
     all_goals first | trivial | assumption | omega | (show 0 ≤ (q + 1); omega) | (show nxLs mkStr (q + 1) l[i].2.1 ≤ _; omega) | (show 0 ≤ (hdLs mkStr (q + 1) l[i].2.1); rw [e0]; omega) | (show nxLs mkStr (hdLs mkStr (q + 1) l[i].2.1) l[i].2.2.1 ≤ _; rw [e0]; omega) | (show 0 ≤ (hdLs mkStr (hdLs mkStr (q + 1) l[i].2.1) l[i].2.2.1); rw [e1, e0]; omega) | (show nxLs mkBool (hdLs mkStr (hdLs mkStr (q + 1) l[i].2.1) l[i].2.2.1) l[i].2.2.2.1 ≤ _; rw [e1, e0]; omega) | (show 0 ≤ (hdLs mkBool (hdLs mkStr (hdLs mkStr (q + 1) l[i].2.1) l[i].2.2.1) l[i].2.2.2.1); rw [e2, e1, e0]; omega) | (show nxLs mPut (hdLs mkBool (hdLs mkStr (hdLs mkStr (q + 1) l[i].2.1) l[i].2.2.1) l[i].2.2.2.1) l[i].2.2.2.2 ≤ _; rw [e2, e1, e0]; omega)
    refine sw_ret ⟨.inl rfl, _, rfl, ?_⟩
    simp [conj]
    exact (hd_hit hlt hgo hn).symm
   ·replace c4 : l[i].1 = q := by simpa [gE hlt] using c4
    refine sw_skip (sw_seq (xg hP 5 [] rfl ?_ ?_))
    ·simp [conj, gE hlt]
     repeat' apply And.intro
     all_goals first | trivial | assumption | omega | (show 0 ≤ (q + 1); omega) | (show nxLs mkStr (q + 1) l[i].2.1 ≤ _; omega) | (show 0 ≤ (hdLs mkStr (q + 1) l[i].2.1); rw [e0]; omega) | (show nxLs mkStr (hdLs mkStr (q + 1) l[i].2.1) l[i].2.2.1 ≤ _; rw [e0]; omega) | (show 0 ≤ (hdLs mkStr (hdLs mkStr (q + 1) l[i].2.1) l[i].2.2.1); rw [e1, e0]; omega) | (show nxLs mkBool (hdLs mkStr (hdLs mkStr (q + 1) l[i].2.1) l[i].2.2.1) l[i].2.2.2.1 ≤ _; rw [e1, e0]; omega) | (show 0 ≤ (hdLs mkBool (hdLs mkStr (hdLs mkStr (q + 1) l[i].2.1) l[i].2.2.1) l[i].2.2.2.1); rw [e2, e1, e0]; omega) | (show nxLs mPut (hdLs mkBool (hdLs mkStr (hdLs mkStr (q + 1) l[i].2.1) l[i].2.2.1) l[i].2.2.2.1) l[i].2.2.2.2 ≤ _; rw [e2, e1, e0]; omega)
    refine sw_seq (xg hP 6 [] rfl ?_ ?_)
    ·simp [conj, gE hlt]
     repeat' apply And.intro
     all_goals first | trivial | assumption | omega | (show 0 ≤ (q + 1); omega) | (show nxLs mkStr (q + 1) l[i].2.1 ≤ _; omega) | (show 0 ≤ (hdLs mkStr (q + 1) l[i].2.1); rw [e0]; omega) | (show nxLs mkStr (hdLs mkStr (q + 1) l[i].2.1) l[i].2.2.1 ≤ _; rw [e0]; omega) | (show 0 ≤ (hdLs mkStr (hdLs mkStr (q + 1) l[i].2.1) l[i].2.2.1); rw [e1, e0]; omega) | (show nxLs mkBool (hdLs mkStr (hdLs mkStr (q + 1) l[i].2.1) l[i].2.2.1) l[i].2.2.2.1 ≤ _; rw [e1, e0]; omega) | (show 0 ≤ (hdLs mkBool (hdLs mkStr (hdLs mkStr (q + 1) l[i].2.1) l[i].2.2.1) l[i].2.2.2.1); rw [e2, e1, e0]; omega) | (show nxLs mPut (hdLs mkBool (hdLs mkStr (hdLs mkStr (q + 1) l[i].2.1) l[i].2.2.1) l[i].2.2.2.1) l[i].2.2.2.2 ≤ _; rw [e2, e1, e0]; omega)
    refine sw_seq (sw_seq (xg hP 7 [] rfl ?_ ?_))
    ·simp [conj, gE hlt]
     repeat' apply And.intro
     all_goals first | trivial | assumption | omega | (show 0 ≤ (q + 1); omega) | (show nxLs mkStr (q + 1) l[i].2.1 ≤ _; omega) | (show 0 ≤ (hdLs mkStr (q + 1) l[i].2.1); rw [e0]; omega) | (show nxLs mkStr (hdLs mkStr (q + 1) l[i].2.1) l[i].2.2.1 ≤ _; rw [e0]; omega) | (show 0 ≤ (hdLs mkStr (hdLs mkStr (q + 1) l[i].2.1) l[i].2.2.1); rw [e1, e0]; omega) | (show nxLs mkBool (hdLs mkStr (hdLs mkStr (q + 1) l[i].2.1) l[i].2.2.1) l[i].2.2.2.1 ≤ _; rw [e1, e0]; omega) | (show 0 ≤ (hdLs mkBool (hdLs mkStr (hdLs mkStr (q + 1) l[i].2.1) l[i].2.2.1) l[i].2.2.2.1); rw [e2, e1, e0]; omega) | (show nxLs mPut (hdLs mkBool (hdLs mkStr (hdLs mkStr (q + 1) l[i].2.1) l[i].2.2.1) l[i].2.2.2.1) l[i].2.2.2.2 ≤ _; rw [e2, e1, e0]; omega)
    refine sw_cond rfl (fun c8 => ?_) (fun c8 => ?_)
    ·replace c8 : (hdLs mkStr (q + 1) l[i].2.1) < 0 := by simpa [gE hlt] using c8
     have hn : mDsk.hd q l[i] < 0 := by simp [mDsk, mkPair, mkI, mkOne, mkList, mkNo, c4, c8, hp0]
     refine sw_seq (xg hP 8 [] rfl ?_ ?_)
     ·simp [conj, gE hlt]
      repeat' apply And.intro
      all_goals first | trivial | assumption | omega | (show 0 ≤ (q + 1); omega) | (show nxLs mkStr (q + 1) l[i].2.1 ≤ _; omega) | (show 0 ≤ (hdLs mkStr (q + 1) l[i].2.1); rw [e0]; omega) | (show nxLs mkStr (hdLs mkStr (q + 1) l[i].2.1) l[i].2.2.1 ≤ _; rw [e0]; omega) | (show 0 ≤ (hdLs mkStr (hdLs mkStr (q + 1) l[i].2.1) l[i].2.2.1); rw [e1, e0]; omega) | (show nxLs mkBool (hdLs mkStr (hdLs mkStr (q + 1) l[i].2.1) l[i].2.2.1) l[i].2.2.2.1 ≤ _; rw [e1, e0]; omega) | (show 0 ≤ (hdLs mkBool (hdLs mkStr (hdLs mkStr (q + 1) l[i].2.1) l[i].2.2.1) l[i].2.2.2.1); rw [e2, e1, e0]; omega) | (show nxLs mPut (hdLs mkBool (hdLs mkStr (hdLs mkStr (q + 1) l[i].2.1) l[i].2.2.1) l[i].2.2.2.1) l[i].2.2.2.2 ≤ _; rw [e2, e1, e0]; omega)
     refine sw_ret ⟨.inl rfl, _, rfl, ?_⟩
     simp [conj]
     exact (hd_hit hlt hgo hn).symm
    ·replace c8 : ¬ (hdLs mkStr (q + 1) l[i].2.1) < 0 := by simpa [gE hlt] using c8
     have e0 : (hdLs mkStr (q + 1) l[i].2.1) = nxLs mkStr (q + 1) l[i].2.1 := hd_pos (mkList_ok mkStr_ok) c8
     refine sw_skip (sw_seq (xg hP 8 [] rfl ?_ ?_))
     ·simp [conj, gE hlt]
      repeat' apply And.intro
      all_goals first | trivial | assumption | omega | (show 0 ≤ (q + 1); omega) | (show nxLs mkStr (q + 1) l[i].2.1 ≤ _; omega) | (show 0 ≤ (hdLs mkStr (q + 1) l[i].2.1); rw [e0]; omega) | (show nxLs mkStr (hdLs mkStr (q + 1) l[i].2.1) l[i].2.2.1 ≤ _; rw [e0]; omega) | (show 0 ≤ (hdLs mkStr (hdLs mkStr (q + 1) l[i].2.1) l[i].2.2.1); rw [e1, e0]; omega) | (show nxLs mkBool (hdLs mkStr (hdLs mkStr (q + 1) l[i].2.1) l[i].2.2.1) l[i].2.2.2.1 ≤ _; rw [e1, e0]; omega) | (show 0 ≤ (hdLs mkBool (hdLs mkStr (hdLs mkStr (q + 1) l[i].2.1) l[i].2.2.1) l[i].2.2.2.1); rw [e2, e1, e0]; omega) | (show nxLs mPut (hdLs mkBool (hdLs mkStr (hdLs mkStr (q + 1) l[i].2.1) l[i].2.2.1) l[i].2.2.2.1) l[i].2.2.2.2 ≤ _; rw [e2, e1, e0]; omega)
     refine sw_seq (sw_seq (xg hP 9 [] rfl ?_ ?_))
     ·simp [conj, gE hlt]
      repeat' apply And.intro
      all_goals first | trivial | assumption | omega | (show 0 ≤ (q + 1); omega) | (show nxLs mkStr (q + 1) l[i].2.1 ≤ _; omega) | (show 0 ≤ (hdLs mkStr (q + 1) l[i].2.1); rw [e0]; omega) | (show nxLs mkStr (hdLs mkStr (q + 1) l[i].2.1) l[i].2.2.1 ≤ _; rw [e0]; omega) | (show 0 ≤ (hdLs mkStr (hdLs mkStr (q + 1) l[i].2.1) l[i].2.2.1); rw [e1, e0]; omega) | (show nxLs mkBool (hdLs mkStr (hdLs mkStr (q + 1) l[i].2.1) l[i].2.2.1) l[i].2.2.2.1 ≤ _; rw [e1, e0]; omega) | (show 0 ≤ (hdLs mkBool (hdLs mkStr (hdLs mkStr (q + 1) l[i].2.1) l[i].2.2.1) l[i].2.2.2.1); rw [e2, e1, e0]; omega) | (show nxLs mPut (hdLs mkBool (hdLs mkStr (hdLs mkStr (q + 1) l[i].2.1) l[i].2.2.1) l[i].2.2.2.1) l[i].2.2.2.2 ≤ _; rw [e2, e1, e0]; omega)
     refine sw_cond rfl (fun c11 => ?_) (fun c11 => ?_)
     ·replace c11 : (hdLs mkStr (hdLs mkStr (q + 1) l[i].2.1) l[i].2.2.1) < 0 := by simpa [gE hlt] using c11
      have hn : mDsk.hd q l[i] < 0 := by simp [mDsk, mkPair, mkI, mkOne, mkList, mkNo, c4, c8, c11, hp0]
      refine sw_seq (xg hP 10 [] rfl ?_ ?_)
      ·simp [conj, gE hlt]
       repeat' apply And.intro
       all_goals first | trivial | assumption | omega | (show 0 ≤ (q + 1); omega) | (show nxLs mkStr (q + 1) l[i].2.1 ≤ _; omega) | (show 0 ≤ (hdLs mkStr (q + 1) l[i].2.1); rw [e0]; omega) | (show nxLs mkStr (hdLs mkStr (q + 1) l[i].2.1) l[i].2.2.1 ≤ _; rw [e0]; omega) | (show 0 ≤ (hdLs mkStr (hdLs mkStr (q + 1) l[i].2.1) l[i].2.2.1); rw [e1, e0]; omega) | (show nxLs mkBool (hdLs mkStr (hdLs mkStr (q + 1) l[i].2.1) l[i].2.2.1) l[i].2.2.2.1 ≤ _; rw [e1, e0]; omega) | (show 0 ≤ (hdLs mkBool (hdLs mkStr (hdLs mkStr (q + 1) l[i].2.1) l[i].2.2.1) l[i].2.2.2.1); rw [e2, e1, e0]; omega) | (show nxLs mPut (hdLs mkBool (hdLs mkStr (hdLs mkStr (q + 1) l[i].2.1) l[i].2.2.1) l[i].2.2.2.1) l[i].2.2.2.2 ≤ _; rw [e2, e1, e0]; omega)
      refine sw_ret ⟨.inl rfl, _, rfl, ?_⟩
      simp [conj]
      exact (hd_hit hlt hgo hn).symm
     ·replace c11 : ¬ (hdLs mkStr (hdLs mkStr (q + 1) l[i].2.1) l[i].2.2.1) < 0 := by simpa [gE hlt] using c11
      have e1 : (hdLs mkStr (hdLs mkStr (q + 1) l[i].2.1) l[i].2.2.1) = nxLs mkStr (hdLs mkStr (q + 1) l[i].2.1) l[i].2.2.1 := hd_pos (mkList_ok mkStr_ok) c11
      refine sw_skip (sw_seq (xg hP 10 [] rfl ?_ ?_))
      ·simp [conj, gE hlt]
       repeat' apply And.intro
       all_goals first | trivial | assumption | omega | (show 0 ≤ (q + 1); omega) | (show nxLs mkStr (q + 1) l[i].2.1 ≤ _; omega) | (show 0 ≤ (hdLs mkStr (q + 1) l[i].2.1); rw [e0]; omega) | (show nxLs mkStr (hdLs mkStr (q + 1) l[i].2.1) l[i].2.2.1 ≤ _; rw [e0]; omega) | (show 0 ≤ (hdLs mkStr (hdLs mkStr (q + 1) l[i].2.1) l[i].2.2.1); rw [e1, e0]; omega) | (show nxLs mkBool (hdLs mkStr (hdLs mkStr (q + 1) l[i].2.1) l[i].2.2.1) l[i].2.2.2.1 ≤ _; rw [e1, e0]; omega) | (show 0 ≤ (hdLs mkBool (hdLs mkStr (hdLs mkStr (q + 1) l[i].2.1) l[i].2.2.1) l[i].2.2.2.1); rw [e2, e1, e0]; omega) | (show nxLs mPut (hdLs mkBool (hdLs mkStr (hdLs mkStr (q + 1) l[i].2.1) l[i].2.2.1) l[i].2.2.2.1) l[i].2.2.2.2 ≤ _; rw [e2, e1, e0]; omega)
      refine sw_seq (sw_seq (xg hP 11 [] rfl ?_ ?_))
      ·simp [conj, gE hlt]
       repeat' apply And.intro
       all_goals first | trivial | assumption | omega | (show 0 ≤ (q + 1); omega) | (show nxLs mkStr (q + 1) l[i].2.1 ≤ _; omega) | (show 0 ≤ (hdLs mkStr (q + 1) l[i].2.1); rw [e0]; omega) | (show nxLs mkStr (hdLs mkStr (q + 1) l[i].2.1) l[i].2.2.1 ≤ _; rw [e0]; omega) | (show 0 ≤ (hdLs mkStr (hdLs mkStr (q + 1) l[i].2.1) l[i].2.2.1); rw [e1, e0]; omega) | (show nxLs mkBool (hdLs mkStr (hdLs mkStr (q + 1) l[i].2.1) l[i].2.2.1) l[i].2.2.2.1 ≤ _; rw [e1, e0]; omega) | (show 0 ≤ (hdLs mkBool (hdLs mkStr (hdLs mkStr (q + 1) l[i].2.1) l[i].2.2.1) l[i].2.2.2.1); rw [e2, e1, e0]; omega) | (show nxLs mPut (hdLs mkBool (hdLs mkStr (hdLs mkStr (q + 1) l[i].2.1) l[i].2.2.1) l[i].2.2.2.1) l[i].2.2.2.2 ≤ _; rw [e2, e1, e0]; omega)
      refine sw_cond rfl (fun c14 => ?_) (fun c14 => ?_)
      ·replace c14 : (hdLs mkBool (hdLs mkStr (hdLs mkStr (q + 1) l[i].2.1) l[i].2.2.1) l[i].2.2.2.1) < 0 := by simpa [gE hlt] using c14
       have hn : mDsk.hd q l[i] < 0 := by simp [mDsk, mkPair, mkI, mkOne, mkList, mkNo, c4, c8, c11, c14, hp0]
       refine sw_seq (xg hP 12 [] rfl ?_ ?_)
       ·simp [conj, gE hlt]
        repeat' apply And.intro
        all_goals first | trivial | assumption | omega | (show 0 ≤ (q + 1); omega) | (show nxLs mkStr (q + 1) l[i].2.1 ≤ _; omega) | (show 0 ≤ (hdLs mkStr (q + 1) l[i].2.1); rw [e0]; omega) | (show nxLs mkStr (hdLs mkStr (q + 1) l[i].2.1) l[i].2.2.1 ≤ _; rw [e0]; omega) | (show 0 ≤ (hdLs mkStr (hdLs mkStr (q + 1) l[i].2.1) l[i].2.2.1); rw [e1, e0]; omega) | (show nxLs mkBool (hdLs mkStr (hdLs mkStr (q + 1) l[i].2.1) l[i].2.2.1) l[i].2.2.2.1 ≤ _; rw [e1, e0]; omega) | (show 0 ≤ (hdLs mkBool (hdLs mkStr (hdLs mkStr (q + 1) l[i].2.1) l[i].2.2.1) l[i].2.2.2.1); rw [e2, e1, e0]; omega) | (show nxLs mPut (hdLs mkBool (hdLs mkStr (hdLs mkStr (q + 1) l[i].2.1) l[i].2.2.1) l[i].2.2.2.1) l[i].2.2.2.2 ≤ _; rw [e2, e1, e0]; omega)
       refine sw_ret ⟨.inl rfl, _, rfl, ?_⟩
       simp [conj]
       exact (hd_hit hlt hgo hn).symm
      ·replace c14 : ¬ (hdLs mkBool (hdLs mkStr (hdLs mkStr (q + 1) l[i].2.1) l[i].2.2.1) l[i].2.2.2.1) < 0 := by simpa [gE hlt] using c14
       have e2 : (hdLs mkBool (hdLs mkStr (hdLs mkStr (q + 1) l[i].2.1) l[i].2.2.1) l[i].2.2.2.1) = nxLs mkBool (hdLs mkStr (hdLs mkStr (q + 1) l[i].2.1) l[i].2.2.1) l[i].2.2.2.1 := hd_pos (mkList_ok mkBool_ok) c14
       refine sw_skip (sw_seq (xg hP 12 [] rfl ?_ ?_))
       ·simp [conj, gE hlt]
        repeat' apply And.intro
        all_goals first | trivial | assumption | omega | (show 0 ≤ (q + 1); omega) | (show nxLs mkStr (q + 1) l[i].2.1 ≤ _; omega) | (show 0 ≤ (hdLs mkStr (q + 1) l[i].2.1); rw [e0]; omega) | (show nxLs mkStr (hdLs mkStr (q + 1) l[i].2.1) l[i].2.2.1 ≤ _; rw [e0]; omega) | (show 0 ≤ (hdLs mkStr (hdLs mkStr (q + 1) l[i].2.1) l[i].2.2.1); rw [e1, e0]; omega) | (show nxLs mkBool (hdLs mkStr (hdLs mkStr (q + 1) l[i].2.1) l[i].2.2.1) l[i].2.2.2.1 ≤ _; rw [e1, e0]; omega) | (show 0 ≤ (hdLs mkBool (hdLs mkStr (hdLs mkStr (q + 1) l[i].2.1) l[i].2.2.1) l[i].2.2.2.1); rw [e2, e1, e0]; omega) | (show nxLs mPut (hdLs mkBool (hdLs mkStr (hdLs mkStr (q + 1) l[i].2.1) l[i].2.2.1) l[i].2.2.2.1) l[i].2.2.2.2 ≤ _; rw [e2, e1, e0]; omega)
       refine sw_seq (xg hP 13 [] rfl ?_ ?_)
       ·simp [conj, gE hlt]
        repeat' apply And.intro
        all_goals first | trivial | assumption | omega | (show 0 ≤ (q + 1); omega) | (show nxLs mkStr (q + 1) l[i].2.1 ≤ _; omega) | (show 0 ≤ (hdLs mkStr (q + 1) l[i].2.1); rw [e0]; omega) | (show nxLs mkStr (hdLs mkStr (q + 1) l[i].2.1) l[i].2.2.1 ≤ _; rw [e0]; omega) | (show 0 ≤ (hdLs mkStr (hdLs mkStr (q + 1) l[i].2.1) l[i].2.2.1); rw [e1, e0]; omega) | (show nxLs mkBool (hdLs mkStr (hdLs mkStr (q + 1) l[i].2.1) l[i].2.2.1) l[i].2.2.2.1 ≤ _; rw [e1, e0]; omega) | (show 0 ≤ (hdLs mkBool (hdLs mkStr (hdLs mkStr (q + 1) l[i].2.1) l[i].2.2.1) l[i].2.2.2.1); rw [e2, e1, e0]; omega) | (show nxLs mPut (hdLs mkBool (hdLs mkStr (hdLs mkStr (q + 1) l[i].2.1) l[i].2.2.1) l[i].2.2.2.1) l[i].2.2.2.2 ≤ _; rw [e2, e1, e0]; omega)
       refine sw_cond rfl (fun c17 => ?_) (fun c17 => ?_)
       ·replace c17 : (hdLs mPut (hdLs mkBool (hdLs mkStr (hdLs mkStr (q + 1) l[i].2.1) l[i].2.2.1) l[i].2.2.2.1) l[i].2.2.2.2) < 0 := by simpa [gE hlt] using c17
        have hn : mDsk.hd q l[i] < 0 := by simp [mDsk, mkPair, mkI, mkOne, mkList, mkNo, c4, c8, c11, c14, c17, hp0]
        refine sw_seq (xg hP 14 [] rfl ?_ ?_)
        ·simp [conj, gE hlt]
         repeat' apply And.intro
         all_goals first | trivial | assumption | omega | (show 0 ≤ (q + 1); omega) | (show nxLs mkStr (q + 1) l[i].2.1 ≤ _; omega) | (show 0 ≤ (hdLs mkStr (q + 1) l[i].2.1); rw [e0]; omega) | (show nxLs mkStr (hdLs mkStr (q + 1) l[i].2.1) l[i].2.2.1 ≤ _; rw [e0]; omega) | (show 0 ≤ (hdLs mkStr (hdLs mkStr (q + 1) l[i].2.1) l[i].2.2.1); rw [e1, e0]; omega) | (show nxLs mkBool (hdLs mkStr (hdLs mkStr (q + 1) l[i].2.1) l[i].2.2.1) l[i].2.2.2.1 ≤ _; rw [e1, e0]; omega) | (show 0 ≤ (hdLs mkBool (hdLs mkStr (hdLs mkStr (q + 1) l[i].2.1) l[i].2.2.1) l[i].2.2.2.1); rw [e2, e1, e0]; omega) | (show nxLs mPut (hdLs mkBool (hdLs mkStr (hdLs mkStr (q + 1) l[i].2.1) l[i].2.2.1) l[i].2.2.2.1) l[i].2.2.2.2 ≤ _; rw [e2, e1, e0]; omega)
        refine sw_ret ⟨.inl rfl, _, rfl, ?_⟩
        simp [conj]
        exact (hd_hit hlt hgo hn).symm
       ·replace c17 : ¬ (hdLs mPut (hdLs mkBool (hdLs mkStr (hdLs mkStr (q + 1) l[i].2.1) l[i].2.2.1) l[i].2.2.2.1) l[i].2.2.2.2) < 0 := by simpa [gE hlt] using c17
        have e3 : (hdLs mPut (hdLs mkBool (hdLs mkStr (hdLs mkStr (q + 1) l[i].2.1) l[i].2.2.1) l[i].2.2.2.1) l[i].2.2.2.2) = nxLs mPut (hdLs mkBool (hdLs mkStr (hdLs mkStr (q + 1) l[i].2.1) l[i].2.2.1) l[i].2.2.2.1) l[i].2.2.2.2 := hd_pos (mkList_ok mPut_ok) c17
        have hv : mDsk.hd q l[i] = (hdLs mPut (hdLs mkBool (hdLs mkStr (hdLs mkStr (q + 1) l[i].2.1) l[i].2.2.1) l[i].2.2.2.1) l[i].2.2.2.2) := by simp [mDsk, mkPair, mkI, mkOne, mkList, mkNo, c4, c8, c11, c14, c17, hp0]
        refine sw_skip (xg hP 14 [] rfl ?_ ?_)
        ·simp only [cj, cl]
         try dsimp only [Ty.den, Ty.dflt]
         repeat' apply And.intro
         all_goals first | rfl | omega | assumption | trivial
        refine ⟨(i + 1, (hdLs mPut (hdLs mkBool (hdLs mkStr (hdLs mkStr (q + 1) l[i].2.1) l[i].2.2.1) l[i].2.2.2.1) l[i].2.2.2.2)), ?_, ?_, ent_ok rfl ?_⟩
        ·have hnn : ¬ mDsk.hd q l[i] < 0 := by rw [hv]; omega
         have hgn := hd_next hlt hgo hnn
         have hpo := hd_pos mDsk_ok hnn
         have hbn : nxLs mDsk ((hdLs mPut (hdLs mkBool (hdLs mkStr (hdLs mkStr (q + 1) l[i].2.1) l[i].2.2.1) l[i].2.2.2.1) l[i].2.2.2.2)) (l.drop (i + 1)) ≤ 1000000000 := by rw [← hv, hpo]; exact hb
         rw [hv] at hgn
         exact ⟨hlt, by show 0 ≤ (hdLs mPut (hdLs mkBool (hdLs mkStr (hdLs mkStr (q + 1) l[i].2.1) l[i].2.2.1) l[i].2.2.2.1) l[i].2.2.2.2); omega, hgn, hbn⟩
        ·show l.length - (i + 1) < l.length - i
         omega
        ·simp [conj, gE hlt]
  ·obtain rfl : i = l.length := by simp at c2; omega
   refine sw_exit (sw_seq (xr hP 4 rfl (sw_ret ⟨.inl rfl, _, rfl, ?_⟩)))
   simp [conj]
   exact (hd_end hgo).symm
def cMkPo (p : Pol) (k : Int) (a b c : Id) : Xctr := ⟨28, [(a, ⟨0, 0, 1⟩, .sl T_Disk (.all .w) p.1), (b, ⟨0, 0, 2⟩, .sl T_Vol (.all .w) p.2.2.1.2), (c, ⟨0, 0, 3⟩, .sl T_Vol (.all .w) p.2.2.2.2)], [], [.v true [.own ⟨0, 0, 1⟩, .d .bool pF p.2.1, .d TI pF p.2.2.1.1, .own ⟨0, 0, 2⟩, .d TI pF p.2.2.2.1, .own ⟨0, 0, 3⟩], sInt .i64 k],
  (sInt .i64 (mPol.nx k p), [(⟨0, 0, 1⟩, .sl T_Disk (.all .w) (mPol.mk k p).1), (⟨0, 0, 2⟩, .sl T_Vol (.all .w) (mPol.mk k p).2.2.1.2), (⟨0, 0, 3⟩, .sl T_Vol (.all .w) (mPol.mk k p).2.2.2.2)])⟩
theorem cMkPo_ok {p : Pol} {k : Int} {a b c : Id} (h0 : 0 ≤ k) (h1 : mPol.nx k p ≤ 1000000000) : XOk Proofs.Tryz.prog (cMkPo p k a b c) := by
 have hP := ((Prg.none ttok mtok).and cMkDs_ok)
 refine xctr_of_body hP (cMkPo p k a b c) (fn := Proofs.Tryz.f28) (rts := [.tmp 4]) Proofs.Tryz.func28 rfl (by kernel_rfl) rfl rfl ?_
 refine ⟨rfl, ?_⟩
 have s1 : k ≤ (nxLs mDsk k p.1) := (mkList_ok mDsk_ok).ge _ _
 have s2 : (nxLs mDsk k p.1) ≤ (nxLs mVol (nxLs mDsk k p.1) p.2.2.1.2) := (mkList_ok mVol_ok).ge _ _
 have s3 : (nxLs mVol (nxLs mDsk k p.1) p.2.2.1.2) ≤ nxLs mVol (nxLs mVol (nxLs mDsk k p.1) p.2.2.1.2) p.2.2.2.2 := (mkList_ok mVol_ok).ge _ _
 replace h1 : nxLs mVol (nxLs mVol (nxLs mDsk k p.1) p.2.2.1.2) p.2.2.2.2 ≤ 1000000000 := h1
 refine sw_seq (xr hP 1 rfl (sw_seq (xg hP 2 [] rfl ?_ ?_)))
 ·simp [conj, maxL]
  try dsimp only [Ty.den, Ty.dflt]
  try simp only [rd_eta]
  exact ⟨h0, by show (nxLs mDsk k p.1) ≤ _; omega⟩
 refine sw_seq ?_
 replace hP := hP.andX (cMkRoot_ok (r := p.2.2.1) (k := (nxLs mDsk k p.1)) (a := ⟨0, 0, 2⟩) (by omega) (by omega))
 refine xr hP 3 rfl (sw_seq ?_)
 replace hP := hP.andX (cMkRoot_ok (r := p.2.2.2) (k := (nxLs mVol (nxLs mDsk k p.1) p.2.2.1.2)) (a := ⟨0, 0, 3⟩) (by omega) (by omega))
 refine xr hP 4 rfl (sw_seq (xr hP 5 rfl (sw_ret ⟨.inl rfl, _, rfl, ?_⟩)))
 simp [conj]
 try (repeat' apply And.intro)
 all_goals rfl
def cHdPo : Ctr := ⟨30, [.val true T_Pool (.all .b), .val false TI pF], fun x => 0 ≤ x.2.1 ∧ mPol.nx x.2.1 x.1 ≤ 1000000000, fun x => (sInt .i64 (mPol.hd x.2.1 x.1), [])⟩
theorem cHdPo_ok : CtrOk Proofs.Tryz.prog cHdPo := by
 have hP := (((Prg.none ttok mtok).and cHdDs_ok).and cHdRoot_ok)
 refine ctr_of_body hP cHdPo (fn := Proofs.Tryz.f30) (rts := [.tmp 4]) Proofs.Tryz.func30 rfl (by kernel_rfl) rfl rfl ?_
 rintro ⟨⟨(ds : List Dsk), (op : Bool), ⟨(tg : Int), (l : List Vol_)⟩, ⟨(tg2 : Int), (l2 : List Vol_)⟩⟩, (k : Int), ⟨⟩⟩ _ ⟨h0, h1⟩
 try dsimp only [Ty.den, Mode.den, mdens] at h0
 try dsimp only [Ty.den, Mode.den, mdens] at h1
 refine ⟨rfl, ?_⟩
 replace h0 : 0 ≤ k := h0
 have s1 : k ≤ (nxLs mDsk k ds) := (mkList_ok mDsk_ok).ge _ _
 have s2 : (nxLs mDsk k ds) ≤ (nxLs mVol (nxLs mDsk k ds) l) := (mkList_ok mVol_ok).ge _ _
 have s3 : (nxLs mVol (nxLs mDsk k ds) l) ≤ nxLs mVol (nxLs mVol (nxLs mDsk k ds) l) l2 := (mkList_ok mVol_ok).ge _ _
 replace h1 : nxLs mVol (nxLs mVol (nxLs mDsk k ds) l) l2 ≤ 1000000000 := h1
 refine sw_seq (xr hP 1 rfl (sw_seq (xg hP 2 [] rfl ?_ ?_)))
 ·simp [conj, maxL]
  try dsimp only [Ty.den, Ty.dflt]
  try simp only [rd_eta]
  exact ⟨h0, by show (nxLs mDsk k ds) ≤ _; omega⟩
 refine sw_seq (sw_seq (xr hP 3 rfl (sw_cond rfl (fun c2 => ?_) (fun c2 => ?_))))
 ·replace c2 : (hdLs mDsk k ds) < 0 := of_decide_eq_true c2
  refine sw_seq (xr hP 4 rfl (sw_ret ⟨.inl rfl, _, rfl, ?_⟩))
  have hv : mPol.hd k ((ds, op, (tg, l), (tg2, l2)) : Pol) = -1 := by
    show (if (hdLs mDsk k ds) < 0 then -1 else if (hdLs mDsk k ds) < 0 then -1 else if (if (hdLs mDsk k ds) < 0 then -1 else (hdLs mVol (hdLs mDsk k ds) l)) < 0 then -1 else if (if (hdLs mDsk k ds) < 0 then -1 else (hdLs mVol (hdLs mDsk k ds) l)) < 0 then -1 else hdLs mVol (if (hdLs mDsk k ds) < 0 then -1 else (hdLs mVol (hdLs mDsk k ds) l)) l2) = _
    rw [if_pos c2]
  simp only [conj, List.append_nil]
  exact hv.symm
 ·replace c2 : ¬ (hdLs mDsk k ds) < 0 := of_decide_eq_false c2
  have e0 : (hdLs mDsk k ds) = (nxLs mDsk k ds) := hd_pos (mkList_ok mDsk_ok) c2
  refine sw_skip (sw_seq (xg hP 4 [] rfl ?_ ?_))
  ·simp [conj, maxL]
   try dsimp only [Ty.den, Ty.dflt]
   try simp only [rd_eta]
   exact ⟨by show 0 ≤ (hdLs mDsk k ds); omega, by show nxLs mVol (hdLs mDsk k ds) l ≤ _; rw [e0]; omega⟩
  refine sw_seq (sw_seq (xr hP 5 rfl (sw_cond rfl (fun c5 => ?_) (fun c5 => ?_))))
  ·replace c5 : (hdLs mVol (hdLs mDsk k ds) l) < 0 := of_decide_eq_true c5
   refine sw_seq (xr hP 6 rfl (sw_ret ⟨.inl rfl, _, rfl, ?_⟩))
   have hv : mPol.hd k ((ds, op, (tg, l), (tg2, l2)) : Pol) = -1 := by
     show (if (hdLs mDsk k ds) < 0 then -1 else if (hdLs mDsk k ds) < 0 then -1 else if (if (hdLs mDsk k ds) < 0 then -1 else (hdLs mVol (hdLs mDsk k ds) l)) < 0 then -1 else if (if (hdLs mDsk k ds) < 0 then -1 else (hdLs mVol (hdLs mDsk k ds) l)) < 0 then -1 else hdLs mVol (if (hdLs mDsk k ds) < 0 then -1 else (hdLs mVol (hdLs mDsk k ds) l)) l2) = _
     rw [if_neg c2, if_neg c2, if_neg c2, if_pos c5]
   simp only [conj, List.append_nil]
   exact hv.symm
  ·replace c5 : ¬ (hdLs mVol (hdLs mDsk k ds) l) < 0 := of_decide_eq_false c5
   have e1 : (hdLs mVol (hdLs mDsk k ds) l) = nxLs mVol (hdLs mDsk k ds) l := hd_pos (mkList_ok mVol_ok) c5
   refine sw_skip (sw_seq (xg hP 6 [] rfl ?_ ?_))
   ·simp [conj, maxL]
    try dsimp only [Ty.den, Ty.dflt]
    try simp only [rd_eta]
    exact ⟨by show 0 ≤ (hdLs mVol (hdLs mDsk k ds) l); omega, by show nxLs mVol (hdLs mVol (hdLs mDsk k ds) l) l2 ≤ _; rw [e1, e0]; omega⟩
   refine sw_seq (sw_seq (xr hP 7 rfl (sw_cond rfl (fun c8 => ?_) (fun c8 => ?_))))
   ·replace c8 : (hdLs mVol (hdLs mVol (hdLs mDsk k ds) l) l2) < 0 := of_decide_eq_true c8
    have e2 : (hdLs mVol (hdLs mVol (hdLs mDsk k ds) l) l2) = -1 := hd_neg (mkList_ok mVol_ok) (by omega) c8
    refine sw_seq (xr hP 8 rfl (sw_ret ⟨.inl rfl, _, rfl, ?_⟩))
    have hv : mPol.hd k ((ds, op, (tg, l), (tg2, l2)) : Pol) = -1 := by
      show (if (hdLs mDsk k ds) < 0 then -1 else if (hdLs mDsk k ds) < 0 then -1 else if (if (hdLs mDsk k ds) < 0 then -1 else (hdLs mVol (hdLs mDsk k ds) l)) < 0 then -1 else if (if (hdLs mDsk k ds) < 0 then -1 else (hdLs mVol (hdLs mDsk k ds) l)) < 0 then -1 else hdLs mVol (if (hdLs mDsk k ds) < 0 then -1 else (hdLs mVol (hdLs mDsk k ds) l)) l2) = _
      rw [if_neg c2, if_neg c2, if_neg c2, if_neg c5, if_neg c5]
      exact e2
    simp only [conj, List.append_nil]
    exact hv.symm
   ·refine sw_skip (sw_seq (xr hP 8 rfl (sw_ret ⟨.inl rfl, _, rfl, ?_⟩)))
    have hv : mPol.hd k ((ds, op, (tg, l), (tg2, l2)) : Pol) = (hdLs mVol (hdLs mVol (hdLs mDsk k ds) l) l2) := by
      show (if (hdLs mDsk k ds) < 0 then -1 else if (hdLs mDsk k ds) < 0 then -1 else if (if (hdLs mDsk k ds) < 0 then -1 else (hdLs mVol (hdLs mDsk k ds) l)) < 0 then -1 else if (if (hdLs mDsk k ds) < 0 then -1 else (hdLs mVol (hdLs mDsk k ds) l)) < 0 then -1 else hdLs mVol (if (hdLs mDsk k ds) < 0 then -1 else (hdLs mVol (hdLs mDsk k ds) l)) l2) = _
      rw [if_neg c2, if_neg c2, if_neg c2, if_neg c5, if_neg c5]
    simp only [conj, List.append_nil]
    exact hv.symm
end Go.Sx

namespace Go.Sx
open Go
set_option maxRecDepth 100000
set_option linter.unusedVariables false
set_option linter.unusedSimpArgs false
set_option maxHeartbeats 2000000
def cSzPl : Ctr := ⟨53, [.val false (.sl TL_Place) (.all .b), .val false TI pF], fun x => 0 ≤ x.2.1 ∧ x.2.1 ≤ 1048576, fun x => (sInt .i64 (szPl x.1 x.2.1), [])⟩
theorem cSzPl_ok : CtrOk Proofs.Tryz.prog cSzPl := by
 have hP := (Prg.none ttok mtok)
 refine ctr_of_body hP cSzPl (fn := Proofs.Tryz.f53) (rts := [.tmp 4]) Proofs.Tryz.func53 rfl (by kernel_rfl) rfl rfl ?_
 rintro ⟨(l : List Plc), (left : Int), ⟨⟩⟩ ⟨hdl, _⟩ ⟨h0, h1⟩
 try dsimp only [Ty.den, Mode.den, mdens] at h0
 try dsimp only [Ty.den, Mode.den, mdens] at h1
 refine ⟨rfl, ?_⟩
 have hml : l.length ≤ 140737488355328 := hdl.1
 refine sw_seq (xr hP 1 rfl (sw_seq (xg hP 2 [] rfl ?_ ?_)))
 ·simp [conj, maxL]
  try dsimp only [Ty.den, Ty.dflt]
  try simp only [rd_eta]
  repeat' apply And.intro
  all_goals first | rfl | assumption | omega
 refine sw_seq (sw_seq (xr hP 3 rfl (sw_cond rfl (fun c2 => ?_) (fun c2 => ?_))))
 ·replace c2 : left - (l.length : Int) < 0 := of_decide_eq_true c2
  refine sw_seq (xr hP 4 rfl (sw_ret ⟨.inl rfl, _, rfl, ?_⟩))
  simp [conj]
  exact (if_pos c2).symm
 ·replace c2 : ¬ left - (l.length : Int) < 0 := of_decide_eq_false c2
  refine sw_skip (sw_seq (xr hP 4 rfl (sw_ret ⟨.inl rfl, _, rfl, ?_⟩)))
  simp [conj]
  exact (if_neg c2).symm
def cSzP : Ctr := ⟨13, [.val true TL_Ptr (.all .b), .val false TI pF], fun x => 0 ≤ x.2.1 ∧ x.2.1 ≤ 1048576, fun x => (sInt .i64 (szP x.1 x.2.1), [])⟩
theorem cSzP_ok : CtrOk Proofs.Tryz.prog cSzP := by
 have hP := ((Prg.none ttok mtok).and cSzPl_ok)
 refine ctr_of_body hP cSzP (fn := Proofs.Tryz.f13) (rts := [.tmp 4]) Proofs.Tryz.func13 rfl (by kernel_rfl) rfl rfl ?_
 rintro ⟨⟨(sz : Int), (sm : Int), (pl : List Plc)⟩, (left : Int), ⟨⟩⟩ _ ⟨h0, h1⟩
 try dsimp only [Ty.den, Mode.den, mdens] at h0
 try dsimp only [Ty.den, Mode.den, mdens] at h1
 refine ⟨rfl, ?_⟩
 have hb := szP_ok (((sz, sm, pl) : Ptr_)) left h0
 refine sw_seq (xr hP 1 rfl (sw_seq (xg hP 2 [] rfl ?_ ?_)))
 ·simp [conj, maxL]
  try dsimp only [Ty.den, Ty.dflt]
  try simp only [rd_eta]
  exact ⟨h0, h1⟩
 refine sw_seq (sw_seq (xr hP 3 rfl (sw_cond rfl (fun c2 => ?_) (fun c2 => ?_))))
 ·replace c2 : szP ((sz, sm, pl) : Ptr_) left < 0 := of_decide_eq_true c2
  have hv : szP ((sz, sm, pl) : Ptr_) left = -1 := by show _ = _; exact sz_neg szP_ok h0 c2
  refine sw_seq (xr hP 4 rfl (sw_ret ⟨.inl rfl, _, rfl, ?_⟩))
  simp [conj]
  exact hv.symm
 ·replace c2 : ¬ szP ((sz, sm, pl) : Ptr_) left < 0 := of_decide_eq_false c2
  refine sw_skip (sw_seq (xr hP 4 rfl (sw_ret ⟨.inl rfl, _, rfl, ?_⟩)))
  simp [conj]
  try rfl
def cSzPs : Ctr := ⟨174, [.val false (.sl TL_Ptr) (.all .b), .val false TI pF], fun x => 0 ≤ x.2.1 ∧ x.2.1 ≤ 1048576, fun x => (sInt .i64 (szL szP x.1 x.2.1), [])⟩
theorem cSzPs_ok : CtrOk Proofs.Tryz.prog cSzPs := by
 have hP := ((Prg.none ttok mtok).and cSzP_ok)
 refine ctr_of_body hP cSzPs (fn := Proofs.Tryz.f174) (rts := [.tmp 4]) Proofs.Tryz.func174 rfl (by kernel_rfl) rfl rfl ?_
 rintro ⟨(l : List Ptr_), (left : Int), ⟨⟩⟩ ⟨hdl, _⟩ ⟨h0, h1⟩
 try dsimp only [Ty.den, Mode.den, mdens] at h0
 try dsimp only [Ty.den, Mode.den, mdens] at h1
 refine ⟨rfl, ?_⟩
 have hml : l.length ≤ 140737488355328 := hdl.1
 refine sw_seq (xr hP 1 rfl (sw_seq (xg hP 2 [] rfl ?_ ?_)))
 ·simp [conj, maxL]
  try dsimp only [Ty.den, Ty.dflt]
  try simp only [rd_eta]
  repeat' apply And.intro
  all_goals first | rfl | assumption | omega
 refine sw_seq (sw_seq (xr hP 3 rfl (sw_cond rfl (fun c2 => ?_) (fun c2 => ?_))))
 ·replace c2 : left - (l.length : Int) < 0 := of_decide_eq_true c2
  refine sw_seq (xr hP 4 rfl (sw_ret ⟨.inl rfl, _, rfl, ?_⟩))
  simp [conj]
  exact (if_pos c2).symm
 ·replace c2 : ¬ left - (l.length : Int) < 0 := of_decide_eq_false c2
  refine sw_skip (sw_seq (sw_seq (xr hP 4 rfl (sw_block (sw_loop (ι := Nat × Int) (fun ⟨i, a⟩ => ⟨[.v false [.d (.sl TL_Ptr) (.all .b) l], sInt .i64 a, .j, .j, .j, sInt .i64 (i : Int), .j, .j, .j, .j, .j, .j, .j, .j, .j, .j, .j, .j, .j, .j, .j, .j, .j, .j, .j, .j, .j], [], 4, []⟩) (fun ⟨i, a⟩ => l.length - i) (fun ⟨i, a⟩ => i ≤ l.length ∧ 0 ≤ a ∧ a ≤ 1048576 ∧ szGo szP (l.drop i) a = szL szP l left) (0, left - (l.length : Int)) ⟨?_, ?_⟩ ?_)))))
  ·exact ⟨Nat.zero_le _, by show 0 ≤ left - (l.length : Int); omega, by show left - (l.length : Int) ≤ 1048576; omega, by show szGo szP (l.drop 0) _ = szL szP l left; unfold szL; rw [if_neg c2]; rfl⟩
  ·refine ent_ok rfl ?_
   first | trivial | (simp [conj]; done) | (simp [conj] at *; (try dsimp only [Ty.den, Ty.dflt] at *); omega)
  ·rintro ⟨i, a⟩ ⟨hi, ha0, ha1, hgo⟩
   refine sw_seq (sw_seq (xr hP 5 rfl (sw_cond rfl (fun c5 => ?_) (fun c5 => ?_))))
   ·have hlt : i < l.length := by simpa using c5
    have hb := szP_ok l[i] a ha0
    refine sw_skip (sw_seq (sw_block (sw_seq (xg hP 6 [] rfl ?_ ?_))))
    ·simp [conj, gE hlt]
     repeat' apply And.intro
     all_goals first | omega | assumption | exact ⟨ha0, ha1⟩ | trivial
    refine sw_seq (xr hP 7 rfl (sw_cond rfl (fun c8 => ?_) (fun c8 => ?_)))
    ·replace c8 : szP l[i] a < 0 := by simpa [gE hlt] using c8
     refine sw_seq (xr hP 8 rfl (sw_ret ⟨.inl rfl, _, rfl, ?_⟩))
     simp [conj]
     exact (sz_hit hlt hgo c8).symm
    ·replace c8 : ¬ szP l[i] a < 0 := by simpa [gE hlt] using c8
     refine sw_skip (xr hP 8 rfl (⟨(i + 1, szP l[i] a), ?_, ?_, ent_ok rfl ?_⟩))
     ·exact ⟨hlt, by show 0 ≤ szP l[i] a; omega, by show szP l[i] a ≤ 1048576; omega, sz_next hlt hgo c8⟩
     ·show l.length - (i + 1) < l.length - i
      omega
     ·simp [conj, gE hlt]
   ·obtain rfl : i = l.length := by simp at c5; omega
    refine sw_exit (sw_seq (xr hP 6 rfl (sw_ret ⟨.inl rfl, _, rfl, ?_⟩)))
    simp [conj]
    exact (sz_end hgo).symm
def cSzV : Ctr := ⟨151, [.val true TL_Vol (.all .b), .val false TI pF], fun x => 0 ≤ x.2.1 ∧ x.2.1 ≤ 1048576, fun x => (sInt .i64 (szV x.1 x.2.1), [])⟩
theorem cSzV_ok : CtrOk Proofs.Tryz.prog cSzV := by
 have hP := ((Prg.none ttok mtok).and cSzPs_ok)
 refine ctr_of_body hP cSzV (fn := Proofs.Tryz.f151) (rts := [.tmp 4]) Proofs.Tryz.func151 rfl (by kernel_rfl) rfl rfl ?_
 rintro ⟨⟨(nm : Str), (bl : List Ptr_)⟩, (left : Int), ⟨⟩⟩ ⟨⟨hdn, hdl⟩, _⟩ ⟨h0, h1⟩
 try dsimp only [Ty.den, Mode.den, mdens] at h0
 try dsimp only [Ty.den, Mode.den, mdens] at h1
 refine ⟨rfl, ?_⟩
 have hml : nm.length ≤ 140737488355328 := hdn
 refine sw_seq (xr hP 1 rfl (sw_seq (xg hP 2 [] rfl ?_ ?_)))
 ·simp [conj, maxL]
  try dsimp only [Ty.den, Ty.dflt]
  try simp only [rd_eta]
  repeat' apply And.intro
  all_goals first | rfl | assumption | omega
 refine sw_seq (sw_seq (xr hP 3 rfl (sw_cond rfl (fun c2 => ?_) (fun c2 => ?_))))
 ·replace c2 : left - (nm.length : Int) < 0 := of_decide_eq_true c2
  refine sw_seq (xr hP 4 rfl (sw_ret ⟨.inl rfl, _, rfl, ?_⟩))
  simp [conj]
  unfold szV
  rw [if_pos c2]
 ·replace c2 : ¬ left - (nm.length : Int) < 0 := of_decide_eq_false c2
  have hb := szPs_ok bl (left - nm.length) (by omega)
  refine sw_skip (sw_seq (xg hP 4 [] rfl ?_ ?_))
  ·simp [conj, maxL]
   try dsimp only [Ty.den, Ty.dflt]
   try simp only [rd_eta]
   exact ⟨by show 0 ≤ left - (nm.length : Int); omega, by show left - (nm.length : Int) ≤ 1048576; omega⟩
  refine sw_seq (sw_seq (xr hP 5 rfl (sw_cond rfl (fun c5 => ?_) (fun c5 => ?_))))
  ·replace c5 : szPs bl (left - (nm.length : Int)) < 0 := of_decide_eq_true c5
   refine sw_seq (xr hP 6 rfl (sw_ret ⟨.inl rfl, _, rfl, ?_⟩))
   simp [conj]
   unfold szV
   rw [if_neg c2]
   exact (sz_neg szPs_ok (by omega) c5).symm
  ·replace c5 : ¬ szPs bl (left - (nm.length : Int)) < 0 := of_decide_eq_false c5
   refine sw_skip (sw_seq (xr hP 6 rfl (sw_ret ⟨.inl rfl, _, rfl, ?_⟩)))
   simp [conj]
   unfold szV
   rw [if_neg c2]
   try rfl
def cSzVs : Ctr := ⟨112, [.val false (.sl TL_Vol) (.all .b), .val false TI pF], fun x => 0 ≤ x.2.1 ∧ x.2.1 ≤ 1048576, fun x => (sInt .i64 (szL szV x.1 x.2.1), [])⟩
theorem cSzVs_ok : CtrOk Proofs.Tryz.prog cSzVs := by
 have hP := ((Prg.none ttok mtok).and cSzV_ok)
 refine ctr_of_body hP cSzVs (fn := Proofs.Tryz.f112) (rts := [.tmp 4]) Proofs.Tryz.func112 rfl (by kernel_rfl) rfl rfl ?_
 rintro ⟨(l : List Vol_), (left : Int), ⟨⟩⟩ ⟨hdl, _⟩ ⟨h0, h1⟩
 try dsimp only [Ty.den, Mode.den, mdens] at h0
 try dsimp only [Ty.den, Mode.den, mdens] at h1
 refine ⟨rfl, ?_⟩
 have hml : l.length ≤ 140737488355328 := hdl.1
 refine sw_seq (xr hP 1 rfl (sw_seq (xg hP 2 [] rfl ?_ ?_)))
 ·simp [conj, maxL]
  try dsimp only [Ty.den, Ty.dflt]
  try simp only [rd_eta]
  repeat' apply And.intro
  all_goals first | rfl | assumption | omega
 refine sw_seq (sw_seq (xr hP 3 rfl (sw_cond rfl (fun c2 => ?_) (fun c2 => ?_))))
 ·replace c2 : left - (l.length : Int) < 0 := of_decide_eq_true c2
  refine sw_seq (xr hP 4 rfl (sw_ret ⟨.inl rfl, _, rfl, ?_⟩))
  simp [conj]
  exact (if_pos c2).symm
 ·replace c2 : ¬ left - (l.length : Int) < 0 := of_decide_eq_false c2
  refine sw_skip (sw_seq (sw_seq (xr hP 4 rfl (sw_block (sw_loop (ι := Nat × Int) (fun ⟨i, a⟩ => ⟨[.v false [.d (.sl TL_Vol) (.all .b) l], sInt .i64 a, .j, .j, .j, sInt .i64 (i : Int), .j, .j, .j, .j, .j, .j, .j, .j, .j, .j, .j, .j, .j, .j, .j, .j, .j, .j, .j, .j, .j], [], 4, []⟩) (fun ⟨i, a⟩ => l.length - i) (fun ⟨i, a⟩ => i ≤ l.length ∧ 0 ≤ a ∧ a ≤ 1048576 ∧ szGo szV (l.drop i) a = szL szV l left) (0, left - (l.length : Int)) ⟨?_, ?_⟩ ?_)))))
  ·exact ⟨Nat.zero_le _, by show 0 ≤ left - (l.length : Int); omega, by show left - (l.length : Int) ≤ 1048576; omega, by show szGo szV (l.drop 0) _ = szL szV l left; unfold szL; rw [if_neg c2]; rfl⟩
  ·refine ent_ok rfl ?_
   first | trivial | (simp [conj]; done) | (simp [conj] at *; (try dsimp only [Ty.den, Ty.dflt] at *); omega)
  ·rintro ⟨i, a⟩ ⟨hi, ha0, ha1, hgo⟩
   refine sw_seq (sw_seq (xr hP 5 rfl (sw_cond rfl (fun c5 => ?_) (fun c5 => ?_))))
   ·have hlt : i < l.length := by simpa using c5
    have hb := szV_ok l[i] a ha0
    refine sw_skip (sw_seq (sw_block (sw_seq (xg hP 6 [] rfl ?_ ?_))))
    ·simp [conj, gE hlt]
     repeat' apply And.intro
     all_goals first | omega | assumption | exact ⟨ha0, ha1⟩ | trivial
    refine sw_seq (xr hP 7 rfl (sw_cond rfl (fun c8 => ?_) (fun c8 => ?_)))
    ·replace c8 : szV l[i] a < 0 := by simpa [gE hlt] using c8
     refine sw_seq (xr hP 8 rfl (sw_ret ⟨.inl rfl, _, rfl, ?_⟩))
     simp [conj]
     exact (sz_hit hlt hgo c8).symm
    ·replace c8 : ¬ szV l[i] a < 0 := by simpa [gE hlt] using c8
     refine sw_skip (xr hP 8 rfl (⟨(i + 1, szV l[i] a), ?_, ?_, ent_ok rfl ?_⟩))
     ·exact ⟨hlt, by show 0 ≤ szV l[i] a; omega, by show szV l[i] a ≤ 1048576; omega, sz_next hlt hgo c8⟩
     ·show l.length - (i + 1) < l.length - i
      omega
     ·simp [conj, gE hlt]
   ·obtain rfl : i = l.length := by simp at c5; omega
    refine sw_exit (sw_seq (xr hP 6 rfl (sw_ret ⟨.inl rfl, _, rfl, ?_⟩)))
    simp [conj]
    exact (sz_end hgo).symm
def cSzR : Ctr := ⟨65, [.val true TL_Root (.all .b), .val false TI pF], fun x => 0 ≤ x.2.1 ∧ x.2.1 ≤ 1048576, fun x => (sInt .i64 (szVs (x.1).2 x.2.1), [])⟩
theorem cSzR_ok : CtrOk Proofs.Tryz.prog cSzR := by
 have hP := ((Prg.none ttok mtok).and cSzVs_ok)
 refine ctr_of_body hP cSzR (fn := Proofs.Tryz.f65) (rts := [.tmp 4]) Proofs.Tryz.func65 rfl (by kernel_rfl) rfl rfl ?_
 rintro ⟨⟨(tg : Int), (l : List Vol_)⟩, (left : Int), ⟨⟩⟩ _ ⟨h0, h1⟩
 try dsimp only [Ty.den, Mode.den, mdens] at h0
 try dsimp only [Ty.den, Mode.den, mdens] at h1
 refine ⟨rfl, ?_⟩
 have hb := szVs_ok (l) left h0
 refine sw_seq (xr hP 1 rfl (sw_seq (xg hP 2 [] rfl ?_ ?_)))
 ·simp [conj, maxL]
  try dsimp only [Ty.den, Ty.dflt]
  try simp only [rd_eta]
  exact ⟨h0, h1⟩
 refine sw_seq (sw_seq (xr hP 3 rfl (sw_cond rfl (fun c2 => ?_) (fun c2 => ?_))))
 ·replace c2 : szVs (((tg, l) : Root_)).2 left < 0 := of_decide_eq_true c2
  have hv : szVs (((tg, l) : Root_)).2 left = -1 := by show _ = _; exact sz_neg szVs_ok h0 c2
  refine sw_seq (xr hP 4 rfl (sw_ret ⟨.inl rfl, _, rfl, ?_⟩))
  simp [conj]
  exact hv.symm
 ·replace c2 : ¬ szVs (((tg, l) : Root_)).2 left < 0 := of_decide_eq_false c2
  refine sw_skip (sw_seq (xr hP 4 rfl (sw_ret ⟨.inl rfl, _, rfl, ?_⟩)))
  simp [conj]
  try rfl
def cToPlc : Ctr := ⟨106, [.val true TL_Place pF], fun x => True, fun x => (.v true [.d TI pF x.1.1, .d TI pF x.1.2], [])⟩
theorem cToPlc_ok : CtrOk Proofs.Tryz.prog cToPlc := by
 have hP := (Prg.none ttok mtok)
 refine ctr_of_body hP cToPlc (fn := Proofs.Tryz.f106) (rts := [.cell 2 41]) Proofs.Tryz.func106 rfl (by kernel_rfl) rfl rfl ?_
 rintro ⟨⟨(a : Int), (b : Int)⟩, ⟨⟩⟩ _ _
 try dsimp only [Ty.den, Mode.den, mdens] at _
 refine ⟨rfl, ?_⟩
 refine sw_seq (xr hP 1 rfl (sw_seq (xr hP 2 rfl (sw_seq (xr hP 3 rfl (sw_seq (xr hP 4 rfl (sw_seq (xr hP 5 rfl (sw_ret ⟨.inl rfl, _, rfl, ?_⟩))))))))))
 simp [conj]
def cToPls : Ctr := ⟨55, [.val false (.sl TL_Place) (.all .b)], fun x => List.length x.1 ≤ 1048576, fun x => (.v false [.own ⟨1, 0, 0⟩], [(⟨1, 0, 0⟩, .sl T_Place (.all .w) x.1)])⟩
theorem cToPls_ok : CtrOk Proofs.Tryz.prog cToPls := by
 have hP := ((Prg.none ttok mtok).and cToPlc_ok)
 refine ctr_of_body hP cToPls (fn := Proofs.Tryz.f55) (rts := [.tmp 2]) Proofs.Tryz.func55 rfl (by kernel_rfl) rfl rfl ?_
 rintro ⟨(l : List Plc), ⟨⟩⟩ _ hpre
 try dsimp only [Ty.den, Mode.den, mdens] at hpre
 refine ⟨rfl, ?_⟩
 replace hpre : l.length ≤ 1048576 := hpre
 refine sw_seq (xr hP 1 rfl (sw_seq (xg hP 2 [] rfl ?_ ?_)))
 ·simp [conj, maxL]
  try dsimp only [Ty.den, Ty.dflt]
  try simp only [rd_eta]
  repeat' apply And.intro
  all_goals first | rfl | assumption | omega
 refine sw_seq (sw_seq (xr hP 3 rfl (sw_block (sw_loop (ι := Nat) (fun i => ⟨[.v false [.d (.sl TL_Place) (.all .b) l], .j, .j, .v false [.own ⟨2, 2, 0⟩], sInt .i64 (i : Int), .j, .j, .j, .j, .j, .j, .j, .j, .j, .j, .j, .j, .j, .j, .j, .j, .j, .j], [(⟨2, 2, 0⟩, .sl T_Place (.all .w) (cpL l ((0, 0) : Plc) i))], 3, []⟩) (fun i => l.length - i) (fun i => i ≤ l.length) 0 ⟨?_, ?_⟩ ?_))))
 ·exact Nat.zero_le _
 ·refine ent_ok rfl ?_
  simp [conj]
  exact cpL_zero.symm
 ·rintro i hi
  refine sw_seq (sw_seq (xr hP 4 rfl (sw_cond rfl (fun c3 => ?_) (fun c3 => ?_))))
  ·have hlt : i < l.length := by simpa using c3
   have hcl : (cpL l ((0, 0) : Plc) i).length = l.length := cpL_len hi
   refine sw_skip (sw_seq (sw_block (xg hP 5 [] rfl ?_ ?_)))
   ·simp [conj, maxL, gE hlt, hcl]
    repeat' apply And.intro
    all_goals first | assumption | omega | trivial
   refine xr hP 6 rfl (⟨i + 1, ?_, ?_, ent_ok rfl ?_⟩)
   ·exact hlt
   ·omega
   ·simp [conj, gE hlt]
    exact cpL_next hlt
  ·obtain rfl : i = l.length := by simp at c3; omega
   refine sw_exit (sw_seq (xr hP 5 rfl (sw_ret ⟨.inl rfl, _, rfl, ?_⟩)))
   simp [conj]
   exact cpL_end
def cToPtr : Ctr := ⟨15, [.val true TL_Ptr (.all .b)], fun x => SmP x.1, fun x => (.v true [.d TI pF x.1.1, .d TI pF x.1.2.1, .own ⟨1, 0, 0⟩], [(⟨1, 0, 0⟩, .sl T_Place (.all .w) x.1.2.2)])⟩
theorem cToPtr_ok : CtrOk Proofs.Tryz.prog cToPtr := by
 have hP := ((Prg.none ttok mtok).and cToPls_ok)
 refine ctr_of_body hP cToPtr (fn := Proofs.Tryz.f15) (rts := [.cell 2 26]) Proofs.Tryz.func15 rfl (by kernel_rfl) rfl rfl ?_
 rintro ⟨⟨(sz : Int), (sm : Int), (pl : List Plc)⟩, ⟨⟩⟩ _ hpre
 try dsimp only [Ty.den, Mode.den, mdens] at hpre
 refine ⟨rfl, ?_⟩
 refine sw_seq (xr hP 1 rfl (sw_seq (xr hP 2 rfl (sw_seq (xr hP 3 rfl (sw_seq (xr hP 4 rfl (sw_seq (xg hP 5 [] rfl ?_ ?_)))))))))
 ·simp [conj, maxL]
  try dsimp only [Ty.den, Ty.dflt]
  try simp only [rd_eta]
  exact hpre
 refine sw_seq (xr hP 6 rfl (sw_ret ⟨.inl rfl, _, rfl, ?_⟩))
 simp [conj, maxL]
 try dsimp only [Ty.den, Ty.dflt]
 try simp only [rd_eta]
 repeat' apply And.intro
 all_goals first | rfl | assumption | omega | trivial
def cToPtrs : Ctr := ⟨175, [.val false (.sl TL_Ptr) (.all .b)], fun x => SmPs x.1, fun x => (.v false [.own ⟨1, 0, 0⟩], [(⟨1, 0, 0⟩, .sl T_Ptr (.all .w) x.1)])⟩
theorem cToPtrs_ok : CtrOk Proofs.Tryz.prog cToPtrs := by
 have hP := ((Prg.none ttok mtok).and cToPtr_ok)
 refine ctr_of_body hP cToPtrs (fn := Proofs.Tryz.f175) (rts := [.tmp 2]) Proofs.Tryz.func175 rfl (by kernel_rfl) rfl rfl ?_
 rintro ⟨(l : List Ptr_), ⟨⟩⟩ _ ⟨hpre, hp2⟩
 try dsimp only [Ty.den, Mode.den, mdens] at hpre
 try dsimp only [Ty.den, Mode.den, mdens] at hp2
 refine ⟨rfl, ?_⟩
 replace hpre : l.length ≤ 1048576 := hpre
 refine sw_seq (xr hP 1 rfl (sw_seq (xg hP 2 [] rfl ?_ ?_)))
 ·simp [conj, maxL]
  try dsimp only [Ty.den, Ty.dflt]
  try simp only [rd_eta]
  repeat' apply And.intro
  all_goals first | rfl | assumption | omega
 refine sw_seq (sw_seq (xr hP 3 rfl (sw_block (sw_loop (ι := Nat) (fun i => ⟨[.v false [.d (.sl TL_Ptr) (.all .b) l], .j, .j, .v false [.own ⟨2, 2, 0⟩], sInt .i64 (i : Int), .j, .j, .j, .j, .j, .j, .j, .j, .j, .j, .j, .j, .j, .j, .j, .j, .j, .j], [(⟨2, 2, 0⟩, .sl T_Ptr (.all .w) (cpL l ((0, 0, []) : Ptr_) i))], 3, []⟩) (fun i => l.length - i) (fun i => i ≤ l.length) 0 ⟨?_, ?_⟩ ?_))))
 ·exact Nat.zero_le _
 ·refine ent_ok rfl ?_
  simp [conj]
  exact cpL_zero.symm
 ·rintro i hi
  refine sw_seq (sw_seq (xr hP 4 rfl (sw_cond rfl (fun c3 => ?_) (fun c3 => ?_))))
  ·have hlt : i < l.length := by simpa using c3
   have hcl : (cpL l ((0, 0, []) : Ptr_) i).length = l.length := cpL_len hi
   have hl2 := hp2 _ (List.getElem_mem hlt)
   refine sw_skip (sw_seq (sw_block (xg hP 5 [] rfl ?_ ?_)))
   ·simp [conj, maxL, gE hlt, hcl]
    repeat' first | exact hl2 | apply And.intro
    all_goals first | assumption | omega | trivial
   refine xr hP 6 rfl (⟨i + 1, ?_, ?_, ent_ok rfl ?_⟩)
   ·exact hlt
   ·omega
   ·simp [conj, gE hlt]
    exact cpL_next hlt
  ·obtain rfl : i = l.length := by simp at c3; omega
   refine sw_exit (sw_seq (xr hP 5 rfl (sw_ret ⟨.inl rfl, _, rfl, ?_⟩)))
   simp [conj]
   exact cpL_end
def cToVol : Ctr := ⟨153, [.val true TL_Vol (.all .b)], fun x => SmPs x.1.2, fun x => (.v true [.d .str pF x.1.1, .own ⟨1, 0, 0⟩], [(⟨1, 0, 0⟩, .sl T_Ptr (.all .w) x.1.2)])⟩
theorem cToVol_ok : CtrOk Proofs.Tryz.prog cToVol := by
 have hP := ((Prg.none ttok mtok).and cToPtrs_ok)
 refine ctr_of_body hP cToVol (fn := Proofs.Tryz.f153) (rts := [.cell 2 185]) Proofs.Tryz.func153 rfl (by kernel_rfl) rfl rfl ?_
 rintro ⟨⟨(nm : Str), (bl : List Ptr_)⟩, ⟨⟩⟩ _ hpre
 try dsimp only [Ty.den, Mode.den, mdens] at hpre
 refine ⟨rfl, ?_⟩
 refine sw_seq (xr hP 1 rfl (sw_seq (xr hP 2 rfl (sw_seq (xr hP 3 rfl (sw_seq (xg hP 4 [] rfl ?_ ?_)))))))
 ·simp [conj, maxL]
  try dsimp only [Ty.den, Ty.dflt]
  try simp only [rd_eta]
  exact hpre
 refine sw_seq (xr hP 5 rfl (sw_ret ⟨.inl rfl, _, rfl, ?_⟩))
 simp [conj, maxL]
 try dsimp only [Ty.den, Ty.dflt]
 try simp only [rd_eta]
 repeat' apply And.intro
 all_goals first | rfl | assumption | omega | trivial
def cToVols : Ctr := ⟨117, [.val false (.sl TL_Vol) (.all .b)], fun x => SmVs x.1, fun x => (.v false [.own ⟨1, 0, 0⟩], [(⟨1, 0, 0⟩, .sl T_Vol (.all .w) x.1)])⟩
theorem cToVols_ok : CtrOk Proofs.Tryz.prog cToVols := by
 have hP := ((Prg.none ttok mtok).and cToVol_ok)
 refine ctr_of_body hP cToVols (fn := Proofs.Tryz.f117) (rts := [.tmp 2]) Proofs.Tryz.func117 rfl (by kernel_rfl) rfl rfl ?_
 rintro ⟨(l : List Vol_), ⟨⟩⟩ _ ⟨hpre, hp2⟩
 try dsimp only [Ty.den, Mode.den, mdens] at hpre
 try dsimp only [Ty.den, Mode.den, mdens] at hp2
 refine ⟨rfl, ?_⟩
 replace hpre : l.length ≤ 1048576 := hpre
 refine sw_seq (xr hP 1 rfl (sw_seq (xg hP 2 [] rfl ?_ ?_)))
 ·simp [conj, maxL]
  try dsimp only [Ty.den, Ty.dflt]
  try simp only [rd_eta]
  repeat' apply And.intro
  all_goals first | rfl | assumption | omega
 refine sw_seq (sw_seq (xr hP 3 rfl (sw_block (sw_loop (ι := Nat) (fun i => ⟨[.v false [.d (.sl TL_Vol) (.all .b) l], .j, .j, .v false [.own ⟨2, 2, 0⟩], sInt .i64 (i : Int), .j, .j, .j, .j, .j, .j, .j, .j, .j, .j, .j, .j, .j, .j, .j, .j, .j, .j], [(⟨2, 2, 0⟩, .sl T_Vol (.all .w) (cpL l (([], []) : Vol_) i))], 3, []⟩) (fun i => l.length - i) (fun i => i ≤ l.length) 0 ⟨?_, ?_⟩ ?_))))
 ·exact Nat.zero_le _
 ·refine ent_ok rfl ?_
  simp [conj]
  exact cpL_zero.symm
 ·rintro i hi
  refine sw_seq (sw_seq (xr hP 4 rfl (sw_cond rfl (fun c3 => ?_) (fun c3 => ?_))))
  ·have hlt : i < l.length := by simpa using c3
   have hcl : (cpL l (([], []) : Vol_) i).length = l.length := cpL_len hi
   have hl2 := hp2 _ (List.getElem_mem hlt)
   refine sw_skip (sw_seq (sw_block (xg hP 5 [] rfl ?_ ?_)))
   ·simp [conj, maxL, gE hlt, hcl]
    repeat' first | exact hl2 | apply And.intro
    all_goals first | assumption | omega | trivial
   refine xr hP 6 rfl (⟨i + 1, ?_, ?_, ent_ok rfl ?_⟩)
   ·exact hlt
   ·omega
   ·simp [conj, gE hlt]
    exact cpL_next hlt
  ·obtain rfl : i = l.length := by simp at c3; omega
   refine sw_exit (sw_seq (xr hP 5 rfl (sw_ret ⟨.inl rfl, _, rfl, ?_⟩)))
   simp [conj]
   exact cpL_end
def cToRoot : Ctr := ⟨68, [.val true TL_Root (.all .b)], fun x => SmVs x.1.2, fun x => (.v true [.d TI pF x.1.1, .own ⟨1, 0, 0⟩], [(⟨1, 0, 0⟩, .sl T_Vol (.all .w) x.1.2)])⟩
theorem cToRoot_ok : CtrOk Proofs.Tryz.prog cToRoot := by
 have hP := ((Prg.none ttok mtok).and cToVols_ok)
 refine ctr_of_body hP cToRoot (fn := Proofs.Tryz.f68) (rts := [.cell 2 64]) Proofs.Tryz.func68 rfl (by kernel_rfl) rfl rfl ?_
 rintro ⟨⟨(tg : Int), (l : List Vol_)⟩, ⟨⟩⟩ _ hpre
 try dsimp only [Ty.den, Mode.den, mdens] at hpre
 refine ⟨rfl, ?_⟩
 refine sw_seq (xr hP 1 rfl (sw_seq (xr hP 2 rfl (sw_seq (xr hP 3 rfl (sw_seq (xg hP 4 [] rfl ?_ ?_)))))))
 ·simp [conj, maxL]
  try dsimp only [Ty.den, Ty.dflt]
  try simp only [rd_eta]
  exact hpre
 refine sw_seq (xr hP 5 rfl (sw_ret ⟨.inl rfl, _, rfl, ?_⟩))
 simp [conj, maxL]
 try dsimp only [Ty.den, Ty.dflt]
 try simp only [rd_eta]
 repeat' apply And.intro
 all_goals first | rfl | assumption | omega | trivial
def cEqPlc : Ctr := ⟨110, [.val true T_Place pF, .val true T_Place pF], fun x => True, fun x => (sBool (decide ((x.1 : Plc) = x.2.1)), [])⟩
theorem cEqPlc_ok : CtrOk Proofs.Tryz.prog cEqPlc := by
 have hP := (Prg.none ttok mtok)
 refine ctr_of_body hP cEqPlc (fn := Proofs.Tryz.f110) (rts := [.tmp 4]) Proofs.Tryz.func110 rfl (by kernel_rfl) rfl rfl ?_
 rintro ⟨⟨(a : Int), (b : Int)⟩, ⟨(c : Int), (e : Int)⟩, ⟨⟩⟩ _ _
 try dsimp only [Ty.den, Mode.den, mdens] at _
 refine ⟨rfl, ?_⟩
 refine sw_seq (xr hP 1 rfl (sw_seq (sw_seq (xr hP 2 rfl (sw_cond rfl (fun c1 => ?_) (fun c1 => ?_))))))
 ·replace c1 : ¬ a = c := by simpa using c1
  refine sw_seq (xr hP 3 rfl (sw_ret ⟨.inl rfl, _, rfl, ?_⟩))
  simp [conj, *]
 ·replace c1 : a = c := by simpa using c1
  refine sw_skip (sw_seq (sw_seq (xr hP 3 rfl (sw_cond rfl (fun c3 => ?_) (fun c3 => ?_)))))
  ·replace c3 : ¬ b = e := by simpa using c3
   refine sw_seq (xr hP 4 rfl (sw_ret ⟨.inl rfl, _, rfl, ?_⟩))
   simp [conj, *]
  ·replace c3 : b = e := by simpa using c3
   refine sw_skip (sw_seq (xr hP 4 rfl (sw_ret ⟨.inl rfl, _, rfl, ?_⟩)))
   simp [conj, *]
def cEqPls : Ctr := ⟨57, [.val false (.sl T_Place) (.all .b), .val false (.sl T_Place) (.all .b)], fun x => True, fun x => (sBool (decide ((x.1 : List Plc) = x.2.1)), [])⟩
theorem cEqPls_ok : CtrOk Proofs.Tryz.prog cEqPls := by
 have hP := ((Prg.none ttok mtok).and cEqPlc_ok)
 refine ctr_of_body hP cEqPls (fn := Proofs.Tryz.f57) (rts := [.tmp 4]) Proofs.Tryz.func57 rfl (by kernel_rfl) rfl rfl ?_
 rintro ⟨(a : List Plc), (b : List Plc), ⟨⟩⟩ ⟨hda, hdb, _⟩ _
 try dsimp only [Ty.den, Mode.den, mdens] at _
 refine ⟨rfl, ?_⟩
 have hml : a.length ≤ 140737488355328 := hda.1
 have hmb : b.length ≤ 140737488355328 := hdb.1
 refine sw_seq (xr hP 1 rfl (sw_seq (sw_seq (xr hP 2 rfl (sw_cond rfl (fun c1 => ?_) (fun c1 => ?_))))))
 ·replace c1 : ¬ a.length = b.length := by simp at c1; omega
  refine sw_seq (xr hP 3 rfl (sw_ret ⟨.inl rfl, _, rfl, ?_⟩))
  have hv := eqL_len c1
  simp [conj, hv]
 ·replace c1 : a.length = b.length := by simp at c1; omega
  refine sw_skip (sw_seq (sw_seq (xr hP 3 rfl (sw_block (sw_loop (ι := Nat) (fun i => ⟨[.v false [.d (.sl T_Place) (.all .b) a], .v false [.d (.sl T_Place) (.all .b) b], .j, .j, .j, sInt .i64 (i : Int), .j, .j, .j, .j, .j, .j, .j, .j, .j, .j, .j, .j, .j, .j, .j, .j, .j, .j, .j, .j, .j], [], 3, []⟩) (fun i => a.length - i) (fun i => i ≤ a.length ∧ decide (a.drop i = b.drop i) = decide (a = b)) 0 ⟨?_, ?_⟩ ?_)))))
  ·exact ⟨Nat.zero_le _, rfl⟩
  ·refine ent_ok rfl ?_
   first | trivial | (simp [conj]; done) | (simp [conj] at *; (try dsimp only [Ty.den, Ty.dflt] at *); omega)
  ·rintro i ⟨hi, hgo⟩
   refine sw_seq (sw_seq (xr hP 4 rfl (sw_cond rfl (fun c4 => ?_) (fun c4 => ?_))))
   ·have hlt : i < a.length := by simpa using c4
    have hlt2 : i < b.length := by omega
    refine sw_skip (sw_seq (sw_block (sw_seq (xg hP 5 [] rfl ?_ ?_))))
    ·simp [conj, gE hlt, gE hlt2]
     repeat' apply And.intro
     all_goals first | omega | trivial
    refine sw_cond rfl (fun c6 => ?_) (fun c6 => ?_)
    ·replace c6 : ¬ a[i] = b[i] := by intro e; simp [gE hlt, gE hlt2, e] at c6
     refine sw_seq (xr hP 6 rfl (sw_ret ⟨.inl rfl, _, rfl, ?_⟩))
     have hv := eqL_hit hlt hlt2 hgo c6
     simp [conj, hv]
    ·replace c6 : a[i] = b[i] := by
       have h := c6
       simp [gE hlt, gE hlt2] at h
       exact Prod.ext h.1 h.2
     refine sw_skip (xr hP 6 rfl (⟨i + 1, ?_, ?_, ent_ok rfl ?_⟩))
     ·exact ⟨hlt, eqL_next hlt hlt2 hgo c6⟩
     ·omega
     ·simp [conj]
   ·obtain rfl : i = a.length := by simp at c4; omega
    refine sw_exit (sw_seq (xr hP 5 rfl (sw_ret ⟨.inl rfl, _, rfl, ?_⟩)))
    have hv := eqL_end c1 hgo
    simp [conj, hv]
def cEqPtr : Ctr := ⟨17, [.val true T_Ptr (.all .b), .val true T_Ptr (.all .b)], fun x => True, fun x => (sBool (decide ((x.1 : Ptr_) = x.2.1)), [])⟩
theorem cEqPtr_ok : CtrOk Proofs.Tryz.prog cEqPtr := by
 have hP := ((Prg.none ttok mtok).and cEqPls_ok)
 refine ctr_of_body hP cEqPtr (fn := Proofs.Tryz.f17) (rts := [.tmp 4]) Proofs.Tryz.func17 rfl (by kernel_rfl) rfl rfl ?_
 rintro ⟨⟨(sz : Int), (sm : Int), (pl : List Plc)⟩, ⟨(sz2 : Int), (sm2 : Int), (pl2 : List Plc)⟩, ⟨⟩⟩ _ _
 try dsimp only [Ty.den, Mode.den, mdens] at _
 refine ⟨rfl, ?_⟩
 refine sw_seq (xr hP 1 rfl (sw_seq (sw_seq (xr hP 2 rfl (sw_cond rfl (fun c1 => ?_) (fun c1 => ?_))))))
 ·replace c1 : ¬ sz = sz2 := by simpa using c1
  refine sw_seq (xr hP 3 rfl (sw_ret ⟨.inl rfl, _, rfl, ?_⟩))
  simp [conj, *]
 ·replace c1 : sz = sz2 := by simpa using c1
  refine sw_skip (sw_seq (sw_seq (xr hP 3 rfl (sw_cond rfl (fun c3 => ?_) (fun c3 => ?_)))))
  ·replace c3 : ¬ sm = sm2 := by simpa using c3
   refine sw_seq (xr hP 4 rfl (sw_ret ⟨.inl rfl, _, rfl, ?_⟩))
   simp [conj, *]
  ·replace c3 : sm = sm2 := by simpa using c3
   refine sw_skip (sw_seq (sw_seq (xg hP 4 [] rfl ?_ ?_)))
   ·simp [conj, maxL]
    try dsimp only [Ty.den, Ty.dflt]
    try simp only [rd_eta]
    trivial
   refine sw_cond rfl (fun c5 => ?_) (fun c5 => ?_)
   ·replace c5 : ¬ pl = pl2 := by simpa using c5
    refine sw_seq (xr hP 5 rfl (sw_ret ⟨.inl rfl, _, rfl, ?_⟩))
    simp [conj, *]
   ·replace c5 : pl = pl2 := by simpa using c5
    refine sw_skip (sw_seq (xr hP 5 rfl (sw_ret ⟨.inl rfl, _, rfl, ?_⟩)))
    simp [conj, *]
def cEqPtrs : Ctr := ⟨176, [.val false (.sl T_Ptr) (.all .b), .val false (.sl T_Ptr) (.all .b)], fun x => True, fun x => (sBool (decide ((x.1 : List Ptr_) = x.2.1)), [])⟩
theorem cEqPtrs_ok : CtrOk Proofs.Tryz.prog cEqPtrs := by
 have hP := ((Prg.none ttok mtok).and cEqPtr_ok)
 refine ctr_of_body hP cEqPtrs (fn := Proofs.Tryz.f176) (rts := [.tmp 4]) Proofs.Tryz.func176 rfl (by kernel_rfl) rfl rfl ?_
 rintro ⟨(a : List Ptr_), (b : List Ptr_), ⟨⟩⟩ ⟨hda, hdb, _⟩ _
 try dsimp only [Ty.den, Mode.den, mdens] at _
 refine ⟨rfl, ?_⟩
 have hml : a.length ≤ 140737488355328 := hda.1
 have hmb : b.length ≤ 140737488355328 := hdb.1
 refine sw_seq (xr hP 1 rfl (sw_seq (sw_seq (xr hP 2 rfl (sw_cond rfl (fun c1 => ?_) (fun c1 => ?_))))))
 ·replace c1 : ¬ a.length = b.length := by simp at c1; omega
  refine sw_seq (xr hP 3 rfl (sw_ret ⟨.inl rfl, _, rfl, ?_⟩))
  have hv := eqL_len c1
  simp [conj, hv]
 ·replace c1 : a.length = b.length := by simp at c1; omega
  refine sw_skip (sw_seq (sw_seq (xr hP 3 rfl (sw_block (sw_loop (ι := Nat) (fun i => ⟨[.v false [.d (.sl T_Ptr) (.all .b) a], .v false [.d (.sl T_Ptr) (.all .b) b], .j, .j, .j, sInt .i64 (i : Int), .j, .j, .j, .j, .j, .j, .j, .j, .j, .j, .j, .j, .j, .j, .j, .j, .j, .j, .j, .j, .j], [], 3, []⟩) (fun i => a.length - i) (fun i => i ≤ a.length ∧ decide (a.drop i = b.drop i) = decide (a = b)) 0 ⟨?_, ?_⟩ ?_)))))
  ·exact ⟨Nat.zero_le _, rfl⟩
  ·refine ent_ok rfl ?_
   first | trivial | (simp [conj]; done) | (simp [conj] at *; (try dsimp only [Ty.den, Ty.dflt] at *); omega)
  ·rintro i ⟨hi, hgo⟩
   refine sw_seq (sw_seq (xr hP 4 rfl (sw_cond rfl (fun c4 => ?_) (fun c4 => ?_))))
   ·have hlt : i < a.length := by simpa using c4
    have hlt2 : i < b.length := by omega
    refine sw_skip (sw_seq (sw_block (sw_seq (xg hP 5 [] rfl ?_ ?_))))
    ·simp [conj, gE hlt, gE hlt2]
     repeat' apply And.intro
     all_goals first | omega | trivial
    refine sw_cond rfl (fun c6 => ?_) (fun c6 => ?_)
    ·replace c6 : ¬ a[i] = b[i] := by intro e; simp [gE hlt, gE hlt2, e] at c6
     refine sw_seq (xr hP 6 rfl (sw_ret ⟨.inl rfl, _, rfl, ?_⟩))
     have hv := eqL_hit hlt hlt2 hgo c6
     simp [conj, hv]
    ·replace c6 : a[i] = b[i] := by
       have h := c6
       simp [gE hlt, gE hlt2] at h
       exact Prod.ext h.1 (Prod.ext h.2.1 h.2.2)
     refine sw_skip (xr hP 6 rfl (⟨i + 1, ?_, ?_, ent_ok rfl ?_⟩))
     ·exact ⟨hlt, eqL_next hlt hlt2 hgo c6⟩
     ·omega
     ·simp [conj]
   ·obtain rfl : i = a.length := by simp at c4; omega
    refine sw_exit (sw_seq (xr hP 5 rfl (sw_ret ⟨.inl rfl, _, rfl, ?_⟩)))
    have hv := eqL_end c1 hgo
    simp [conj, hv]
def cEqVol : Ctr := ⟨157, [.val true T_Vol (.all .b), .val true T_Vol (.all .b)], fun x => True, fun x => (sBool (decide ((x.1 : Vol_) = x.2.1)), [])⟩
theorem cEqVol_ok : CtrOk Proofs.Tryz.prog cEqVol := by
 have hP := ((Prg.none ttok mtok).and cEqPtrs_ok)
 refine ctr_of_body hP cEqVol (fn := Proofs.Tryz.f157) (rts := [.tmp 4]) Proofs.Tryz.func157 rfl (by kernel_rfl) rfl rfl ?_
 rintro ⟨⟨(nm : Str), (bl : List Ptr_)⟩, ⟨(nm2 : Str), (bl2 : List Ptr_)⟩, ⟨⟩⟩ _ _
 try dsimp only [Ty.den, Mode.den, mdens] at _
 refine ⟨rfl, ?_⟩
 refine sw_seq (xr hP 1 rfl (sw_seq (sw_seq (xr hP 2 rfl (sw_cond rfl (fun c1 => ?_) (fun c1 => ?_))))))
 ·replace c1 : ¬ nm = nm2 := by simpa using c1
  refine sw_seq (xr hP 3 rfl (sw_ret ⟨.inl rfl, _, rfl, ?_⟩))
  simp [conj, *]
 ·replace c1 : nm = nm2 := by simpa using c1
  refine sw_skip (sw_seq (sw_seq (xg hP 3 [] rfl ?_ ?_)))
  ·simp [conj, maxL]
   try dsimp only [Ty.den, Ty.dflt]
   try simp only [rd_eta]
   trivial
  refine sw_cond rfl (fun c3 => ?_) (fun c3 => ?_)
  ·replace c3 : ¬ bl = bl2 := by simpa using c3
   refine sw_seq (xr hP 4 rfl (sw_ret ⟨.inl rfl, _, rfl, ?_⟩))
   simp [conj, *]
  ·replace c3 : bl = bl2 := by simpa using c3
   refine sw_skip (sw_seq (xr hP 4 rfl (sw_ret ⟨.inl rfl, _, rfl, ?_⟩)))
   simp [conj, *]
def cEqVols : Ctr := ⟨125, [.val false (.sl T_Vol) (.all .b), .val false (.sl T_Vol) (.all .b)], fun x => True, fun x => (sBool (decide ((x.1 : List Vol_) = x.2.1)), [])⟩
theorem cEqVols_ok : CtrOk Proofs.Tryz.prog cEqVols := by
 have hP := ((Prg.none ttok mtok).and cEqVol_ok)
 refine ctr_of_body hP cEqVols (fn := Proofs.Tryz.f125) (rts := [.tmp 4]) Proofs.Tryz.func125 rfl (by kernel_rfl) rfl rfl ?_
 rintro ⟨(a : List Vol_), (b : List Vol_), ⟨⟩⟩ ⟨hda, hdb, _⟩ _
 try dsimp only [Ty.den, Mode.den, mdens] at _
 refine ⟨rfl, ?_⟩
 have hml : a.length ≤ 140737488355328 := hda.1
 have hmb : b.length ≤ 140737488355328 := hdb.1
 refine sw_seq (xr hP 1 rfl (sw_seq (sw_seq (xr hP 2 rfl (sw_cond rfl (fun c1 => ?_) (fun c1 => ?_))))))
 ·replace c1 : ¬ a.length = b.length := by simp at c1; omega
  refine sw_seq (xr hP 3 rfl (sw_ret ⟨.inl rfl, _, rfl, ?_⟩))
  have hv := eqL_len c1
  simp [conj, hv]
 ·replace c1 : a.length = b.length := by simp at c1; omega
  refine sw_skip (sw_seq (sw_seq (xr hP 3 rfl (sw_block (sw_loop (ι := Nat) (fun i => ⟨[.v false [.d (.sl T_Vol) (.all .b) a], .v false [.d (.sl T_Vol) (.all .b) b], .j, .j, .j, sInt .i64 (i : Int), .j, .j, .j, .j, .j, .j, .j, .j, .j, .j, .j, .j, .j, .j, .j, .j, .j, .j, .j, .j, .j], [], 3, []⟩) (fun i => a.length - i) (fun i => i ≤ a.length ∧ decide (a.drop i = b.drop i) = decide (a = b)) 0 ⟨?_, ?_⟩ ?_)))))
  ·exact ⟨Nat.zero_le _, rfl⟩
  ·refine ent_ok rfl ?_
   first | trivial | (simp [conj]; done) | (simp [conj] at *; (try dsimp only [Ty.den, Ty.dflt] at *); omega)
  ·rintro i ⟨hi, hgo⟩
   refine sw_seq (sw_seq (xr hP 4 rfl (sw_cond rfl (fun c4 => ?_) (fun c4 => ?_))))
   ·have hlt : i < a.length := by simpa using c4
    have hlt2 : i < b.length := by omega
    refine sw_skip (sw_seq (sw_block (sw_seq (xg hP 5 [] rfl ?_ ?_))))
    ·simp [conj, gE hlt, gE hlt2]
     repeat' apply And.intro
     all_goals first | omega | trivial
    refine sw_cond rfl (fun c6 => ?_) (fun c6 => ?_)
    ·replace c6 : ¬ a[i] = b[i] := by intro e; simp [gE hlt, gE hlt2, e] at c6
     refine sw_seq (xr hP 6 rfl (sw_ret ⟨.inl rfl, _, rfl, ?_⟩))
     have hv := eqL_hit hlt hlt2 hgo c6
     simp [conj, hv]
    ·replace c6 : a[i] = b[i] := by
       have h := c6
       simp [gE hlt, gE hlt2] at h
       exact Prod.ext h.1 h.2
     refine sw_skip (xr hP 6 rfl (⟨i + 1, ?_, ?_, ent_ok rfl ?_⟩))
     ·exact ⟨hlt, eqL_next hlt hlt2 hgo c6⟩
     ·omega
     ·simp [conj]
   ·obtain rfl : i = a.length := by simp at c4; omega
    refine sw_exit (sw_seq (xr hP 5 rfl (sw_ret ⟨.inl rfl, _, rfl, ?_⟩)))
    have hv := eqL_end c1 hgo
    simp [conj, hv]
def cEqRoot : Ctr := ⟨71, [.val true T_Root (.all .b), .val true T_Root (.all .b)], fun x => True, fun x => (sBool (decide ((x.1 : Root_) = x.2.1)), [])⟩
theorem cEqRoot_ok : CtrOk Proofs.Tryz.prog cEqRoot := by
 have hP := ((Prg.none ttok mtok).and cEqVols_ok)
 refine ctr_of_body hP cEqRoot (fn := Proofs.Tryz.f71) (rts := [.tmp 4]) Proofs.Tryz.func71 rfl (by kernel_rfl) rfl rfl ?_
 rintro ⟨⟨(tg : Int), (l : List Vol_)⟩, ⟨(tg2 : Int), (l2 : List Vol_)⟩, ⟨⟩⟩ _ _
 try dsimp only [Ty.den, Mode.den, mdens] at _
 refine ⟨rfl, ?_⟩
 refine sw_seq (xr hP 1 rfl (sw_seq (sw_seq (xr hP 2 rfl (sw_cond rfl (fun c1 => ?_) (fun c1 => ?_))))))
 ·replace c1 : ¬ tg = tg2 := by simpa using c1
  refine sw_seq (xr hP 3 rfl (sw_ret ⟨.inl rfl, _, rfl, ?_⟩))
  simp [conj, *]
 ·replace c1 : tg = tg2 := by simpa using c1
  refine sw_skip (sw_seq (sw_seq (xg hP 3 [] rfl ?_ ?_)))
  ·simp [conj, maxL]
   try dsimp only [Ty.den, Ty.dflt]
   try simp only [rd_eta]
   trivial
  refine sw_cond rfl (fun c3 => ?_) (fun c3 => ?_)
  ·replace c3 : ¬ l = l2 := by simpa using c3
   refine sw_seq (xr hP 4 rfl (sw_ret ⟨.inl rfl, _, rfl, ?_⟩))
   simp [conj, *]
  ·replace c3 : l = l2 := by simpa using c3
   refine sw_skip (sw_seq (xr hP 4 rfl (sw_ret ⟨.inl rfl, _, rfl, ?_⟩)))
   simp [conj, *]
end Go.Sx

namespace Go.Sx
open Go
set_option maxRecDepth 100000
set_option linter.unusedVariables false
set_option linter.unusedSimpArgs false
set_option maxHeartbeats 2000000
def cSzS : Ctr := ⟨100, [.val false (.sl .str) (.all .b), .val false TI pF], fun x => 0 ≤ x.2.1 ∧ x.2.1 ≤ 1048576, fun x => (sInt .i64 (szA lenS x.1 x.2.1), [])⟩
theorem cSzS_ok : CtrOk Proofs.Tryz.prog cSzS := by
 have hP := (Prg.none ttok mtok)
 refine ctr_of_body hP cSzS (fn := Proofs.Tryz.f100) (rts := [.tmp 4]) Proofs.Tryz.func100 rfl (by kernel_rfl) rfl rfl ?_
 rintro ⟨(l : List Str), (left : Int), ⟨⟩⟩ ⟨hdl, _⟩ ⟨h0, h1⟩
 try dsimp only [Ty.den, Mode.den, mdens] at h0
 try dsimp only [Ty.den, Mode.den, mdens] at h1
 refine ⟨rfl, ?_⟩
 have hml : l.length ≤ 140737488355328 := hdl.1
 refine sw_seq (xr hP 1 rfl (sw_seq (xg hP 2 [] rfl ?_ ?_)))
 ·simp [conj, maxL]
  try dsimp only [Ty.den, Ty.dflt]
  try simp only [rd_eta]
  repeat' apply And.intro
  all_goals first | rfl | assumption | omega
 refine sw_seq (sw_seq (xr hP 3 rfl (sw_cond rfl (fun c2 => ?_) (fun c2 => ?_))))
 ·replace c2 : left - (l.length : Int) < 0 := of_decide_eq_true c2
  refine sw_seq (xr hP 4 rfl (sw_ret ⟨.inl rfl, _, rfl, ?_⟩))
  simp [conj]
  exact (if_pos c2).symm
 ·replace c2 : ¬ left - (l.length : Int) < 0 := of_decide_eq_false c2
  refine sw_skip (sw_seq (sw_seq (xr hP 4 rfl (sw_block (sw_loop (ι := Nat × Int) (fun ⟨i, a⟩ => ⟨[.v false [.d (.sl .str) (.all .b) l], sInt .i64 a, .j, .j, .j, sInt .i64 (i : Int), .j, .j, .j, .j, .j, .j, .j, .j, .j, .j, .j, .j, .j, .j, .j, .j, .j, .j, .j, .j, .j, .j], [], 4, []⟩) (fun ⟨i, a⟩ => l.length - i) (fun ⟨i, a⟩ => i ≤ l.length ∧ 0 ≤ a ∧ a ≤ 1048576 ∧ szGoD lenS (l.drop i) a = szA lenS l left) (0, left - (l.length : Int)) ⟨?_, ?_⟩ ?_)))))
  ·exact ⟨Nat.zero_le _, by show 0 ≤ left - (l.length : Int); omega, by show left - (l.length : Int) ≤ 1048576; omega, by show szGoD lenS (l.drop 0) _ = szA lenS l left; unfold szA; rw [if_neg c2]; rfl⟩
  ·refine ent_ok rfl ?_
   first | trivial | (simp [conj]; done) | (simp [conj] at *; (try dsimp only [Ty.den, Ty.dflt] at *); omega)
  ·rintro ⟨i, a⟩ ⟨hi, ha0, ha1, hgo⟩
   refine sw_seq (sw_seq (xr hP 5 rfl (sw_cond rfl (fun c5 => ?_) (fun c5 => ?_))))
   ·have hlt : i < l.length := by simpa using c5
    have hbl : l[i].length ≤ 140737488355328 := hdl.2 _ (List.getElem_mem hlt)
    refine sw_skip (sw_seq (sw_block (sw_seq (xg hP 6 [] rfl ?_ ?_))))
    ·simp [conj, maxL, gE hlt]
     repeat' apply And.intro
     all_goals first | assumption | exact ha0 | exact ha1 | trivial | omega
    refine sw_seq (xr hP 7 rfl (sw_cond rfl (fun c8 => ?_) (fun c8 => ?_)))
    ·replace c8 : a - (lenS l[i] : Int) < 0 := by have h := c8; simp [gE hlt, lenS] at h ⊢; (try split at h); all_goals omega
     refine sw_seq (xr hP 8 rfl (sw_ret ⟨.inl rfl, _, rfl, ?_⟩))
     simp [conj]
     exact (szGo_hitD hlt hgo c8).symm
    ·replace c8 : ¬ a - (lenS l[i] : Int) < 0 := by have h := c8; simp [gE hlt, lenS] at h ⊢; (try split at h); all_goals omega
     refine sw_skip (xr hP 8 rfl (⟨(i + 1, a - (lenS l[i] : Int)), ?_, ?_, ent_ok rfl ?_⟩))
     ·exact ⟨hlt, by show 0 ≤ a - (lenS l[i] : Int); omega, by show a - (lenS l[i] : Int) ≤ 1048576; omega, szGo_nextD hlt hgo c8⟩
     ·show l.length - (i + 1) < l.length - i
      omega
     ·simp [conj, gE hlt, lenS]
   ·obtain rfl : i = l.length := by simp at c5; omega
    refine sw_exit (sw_seq (xr hP 6 rfl (sw_ret ⟨.inl rfl, _, rfl, ?_⟩)))
    simp [conj]
    exact (szGo_endD hgo).symm
def cSzB : Ctr := ⟨101, [.val false (.sl .bool) (.all .b), .val false TI pF], fun x => 0 ≤ x.2.1 ∧ x.2.1 ≤ 1048576, fun x => (sInt .i64 (szA len0 x.1 x.2.1), [])⟩
theorem cSzB_ok : CtrOk Proofs.Tryz.prog cSzB := by
 have hP := (Prg.none ttok mtok)
 refine ctr_of_body hP cSzB (fn := Proofs.Tryz.f101) (rts := [.tmp 4]) Proofs.Tryz.func101 rfl (by kernel_rfl) rfl rfl ?_
 rintro ⟨(l : List Bool), (left : Int), ⟨⟩⟩ ⟨hdl, _⟩ ⟨h0, h1⟩
 try dsimp only [Ty.den, Mode.den, mdens] at h0
 try dsimp only [Ty.den, Mode.den, mdens] at h1
 refine ⟨rfl, ?_⟩
 have hml : l.length ≤ 140737488355328 := hdl.1
 refine sw_seq (xr hP 1 rfl (sw_seq (xg hP 2 [] rfl ?_ ?_)))
 ·simp [conj, maxL]
  try dsimp only [Ty.den, Ty.dflt]
  try simp only [rd_eta]
  repeat' apply And.intro
  all_goals first | rfl | assumption | omega
 refine sw_seq (sw_seq (xr hP 3 rfl (sw_cond rfl (fun c2 => ?_) (fun c2 => ?_))))
 ·replace c2 : left - (l.length : Int) < 0 := of_decide_eq_true c2
  refine sw_seq (xr hP 4 rfl (sw_ret ⟨.inl rfl, _, rfl, ?_⟩))
  simp [conj]
  rw [szA_bool]
  rw [if_pos c2]
 ·replace c2 : ¬ left - (l.length : Int) < 0 := of_decide_eq_false c2
  refine sw_skip (sw_seq (xr hP 4 rfl (sw_ret ⟨.inl rfl, _, rfl, ?_⟩)))
  simp [conj]
  rw [szA_bool]
  rw [if_neg c2]
def cSzP1 : Ctr := ⟨148, [.val true TL_Put pF, .val false TI pF], fun x => 0 ≤ x.2.1 ∧ x.2.1 ≤ 1048576, fun x => (sInt .i64 (szP1V x.1 x.2.1), [])⟩
theorem cSzP1_ok : CtrOk Proofs.Tryz.prog cSzP1 := by
 have hP := (Prg.none ttok mtok)
 refine ctr_of_body hP cSzP1 (fn := Proofs.Tryz.f148) (rts := [.tmp 4]) Proofs.Tryz.func148 rfl (by kernel_rfl) rfl rfl ?_
 rintro ⟨⟨(rn : Bool), (at_ : Int), (tx : Str)⟩, (left : Int), ⟨⟩⟩ ⟨hdp, _⟩ ⟨h0, h1⟩
 try dsimp only [Ty.den, Mode.den, mdens] at h0
 try dsimp only [Ty.den, Mode.den, mdens] at h1
 refine ⟨rfl, ?_⟩
 have hml : tx.length ≤ 140737488355328 := hdp.2.2
 refine sw_seq (xr hP 1 rfl (sw_seq (xg hP 2 [] rfl ?_ ?_)))
 ·simp [conj, maxL]
  try dsimp only [Ty.den, Ty.dflt]
  try simp only [rd_eta]
  repeat' apply And.intro
  all_goals first | rfl | assumption | omega
 refine sw_seq (sw_seq (xr hP 3 rfl (sw_cond rfl (fun c2 => ?_) (fun c2 => ?_))))
 ·replace c2 : left - (tx.length : Int) < 0 := of_decide_eq_true c2
  refine sw_seq (xr hP 4 rfl (sw_ret ⟨.inl rfl, _, rfl, ?_⟩))
  simp [conj]
  exact (szP1_neg (p := (rn, at_, tx)) c2).symm
 ·replace c2 : ¬ left - (tx.length : Int) < 0 := of_decide_eq_false c2
  refine sw_skip (sw_seq (xr hP 4 rfl (sw_ret ⟨.inl rfl, _, rfl, ?_⟩)))
  simp [conj]
  exact (szP1_pos (p := (rn, at_, tx)) c2).symm
def cSzPD : Ctr := ⟨102, [.val false (.sl TL_Put) (.all .b), .val false TI pF], fun x => 0 ≤ x.2.1 ∧ x.2.1 ≤ 1048576, fun x => (sInt .i64 (szA lenP x.1 x.2.1), [])⟩
theorem cSzP_okD : CtrOk Proofs.Tryz.prog cSzPD := by
 have hP := ((Prg.none ttok mtok).and cSzP1_ok)
 refine ctr_of_body hP cSzPD (fn := Proofs.Tryz.f102) (rts := [.tmp 4]) Proofs.Tryz.func102 rfl (by kernel_rfl) rfl rfl ?_
 rintro ⟨(l : List Put), (left : Int), ⟨⟩⟩ ⟨hdl, _⟩ ⟨h0, h1⟩
 try dsimp only [Ty.den, Mode.den, mdens] at h0
 try dsimp only [Ty.den, Mode.den, mdens] at h1
 refine ⟨rfl, ?_⟩
 have hml : l.length ≤ 140737488355328 := hdl.1
 refine sw_seq (xr hP 1 rfl (sw_seq (xg hP 2 [] rfl ?_ ?_)))
 ·simp [conj, maxL]
  try dsimp only [Ty.den, Ty.dflt]
  try simp only [rd_eta]
  repeat' apply And.intro
  all_goals first | rfl | assumption | omega
 refine sw_seq (sw_seq (xr hP 3 rfl (sw_cond rfl (fun c2 => ?_) (fun c2 => ?_))))
 ·replace c2 : left - (l.length : Int) < 0 := of_decide_eq_true c2
  refine sw_seq (xr hP 4 rfl (sw_ret ⟨.inl rfl, _, rfl, ?_⟩))
  simp [conj]
  exact (if_pos c2).symm
 ·replace c2 : ¬ left - (l.length : Int) < 0 := of_decide_eq_false c2
  refine sw_skip (sw_seq (sw_seq (xr hP 4 rfl (sw_block (sw_loop (ι := Nat × Int) (fun ⟨i, a⟩ => ⟨[.v false [.d (.sl TL_Put) (.all .b) l], sInt .i64 a, .j, .j, .j, sInt .i64 (i : Int), .j, .j, .j, .j, .j, .j, .j, .j, .j, .j, .j, .j, .j, .j, .j, .j, .j, .j, .j, .j, .j], [], 4, []⟩) (fun ⟨i, a⟩ => l.length - i) (fun ⟨i, a⟩ => i ≤ l.length ∧ 0 ≤ a ∧ a ≤ 1048576 ∧ szGoD lenP (l.drop i) a = szA lenP l left) (0, left - (l.length : Int)) ⟨?_, ?_⟩ ?_)))))
  ·exact ⟨Nat.zero_le _, by show 0 ≤ left - (l.length : Int); omega, by show left - (l.length : Int) ≤ 1048576; omega, by show szGoD lenP (l.drop 0) _ = szA lenP l left; unfold szA; rw [if_neg c2]; rfl⟩
  ·refine ent_ok rfl ?_
   first | trivial | (simp [conj]; done) | (simp [conj] at *; (try dsimp only [Ty.den, Ty.dflt] at *); omega)
  ·rintro ⟨i, a⟩ ⟨hi, ha0, ha1, hgo⟩
   refine sw_seq (sw_seq (xr hP 5 rfl (sw_cond rfl (fun c5 => ?_) (fun c5 => ?_))))
   ·have hlt : i < l.length := by simpa using c5
    have hbl : l[i].2.2.length ≤ 140737488355328 := (hdl.2 _ (List.getElem_mem hlt)).2.2
    refine sw_skip (sw_seq (sw_block (sw_seq (xg hP 6 [] rfl ?_ ?_))))
    ·simp [conj, maxL, gE hlt]
     repeat' apply And.intro
     all_goals first | assumption | exact ha0 | exact ha1 | trivial | omega
    refine sw_seq (xr hP 7 rfl (sw_cond rfl (fun c8 => ?_) (fun c8 => ?_)))
    ·replace c8 : a - (lenP l[i] : Int) < 0 := by have h : szP1V l[i] a < 0 := (by simpa [gE hlt] using c8); exact szP1_iff.1 h
     refine sw_seq (xr hP 8 rfl (sw_ret ⟨.inl rfl, _, rfl, ?_⟩))
     simp [conj]
     exact (szGo_hitD hlt hgo c8).symm
    ·replace c8 : ¬ a - (lenP l[i] : Int) < 0 := by have h : ¬ szP1V l[i] a < 0 := (by simpa [gE hlt] using c8); exact fun h2 => h (szP1_iff.2 h2)
     refine sw_skip (xr hP 8 rfl (⟨(i + 1, a - (lenP l[i] : Int)), ?_, ?_, ent_ok rfl ?_⟩))
     ·exact ⟨hlt, by show 0 ≤ a - (lenP l[i] : Int); omega, by show a - (lenP l[i] : Int) ≤ 1048576; omega, szGo_nextD hlt hgo c8⟩
     ·show l.length - (i + 1) < l.length - i
      omega
     ·simp [conj, gE hlt]
      exact szP1_pos c8
   ·obtain rfl : i = l.length := by simp at c5; omega
    refine sw_exit (sw_seq (xr hP 6 rfl (sw_ret ⟨.inl rfl, _, rfl, ?_⟩)))
    simp [conj]
    exact (szGo_endD hgo).symm
def cSzD : Ctr := ⟨52, [.val true TL_Disk (.all .b), .val false TI pF], fun x => 0 ≤ x.2.1 ∧ x.2.1 ≤ 1048576, fun x => (sInt .i64 (szD x.1 x.2.1), [])⟩
theorem cSzD_ok : CtrOk Proofs.Tryz.prog cSzD := by
 have hP := ((((Prg.none ttok mtok).and cSzS_ok).and cSzB_ok).and cSzP_okD)
 refine ctr_of_body hP cSzD (fn := Proofs.Tryz.f52) (rts := [.tmp 4]) Proofs.Tryz.func52 rfl (by kernel_rfl) rfl rfl ?_
 rintro ⟨⟨(st : Int), (sl : List Str), (rg : List Str), (sp : List Bool), (wt : List Put)⟩, (left : Int), ⟨⟩⟩ _ ⟨h0, h1⟩
 try dsimp only [Ty.den, Mode.den, mdens] at h0
 try dsimp only [Ty.den, Mode.den, mdens] at h1
 refine ⟨rfl, ?_⟩
 replace h0 : 0 ≤ left := h0
 replace h1 : left ≤ 1048576 := h1
 have b1 := szA_bd (w := lenS) (l := sl) h0
 refine sw_seq (xr hP 1 rfl (sw_seq (xg hP 2 [] rfl ?_ ?_)))
 ·simp [conj, maxL]
  try dsimp only [Ty.den, Ty.dflt]
  try simp only [rd_eta]
  exact ⟨h0, h1⟩
 refine sw_seq (sw_seq (xr hP 3 rfl (sw_cond rfl (fun c2 => ?_) (fun c2 => ?_))))
 ·replace c2 : szA lenS sl left < 0 := of_decide_eq_true c2
  refine sw_seq (xr hP 4 rfl (sw_ret ⟨.inl rfl, _, rfl, ?_⟩))
  simp [conj]
  unfold szD
  dsimp only
  rw [if_pos c2]
 ·replace c2 : ¬ szA lenS sl left < 0 := of_decide_eq_false c2
  have b2 := szA_bd (w := lenS) (l := rg) (left := szA lenS sl left) (by omega)
  refine sw_skip (sw_seq (xg hP 4 [] rfl ?_ ?_))
  ·simp [conj, maxL]
   try dsimp only [Ty.den, Ty.dflt]
   try simp only [rd_eta]
   exact ⟨by show 0 ≤ szA lenS sl left; omega, by show szA lenS sl left ≤ 1048576; omega⟩
  refine sw_seq (sw_seq (xr hP 5 rfl (sw_cond rfl (fun c5 => ?_) (fun c5 => ?_))))
  ·replace c5 : szA lenS rg (szA lenS sl left) < 0 := of_decide_eq_true c5
   refine sw_seq (xr hP 6 rfl (sw_ret ⟨.inl rfl, _, rfl, ?_⟩))
   simp [conj]
   unfold szD
   dsimp only
   rw [if_neg c2, if_pos c5]
  ·replace c5 : ¬ szA lenS rg (szA lenS sl left) < 0 := of_decide_eq_false c5
   have b3 := szA_bd (w := len0) (l := sp) (left := szA lenS rg (szA lenS sl left)) (by omega)
   refine sw_skip (sw_seq (xg hP 6 [] rfl ?_ ?_))
   ·simp [conj, maxL]
    try dsimp only [Ty.den, Ty.dflt]
    try simp only [rd_eta]
    exact ⟨by show 0 ≤ szA lenS rg (szA lenS sl left); omega, by show szA lenS rg (szA lenS sl left) ≤ 1048576; omega⟩
   refine sw_seq (sw_seq (xr hP 7 rfl (sw_cond rfl (fun c8 => ?_) (fun c8 => ?_))))
   ·replace c8 : szA len0 sp (szA lenS rg (szA lenS sl left)) < 0 := of_decide_eq_true c8
    refine sw_seq (xr hP 8 rfl (sw_ret ⟨.inl rfl, _, rfl, ?_⟩))
    simp [conj]
    unfold szD
    dsimp only
    rw [if_neg c2, if_neg c5, if_pos c8]
   ·replace c8 : ¬ szA len0 sp (szA lenS rg (szA lenS sl left)) < 0 := of_decide_eq_false c8
    have b4 := szA_bd (w := lenP) (l := wt) (left := szA len0 sp (szA lenS rg (szA lenS sl left))) (by omega)
    refine sw_skip (sw_seq (xg hP 8 [] rfl ?_ ?_))
    ·simp [conj, maxL]
     try dsimp only [Ty.den, Ty.dflt]
     try simp only [rd_eta]
     exact ⟨by show 0 ≤ szA len0 sp (szA lenS rg (szA lenS sl left)); omega, by show szA len0 sp (szA lenS rg (szA lenS sl left)) ≤ 1048576; omega⟩
    refine sw_seq (sw_seq (xr hP 9 rfl (sw_cond rfl (fun c11 => ?_) (fun c11 => ?_))))
    ·replace c11 : szA lenP wt (szA len0 sp (szA lenS rg (szA lenS sl left))) < 0 := of_decide_eq_true c11
     refine sw_seq (xr hP 10 rfl (sw_ret ⟨.inl rfl, _, rfl, ?_⟩))
     simp [conj]
     unfold szD
     dsimp only
     rw [if_neg c2, if_neg c5, if_neg c8]
     exact (szA_neg (by omega) c11).symm
    ·refine sw_skip (sw_seq (xr hP 10 rfl (sw_ret ⟨.inl rfl, _, rfl, ?_⟩)))
     simp [conj]
     unfold szD
     dsimp only
     rw [if_neg c2, if_neg c5, if_neg c8]
def cToS : Ctr := ⟨103, [.val false (.sl .str) (.all .b)], fun x => List.length x.1 ≤ 1048576, fun x => (.v false [.own ⟨1, 0, 0⟩], [(⟨1, 0, 0⟩, .sl .str (.all .w) x.1)])⟩
theorem cToS_ok : CtrOk Proofs.Tryz.prog cToS := by
 have hP := (Prg.none ttok mtok)
 refine ctr_of_body hP cToS (fn := Proofs.Tryz.f103) (rts := [.tmp 2]) Proofs.Tryz.func103 rfl (by kernel_rfl) rfl rfl ?_
 rintro ⟨(l : List Str), ⟨⟩⟩ _ hpre
 try dsimp only [Ty.den, Mode.den, mdens] at hpre
 refine ⟨rfl, ?_⟩
 replace hpre : l.length ≤ 1048576 := hpre
 refine sw_seq (xr hP 1 rfl (sw_seq (xg hP 2 [] rfl ?_ ?_)))
 ·simp [conj, maxL]
  try dsimp only [Ty.den, Ty.dflt]
  try simp only [rd_eta]
  repeat' apply And.intro
  all_goals first | rfl | assumption | omega
 refine sw_seq (sw_seq (xr hP 3 rfl (sw_block (sw_loop (ι := Nat) (fun i => ⟨[.v false [.d (.sl .str) (.all .b) l], .j, .j, .v false [.own ⟨2, 2, 0⟩], sInt .i64 (i : Int), .j, .j, .j, .j, .j, .j, .j, .j, .j, .j, .j, .j, .j, .j, .j, .j, .j], [(⟨2, 2, 0⟩, .sl .str (.all .w) (cpL l ([] : Str) i))], 3, []⟩) (fun i => l.length - i) (fun i => i ≤ l.length) 0 ⟨?_, ?_⟩ ?_))))
 ·exact Nat.zero_le _
 ·refine ent_ok rfl ?_
  simp [conj]
  exact cpL_zero.symm
 ·rintro i hi
  refine sw_seq (sw_seq (xr hP 4 rfl (sw_cond rfl (fun c3 => ?_) (fun c3 => ?_))))
  ·have hlt : i < l.length := by simpa using c3
   have hcl : (cpL l ([] : Str) i).length = l.length := cpL_len hi
   refine sw_skip (sw_seq (sw_block (xg hP 5 [] rfl ?_ ?_)))
   ·simp [conj, maxL, gE hlt, hcl]
    repeat' apply And.intro
    all_goals first | assumption | trivial | omega
   refine xr hP 6 rfl (⟨i + 1, ?_, ?_, ent_ok rfl ?_⟩)
   ·exact hlt
   ·omega
   ·simp [conj, gE hlt]
    exact cpL_next hlt
  ·obtain rfl : i = l.length := by simp at c3; omega
   refine sw_exit (sw_seq (xr hP 5 rfl (sw_ret ⟨.inl rfl, _, rfl, ?_⟩)))
   simp [conj]
   exact cpL_end
def cToB : Ctr := ⟨104, [.val false (.sl .bool) (.all .b)], fun x => List.length x.1 ≤ 1048576, fun x => (.v false [.own ⟨1, 0, 0⟩], [(⟨1, 0, 0⟩, .sl .bool (.all .w) x.1)])⟩
theorem cToB_ok : CtrOk Proofs.Tryz.prog cToB := by
 have hP := (Prg.none ttok mtok)
 refine ctr_of_body hP cToB (fn := Proofs.Tryz.f104) (rts := [.tmp 2]) Proofs.Tryz.func104 rfl (by kernel_rfl) rfl rfl ?_
 rintro ⟨(l : List Bool), ⟨⟩⟩ _ hpre
 try dsimp only [Ty.den, Mode.den, mdens] at hpre
 refine ⟨rfl, ?_⟩
 replace hpre : l.length ≤ 1048576 := hpre
 refine sw_seq (xr hP 1 rfl (sw_seq (xg hP 2 [] rfl ?_ ?_)))
 ·simp [conj, maxL]
  try dsimp only [Ty.den, Ty.dflt]
  try simp only [rd_eta]
  repeat' apply And.intro
  all_goals first | rfl | assumption | omega
 refine sw_seq (sw_seq (xr hP 3 rfl (sw_block (sw_loop (ι := Nat) (fun i => ⟨[.v false [.d (.sl .bool) (.all .b) l], .j, .j, .v false [.own ⟨2, 2, 0⟩], sInt .i64 (i : Int), .j, .j, .j, .j, .j, .j, .j, .j, .j, .j, .j, .j, .j, .j, .j, .j, .j], [(⟨2, 2, 0⟩, .sl .bool (.all .w) (cpL l (false : Bool) i))], 3, []⟩) (fun i => l.length - i) (fun i => i ≤ l.length) 0 ⟨?_, ?_⟩ ?_))))
 ·exact Nat.zero_le _
 ·refine ent_ok rfl ?_
  simp [conj]
  exact cpL_zero.symm
 ·rintro i hi
  refine sw_seq (sw_seq (xr hP 4 rfl (sw_cond rfl (fun c3 => ?_) (fun c3 => ?_))))
  ·have hlt : i < l.length := by simpa using c3
   have hcl : (cpL l (false : Bool) i).length = l.length := cpL_len hi
   refine sw_skip (sw_seq (sw_block (xg hP 5 [] rfl ?_ ?_)))
   ·simp [conj, maxL, gE hlt, hcl]
    repeat' apply And.intro
    all_goals first | assumption | trivial | omega
   refine xr hP 6 rfl (⟨i + 1, ?_, ?_, ent_ok rfl ?_⟩)
   ·exact hlt
   ·omega
   ·simp [conj, gE hlt]
    exact cpL_next hlt
  ·obtain rfl : i = l.length := by simp at c3; omega
   refine sw_exit (sw_seq (xr hP 5 rfl (sw_ret ⟨.inl rfl, _, rfl, ?_⟩)))
   simp [conj]
   exact cpL_end
def cToP1 : Ctr := ⟨149, [.val true TL_Put pF], fun _ => True, fun x => (putA_ x.1, [])⟩
theorem cToP1_ok : CtrOk Proofs.Tryz.prog cToP1 := by
 have hP := (Prg.none ttok mtok)
 refine ctr_of_body hP cToP1 (fn := Proofs.Tryz.f149) (rts := [.cell 2 120]) Proofs.Tryz.func149 rfl (by kernel_rfl) rfl rfl ?_
 rintro ⟨⟨(rn : Bool), (at_ : Int), (tx : Str)⟩, ⟨⟩⟩ _ hpre
 try dsimp only [Ty.den, Mode.den, mdens] at hpre
 refine ⟨rfl, ?_⟩
 refine sw_seq (xr hP 1 rfl (sw_seq (xr hP 2 rfl (sw_seq (xr hP 3 rfl (sw_seq (xr hP 4 rfl (sw_seq (xr hP 5 rfl (sw_seq (xr hP 6 rfl (sw_ret ⟨.inl rfl, _, rfl, ?_⟩))))))))))))
 simp [conj]
def cToP : Ctr := ⟨105, [.val false (.sl TL_Put) (.all .b)], fun x => List.length x.1 ≤ 1048576, fun x => (.v false [.own ⟨1, 0, 0⟩], [(⟨1, 0, 0⟩, .sl T_Put (.all .w) x.1)])⟩
theorem cToP_ok : CtrOk Proofs.Tryz.prog cToP := by
 have hP := ((Prg.none ttok mtok).and cToP1_ok)
 refine ctr_of_body hP cToP (fn := Proofs.Tryz.f105) (rts := [.tmp 2]) Proofs.Tryz.func105 rfl (by kernel_rfl) rfl rfl ?_
 rintro ⟨(l : List Put), ⟨⟩⟩ _ hpre
 try dsimp only [Ty.den, Mode.den, mdens] at hpre
 refine ⟨rfl, ?_⟩
 replace hpre : l.length ≤ 1048576 := hpre
 refine sw_seq (xr hP 1 rfl (sw_seq (xg hP 2 [] rfl ?_ ?_)))
 ·simp [conj, maxL]
  try dsimp only [Ty.den, Ty.dflt]
  try simp only [rd_eta]
  repeat' apply And.intro
  all_goals first | rfl | assumption | omega
 refine sw_seq (sw_seq (xr hP 3 rfl (sw_block (sw_loop (ι := Nat) (fun i => ⟨[.v false [.d (.sl TL_Put) (.all .b) l], .j, .j, .v false [.own ⟨2, 2, 0⟩], sInt .i64 (i : Int), .j, .j, .j, .j, .j, .j, .j, .j, .j, .j, .j, .j, .j, .j, .j, .j, .j, .j], [(⟨2, 2, 0⟩, .sl T_Put (.all .w) (cpL l ((false, 0, []) : Put) i))], 3, []⟩) (fun i => l.length - i) (fun i => i ≤ l.length) 0 ⟨?_, ?_⟩ ?_))))
 ·exact Nat.zero_le _
 ·refine ent_ok rfl ?_
  simp [conj]
  exact cpL_zero.symm
 ·rintro i hi
  refine sw_seq (sw_seq (xr hP 4 rfl (sw_cond rfl (fun c3 => ?_) (fun c3 => ?_))))
  ·have hlt : i < l.length := by simpa using c3
   have hcl : (cpL l ((false, 0, []) : Put) i).length = l.length := cpL_len hi
   refine sw_skip (sw_seq (sw_block (xg hP 5 [] rfl ?_ ?_)))
   ·simp [conj, maxL, gE hlt, hcl]
    repeat' apply And.intro
    all_goals first | assumption | trivial | omega
   refine xr hP 6 rfl (⟨i + 1, ?_, ?_, ent_ok rfl ?_⟩)
   ·exact hlt
   ·omega
   ·simp [conj, gE hlt]
    exact cpL_next hlt
  ·obtain rfl : i = l.length := by simp at c3; omega
   refine sw_exit (sw_seq (xr hP 5 rfl (sw_ret ⟨.inl rfl, _, rfl, ?_⟩)))
   simp [conj]
   exact cpL_end
def cToD : Ctr := ⟨54, [.val true TL_Disk (.all .b)], fun x => SmallD x.1, fun x => (.v true [.d TI pF (x.1).1, .own ⟨1, 0, 0⟩, .own ⟨1, 1, 0⟩, .own ⟨1, 2, 0⟩, .own ⟨1, 3, 0⟩], [(⟨1, 0, 0⟩, .sl .str (.all .w) (x.1).2.1), (⟨1, 1, 0⟩, .sl .str (.all .w) (x.1).2.2.1), (⟨1, 2, 0⟩, .sl .bool (.all .w) (x.1).2.2.2.1), (⟨1, 3, 0⟩, .sl T_Put (.all .w) (x.1).2.2.2.2)])⟩
theorem cToD_ok : CtrOk Proofs.Tryz.prog cToD := by
 have hP := ((((Prg.none ttok mtok).and cToS_ok).and cToB_ok).and cToP_ok)
 refine ctr_of_body hP cToD (fn := Proofs.Tryz.f54) (rts := [.cell 2 38]) Proofs.Tryz.func54 rfl (by kernel_rfl) rfl rfl ?_
 rintro ⟨⟨(st : Int), (sl : List Str), (rg : List Str), (sp : List Bool), (wt : List Put)⟩, ⟨⟩⟩ _ ⟨h1, h2, h3, h4⟩
 try dsimp only [Ty.den, Mode.den, mdens] at h1
 try dsimp only [Ty.den, Mode.den, mdens] at h2
 try dsimp only [Ty.den, Mode.den, mdens] at h3
 try dsimp only [Ty.den, Mode.den, mdens] at h4
 refine ⟨rfl, ?_⟩
 refine sw_seq (xr hP 1 rfl (sw_seq (xr hP 2 rfl (sw_seq (xr hP 3 rfl (sw_seq (xg hP 4 [] rfl ?_ ?_)))))))
 ·simp [conj, maxL]
  try dsimp only [Ty.den, Ty.dflt]
  try simp only [rd_eta]
  exact h1
 refine sw_seq (xg hP 5 [] rfl ?_ ?_)
 ·simp [conj, maxL]
  try dsimp only [Ty.den, Ty.dflt]
  try simp only [rd_eta]
  exact h2
 refine sw_seq (xg hP 6 [] rfl ?_ ?_)
 ·simp [conj, maxL]
  try dsimp only [Ty.den, Ty.dflt]
  try simp only [rd_eta]
  exact h3
 refine sw_seq (xg hP 7 [] rfl ?_ ?_)
 ·simp [conj, maxL]
  try dsimp only [Ty.den, Ty.dflt]
  try simp only [rd_eta]
  exact h4
 refine sw_seq (xr hP 8 rfl (sw_ret ⟨.inl rfl, _, rfl, ?_⟩))
 simp [conj, maxL]
 try dsimp only [Ty.den, Ty.dflt]
 try simp only [rd_eta]
 repeat' apply And.intro
 all_goals first | rfl | assumption | omega | trivial
def cEqS : Ctr := ⟨107, [.val false (.sl .str) (.all .b), .val false (.sl .str) (.all .b)], fun _ => True, fun x => (sBool (decide ((x.1 : List Str) = x.2.1)), [])⟩
theorem cEqS_ok : CtrOk Proofs.Tryz.prog cEqS := by
 have hP := (Prg.none ttok mtok)
 refine ctr_of_body hP cEqS (fn := Proofs.Tryz.f107) (rts := [.tmp 4]) Proofs.Tryz.func107 rfl (by kernel_rfl) rfl rfl ?_
 rintro ⟨(a : List Str), (b : List Str), ⟨⟩⟩ ⟨hda, hdb, _⟩ hpre
 try dsimp only [Ty.den, Mode.den, mdens] at hpre
 refine ⟨rfl, ?_⟩
 have hml : a.length ≤ 140737488355328 := hda.1
 have hmb : b.length ≤ 140737488355328 := hdb.1
 refine sw_seq (xr hP 1 rfl (sw_seq (sw_seq (xr hP 2 rfl (sw_cond rfl (fun c1 => ?_) (fun c1 => ?_))))))
 ·replace c1 : ¬ a.length = b.length := by simp at c1; omega
  refine sw_seq (xr hP 3 rfl (sw_ret ⟨.inl rfl, _, rfl, ?_⟩))
  exact (eq_len' c1).symm
 ·replace c1 : a.length = b.length := by simp at c1; omega
  refine sw_skip (sw_seq (sw_seq (xr hP 3 rfl (sw_block (sw_loop (ι := Nat) (fun i => ⟨[.v false [.d (.sl .str) (.all .b) a], .v false [.d (.sl .str) (.all .b) b], .j, .j, .j, sInt .i64 (i : Int), .j, .j, .j, .j, .j, .j, .j, .j, .j, .j, .j, .j, .j, .j, .j, .j, .j, .j, .j, .j], [], 3, []⟩) (fun i => a.length - i) (fun i => i ≤ a.length ∧ decide (a.drop i = b.drop i) = decide (a = b)) 0 ⟨?_, ?_⟩ ?_)))))
  ·exact ⟨Nat.zero_le _, rfl⟩
  ·refine ent_ok rfl ?_
   first | trivial | (simp [conj]; done) | (simp [conj] at *; (try dsimp only [Ty.den, Ty.dflt] at *); omega)
  ·rintro i ⟨hi, hgo⟩
   refine sw_seq (sw_seq (xr hP 4 rfl (sw_cond rfl (fun c4 => ?_) (fun c4 => ?_))))
   ·have hlt : i < a.length := by simpa using c4
    have hlt2 : i < b.length := by omega
    refine sw_skip (sw_seq (sw_block (sw_seq (xg hP 5 [] rfl ?_ ?_))))
    ·simp [conj, maxL]
     try dsimp only [Ty.den, Ty.dflt]
     try simp only [rd_eta]
     repeat' apply And.intro
     all_goals first | rfl | assumption | omega | trivial
    refine sw_cond rfl (fun c6 => ?_) (fun c6 => ?_)
    ·replace c6 : ¬ a[i] = b[i] := by have h := c6; simp [gE hlt, gE hlt2] at h; first | exact h | (intro e; rw [e] at h; simp at h) | (intro e; exact h (by rw [e]) )
     refine sw_seq (xr hP 6 rfl (sw_ret ⟨.inl rfl, _, rfl, ?_⟩))
     exact (eq_hit' hlt hlt2 hgo c6).symm
    ·replace c6 : a[i] = b[i] := by have h := c6; simp [gE hlt, gE hlt2] at h; first | exact h | exact Prod.ext h.1 (Prod.ext h.2.1 h.2.2)
     refine sw_skip (xr hP 6 rfl (⟨i + 1, ?_, ?_, ent_ok rfl ?_⟩))
     ·exact ⟨hlt, eq_next' hlt hlt2 hgo c6⟩
     ·omega
     ·simp [conj]
   ·obtain rfl : i = a.length := by simp at c4; omega
    refine sw_exit (sw_seq (xr hP 5 rfl (sw_ret ⟨.inl rfl, _, rfl, ?_⟩)))
    exact (eq_end' c1 hgo).symm
def cEqB : Ctr := ⟨108, [.val false (.sl .bool) (.all .b), .val false (.sl .bool) (.all .b)], fun _ => True, fun x => (sBool (decide ((x.1 : List Bool) = x.2.1)), [])⟩
theorem cEqB_ok : CtrOk Proofs.Tryz.prog cEqB := by
 have hP := (Prg.none ttok mtok)
 refine ctr_of_body hP cEqB (fn := Proofs.Tryz.f108) (rts := [.tmp 4]) Proofs.Tryz.func108 rfl (by kernel_rfl) rfl rfl ?_
 rintro ⟨(a : List Bool), (b : List Bool), ⟨⟩⟩ ⟨hda, hdb, _⟩ hpre
 try dsimp only [Ty.den, Mode.den, mdens] at hpre
 refine ⟨rfl, ?_⟩
 have hml : a.length ≤ 140737488355328 := hda.1
 have hmb : b.length ≤ 140737488355328 := hdb.1
 refine sw_seq (xr hP 1 rfl (sw_seq (sw_seq (xr hP 2 rfl (sw_cond rfl (fun c1 => ?_) (fun c1 => ?_))))))
 ·replace c1 : ¬ a.length = b.length := by simp at c1; omega
  refine sw_seq (xr hP 3 rfl (sw_ret ⟨.inl rfl, _, rfl, ?_⟩))
  exact (eq_len' c1).symm
 ·replace c1 : a.length = b.length := by simp at c1; omega
  refine sw_skip (sw_seq (sw_seq (xr hP 3 rfl (sw_block (sw_loop (ι := Nat) (fun i => ⟨[.v false [.d (.sl .bool) (.all .b) a], .v false [.d (.sl .bool) (.all .b) b], .j, .j, .j, sInt .i64 (i : Int), .j, .j, .j, .j, .j, .j, .j, .j, .j, .j, .j, .j, .j, .j, .j, .j, .j, .j, .j, .j], [], 3, []⟩) (fun i => a.length - i) (fun i => i ≤ a.length ∧ decide (a.drop i = b.drop i) = decide (a = b)) 0 ⟨?_, ?_⟩ ?_)))))
  ·exact ⟨Nat.zero_le _, rfl⟩
  ·refine ent_ok rfl ?_
   first | trivial | (simp [conj]; done) | (simp [conj] at *; (try dsimp only [Ty.den, Ty.dflt] at *); omega)
  ·rintro i ⟨hi, hgo⟩
   refine sw_seq (sw_seq (xr hP 4 rfl (sw_cond rfl (fun c4 => ?_) (fun c4 => ?_))))
   ·have hlt : i < a.length := by simpa using c4
    have hlt2 : i < b.length := by omega
    refine sw_skip (sw_seq (sw_block (sw_seq (xg hP 5 [] rfl ?_ ?_))))
    ·simp [conj, maxL]
     try dsimp only [Ty.den, Ty.dflt]
     try simp only [rd_eta]
     repeat' apply And.intro
     all_goals first | rfl | assumption | omega | trivial
    refine sw_cond rfl (fun c6 => ?_) (fun c6 => ?_)
    ·replace c6 : ¬ a[i] = b[i] := by have h := c6; simp [gE hlt, gE hlt2] at h; first | exact h | (intro e; rw [e] at h; simp at h) | (intro e; exact h (by rw [e]) )
     refine sw_seq (xr hP 6 rfl (sw_ret ⟨.inl rfl, _, rfl, ?_⟩))
     exact (eq_hit' hlt hlt2 hgo c6).symm
    ·replace c6 : a[i] = b[i] := by have h := c6; simp [gE hlt, gE hlt2] at h; first | exact h | exact Prod.ext h.1 (Prod.ext h.2.1 h.2.2)
     refine sw_skip (xr hP 6 rfl (⟨i + 1, ?_, ?_, ent_ok rfl ?_⟩))
     ·exact ⟨hlt, eq_next' hlt hlt2 hgo c6⟩
     ·omega
     ·simp [conj]
   ·obtain rfl : i = a.length := by simp at c4; omega
    refine sw_exit (sw_seq (xr hP 5 rfl (sw_ret ⟨.inl rfl, _, rfl, ?_⟩)))
    exact (eq_end' c1 hgo).symm
def cEqP1 : Ctr := ⟨150, [.val true T_Put pF, .val true T_Put pF], fun _ => True, fun x => (sBool (decide ((x.1 : Put) = x.2.1)), [])⟩
theorem cEqP1_ok : CtrOk Proofs.Tryz.prog cEqP1 := by
 have hP := (Prg.none ttok mtok)
 refine ctr_of_body hP cEqP1 (fn := Proofs.Tryz.f150) (rts := [.tmp 4]) Proofs.Tryz.func150 rfl (by kernel_rfl) rfl rfl ?_
 rintro ⟨⟨(r1 : Bool), (a1 : Int), (t1 : Str)⟩, ⟨(r2 : Bool), (a2 : Int), (t2 : Str)⟩, ⟨⟩⟩ _ hpre
 try dsimp only [Ty.den, Mode.den, mdens] at hpre
 refine ⟨rfl, ?_⟩
 refine sw_seq (xr hP 1 rfl (sw_seq (sw_seq (xr hP 2 rfl (sw_cond rfl (fun c1 => ?_) (fun c1 => ?_))))))
 ·replace c1 : ¬ r1 = r2 := by simpa using c1
  refine sw_seq (xr hP 3 rfl (sw_ret ⟨.inl rfl, _, rfl, ?_⟩))
  simp_all [conj]
 ·replace c1 : r1 = r2 := by simpa using c1
  refine sw_skip (sw_seq (sw_seq (xr hP 3 rfl (sw_cond rfl (fun c3 => ?_) (fun c3 => ?_)))))
  ·replace c3 : ¬ a1 = a2 := by simpa using c3
   refine sw_seq (xr hP 4 rfl (sw_ret ⟨.inl rfl, _, rfl, ?_⟩))
   simp_all [conj]
  ·replace c3 : a1 = a2 := by simpa using c3
   refine sw_skip (sw_seq (sw_seq (xr hP 4 rfl (sw_cond rfl (fun c5 => ?_) (fun c5 => ?_)))))
   ·replace c5 : ¬ t1 = t2 := by simpa using c5
    refine sw_seq (xr hP 5 rfl (sw_ret ⟨.inl rfl, _, rfl, ?_⟩))
    simp_all [conj]
   ·replace c5 : t1 = t2 := by simpa using c5
    refine sw_skip (sw_seq (xr hP 5 rfl (sw_ret ⟨.inl rfl, _, rfl, ?_⟩)))
    simp_all [conj]
def cEqP : Ctr := ⟨109, [.val false (.sl T_Put) (.all .b), .val false (.sl T_Put) (.all .b)], fun _ => True, fun x => (sBool (decide ((x.1 : List Put) = x.2.1)), [])⟩
theorem cEqP_ok : CtrOk Proofs.Tryz.prog cEqP := by
 have hP := ((Prg.none ttok mtok).and cEqP1_ok)
 refine ctr_of_body hP cEqP (fn := Proofs.Tryz.f109) (rts := [.tmp 4]) Proofs.Tryz.func109 rfl (by kernel_rfl) rfl rfl ?_
 rintro ⟨(a : List Put), (b : List Put), ⟨⟩⟩ ⟨hda, hdb, _⟩ hpre
 try dsimp only [Ty.den, Mode.den, mdens] at hpre
 refine ⟨rfl, ?_⟩
 have hml : a.length ≤ 140737488355328 := hda.1
 have hmb : b.length ≤ 140737488355328 := hdb.1
 refine sw_seq (xr hP 1 rfl (sw_seq (sw_seq (xr hP 2 rfl (sw_cond rfl (fun c1 => ?_) (fun c1 => ?_))))))
 ·replace c1 : ¬ a.length = b.length := by simp at c1; omega
  refine sw_seq (xr hP 3 rfl (sw_ret ⟨.inl rfl, _, rfl, ?_⟩))
  exact (eq_len' c1).symm
 ·replace c1 : a.length = b.length := by simp at c1; omega
  refine sw_skip (sw_seq (sw_seq (xr hP 3 rfl (sw_block (sw_loop (ι := Nat) (fun i => ⟨[.v false [.d (.sl T_Put) (.all .b) a], .v false [.d (.sl T_Put) (.all .b) b], .j, .j, .j, sInt .i64 (i : Int), .j, .j, .j, .j, .j, .j, .j, .j, .j, .j, .j, .j, .j, .j, .j, .j, .j, .j, .j, .j, .j], [], 3, []⟩) (fun i => a.length - i) (fun i => i ≤ a.length ∧ decide (a.drop i = b.drop i) = decide (a = b)) 0 ⟨?_, ?_⟩ ?_)))))
  ·exact ⟨Nat.zero_le _, rfl⟩
  ·refine ent_ok rfl ?_
   first | trivial | (simp [conj]; done) | (simp [conj] at *; (try dsimp only [Ty.den, Ty.dflt] at *); omega)
  ·rintro i ⟨hi, hgo⟩
   refine sw_seq (sw_seq (xr hP 4 rfl (sw_cond rfl (fun c4 => ?_) (fun c4 => ?_))))
   ·have hlt : i < a.length := by simpa using c4
    have hlt2 : i < b.length := by omega
    refine sw_skip (sw_seq (sw_block (sw_seq (xg hP 5 [] rfl ?_ ?_))))
    ·simp [conj, maxL]
     try dsimp only [Ty.den, Ty.dflt]
     try simp only [rd_eta]
     repeat' apply And.intro
     all_goals first | rfl | assumption | omega | trivial
    refine sw_cond rfl (fun c6 => ?_) (fun c6 => ?_)
    ·replace c6 : ¬ a[i] = b[i] := by have h := c6; simp [gE hlt, gE hlt2] at h; first | exact h | (intro e; rw [e] at h; simp at h) | (intro e; exact h (by rw [e]) )
     refine sw_seq (xr hP 6 rfl (sw_ret ⟨.inl rfl, _, rfl, ?_⟩))
     exact (eq_hit' hlt hlt2 hgo c6).symm
    ·replace c6 : a[i] = b[i] := by have h := c6; simp [gE hlt, gE hlt2] at h; first | exact h | exact Prod.ext h.1 (Prod.ext h.2.1 h.2.2)
     refine sw_skip (xr hP 6 rfl (⟨i + 1, ?_, ?_, ent_ok rfl ?_⟩))
     ·exact ⟨hlt, eq_next' hlt hlt2 hgo c6⟩
     ·omega
     ·simp [conj]
   ·obtain rfl : i = a.length := by simp at c4; omega
    refine sw_exit (sw_seq (xr hP 5 rfl (sw_ret ⟨.inl rfl, _, rfl, ?_⟩)))
    exact (eq_end' c1 hgo).symm
def cEqD : Ctr := ⟨56, [.val true T_Disk (.all .b), .val true T_Disk (.all .b)], fun _ => True, fun x => (sBool (eqDV x.1 x.2.1), [])⟩
theorem cEqD_ok : CtrOk Proofs.Tryz.prog cEqD := by
 have hP := ((((Prg.none ttok mtok).and cEqS_ok).and cEqB_ok).and cEqP_ok)
 refine ctr_of_body hP cEqD (fn := Proofs.Tryz.f56) (rts := [.tmp 4]) Proofs.Tryz.func56 rfl (by kernel_rfl) rfl rfl ?_
 rintro ⟨⟨(st : Int), (sl : List Str), (rg : List Str), (sp : List Bool), (wt : List Put)⟩, ⟨(st2 : Int), (sl2 : List Str), (rg2 : List Str), (sp2 : List Bool), (wt2 : List Put)⟩, ⟨⟩⟩ _ hpre
 try dsimp only [Ty.den, Mode.den, mdens] at hpre
 refine ⟨rfl, ?_⟩
 refine sw_seq (xr hP 1 rfl (sw_seq (sw_seq (xr hP 2 rfl (sw_cond rfl (fun c1 => ?_) (fun c1 => ?_))))))
 ·replace c1 : ¬ st = st2 := by simpa using c1
  refine sw_seq (xr hP 3 rfl (sw_ret ⟨.inl rfl, _, rfl, ?_⟩))
  simp [conj, eqDV, *]
 ·replace c1 : st = st2 := by simpa using c1
  refine sw_skip (sw_seq (sw_seq (xg hP 3 [] rfl ?_ ?_)))
  ·simp [conj, maxL]
   try dsimp only [Ty.den, Ty.dflt]
   try simp only [rd_eta]
   trivial
  refine sw_cond rfl (fun c3 => ?_) (fun c3 => ?_)
  ·replace c3 : ¬ sl = sl2 := by simpa using c3
   refine sw_seq (xr hP 4 rfl (sw_ret ⟨.inl rfl, _, rfl, ?_⟩))
   simp [conj, eqDV, *]
  ·replace c3 : sl = sl2 := by simpa using c3
   refine sw_skip (sw_seq (sw_seq (xg hP 4 [] rfl ?_ ?_)))
   ·simp [conj, maxL]
    try dsimp only [Ty.den, Ty.dflt]
    try simp only [rd_eta]
    trivial
   refine sw_cond rfl (fun c5 => ?_) (fun c5 => ?_)
   ·replace c5 : ¬ rg = rg2 := by simpa using c5
    refine sw_seq (xr hP 5 rfl (sw_ret ⟨.inl rfl, _, rfl, ?_⟩))
    simp [conj, eqDV, *]
   ·replace c5 : rg = rg2 := by simpa using c5
    refine sw_skip (sw_seq (sw_seq (xg hP 5 [] rfl ?_ ?_)))
    ·simp [conj, maxL]
     try dsimp only [Ty.den, Ty.dflt]
     try simp only [rd_eta]
     trivial
    refine sw_cond rfl (fun c7 => ?_) (fun c7 => ?_)
    ·replace c7 : ¬ sp = sp2 := by simpa using c7
     refine sw_seq (xr hP 6 rfl (sw_ret ⟨.inl rfl, _, rfl, ?_⟩))
     simp [conj, eqDV, *]
    ·replace c7 : sp = sp2 := by simpa using c7
     refine sw_skip (sw_seq (sw_seq (xg hP 6 [] rfl ?_ ?_)))
     ·simp [conj, maxL]
      try dsimp only [Ty.den, Ty.dflt]
      try simp only [rd_eta]
      trivial
     refine sw_cond rfl (fun c9 => ?_) (fun c9 => ?_)
     ·replace c9 : ¬ wt = wt2 := by simpa using c9
      refine sw_seq (xr hP 7 rfl (sw_ret ⟨.inl rfl, _, rfl, ?_⟩))
      simp [conj, eqDV, *]
     ·replace c9 : wt = wt2 := by simpa using c9
      refine sw_skip (sw_seq (xr hP 7 rfl (sw_ret ⟨.inl rfl, _, rfl, ?_⟩)))
      simp [conj, eqDV, *]
end Go.Sx

namespace Go.Sx
open Go
set_option maxRecDepth 100000
set_option linter.unusedVariables false
set_option linter.unusedSimpArgs false
set_option maxHeartbeats 2000000
def cSzDs : Ctr := ⟨12, [.val false (.sl TL_Disk) (.all .b), .val false TI pF], fun x => 0 ≤ x.2.1 ∧ x.2.1 ≤ 1048576, fun x => (sInt .i64 (szL szD x.1 x.2.1), [])⟩
theorem cSzDs_ok : CtrOk Proofs.Tryz.prog cSzDs := by
 have hP := ((Prg.none ttok mtok).and cSzD_ok)
 refine ctr_of_body hP cSzDs (fn := Proofs.Tryz.f12) (rts := [.tmp 4]) Proofs.Tryz.func12 rfl (by kernel_rfl) rfl rfl ?_
 rintro ⟨(l : List Dsk), (left : Int), ⟨⟩⟩ ⟨hdl, _⟩ ⟨h0, h1⟩
 try dsimp only [Ty.den, Mode.den, mdens] at h0
 try dsimp only [Ty.den, Mode.den, mdens] at h1
 refine ⟨rfl, ?_⟩
 have hml : l.length ≤ 140737488355328 := hdl.1
 refine sw_seq (xr hP 1 rfl (sw_seq (xg hP 2 [] rfl ?_ ?_)))
 ·simp [conj, maxL]
  try dsimp only [Ty.den, Ty.dflt]
  try simp only [rd_eta]
  repeat' apply And.intro
  all_goals first | rfl | assumption | omega
 refine sw_seq (sw_seq (xr hP 3 rfl (sw_cond rfl (fun c2 => ?_) (fun c2 => ?_))))
 ·replace c2 : left - (l.length : Int) < 0 := of_decide_eq_true c2
  refine sw_seq (xr hP 4 rfl (sw_ret ⟨.inl rfl, _, rfl, ?_⟩))
  simp [conj]
  exact (if_pos c2).symm
 ·replace c2 : ¬ left - (l.length : Int) < 0 := of_decide_eq_false c2
  refine sw_skip (sw_seq (sw_seq (xr hP 4 rfl (sw_block (sw_loop (ι := Nat × Int) (fun ⟨i, a⟩ => ⟨[.v false [.d (.sl TL_Disk) (.all .b) l], sInt .i64 a, .j, .j, .j, sInt .i64 (i : Int), .j, .j, .j, .j, .j, .j, .j, .j, .j, .j, .j, .j, .j, .j, .j, .j, .j, .j, .j, .j, .j], [], 4, []⟩) (fun ⟨i, a⟩ => l.length - i) (fun ⟨i, a⟩ => i ≤ l.length ∧ 0 ≤ a ∧ a ≤ 1048576 ∧ szGo szD (l.drop i) a = szL szD l left) (0, left - (l.length : Int)) ⟨?_, ?_⟩ ?_)))))
  ·exact ⟨Nat.zero_le _, by show 0 ≤ left - (l.length : Int); omega, by show left - (l.length : Int) ≤ 1048576; omega, by show szGo szD (l.drop 0) _ = szL szD l left; unfold szL; rw [if_neg c2]; rfl⟩
  ·refine ent_ok rfl ?_
   first | trivial | (simp [conj]; done) | (simp [conj] at *; (try dsimp only [Ty.den, Ty.dflt] at *); omega)
  ·rintro ⟨i, a⟩ ⟨hi, ha0, ha1, hgo⟩
   refine sw_seq (sw_seq (xr hP 5 rfl (sw_cond rfl (fun c5 => ?_) (fun c5 => ?_))))
   ·have hlt : i < l.length := by simpa using c5
    have hb := szD_ok l[i] a ha0
    refine sw_skip (sw_seq (sw_block (sw_seq (xg hP 6 [] rfl ?_ ?_))))
    ·simp [conj, gE hlt]
     repeat' apply And.intro
     all_goals first | omega | assumption | exact ⟨ha0, ha1⟩ | trivial
    refine sw_seq (xr hP 7 rfl (sw_cond rfl (fun c8 => ?_) (fun c8 => ?_)))
    ·replace c8 : szD l[i] a < 0 := by simpa [gE hlt] using c8
     refine sw_seq (xr hP 8 rfl (sw_ret ⟨.inl rfl, _, rfl, ?_⟩))
     simp [conj]
     exact (sz_hit hlt hgo c8).symm
    ·replace c8 : ¬ szD l[i] a < 0 := by simpa [gE hlt] using c8
     refine sw_skip (xr hP 8 rfl (⟨(i + 1, szD l[i] a), ?_, ?_, ent_ok rfl ?_⟩))
     ·exact ⟨hlt, by show 0 ≤ szD l[i] a; omega, by show szD l[i] a ≤ 1048576; omega, sz_next hlt hgo c8⟩
     ·show l.length - (i + 1) < l.length - i
      omega
     ·simp [conj, gE hlt]
   ·obtain rfl : i = l.length := by simp at c5; omega
    refine sw_exit (sw_seq (xr hP 6 rfl (sw_ret ⟨.inl rfl, _, rfl, ?_⟩)))
    simp [conj]
    exact (sz_end hgo).symm
def cSzPo : Ctr := ⟨21, [.val true TL_Pool (.all .b), .val false TI pF], fun x => 0 ≤ x.2.1 ∧ x.2.1 ≤ 1048576, fun x => (sInt .i64 (szPo x.1 x.2.1), [])⟩
theorem cSzPo_ok : CtrOk Proofs.Tryz.prog cSzPo := by
 have hP := (((Prg.none ttok mtok).and cSzDs_ok).and cSzR_ok)
 refine ctr_of_body hP cSzPo (fn := Proofs.Tryz.f21) (rts := [.tmp 4]) Proofs.Tryz.func21 rfl (by kernel_rfl) rfl rfl ?_
 rintro ⟨⟨(ds : List Dsk), (op : Bool), ⟨(tg : Int), (l : List Vol_)⟩, ⟨(tg2 : Int), (l2 : List Vol_)⟩⟩, (left : Int), ⟨⟩⟩ _ ⟨h0, h1⟩
 try dsimp only [Ty.den, Mode.den, mdens] at h0
 try dsimp only [Ty.den, Mode.den, mdens] at h1
 refine ⟨rfl, ?_⟩
 replace h0 : 0 ≤ left := h0
 replace h1 : left ≤ 1048576 := h1
 have b1 := szDs_ok ds left h0
 refine sw_seq (xr hP 1 rfl (sw_seq (xg hP 2 [] rfl ?_ ?_)))
 ·simp [conj, maxL]
  try dsimp only [Ty.den, Ty.dflt]
  try simp only [rd_eta]
  exact ⟨h0, h1⟩
 refine sw_seq (sw_seq (xr hP 3 rfl (sw_cond rfl (fun c2 => ?_) (fun c2 => ?_))))
 ·replace c2 : szDs ds left < 0 := of_decide_eq_true c2
  refine sw_seq (xr hP 4 rfl (sw_ret ⟨.inl rfl, _, rfl, ?_⟩))
  have hv : szPo ((ds, op, (tg, l), (tg2, l2)) : Pol) left = -1 := by
    unfold szPo
    dsimp only
    exact if_pos c2
  simp only [conj, List.append_nil]
  exact hv.symm
 ·replace c2 : ¬ szDs ds left < 0 := of_decide_eq_false c2
  have b2 := szVs_ok l (szDs ds left) (by omega)
  refine sw_skip (sw_seq (xg hP 4 [] rfl ?_ ?_))
  ·simp [conj, maxL]
   try dsimp only [Ty.den, Ty.dflt]
   try simp only [rd_eta]
   exact ⟨by show 0 ≤ szDs ds left; omega, by show szDs ds left ≤ 1048576; omega⟩
  refine sw_seq (sw_seq (xr hP 5 rfl (sw_cond rfl (fun c5 => ?_) (fun c5 => ?_))))
  ·replace c5 : szVs l (szDs ds left) < 0 := of_decide_eq_true c5
   refine sw_seq (xr hP 6 rfl (sw_ret ⟨.inl rfl, _, rfl, ?_⟩))
   have hv : szPo ((ds, op, (tg, l), (tg2, l2)) : Pol) left = -1 := by
     unfold szPo
     dsimp only
     rw [if_neg c2, if_pos (show szR (tg, l) (szDs ds left) < 0 from c5)]
   simp only [conj, List.append_nil]
   exact hv.symm
  ·replace c5 : ¬ szVs l (szDs ds left) < 0 := of_decide_eq_false c5
   have b3 := szVs_ok l2 (szVs l (szDs ds left)) (by omega)
   refine sw_skip (sw_seq (xg hP 6 [] rfl ?_ ?_))
   ·simp [conj, maxL]
    try dsimp only [Ty.den, Ty.dflt]
    try simp only [rd_eta]
    exact ⟨by show 0 ≤ szVs l (szDs ds left); omega, by show szVs l (szDs ds left) ≤ 1048576; omega⟩
   refine sw_seq (sw_seq (xr hP 7 rfl (sw_cond rfl (fun c8 => ?_) (fun c8 => ?_))))
   ·replace c8 : szVs l2 (szVs l (szDs ds left)) < 0 := of_decide_eq_true c8
    have b4 := sz_neg szVs_ok (x := l2) (left := szVs l (szDs ds left)) (by omega) c8
    refine sw_seq (xr hP 8 rfl (sw_ret ⟨.inl rfl, _, rfl, ?_⟩))
    have hv : szPo ((ds, op, (tg, l), (tg2, l2)) : Pol) left = -1 := by
      unfold szPo
      dsimp only
      rw [if_neg c2, if_neg (show ¬ szR (tg, l) (szDs ds left) < 0 from c5)]
      exact b4
    simp only [conj, List.append_nil]
    exact hv.symm
   ·refine sw_skip (sw_seq (xr hP 8 rfl (sw_ret ⟨.inl rfl, _, rfl, ?_⟩)))
    have hv : szPo ((ds, op, (tg, l), (tg2, l2)) : Pol) left = szVs l2 (szVs l (szDs ds left)) := by
      unfold szPo
      dsimp only
      rw [if_neg c2, if_neg (show ¬ szR (tg, l) (szDs ds left) < 0 from c5)]
      rfl
    simp only [conj, List.append_nil]
    exact hv.symm
def cToDs : Ctr := ⟨14, [.val false (.sl TL_Disk) (.all .b)], fun x => SmDs x.1, fun x => (.v false [.own ⟨1, 0, 0⟩], [(⟨1, 0, 0⟩, .sl T_Disk (.all .w) x.1)])⟩
theorem cToDs_ok : CtrOk Proofs.Tryz.prog cToDs := by
 have hP := ((Prg.none ttok mtok).and cToD_ok)
 refine ctr_of_body hP cToDs (fn := Proofs.Tryz.f14) (rts := [.tmp 2]) Proofs.Tryz.func14 rfl (by kernel_rfl) rfl rfl ?_
 rintro ⟨(l : List Dsk), ⟨⟩⟩ _ ⟨hpre, hp2⟩
 try dsimp only [Ty.den, Mode.den, mdens] at hpre
 try dsimp only [Ty.den, Mode.den, mdens] at hp2
 refine ⟨rfl, ?_⟩
 replace hpre : l.length ≤ 1048576 := hpre
 refine sw_seq (xr hP 1 rfl (sw_seq (xg hP 2 [] rfl ?_ ?_)))
 ·simp [conj, maxL]
  try dsimp only [Ty.den, Ty.dflt]
  try simp only [rd_eta]
  repeat' apply And.intro
  all_goals first | rfl | assumption | omega
 refine sw_seq (sw_seq (xr hP 3 rfl (sw_block (sw_loop (ι := Nat) (fun i => ⟨[.v false [.d (.sl TL_Disk) (.all .b) l], .j, .j, .v false [.own ⟨2, 2, 0⟩], sInt .i64 (i : Int), .j, .j, .j, .j, .j, .j, .j, .j, .j, .j, .j, .j, .j, .j, .j, .j, .j, .j], [(⟨2, 2, 0⟩, .sl T_Disk (.all .w) (cpL l ((0, [], [], [], []) : Dsk) i))], 3, []⟩) (fun i => l.length - i) (fun i => i ≤ l.length) 0 ⟨?_, ?_⟩ ?_))))
 ·exact Nat.zero_le _
 ·refine ent_ok rfl ?_
  simp [conj]
  exact cpL_zero.symm
 ·rintro i hi
  refine sw_seq (sw_seq (xr hP 4 rfl (sw_cond rfl (fun c3 => ?_) (fun c3 => ?_))))
  ·have hlt : i < l.length := by simpa using c3
   have hcl : (cpL l ((0, [], [], [], []) : Dsk) i).length = l.length := cpL_len hi
   have hl2 := hp2 _ (List.getElem_mem hlt)
   refine sw_skip (sw_seq (sw_block (xg hP 5 [] rfl ?_ ?_)))
   ·simp [conj, maxL, gE hlt, hcl]
    repeat' first | exact hl2 | apply And.intro
    all_goals first | assumption | omega | trivial
   refine xr hP 6 rfl (⟨i + 1, ?_, ?_, ent_ok rfl ?_⟩)
   ·exact hlt
   ·omega
   ·simp [conj, gE hlt]
    exact cpL_next hlt
  ·obtain rfl : i = l.length := by simp at c3; omega
   refine sw_exit (sw_seq (xr hP 5 rfl (sw_ret ⟨.inl rfl, _, rfl, ?_⟩)))
   simp [conj]
   exact cpL_end
def cToI : Ctr := ⟨24, [.val false (.sl (.int .i64)) (.all .b)], fun x => List.length x.1 ≤ 1048576, fun x => (.v false [.own ⟨1, 0, 0⟩], [(⟨1, 0, 0⟩, .sl (.int .i64) (.all .w) x.1)])⟩
theorem cToI_ok : CtrOk Proofs.Tryz.prog cToI := by
 have hP := (Prg.none ttok mtok)
 refine ctr_of_body hP cToI (fn := Proofs.Tryz.f24) (rts := [.tmp 2]) Proofs.Tryz.func24 rfl (by kernel_rfl) rfl rfl ?_
 rintro ⟨(l : List Int), ⟨⟩⟩ _ hpre
 try dsimp only [Ty.den, Mode.den, mdens] at hpre
 refine ⟨rfl, ?_⟩
 replace hpre : l.length ≤ 1048576 := hpre
 refine sw_seq (xr hP 1 rfl (sw_seq (xg hP 2 [] rfl ?_ ?_)))
 ·simp [conj, maxL]
  try dsimp only [Ty.den, Ty.dflt]
  try simp only [rd_eta]
  repeat' apply And.intro
  all_goals first | rfl | assumption | omega
 refine sw_seq (sw_seq (xr hP 3 rfl (sw_block (sw_loop (ι := Nat) (fun i => ⟨[.v false [.d (.sl (.int .i64)) (.all .b) l], .j, .j, .v false [.own ⟨2, 2, 0⟩], sInt .i64 (i : Int), .j, .j, .j, .j, .j, .j, .j, .j, .j, .j, .j, .j, .j, .j, .j, .j, .j], [(⟨2, 2, 0⟩, .sl (.int .i64) (.all .w) (cpL l (0 : Int) i))], 3, []⟩) (fun i => l.length - i) (fun i => i ≤ l.length) 0 ⟨?_, ?_⟩ ?_))))
 ·exact Nat.zero_le _
 ·refine ent_ok rfl ?_
  simp [conj]
  exact cpL_zero.symm
 ·rintro i hi
  refine sw_seq (sw_seq (xr hP 4 rfl (sw_cond rfl (fun c3 => ?_) (fun c3 => ?_))))
  ·have hlt : i < l.length := by simpa using c3
   have hcl : (cpL l (0 : Int) i).length = l.length := cpL_len hi
   refine sw_skip (sw_seq (sw_block (xg hP 5 [] rfl ?_ ?_)))
   ·simp [conj, maxL, gE hlt, hcl]
    repeat' apply And.intro
    all_goals first | assumption | trivial | omega
   refine xr hP 6 rfl (⟨i + 1, ?_, ?_, ent_ok rfl ?_⟩)
   ·exact hlt
   ·omega
   ·simp [conj, gE hlt]
    exact cpL_next hlt
  ·obtain rfl : i = l.length := by simp at c3; omega
   refine sw_exit (sw_seq (xr hP 5 rfl (sw_ret ⟨.inl rfl, _, rfl, ?_⟩)))
   simp [conj]
   exact cpL_end
def cToPo : Ctr := ⟨23, [.val true TL_Pool (.all .b)], fun x => SmPo x.1, fun x => (.v true [.own ⟨1, 0, 0⟩, .d .bool pF (x.1).2.1, .d TI pF (x.1).2.2.1.1, .own ⟨1, 1, 0⟩, .d TI pF (x.1).2.2.2.1, .own ⟨1, 2, 0⟩], [(⟨1, 0, 0⟩, .sl T_Disk (.all .w) (x.1).1), (⟨1, 1, 0⟩, .sl T_Vol (.all .w) (x.1).2.2.1.2), (⟨1, 2, 0⟩, .sl T_Vol (.all .w) (x.1).2.2.2.2)])⟩
theorem cToPo_ok : CtrOk Proofs.Tryz.prog cToPo := by
 have hP := (((Prg.none ttok mtok).and cToDs_ok).and cToRoot_ok)
 refine ctr_of_body hP cToPo (fn := Proofs.Tryz.f23) (rts := [.cell 2 66]) Proofs.Tryz.func23 rfl (by kernel_rfl) rfl rfl ?_
 rintro ⟨⟨(ds : List Dsk), (op : Bool), ⟨(tg : Int), (l : List Vol_)⟩, ⟨(tg2 : Int), (l2 : List Vol_)⟩⟩, ⟨⟩⟩ _ ⟨h1, h2, h3⟩
 try dsimp only [Ty.den, Mode.den, mdens] at h1
 try dsimp only [Ty.den, Mode.den, mdens] at h2
 try dsimp only [Ty.den, Mode.den, mdens] at h3
 refine ⟨rfl, ?_⟩
 refine sw_seq (xr hP 1 rfl (sw_seq (xr hP 2 rfl (sw_seq (xg hP 3 [] rfl ?_ ?_)))))
 ·simp [conj, maxL]
  try dsimp only [Ty.den, Ty.dflt]
  try simp only [rd_eta]
  exact h1
 refine sw_seq (xr hP 4 rfl (sw_seq (xg hP 5 [] rfl ?_ ?_)))
 ·simp [conj, maxL]
  try dsimp only [Ty.den, Ty.dflt]
  try simp only [rd_eta]
  exact h2
 refine sw_seq (xg hP 6 [] rfl ?_ ?_)
 ·simp [conj, maxL]
  try dsimp only [Ty.den, Ty.dflt]
  try simp only [rd_eta]
  exact h3
 refine sw_seq (xr hP 7 rfl (sw_ret ⟨.inl rfl, _, rfl, ?_⟩))
 simp [conj, maxL]
 try dsimp only [Ty.den, Ty.dflt]
 try simp only [rd_eta]
 repeat' apply And.intro
 all_goals first | rfl | assumption | omega | trivial
def cEqDs : Ctr := ⟨16, [.val false (.sl T_Disk) (.all .b), .val false (.sl T_Disk) (.all .b)], fun x => True, fun x => (sBool (decide ((x.1 : List Dsk) = x.2.1)), [])⟩
theorem cEqDs_ok : CtrOk Proofs.Tryz.prog cEqDs := by
 have hP := ((Prg.none ttok mtok).and cEqD_ok)
 refine ctr_of_body hP cEqDs (fn := Proofs.Tryz.f16) (rts := [.tmp 4]) Proofs.Tryz.func16 rfl (by kernel_rfl) rfl rfl ?_
 rintro ⟨(a : List Dsk), (b : List Dsk), ⟨⟩⟩ ⟨hda, hdb, _⟩ _
 try dsimp only [Ty.den, Mode.den, mdens] at _
 refine ⟨rfl, ?_⟩
 have hml : a.length ≤ 140737488355328 := hda.1
 have hmb : b.length ≤ 140737488355328 := hdb.1
 refine sw_seq (xr hP 1 rfl (sw_seq (sw_seq (xr hP 2 rfl (sw_cond rfl (fun c1 => ?_) (fun c1 => ?_))))))
 ·replace c1 : ¬ a.length = b.length := by simp at c1; omega
  refine sw_seq (xr hP 3 rfl (sw_ret ⟨.inl rfl, _, rfl, ?_⟩))
  have hv := eqL_len c1
  simp [conj, hv]
 ·replace c1 : a.length = b.length := by simp at c1; omega
  refine sw_skip (sw_seq (sw_seq (xr hP 3 rfl (sw_block (sw_loop (ι := Nat) (fun i => ⟨[.v false [.d (.sl T_Disk) (.all .b) a], .v false [.d (.sl T_Disk) (.all .b) b], .j, .j, .j, sInt .i64 (i : Int), .j, .j, .j, .j, .j, .j, .j, .j, .j, .j, .j, .j, .j, .j, .j, .j, .j, .j, .j, .j, .j], [], 3, []⟩) (fun i => a.length - i) (fun i => i ≤ a.length ∧ decide (a.drop i = b.drop i) = decide (a = b)) 0 ⟨?_, ?_⟩ ?_)))))
  ·exact ⟨Nat.zero_le _, rfl⟩
  ·refine ent_ok rfl ?_
   first | trivial | (simp [conj]; done) | (simp [conj] at *; (try dsimp only [Ty.den, Ty.dflt] at *); omega)
  ·rintro i ⟨hi, hgo⟩
   refine sw_seq (sw_seq (xr hP 4 rfl (sw_cond rfl (fun c4 => ?_) (fun c4 => ?_))))
   ·have hlt : i < a.length := by simpa using c4
    have hlt2 : i < b.length := by omega
    refine sw_skip (sw_seq (sw_block (sw_seq (xg hP 5 [] rfl ?_ ?_))))
    ·simp [conj, gE hlt, gE hlt2]
     repeat' apply And.intro
     all_goals first | omega | trivial
    refine sw_cond rfl (fun c6 => ?_) (fun c6 => ?_)
    ·replace c6 : ¬ a[i] = b[i] := by intro e; simp [gE hlt, gE hlt2, e, eqDV] at c6
     refine sw_seq (xr hP 6 rfl (sw_ret ⟨.inl rfl, _, rfl, ?_⟩))
     have hv := eqL_hit hlt hlt2 hgo c6
     simp [conj, hv]
    ·replace c6 : a[i] = b[i] := by
       have h := c6
       simp [gE hlt, gE hlt2, eqDV] at h
       exact Prod.ext h.1 (Prod.ext h.2.1 (Prod.ext h.2.2.1 (Prod.ext h.2.2.2.1 h.2.2.2.2)))
     refine sw_skip (xr hP 6 rfl (⟨i + 1, ?_, ?_, ent_ok rfl ?_⟩))
     ·exact ⟨hlt, eqL_next hlt hlt2 hgo c6⟩
     ·omega
     ·simp [conj]
   ·obtain rfl : i = a.length := by simp at c4; omega
    refine sw_exit (sw_seq (xr hP 5 rfl (sw_ret ⟨.inl rfl, _, rfl, ?_⟩)))
    have hv := eqL_end c1 hgo
    simp [conj, hv]
def cEqI : Ctr := ⟨27, [.val false (.sl (.int .i64)) (.all .b), .val false (.sl (.int .i64)) (.all .b)], fun _ => True, fun x => (sBool (decide ((x.1 : List Int) = x.2.1)), [])⟩
theorem cEqI_ok : CtrOk Proofs.Tryz.prog cEqI := by
 have hP := (Prg.none ttok mtok)
 refine ctr_of_body hP cEqI (fn := Proofs.Tryz.f27) (rts := [.tmp 4]) Proofs.Tryz.func27 rfl (by kernel_rfl) rfl rfl ?_
 rintro ⟨(a : List Int), (b : List Int), ⟨⟩⟩ ⟨hda, hdb, _⟩ hpre
 try dsimp only [Ty.den, Mode.den, mdens] at hpre
 refine ⟨rfl, ?_⟩
 have hml : a.length ≤ 140737488355328 := hda.1
 have hmb : b.length ≤ 140737488355328 := hdb.1
 refine sw_seq (xr hP 1 rfl (sw_seq (sw_seq (xr hP 2 rfl (sw_cond rfl (fun c1 => ?_) (fun c1 => ?_))))))
 ·replace c1 : ¬ a.length = b.length := by simp at c1; omega
  refine sw_seq (xr hP 3 rfl (sw_ret ⟨.inl rfl, _, rfl, ?_⟩))
  exact (eq_len' c1).symm
 ·replace c1 : a.length = b.length := by simp at c1; omega
  refine sw_skip (sw_seq (sw_seq (xr hP 3 rfl (sw_block (sw_loop (ι := Nat) (fun i => ⟨[.v false [.d (.sl (.int .i64)) (.all .b) a], .v false [.d (.sl (.int .i64)) (.all .b) b], .j, .j, .j, sInt .i64 (i : Int), .j, .j, .j, .j, .j, .j, .j, .j, .j, .j, .j, .j, .j, .j, .j, .j, .j, .j, .j, .j], [], 3, []⟩) (fun i => a.length - i) (fun i => i ≤ a.length ∧ decide (a.drop i = b.drop i) = decide (a = b)) 0 ⟨?_, ?_⟩ ?_)))))
  ·exact ⟨Nat.zero_le _, rfl⟩
  ·refine ent_ok rfl ?_
   first | trivial | (simp [conj]; done) | (simp [conj] at *; (try dsimp only [Ty.den, Ty.dflt] at *); omega)
  ·rintro i ⟨hi, hgo⟩
   refine sw_seq (sw_seq (xr hP 4 rfl (sw_cond rfl (fun c4 => ?_) (fun c4 => ?_))))
   ·have hlt : i < a.length := by simpa using c4
    have hlt2 : i < b.length := by omega
    refine sw_skip (sw_seq (sw_block (sw_seq (xg hP 5 [] rfl ?_ ?_))))
    ·simp [conj, maxL]
     try dsimp only [Ty.den, Ty.dflt]
     try simp only [rd_eta]
     repeat' apply And.intro
     all_goals first | rfl | assumption | omega | trivial
    refine sw_cond rfl (fun c6 => ?_) (fun c6 => ?_)
    ·replace c6 : ¬ a[i] = b[i] := by have h := c6; simp [gE hlt, gE hlt2] at h; first | exact h | (intro e; rw [e] at h; simp at h) | (intro e; exact h (by rw [e]) )
     refine sw_seq (xr hP 6 rfl (sw_ret ⟨.inl rfl, _, rfl, ?_⟩))
     exact (eq_hit' hlt hlt2 hgo c6).symm
    ·replace c6 : a[i] = b[i] := by have h := c6; simp [gE hlt, gE hlt2] at h; first | exact h | exact Prod.ext h.1 (Prod.ext h.2.1 h.2.2)
     refine sw_skip (xr hP 6 rfl (⟨i + 1, ?_, ?_, ent_ok rfl ?_⟩))
     ·exact ⟨hlt, eq_next' hlt hlt2 hgo c6⟩
     ·omega
     ·simp [conj]
   ·obtain rfl : i = a.length := by simp at c4; omega
    refine sw_exit (sw_seq (xr hP 5 rfl (sw_ret ⟨.inl rfl, _, rfl, ?_⟩)))
    exact (eq_end' c1 hgo).symm
def cEqPo : Ctr := ⟨26, [.val true T_Pool (.all .b), .val true T_Pool (.all .b)], fun x => True, fun x => (sBool (decide ((x.1 : Pol) = x.2.1)), [])⟩
theorem cEqPo_ok : CtrOk Proofs.Tryz.prog cEqPo := by
 have hP := (((Prg.none ttok mtok).and cEqDs_ok).and cEqRoot_ok)
 refine ctr_of_body hP cEqPo (fn := Proofs.Tryz.f26) (rts := [.tmp 4]) Proofs.Tryz.func26 rfl (by kernel_rfl) rfl rfl ?_
 rintro ⟨⟨(ds : List Dsk), (op : Bool), ⟨(tg : Int), (l : List Vol_)⟩, ⟨(tg2 : Int), (l2 : List Vol_)⟩⟩, ⟨(es : List Dsk), (oq : Bool), ⟨(ug : Int), (m : List Vol_)⟩, ⟨(ug2 : Int), (m2 : List Vol_)⟩⟩, ⟨⟩⟩ _ _
 try dsimp only [Ty.den, Mode.den, mdens] at _
 refine ⟨rfl, ?_⟩
 refine sw_seq (xr hP 1 rfl (sw_seq (sw_seq (xg hP 2 [] rfl ?_ ?_))))
 ·simp [conj, maxL]
  try dsimp only [Ty.den, Ty.dflt]
  try simp only [rd_eta]
  try trivial
 refine sw_cond rfl (fun c1 => ?_) (fun c1 => ?_)
 ·replace c1 : ¬ ds = es := by simpa using c1
  refine sw_seq (xr hP 3 rfl (sw_ret ⟨.inl rfl, _, rfl, ?_⟩))
  have hne : decide (((ds, op, (tg, l), (tg2, l2)) : Pol) = (es, oq, (ug, m), (ug2, m2))) = false := decide_eq_false fun e => c1 (congrArg (·.1) e)
  simp only [conj, List.append_nil]
  exact hne.symm
 ·replace c1 : ds = es := by simpa using c1
  refine sw_skip (sw_seq (sw_seq (xr hP 3 rfl (sw_cond rfl (fun c3 => ?_) (fun c3 => ?_)))))
  ·replace c3 : ¬ op = oq := by intro e; rw [e] at c3; simp at c3
   refine sw_seq (xr hP 4 rfl (sw_ret ⟨.inl rfl, _, rfl, ?_⟩))
   have hne : decide (((ds, op, (tg, l), (tg2, l2)) : Pol) = (es, oq, (ug, m), (ug2, m2))) = false := decide_eq_false fun e => c3 (congrArg (·.2.1) e)
   simp only [conj, List.append_nil]
   exact hne.symm
  ·replace c3 : op = oq := by have h : (!(op == oq)) = false := c3; simpa using h
   refine sw_skip (sw_seq (sw_seq (xg hP 4 [] rfl ?_ ?_)))
   ·simp [conj, maxL]
    try dsimp only [Ty.den, Ty.dflt]
    try simp only [rd_eta]
    try trivial
   refine sw_cond rfl (fun c5 => ?_) (fun c5 => ?_)
   ·replace c5 : ¬ ((tg, l) : Root_) = (ug, m) := by have h : (!decide (((tg, l) : Root_) = (ug, m))) = true := c5; rwa [Bool.not_eq_true', decide_eq_false_iff_not] at h
    refine sw_seq (xr hP 5 rfl (sw_ret ⟨.inl rfl, _, rfl, ?_⟩))
    have hne : decide (((ds, op, (tg, l), (tg2, l2)) : Pol) = (es, oq, (ug, m), (ug2, m2))) = false := decide_eq_false fun e => c5 (congrArg (·.2.2.1) e)
    simp only [conj, List.append_nil]
    exact hne.symm
   ·replace c5 : ((tg, l) : Root_) = (ug, m) := by have h : (!decide (((tg, l) : Root_) = (ug, m))) = false := c5; rwa [Bool.not_eq_false', decide_eq_true_eq] at h
    refine sw_skip (sw_seq (sw_seq (xg hP 5 [] rfl ?_ ?_)))
    ·simp [conj, maxL]
     try dsimp only [Ty.den, Ty.dflt]
     try simp only [rd_eta]
     try trivial
    refine sw_cond rfl (fun c7 => ?_) (fun c7 => ?_)
    ·replace c7 : ¬ ((tg2, l2) : Root_) = (ug2, m2) := by have h : (!decide (((tg2, l2) : Root_) = (ug2, m2))) = true := c7; rwa [Bool.not_eq_true', decide_eq_false_iff_not] at h
     refine sw_seq (xr hP 6 rfl (sw_ret ⟨.inl rfl, _, rfl, ?_⟩))
     have hne : decide (((ds, op, (tg, l), (tg2, l2)) : Pol) = (es, oq, (ug, m), (ug2, m2))) = false := decide_eq_false fun e => c7 (congrArg (·.2.2.2) e)
     simp only [conj, List.append_nil]
     exact hne.symm
    ·replace c7 : ((tg2, l2) : Root_) = (ug2, m2) := by have h : (!decide (((tg2, l2) : Root_) = (ug2, m2))) = false := c7; rwa [Bool.not_eq_false', decide_eq_true_eq] at h
     refine sw_skip (sw_seq (xr hP 6 rfl (sw_ret ⟨.inl rfl, _, rfl, ?_⟩)))
     have hne : decide (((ds, op, (tg, l), (tg2, l2)) : Pol) = (es, oq, (ug, m), (ug2, m2))) = true := decide_eq_true (by rw [c1, c3, c5, c7])
     simp only [conj, List.append_nil]
     exact hne.symm
end Go.Sx
