/- Several texts, one behind the other. -/
import Derived.Test.YtbaifcnfdljhlaaGreatDoorMOpentoMPo
set_option linter.all false
namespace Go.Sx
open Go
set_option maxRecDepth 100000
set_option linter.unusedVariables false
set_option linter.unusedSimpArgs false
set_option maxHeartbeats 2000000
def cMkStr : Ctr := ⟨44, [.mu false .str (.all .w), .val false TI pF], fun x => 0 ≤ x.2.1 ∧ nxLs mkStr x.2.1 x.1 ≤ 1000000000, fun x => (sInt .i64 (nxLs mkStr x.2.1 x.1), [(⟨0, 0, 0⟩, .sl .str (.all .w) (mkLs mkStr x.2.1 x.1))])⟩
theorem cMkStr_ok : CtrOk Proofs.Tryz.prog cMkStr := by
 have hP := ((Prg.none ttok mtok).and cMkT_ok)
 refine ctr_of_body hP cMkStr (fn := Proofs.Tryz.f44) (rts := [.tmp 4]) Proofs.Tryz.func44 rfl (by kernel_rfl) rfl rfl ?_
 rintro ⟨(l : List Str), (k : Int), ⟨⟩⟩ ⟨hdl, _⟩ ⟨h0, h1⟩
 try dsimp only [Ty.den, Mode.den, mdens] at h0
 try dsimp only [Ty.den, Mode.den, mdens] at h1
 refine ⟨rfl, ?_⟩
 have hml : l.length ≤ 140737488355328 := hdl.1
 replace h0 : 0 ≤ k := h0
 replace h1 : nxLs mkStr k l ≤ 1000000000 := h1
 refine sw_seq (xr hP 1 rfl (sw_seq (sw_seq (xr hP 2 rfl (sw_block (sw_loop (ι := Nat) (fun i => ⟨[.v false [.own ⟨0, 0, 0⟩], sInt .i64 (nxLs mkStr k (l.take i)), .j, .j, .j, sInt .i64 (i : Int), .j, .j, .j, .j, .j, .j, .j, .j, .j, .j, .j, .j, .j, .j], [(⟨0, 0, 0⟩, .sl .str (.all .w) (mkLs mkStr k (l.take i) ++ l.drop i))], 2, [[.v false [.own ⟨0, 0, 0⟩], .j]]⟩) (fun i => l.length - i) (fun i => i ≤ l.length) 0 ⟨?_, ?_⟩ ?_))))))
 ·exact Nat.zero_le _
 ·refine ent_ok rfl ?_
  simp [conj, mkLs, nxLs]
 ·rintro i hi
  refine sw_seq (sw_seq (xr hP 3 rfl (sw_cond rfl (fun c2 => ?_) (fun c2 => ?_))))
  ·have hcl := mk_clen (m := mkStr) (k := k) hi
   have hlt : i < l.length := by have h : ((i : Nat) : Int) < ((mkLs mkStr k (l.take i) ++ l.drop i).length : Nat) := of_decide_eq_true c2; omega
   have hnx := mk_next (m := mkStr) (k := k) hlt
   have hnn := nx_next (m := mkStr) (k := k) hlt
   obtain ⟨s1, s2, s3⟩ := nx_split mkStr_ok (k := k) hlt
   have hget := mk_get (m := mkStr) (k := k) hlt
   have hgd : ∀ d, (mkLs mkStr k (l.take i) ++ l.drop i)[i]?.getD d = l[i] := fun d => by rw [hget]; rfl
   have hgi : ∀ h, (mkLs mkStr k (l.take i) ++ l.drop i)[i]'h = l[i] := fun h => by have h2 := hget; rw [gE h] at h2; exact Option.some.inj h2
   generalize hQ : (nxLs mkStr k (l.take i)) = Q at *
   replace s2 : Q ≤ Q + 1 := s2
   replace s3 : Q + 1 ≤ nxLs mkStr k l := s3
   refine sw_skip (sw_seq (sw_block (sw_seq (xg hP 4 [] rfl ?_ ?_))))
   ·simp [conj, hget, hgd, hgi, hcl, List.getElem?_set, hlt]
    repeat' apply And.intro
    all_goals first | trivial | assumption | omega | (show Q ≤ 1099511627776; omega)
   refine xg hP 5 [] rfl ?_ ?_
   ·simp [conj, hget, hgd, hgi, hcl, List.getElem?_set, hlt]
    repeat' apply And.intro
    all_goals first | trivial | assumption | omega | (show Q ≤ 1099511627776; omega)
   refine xg hP 6 [] rfl ?_ ?_
   ·simp only [cj, cl]
    try dsimp only [Ty.den, Ty.dflt]
    repeat' apply And.intro
    all_goals first | rfl | omega | assumption | trivial
   refine ⟨i + 1, ?_, ?_, ent_ok rfl ?_⟩
   ·exact hlt
   ·omega
   ·rw [hnn]
    simp [conj, hget, hgd, hgi, hcl, List.getElem?_set, hlt]
    repeat' apply And.intro
    all_goals first | rfl | exact hnx | omega
  ·have hcl := mk_clen (m := mkStr) (k := k) hi
   obtain rfl : i = l.length := by have h : ¬ ((i : Nat) : Int) < ((mkLs mkStr k (l.take i) ++ l.drop i).length : Nat) := of_decide_eq_false c2; omega
   refine sw_exit (sw_seq (xr hP 4 rfl (sw_ret ⟨.inl rfl, _, rfl, ?_⟩)))
   simp [conj]
def cMkBool : Ctr := ⟨45, [.mu false .bool (.all .w), .val false TI pF], fun x => 0 ≤ x.2.1 ∧ nxLs mkBool x.2.1 x.1 ≤ 1000000000, fun x => (sInt .i64 (nxLs mkBool x.2.1 x.1), [(⟨0, 0, 0⟩, .sl .bool (.all .w) (mkLs mkBool x.2.1 x.1))])⟩
theorem cMkBool_ok : CtrOk Proofs.Tryz.prog cMkBool := by
 have hP := (Prg.none ttok mtok)
 refine ctr_of_body hP cMkBool (fn := Proofs.Tryz.f45) (rts := [.tmp 4]) Proofs.Tryz.func45 rfl (by kernel_rfl) rfl rfl ?_
 rintro ⟨(l : List Bool), (k : Int), ⟨⟩⟩ ⟨hdl, _⟩ ⟨h0, h1⟩
 try dsimp only [Ty.den, Mode.den, mdens] at h0
 try dsimp only [Ty.den, Mode.den, mdens] at h1
 refine ⟨rfl, ?_⟩
 have hml : l.length ≤ 140737488355328 := hdl.1
 replace h0 : 0 ≤ k := h0
 replace h1 : nxLs mkBool k l ≤ 1000000000 := h1
 refine sw_seq (xr hP 1 rfl (sw_seq (sw_seq (xr hP 2 rfl (sw_block (sw_loop (ι := Nat) (fun i => ⟨[.v false [.own ⟨0, 0, 0⟩], sInt .i64 (nxLs mkBool k (l.take i)), .j, .j, .j, sInt .i64 (i : Int), .j, .j, .j, .j, .j, .j, .j, .j, .j, .j, .j, .j, .j, .j, .j], [(⟨0, 0, 0⟩, .sl .bool (.all .w) (mkLs mkBool k (l.take i) ++ l.drop i))], 2, [[.v false [.own ⟨0, 0, 0⟩], .j]]⟩) (fun i => l.length - i) (fun i => i ≤ l.length) 0 ⟨?_, ?_⟩ ?_))))))
 ·exact Nat.zero_le _
 ·refine ent_ok rfl ?_
  simp [conj, mkLs, nxLs]
 ·rintro i hi
  refine sw_seq (sw_seq (xr hP 3 rfl (sw_cond rfl (fun c2 => ?_) (fun c2 => ?_))))
  ·have hcl := mk_clen (m := mkBool) (k := k) hi
   have hlt : i < l.length := by have h : ((i : Nat) : Int) < ((mkLs mkBool k (l.take i) ++ l.drop i).length : Nat) := of_decide_eq_true c2; omega
   have hnx := mk_next (m := mkBool) (k := k) hlt
   have hnn := nx_next (m := mkBool) (k := k) hlt
   obtain ⟨s1, s2, s3⟩ := nx_split mkBool_ok (k := k) hlt
   have hget := mk_get (m := mkBool) (k := k) hlt
   have hgd : ∀ d, (mkLs mkBool k (l.take i) ++ l.drop i)[i]?.getD d = l[i] := fun d => by rw [hget]; rfl
   have hgi : ∀ h, (mkLs mkBool k (l.take i) ++ l.drop i)[i]'h = l[i] := fun h => by have h2 := hget; rw [gE h] at h2; exact Option.some.inj h2
   generalize hQ : (nxLs mkBool k (l.take i)) = Q at *
   replace s2 : Q ≤ Q + 1 := s2
   replace s3 : Q + 1 ≤ nxLs mkBool k l := s3
   refine sw_skip (sw_seq (sw_block (sw_seq (xg hP 4 [] rfl ?_ ?_))))
   ·simp [conj, hget, hgd, hgi, hcl, List.getElem?_set, hlt]
    repeat' apply And.intro
    all_goals first | trivial | assumption | omega
   refine xg hP 5 [] rfl ?_ ?_
   ·simp [conj, hget, hgd, hgi, hcl, List.getElem?_set, hlt]
    repeat' apply And.intro
    all_goals first | trivial | assumption | omega
   refine xg hP 6 [] rfl ?_ ?_
   ·simp only [cj, cl]
    try dsimp only [Ty.den, Ty.dflt]
    repeat' apply And.intro
    all_goals first | rfl | omega | assumption | trivial
   refine ⟨i + 1, ?_, ?_, ent_ok rfl ?_⟩
   ·exact hlt
   ·omega
   ·rw [hnn]
    simp [conj, hget, hgd, hgi, hcl, List.getElem?_set, hlt]
    repeat' apply And.intro
    all_goals first | rfl | exact hnx | omega
  ·have hcl := mk_clen (m := mkBool) (k := k) hi
   obtain rfl : i = l.length := by have h : ¬ ((i : Nat) : Int) < ((mkLs mkBool k (l.take i) ++ l.drop i).length : Nat) := of_decide_eq_false c2; omega
   refine sw_exit (sw_seq (xr hP 4 rfl (sw_ret ⟨.inl rfl, _, rfl, ?_⟩)))
   simp [conj]
def cMkPut : Ctr := ⟨46, [.mu false T_Put (.all .w), .val false TI pF], fun x => 0 ≤ x.2.1 ∧ nxLs mPut x.2.1 x.1 ≤ 1000000000, fun x => (sInt .i64 (nxLs mPut x.2.1 x.1), [(⟨0, 0, 0⟩, .sl T_Put (.all .w) (mkLs mPut x.2.1 x.1))])⟩
theorem cMkPut_ok : CtrOk Proofs.Tryz.prog cMkPut := by
 have hP := ((Prg.none ttok mtok).and cMkT_ok)
 refine ctr_of_body hP cMkPut (fn := Proofs.Tryz.f46) (rts := [.tmp 4]) Proofs.Tryz.func46 rfl (by kernel_rfl) rfl rfl ?_
 rintro ⟨(l : List Put), (k : Int), ⟨⟩⟩ ⟨hdl, _⟩ ⟨h0, h1⟩
 try dsimp only [Ty.den, Mode.den, mdens] at h0
 try dsimp only [Ty.den, Mode.den, mdens] at h1
 refine ⟨rfl, ?_⟩
 have hml : l.length ≤ 140737488355328 := hdl.1
 replace h0 : 0 ≤ k := h0
 replace h1 : nxLs mPut k l ≤ 1000000000 := h1
 refine sw_seq (xr hP 1 rfl (sw_seq (sw_seq (xr hP 2 rfl (sw_block (sw_loop (ι := Nat) (fun i => ⟨[.v false [.own ⟨0, 0, 0⟩], sInt .i64 (nxLs mPut k (l.take i)), .j, .j, .j, sInt .i64 (i : Int), .j, .j, .j, .j, .j, .j, .j, .j, .j, .j, .j, .j, .j, .j, .j, .j, .j, .j, .j, .j, .j, .j, .j, .j, .j, .j, .j, .j, .j, .j, .j], [(⟨0, 0, 0⟩, .sl T_Put (.all .w) (mkLs mPut k (l.take i) ++ l.drop i))], 2, [[.v false [.own ⟨0, 0, 0⟩], .j]]⟩) (fun i => l.length - i) (fun i => i ≤ l.length) 0 ⟨?_, ?_⟩ ?_))))))
 ·exact Nat.zero_le _
 ·refine ent_ok rfl ?_
  simp [conj, mkLs, nxLs]
 ·rintro i hi
  refine sw_seq (sw_seq (xr hP 3 rfl (sw_cond rfl (fun c2 => ?_) (fun c2 => ?_))))
  ·have hcl := mk_clen (m := mPut) (k := k) hi
   have hlt : i < l.length := by have h : ((i : Nat) : Int) < ((mkLs mPut k (l.take i) ++ l.drop i).length : Nat) := of_decide_eq_true c2; omega
   have hnx := mk_next (m := mPut) (k := k) hlt
   have hnn := nx_next (m := mPut) (k := k) hlt
   obtain ⟨s1, s2, s3⟩ := nx_split mPut_ok (k := k) hlt
   have hget := mk_get (m := mPut) (k := k) hlt
   have hgd : ∀ d, (mkLs mPut k (l.take i) ++ l.drop i)[i]?.getD d = l[i] := fun d => by rw [hget]; rfl
   have hgi : ∀ h, (mkLs mPut k (l.take i) ++ l.drop i)[i]'h = l[i] := fun h => by have h2 := hget; rw [gE h] at h2; exact Option.some.inj h2
   generalize hQ : (nxLs mPut k (l.take i)) = Q at *
   replace s2 : Q ≤ Q + 1 + 1 + 1 := s2
   replace s3 : Q + 1 + 1 + 1 ≤ nxLs mPut k l := s3
   refine sw_skip (sw_seq (sw_block (sw_seq (xg hP 4 [] rfl ?_ ?_))))
   ·simp [conj, hget, hgd, hgi, hcl, List.getElem?_set, hlt]
    repeat' apply And.intro
    all_goals first | trivial | assumption | omega | (show Q + 1 + 1 ≤ 1099511627776; omega)
   refine sw_seq (xg hP 5 [] rfl ?_ ?_)
   ·simp [conj, hget, hgd, hgi, hcl, List.getElem?_set, hlt]
    repeat' apply And.intro
    all_goals first | trivial | assumption | omega | (show Q + 1 + 1 ≤ 1099511627776; omega)
   refine sw_seq (xg hP 6 [] rfl ?_ ?_)
   ·simp [conj, hget, hgd, hgi, hcl, List.getElem?_set, hlt]
    repeat' apply And.intro
    all_goals first | trivial | assumption | omega | (show Q + 1 + 1 ≤ 1099511627776; omega)
   refine sw_seq (xg hP 7 [] rfl ?_ ?_)
   ·simp [conj, hget, hgd, hgi, hcl, List.getElem?_set, hlt]
    repeat' apply And.intro
    all_goals first | trivial | assumption | omega | (show Q + 1 + 1 ≤ 1099511627776; omega)
   refine sw_seq (xg hP 8 [] rfl ?_ ?_)
   ·simp [conj, hget, hgd, hgi, hcl, List.getElem?_set, hlt]
    repeat' apply And.intro
    all_goals first | trivial | assumption | omega | (show Q + 1 + 1 ≤ 1099511627776; omega)
   refine xg hP 9 [] rfl ?_ ?_
   ·simp [conj, hget, hgd, hgi, hcl, List.getElem?_set, hlt]
    repeat' apply And.intro
    all_goals first | trivial | assumption | omega | (show Q + 1 + 1 ≤ 1099511627776; omega)
   refine xg hP 10 [] rfl ?_ ?_
   ·simp only [cj, cl]
    try dsimp only [Ty.den, Ty.dflt]
    repeat' apply And.intro
    all_goals first | rfl | omega | assumption | trivial
   refine ⟨i + 1, ?_, ?_, ent_ok rfl ?_⟩
   ·exact hlt
   ·omega
   ·rw [hnn]
    simp [conj, hget, hgd, hgi, hcl, List.getElem?_set, hlt]
    repeat' apply And.intro
    all_goals first | rfl | exact hnx | omega
  ·have hcl := mk_clen (m := mPut) (k := k) hi
   obtain rfl : i = l.length := by have h : ¬ ((i : Nat) : Int) < ((mkLs mPut k (l.take i) ++ l.drop i).length : Nat) := of_decide_eq_false c2; omega
   refine sw_exit (sw_seq (xr hP 4 rfl (sw_ret ⟨.inl rfl, _, rfl, ?_⟩)))
   simp [conj]
def cMkDs : Ctr := ⟨28, [.mu false T_Disk (.all .w), .val false TI pF], fun x => 0 ≤ x.2.1 ∧ nxLs mDsk x.2.1 x.1 ≤ 1000000000, fun x => (sInt .i64 (nxLs mDsk x.2.1 x.1), [(⟨0, 0, 0⟩, .sl T_Disk (.all .w) (mkLs mDsk x.2.1 x.1))])⟩
theorem cMkDs_ok : CtrOk Proofs.Tryz.prog cMkDs := by
 have hP := ((((Prg.none ttok mtok).and cMkStr_ok).and cMkBool_ok).and cMkPut_ok)
 refine ctr_of_body hP cMkDs (fn := Proofs.Tryz.f28) (rts := [.tmp 4]) Proofs.Tryz.func28 rfl (by kernel_rfl) rfl rfl ?_
 rintro ⟨(l : List Dsk), (k : Int), ⟨⟩⟩ ⟨hdl, _⟩ ⟨h0, h1⟩
 try dsimp only [Ty.den, Mode.den, mdens] at h0
 try dsimp only [Ty.den, Mode.den, mdens] at h1
 refine ⟨rfl, ?_⟩
 have hml : l.length ≤ 140737488355328 := hdl.1
 replace h0 : 0 ≤ k := h0
 replace h1 : nxLs mDsk k l ≤ 1000000000 := h1
 refine sw_seq (xr hP 1 rfl (sw_seq (sw_seq (xr hP 2 rfl (sw_block (sw_loop (ι := Nat) (fun i => ⟨[.v false [.own ⟨0, 0, 0⟩], sInt .i64 (nxLs mDsk k (l.take i)), .j, .j, .j, sInt .i64 (i : Int), .j, .j, .j, .j, .j, .j, .j, .j, .j, .j, .j, .j, .j, .j, .j, .j, .j, .j, .j, .j, .j, .j, .j, .j, .j, .j, .j, .j, .j, .j, .j, .j, .j, .j, .j, .j, .j, .j, .j, .j, .j, .j], [(⟨0, 0, 0⟩, .sl T_Disk (.all .w) (mkLs mDsk k (l.take i) ++ l.drop i))], 2, [[.v false [.own ⟨0, 0, 0⟩], .j]]⟩) (fun i => l.length - i) (fun i => i ≤ l.length) 0 ⟨?_, ?_⟩ ?_))))))
 ·exact Nat.zero_le _
 ·refine ent_ok rfl ?_
  simp [conj, mkLs, nxLs]
 ·rintro i hi
  refine sw_seq (sw_seq (xr hP 3 rfl (sw_cond rfl (fun c2 => ?_) (fun c2 => ?_))))
  ·have hcl := mk_clen (m := mDsk) (k := k) hi
   have hlt : i < l.length := by have h : ((i : Nat) : Int) < ((mkLs mDsk k (l.take i) ++ l.drop i).length : Nat) := of_decide_eq_true c2; omega
   have hnx := mk_next (m := mDsk) (k := k) hlt
   have hnn := nx_next (m := mDsk) (k := k) hlt
   obtain ⟨s1, s2, s3⟩ := nx_split mDsk_ok (k := k) hlt
   have hget := mk_get (m := mDsk) (k := k) hlt
   have hgd : ∀ d, (mkLs mDsk k (l.take i) ++ l.drop i)[i]?.getD d = l[i] := fun d => by rw [hget]; rfl
   have hgi : ∀ h, (mkLs mDsk k (l.take i) ++ l.drop i)[i]'h = l[i] := fun h => by have h2 := hget; rw [gE h] at h2; exact Option.some.inj h2
   generalize hQ : (nxLs mDsk k (l.take i)) = Q at *
   have s4 : (Q + 1) ≤ (nxLs mkStr (Q + 1) l[i].2.1) := (mkList_ok mkStr_ok).ge _ _
   have s5 : (nxLs mkStr (Q + 1) l[i].2.1) ≤ (nxLs mkStr (nxLs mkStr (Q + 1) l[i].2.1) l[i].2.2.1) := (mkList_ok mkStr_ok).ge _ _
   have s6 : (nxLs mkStr (nxLs mkStr (Q + 1) l[i].2.1) l[i].2.2.1) ≤ (nxLs mkBool (nxLs mkStr (nxLs mkStr (Q + 1) l[i].2.1) l[i].2.2.1) l[i].2.2.2.1) := (mkList_ok mkBool_ok).ge _ _
   have s7 : (nxLs mkBool (nxLs mkStr (nxLs mkStr (Q + 1) l[i].2.1) l[i].2.2.1) l[i].2.2.2.1) ≤ (nxLs mPut (nxLs mkBool (nxLs mkStr (nxLs mkStr (Q + 1) l[i].2.1) l[i].2.2.1) l[i].2.2.2.1) l[i].2.2.2.2) := (mkList_ok mPut_ok).ge _ _
   replace s3 : (nxLs mPut (nxLs mkBool (nxLs mkStr (nxLs mkStr (Q + 1) l[i].2.1) l[i].2.2.1) l[i].2.2.2.1) l[i].2.2.2.2) ≤ nxLs mDsk k l := s3
   refine sw_skip (sw_seq (sw_block (sw_seq (xg hP 4 [] rfl ?_ ?_))))
   ·simp [conj, hget, hgd, hgi, hcl, List.getElem?_set, hlt]
    repeat' apply And.intro
    all_goals first | trivial | assumption | omega | (show 0 ≤ (Q + 1); omega) | (show (Q + 1) ≤ _; omega) | (show 0 ≤ (nxLs mkStr (Q + 1) l[i].2.1); omega) | (show (nxLs mkStr (Q + 1) l[i].2.1) ≤ _; omega) | (show 0 ≤ (nxLs mkStr (nxLs mkStr (Q + 1) l[i].2.1) l[i].2.2.1); omega) | (show (nxLs mkStr (nxLs mkStr (Q + 1) l[i].2.1) l[i].2.2.1) ≤ _; omega) | (show 0 ≤ (nxLs mkBool (nxLs mkStr (nxLs mkStr (Q + 1) l[i].2.1) l[i].2.2.1) l[i].2.2.2.1); omega) | (show (nxLs mkBool (nxLs mkStr (nxLs mkStr (Q + 1) l[i].2.1) l[i].2.2.1) l[i].2.2.2.1) ≤ _; omega) | (show 0 ≤ (nxLs mPut (nxLs mkBool (nxLs mkStr (nxLs mkStr (Q + 1) l[i].2.1) l[i].2.2.1) l[i].2.2.2.1) l[i].2.2.2.2); omega) | (show (nxLs mPut (nxLs mkBool (nxLs mkStr (nxLs mkStr (Q + 1) l[i].2.1) l[i].2.2.1) l[i].2.2.2.1) l[i].2.2.2.2) ≤ _; omega)
   refine sw_seq (xg hP 5 [] rfl ?_ ?_)
   ·simp [conj, hget, hgd, hgi, hcl, List.getElem?_set, hlt]
    repeat' apply And.intro
    all_goals first | trivial | assumption | omega | (show 0 ≤ (Q + 1); omega) | (show (Q + 1) ≤ _; omega) | (show 0 ≤ (nxLs mkStr (Q + 1) l[i].2.1); omega) | (show (nxLs mkStr (Q + 1) l[i].2.1) ≤ _; omega) | (show 0 ≤ (nxLs mkStr (nxLs mkStr (Q + 1) l[i].2.1) l[i].2.2.1); omega) | (show (nxLs mkStr (nxLs mkStr (Q + 1) l[i].2.1) l[i].2.2.1) ≤ _; omega) | (show 0 ≤ (nxLs mkBool (nxLs mkStr (nxLs mkStr (Q + 1) l[i].2.1) l[i].2.2.1) l[i].2.2.2.1); omega) | (show (nxLs mkBool (nxLs mkStr (nxLs mkStr (Q + 1) l[i].2.1) l[i].2.2.1) l[i].2.2.2.1) ≤ _; omega) | (show 0 ≤ (nxLs mPut (nxLs mkBool (nxLs mkStr (nxLs mkStr (Q + 1) l[i].2.1) l[i].2.2.1) l[i].2.2.2.1) l[i].2.2.2.2); omega) | (show (nxLs mPut (nxLs mkBool (nxLs mkStr (nxLs mkStr (Q + 1) l[i].2.1) l[i].2.2.1) l[i].2.2.2.1) l[i].2.2.2.2) ≤ _; omega)
   refine sw_seq (xg hP 6 [] rfl ?_ ?_)
   ·simp [conj, hget, hgd, hgi, hcl, List.getElem?_set, hlt]
    repeat' apply And.intro
    all_goals first | trivial | assumption | omega | (show 0 ≤ (Q + 1); omega) | (show (Q + 1) ≤ _; omega) | (show 0 ≤ (nxLs mkStr (Q + 1) l[i].2.1); omega) | (show (nxLs mkStr (Q + 1) l[i].2.1) ≤ _; omega) | (show 0 ≤ (nxLs mkStr (nxLs mkStr (Q + 1) l[i].2.1) l[i].2.2.1); omega) | (show (nxLs mkStr (nxLs mkStr (Q + 1) l[i].2.1) l[i].2.2.1) ≤ _; omega) | (show 0 ≤ (nxLs mkBool (nxLs mkStr (nxLs mkStr (Q + 1) l[i].2.1) l[i].2.2.1) l[i].2.2.2.1); omega) | (show (nxLs mkBool (nxLs mkStr (nxLs mkStr (Q + 1) l[i].2.1) l[i].2.2.1) l[i].2.2.2.1) ≤ _; omega) | (show 0 ≤ (nxLs mPut (nxLs mkBool (nxLs mkStr (nxLs mkStr (Q + 1) l[i].2.1) l[i].2.2.1) l[i].2.2.2.1) l[i].2.2.2.2); omega) | (show (nxLs mPut (nxLs mkBool (nxLs mkStr (nxLs mkStr (Q + 1) l[i].2.1) l[i].2.2.1) l[i].2.2.2.1) l[i].2.2.2.2) ≤ _; omega)
   refine sw_seq (xg hP 7 [] rfl ?_ ?_)
   ·simp [conj, hget, hgd, hgi, hcl, List.getElem?_set, hlt]
    repeat' apply And.intro
    all_goals first | trivial | assumption | omega | (show 0 ≤ (Q + 1); omega) | (show (Q + 1) ≤ _; omega) | (show 0 ≤ (nxLs mkStr (Q + 1) l[i].2.1); omega) | (show (nxLs mkStr (Q + 1) l[i].2.1) ≤ _; omega) | (show 0 ≤ (nxLs mkStr (nxLs mkStr (Q + 1) l[i].2.1) l[i].2.2.1); omega) | (show (nxLs mkStr (nxLs mkStr (Q + 1) l[i].2.1) l[i].2.2.1) ≤ _; omega) | (show 0 ≤ (nxLs mkBool (nxLs mkStr (nxLs mkStr (Q + 1) l[i].2.1) l[i].2.2.1) l[i].2.2.2.1); omega) | (show (nxLs mkBool (nxLs mkStr (nxLs mkStr (Q + 1) l[i].2.1) l[i].2.2.1) l[i].2.2.2.1) ≤ _; omega) | (show 0 ≤ (nxLs mPut (nxLs mkBool (nxLs mkStr (nxLs mkStr (Q + 1) l[i].2.1) l[i].2.2.1) l[i].2.2.2.1) l[i].2.2.2.2); omega) | (show (nxLs mPut (nxLs mkBool (nxLs mkStr (nxLs mkStr (Q + 1) l[i].2.1) l[i].2.2.1) l[i].2.2.2.1) l[i].2.2.2.2) ≤ _; omega)
   refine sw_seq (xg hP 8 [] rfl ?_ ?_)
   ·simp [conj, hget, hgd, hgi, hcl, List.getElem?_set, hlt]
    repeat' apply And.intro
    all_goals first | trivial | assumption | omega | (show 0 ≤ (Q + 1); omega) | (show (Q + 1) ≤ _; omega) | (show 0 ≤ (nxLs mkStr (Q + 1) l[i].2.1); omega) | (show (nxLs mkStr (Q + 1) l[i].2.1) ≤ _; omega) | (show 0 ≤ (nxLs mkStr (nxLs mkStr (Q + 1) l[i].2.1) l[i].2.2.1); omega) | (show (nxLs mkStr (nxLs mkStr (Q + 1) l[i].2.1) l[i].2.2.1) ≤ _; omega) | (show 0 ≤ (nxLs mkBool (nxLs mkStr (nxLs mkStr (Q + 1) l[i].2.1) l[i].2.2.1) l[i].2.2.2.1); omega) | (show (nxLs mkBool (nxLs mkStr (nxLs mkStr (Q + 1) l[i].2.1) l[i].2.2.1) l[i].2.2.2.1) ≤ _; omega) | (show 0 ≤ (nxLs mPut (nxLs mkBool (nxLs mkStr (nxLs mkStr (Q + 1) l[i].2.1) l[i].2.2.1) l[i].2.2.2.1) l[i].2.2.2.2); omega) | (show (nxLs mPut (nxLs mkBool (nxLs mkStr (nxLs mkStr (Q + 1) l[i].2.1) l[i].2.2.1) l[i].2.2.2.1) l[i].2.2.2.2) ≤ _; omega)
   refine xg hP 9 [] rfl ?_ ?_
   ·simp [conj, hget, hgd, hgi, hcl, List.getElem?_set, hlt]
    repeat' apply And.intro
    all_goals first | trivial | assumption | omega | (show 0 ≤ (Q + 1); omega) | (show (Q + 1) ≤ _; omega) | (show 0 ≤ (nxLs mkStr (Q + 1) l[i].2.1); omega) | (show (nxLs mkStr (Q + 1) l[i].2.1) ≤ _; omega) | (show 0 ≤ (nxLs mkStr (nxLs mkStr (Q + 1) l[i].2.1) l[i].2.2.1); omega) | (show (nxLs mkStr (nxLs mkStr (Q + 1) l[i].2.1) l[i].2.2.1) ≤ _; omega) | (show 0 ≤ (nxLs mkBool (nxLs mkStr (nxLs mkStr (Q + 1) l[i].2.1) l[i].2.2.1) l[i].2.2.2.1); omega) | (show (nxLs mkBool (nxLs mkStr (nxLs mkStr (Q + 1) l[i].2.1) l[i].2.2.1) l[i].2.2.2.1) ≤ _; omega) | (show 0 ≤ (nxLs mPut (nxLs mkBool (nxLs mkStr (nxLs mkStr (Q + 1) l[i].2.1) l[i].2.2.1) l[i].2.2.2.1) l[i].2.2.2.2); omega) | (show (nxLs mPut (nxLs mkBool (nxLs mkStr (nxLs mkStr (Q + 1) l[i].2.1) l[i].2.2.1) l[i].2.2.2.1) l[i].2.2.2.2) ≤ _; omega)
   refine xg hP 10 [] rfl ?_ ?_
   ·simp only [cj, cl]
    try dsimp only [Ty.den, Ty.dflt]
    repeat' apply And.intro
    all_goals first | rfl | omega | assumption | trivial
   refine ⟨i + 1, ?_, ?_, ent_ok rfl ?_⟩
   ·exact hlt
   ·omega
   ·rw [hnn]
    simp [conj, hget, hgd, hgi, hcl, List.getElem?_set, hlt]
    repeat' apply And.intro
    all_goals first | rfl | exact hnx | omega
  ·have hcl := mk_clen (m := mDsk) (k := k) hi
   obtain rfl : i = l.length := by have h : ¬ ((i : Nat) : Int) < ((mkLs mDsk k (l.take i) ++ l.drop i).length : Nat) := of_decide_eq_false c2; omega
   refine sw_exit (sw_seq (xr hP 4 rfl (sw_ret ⟨.inl rfl, _, rfl, ?_⟩)))
   simp [conj]
def cHdStr : Ctr := ⟨49, [.val false (.sl .str) (.all .b), .val false TI pF], fun x => 0 ≤ x.2.1 ∧ nxLs mkStr x.2.1 x.1 ≤ 1000000000, fun x => (sInt .i64 (hdLs mkStr x.2.1 x.1), [])⟩
theorem cHdStr_ok : CtrOk Proofs.Tryz.prog cHdStr := by
 have hP := ((Prg.none ttok mtok).and cMkT_ok)
 refine ctr_of_body hP cHdStr (fn := Proofs.Tryz.f49) (rts := [.tmp 4]) Proofs.Tryz.func49 rfl (by kernel_rfl) rfl rfl ?_
 rintro ⟨(l : List Str), (k : Int), ⟨⟩⟩ ⟨hdl, _⟩ ⟨h0, h1⟩
 try dsimp only [Ty.den, Mode.den, mdens] at h0
 try dsimp only [Ty.den, Mode.den, mdens] at h1
 refine ⟨rfl, ?_⟩
 have hml : l.length ≤ 140737488355328 := hdl.1
 replace h0 : 0 ≤ k := h0
 replace h1 : nxLs mkStr k l ≤ 1000000000 := h1
 refine sw_seq (xr hP 1 rfl (sw_seq (sw_seq (xr hP 2 rfl (sw_block (sw_loop (ι := Nat × Int) (fun ⟨i, q⟩ => ⟨[.v false [.d (.sl .str) (.all .b) l], sInt .i64 q, .j, .j, .j, sInt .i64 (i : Int), .j, .j, .j, .j, .j, .j, .j, .j, .j, .j, .j, .j, .j, .j, .j, .j], [], 2, []⟩) (fun ⟨i, q⟩ => l.length - i) (fun ⟨i, q⟩ => i ≤ l.length ∧ 0 ≤ q ∧ hdLs mkStr q (l.drop i) = hdLs mkStr k l ∧ nxLs mkStr q (l.drop i) ≤ 1000000000) (0, k) ⟨?_, ?_⟩ ?_))))))
 ·exact ⟨Nat.zero_le _, h0, rfl, h1⟩
 ·refine ent_ok rfl ?_
  simp [conj]
 ·rintro ⟨i, q⟩ ⟨hi, hq, hgo, hb⟩
  refine sw_seq (sw_seq (xr hP 3 rfl (sw_cond rfl (fun c2 => ?_) (fun c2 => ?_))))
  ·have hlt : i < l.length := by simpa using c2
   obtain ⟨s1, s2, s3⟩ := nx_drop mkStr_ok (q := q) hlt
   rw [s1] at hb
   have hp0 : ¬ q + 1 < 0 := by omega
   replace s2 : q ≤ q + 1 := s2
   replace s3 : q + 1 ≤ nxLs mkStr (q + 1) (l.drop (i + 1)) := s3
   replace hb : nxLs mkStr (q + 1) (l.drop (i + 1)) ≤ 1000000000 := hb
   refine sw_skip (sw_seq (sw_block (sw_seq (sw_seq (xg hP 4 [] rfl ?_ ?_)))))
   ·simp [conj, gE hlt]
    repeat' apply And.intro
    all_goals first | trivial | assumption | omega | (show q ≤ 1099511627776; omega)
   refine sw_cond rfl (fun c4 => ?_) (fun c4 => ?_)
   ·replace c4 : ¬ l[i] = mkT q := by simpa [gE hlt] using c4
    have hn : mkStr.hd q l[i] < 0 := by simp [mkStr, mkPair, mkI, mkStr, mkBool, mkOne, mkList, mkNo, c4, hp0]
    refine sw_seq (xg hP 5 [] rfl ?_ ?_)
    ·simp [conj, gE hlt]
     repeat' apply And.intro
     all_goals first | trivial | assumption | omega | (show q ≤ 1099511627776; omega)
    refine sw_ret ⟨.inl rfl, _, rfl, ?_⟩
    simp [conj]
    exact (hd_hit hlt hgo hn).symm
   ·replace c4 : l[i] = mkT q := by simpa [gE hlt] using c4
    have hv : mkStr.hd q l[i] = q + 1 := by simp [mkStr, mkPair, mkI, mkStr, mkBool, mkOne, mkList, mkNo, c4, hp0]
    refine sw_skip (xg hP 5 [] rfl ?_ ?_)
    ·simp [conj, gE hlt]
     repeat' apply And.intro
     all_goals first | trivial | assumption | omega | (show q ≤ 1099511627776; omega)
    refine xg hP 6 [] rfl ?_ ?_
    ·simp only [cj, cl]
     try dsimp only [Ty.den, Ty.dflt]
     repeat' apply And.intro
     all_goals first | rfl | omega | assumption | trivial
    refine ⟨(i + 1, q + 1), ?_, ?_, ent_ok rfl ?_⟩
    ·have hnn : ¬ mkStr.hd q l[i] < 0 := by rw [hv]; omega
     have hgn := hd_next hlt hgo hnn
     have hpo := hd_pos mkStr_ok hnn
     have hbn : nxLs mkStr (q + 1) (l.drop (i + 1)) ≤ 1000000000 := by rw [← hv, hpo]; exact hb
     rw [hv] at hgn
     exact ⟨hlt, by show 0 ≤ q + 1; omega, hgn, hbn⟩
    ·show l.length - (i + 1) < l.length - i
     omega
    ·simp [conj, gE hlt]
  ·obtain rfl : i = l.length := by simp at c2; omega
   refine sw_exit (sw_seq (xr hP 4 rfl (sw_ret ⟨.inl rfl, _, rfl, ?_⟩)))
   simp [conj]
   exact (hd_end hgo).symm
def cHdBool : Ctr := ⟨50, [.val false (.sl .bool) (.all .b), .val false TI pF], fun x => 0 ≤ x.2.1 ∧ nxLs mkBool x.2.1 x.1 ≤ 1000000000, fun x => (sInt .i64 (hdLs mkBool x.2.1 x.1), [])⟩
theorem cHdBool_ok : CtrOk Proofs.Tryz.prog cHdBool := by
 have hP := (Prg.none ttok mtok)
 refine ctr_of_body hP cHdBool (fn := Proofs.Tryz.f50) (rts := [.tmp 4]) Proofs.Tryz.func50 rfl (by kernel_rfl) rfl rfl ?_
 rintro ⟨(l : List Bool), (k : Int), ⟨⟩⟩ ⟨hdl, _⟩ ⟨h0, h1⟩
 try dsimp only [Ty.den, Mode.den, mdens] at h0
 try dsimp only [Ty.den, Mode.den, mdens] at h1
 refine ⟨rfl, ?_⟩
 have hml : l.length ≤ 140737488355328 := hdl.1
 replace h0 : 0 ≤ k := h0
 replace h1 : nxLs mkBool k l ≤ 1000000000 := h1
 refine sw_seq (xr hP 1 rfl (sw_seq (sw_seq (xr hP 2 rfl (sw_block (sw_loop (ι := Nat × Int) (fun ⟨i, q⟩ => ⟨[.v false [.d (.sl .bool) (.all .b) l], sInt .i64 q, .j, .j, .j, sInt .i64 (i : Int), .j, .j, .j, .j, .j, .j, .j, .j, .j, .j, .j, .j, .j, .j, .j, .j, .j], [], 2, []⟩) (fun ⟨i, q⟩ => l.length - i) (fun ⟨i, q⟩ => i ≤ l.length ∧ 0 ≤ q ∧ hdLs mkBool q (l.drop i) = hdLs mkBool k l ∧ nxLs mkBool q (l.drop i) ≤ 1000000000) (0, k) ⟨?_, ?_⟩ ?_))))))
 ·exact ⟨Nat.zero_le _, h0, rfl, h1⟩
 ·refine ent_ok rfl ?_
  simp [conj]
 ·rintro ⟨i, q⟩ ⟨hi, hq, hgo, hb⟩
  refine sw_seq (sw_seq (xr hP 3 rfl (sw_cond rfl (fun c2 => ?_) (fun c2 => ?_))))
  ·have hlt : i < l.length := by simpa using c2
   obtain ⟨s1, s2, s3⟩ := nx_drop mkBool_ok (q := q) hlt
   rw [s1] at hb
   have hp0 : ¬ q + 1 < 0 := by omega
   replace s2 : q ≤ q + 1 := s2
   replace s3 : q + 1 ≤ nxLs mkBool (q + 1) (l.drop (i + 1)) := s3
   replace hb : nxLs mkBool (q + 1) (l.drop (i + 1)) ≤ 1000000000 := hb
   refine sw_skip (sw_seq (sw_block (sw_seq (sw_seq (xg hP 4 [] rfl ?_ ?_)))))
   ·simp [conj, gE hlt]
    repeat' apply And.intro
    all_goals first | trivial | assumption | omega
   refine sw_cond rfl (fun c4 => ?_) (fun c4 => ?_)
   ·replace c4 : ¬ l[i] = mkB q := by simpa [gE hlt, mkB] using c4
    have hn : mkBool.hd q l[i] < 0 := by simp [mkBool, mkPair, mkI, mkStr, mkBool, mkOne, mkList, mkNo, c4, hp0]
    refine sw_seq (xg hP 5 [] rfl ?_ ?_)
    ·simp [conj, gE hlt]
     repeat' apply And.intro
     all_goals first | trivial | assumption | omega
    refine sw_ret ⟨.inl rfl, _, rfl, ?_⟩
    simp [conj]
    exact (hd_hit hlt hgo hn).symm
   ·replace c4 : l[i] = mkB q := by simpa [gE hlt, mkB] using c4
    have hv : mkBool.hd q l[i] = q + 1 := by simp [mkBool, mkPair, mkI, mkStr, mkBool, mkOne, mkList, mkNo, c4, hp0]
    refine sw_skip (xg hP 5 [] rfl ?_ ?_)
    ·simp [conj, gE hlt]
     repeat' apply And.intro
     all_goals first | trivial | assumption | omega
    refine xg hP 6 [] rfl ?_ ?_
    ·simp only [cj, cl]
     try dsimp only [Ty.den, Ty.dflt]
     repeat' apply And.intro
     all_goals first | rfl | omega | assumption | trivial
    refine ⟨(i + 1, q + 1), ?_, ?_, ent_ok rfl ?_⟩
    ·have hnn : ¬ mkBool.hd q l[i] < 0 := by rw [hv]; omega
     have hgn := hd_next hlt hgo hnn
     have hpo := hd_pos mkBool_ok hnn
     have hbn : nxLs mkBool (q + 1) (l.drop (i + 1)) ≤ 1000000000 := by rw [← hv, hpo]; exact hb
     rw [hv] at hgn
     exact ⟨hlt, by show 0 ≤ q + 1; omega, hgn, hbn⟩
    ·show l.length - (i + 1) < l.length - i
     omega
    ·simp [conj, gE hlt]
  ·obtain rfl : i = l.length := by simp at c2; omega
   refine sw_exit (sw_seq (xr hP 4 rfl (sw_ret ⟨.inl rfl, _, rfl, ?_⟩)))
   simp [conj]
   exact (hd_end hgo).symm
def cHdPut : Ctr := ⟨51, [.val false (.sl T_Put) (.all .b), .val false TI pF], fun x => 0 ≤ x.2.1 ∧ nxLs mPut x.2.1 x.1 ≤ 1000000000, fun x => (sInt .i64 (hdLs mPut x.2.1 x.1), [])⟩
theorem cHdPut_ok : CtrOk Proofs.Tryz.prog cHdPut := by
 have hP := ((Prg.none ttok mtok).and cMkT_ok)
 refine ctr_of_body hP cHdPut (fn := Proofs.Tryz.f51) (rts := [.tmp 4]) Proofs.Tryz.func51 rfl (by kernel_rfl) rfl rfl ?_
 rintro ⟨(l : List Put), (k : Int), ⟨⟩⟩ ⟨hdl, _⟩ ⟨h0, h1⟩
 try dsimp only [Ty.den, Mode.den, mdens] at h0
 try dsimp only [Ty.den, Mode.den, mdens] at h1
 refine ⟨rfl, ?_⟩
 have hml : l.length ≤ 140737488355328 := hdl.1
 replace h0 : 0 ≤ k := h0
 replace h1 : nxLs mPut k l ≤ 1000000000 := h1
 refine sw_seq (xr hP 1 rfl (sw_seq (sw_seq (xr hP 2 rfl (sw_block (sw_loop (ι := Nat × Int) (fun ⟨i, q⟩ => ⟨[.v false [.d (.sl T_Put) (.all .b) l], sInt .i64 q, .j, .j, .j, sInt .i64 (i : Int), .j, .j, .j, .j, .j, .j, .j, .j, .j, .j, .j, .j, .j, .j, .j, .j, .j, .j, .j, .j, .j, .j, .j, .j, .j, .j, .j, .j, .j, .j, .j, .j, .j, .j, .j, .j, .j], [], 2, []⟩) (fun ⟨i, q⟩ => l.length - i) (fun ⟨i, q⟩ => i ≤ l.length ∧ 0 ≤ q ∧ hdLs mPut q (l.drop i) = hdLs mPut k l ∧ nxLs mPut q (l.drop i) ≤ 1000000000) (0, k) ⟨?_, ?_⟩ ?_))))))
 ·exact ⟨Nat.zero_le _, h0, rfl, h1⟩
 ·refine ent_ok rfl ?_
  simp [conj]
 ·rintro ⟨i, q⟩ ⟨hi, hq, hgo, hb⟩
  refine sw_seq (sw_seq (xr hP 3 rfl (sw_cond rfl (fun c2 => ?_) (fun c2 => ?_))))
  ·have hlt : i < l.length := by simpa using c2
   obtain ⟨s1, s2, s3⟩ := nx_drop mPut_ok (q := q) hlt
   rw [s1] at hb
   have hp0 : ¬ q + 1 < 0 := by omega
   have hp1 : ¬ q + 1 + 1 < 0 := by omega
   replace s2 : q ≤ q + 1 + 1 + 1 := s2
   replace s3 : q + 1 + 1 + 1 ≤ nxLs mPut (q + 1 + 1 + 1) (l.drop (i + 1)) := s3
   replace hb : nxLs mPut (q + 1 + 1 + 1) (l.drop (i + 1)) ≤ 1000000000 := hb
   refine sw_skip (sw_seq (sw_block (sw_seq (sw_seq (xg hP 4 [] rfl ?_ ?_)))))
   ·simp [conj, gE hlt]
    repeat' apply And.intro
    all_goals first | trivial | assumption | omega | (show q + 1 + 1 ≤ 1099511627776; omega)
   refine sw_cond rfl (fun c4 => ?_) (fun c4 => ?_)
   ·replace c4 : ¬ l[i].1 = mkB q := by simpa [gE hlt, mkB] using c4
    have hn : mPut.hd q l[i] < 0 := by simp [mPut, mkPair, mkI, mkStr, mkBool, mkOne, mkList, mkNo, c4, hp0, hp1]
    refine sw_seq (xg hP 5 [] rfl ?_ ?_)
    ·simp [conj, gE hlt]
     repeat' apply And.intro
     all_goals first | trivial | assumption | omega | (show q + 1 + 1 ≤ 1099511627776; omega)
    refine sw_ret ⟨.inl rfl, _, rfl, ?_⟩
    simp [conj]
    exact (hd_hit hlt hgo hn).symm
   ·replace c4 : l[i].1 = mkB q := by simpa [gE hlt, mkB] using c4
    refine sw_skip (sw_seq (xg hP 5 [] rfl ?_ ?_))
    ·simp [conj, gE hlt]
     repeat' apply And.intro
     all_goals first | trivial | assumption | omega | (show q + 1 + 1 ≤ 1099511627776; omega)
    refine sw_seq (sw_seq (xg hP 6 [] rfl ?_ ?_))
    ·simp [conj, gE hlt]
     repeat' apply And.intro
     all_goals first | trivial | assumption | omega | (show q + 1 + 1 ≤ 1099511627776; omega)
    refine sw_cond rfl (fun c7 => ?_) (fun c7 => ?_)
    ·replace c7 : ¬ l[i].2.1 = q + 1 := by simpa [gE hlt] using c7
     have hn : mPut.hd q l[i] < 0 := by simp [mPut, mkPair, mkI, mkStr, mkBool, mkOne, mkList, mkNo, c4, c7, hp0, hp1]
     refine sw_seq (xg hP 7 [] rfl ?_ ?_)
     ·simp [conj, gE hlt]
      repeat' apply And.intro
      all_goals first | trivial | assumption | omega | (show q + 1 + 1 ≤ 1099511627776; omega)
     refine sw_ret ⟨.inl rfl, _, rfl, ?_⟩
     simp [conj]
     exact (hd_hit hlt hgo hn).symm
    ·replace c7 : l[i].2.1 = q + 1 := by simpa [gE hlt] using c7
     refine sw_skip (sw_seq (xg hP 7 [] rfl ?_ ?_))
     ·simp [conj, gE hlt]
      repeat' apply And.intro
      all_goals first | trivial | assumption | omega | (show q + 1 + 1 ≤ 1099511627776; omega)
     refine sw_seq (sw_seq (xg hP 8 [] rfl ?_ ?_))
     ·simp [conj, gE hlt]
      repeat' apply And.intro
      all_goals first | trivial | assumption | omega | (show q + 1 + 1 ≤ 1099511627776; omega)
     refine sw_cond rfl (fun c10 => ?_) (fun c10 => ?_)
     ·replace c10 : ¬ l[i].2.2 = mkT (q + 1 + 1) := by simpa [gE hlt] using c10
      have hn : mPut.hd q l[i] < 0 := by simp [mPut, mkPair, mkI, mkStr, mkBool, mkOne, mkList, mkNo, c4, c7, c10, hp0, hp1]
      refine sw_seq (xg hP 9 [] rfl ?_ ?_)
      ·simp [conj, gE hlt]
       repeat' apply And.intro
       all_goals first | trivial | assumption | omega | (show q + 1 + 1 ≤ 1099511627776; omega)
      refine sw_ret ⟨.inl rfl, _, rfl, ?_⟩
      simp [conj]
      exact (hd_hit hlt hgo hn).symm
     ·replace c10 : l[i].2.2 = mkT (q + 1 + 1) := by simpa [gE hlt] using c10
      have hv : mPut.hd q l[i] = q + 1 + 1 + 1 := by simp [mPut, mkPair, mkI, mkStr, mkBool, mkOne, mkList, mkNo, c4, c7, c10, hp0, hp1]
      refine sw_skip (xg hP 9 [] rfl ?_ ?_)
      ·simp [conj, gE hlt]
       repeat' apply And.intro
       all_goals first | trivial | assumption | omega | (show q + 1 + 1 ≤ 1099511627776; omega)
      refine xg hP 10 [] rfl ?_ ?_
      ·simp only [cj, cl]
       try dsimp only [Ty.den, Ty.dflt]
       repeat' apply And.intro
       all_goals first | rfl | omega | assumption | trivial
      refine ⟨(i + 1, q + 1 + 1 + 1), ?_, ?_, ent_ok rfl ?_⟩
      ·have hnn : ¬ mPut.hd q l[i] < 0 := by rw [hv]; omega
       have hgn := hd_next hlt hgo hnn
       have hpo := hd_pos mPut_ok hnn
       have hbn : nxLs mPut (q + 1 + 1 + 1) (l.drop (i + 1)) ≤ 1000000000 := by rw [← hv, hpo]; exact hb
       rw [hv] at hgn
       exact ⟨hlt, by show 0 ≤ q + 1 + 1 + 1; omega, hgn, hbn⟩
      ·show l.length - (i + 1) < l.length - i
       omega
      ·simp [conj, gE hlt]
  ·obtain rfl : i = l.length := by simp at c2; omega
   refine sw_exit (sw_seq (xr hP 4 rfl (sw_ret ⟨.inl rfl, _, rfl, ?_⟩)))
   simp [conj]
   exact (hd_end hgo).symm
end Go.Sx

namespace Go.Sx
open Go
def noD (d : Dsk) : Bool := !rdV d
def stripeV (ds : List Dsk) : Bool := poolV (ds.length : Int) && !(ds.any noD)
def keepA (ks : List Int) (i : Nat) : Int := if i < ks.length ∧ 0 < ks.getD i 0 then ks.getD i 0 else 0
def crashGo (ks : List Int) : Nat → List Dsk → List Dsk
 | _, [] => []
 | i, d :: r => crashV d (keepA ks i) :: crashGo ks (i + 1) r
def zR : Root_ := (0, [])
def pcrashV (p : Pol) (ks : List Int) : Pol := if stripeV p.1 = true then (crashGo ks 0 p.1, false, zR, zR) else ([], false, zR, zR)
theorem keepA_nn (ks : List Int) (i : Nat) : 0 ≤ keepA ks i := by
 unfold keepA
 split
 ·omega
 ·exact Int.le_refl _
theorem keepA_max {ks : List Int} {i : Nat} (h : i < ks.length) : sMax 0 ks[i] = keepA ks i := by
 unfold keepA sMax
 rw [List.getD_eq_getElem?_getD, gE h]
 by_cases h2 : 0 < ks[i]
 ·simp [h2, h]
 ·simp [h2]
theorem keepA_out {ks : List Int} {i : Nat} (h : ¬ i < ks.length) : keepA ks i = 0 := if_neg fun x => h x.1
theorem crashGo_app {ks : List Int} : ∀ {a b : List Dsk} {i : Nat}, crashGo ks i (a ++ b) = crashGo ks i a ++ crashGo ks (i + a.length) b := by
 intro a
 induction a with
 | nil => intro b i; rfl
 | cons d r ih =>
  intro b i
  simp only [List.cons_append, crashGo, ih, List.length_cons]
  rw [show i + 1 + r.length = i + (r.length + 1) by omega]
theorem crashGo_len {ks : List Int} : ∀ {l : List Dsk} {i : Nat}, (crashGo ks i l).length = l.length := by
 intro l
 induction l with
 | nil => intro i; rfl
 | cons d r ih => intro i; simp only [crashGo, List.length_cons, ih]
theorem crash_next {ks : List Int} {ds : List Dsk} {i : Nat} (h : i < ds.length) : crashGo ks 0 (ds.take i) ++ [crashV ds[i] (keepA ks i)] = crashGo ks 0 (ds.take (i + 1)) := by
 rw [List.take_succ_eq_append_getElem h, crashGo_app]
 congr 1
 simp only [crashGo]
 rw [List.length_take, Nat.min_eq_left (by omega), Nat.zero_add]
theorem crashGo_fit {ks : List Int} : ∀ {l : List Dsk} {i : Nat}, ∀ d ∈ crashGo ks i l, FitD d := by
 intro l
 induction l with
 | nil => intro i d h; cases h
 | cons x r ih =>
  intro i d h
  simp only [crashGo] at h
  rcases List.mem_cons.1 h with rfl | h
  ·exact crashV_fit
  ·exact ih d h
theorem stripe_len {ds : List Dsk} (h : stripeV ds = true) : ds.length ≤ 4 := by
 simp only [stripeV, poolV, inV, Bool.and_eq_true, decide_eq_true_eq] at h
 omega
theorem stripe_all {ds : List Dsk} (h : stripeV ds = true) : ∀ d ∈ ds, rdV d = true := by
 simp only [stripeV, Bool.and_eq_true, Bool.not_eq_true', List.any_eq_false] at h
 intro d hd
 have := h.2 d hd
 simpa [noD] using this
def FitDs (l : List Dsk) : Prop := l.length ≤ 4 ∧ ∀ d ∈ l, FitD d
def FitPo (p : Pol) : Prop := FitDs p.1 ∧ FitV p.2.2.1.2 ∧ FitV p.2.2.2.2
theorem nx_fitD {d : Dsk} (h : FitD d) : mDsk.nx 0 d ≤ 147 := by
 obtain ⟨a, b, c, e⟩ := h
 show nxLs mPut (nxLs mkBool (nxLs mkStr (nxLs mkStr (0 + 1) d.2.1) d.2.2.1) d.2.2.2.1) d.2.2.2.2 ≤ _
 rw [nx_puts]
 unfold mkBool mkStr
 rw [nx_one, nx_one, nx_one]
 omega
theorem nx_fitDs : ∀ {l : List Dsk} {k : Int}, (∀ d ∈ l, FitD d) → nxLs mDsk k l ≤ k + 147 * (l.length : Int) := by
 intro l
 induction l with
 | nil => intro k _; show k ≤ k + 147 * (0 : Int); omega
 | cons x r ih =>
  intro k h
  have h1 := nx_fitD (h x List.mem_cons_self)
  have h2 := ih (k := mDsk.nx k x) fun d hd => h d (List.mem_cons_of_mem _ hd)
  have h3 := nx_dsk k x
  show nxLs mDsk (mDsk.nx k x) r ≤ _
  rw [List.length_cons]
  push_cast
  omega
theorem nx_fitV {l : List Vol_} {k : Int} (h : FitV l) : nxLs mVol k l ≤ k + 155 := by
 have := nx_vols (k := k) h.2
 have := h.1
 omega
theorem nx_fitPo {p : Pol} (h : FitPo p) : 1 ≤ mPol.nx 1 p ∧ mPol.nx 1 p ≤ 1000 := by
 refine ⟨nx_pos mPol_ok p, ?_⟩
 obtain ⟨⟨a, b⟩, c, d⟩ := h
 have h1 := nx_fitDs (k := 1) b
 have h2 := nx_fitV (k := nxLs mDsk 1 p.1) c
 have h3 := nx_fitV (k := nxLs mVol (nxLs mDsk 1 p.1) p.2.2.1.2) d
 show nxLs mVol (nxLs mVol (nxLs mDsk 1 p.1) p.2.2.1.2) p.2.2.2.2 ≤ _
 omega
theorem pcrash_fit {p : Pol} {ks : List Int} : FitPo (pcrashV p ks) := by
 unfold pcrashV
 split
 ·rename_i h
  exact ⟨⟨by show (crashGo ks 0 p.1).length ≤ 4; rw [crashGo_len]; exact stripe_len h, crashGo_fit⟩, fitV_nil, fitV_nil⟩
 ·exact ⟨⟨Nat.zero_le _, fun d h => by cases h⟩, fitV_nil, fitV_nil⟩
theorem all_any {l : List Dsk} : l.all rdV = !(l.any noD) := by
 induction l with
 | nil => rfl
 | cons d r ih => simp only [List.all_cons, List.any_cons, ih, noD, Bool.not_or, Bool.not_not]
end Go.Sx

namespace Go.Sx
open Go
set_option maxRecDepth 100000
set_option linter.unusedVariables false
set_option linter.unusedSimpArgs false
set_option maxHeartbeats 2000000
def cHdDs : Ctr := ⟨31, [.val false (.sl T_Disk) (.all .b), .val false TI pF], fun x => 0 ≤ x.2.1 ∧ nxLs mDsk x.2.1 x.1 ≤ 1000000000, fun x => (sInt .i64 (hdLs mDsk x.2.1 x.1), [])⟩
theorem cHdDs_ok : CtrOk Proofs.Tryz.prog cHdDs := by
 have hP := ((((Prg.none ttok mtok).and cHdStr_ok).and cHdBool_ok).and cHdPut_ok)
 refine ctr_of_body hP cHdDs (fn := Proofs.Tryz.f31) (rts := [.tmp 4]) Proofs.Tryz.func31 rfl (by kernel_rfl) rfl rfl ?_
 rintro ⟨(l : List Dsk), (k : Int), ⟨⟩⟩ ⟨hdl, _⟩ ⟨h0, h1⟩
 try dsimp only [Ty.den, Mode.den, mdens] at h0
 try dsimp only [Ty.den, Mode.den, mdens] at h1
 refine ⟨rfl, ?_⟩
 have hml : l.length ≤ 140737488355328 := hdl.1
 replace h0 : 0 ≤ k := h0
 replace h1 : nxLs mDsk k l ≤ 1000000000 := h1
 refine sw_seq (xr hP 1 rfl (sw_seq (sw_seq (xr hP 2 rfl (sw_block (sw_loop (ι := Nat × Int) (fun ⟨i, q⟩ => ⟨[.v false [.d (.sl T_Disk) (.all .b) l], sInt .i64 q, .j, .j, .j, sInt .i64 (i : Int), .j, .j, .j, .j, .j, .j, .j, .j, .j, .j, .j, .j, .j, .j, .j, .j, .j, .j, .j, .j, .j, .j, .j, .j, .j, .j, .j, .j, .j, .j, .j, .j, .j, .j, .j, .j, .j, .j, .j, .j, .j, .j, .j, .j, .j, .j, .j, .j, .j, .j, .j, .j], [], 2, []⟩) (fun ⟨i, q⟩ => l.length - i) (fun ⟨i, q⟩ => i ≤ l.length ∧ 0 ≤ q ∧ hdLs mDsk q (l.drop i) = hdLs mDsk k l ∧ nxLs mDsk q (l.drop i) ≤ 1000000000) (0, k) ⟨?_, ?_⟩ ?_))))))
 ·exact ⟨Nat.zero_le _, h0, rfl, h1⟩
 ·refine ent_ok rfl ?_
  simp [conj]
 ·rintro ⟨i, q⟩ ⟨hi, hq, hgo, hb⟩
  refine sw_seq (sw_seq (xr hP 3 rfl (sw_cond rfl (fun c2 => ?_) (fun c2 => ?_))))
  ·have hlt : i < l.length := by simpa using c2
   obtain ⟨s1, s2, s3⟩ := nx_drop mDsk_ok (q := q) hlt
   rw [s1] at hb
   have hp0 : ¬ q + 1 < 0 := by omega
   have s4 : (q + 1) ≤ (nxLs mkStr (q + 1) l[i].2.1) := (mkList_ok mkStr_ok).ge _ _
   have s5 : (nxLs mkStr (q + 1) l[i].2.1) ≤ (nxLs mkStr (nxLs mkStr (q + 1) l[i].2.1) l[i].2.2.1) := (mkList_ok mkStr_ok).ge _ _
   have s6 : (nxLs mkStr (nxLs mkStr (q + 1) l[i].2.1) l[i].2.2.1) ≤ (nxLs mkBool (nxLs mkStr (nxLs mkStr (q + 1) l[i].2.1) l[i].2.2.1) l[i].2.2.2.1) := (mkList_ok mkBool_ok).ge _ _
   have s7 : (nxLs mkBool (nxLs mkStr (nxLs mkStr (q + 1) l[i].2.1) l[i].2.2.1) l[i].2.2.2.1) ≤ (nxLs mPut (nxLs mkBool (nxLs mkStr (nxLs mkStr (q + 1) l[i].2.1) l[i].2.2.1) l[i].2.2.2.1) l[i].2.2.2.2) := (mkList_ok mPut_ok).ge _ _
   replace s3 : (nxLs mPut (nxLs mkBool (nxLs mkStr (nxLs mkStr (q + 1) l[i].2.1) l[i].2.2.1) l[i].2.2.2.1) l[i].2.2.2.2) ≤ nxLs mDsk ((nxLs mPut (nxLs mkBool (nxLs mkStr (nxLs mkStr (q + 1) l[i].2.1) l[i].2.2.1) l[i].2.2.2.1) l[i].2.2.2.2)) (l.drop (i + 1)) := s3
   have hb2 : nxLs mDsk ((nxLs mPut (nxLs mkBool (nxLs mkStr (nxLs mkStr (q + 1) l[i].2.1) l[i].2.2.1) l[i].2.2.2.1) l[i].2.2.2.2)) (l.drop (i + 1)) ≤ 1000000000 := hb
   refine sw_skip (sw_seq (sw_block (sw_seq (sw_seq (xg hP 4 [] rfl ?_ ?_)))))
   ·simp [conj, gE hlt]
    repeat' apply And.intro
    all_goals first | trivial | assumption | omega | (show 0 ≤ (q + 1); omega) | (show nxLs mkStr (q + 1) l[i].2.1 ≤ _; omega) | (show 0 ≤ (hdLs mkStr (q + 1) l[i].2.1); rw [e0]; omega) | (show nxLs mkStr (hdLs mkStr (q + 1) l[i].2.1) l[i].2.2.1 ≤ _; rw [e0]; omega) | (show 0 ≤ (hdLs mkStr (hdLs mkStr (q + 1) l[i].2.1) l[i].2.2.1); rw [e1, e0]; omega) | (show nxLs mkBool (hdLs mkStr (hdLs mkStr (q + 1) l[i].2.1) l[i].2.2.1) l[i].2.2.2.1 ≤ _; rw [e1, e0]; omega) | (show 0 ≤ (hdLs mkBool (hdLs mkStr (hdLs mkStr (q + 1) l[i].2.1) l[i].2.2.1) l[i].2.2.2.1); rw [e2, e1, e0]; omega) | (show nxLs mPut (hdLs mkBool (hdLs mkStr (hdLs mkStr (q + 1) l[i].2.1) l[i].2.2.1) l[i].2.2.2.1) l[i].2.2.2.2 ≤ _; rw [e2, e1, e0]; omega)
   refine sw_cond rfl (fun c4 => ?_) (fun c4 => ?_)
   ·replace c4 : ¬ l[i].1 = q := by simpa [gE hlt] using c4
    have hn : mDsk.hd q l[i] < 0 := by simp [mDsk, mkPair, mkI, mkOne, mkList, mkNo, c4, hp0]
    refine sw_seq (xg hP 5 [] rfl ?_ ?_)
    ·simp [conj, gE hlt]
     repeat' apply And.intro
     all_goals first | trivial | assumption | omega | (show 0 ≤ (q + 1); omega) | (show nxLs mkStr (q + 1) l[i].2.1 ≤ _; omega) | (show 0 ≤ (hdLs mkStr (q + 1) l[i].2.1); rw [e0]; omega) | (show nxLs mkStr (hdLs mkStr (q + 1) l[i].2.1) l[i].2.2.1 ≤ _; rw [e0]; omega) | (show 0 ≤ (hdLs mkStr (hdLs mkStr (q + 1) l[i].2.1) l[i].2.2.1); rw [e1, e0]; omega) | (show nxLs mkBool (hdLs mkStr (hdLs mkStr (q + 1) l[i].2.1) l[i].2.2.1) l[i].2.2.2.1 ≤ _; rw [e1, e0]; omega) | (show 0 ≤ (hdLs mkBool (hdLs mkStr (hdLs mkStr (q + 1) l[i].2.1) l[i].2.2.1) l[i].2.2.2.1); rw [e2, e1, e0]; omega) | (show nxLs mPut (hdLs mkBool (hdLs mkStr (hdLs mkStr (q + 1) l[i].2.1) l[i].2.2.1) l[i].2.2.2.1) l[i].2.2.2.2 ≤ _; rw [e2, e1, e0]; omega)
    refine sw_ret ⟨.inl rfl, _, rfl, ?_⟩
    simp [conj]
    exact (hd_hit hlt hgo hn).symm
   ·replace c4 : l[i].1 = q := by simpa [gE hlt] using c4
    refine sw_skip (sw_seq (xg hP 5 [] rfl ?_ ?_))
    ·simp [conj, gE hlt]
     repeat' apply And.intro
     all_goals first | trivial | assumption | omega | (show 0 ≤ (q + 1); omega) | (show nxLs mkStr (q + 1) l[i].2.1 ≤ _; omega) | (show 0 ≤ (hdLs mkStr (q + 1) l[i].2.1); rw [e0]; omega) | (show nxLs mkStr (hdLs mkStr (q + 1) l[i].2.1) l[i].2.2.1 ≤ _; rw [e0]; omega) | (show 0 ≤ (hdLs mkStr (hdLs mkStr (q + 1) l[i].2.1) l[i].2.2.1); rw [e1, e0]; omega) | (show nxLs mkBool (hdLs mkStr (hdLs mkStr (q + 1) l[i].2.1) l[i].2.2.1) l[i].2.2.2.1 ≤ _; rw [e1, e0]; omega) | (show 0 ≤ (hdLs mkBool (hdLs mkStr (hdLs mkStr (q + 1) l[i].2.1) l[i].2.2.1) l[i].2.2.2.1); rw [e2, e1, e0]; omega) | (show nxLs mPut (hdLs mkBool (hdLs mkStr (hdLs mkStr (q + 1) l[i].2.1) l[i].2.2.1) l[i].2.2.2.1) l[i].2.2.2.2 ≤ _; rw [e2, e1, e0]; omega)
    refine sw_seq (xg hP 6 [] rfl ?_ ?_)
    ·simp [conj, gE hlt]
     repeat' apply And.intro
     all_goals first | trivial | assumption | omega | (show 0 ≤ (q + 1); omega) | (show nxLs mkStr (q + 1) l[i].2.1 ≤ _; omega) | (show 0 ≤ (hdLs mkStr (q + 1) l[i].2.1); rw [e0]; omega) | (show nxLs mkStr (hdLs mkStr (q + 1) l[i].2.1) l[i].2.2.1 ≤ _; rw [e0]; omega) | (show 0 ≤ (hdLs mkStr (hdLs mkStr (q + 1) l[i].2.1) l[i].2.2.1); rw [e1, e0]; omega) | (show nxLs mkBool (hdLs mkStr (hdLs mkStr (q + 1) l[i].2.1) l[i].2.2.1) l[i].2.2.2.1 ≤ _; rw [e1, e0]; omega) | (show 0 ≤ (hdLs mkBool (hdLs mkStr (hdLs mkStr (q + 1) l[i].2.1) l[i].2.2.1) l[i].2.2.2.1); rw [e2, e1, e0]; omega) | (show nxLs mPut (hdLs mkBool (hdLs mkStr (hdLs mkStr (q + 1) l[i].2.1) l[i].2.2.1) l[i].2.2.2.1) l[i].2.2.2.2 ≤ _; rw [e2, e1, e0]; omega)
    refine sw_seq (sw_seq (xg hP 7 [] rfl ?_ ?_))
    ·simp [conj, gE hlt]
     repeat' apply And.intro
     all_goals first | trivial | assumption | omega | (show 0 ≤ (q + 1); omega) | (show nxLs mkStr (q + 1) l[i].2.1 ≤ _; omega) | (show 0 ≤ (hdLs mkStr (q + 1) l[i].2.1); rw [e0]; omega) | (show nxLs mkStr (hdLs mkStr (q + 1) l[i].2.1) l[i].2.2.1 ≤ _; rw [e0]; omega) | (show 0 ≤ (hdLs mkStr (hdLs mkStr (q + 1) l[i].2.1) l[i].2.2.1); rw [e1, e0]; omega) | (show nxLs mkBool (hdLs mkStr (hdLs mkStr (q + 1) l[i].2.1) l[i].2.2.1) l[i].2.2.2.1 ≤ _; rw [e1, e0]; omega) | (show 0 ≤ (hdLs mkBool (hdLs mkStr (hdLs mkStr (q + 1) l[i].2.1) l[i].2.2.1) l[i].2.2.2.1); rw [e2, e1, e0]; omega) | (show nxLs mPut (hdLs mkBool (hdLs mkStr (hdLs mkStr (q + 1) l[i].2.1) l[i].2.2.1) l[i].2.2.2.1) l[i].2.2.2.2 ≤ _; rw [e2, e1, e0]; omega)
    refine sw_cond rfl (fun c8 => ?_) (fun c8 => ?_)
    ·replace c8 : (hdLs mkStr (q + 1) l[i].2.1) < 0 := by simpa [gE hlt] using c8
     have hn : mDsk.hd q l[i] < 0 := by simp [mDsk, mkPair, mkI, mkOne, mkList, mkNo, c4, c8, hp0]
     refine sw_seq (xg hP 8 [] rfl ?_ ?_)
     ·simp [conj, gE hlt]
      repeat' apply And.intro
      all_goals first | trivial | assumption | omega | (show 0 ≤ (q + 1); omega) | (show nxLs mkStr (q + 1) l[i].2.1 ≤ _; omega) | (show 0 ≤ (hdLs mkStr (q + 1) l[i].2.1); rw [e0]; omega) | (show nxLs mkStr (hdLs mkStr (q + 1) l[i].2.1) l[i].2.2.1 ≤ _; rw [e0]; omega) | (show 0 ≤ (hdLs mkStr (hdLs mkStr (q + 1) l[i].2.1) l[i].2.2.1); rw [e1, e0]; omega) | (show nxLs mkBool (hdLs mkStr (hdLs mkStr (q + 1) l[i].2.1) l[i].2.2.1) l[i].2.2.2.1 ≤ _; rw [e1, e0]; omega) | (show 0 ≤ (hdLs mkBool (hdLs mkStr (hdLs mkStr (q + 1) l[i].2.1) l[i].2.2.1) l[i].2.2.2.1); rw [e2, e1, e0]; omega) | (show nxLs mPut (hdLs mkBool (hdLs mkStr (hdLs mkStr (q + 1) l[i].2.1) l[i].2.2.1) l[i].2.2.2.1) l[i].2.2.2.2 ≤ _; rw [e2, e1, e0]; omega)
     refine sw_ret ⟨.inl rfl, _, rfl, ?_⟩
     simp [conj]
     exact (hd_hit hlt hgo hn).symm
    ·replace c8 : ¬ (hdLs mkStr (q + 1) l[i].2.1) < 0 := by simpa [gE hlt] using c8
     have e0 : (hdLs mkStr (q + 1) l[i].2.1) = nxLs mkStr (q + 1) l[i].2.1 := hd_pos (mkList_ok mkStr_ok) c8
     refine sw_skip (sw_seq (xg hP 8 [] rfl ?_ ?_))
     ·simp [conj, gE hlt]
      repeat' apply And.intro
      all_goals first | trivial | assumption | omega | (show 0 ≤ (q + 1); omega) | (show nxLs mkStr (q + 1) l[i].2.1 ≤ _; omega) | (show 0 ≤ (hdLs mkStr (q + 1) l[i].2.1); rw [e0]; omega) | (show nxLs mkStr (hdLs mkStr (q + 1) l[i].2.1) l[i].2.2.1 ≤ _; rw [e0]; omega) | (show 0 ≤ (hdLs mkStr (hdLs mkStr (q + 1) l[i].2.1) l[i].2.2.1); rw [e1, e0]; omega) | (show nxLs mkBool (hdLs mkStr (hdLs mkStr (q + 1) l[i].2.1) l[i].2.2.1) l[i].2.2.2.1 ≤ _; rw [e1, e0]; omega) | (show 0 ≤ (hdLs mkBool (hdLs mkStr (hdLs mkStr (q + 1) l[i].2.1) l[i].2.2.1) l[i].2.2.2.1); rw [e2, e1, e0]; omega) | (show nxLs mPut (hdLs mkBool (hdLs mkStr (hdLs mkStr (q + 1) l[i].2.1) l[i].2.2.1) l[i].2.2.2.1) l[i].2.2.2.2 ≤ _; rw [e2, e1, e0]; omega)
     refine sw_seq (sw_seq (xg hP 9 [] rfl ?_ ?_))
     ·simp [conj, gE hlt]
      repeat' apply And.intro
      all_goals first | trivial | assumption | omega | (show 0 ≤ (q + 1); omega) | (show nxLs mkStr (q + 1) l[i].2.1 ≤ _; omega) | (show 0 ≤ (hdLs mkStr (q + 1) l[i].2.1); rw [e0]; omega) | (show nxLs mkStr (hdLs mkStr (q + 1) l[i].2.1) l[i].2.2.1 ≤ _; rw [e0]; omega) | (show 0 ≤ (hdLs mkStr (hdLs mkStr (q + 1) l[i].2.1) l[i].2.2.1); rw [e1, e0]; omega) | (show nxLs mkBool (hdLs mkStr (hdLs mkStr (q + 1) l[i].2.1) l[i].2.2.1) l[i].2.2.2.1 ≤ _; rw [e1, e0]; omega) | (show 0 ≤ (hdLs mkBool (hdLs mkStr (hdLs mkStr (q + 1) l[i].2.1) l[i].2.2.1) l[i].2.2.2.1); rw [e2, e1, e0]; omega) | (show nxLs mPut (hdLs mkBool (hdLs mkStr (hdLs mkStr (q + 1) l[i].2.1) l[i].2.2.1) l[i].2.2.2.1) l[i].2.2.2.2 ≤ _; rw [e2, e1, e0]; omega)
     refine sw_cond rfl (fun c11 => ?_) (fun c11 => ?_)
     ·replace c11 : (hdLs mkStr (hdLs mkStr (q + 1) l[i].2.1) l[i].2.2.1) < 0 := by simpa [gE hlt] using c11
      have hn : mDsk.hd q l[i] < 0 := by simp [mDsk, mkPair, mkI, mkOne, mkList, mkNo, c4, c8, c11, hp0]
      refine sw_seq (xg hP 10 [] rfl ?_ ?_)
      ·simp [conj, gE hlt]
       repeat' apply And.intro
       all_goals first | trivial | assumption | omega | (show 0 ≤ (q + 1); omega) | (show nxLs mkStr (q + 1) l[i].2.1 ≤ _; omega) | (show 0 ≤ (hdLs mkStr (q + 1) l[i].2.1); rw [e0]; omega) | (show nxLs mkStr (hdLs mkStr (q + 1) l[i].2.1) l[i].2.2.1 ≤ _; rw [e0]; omega) | (show 0 ≤ (hdLs mkStr (hdLs mkStr (q + 1) l[i].2.1) l[i].2.2.1); rw [e1, e0]; omega) | (show nxLs mkBool (hdLs mkStr (hdLs mkStr (q + 1) l[i].2.1) l[i].2.2.1) l[i].2.2.2.1 ≤ _; rw [e1, e0]; omega) | (show 0 ≤ (hdLs mkBool (hdLs mkStr (hdLs mkStr (q + 1) l[i].2.1) l[i].2.2.1) l[i].2.2.2.1); rw [e2, e1, e0]; omega) | (show nxLs mPut (hdLs mkBool (hdLs mkStr (hdLs mkStr (q + 1) l[i].2.1) l[i].2.2.1) l[i].2.2.2.1) l[i].2.2.2.2 ≤ _; rw [e2, e1, e0]; omega)
      refine sw_ret ⟨.inl rfl, _, rfl, ?_⟩
      simp [conj]
      exact (hd_hit hlt hgo hn).symm
     ·replace c11 : ¬ (hdLs mkStr (hdLs mkStr (q + 1) l[i].2.1) l[i].2.2.1) < 0 := by simpa [gE hlt] using c11
      have e1 : (hdLs mkStr (hdLs mkStr (q + 1) l[i].2.1) l[i].2.2.1) = nxLs mkStr (hdLs mkStr (q + 1) l[i].2.1) l[i].2.2.1 := hd_pos (mkList_ok mkStr_ok) c11
      refine sw_skip (sw_seq (xg hP 10 [] rfl ?_ ?_))
      ·simp [conj, gE hlt]
       repeat' apply And.intro
       all_goals first | trivial | assumption | omega | (show 0 ≤ (q + 1); omega) | (show nxLs mkStr (q + 1) l[i].2.1 ≤ _; omega) | (show 0 ≤ (hdLs mkStr (q + 1) l[i].2.1); rw [e0]; omega) | (show nxLs mkStr (hdLs mkStr (q + 1) l[i].2.1) l[i].2.2.1 ≤ _; rw [e0]; omega) | (show 0 ≤ (hdLs mkStr (hdLs mkStr (q + 1) l[i].2.1) l[i].2.2.1); rw [e1, e0]; omega) | (show nxLs mkBool (hdLs mkStr (hdLs mkStr (q + 1) l[i].2.1) l[i].2.2.1) l[i].2.2.2.1 ≤ _; rw [e1, e0]; omega) | (show 0 ≤ (hdLs mkBool (hdLs mkStr (hdLs mkStr (q + 1) l[i].2.1) l[i].2.2.1) l[i].2.2.2.1); rw [e2, e1, e0]; omega) | (show nxLs mPut (hdLs mkBool (hdLs mkStr (hdLs mkStr (q + 1) l[i].2.1) l[i].2.2.1) l[i].2.2.2.1) l[i].2.2.2.2 ≤ _; rw [e2, e1, e0]; omega)
      refine sw_seq (sw_seq (xg hP 11 [] rfl ?_ ?_))
      ·simp [conj, gE hlt]
       repeat' apply And.intro
       all_goals first | trivial | assumption | omega | (show 0 ≤ (q + 1); omega) | (show nxLs mkStr (q + 1) l[i].2.1 ≤ _; omega) | (show 0 ≤ (hdLs mkStr (q + 1) l[i].2.1); rw [e0]; omega) | (show nxLs mkStr (hdLs mkStr (q + 1) l[i].2.1) l[i].2.2.1 ≤ _; rw [e0]; omega) | (show 0 ≤ (hdLs mkStr (hdLs mkStr (q + 1) l[i].2.1) l[i].2.2.1); rw [e1, e0]; omega) | (show nxLs mkBool (hdLs mkStr (hdLs mkStr (q + 1) l[i].2.1) l[i].2.2.1) l[i].2.2.2.1 ≤ _; rw [e1, e0]; omega) | (show 0 ≤ (hdLs mkBool (hdLs mkStr (hdLs mkStr (q + 1) l[i].2.1) l[i].2.2.1) l[i].2.2.2.1); rw [e2, e1, e0]; omega) | (show nxLs mPut (hdLs mkBool (hdLs mkStr (hdLs mkStr (q + 1) l[i].2.1) l[i].2.2.1) l[i].2.2.2.1) l[i].2.2.2.2 ≤ _; rw [e2, e1, e0]; omega)
      refine sw_cond rfl (fun c14 => ?_) (fun c14 => ?_)
      ·replace c14 : (hdLs mkBool (hdLs mkStr (hdLs mkStr (q + 1) l[i].2.1) l[i].2.2.1) l[i].2.2.2.1) < 0 := by simpa [gE hlt] using c14
       have hn : mDsk.hd q l[i] < 0 := by simp [mDsk, mkPair, mkI, mkOne, mkList, mkNo, c4, c8, c11, c14, hp0]
       refine sw_seq (xg hP 12 [] rfl ?_ ?_)
       ·simp [conj, gE hlt]
        repeat' apply And.intro
        all_goals first | trivial | assumption | omega | (show 0 ≤ (q + 1); omega) | (show nxLs mkStr (q + 1) l[i].2.1 ≤ _; omega) | (show 0 ≤ (hdLs mkStr (q + 1) l[i].2.1); rw [e0]; omega) | (show nxLs mkStr (hdLs mkStr (q + 1) l[i].2.1) l[i].2.2.1 ≤ _; rw [e0]; omega) | (show 0 ≤ (hdLs mkStr (hdLs mkStr (q + 1) l[i].2.1) l[i].2.2.1); rw [e1, e0]; omega) | (show nxLs mkBool (hdLs mkStr (hdLs mkStr (q + 1) l[i].2.1) l[i].2.2.1) l[i].2.2.2.1 ≤ _; rw [e1, e0]; omega) | (show 0 ≤ (hdLs mkBool (hdLs mkStr (hdLs mkStr (q + 1) l[i].2.1) l[i].2.2.1) l[i].2.2.2.1); rw [e2, e1, e0]; omega) | (show nxLs mPut (hdLs mkBool (hdLs mkStr (hdLs mkStr (q + 1) l[i].2.1) l[i].2.2.1) l[i].2.2.2.1) l[i].2.2.2.2 ≤ _; rw [e2, e1, e0]; omega)
       refine sw_ret ⟨.inl rfl, _, rfl, ?_⟩
       simp [conj]
       exact (hd_hit hlt hgo hn).symm
      ·replace c14 : ¬ (hdLs mkBool (hdLs mkStr (hdLs mkStr (q + 1) l[i].2.1) l[i].2.2.1) l[i].2.2.2.1) < 0 := by simpa [gE hlt] using c14
       have e2 : (hdLs mkBool (hdLs mkStr (hdLs mkStr (q + 1) l[i].2.1) l[i].2.2.1) l[i].2.2.2.1) = nxLs mkBool (hdLs mkStr (hdLs mkStr (q + 1) l[i].2.1) l[i].2.2.1) l[i].2.2.2.1 := hd_pos (mkList_ok mkBool_ok) c14
       refine sw_skip (sw_seq (xg hP 12 [] rfl ?_ ?_))
       ·simp [conj, gE hlt]
        repeat' apply And.intro
        all_goals first | trivial | assumption | omega | (show 0 ≤ (q + 1); omega) | (show nxLs mkStr (q + 1) l[i].2.1 ≤ _; omega) | (show 0 ≤ (hdLs mkStr (q + 1) l[i].2.1); rw [e0]; omega) | (show nxLs mkStr (hdLs mkStr (q + 1) l[i].2.1) l[i].2.2.1 ≤ _; rw [e0]; omega) | (show 0 ≤ (hdLs mkStr (hdLs mkStr (q + 1) l[i].2.1) l[i].2.2.1); rw [e1, e0]; omega) | (show nxLs mkBool (hdLs mkStr (hdLs mkStr (q + 1) l[i].2.1) l[i].2.2.1) l[i].2.2.2.1 ≤ _; rw [e1, e0]; omega) | (show 0 ≤ (hdLs mkBool (hdLs mkStr (hdLs mkStr (q + 1) l[i].2.1) l[i].2.2.1) l[i].2.2.2.1); rw [e2, e1, e0]; omega) | (show nxLs mPut (hdLs mkBool (hdLs mkStr (hdLs mkStr (q + 1) l[i].2.1) l[i].2.2.1) l[i].2.2.2.1) l[i].2.2.2.2 ≤ _; rw [e2, e1, e0]; omega)
       refine sw_seq (xg hP 13 [] rfl ?_ ?_)
       ·simp [conj, gE hlt]
        repeat' apply And.intro
        all_goals first | trivial | assumption | omega | (show 0 ≤ (q + 1); omega) | (show nxLs mkStr (q + 1) l[i].2.1 ≤ _; omega) | (show 0 ≤ (hdLs mkStr (q + 1) l[i].2.1); rw [e0]; omega) | (show nxLs mkStr (hdLs mkStr (q + 1) l[i].2.1) l[i].2.2.1 ≤ _; rw [e0]; omega) | (show 0 ≤ (hdLs mkStr (hdLs mkStr (q + 1) l[i].2.1) l[i].2.2.1); rw [e1, e0]; omega) | (show nxLs mkBool (hdLs mkStr (hdLs mkStr (q + 1) l[i].2.1) l[i].2.2.1) l[i].2.2.2.1 ≤ _; rw [e1, e0]; omega) | (show 0 ≤ (hdLs mkBool (hdLs mkStr (hdLs mkStr (q + 1) l[i].2.1) l[i].2.2.1) l[i].2.2.2.1); rw [e2, e1, e0]; omega) | (show nxLs mPut (hdLs mkBool (hdLs mkStr (hdLs mkStr (q + 1) l[i].2.1) l[i].2.2.1) l[i].2.2.2.1) l[i].2.2.2.2 ≤ _; rw [e2, e1, e0]; omega)
       refine sw_cond rfl (fun c17 => ?_) (fun c17 => ?_)
       ·replace c17 : (hdLs mPut (hdLs mkBool (hdLs mkStr (hdLs mkStr (q + 1) l[i].2.1) l[i].2.2.1) l[i].2.2.2.1) l[i].2.2.2.2) < 0 := by simpa [gE hlt] using c17
        have hn : mDsk.hd q l[i] < 0 := by simp [mDsk, mkPair, mkI, mkOne, mkList, mkNo, c4, c8, c11, c14, c17, hp0]
        refine sw_seq (xg hP 14 [] rfl ?_ ?_)
        ·simp [conj, gE hlt]
         repeat' apply And.intro
         all_goals first | trivial | assumption | omega | (show 0 ≤ (q + 1); omega) | (show nxLs mkStr (q + 1) l[i].2.1 ≤ _; omega) | (show 0 ≤ (hdLs mkStr (q + 1) l[i].2.1); rw [e0]; omega) | (show nxLs mkStr (hdLs mkStr (q + 1) l[i].2.1) l[i].2.2.1 ≤ _; rw [e0]; omega) | (show 0 ≤ (hdLs mkStr (hdLs mkStr (q + 1) l[i].2.1) l[i].2.2.1); rw [e1, e0]; omega) | (show nxLs mkBool (hdLs mkStr (hdLs mkStr (q + 1) l[i].2.1) l[i].2.2.1) l[i].2.2.2.1 ≤ _; rw [e1, e0]; omega) | (show 0 ≤ (hdLs mkBool (hdLs mkStr (hdLs mkStr (q + 1) l[i].2.1) l[i].2.2.1) l[i].2.2.2.1); rw [e2, e1, e0]; omega) | (show nxLs mPut (hdLs mkBool (hdLs mkStr (hdLs mkStr (q + 1) l[i].2.1) l[i].2.2.1) l[i].2.2.2.1) l[i].2.2.2.2 ≤ _; rw [e2, e1, e0]; omega)
        refine sw_ret ⟨.inl rfl, _, rfl, ?_⟩
        simp [conj]
        exact (hd_hit hlt hgo hn).symm
       ·replace c17 : ¬ (hdLs mPut (hdLs mkBool (hdLs mkStr (hdLs mkStr (q + 1) l[i].2.1) l[i].2.2.1) l[i].2.2.2.1) l[i].2.2.2.2) < 0 := by simpa [gE hlt] using c17
        have e3 : (hdLs mPut (hdLs mkBool (hdLs mkStr (hdLs mkStr (q + 1) l[i].2.1) l[i].2.2.1) l[i].2.2.2.1) l[i].2.2.2.2) = nxLs mPut (hdLs mkBool (hdLs mkStr (hdLs mkStr (q + 1) l[i].2.1) l[i].2.2.1) l[i].2.2.2.1) l[i].2.2.2.2 := hd_pos (mkList_ok mPut_ok) c17
        have hv : mDsk.hd q l[i] = (hdLs mPut (hdLs mkBool (hdLs mkStr (hdLs mkStr (q + 1) l[i].2.1) l[i].2.2.1) l[i].2.2.2.1) l[i].2.2.2.2) := by simp [mDsk, mkPair, mkI, mkOne, mkList, mkNo, c4, c8, c11, c14, c17, hp0]
        refine sw_skip (xg hP 14 [] rfl ?_ ?_)
        ·simp only [cj, cl]
         try dsimp only [Ty.den, Ty.dflt]
         repeat' apply And.intro
         all_goals first | rfl | omega | assumption | trivial
        refine ⟨(i + 1, (hdLs mPut (hdLs mkBool (hdLs mkStr (hdLs mkStr (q + 1) l[i].2.1) l[i].2.2.1) l[i].2.2.2.1) l[i].2.2.2.2)), ?_, ?_, ent_ok rfl ?_⟩
        ·have hnn : ¬ mDsk.hd q l[i] < 0 := by rw [hv]; omega
         have hgn := hd_next hlt hgo hnn
         have hpo := hd_pos mDsk_ok hnn
         have hbn : nxLs mDsk ((hdLs mPut (hdLs mkBool (hdLs mkStr (hdLs mkStr (q + 1) l[i].2.1) l[i].2.2.1) l[i].2.2.2.1) l[i].2.2.2.2)) (l.drop (i + 1)) ≤ 1000000000 := by rw [← hv, hpo]; exact hb
         rw [hv] at hgn
         exact ⟨hlt, by show 0 ≤ (hdLs mPut (hdLs mkBool (hdLs mkStr (hdLs mkStr (q + 1) l[i].2.1) l[i].2.2.1) l[i].2.2.2.1) l[i].2.2.2.2); omega, hgn, hbn⟩
        ·show l.length - (i + 1) < l.length - i
         omega
        ·simp [conj, gE hlt]
  ·obtain rfl : i = l.length := by simp at c2; omega
   refine sw_exit (sw_seq (xr hP 4 rfl (sw_ret ⟨.inl rfl, _, rfl, ?_⟩)))
   simp [conj]
   exact (hd_end hgo).symm
def cMkPo (p : Pol) (k : Int) (a b c : Id) : Xctr := ⟨14, [(a, ⟨0, 0, 1⟩, .sl T_Disk (.all .w) p.1), (b, ⟨0, 0, 2⟩, .sl T_Vol (.all .w) p.2.2.1.2), (c, ⟨0, 0, 3⟩, .sl T_Vol (.all .w) p.2.2.2.2)], [], [.v true [.own ⟨0, 0, 1⟩, .d .bool pF p.2.1, .d TI pF p.2.2.1.1, .own ⟨0, 0, 2⟩, .d TI pF p.2.2.2.1, .own ⟨0, 0, 3⟩], sInt .i64 k],
  (sInt .i64 (mPol.nx k p), [(⟨0, 0, 1⟩, .sl T_Disk (.all .w) (mPol.mk k p).1), (⟨0, 0, 2⟩, .sl T_Vol (.all .w) (mPol.mk k p).2.2.1.2), (⟨0, 0, 3⟩, .sl T_Vol (.all .w) (mPol.mk k p).2.2.2.2)])⟩
theorem cMkPo_ok {p : Pol} {k : Int} {a b c : Id} (h0 : 0 ≤ k) (h1 : mPol.nx k p ≤ 1000000000) : XOk Proofs.Tryz.prog (cMkPo p k a b c) := by
 have hP := ((Prg.none ttok mtok).and cMkDs_ok)
 refine xctr_of_body hP (cMkPo p k a b c) (fn := Proofs.Tryz.f14) (rts := [.tmp 4]) Proofs.Tryz.func14 rfl (by kernel_rfl) rfl rfl ?_
 refine ⟨rfl, ?_⟩
 have s1 : k ≤ (nxLs mDsk k p.1) := (mkList_ok mDsk_ok).ge _ _
 have s2 : (nxLs mDsk k p.1) ≤ (nxLs mVol (nxLs mDsk k p.1) p.2.2.1.2) := (mkList_ok mVol_ok).ge _ _
 have s3 : (nxLs mVol (nxLs mDsk k p.1) p.2.2.1.2) ≤ nxLs mVol (nxLs mVol (nxLs mDsk k p.1) p.2.2.1.2) p.2.2.2.2 := (mkList_ok mVol_ok).ge _ _
 replace h1 : nxLs mVol (nxLs mVol (nxLs mDsk k p.1) p.2.2.1.2) p.2.2.2.2 ≤ 1000000000 := h1
 refine sw_seq (xr hP 1 rfl (sw_seq (xg hP 2 [] rfl ?_ ?_)))
 ·simp [conj, maxL]
  try dsimp only [Ty.den, Ty.dflt]
  try simp only [rd_eta]
  exact ⟨h0, by show (nxLs mDsk k p.1) ≤ _; omega⟩
 refine sw_seq ?_
 replace hP := hP.andX (cMkRoot_ok (r := p.2.2.1) (k := (nxLs mDsk k p.1)) (a := ⟨0, 0, 2⟩) (by omega) (by omega))
 refine xr hP 3 rfl (sw_seq ?_)
 replace hP := hP.andX (cMkRoot_ok (r := p.2.2.2) (k := (nxLs mVol (nxLs mDsk k p.1) p.2.2.1.2)) (a := ⟨0, 0, 3⟩) (by omega) (by omega))
 refine xr hP 4 rfl (sw_seq (xr hP 5 rfl (sw_ret ⟨.inl rfl, _, rfl, ?_⟩)))
 simp [conj]
 try (repeat' apply And.intro)
 all_goals rfl
def cHdPo : Ctr := ⟨16, [.val true T_Pool (.all .b), .val false TI pF], fun x => 0 ≤ x.2.1 ∧ mPol.nx x.2.1 x.1 ≤ 1000000000, fun x => (sInt .i64 (mPol.hd x.2.1 x.1), [])⟩
theorem cHdPo_ok : CtrOk Proofs.Tryz.prog cHdPo := by
 have hP := (((Prg.none ttok mtok).and cHdDs_ok).and cHdRoot_ok)
 refine ctr_of_body hP cHdPo (fn := Proofs.Tryz.f16) (rts := [.tmp 4]) Proofs.Tryz.func16 rfl (by kernel_rfl) rfl rfl ?_
 rintro ⟨⟨(ds : List Dsk), (op : Bool), ⟨(tg : Int), (l : List Vol_)⟩, ⟨(tg2 : Int), (l2 : List Vol_)⟩⟩, (k : Int), ⟨⟩⟩ _ ⟨h0, h1⟩
 try dsimp only [Ty.den, Mode.den, mdens] at h0
 try dsimp only [Ty.den, Mode.den, mdens] at h1
 refine ⟨rfl, ?_⟩
 replace h0 : 0 ≤ k := h0
 have s1 : k ≤ (nxLs mDsk k ds) := (mkList_ok mDsk_ok).ge _ _
 have s2 : (nxLs mDsk k ds) ≤ (nxLs mVol (nxLs mDsk k ds) l) := (mkList_ok mVol_ok).ge _ _
 have s3 : (nxLs mVol (nxLs mDsk k ds) l) ≤ nxLs mVol (nxLs mVol (nxLs mDsk k ds) l) l2 := (mkList_ok mVol_ok).ge _ _
 replace h1 : nxLs mVol (nxLs mVol (nxLs mDsk k ds) l) l2 ≤ 1000000000 := h1
 refine sw_seq (xr hP 1 rfl (sw_seq (xg hP 2 [] rfl ?_ ?_)))
 ·simp [conj, maxL]
  try dsimp only [Ty.den, Ty.dflt]
  try simp only [rd_eta]
  exact ⟨h0, by show (nxLs mDsk k ds) ≤ _; omega⟩
 refine sw_seq (sw_seq (xr hP 3 rfl (sw_cond rfl (fun c2 => ?_) (fun c2 => ?_))))
 ·replace c2 : (hdLs mDsk k ds) < 0 := of_decide_eq_true c2
  refine sw_seq (xr hP 4 rfl (sw_ret ⟨.inl rfl, _, rfl, ?_⟩))
  have hv : mPol.hd k ((ds, op, (tg, l), (tg2, l2)) : Pol) = -1 := by
    show (if (hdLs mDsk k ds) < 0 then -1 else if (hdLs mDsk k ds) < 0 then -1 else if (if (hdLs mDsk k ds) < 0 then -1 else (hdLs mVol (hdLs mDsk k ds) l)) < 0 then -1 else if (if (hdLs mDsk k ds) < 0 then -1 else (hdLs mVol (hdLs mDsk k ds) l)) < 0 then -1 else hdLs mVol (if (hdLs mDsk k ds) < 0 then -1 else (hdLs mVol (hdLs mDsk k ds) l)) l2) = _
    rw [if_pos c2]
  simp only [conj, List.append_nil]
  exact hv.symm
 ·replace c2 : ¬ (hdLs mDsk k ds) < 0 := of_decide_eq_false c2
  have e0 : (hdLs mDsk k ds) = (nxLs mDsk k ds) := hd_pos (mkList_ok mDsk_ok) c2
  refine sw_skip (sw_seq (xg hP 4 [] rfl ?_ ?_))
  ·simp [conj, maxL]
   try dsimp only [Ty.den, Ty.dflt]
   try simp only [rd_eta]
   exact ⟨by show 0 ≤ (hdLs mDsk k ds); omega, by show nxLs mVol (hdLs mDsk k ds) l ≤ _; rw [e0]; omega⟩
  refine sw_seq (sw_seq (xr hP 5 rfl (sw_cond rfl (fun c5 => ?_) (fun c5 => ?_))))
  ·replace c5 : (hdLs mVol (hdLs mDsk k ds) l) < 0 := of_decide_eq_true c5
   refine sw_seq (xr hP 6 rfl (sw_ret ⟨.inl rfl, _, rfl, ?_⟩))
   have hv : mPol.hd k ((ds, op, (tg, l), (tg2, l2)) : Pol) = -1 := by
     show (if (hdLs mDsk k ds) < 0 then -1 else if (hdLs mDsk k ds) < 0 then -1 else if (if (hdLs mDsk k ds) < 0 then -1 else (hdLs mVol (hdLs mDsk k ds) l)) < 0 then -1 else if (if (hdLs mDsk k ds) < 0 then -1 else (hdLs mVol (hdLs mDsk k ds) l)) < 0 then -1 else hdLs mVol (if (hdLs mDsk k ds) < 0 then -1 else (hdLs mVol (hdLs mDsk k ds) l)) l2) = _
     rw [if_neg c2, if_neg c2, if_neg c2, if_pos c5]
   simp only [conj, List.append_nil]
   exact hv.symm
  ·replace c5 : ¬ (hdLs mVol (hdLs mDsk k ds) l) < 0 := of_decide_eq_false c5
   have e1 : (hdLs mVol (hdLs mDsk k ds) l) = nxLs mVol (hdLs mDsk k ds) l := hd_pos (mkList_ok mVol_ok) c5
   refine sw_skip (sw_seq (xg hP 6 [] rfl ?_ ?_))
   ·simp [conj, maxL]
    try dsimp only [Ty.den, Ty.dflt]
    try simp only [rd_eta]
    exact ⟨by show 0 ≤ (hdLs mVol (hdLs mDsk k ds) l); omega, by show nxLs mVol (hdLs mVol (hdLs mDsk k ds) l) l2 ≤ _; rw [e1, e0]; omega⟩
   refine sw_seq (sw_seq (xr hP 7 rfl (sw_cond rfl (fun c8 => ?_) (fun c8 => ?_))))
   ·replace c8 : (hdLs mVol (hdLs mVol (hdLs mDsk k ds) l) l2) < 0 := of_decide_eq_true c8
    have e2 : (hdLs mVol (hdLs mVol (hdLs mDsk k ds) l) l2) = -1 := hd_neg (mkList_ok mVol_ok) (by omega) c8
    refine sw_seq (xr hP 8 rfl (sw_ret ⟨.inl rfl, _, rfl, ?_⟩))
    have hv : mPol.hd k ((ds, op, (tg, l), (tg2, l2)) : Pol) = -1 := by
      show (if (hdLs mDsk k ds) < 0 then -1 else if (hdLs mDsk k ds) < 0 then -1 else if (if (hdLs mDsk k ds) < 0 then -1 else (hdLs mVol (hdLs mDsk k ds) l)) < 0 then -1 else if (if (hdLs mDsk k ds) < 0 then -1 else (hdLs mVol (hdLs mDsk k ds) l)) < 0 then -1 else hdLs mVol (if (hdLs mDsk k ds) < 0 then -1 else (hdLs mVol (hdLs mDsk k ds) l)) l2) = _
      rw [if_neg c2, if_neg c2, if_neg c2, if_neg c5, if_neg c5]
      exact e2
    simp only [conj, List.append_nil]
    exact hv.symm
   ·refine sw_skip (sw_seq (xr hP 8 rfl (sw_ret ⟨.inl rfl, _, rfl, ?_⟩)))
    have hv : mPol.hd k ((ds, op, (tg, l), (tg2, l2)) : Pol) = (hdLs mVol (hdLs mVol (hdLs mDsk k ds) l) l2) := by
      show (if (hdLs mDsk k ds) < 0 then -1 else if (hdLs mDsk k ds) < 0 then -1 else if (if (hdLs mDsk k ds) < 0 then -1 else (hdLs mVol (hdLs mDsk k ds) l)) < 0 then -1 else if (if (hdLs mDsk k ds) < 0 then -1 else (hdLs mVol (hdLs mDsk k ds) l)) < 0 then -1 else hdLs mVol (if (hdLs mDsk k ds) < 0 then -1 else (hdLs mVol (hdLs mDsk k ds) l)) l2) = _
      rw [if_neg c2, if_neg c2, if_neg c2, if_neg c5, if_neg c5]
    simp only [conj, List.append_nil]
    exact hv.symm
end Go.Sx

namespace Go.Sx
open Go
set_option maxRecDepth 100000
set_option linter.unusedVariables false
set_option linter.unusedSimpArgs false
set_option maxHeartbeats 2000000
def cEqPlc : Ctr := ⟨104, [.val true T_Place pF, .val true T_Place pF], fun x => True, fun x => (sBool (decide ((x.1 : Plc) = x.2.1)), [])⟩
theorem cEqPlc_ok : CtrOk Proofs.Tryz.prog cEqPlc := by
 have hP := (Prg.none ttok mtok)
 refine ctr_of_body hP cEqPlc (fn := Proofs.Tryz.f104) (rts := [.tmp 4]) Proofs.Tryz.func104 rfl (by kernel_rfl) rfl rfl ?_
 rintro ⟨⟨(a : Int), (b : Int)⟩, ⟨(c : Int), (e : Int)⟩, ⟨⟩⟩ _ _
 try dsimp only [Ty.den, Mode.den, mdens] at _
 refine ⟨rfl, ?_⟩
 refine sw_seq (xr hP 1 rfl (sw_seq (sw_seq (xr hP 2 rfl (sw_cond rfl (fun c1 => ?_) (fun c1 => ?_))))))
 ·replace c1 : ¬ a = c := by simpa using c1
  refine sw_seq (xr hP 3 rfl (sw_ret ⟨.inl rfl, _, rfl, ?_⟩))
  simp [conj, *]
 ·replace c1 : a = c := by simpa using c1
  refine sw_skip (sw_seq (sw_seq (xr hP 3 rfl (sw_cond rfl (fun c3 => ?_) (fun c3 => ?_)))))
  ·replace c3 : ¬ b = e := by simpa using c3
   refine sw_seq (xr hP 4 rfl (sw_ret ⟨.inl rfl, _, rfl, ?_⟩))
   simp [conj, *]
  ·replace c3 : b = e := by simpa using c3
   refine sw_skip (sw_seq (xr hP 4 rfl (sw_ret ⟨.inl rfl, _, rfl, ?_⟩)))
   simp [conj, *]
def cEqPls : Ctr := ⟨101, [.val false (.sl T_Place) (.all .b), .val false (.sl T_Place) (.all .b)], fun x => True, fun x => (sBool (decide ((x.1 : List Plc) = x.2.1)), [])⟩
theorem cEqPls_ok : CtrOk Proofs.Tryz.prog cEqPls := by
 have hP := ((Prg.none ttok mtok).and cEqPlc_ok)
 refine ctr_of_body hP cEqPls (fn := Proofs.Tryz.f101) (rts := [.tmp 4]) Proofs.Tryz.func101 rfl (by kernel_rfl) rfl rfl ?_
 rintro ⟨(a : List Plc), (b : List Plc), ⟨⟩⟩ ⟨hda, hdb, _⟩ _
 try dsimp only [Ty.den, Mode.den, mdens] at _
 refine ⟨rfl, ?_⟩
 have hml : a.length ≤ 140737488355328 := hda.1
 have hmb : b.length ≤ 140737488355328 := hdb.1
 refine sw_seq (xr hP 1 rfl (sw_seq (sw_seq (xr hP 2 rfl (sw_cond rfl (fun c1 => ?_) (fun c1 => ?_))))))
 ·replace c1 : ¬ a.length = b.length := by simp at c1; omega
  refine sw_seq (xr hP 3 rfl (sw_ret ⟨.inl rfl, _, rfl, ?_⟩))
  have hv := eqL_len c1
  simp [conj, hv]
 ·replace c1 : a.length = b.length := by simp at c1; omega
  refine sw_skip (sw_seq (sw_seq (xr hP 3 rfl (sw_block (sw_loop (ι := Nat) (fun i => ⟨[.v false [.d (.sl T_Place) (.all .b) a], .v false [.d (.sl T_Place) (.all .b) b], .j, .j, .j, sInt .i64 (i : Int), .j, .j, .j, .j, .j, .j, .j, .j, .j, .j, .j, .j, .j, .j, .j, .j, .j, .j, .j, .j, .j], [], 3, []⟩) (fun i => a.length - i) (fun i => i ≤ a.length ∧ decide (a.drop i = b.drop i) = decide (a = b)) 0 ⟨?_, ?_⟩ ?_)))))
  ·exact ⟨Nat.zero_le _, rfl⟩
  ·refine ent_ok rfl ?_
   first | trivial | (simp [conj]; done) | (simp [conj] at *; (try dsimp only [Ty.den, Ty.dflt] at *); omega)
  ·rintro i ⟨hi, hgo⟩
   refine sw_seq (sw_seq (xr hP 4 rfl (sw_cond rfl (fun c4 => ?_) (fun c4 => ?_))))
   ·have hlt : i < a.length := by simpa using c4
    have hlt2 : i < b.length := by omega
    refine sw_skip (sw_seq (sw_block (sw_seq (xg hP 5 [] rfl ?_ ?_))))
    ·simp [conj, gE hlt, gE hlt2]
     repeat' apply And.intro
     all_goals first | omega | trivial
    refine sw_cond rfl (fun c6 => ?_) (fun c6 => ?_)
    ·replace c6 : ¬ a[i] = b[i] := by intro e; simp [gE hlt, gE hlt2, e] at c6
     refine sw_seq (xr hP 6 rfl (sw_ret ⟨.inl rfl, _, rfl, ?_⟩))
     have hv := eqL_hit hlt hlt2 hgo c6
     simp [conj, hv]
    ·replace c6 : a[i] = b[i] := by
       have h := c6
       simp [gE hlt, gE hlt2] at h
       exact Prod.ext h.1 h.2
     refine sw_skip (xr hP 6 rfl (⟨i + 1, ?_, ?_, ent_ok rfl ?_⟩))
     ·exact ⟨hlt, eqL_next hlt hlt2 hgo c6⟩
     ·omega
     ·simp [conj]
   ·obtain rfl : i = a.length := by simp at c4; omega
    refine sw_exit (sw_seq (xr hP 5 rfl (sw_ret ⟨.inl rfl, _, rfl, ?_⟩)))
    have hv := eqL_end c1 hgo
    simp [conj, hv]
def cEqPtr : Ctr := ⟨92, [.val true T_Ptr (.all .b), .val true T_Ptr (.all .b)], fun x => True, fun x => (sBool (decide ((x.1 : Ptr_) = x.2.1)), [])⟩
theorem cEqPtr_ok : CtrOk Proofs.Tryz.prog cEqPtr := by
 have hP := ((Prg.none ttok mtok).and cEqPls_ok)
 refine ctr_of_body hP cEqPtr (fn := Proofs.Tryz.f92) (rts := [.tmp 4]) Proofs.Tryz.func92 rfl (by kernel_rfl) rfl rfl ?_
 rintro ⟨⟨(sz : Int), (sm : Int), (pl : List Plc)⟩, ⟨(sz2 : Int), (sm2 : Int), (pl2 : List Plc)⟩, ⟨⟩⟩ _ _
 try dsimp only [Ty.den, Mode.den, mdens] at _
 refine ⟨rfl, ?_⟩
 refine sw_seq (xr hP 1 rfl (sw_seq (sw_seq (xr hP 2 rfl (sw_cond rfl (fun c1 => ?_) (fun c1 => ?_))))))
 ·replace c1 : ¬ sz = sz2 := by simpa using c1
  refine sw_seq (xr hP 3 rfl (sw_ret ⟨.inl rfl, _, rfl, ?_⟩))
  simp [conj, *]
 ·replace c1 : sz = sz2 := by simpa using c1
  refine sw_skip (sw_seq (sw_seq (xr hP 3 rfl (sw_cond rfl (fun c3 => ?_) (fun c3 => ?_)))))
  ·replace c3 : ¬ sm = sm2 := by simpa using c3
   refine sw_seq (xr hP 4 rfl (sw_ret ⟨.inl rfl, _, rfl, ?_⟩))
   simp [conj, *]
  ·replace c3 : sm = sm2 := by simpa using c3
   refine sw_skip (sw_seq (sw_seq (xg hP 4 [] rfl ?_ ?_)))
   ·simp [conj, maxL]
    try dsimp only [Ty.den, Ty.dflt]
    try simp only [rd_eta]
    trivial
   refine sw_cond rfl (fun c5 => ?_) (fun c5 => ?_)
   ·replace c5 : ¬ pl = pl2 := by simpa using c5
    refine sw_seq (xr hP 5 rfl (sw_ret ⟨.inl rfl, _, rfl, ?_⟩))
    simp [conj, *]
   ·replace c5 : pl = pl2 := by simpa using c5
    refine sw_skip (sw_seq (xr hP 5 rfl (sw_ret ⟨.inl rfl, _, rfl, ?_⟩)))
    simp [conj, *]
def cEqPtrs : Ctr := ⟨78, [.val false (.sl T_Ptr) (.all .b), .val false (.sl T_Ptr) (.all .b)], fun x => True, fun x => (sBool (decide ((x.1 : List Ptr_) = x.2.1)), [])⟩
theorem cEqPtrs_ok : CtrOk Proofs.Tryz.prog cEqPtrs := by
 have hP := ((Prg.none ttok mtok).and cEqPtr_ok)
 refine ctr_of_body hP cEqPtrs (fn := Proofs.Tryz.f78) (rts := [.tmp 4]) Proofs.Tryz.func78 rfl (by kernel_rfl) rfl rfl ?_
 rintro ⟨(a : List Ptr_), (b : List Ptr_), ⟨⟩⟩ ⟨hda, hdb, _⟩ _
 try dsimp only [Ty.den, Mode.den, mdens] at _
 refine ⟨rfl, ?_⟩
 have hml : a.length ≤ 140737488355328 := hda.1
 have hmb : b.length ≤ 140737488355328 := hdb.1
 refine sw_seq (xr hP 1 rfl (sw_seq (sw_seq (xr hP 2 rfl (sw_cond rfl (fun c1 => ?_) (fun c1 => ?_))))))
 ·replace c1 : ¬ a.length = b.length := by simp at c1; omega
  refine sw_seq (xr hP 3 rfl (sw_ret ⟨.inl rfl, _, rfl, ?_⟩))
  have hv := eqL_len c1
  simp [conj, hv]
 ·replace c1 : a.length = b.length := by simp at c1; omega
  refine sw_skip (sw_seq (sw_seq (xr hP 3 rfl (sw_block (sw_loop (ι := Nat) (fun i => ⟨[.v false [.d (.sl T_Ptr) (.all .b) a], .v false [.d (.sl T_Ptr) (.all .b) b], .j, .j, .j, sInt .i64 (i : Int), .j, .j, .j, .j, .j, .j, .j, .j, .j, .j, .j, .j, .j, .j, .j, .j, .j, .j, .j, .j, .j], [], 3, []⟩) (fun i => a.length - i) (fun i => i ≤ a.length ∧ decide (a.drop i = b.drop i) = decide (a = b)) 0 ⟨?_, ?_⟩ ?_)))))
  ·exact ⟨Nat.zero_le _, rfl⟩
  ·refine ent_ok rfl ?_
   first | trivial | (simp [conj]; done) | (simp [conj] at *; (try dsimp only [Ty.den, Ty.dflt] at *); omega)
  ·rintro i ⟨hi, hgo⟩
   refine sw_seq (sw_seq (xr hP 4 rfl (sw_cond rfl (fun c4 => ?_) (fun c4 => ?_))))
   ·have hlt : i < a.length := by simpa using c4
    have hlt2 : i < b.length := by omega
    refine sw_skip (sw_seq (sw_block (sw_seq (xg hP 5 [] rfl ?_ ?_))))
    ·simp [conj, gE hlt, gE hlt2]
     repeat' apply And.intro
     all_goals first | omega | trivial
    refine sw_cond rfl (fun c6 => ?_) (fun c6 => ?_)
    ·replace c6 : ¬ a[i] = b[i] := by intro e; simp [gE hlt, gE hlt2, e] at c6
     refine sw_seq (xr hP 6 rfl (sw_ret ⟨.inl rfl, _, rfl, ?_⟩))
     have hv := eqL_hit hlt hlt2 hgo c6
     simp [conj, hv]
    ·replace c6 : a[i] = b[i] := by
       have h := c6
       simp [gE hlt, gE hlt2] at h
       exact Prod.ext h.1 (Prod.ext h.2.1 h.2.2)
     refine sw_skip (xr hP 6 rfl (⟨i + 1, ?_, ?_, ent_ok rfl ?_⟩))
     ·exact ⟨hlt, eqL_next hlt hlt2 hgo c6⟩
     ·omega
     ·simp [conj]
   ·obtain rfl : i = a.length := by simp at c4; omega
    refine sw_exit (sw_seq (xr hP 5 rfl (sw_ret ⟨.inl rfl, _, rfl, ?_⟩)))
    have hv := eqL_end c1 hgo
    simp [conj, hv]
def cEqVol : Ctr := ⟨67, [.val true T_Vol (.all .b), .val true T_Vol (.all .b)], fun x => True, fun x => (sBool (decide ((x.1 : Vol_) = x.2.1)), [])⟩
theorem cEqVol_ok : CtrOk Proofs.Tryz.prog cEqVol := by
 have hP := ((Prg.none ttok mtok).and cEqPtrs_ok)
 refine ctr_of_body hP cEqVol (fn := Proofs.Tryz.f67) (rts := [.tmp 4]) Proofs.Tryz.func67 rfl (by kernel_rfl) rfl rfl ?_
 rintro ⟨⟨(nm : Str), (bl : List Ptr_)⟩, ⟨(nm2 : Str), (bl2 : List Ptr_)⟩, ⟨⟩⟩ _ _
 try dsimp only [Ty.den, Mode.den, mdens] at _
 refine ⟨rfl, ?_⟩
 refine sw_seq (xr hP 1 rfl (sw_seq (sw_seq (xr hP 2 rfl (sw_cond rfl (fun c1 => ?_) (fun c1 => ?_))))))
 ·replace c1 : ¬ nm = nm2 := by simpa using c1
  refine sw_seq (xr hP 3 rfl (sw_ret ⟨.inl rfl, _, rfl, ?_⟩))
  simp [conj, *]
 ·replace c1 : nm = nm2 := by simpa using c1
  refine sw_skip (sw_seq (sw_seq (xg hP 3 [] rfl ?_ ?_)))
  ·simp [conj, maxL]
   try dsimp only [Ty.den, Ty.dflt]
   try simp only [rd_eta]
   trivial
  refine sw_cond rfl (fun c3 => ?_) (fun c3 => ?_)
  ·replace c3 : ¬ bl = bl2 := by simpa using c3
   refine sw_seq (xr hP 4 rfl (sw_ret ⟨.inl rfl, _, rfl, ?_⟩))
   simp [conj, *]
  ·replace c3 : bl = bl2 := by simpa using c3
   refine sw_skip (sw_seq (xr hP 4 rfl (sw_ret ⟨.inl rfl, _, rfl, ?_⟩)))
   simp [conj, *]
def cEqVols : Ctr := ⟨42, [.val false (.sl T_Vol) (.all .b), .val false (.sl T_Vol) (.all .b)], fun x => True, fun x => (sBool (decide ((x.1 : List Vol_) = x.2.1)), [])⟩
theorem cEqVols_ok : CtrOk Proofs.Tryz.prog cEqVols := by
 have hP := ((Prg.none ttok mtok).and cEqVol_ok)
 refine ctr_of_body hP cEqVols (fn := Proofs.Tryz.f42) (rts := [.tmp 4]) Proofs.Tryz.func42 rfl (by kernel_rfl) rfl rfl ?_
 rintro ⟨(a : List Vol_), (b : List Vol_), ⟨⟩⟩ ⟨hda, hdb, _⟩ _
 try dsimp only [Ty.den, Mode.den, mdens] at _
 refine ⟨rfl, ?_⟩
 have hml : a.length ≤ 140737488355328 := hda.1
 have hmb : b.length ≤ 140737488355328 := hdb.1
 refine sw_seq (xr hP 1 rfl (sw_seq (sw_seq (xr hP 2 rfl (sw_cond rfl (fun c1 => ?_) (fun c1 => ?_))))))
 ·replace c1 : ¬ a.length = b.length := by simp at c1; omega
  refine sw_seq (xr hP 3 rfl (sw_ret ⟨.inl rfl, _, rfl, ?_⟩))
  have hv := eqL_len c1
  simp [conj, hv]
 ·replace c1 : a.length = b.length := by simp at c1; omega
  refine sw_skip (sw_seq (sw_seq (xr hP 3 rfl (sw_block (sw_loop (ι := Nat) (fun i => ⟨[.v false [.d (.sl T_Vol) (.all .b) a], .v false [.d (.sl T_Vol) (.all .b) b], .j, .j, .j, sInt .i64 (i : Int), .j, .j, .j, .j, .j, .j, .j, .j, .j, .j, .j, .j, .j, .j, .j, .j, .j, .j, .j, .j, .j], [], 3, []⟩) (fun i => a.length - i) (fun i => i ≤ a.length ∧ decide (a.drop i = b.drop i) = decide (a = b)) 0 ⟨?_, ?_⟩ ?_)))))
  ·exact ⟨Nat.zero_le _, rfl⟩
  ·refine ent_ok rfl ?_
   first | trivial | (simp [conj]; done) | (simp [conj] at *; (try dsimp only [Ty.den, Ty.dflt] at *); omega)
  ·rintro i ⟨hi, hgo⟩
   refine sw_seq (sw_seq (xr hP 4 rfl (sw_cond rfl (fun c4 => ?_) (fun c4 => ?_))))
   ·have hlt : i < a.length := by simpa using c4
    have hlt2 : i < b.length := by omega
    refine sw_skip (sw_seq (sw_block (sw_seq (xg hP 5 [] rfl ?_ ?_))))
    ·simp [conj, gE hlt, gE hlt2]
     repeat' apply And.intro
     all_goals first | omega | trivial
    refine sw_cond rfl (fun c6 => ?_) (fun c6 => ?_)
    ·replace c6 : ¬ a[i] = b[i] := by intro e; simp [gE hlt, gE hlt2, e] at c6
     refine sw_seq (xr hP 6 rfl (sw_ret ⟨.inl rfl, _, rfl, ?_⟩))
     have hv := eqL_hit hlt hlt2 hgo c6
     simp [conj, hv]
    ·replace c6 : a[i] = b[i] := by
       have h := c6
       simp [gE hlt, gE hlt2] at h
       exact Prod.ext h.1 h.2
     refine sw_skip (xr hP 6 rfl (⟨i + 1, ?_, ?_, ent_ok rfl ?_⟩))
     ·exact ⟨hlt, eqL_next hlt hlt2 hgo c6⟩
     ·omega
     ·simp [conj]
   ·obtain rfl : i = a.length := by simp at c4; omega
    refine sw_exit (sw_seq (xr hP 5 rfl (sw_ret ⟨.inl rfl, _, rfl, ?_⟩)))
    have hv := eqL_end c1 hgo
    simp [conj, hv]
def cEqRoot : Ctr := ⟨26, [.val true T_Root (.all .b), .val true T_Root (.all .b)], fun x => True, fun x => (sBool (decide ((x.1 : Root_) = x.2.1)), [])⟩
theorem cEqRoot_ok : CtrOk Proofs.Tryz.prog cEqRoot := by
 have hP := ((Prg.none ttok mtok).and cEqVols_ok)
 refine ctr_of_body hP cEqRoot (fn := Proofs.Tryz.f26) (rts := [.tmp 4]) Proofs.Tryz.func26 rfl (by kernel_rfl) rfl rfl ?_
 rintro ⟨⟨(tg : Int), (l : List Vol_)⟩, ⟨(tg2 : Int), (l2 : List Vol_)⟩, ⟨⟩⟩ _ _
 try dsimp only [Ty.den, Mode.den, mdens] at _
 refine ⟨rfl, ?_⟩
 refine sw_seq (xr hP 1 rfl (sw_seq (sw_seq (xr hP 2 rfl (sw_cond rfl (fun c1 => ?_) (fun c1 => ?_))))))
 ·replace c1 : ¬ tg = tg2 := by simpa using c1
  refine sw_seq (xr hP 3 rfl (sw_ret ⟨.inl rfl, _, rfl, ?_⟩))
  simp [conj, *]
 ·replace c1 : tg = tg2 := by simpa using c1
  refine sw_skip (sw_seq (sw_seq (xg hP 3 [] rfl ?_ ?_)))
  ·simp [conj, maxL]
   try dsimp only [Ty.den, Ty.dflt]
   try simp only [rd_eta]
   trivial
  refine sw_cond rfl (fun c3 => ?_) (fun c3 => ?_)
  ·replace c3 : ¬ l = l2 := by simpa using c3
   refine sw_seq (xr hP 4 rfl (sw_ret ⟨.inl rfl, _, rfl, ?_⟩))
   simp [conj, *]
  ·replace c3 : l = l2 := by simpa using c3
   refine sw_skip (sw_seq (xr hP 4 rfl (sw_ret ⟨.inl rfl, _, rfl, ?_⟩)))
   simp [conj, *]
end Go.Sx

namespace Go.Sx
open Go
set_option maxRecDepth 100000
set_option linter.unusedVariables false
set_option linter.unusedSimpArgs false
abbrev drv (st : Int) (t : Drv) (a : At) : List At := [.d TI pF st, .d (.arr 12 .bool) pF t.2.2, .d (.arr 12 .str) pF t.1, .d (.arr 2 .str) pF t.2.1, a]
abbrev putA_ (p : Put) : SV := .v true [.d .bool pF p.1, .d TI pF p.2.1, .d .str pF p.2.2]
def cState : Ctr := ⟨36, [.val false TI pF], fun _ => True, fun x => (sBool (stV x.1), [])⟩
theorem cState_ok : CtrOk Proofs.Tryz.prog cState := by
 have hP := (Prg.none ttok mtok)
 refine ctr_of_body hP cState (fn := Proofs.Tryz.f36) (rts := [.tmp 2]) Proofs.Tryz.func36 rfl (by kernel_rfl) rfl rfl ?_
 rintro ⟨(n : Int), ⟨⟩⟩ _ hpre
 try dsimp only [Ty.den, Mode.den, mdens] at hpre
 refine ⟨rfl, ?_⟩
 refine sw_seq (xr hP 1 rfl (sw_seq ?_))
 refine sw_dec hP 2 [] 2 rfl (fun g1_2 => ?_) (fun g1_2 => ?_)
 ·refine xd hP 2 [(2, true)] rfl (sw_ret ⟨.inl rfl, _, rfl, ?_⟩)
  simp [conj, stV] at *
  try omega
 ·refine xd hP 2 [(2, false)] rfl (sw_ret ⟨.inl rfl, _, rfl, ?_⟩)
  simp [conj, stV] at *
  try omega
def cWaits (st : Int) (t : Drv) (l : List Put) (d c : Id) : Xctr := ⟨59, [], [(d, ⟨0, 0, 0⟩, .lvar (drv st t (.chp ⟨0, 0, 1⟩ 0))), (c, ⟨0, 0, 1⟩, .ch false T_Put l)], [.v false [.ptr ⟨0, 0, 0⟩ 0]],
  (.v false [.own ⟨1, 0, 0⟩], [(⟨1, 0, 0⟩, .sl T_Put (.all .w) l)])⟩
theorem cWaits_ok {st : Int} {t : Drv} {l : List Put} {d c : Id} (hl : l.length ≤ 1000) : XOk Proofs.Tryz.prog (cWaits st t l d c) := by
 have hP := (Prg.none ttok mtok)
 refine xctr_of_body hP (cWaits st t l d c) (fn := Proofs.Tryz.f59) (rts := [.tmp 2]) Proofs.Tryz.func59 rfl (by kernel_rfl) rfl rfl ?_
 refine ⟨rfl, ?_⟩
 refine sw_seq (xr hP 1 rfl (sw_seq (xr hP 2 rfl (sw_seq (sw_seq (xr hP 3 rfl (sw_block (sw_loop (ι := Nat) (fun i => ⟨[.j, .j, .j, .v false [.own ⟨0, 9, 0⟩], .v false [.chp ⟨0, 0, 1⟩ i], .j, .j, .j, .j, .j, .j, .j, .j, .j, .j, .j, .j, .j, .j, .j, .j, .j, .j], [(⟨0, 0, 0⟩, .lvar (drv st t (.chp ⟨0, 0, 1⟩ 0))), (⟨0, 0, 1⟩, .ch false T_Put l), (⟨0, 9, 0⟩, .sl T_Put (.all .w) (l.take i))], 3, [[.v false [.ptr ⟨0, 0, 0⟩ 0]]]⟩) (fun i => l.length - i) (fun i => i ≤ l.length) 0 ⟨?_, ?_⟩ ?_))))))))
 ·exact Nat.zero_le _
 ·refine ent_ok rfl ?_
  first | trivial | (simp [conj]; done) | (simp [conj] at *; (try dsimp only [Ty.den, Ty.dflt] at *); omega)
 ·rintro i hi
  refine sw_seq (sw_seq (xg hP 4 [] rfl ?_ ?_))
  ·simp [conj]
   exact hi
  refine sw_cond rfl (fun c3 => ?_) (fun c3 => ?_)
  ·have hlt : i < l.length := by simp at c3; omega
   refine sw_skip (sw_seq (sw_block (xg hP 5 [] rfl ?_ ?_)))
   ·simp [conj, maxL]
    omega
   refine xg hP 6 [] rfl ?_ ?_
   ·simp [conj, maxL]
    try dsimp only [Ty.den, Ty.dflt]
    try simp only [rd_eta]
    repeat' apply And.intro
    all_goals first | rfl | assumption | omega
   refine ⟨i + 1, ?_, ?_, ent_ok rfl ?_⟩
   ·exact hlt
   ·omega
   ·simp [conj]
    exact take_next hlt
  ·obtain rfl : i = l.length := by simp at c3; omega
   refine sw_exit (sw_seq (xr hP 5 rfl (sw_ret ⟨.inl rfl, _, rfl, ?_⟩)))
   simp [conj]
end Go.Sx

namespace Go.Sx
open Go
set_option maxRecDepth 100000
set_option linter.unusedVariables false
set_option linter.unusedSimpArgs false
def cCloneO : Ctr := ⟨57, [.val false (.sl .str) (.all .b)], fun x => List.length x.1 ≤ 1099511627776, fun x => (.v false [.own ⟨1, 0, 0⟩], [(⟨1, 0, 0⟩, .sl .str (.all .w) x.1)])⟩
theorem cCloneO_ok : CtrOk Proofs.Tryz.prog cCloneO := by
 have hP := (Prg.none ttok mtok)
 refine ctr_of_body hP cCloneO (fn := Proofs.Tryz.f57) (rts := [.tmp 2]) Proofs.Tryz.func57 rfl (by kernel_rfl) rfl rfl ?_
 rintro ⟨(l : List Str), ⟨⟩⟩ ⟨hdl, _⟩ hpre
 try dsimp only [Ty.den, Mode.den, mdens] at hpre
 refine ⟨rfl, ?_⟩
 have hml : l.length ≤ 1099511627776 := hpre
 refine sw_seq (xr hP 1 rfl (sw_seq (sw_seq (xr hP 2 rfl (sw_condA rfl (fun c1 => ?_) ?_)))))
 ·obtain rfl : l = [] := List.eq_nil_of_length_eq_zero c1
  refine sw_seq (xr hP 3 rfl (sw_ret ⟨.inl rfl, _, rfl, ?_⟩))
  first | trivial | (simp [conj]; done) | (simp [conj] at *; (try dsimp only [Ty.den, Ty.dflt] at *); omega)
 ·refine sw_skip (sw_seq (xg hP 3 [] rfl ?_ ?_))
  ·simp [conj, maxL]
   try dsimp only [Ty.den, Ty.dflt]
   try simp only [rd_eta]
   omega
  refine sw_ret ⟨.inl rfl, _, rfl, ?_⟩
  first | trivial | (simp [conj]; done) | (simp [conj] at *; (try dsimp only [Ty.den, Ty.dflt] at *); omega)
def cCloneB : Ctr := ⟨58, [.val false (.sl .bool) (.all .b)], fun x => List.length x.1 ≤ 1099511627776, fun x => (.v false [.own ⟨1, 0, 0⟩], [(⟨1, 0, 0⟩, .sl .bool (.all .w) x.1)])⟩
theorem cCloneB_ok : CtrOk Proofs.Tryz.prog cCloneB := by
 have hP := (Prg.none ttok mtok)
 refine ctr_of_body hP cCloneB (fn := Proofs.Tryz.f58) (rts := [.tmp 2]) Proofs.Tryz.func58 rfl (by kernel_rfl) rfl rfl ?_
 rintro ⟨(l : List Bool), ⟨⟩⟩ ⟨hdl, _⟩ hpre
 try dsimp only [Ty.den, Mode.den, mdens] at hpre
 refine ⟨rfl, ?_⟩
 have hml : l.length ≤ 1099511627776 := hpre
 refine sw_seq (xr hP 1 rfl (sw_seq (sw_seq (xr hP 2 rfl (sw_condA rfl (fun c1 => ?_) ?_)))))
 ·obtain rfl : l = [] := List.eq_nil_of_length_eq_zero c1
  refine sw_seq (xr hP 3 rfl (sw_ret ⟨.inl rfl, _, rfl, ?_⟩))
  first | trivial | (simp [conj]; done) | (simp [conj] at *; (try dsimp only [Ty.den, Ty.dflt] at *); omega)
 ·refine sw_skip (sw_seq (xg hP 3 [] rfl ?_ ?_))
  ·simp [conj, maxL]
   try dsimp only [Ty.den, Ty.dflt]
   try simp only [rd_eta]
   omega
  refine sw_ret ⟨.inl rfl, _, rfl, ?_⟩
  first | trivial | (simp [conj]; done) | (simp [conj] at *; (try dsimp only [Ty.den, Ty.dflt] at *); omega)
def cDisk (st : Int) (t : Drv) (l : List Put) (d c : Id) : Xctr := ⟨37, [], [(d, ⟨0, 0, 0⟩, .lvar (drv st t (.chp ⟨0, 0, 1⟩ 0))), (c, ⟨0, 0, 1⟩, .ch false T_Put l)], [.v false [.ptr ⟨0, 0, 0⟩ 0]],
  (.v true [.d TI pF st, .own ⟨1, 0, 0⟩, .own ⟨1, 1, 0⟩, .own ⟨1, 2, 0⟩, .own ⟨1, 3, 0⟩], [(⟨1, 0, 0⟩, .sl .str (.all .w) t.1), (⟨1, 1, 0⟩, .sl .str (.all .w) t.2.1), (⟨1, 2, 0⟩, .sl .bool (.all .w) t.2.2), (⟨1, 3, 0⟩, .sl T_Put (.all .w) l)])⟩
theorem cDisk_ok {st : Int} {t : Drv} {l : List Put} {d c : Id} (hl : l.length ≤ 1000) (ht : t.ok) : XOk Proofs.Tryz.prog (cDisk st t l d c) := by
 have hP := ((((Prg.none ttok mtok).and cCloneO_ok).and cCloneB_ok).andX (cWaits_ok (st := st) (t := t) (d := ⟨0, 0, 0⟩) (c := ⟨0, 0, 1⟩) hl))
 refine xctr_of_body hP (cDisk st t l d c) (fn := Proofs.Tryz.f37) (rts := [.cell 2 49]) Proofs.Tryz.func37 rfl (by kernel_rfl) rfl rfl ?_
 refine ⟨rfl, ?_⟩
 obtain ⟨h1, h2, h3⟩ := ht
 refine sw_seq (xr hP 1 rfl (sw_seq (xg hP 2 [] rfl ?_ ?_)))
 ·simp only [conj, List.nil_append, List.cons_append, List.append_nil, List.append_assoc, inR_i64, true_and, and_true, Int.toNat_natCast]
  try dsimp only [Ty.den, Ty.dflt]
  repeat' apply And.intro
  all_goals first | rfl | (show List.length t.1 ≤ 1099511627776; omega) | (show List.length t.2.1 ≤ 1099511627776; omega) | (show List.length t.2.2 ≤ 1099511627776; omega) | omega | assumption | trivial
 refine sw_ret ⟨.inl rfl, _, rfl, ?_⟩
 simp [conj]
end Go.Sx

namespace Go.Sx
open Go
set_option maxRecDepth 100000
set_option linter.unusedVariables false
set_option linter.unusedSimpArgs false
end Go.Sx

namespace Go.Sx
open Go
set_option maxRecDepth 100000
set_option linter.unusedVariables false
set_option linter.unusedSimpArgs false
end Go.Sx

namespace Go.Sx
open Go
set_option maxRecDepth 100000
set_option linter.unusedVariables false
set_option linter.unusedSimpArgs false
end Go.Sx

namespace Go.Sx
open Go
set_option maxRecDepth 100000
set_option linter.unusedVariables false
set_option linter.unusedSimpArgs false
set_option maxHeartbeats 2000000
def cInD : Ctr := ⟨34, [.val false TI pF, .val false TI pF, .val false TI pF], fun _ => True, fun x => (sBool (inVD x.1 x.2.1 x.2.2.1), [])⟩
theorem cIn_okD : CtrOk Proofs.Tryz.prog cInD := by
 have hP := (Prg.none ttok mtok)
 refine ctr_of_body hP cInD (fn := Proofs.Tryz.f34) (rts := [.tmp 6]) Proofs.Tryz.func34 rfl (by kernel_rfl) rfl rfl ?_
 rintro ⟨(n : Int), (a : Int), (b : Int), ⟨⟩⟩ _ hpre
 try dsimp only [Ty.den, Mode.den, mdens] at hpre
 refine ⟨rfl, ?_⟩
 refine sw_seq (xr hP 1 rfl (sw_seq ?_))
 refine sw_dec hP 2 [] 3 rfl (fun g1_3 => ?_) (fun g1_3 => ?_)
 ·refine xd hP 2 [(3, true)] rfl (sw_ret ⟨.inl rfl, _, rfl, ?_⟩)
  simp [conj, inVD] at *
  first | done | omega | (intros; omega)
 ·refine xd hP 2 [(3, false)] rfl (sw_ret ⟨.inl rfl, _, rfl, ?_⟩)
  simp [conj, inVD] at *
  first | done | omega | (intros; omega)
end Go.Sx

namespace Go.Sx
open Go
set_option maxRecDepth 100000
set_option linter.unusedVariables false
set_option linter.unusedSimpArgs false
set_option maxHeartbeats 2000000
def cComeS : Ctr := ⟨20, [.own true T_Disk (.all .w), .val true T_Put pF], fun x => putV x.2.1 = true ∧ (drvOf x.1).ok, fun x => (.v true [.d TI pF (comeD x.1 x.2.1).1, .own ⟨1, 0, 0⟩, .own ⟨1, 1, 0⟩, .own ⟨1, 2, 0⟩, .own ⟨1, 3, 0⟩], [(⟨1, 0, 0⟩, .sl .str (.all .w) (comeD x.1 x.2.1).2.1), (⟨1, 1, 0⟩, .sl .str (.all .w) (comeD x.1 x.2.1).2.2.1), (⟨1, 2, 0⟩, .sl .bool (.all .w) (comeD x.1 x.2.1).2.2.2.1), (⟨1, 3, 0⟩, .sl T_Put (.all .w) (comeD x.1 x.2.1).2.2.2.2)])⟩
theorem cComeS_ok : CtrOk Proofs.Tryz.prog cComeS := by
 have hP := (Prg.none ttok mtok)
 refine ctr_of_body hP cComeS (fn := Proofs.Tryz.f20) (rts := [.cell 4 49]) Proofs.Tryz.func20 rfl (by kernel_rfl) rfl rfl ?_
 rintro ⟨⟨(st : Int), (sl : List Str), (rg : List Str), (sp : List Bool), (wt : List Put)⟩, ⟨(rn : Bool), (at_ : Int), (tx : Str)⟩, ⟨⟩⟩ _ ⟨hp, ho1, ho2, ho3⟩
 try dsimp only [Ty.den, Mode.den, mdens] at hp
 try dsimp only [Ty.den, Mode.den, mdens] at ho1
 try dsimp only [Ty.den, Mode.den, mdens] at ho2
 try dsimp only [Ty.den, Mode.den, mdens] at ho3
 refine ⟨rfl, ?_⟩
 dsimp only [drvOf] at ho1 ho2 ho3
 refine sw_seq (xr hP 1 rfl (sw_seq (sw_seq (xr hP 2 rfl (sw_cond rfl (fun c1 => ?_) (fun c1 => ?_))))))
 ·replace c1 : rn = true := c1
  obtain ⟨h0, h1, h2⟩ := putV_ring hp c1
  dsimp only at h0 h1 h2
  have hv := come_ring (p := (rn, at_, tx)) (t := (sl, rg, sp)) c1
  refine sw_seq (xg hP 3 [] rfl ?_ ?_)
  ·simp only [conj, List.nil_append, List.cons_append, List.append_nil, List.append_assoc, inR_i64, true_and, and_true, Int.toNat_natCast]
   try dsimp only [Ty.den, Ty.dflt]
   repeat' apply And.intro
   all_goals first | rfl | omega | assumption | trivial
  refine sw_seq (xr hP 4 rfl (sw_ret ⟨.inl rfl, _, rfl, ?_⟩))
  simp [conj, comeD, dskOf, drvOf, hv]
 ·replace c1 : rn = false := c1
  obtain ⟨h0, h1, h2⟩ := putV_slot hp c1
  dsimp only at h0 h1 h2
  have hv := come_slot (p := (rn, at_, tx)) (t := (sl, rg, sp)) c1
  refine sw_skip (sw_seq (xg hP 3 [] rfl ?_ ?_))
  ·simp only [conj, List.nil_append, List.cons_append, List.append_nil, List.append_assoc, inR_i64, true_and, and_true, Int.toNat_natCast]
   try dsimp only [Ty.den, Ty.dflt]
   repeat' apply And.intro
   all_goals first | rfl | omega | assumption | trivial
  refine sw_seq (xg hP 4 [] rfl ?_ ?_)
  ·simp only [conj, List.nil_append, List.cons_append, List.append_nil, List.append_assoc, inR_i64, true_and, and_true, Int.toNat_natCast]
   try dsimp only [Ty.den, Ty.dflt]
   repeat' apply And.intro
   all_goals first | rfl | omega | assumption | trivial
  refine sw_seq (xr hP 5 rfl (sw_ret ⟨.inl rfl, _, rfl, ?_⟩))
  simp [conj, comeD, dskOf, drvOf, hv]
end Go.Sx

namespace Go.Sx
open Go
set_option maxRecDepth 100000
set_option linter.unusedVariables false
set_option linter.unusedSimpArgs false
set_option maxHeartbeats 2000000
def cEqS : Ctr := ⟨64, [.val false (.sl .str) (.all .b), .val false (.sl .str) (.all .b)], fun _ => True, fun x => (sBool (decide ((x.1 : List Str) = x.2.1)), [])⟩
theorem cEqS_ok : CtrOk Proofs.Tryz.prog cEqS := by
 have hP := (Prg.none ttok mtok)
 refine ctr_of_body hP cEqS (fn := Proofs.Tryz.f64) (rts := [.tmp 4]) Proofs.Tryz.func64 rfl (by kernel_rfl) rfl rfl ?_
 rintro ⟨(a : List Str), (b : List Str), ⟨⟩⟩ ⟨hda, hdb, _⟩ hpre
 try dsimp only [Ty.den, Mode.den, mdens] at hpre
 refine ⟨rfl, ?_⟩
 have hml : a.length ≤ 140737488355328 := hda.1
 have hmb : b.length ≤ 140737488355328 := hdb.1
 refine sw_seq (xr hP 1 rfl (sw_seq (sw_seq (xr hP 2 rfl (sw_cond rfl (fun c1 => ?_) (fun c1 => ?_))))))
 ·replace c1 : ¬ a.length = b.length := by simp at c1; omega
  refine sw_seq (xr hP 3 rfl (sw_ret ⟨.inl rfl, _, rfl, ?_⟩))
  exact (eq_len' c1).symm
 ·replace c1 : a.length = b.length := by simp at c1; omega
  refine sw_skip (sw_seq (sw_seq (xr hP 3 rfl (sw_block (sw_loop (ι := Nat) (fun i => ⟨[.v false [.d (.sl .str) (.all .b) a], .v false [.d (.sl .str) (.all .b) b], .j, .j, .j, sInt .i64 (i : Int), .j, .j, .j, .j, .j, .j, .j, .j, .j, .j, .j, .j, .j, .j, .j, .j, .j, .j, .j, .j], [], 3, []⟩) (fun i => a.length - i) (fun i => i ≤ a.length ∧ decide (a.drop i = b.drop i) = decide (a = b)) 0 ⟨?_, ?_⟩ ?_)))))
  ·exact ⟨Nat.zero_le _, rfl⟩
  ·refine ent_ok rfl ?_
   first | trivial | (simp [conj]; done) | (simp [conj] at *; (try dsimp only [Ty.den, Ty.dflt] at *); omega)
  ·rintro i ⟨hi, hgo⟩
   refine sw_seq (sw_seq (xr hP 4 rfl (sw_cond rfl (fun c4 => ?_) (fun c4 => ?_))))
   ·have hlt : i < a.length := by simpa using c4
    have hlt2 : i < b.length := by omega
    refine sw_skip (sw_seq (sw_block (sw_seq (xg hP 5 [] rfl ?_ ?_))))
    ·simp [conj, maxL]
     try dsimp only [Ty.den, Ty.dflt]
     try simp only [rd_eta]
     repeat' apply And.intro
     all_goals first | rfl | assumption | omega | trivial
    refine sw_cond rfl (fun c6 => ?_) (fun c6 => ?_)
    ·replace c6 : ¬ a[i] = b[i] := by have h := c6; simp [gE hlt, gE hlt2] at h; first | exact h | (intro e; rw [e] at h; simp at h) | (intro e; exact h (by rw [e]) )
     refine sw_seq (xr hP 6 rfl (sw_ret ⟨.inl rfl, _, rfl, ?_⟩))
     exact (eq_hit' hlt hlt2 hgo c6).symm
    ·replace c6 : a[i] = b[i] := by have h := c6; simp [gE hlt, gE hlt2] at h; first | exact h | exact Prod.ext h.1 (Prod.ext h.2.1 h.2.2)
     refine sw_skip (xr hP 6 rfl (⟨i + 1, ?_, ?_, ent_ok rfl ?_⟩))
     ·exact ⟨hlt, eq_next' hlt hlt2 hgo c6⟩
     ·omega
     ·simp [conj]
   ·obtain rfl : i = a.length := by simp at c4; omega
    refine sw_exit (sw_seq (xr hP 5 rfl (sw_ret ⟨.inl rfl, _, rfl, ?_⟩)))
    exact (eq_end' c1 hgo).symm
def cEqB : Ctr := ⟨65, [.val false (.sl .bool) (.all .b), .val false (.sl .bool) (.all .b)], fun _ => True, fun x => (sBool (decide ((x.1 : List Bool) = x.2.1)), [])⟩
theorem cEqB_ok : CtrOk Proofs.Tryz.prog cEqB := by
 have hP := (Prg.none ttok mtok)
 refine ctr_of_body hP cEqB (fn := Proofs.Tryz.f65) (rts := [.tmp 4]) Proofs.Tryz.func65 rfl (by kernel_rfl) rfl rfl ?_
 rintro ⟨(a : List Bool), (b : List Bool), ⟨⟩⟩ ⟨hda, hdb, _⟩ hpre
 try dsimp only [Ty.den, Mode.den, mdens] at hpre
 refine ⟨rfl, ?_⟩
 have hml : a.length ≤ 140737488355328 := hda.1
 have hmb : b.length ≤ 140737488355328 := hdb.1
 refine sw_seq (xr hP 1 rfl (sw_seq (sw_seq (xr hP 2 rfl (sw_cond rfl (fun c1 => ?_) (fun c1 => ?_))))))
 ·replace c1 : ¬ a.length = b.length := by simp at c1; omega
  refine sw_seq (xr hP 3 rfl (sw_ret ⟨.inl rfl, _, rfl, ?_⟩))
  exact (eq_len' c1).symm
 ·replace c1 : a.length = b.length := by simp at c1; omega
  refine sw_skip (sw_seq (sw_seq (xr hP 3 rfl (sw_block (sw_loop (ι := Nat) (fun i => ⟨[.v false [.d (.sl .bool) (.all .b) a], .v false [.d (.sl .bool) (.all .b) b], .j, .j, .j, sInt .i64 (i : Int), .j, .j, .j, .j, .j, .j, .j, .j, .j, .j, .j, .j, .j, .j, .j, .j, .j, .j, .j, .j], [], 3, []⟩) (fun i => a.length - i) (fun i => i ≤ a.length ∧ decide (a.drop i = b.drop i) = decide (a = b)) 0 ⟨?_, ?_⟩ ?_)))))
  ·exact ⟨Nat.zero_le _, rfl⟩
  ·refine ent_ok rfl ?_
   first | trivial | (simp [conj]; done) | (simp [conj] at *; (try dsimp only [Ty.den, Ty.dflt] at *); omega)
  ·rintro i ⟨hi, hgo⟩
   refine sw_seq (sw_seq (xr hP 4 rfl (sw_cond rfl (fun c4 => ?_) (fun c4 => ?_))))
   ·have hlt : i < a.length := by simpa using c4
    have hlt2 : i < b.length := by omega
    refine sw_skip (sw_seq (sw_block (sw_seq (xg hP 5 [] rfl ?_ ?_))))
    ·simp [conj, maxL]
     try dsimp only [Ty.den, Ty.dflt]
     try simp only [rd_eta]
     repeat' apply And.intro
     all_goals first | rfl | assumption | omega | trivial
    refine sw_cond rfl (fun c6 => ?_) (fun c6 => ?_)
    ·replace c6 : ¬ a[i] = b[i] := by have h := c6; simp [gE hlt, gE hlt2] at h; first | exact h | (intro e; rw [e] at h; simp at h) | (intro e; exact h (by rw [e]) )
     refine sw_seq (xr hP 6 rfl (sw_ret ⟨.inl rfl, _, rfl, ?_⟩))
     exact (eq_hit' hlt hlt2 hgo c6).symm
    ·replace c6 : a[i] = b[i] := by have h := c6; simp [gE hlt, gE hlt2] at h; first | exact h | exact Prod.ext h.1 (Prod.ext h.2.1 h.2.2)
     refine sw_skip (xr hP 6 rfl (⟨i + 1, ?_, ?_, ent_ok rfl ?_⟩))
     ·exact ⟨hlt, eq_next' hlt hlt2 hgo c6⟩
     ·omega
     ·simp [conj]
   ·obtain rfl : i = a.length := by simp at c4; omega
    refine sw_exit (sw_seq (xr hP 5 rfl (sw_ret ⟨.inl rfl, _, rfl, ?_⟩)))
    exact (eq_end' c1 hgo).symm
def cEqP1 : Ctr := ⟨77, [.val true T_Put pF, .val true T_Put pF], fun _ => True, fun x => (sBool (decide ((x.1 : Put) = x.2.1)), [])⟩
theorem cEqP1_ok : CtrOk Proofs.Tryz.prog cEqP1 := by
 have hP := (Prg.none ttok mtok)
 refine ctr_of_body hP cEqP1 (fn := Proofs.Tryz.f77) (rts := [.tmp 4]) Proofs.Tryz.func77 rfl (by kernel_rfl) rfl rfl ?_
 rintro ⟨⟨(r1 : Bool), (a1 : Int), (t1 : Str)⟩, ⟨(r2 : Bool), (a2 : Int), (t2 : Str)⟩, ⟨⟩⟩ _ hpre
 try dsimp only [Ty.den, Mode.den, mdens] at hpre
 refine ⟨rfl, ?_⟩
 refine sw_seq (xr hP 1 rfl (sw_seq (sw_seq (xr hP 2 rfl (sw_cond rfl (fun c1 => ?_) (fun c1 => ?_))))))
 ·replace c1 : ¬ r1 = r2 := by simpa using c1
  refine sw_seq (xr hP 3 rfl (sw_ret ⟨.inl rfl, _, rfl, ?_⟩))
  simp_all [conj]
 ·replace c1 : r1 = r2 := by simpa using c1
  refine sw_skip (sw_seq (sw_seq (xr hP 3 rfl (sw_cond rfl (fun c3 => ?_) (fun c3 => ?_)))))
  ·replace c3 : ¬ a1 = a2 := by simpa using c3
   refine sw_seq (xr hP 4 rfl (sw_ret ⟨.inl rfl, _, rfl, ?_⟩))
   simp_all [conj]
  ·replace c3 : a1 = a2 := by simpa using c3
   refine sw_skip (sw_seq (sw_seq (xr hP 4 rfl (sw_cond rfl (fun c5 => ?_) (fun c5 => ?_)))))
   ·replace c5 : ¬ t1 = t2 := by simpa using c5
    refine sw_seq (xr hP 5 rfl (sw_ret ⟨.inl rfl, _, rfl, ?_⟩))
    simp_all [conj]
   ·replace c5 : t1 = t2 := by simpa using c5
    refine sw_skip (sw_seq (xr hP 5 rfl (sw_ret ⟨.inl rfl, _, rfl, ?_⟩)))
    simp_all [conj]
def cEqP : Ctr := ⟨66, [.val false (.sl T_Put) (.all .b), .val false (.sl T_Put) (.all .b)], fun _ => True, fun x => (sBool (decide ((x.1 : List Put) = x.2.1)), [])⟩
theorem cEqP_ok : CtrOk Proofs.Tryz.prog cEqP := by
 have hP := ((Prg.none ttok mtok).and cEqP1_ok)
 refine ctr_of_body hP cEqP (fn := Proofs.Tryz.f66) (rts := [.tmp 4]) Proofs.Tryz.func66 rfl (by kernel_rfl) rfl rfl ?_
 rintro ⟨(a : List Put), (b : List Put), ⟨⟩⟩ ⟨hda, hdb, _⟩ hpre
 try dsimp only [Ty.den, Mode.den, mdens] at hpre
 refine ⟨rfl, ?_⟩
 have hml : a.length ≤ 140737488355328 := hda.1
 have hmb : b.length ≤ 140737488355328 := hdb.1
 refine sw_seq (xr hP 1 rfl (sw_seq (sw_seq (xr hP 2 rfl (sw_cond rfl (fun c1 => ?_) (fun c1 => ?_))))))
 ·replace c1 : ¬ a.length = b.length := by simp at c1; omega
  refine sw_seq (xr hP 3 rfl (sw_ret ⟨.inl rfl, _, rfl, ?_⟩))
  exact (eq_len' c1).symm
 ·replace c1 : a.length = b.length := by simp at c1; omega
  refine sw_skip (sw_seq (sw_seq (xr hP 3 rfl (sw_block (sw_loop (ι := Nat) (fun i => ⟨[.v false [.d (.sl T_Put) (.all .b) a], .v false [.d (.sl T_Put) (.all .b) b], .j, .j, .j, sInt .i64 (i : Int), .j, .j, .j, .j, .j, .j, .j, .j, .j, .j, .j, .j, .j, .j, .j, .j, .j, .j, .j, .j, .j], [], 3, []⟩) (fun i => a.length - i) (fun i => i ≤ a.length ∧ decide (a.drop i = b.drop i) = decide (a = b)) 0 ⟨?_, ?_⟩ ?_)))))
  ·exact ⟨Nat.zero_le _, rfl⟩
  ·refine ent_ok rfl ?_
   first | trivial | (simp [conj]; done) | (simp [conj] at *; (try dsimp only [Ty.den, Ty.dflt] at *); omega)
  ·rintro i ⟨hi, hgo⟩
   refine sw_seq (sw_seq (xr hP 4 rfl (sw_cond rfl (fun c4 => ?_) (fun c4 => ?_))))
   ·have hlt : i < a.length := by simpa using c4
    have hlt2 : i < b.length := by omega
    refine sw_skip (sw_seq (sw_block (sw_seq (xg hP 5 [] rfl ?_ ?_))))
    ·simp [conj, maxL]
     try dsimp only [Ty.den, Ty.dflt]
     try simp only [rd_eta]
     repeat' apply And.intro
     all_goals first | rfl | assumption | omega | trivial
    refine sw_cond rfl (fun c6 => ?_) (fun c6 => ?_)
    ·replace c6 : ¬ a[i] = b[i] := by have h := c6; simp [gE hlt, gE hlt2] at h; first | exact h | (intro e; rw [e] at h; simp at h) | (intro e; exact h (by rw [e]) )
     refine sw_seq (xr hP 6 rfl (sw_ret ⟨.inl rfl, _, rfl, ?_⟩))
     exact (eq_hit' hlt hlt2 hgo c6).symm
    ·replace c6 : a[i] = b[i] := by have h := c6; simp [gE hlt, gE hlt2] at h; first | exact h | exact Prod.ext h.1 (Prod.ext h.2.1 h.2.2)
     refine sw_skip (xr hP 6 rfl (⟨i + 1, ?_, ?_, ent_ok rfl ?_⟩))
     ·exact ⟨hlt, eq_next' hlt hlt2 hgo c6⟩
     ·omega
     ·simp [conj]
   ·obtain rfl : i = a.length := by simp at c4; omega
    refine sw_exit (sw_seq (xr hP 5 rfl (sw_ret ⟨.inl rfl, _, rfl, ?_⟩)))
    exact (eq_end' c1 hgo).symm
def cEqD : Ctr := ⟨41, [.val true T_Disk (.all .b), .val true T_Disk (.all .b)], fun _ => True, fun x => (sBool (eqDV x.1 x.2.1), [])⟩
theorem cEqD_ok : CtrOk Proofs.Tryz.prog cEqD := by
 have hP := ((((Prg.none ttok mtok).and cEqS_ok).and cEqB_ok).and cEqP_ok)
 refine ctr_of_body hP cEqD (fn := Proofs.Tryz.f41) (rts := [.tmp 4]) Proofs.Tryz.func41 rfl (by kernel_rfl) rfl rfl ?_
 rintro ⟨⟨(st : Int), (sl : List Str), (rg : List Str), (sp : List Bool), (wt : List Put)⟩, ⟨(st2 : Int), (sl2 : List Str), (rg2 : List Str), (sp2 : List Bool), (wt2 : List Put)⟩, ⟨⟩⟩ _ hpre
 try dsimp only [Ty.den, Mode.den, mdens] at hpre
 refine ⟨rfl, ?_⟩
 refine sw_seq (xr hP 1 rfl (sw_seq (sw_seq (xr hP 2 rfl (sw_cond rfl (fun c1 => ?_) (fun c1 => ?_))))))
 ·replace c1 : ¬ st = st2 := by simpa using c1
  refine sw_seq (xr hP 3 rfl (sw_ret ⟨.inl rfl, _, rfl, ?_⟩))
  simp [conj, eqDV, *]
 ·replace c1 : st = st2 := by simpa using c1
  refine sw_skip (sw_seq (sw_seq (xg hP 3 [] rfl ?_ ?_)))
  ·simp [conj, maxL]
   try dsimp only [Ty.den, Ty.dflt]
   try simp only [rd_eta]
   trivial
  refine sw_cond rfl (fun c3 => ?_) (fun c3 => ?_)
  ·replace c3 : ¬ sl = sl2 := by simpa using c3
   refine sw_seq (xr hP 4 rfl (sw_ret ⟨.inl rfl, _, rfl, ?_⟩))
   simp [conj, eqDV, *]
  ·replace c3 : sl = sl2 := by simpa using c3
   refine sw_skip (sw_seq (sw_seq (xg hP 4 [] rfl ?_ ?_)))
   ·simp [conj, maxL]
    try dsimp only [Ty.den, Ty.dflt]
    try simp only [rd_eta]
    trivial
   refine sw_cond rfl (fun c5 => ?_) (fun c5 => ?_)
   ·replace c5 : ¬ rg = rg2 := by simpa using c5
    refine sw_seq (xr hP 5 rfl (sw_ret ⟨.inl rfl, _, rfl, ?_⟩))
    simp [conj, eqDV, *]
   ·replace c5 : rg = rg2 := by simpa using c5
    refine sw_skip (sw_seq (sw_seq (xg hP 5 [] rfl ?_ ?_)))
    ·simp [conj, maxL]
     try dsimp only [Ty.den, Ty.dflt]
     try simp only [rd_eta]
     trivial
    refine sw_cond rfl (fun c7 => ?_) (fun c7 => ?_)
    ·replace c7 : ¬ sp = sp2 := by simpa using c7
     refine sw_seq (xr hP 6 rfl (sw_ret ⟨.inl rfl, _, rfl, ?_⟩))
     simp [conj, eqDV, *]
    ·replace c7 : sp = sp2 := by simpa using c7
     refine sw_skip (sw_seq (sw_seq (xg hP 6 [] rfl ?_ ?_)))
     ·simp [conj, maxL]
      try dsimp only [Ty.den, Ty.dflt]
      try simp only [rd_eta]
      trivial
     refine sw_cond rfl (fun c9 => ?_) (fun c9 => ?_)
     ·replace c9 : ¬ wt = wt2 := by simpa using c9
      refine sw_seq (xr hP 7 rfl (sw_ret ⟨.inl rfl, _, rfl, ?_⟩))
      simp [conj, eqDV, *]
     ·replace c9 : wt = wt2 := by simpa using c9
      refine sw_skip (sw_seq (xr hP 7 rfl (sw_ret ⟨.inl rfl, _, rfl, ?_⟩)))
      simp [conj, eqDV, *]
end Go.Sx

namespace Go.Sx
open Go
set_option maxRecDepth 100000
set_option linter.unusedVariables false
set_option linter.unusedSimpArgs false
set_option maxHeartbeats 2000000
def cEqDs : Ctr := ⟨25, [.val false (.sl T_Disk) (.all .b), .val false (.sl T_Disk) (.all .b)], fun x => True, fun x => (sBool (decide ((x.1 : List Dsk) = x.2.1)), [])⟩
theorem cEqDs_ok : CtrOk Proofs.Tryz.prog cEqDs := by
 have hP := ((Prg.none ttok mtok).and cEqD_ok)
 refine ctr_of_body hP cEqDs (fn := Proofs.Tryz.f25) (rts := [.tmp 4]) Proofs.Tryz.func25 rfl (by kernel_rfl) rfl rfl ?_
 rintro ⟨(a : List Dsk), (b : List Dsk), ⟨⟩⟩ ⟨hda, hdb, _⟩ _
 try dsimp only [Ty.den, Mode.den, mdens] at _
 refine ⟨rfl, ?_⟩
 have hml : a.length ≤ 140737488355328 := hda.1
 have hmb : b.length ≤ 140737488355328 := hdb.1
 refine sw_seq (xr hP 1 rfl (sw_seq (sw_seq (xr hP 2 rfl (sw_cond rfl (fun c1 => ?_) (fun c1 => ?_))))))
 ·replace c1 : ¬ a.length = b.length := by simp at c1; omega
  refine sw_seq (xr hP 3 rfl (sw_ret ⟨.inl rfl, _, rfl, ?_⟩))
  have hv := eqL_len c1
  simp [conj, hv]
 ·replace c1 : a.length = b.length := by simp at c1; omega
  refine sw_skip (sw_seq (sw_seq (xr hP 3 rfl (sw_block (sw_loop (ι := Nat) (fun i => ⟨[.v false [.d (.sl T_Disk) (.all .b) a], .v false [.d (.sl T_Disk) (.all .b) b], .j, .j, .j, sInt .i64 (i : Int), .j, .j, .j, .j, .j, .j, .j, .j, .j, .j, .j, .j, .j, .j, .j, .j, .j, .j, .j, .j, .j], [], 3, []⟩) (fun i => a.length - i) (fun i => i ≤ a.length ∧ decide (a.drop i = b.drop i) = decide (a = b)) 0 ⟨?_, ?_⟩ ?_)))))
  ·exact ⟨Nat.zero_le _, rfl⟩
  ·refine ent_ok rfl ?_
   first | trivial | (simp [conj]; done) | (simp [conj] at *; (try dsimp only [Ty.den, Ty.dflt] at *); omega)
  ·rintro i ⟨hi, hgo⟩
   refine sw_seq (sw_seq (xr hP 4 rfl (sw_cond rfl (fun c4 => ?_) (fun c4 => ?_))))
   ·have hlt : i < a.length := by simpa using c4
    have hlt2 : i < b.length := by omega
    refine sw_skip (sw_seq (sw_block (sw_seq (xg hP 5 [] rfl ?_ ?_))))
    ·simp [conj, gE hlt, gE hlt2]
     repeat' apply And.intro
     all_goals first | omega | trivial
    refine sw_cond rfl (fun c6 => ?_) (fun c6 => ?_)
    ·replace c6 : ¬ a[i] = b[i] := by intro e; simp [gE hlt, gE hlt2, e, eqDV] at c6
     refine sw_seq (xr hP 6 rfl (sw_ret ⟨.inl rfl, _, rfl, ?_⟩))
     have hv := eqL_hit hlt hlt2 hgo c6
     simp [conj, hv]
    ·replace c6 : a[i] = b[i] := by
       have h := c6
       simp [gE hlt, gE hlt2, eqDV] at h
       exact Prod.ext h.1 (Prod.ext h.2.1 (Prod.ext h.2.2.1 (Prod.ext h.2.2.2.1 h.2.2.2.2)))
     refine sw_skip (xr hP 6 rfl (⟨i + 1, ?_, ?_, ent_ok rfl ?_⟩))
     ·exact ⟨hlt, eqL_next hlt hlt2 hgo c6⟩
     ·omega
     ·simp [conj]
   ·obtain rfl : i = a.length := by simp at c4; omega
    refine sw_exit (sw_seq (xr hP 5 rfl (sw_ret ⟨.inl rfl, _, rfl, ?_⟩)))
    have hv := eqL_end c1 hgo
    simp [conj, hv]
def cEqPo : Ctr := ⟨12, [.val true T_Pool (.all .b), .val true T_Pool (.all .b)], fun x => True, fun x => (sBool (decide ((x.1 : Pol) = x.2.1)), [])⟩
theorem cEqPo_ok : CtrOk Proofs.Tryz.prog cEqPo := by
 have hP := (((Prg.none ttok mtok).and cEqDs_ok).and cEqRoot_ok)
 refine ctr_of_body hP cEqPo (fn := Proofs.Tryz.f12) (rts := [.tmp 4]) Proofs.Tryz.func12 rfl (by kernel_rfl) rfl rfl ?_
 rintro ⟨⟨(ds : List Dsk), (op : Bool), ⟨(tg : Int), (l : List Vol_)⟩, ⟨(tg2 : Int), (l2 : List Vol_)⟩⟩, ⟨(es : List Dsk), (oq : Bool), ⟨(ug : Int), (m : List Vol_)⟩, ⟨(ug2 : Int), (m2 : List Vol_)⟩⟩, ⟨⟩⟩ _ _
 try dsimp only [Ty.den, Mode.den, mdens] at _
 refine ⟨rfl, ?_⟩
 refine sw_seq (xr hP 1 rfl (sw_seq (sw_seq (xg hP 2 [] rfl ?_ ?_))))
 ·simp [conj, maxL]
  try dsimp only [Ty.den, Ty.dflt]
  try simp only [rd_eta]
  try trivial
 refine sw_cond rfl (fun c1 => ?_) (fun c1 => ?_)
 ·replace c1 : ¬ ds = es := by simpa using c1
  refine sw_seq (xr hP 3 rfl (sw_ret ⟨.inl rfl, _, rfl, ?_⟩))
  have hne : decide (((ds, op, (tg, l), (tg2, l2)) : Pol) = (es, oq, (ug, m), (ug2, m2))) = false := decide_eq_false fun e => c1 (congrArg (·.1) e)
  simp only [conj, List.append_nil]
  exact hne.symm
 ·replace c1 : ds = es := by simpa using c1
  refine sw_skip (sw_seq (sw_seq (xr hP 3 rfl (sw_cond rfl (fun c3 => ?_) (fun c3 => ?_)))))
  ·replace c3 : ¬ op = oq := by intro e; rw [e] at c3; simp at c3
   refine sw_seq (xr hP 4 rfl (sw_ret ⟨.inl rfl, _, rfl, ?_⟩))
   have hne : decide (((ds, op, (tg, l), (tg2, l2)) : Pol) = (es, oq, (ug, m), (ug2, m2))) = false := decide_eq_false fun e => c3 (congrArg (·.2.1) e)
   simp only [conj, List.append_nil]
   exact hne.symm
  ·replace c3 : op = oq := by have h : (!(op == oq)) = false := c3; simpa using h
   refine sw_skip (sw_seq (sw_seq (xg hP 4 [] rfl ?_ ?_)))
   ·simp [conj, maxL]
    try dsimp only [Ty.den, Ty.dflt]
    try simp only [rd_eta]
    try trivial
   refine sw_cond rfl (fun c5 => ?_) (fun c5 => ?_)
   ·replace c5 : ¬ ((tg, l) : Root_) = (ug, m) := by have h : (!decide (((tg, l) : Root_) = (ug, m))) = true := c5; rwa [Bool.not_eq_true', decide_eq_false_iff_not] at h
    refine sw_seq (xr hP 5 rfl (sw_ret ⟨.inl rfl, _, rfl, ?_⟩))
    have hne : decide (((ds, op, (tg, l), (tg2, l2)) : Pol) = (es, oq, (ug, m), (ug2, m2))) = false := decide_eq_false fun e => c5 (congrArg (·.2.2.1) e)
    simp only [conj, List.append_nil]
    exact hne.symm
   ·replace c5 : ((tg, l) : Root_) = (ug, m) := by have h : (!decide (((tg, l) : Root_) = (ug, m))) = false := c5; rwa [Bool.not_eq_false', decide_eq_true_eq] at h
    refine sw_skip (sw_seq (sw_seq (xg hP 5 [] rfl ?_ ?_)))
    ·simp [conj, maxL]
     try dsimp only [Ty.den, Ty.dflt]
     try simp only [rd_eta]
     try trivial
    refine sw_cond rfl (fun c7 => ?_) (fun c7 => ?_)
    ·replace c7 : ¬ ((tg2, l2) : Root_) = (ug2, m2) := by have h : (!decide (((tg2, l2) : Root_) = (ug2, m2))) = true := c7; rwa [Bool.not_eq_true', decide_eq_false_iff_not] at h
     refine sw_seq (xr hP 6 rfl (sw_ret ⟨.inl rfl, _, rfl, ?_⟩))
     have hne : decide (((ds, op, (tg, l), (tg2, l2)) : Pol) = (es, oq, (ug, m), (ug2, m2))) = false := decide_eq_false fun e => c7 (congrArg (·.2.2.2) e)
     simp only [conj, List.append_nil]
     exact hne.symm
    ·replace c7 : ((tg2, l2) : Root_) = (ug2, m2) := by have h : (!decide (((tg2, l2) : Root_) = (ug2, m2))) = false := c7; rwa [Bool.not_eq_false', decide_eq_true_eq] at h
     refine sw_skip (sw_seq (xr hP 6 rfl (sw_ret ⟨.inl rfl, _, rfl, ?_⟩)))
     have hne : decide (((ds, op, (tg, l), (tg2, l2)) : Pol) = (es, oq, (ug, m), (ug2, m2))) = true := decide_eq_true (by rw [c1, c3, c5, c7])
     simp only [conj, List.append_nil]
     exact hne.symm
end Go.Sx

namespace Go.Sx
open Go
def readV (d : Dsk) (at_ : Int) : Str := if rdV d = true ∧ 0 ≤ at_ ∧ at_ < 12 then seenV (drvOf d) d.2.2.2.2 at_ else []
theorem readV_ok {d : Dsk} {a : Int} (h : rdV d = true) (h2 : 0 ≤ a ∧ a < 12) : readV d a = seenV (drvOf d) d.2.2.2.2 a := by unfold readV; rw [if_pos ⟨h, h2⟩]
theorem readV_bad {d : Dsk} {a : Int} (h : ¬ rdV d = true) : readV d a = [] := by unfold readV; rw [if_neg (fun h' => h h'.1)]
theorem readV_no {d : Dsk} {a : Int} (h : ¬ (0 ≤ a ∧ a < 12)) : readV d a = [] := by unfold readV; rw [if_neg (fun h' => h h'.2)]
def writeD (d : Dsk) (p : Put) : Dsk := dskOf d.1 (putU d.1 d.2.2.2.2 (drvOf d)) (putM d.1 d.2.2.2.2 p)
def newD (n : Int) : Dsk := (n, List.replicate 12 [], List.replicate 2 [], List.replicate 12 false, [])
def colS (t : Str) : Bool := decide (t = []) || decide (t.length = 3)
def xorT (t : Str) (b c : Int) : Str := ofBytes ((toBytes t).set b.toNat (bitsOp .xor .u8 ((toBytes t).getD b.toNat 0) c))
theorem xorT_len {t : Str} {b c : Int} : (xorT t b c).length = t.length := by simp [xorT, ofBytes, toBytes]
def spoilV (d : Dsk) (a b c : Int) : Dsk :=
 if d.2.1.getD a.toNat [] = [] ∨ d.2.2.2.1.getD a.toNat false = true then d else (d.1, d.2.1.set a.toNat (xorT (d.2.1.getD a.toNat []) b c), d.2.2.1, d.2.2.2.1.set a.toNat true, d.2.2.2.2)
theorem spoil_no {d : Dsk} {a b c : Int} (h : d.2.1.getD a.toNat [] = [] ∨ d.2.2.2.1.getD a.toNat false = true) : spoilV d a b c = d := by unfold spoilV; rw [if_pos h]
theorem spoil_yes {d : Dsk} {a b c : Int} (h : ¬ d.2.1.getD a.toNat [] = []) (h2 : ¬ d.2.2.2.1.getD a.toNat false = true) : spoilV d a b c = (d.1, d.2.1.set a.toNat (xorT (d.2.1.getD a.toNat []) b c), d.2.2.1, d.2.2.2.1.set a.toNat true, d.2.2.2.2) := by unfold spoilV; rw [if_neg (fun h' => h'.elim h h2)]
end Go.Sx

namespace Go.Sx
open Go
def secT (s : Str) : Str := (s ++ List.replicate (3 - s.length) 0).take 3
theorem secT_len {s : Str} : (secT s).length = 3 := by simp [secT]; omega
theorem secT_next {s : Str} (h : s.length < 3) : secT (s ++ [0]) = secT s := by
 unfold secT
 rw [List.append_assoc, List.length_append, List.length_singleton, show 3 - s.length = (3 - (s.length + 1)) + 1 by omega, List.replicate_succ]
 rfl
theorem secT_end {s : Str} (h : ¬ s.length < 3) : secT s = s.take 3 := by
 unfold secT
 rw [show 3 - s.length = 0 by omega, List.replicate_zero, List.append_nil]
def putG (r : Rd) : Put := if pk r 4 = 0 then (true, pk (nx r) 2, textV (nx (nx r)) 6) else (false, pk (nx r) 12, secT (textV (nx (nx r)) 3))
def putQ (r : Rd) : Rd := if pk r 4 = 0 then textR (nx (nx r)) 6 else textR (nx (nx r)) 3
theorem putG_ok {r : Rd} {m : Int} (h : ROk r m) (hm : 20 ≤ m) : putV (putG r) = true := by
 have h1 : ROk (nx r) 19 := h.nx (by omega)
 have h2 : ROk (nx (nx r)) 18 := h1.nx (by omega)
 unfold putG
 split
 ·have a := pk_bd h1 (by omega) (n := 2) (by omega)
  have b := textV_len h2 (by omega) (most := 6) (by omega)
  simp only [putV, if_true]
  exact decide_eq_true ⟨a.1, a.2, by omega⟩
 ·have a := pk_bd h1 (by omega) (n := 12) (by omega)
  simp only [putV, Bool.false_eq_true, if_false]
  exact decide_eq_true ⟨a.1, a.2, secT_len⟩
theorem putQ_ok {r : Rd} {m m' : Int} (h : ROk r m) (hm : m' + 20 ≤ m) (h0 : 0 ≤ m') : ROk (putQ r) m' := by
 have h1 : ROk (nx r) (m' + 19) := h.nx (by omega)
 have h2 : ROk (nx (nx r)) (m' + 18) := h1.nx (by omega)
 unfold putQ
 split
 ·exact textR_ok h2 (by omega) (by omega) (by omega)
 ·exact textR_ok h2 (by omega) (by omega) (by omega)
structure DrOk (d : Dsk) : Prop where
 drv : (drvOf d).ok
 wait : d.2.2.2.2.any badP = false
 len : d.2.2.2.2.length ≤ 40
 col : d.2.1.all colS = true
theorem newD_ok {n : Int} : DrOk (newD n) := by
 refine ⟨⟨by simp [drvOf, newD], by simp [drvOf, newD], by simp [drvOf, newD]⟩, rfl, by simp [newD], ?_⟩
 simp [newD, colS]
theorem all_set {p : Str → Bool} {l : List Str} {i : Nat} {x : Str} (h : l.all p = true) (hx : p x = true) : (l.set i x).all p = true := by
 rw [List.all_eq_true] at h ⊢
 intro y hy
 rcases List.mem_or_eq_of_mem_set hy with hy | rfl
 ·exact h y hy
 ·exact hx
theorem come_col {p : Put} {t : Drv} (hp : putV p = true) (h : t.1.all colS = true) : (come p t).1.all colS = true := by
 unfold come
 split
 ·exact h
 ·rename_i hr
  exact all_set h (by have := putV_slot hp (by simpa using hr); simp [colS, this.2.2])
theorem comes_col {l : List Put} : ∀ {t : Drv}, l.any badP = false → t.1.all colS = true → (comes l t).1.all colS = true := by
 induction l with
 | nil => intro t _ h; exact h
 | cons p r ih =>
  intro t hw h
  simp only [List.any_cons, Bool.or_eq_false_iff, badP, Bool.not_eq_false'] at hw
  exact ih hw.2 (come_col hw.1 h)
theorem flush_DrOk {d : Dsk} (h : DrOk d) : DrOk (dskOf d.1 (comes d.2.2.2.2 (drvOf d)) []) :=
 ⟨comes_ok h.drv, rfl, Nat.zero_le _, comes_col h.wait h.col⟩
theorem write_DrOk {d : Dsk} {p : Put} (h : DrOk d) (hp : putV p = true) : DrOk (writeD d p) := by
 have hb : badP p = false := by simp [badP, hp]
 refine ⟨putU_ok h.drv, ?_, putM_len h.len, ?_⟩
 ·show (putM d.1 d.2.2.2.2 p).any badP = false
  unfold putM putW
  split
  ·exact h.wait
  ·split
   ·simp [hb]
   ·rw [List.any_append, h.wait]; simp [hb]
 ·show (putU d.1 d.2.2.2.2 (drvOf d)).1.all colS = true
  unfold putU putT
  split
  ·exact h.col
  ·split
   ·exact comes_col h.wait h.col
   ·exact h.col
theorem spoil_DrOk {d : Dsk} {a b c : Int} (h : DrOk d) : DrOk (spoilV d a b c) := by
 unfold spoilV
 split
 ·exact h
 ·rename_i hn
  have hd := h.drv
  refine ⟨⟨by simpa [drvOf] using hd.1, hd.2.1, by simpa [drvOf] using hd.2.2⟩, h.wait, h.len, ?_⟩
  show (d.2.1.set _ _).all colS = true
  refine all_set h.col ?_
  by_cases hm : a.toNat < d.2.1.length
  ·have h1 := List.all_eq_true.1 h.col (d.2.1.getD a.toNat []) (by rw [List.getD_eq_getElem?_getD, gE hm]; exact List.getElem_mem hm)
   simp only [colS, Bool.or_eq_true, decide_eq_true_eq] at h1 ⊢
   rcases h1 with h1 | h1
   ·exact absurd (.inl h1) hn
   ·exact .inr (by rw [xorT_len]; exact h1)
  ·exact absurd (.inl (by rw [List.getD_eq_getElem?_getD, List.getElem?_eq_none (by omega)]; rfl)) hn
def stD1 (d : Dsk) (r : Rd) : Dsk := writeD d (putG r)
def stD2 (d : Dsk) (r : Rd) : Dsk := if pk r 3 = 0 then dskOf d.1 (comes d.2.2.2.2 (drvOf d)) [] else d
def stD3 (d : Dsk) (r : Rd) : Dsk := if pk r 5 = 0 then spoilV d (pk (nx r) 12) (pk (nx (nx r)) 3) (1 + pk (nx (nx (nx r))) 255) else d
def stR3 (r : Rd) : Rd := if pk r 5 = 0 then nx (nx (nx (nx r))) else nx r
def stD (d : Dsk) (r : Rd) : Dsk := stD3 (stD2 (stD1 d r) (putQ r)) (nx (putQ r))
def stR (r : Rd) : Rd := stR3 (nx (putQ r))
def loopG : Nat → Dsk → Rd → Dsk × Rd
 | 0, d, r => (d, r)
 | k + 1, d, r => loopG k (stD d r) (stR r)
theorem stR_ok {r : Rd} {m m' : Int} (h : ROk r m) (hm : m' + 30 ≤ m) (h0 : 0 ≤ m') : ROk (stR r) m' := by
 have h1 : ROk (putQ r) (m' + 10) := putQ_ok h (by omega) (by omega)
 have h2 : ROk (nx (putQ r)) (m' + 9) := h1.nx (by omega)
 unfold stR stR3
 split
 ·exact (((h2.nx (m' := m' + 8) (by omega)).nx (m' := m' + 7) (by omega)).nx (m' := m' + 6) (by omega)).nx (by omega)
 ·exact h2.nx (by omega)
theorem stD_ok {d : Dsk} {r : Rd} {m : Int} (h : DrOk d) (hr : ROk r m) (hm : 20 ≤ m) : DrOk (stD d r) := by
 have h1 : DrOk (stD1 d r) := write_DrOk h (putG_ok hr hm)
 have h2 : DrOk (stD2 (stD1 d r) (putQ r)) := by
  unfold stD2
  split
  ·exact flush_DrOk h1
  ·exact h1
 unfold stD stD3
 split
 ·exact spoil_DrOk h2
 ·exact h2
def fillG : Nat → List Put → Rd → List Put × Rd
 | 0, l, r => (l, r)
 | k + 1, l, r => if (l.length : Int) < 40 + pk r 2 then fillG k (l ++ [putG (nx r)]) (putQ (nx r)) else (l, nx r)
theorem fillG_next {k : Nat} {l : List Put} {r : Rd} (h : (l.length : Int) < 40 + pk r 2) : fillG (k + 1) l r = fillG k (l ++ [putG (nx r)]) (putQ (nx r)) := by simp only [fillG, if_pos h]
theorem fillG_end {k : Nat} {l : List Put} {r : Rd} (h : ¬ (l.length : Int) < 40 + pk r 2) : fillG (k + 1) l r = (l, nx r) := by simp only [fillG, if_neg h]
def abT : Str := [97, 98]
def abcT : Str := [97, 98, 99]
def xyzT : Str := [120, 121, 122]
def aTD : Str := [97]
def harmG (d : Dsk) (r : Rd) : Dsk × Rd :=
 if pk r 30 = 0 then ((List.getD [(-1 : Int), 3, 1] (pk (nx r) 3).toNat 0, d.2), nx (nx r))
 else if pk r 30 = 1 then ((d.1, d.2.1.set (pk (nx r) 12).toNat abT, d.2.2), nx (nx r))
 else if pk r 30 = 2 then ((d.1, d.2.1, d.2.2.1, d.2.2.2.1.set (pk (nx r) 12).toNat true, d.2.2.2.2), nx (nx r))
 else if pk r 30 = 3 then ((d.1, d.2.1, d.2.2.1, d.2.2.2.1, d.2.2.2.2 ++ [(false, 12, abcT)]), nx r)
 else if pk r 30 = 4 then ((d.1, d.2.1, d.2.2.1, d.2.2.2.1, (fillG 50 d.2.2.2.2 (nx r)).1), (fillG 50 d.2.2.2.2 (nx r)).2)
 else if pk r 30 = 5 then ((d.1, d.2.1, d.2.2.1.drop 1, d.2.2.2.1, d.2.2.2.2), nx r)
 else (d, nx r)
def drawS (r : Rd) : Int := List.getD [(0 : Int), 0, 2, 1] (pk r 4).toNat 0
theorem drawS_bd {r : Rd} : 0 ≤ drawS r ∧ drawS r ≤ 2 := by
 unfold drawS
 generalize (pk r 4).toNat = n
 rcases n with _ | _ | _ | _ | n <;> simp [List.getD]
def drawL (r : Rd) : Dsk × Rd := loopG (pk (nx r) 12).toNat (newD (drawS r)) (nx (nx r))
@[irreducible] def drawD (r : Rd) : Dsk := (harmG (drawL r).1 (drawL r).2).1
@[irreducible] def drawR (r : Rd) : Rd := (harmG (drawL r).1 (drawL r).2).2
end Go.Sx

namespace Go.Sx
open Go
def newT : Str := sealV (bodyV (0, []))
def newDk : Dsk := (0, List.replicate 12 [], (List.replicate 2 []).set 0 newT, List.replicate 12 false, [])
def newPo (n : Int) : Pol := if poolV n = true then (List.replicate n.toNat newDk, true, (0, []), (0, [])) else ([], false, (0, []), (0, []))
theorem newV {d : Int} (h : poolV d = true) : rootV d (0, []) = true := by
 simp only [rootV, h, Bool.true_and]
 rfl
theorem newR {d : Int} (h : poolV d = true) : rootT d (0, []) = newT := if_pos (newV h)
theorem new_next (i : Nat) : List.replicate i newDk ++ [newDk] = List.replicate (i + 1) newDk := List.replicate_succ'.symm
theorem newB : bodyV (0, []) = [114, 111, 111, 116, 32, 48, 10] := by decide +kernel
theorem newT_len : newT.length ≤ 700 := by
 have h2 := itoaV_len (n := weighV (bodyV (0, []))) (by rw [newB]; exact inR_i64.2 ⟨by decide +kernel, by decide +kernel⟩)
 simp only [newT, sealV, List.length_append] at *
 rw [newB] at *
 simp only [tSum, List.length_cons, List.length_nil] at *
 omega
theorem new_put : putV (true, ((0 : Int).tmod 2), newT) = true := by
 have h := newT_len
 simp [putV, h]
theorem new_come : comeD (newD 0) (true, ((0 : Int).tmod 2), newT) = newDk := rfl
theorem new_lt {d : Int} (h : poolV d = true) : 3 ≤ d ∧ d ≤ 4 := by simpa [poolV, inV] using h
theorem newPo_fit {n : Int} : FitPo (newPo n) := by
 unfold newPo
 split
 ·rename_i h
  have := new_lt h
  refine ⟨⟨?_, ?_⟩, ?_, ?_⟩
  ·simp; omega
  ·intro d hd
   obtain ⟨_, rfl⟩ := List.mem_replicate.1 hd
   exact ⟨by simp [newDk], by simp [newDk], by simp [newDk], by simp [newDk]⟩
  all_goals simp [FitV]
 ·refine ⟨⟨?_, ?_⟩, ?_, ?_⟩ <;> simp [FitV]
end Go.Sx

namespace Go.Sx
open Go
abbrev Shf := Str × List Str
abbrev Mdl := List Shf
abbrev Wor := Pol × Mdl × Mdl × Mdl × Bool
instance : DecidableEq Shf := instDecidableEqProd
instance : DecidableEq Wor := instDecidableEqProd
def mShf : Mk Shf := mkPair mkStr (mkList mkStr)
def mWor : Mk Wor := mkPair mPol (mkPair (mkList mShf) (mkPair (mkList mShf) (mkPair (mkList mShf) mkNo)))
theorem mShf_ok : MkOk mShf := mkPair_ok mkStr_ok (mkList_ok mkStr_ok)
theorem mWor_ok : MkOk mWor := mkPair_ok mPol_ok (mkPair_ok (mkList_ok mShf_ok) (mkPair_ok (mkList_ok mShf_ok) (mkPair_ok (mkList_ok mShf_ok) mkNo_ok)))
def newWo (n : Int) : Wor := (newPo n, [], [], [], false)
theorem mkPair_ge3 {k : Int} {p : Wor} (h0 : 0 ≤ k) : mPol.nx k p.1 ≤ mWor.nx k p := (mkPair_ok (mkList_ok mShf_ok) (mkPair_ok (mkList_ok mShf_ok) (mkPair_ok (mkList_ok mShf_ok) (mkNo_ok (α := Bool))))).ge _ _
theorem nx_newWo {n : Int} : mWor.nx 1 (newWo n) = mPol.nx 1 (newPo n) := rfl
end Go.Sx

namespace Go.Sx
open Go
set_option maxRecDepth 100000
set_option linter.unusedVariables false
set_option linter.unusedSimpArgs false
set_option maxHeartbeats 2000000
def cEqSh : Ctr := ⟨43, [.val true T_Shelf (.all .b), .val true T_Shelf (.all .b)], fun x => True, fun x => (sBool (decide ((x.1 : Shf) = x.2.1)), [])⟩
theorem cEqSh_ok : CtrOk Proofs.Tryz.prog cEqSh := by
 have hP := ((Prg.none ttok mtok).and cEqS_ok)
 refine ctr_of_body hP cEqSh (fn := Proofs.Tryz.f43) (rts := [.tmp 4]) Proofs.Tryz.func43 rfl (by kernel_rfl) rfl rfl ?_
 rintro ⟨⟨(nm : Str), (bl : List Str)⟩, ⟨(nm2 : Str), (bl2 : List Str)⟩, ⟨⟩⟩ _ _
 try dsimp only [Ty.den, Mode.den, mdens] at _
 refine ⟨rfl, ?_⟩
 refine sw_seq (xr hP 1 rfl (sw_seq (sw_seq (xr hP 2 rfl (sw_cond rfl (fun c1 => ?_) (fun c1 => ?_))))))
 ·replace c1 : ¬ nm = nm2 := by simpa using c1
  refine sw_seq (xr hP 3 rfl (sw_ret ⟨.inl rfl, _, rfl, ?_⟩))
  simp [conj, *]
 ·replace c1 : nm = nm2 := by simpa using c1
  refine sw_skip (sw_seq (sw_seq (xg hP 3 [] rfl ?_ ?_)))
  ·simp [conj, maxL]
   try dsimp only [Ty.den, Ty.dflt]
   try simp only [rd_eta]
   trivial
  refine sw_cond rfl (fun c3 => ?_) (fun c3 => ?_)
  ·replace c3 : ¬ bl = bl2 := by simpa using c3
   refine sw_seq (xr hP 4 rfl (sw_ret ⟨.inl rfl, _, rfl, ?_⟩))
   simp [conj, *]
  ·replace c3 : bl = bl2 := by simpa using c3
   refine sw_skip (sw_seq (xr hP 4 rfl (sw_ret ⟨.inl rfl, _, rfl, ?_⟩)))
   simp [conj, *]
def cEqShs : Ctr := ⟨27, [.val false (.sl T_Shelf) (.all .b), .val false (.sl T_Shelf) (.all .b)], fun x => True, fun x => (sBool (decide ((x.1 : List Shf) = x.2.1)), [])⟩
theorem cEqShs_ok : CtrOk Proofs.Tryz.prog cEqShs := by
 have hP := ((Prg.none ttok mtok).and cEqSh_ok)
 refine ctr_of_body hP cEqShs (fn := Proofs.Tryz.f27) (rts := [.tmp 4]) Proofs.Tryz.func27 rfl (by kernel_rfl) rfl rfl ?_
 rintro ⟨(a : List Shf), (b : List Shf), ⟨⟩⟩ ⟨hda, hdb, _⟩ _
 try dsimp only [Ty.den, Mode.den, mdens] at _
 refine ⟨rfl, ?_⟩
 have hml : a.length ≤ 140737488355328 := hda.1
 have hmb : b.length ≤ 140737488355328 := hdb.1
 refine sw_seq (xr hP 1 rfl (sw_seq (sw_seq (xr hP 2 rfl (sw_cond rfl (fun c1 => ?_) (fun c1 => ?_))))))
 ·replace c1 : ¬ a.length = b.length := by simp at c1; omega
  refine sw_seq (xr hP 3 rfl (sw_ret ⟨.inl rfl, _, rfl, ?_⟩))
  have hv := eqL_len c1
  simp [conj, hv]
 ·replace c1 : a.length = b.length := by simp at c1; omega
  refine sw_skip (sw_seq (sw_seq (xr hP 3 rfl (sw_block (sw_loop (ι := Nat) (fun i => ⟨[.v false [.d (.sl T_Shelf) (.all .b) a], .v false [.d (.sl T_Shelf) (.all .b) b], .j, .j, .j, sInt .i64 (i : Int), .j, .j, .j, .j, .j, .j, .j, .j, .j, .j, .j, .j, .j, .j, .j, .j, .j, .j, .j, .j, .j], [], 3, []⟩) (fun i => a.length - i) (fun i => i ≤ a.length ∧ decide (a.drop i = b.drop i) = decide (a = b)) 0 ⟨?_, ?_⟩ ?_)))))
  ·exact ⟨Nat.zero_le _, rfl⟩
  ·refine ent_ok rfl ?_
   first | trivial | (simp [conj]; done) | (simp [conj] at *; (try dsimp only [Ty.den, Ty.dflt] at *); omega)
  ·rintro i ⟨hi, hgo⟩
   refine sw_seq (sw_seq (xr hP 4 rfl (sw_cond rfl (fun c4 => ?_) (fun c4 => ?_))))
   ·have hlt : i < a.length := by simpa using c4
    have hlt2 : i < b.length := by omega
    refine sw_skip (sw_seq (sw_block (sw_seq (xg hP 5 [] rfl ?_ ?_))))
    ·simp [conj, gE hlt, gE hlt2]
     repeat' apply And.intro
     all_goals first | omega | trivial
    refine sw_cond rfl (fun c6 => ?_) (fun c6 => ?_)
    ·replace c6 : ¬ a[i] = b[i] := by intro e; simp [gE hlt, gE hlt2, e] at c6
     refine sw_seq (xr hP 6 rfl (sw_ret ⟨.inl rfl, _, rfl, ?_⟩))
     have hv := eqL_hit hlt hlt2 hgo c6
     simp [conj, hv]
    ·replace c6 : a[i] = b[i] := by
       have h := c6
       simp [gE hlt, gE hlt2] at h
       exact Prod.ext h.1 h.2
     refine sw_skip (xr hP 6 rfl (⟨i + 1, ?_, ?_, ent_ok rfl ?_⟩))
     ·exact ⟨hlt, eqL_next hlt hlt2 hgo c6⟩
     ·omega
     ·simp [conj]
   ·obtain rfl : i = a.length := by simp at c4; omega
    refine sw_exit (sw_seq (xr hP 5 rfl (sw_ret ⟨.inl rfl, _, rfl, ?_⟩)))
    have hv := eqL_end c1 hgo
    simp [conj, hv]
def cEqMo : Ctr := ⟨13, [.val true T_Model (.all .b), .val true T_Model (.all .b)], fun x => True, fun x => (sBool (decide ((x.1 : Mdl) = x.2.1)), [])⟩
theorem cEqMo_ok : CtrOk Proofs.Tryz.prog cEqMo := by
 have hP := ((Prg.none ttok mtok).and cEqShs_ok)
 refine ctr_of_body hP cEqMo (fn := Proofs.Tryz.f13) (rts := [.tmp 4]) Proofs.Tryz.func13 rfl (by kernel_rfl) rfl rfl ?_
 rintro ⟨(a : Mdl), (b : Mdl), ⟨⟩⟩ _ _
 try dsimp only [Ty.den, Mode.den, mdens] at _
 refine ⟨rfl, ?_⟩
 refine sw_seq (xr hP 1 rfl (sw_seq (sw_seq (xg hP 2 [] rfl ?_ ?_))))
 ·simp [conj, maxL]
  try dsimp only [Ty.den, Ty.dflt]
  try simp only [rd_eta]
  trivial
 refine sw_cond rfl (fun c1 => ?_) (fun c1 => ?_)
 ·replace c1 : ¬ a = b := by simpa using c1
  refine sw_seq (xr hP 3 rfl (sw_ret ⟨.inl rfl, _, rfl, ?_⟩))
  simp [conj, *]
 ·replace c1 : a = b := by simpa using c1
  refine sw_skip (sw_seq (xr hP 3 rfl (sw_ret ⟨.inl rfl, _, rfl, ?_⟩)))
  simp [conj, *]
def cEqWo : Ctr := ⟨6, [.val true T_World (.all .b), .val true T_World (.all .b)], fun x => True, fun x => (sBool (decide ((x.1 : Wor) = x.2.1)), [])⟩
theorem cEqWo_ok : CtrOk Proofs.Tryz.prog cEqWo := by
 have hP := (((Prg.none ttok mtok).and cEqPo_ok).and cEqMo_ok)
 refine ctr_of_body hP cEqWo (fn := Proofs.Tryz.f6) (rts := [.tmp 4]) Proofs.Tryz.func6 rfl (by kernel_rfl) rfl rfl ?_
 rintro ⟨⟨⟨(ds : List Dsk), (op : Bool), ⟨(tg : Int), (l : List Vol_)⟩, ⟨(tg2 : Int), (l2 : List Vol_)⟩⟩, (ka : Mdl), (kb : Mdl), (kc : Mdl), (kw : Bool)⟩, ⟨⟨(es : List Dsk), (oq : Bool), ⟨(ug : Int), (m : List Vol_)⟩, ⟨(ug2 : Int), (m2 : List Vol_)⟩⟩, (la : Mdl), (lb : Mdl), (lc : Mdl), (lw : Bool)⟩, ⟨⟩⟩ _ _
 try dsimp only [Ty.den, Mode.den, mdens] at _
 refine ⟨rfl, ?_⟩
 refine sw_seq (xr hP 1 rfl (sw_seq (sw_seq (xg hP 2 [] rfl ?_ ?_))))
 ·simp [conj, maxL]
  try dsimp only [Ty.den, Ty.dflt]
  try simp only [rd_eta]
  try trivial
 refine sw_cond rfl (fun c1 => ?_) (fun c1 => ?_)
 ·replace c1 : ¬ ((ds, op, (tg, l), (tg2, l2)) : Pol) = ((es, oq, (ug, m), (ug2, m2)) : Pol) := by have h : (!decide (((ds, op, (tg, l), (tg2, l2)) : Pol) = ((es, oq, (ug, m), (ug2, m2)) : Pol))) = true := c1; rwa [Bool.not_eq_true', decide_eq_false_iff_not] at h
  refine sw_seq (xr hP 3 rfl (sw_ret ⟨.inl rfl, _, rfl, ?_⟩))
  have hne : decide (((((ds, op, (tg, l), (tg2, l2)) : Pol), ka, kb, kc, kw) : Wor) = ((((es, oq, (ug, m), (ug2, m2)) : Pol), la, lb, lc, lw) : Wor)) = false := decide_eq_false fun e => c1 (congrArg (·.1) e)
  simp only [conj, List.append_nil]
  exact hne.symm
 ·replace c1 : ((ds, op, (tg, l), (tg2, l2)) : Pol) = ((es, oq, (ug, m), (ug2, m2)) : Pol) := by have h : (!decide (((ds, op, (tg, l), (tg2, l2)) : Pol) = ((es, oq, (ug, m), (ug2, m2)) : Pol))) = false := c1; rwa [Bool.not_eq_false', decide_eq_true_eq] at h
  refine sw_skip (sw_seq (sw_seq (xg hP 3 [] rfl ?_ ?_)))
  ·simp [conj, maxL]
   try dsimp only [Ty.den, Ty.dflt]
   try simp only [rd_eta]
   try trivial
  refine sw_cond rfl (fun c3 => ?_) (fun c3 => ?_)
  ·replace c3 : ¬ ka = la := by have h : (!decide (ka = la)) = true := c3; rwa [Bool.not_eq_true', decide_eq_false_iff_not] at h
   refine sw_seq (xr hP 4 rfl (sw_ret ⟨.inl rfl, _, rfl, ?_⟩))
   have hne : decide (((((ds, op, (tg, l), (tg2, l2)) : Pol), ka, kb, kc, kw) : Wor) = ((((es, oq, (ug, m), (ug2, m2)) : Pol), la, lb, lc, lw) : Wor)) = false := decide_eq_false fun e => c3 (congrArg (·.2.1) e)
   simp only [conj, List.append_nil]
   exact hne.symm
  ·replace c3 : ka = la := by have h : (!decide (ka = la)) = false := c3; rwa [Bool.not_eq_false', decide_eq_true_eq] at h
   refine sw_skip (sw_seq (sw_seq (xg hP 4 [] rfl ?_ ?_)))
   ·simp [conj, maxL]
    try dsimp only [Ty.den, Ty.dflt]
    try simp only [rd_eta]
    try trivial
   refine sw_cond rfl (fun c5 => ?_) (fun c5 => ?_)
   ·replace c5 : ¬ kb = lb := by have h : (!decide (kb = lb)) = true := c5; rwa [Bool.not_eq_true', decide_eq_false_iff_not] at h
    refine sw_seq (xr hP 5 rfl (sw_ret ⟨.inl rfl, _, rfl, ?_⟩))
    have hne : decide (((((ds, op, (tg, l), (tg2, l2)) : Pol), ka, kb, kc, kw) : Wor) = ((((es, oq, (ug, m), (ug2, m2)) : Pol), la, lb, lc, lw) : Wor)) = false := decide_eq_false fun e => c5 (congrArg (·.2.2.1) e)
    simp only [conj, List.append_nil]
    exact hne.symm
   ·replace c5 : kb = lb := by have h : (!decide (kb = lb)) = false := c5; rwa [Bool.not_eq_false', decide_eq_true_eq] at h
    refine sw_skip (sw_seq (sw_seq (xg hP 5 [] rfl ?_ ?_)))
    ·simp [conj, maxL]
     try dsimp only [Ty.den, Ty.dflt]
     try simp only [rd_eta]
     try trivial
    refine sw_cond rfl (fun c7 => ?_) (fun c7 => ?_)
    ·replace c7 : ¬ kc = lc := by have h : (!decide (kc = lc)) = true := c7; rwa [Bool.not_eq_true', decide_eq_false_iff_not] at h
     refine sw_seq (xr hP 6 rfl (sw_ret ⟨.inl rfl, _, rfl, ?_⟩))
     have hne : decide (((((ds, op, (tg, l), (tg2, l2)) : Pol), ka, kb, kc, kw) : Wor) = ((((es, oq, (ug, m), (ug2, m2)) : Pol), la, lb, lc, lw) : Wor)) = false := decide_eq_false fun e => c7 (congrArg (·.2.2.2.1) e)
     simp only [conj, List.append_nil]
     exact hne.symm
    ·replace c7 : kc = lc := by have h : (!decide (kc = lc)) = false := c7; rwa [Bool.not_eq_false', decide_eq_true_eq] at h
     refine sw_skip (sw_seq (sw_seq (xr hP 6 rfl (sw_cond rfl (fun c9 => ?_) (fun c9 => ?_)))))
     ·replace c9 : ¬ kw = lw := by intro e; rw [e] at c9; simp at c9
      refine sw_seq (xr hP 7 rfl (sw_ret ⟨.inl rfl, _, rfl, ?_⟩))
      have hne : decide (((((ds, op, (tg, l), (tg2, l2)) : Pol), ka, kb, kc, kw) : Wor) = ((((es, oq, (ug, m), (ug2, m2)) : Pol), la, lb, lc, lw) : Wor)) = false := decide_eq_false fun e => c9 (congrArg (·.2.2.2.2) e)
      simp only [conj, List.append_nil]
      exact hne.symm
     ·replace c9 : kw = lw := by have h : (!(kw == lw)) = false := c9; simpa using h
      refine sw_skip (sw_seq (xr hP 7 rfl (sw_ret ⟨.inl rfl, _, rfl, ?_⟩)))
      have hne : decide (((((ds, op, (tg, l), (tg2, l2)) : Pol), ka, kb, kc, kw) : Wor) = ((((es, oq, (ug, m), (ug2, m2)) : Pol), la, lb, lc, lw) : Wor)) = true := decide_eq_true (by rw [c1, c3, c5, c7, c9])
      simp only [conj, List.append_nil]
      exact hne.symm
def cMkSh : Ctr := ⟨30, [.mu false T_Shelf (.all .w), .val false TI pF], fun x => 0 ≤ x.2.1 ∧ nxLs mShf x.2.1 x.1 ≤ 1000000000, fun x => (sInt .i64 (nxLs mShf x.2.1 x.1), [(⟨0, 0, 0⟩, .sl T_Shelf (.all .w) (mkLs mShf x.2.1 x.1))])⟩
theorem cMkSh_ok : CtrOk Proofs.Tryz.prog cMkSh := by
 have hP := (((Prg.none ttok mtok).and cMkT_ok).and cMkStr_ok)
 refine ctr_of_body hP cMkSh (fn := Proofs.Tryz.f30) (rts := [.tmp 4]) Proofs.Tryz.func30 rfl (by kernel_rfl) rfl rfl ?_
 rintro ⟨(l : List Shf), (k : Int), ⟨⟩⟩ ⟨hdl, _⟩ ⟨h0, h1⟩
 try dsimp only [Ty.den, Mode.den, mdens] at h0
 try dsimp only [Ty.den, Mode.den, mdens] at h1
 refine ⟨rfl, ?_⟩
 have hml : l.length ≤ 140737488355328 := hdl.1
 replace h0 : 0 ≤ k := h0
 replace h1 : nxLs mShf k l ≤ 1000000000 := h1
 refine sw_seq (xr hP 1 rfl (sw_seq (sw_seq (xr hP 2 rfl (sw_block (sw_loop (ι := Nat) (fun i => ⟨[.v false [.own ⟨0, 0, 0⟩], sInt .i64 (nxLs mShf k (l.take i)), .j, .j, .j, sInt .i64 (i : Int), .j, .j, .j, .j, .j, .j, .j, .j, .j, .j, .j, .j, .j, .j, .j, .j, .j, .j, .j, .j, .j, .j], [(⟨0, 0, 0⟩, .sl T_Shelf (.all .w) (mkLs mShf k (l.take i) ++ l.drop i))], 2, [[.v false [.own ⟨0, 0, 0⟩], .j]]⟩) (fun i => l.length - i) (fun i => i ≤ l.length) 0 ⟨?_, ?_⟩ ?_))))))
 ·exact Nat.zero_le _
 ·refine ent_ok rfl ?_
  simp [conj, mkLs, nxLs]
 ·rintro i hi
  refine sw_seq (sw_seq (xr hP 3 rfl (sw_cond rfl (fun c2 => ?_) (fun c2 => ?_))))
  ·have hcl := mk_clen (m := mShf) (k := k) hi
   have hlt : i < l.length := by have h : ((i : Nat) : Int) < ((mkLs mShf k (l.take i) ++ l.drop i).length : Nat) := of_decide_eq_true c2; omega
   have hnx := mk_next (m := mShf) (k := k) hlt
   have hnn := nx_next (m := mShf) (k := k) hlt
   obtain ⟨s1, s2, s3⟩ := nx_split mShf_ok (k := k) hlt
   have hget := mk_get (m := mShf) (k := k) hlt
   have hgd : ∀ d, (mkLs mShf k (l.take i) ++ l.drop i)[i]?.getD d = l[i] := fun d => by rw [hget]; rfl
   have hgi : ∀ h, (mkLs mShf k (l.take i) ++ l.drop i)[i]'h = l[i] := fun h => by have h2 := hget; rw [gE h] at h2; exact Option.some.inj h2
   generalize hQ : (nxLs mShf k (l.take i)) = Q at *
   have s4 : Q + 1 ≤ nxLs mkStr (Q + 1) l[i].2 := (mkList_ok mkStr_ok).ge _ _
   replace s3 : nxLs mkStr (Q + 1) l[i].2 ≤ nxLs mShf k l := s3
   refine sw_skip (sw_seq (sw_block (sw_seq (xg hP 4 [] rfl ?_ ?_))))
   ·simp [conj, hget, hgd, hgi, hcl, List.getElem?_set, hlt]
    repeat' apply And.intro
    all_goals first | trivial | assumption | omega | (show Q ≤ 1099511627776; omega) | (show 0 ≤ Q + 1; omega) | (show nxLs mkStr (Q + 1) l[i].2 ≤ _; omega)
   refine sw_seq (xg hP 5 [] rfl ?_ ?_)
   ·simp [conj, hget, hgd, hgi, hcl, List.getElem?_set, hlt]
    repeat' apply And.intro
    all_goals first | trivial | assumption | omega | (show Q ≤ 1099511627776; omega) | (show 0 ≤ Q + 1; omega) | (show nxLs mkStr (Q + 1) l[i].2 ≤ _; omega)
   refine xg hP 6 [] rfl ?_ ?_
   ·simp [conj, hget, hgd, hgi, hcl, List.getElem?_set, hlt]
    repeat' apply And.intro
    all_goals first | trivial | assumption | omega | (show Q ≤ 1099511627776; omega) | (show 0 ≤ Q + 1; omega) | (show nxLs mkStr (Q + 1) l[i].2 ≤ _; omega)
   refine xg hP 7 [] rfl ?_ ?_
   ·simp only [cj, cl]
    try dsimp only [Ty.den, Ty.dflt]
    repeat' apply And.intro
    all_goals first | rfl | omega | assumption | trivial
   refine ⟨i + 1, ?_, ?_, ent_ok rfl ?_⟩
   ·exact hlt
   ·omega
   ·rw [hnn]
    simp [conj, hget, hgd, hgi, hcl, List.getElem?_set, hlt]
    repeat' apply And.intro
    all_goals first | rfl | exact hnx | omega
  ·have hcl := mk_clen (m := mShf) (k := k) hi
   obtain rfl : i = l.length := by have h : ¬ ((i : Nat) : Int) < ((mkLs mShf k (l.take i) ++ l.drop i).length : Nat) := of_decide_eq_false c2; omega
   refine sw_exit (sw_seq (xr hP 4 rfl (sw_ret ⟨.inl rfl, _, rfl, ?_⟩)))
   simp [conj]
def cMkMo : Ctr := ⟨15, [.mu true T_Shelf (.all .w), .val false TI pF], fun x => 0 ≤ x.2.1 ∧ nxLs mShf x.2.1 x.1 ≤ 1000000000, fun x => (sInt .i64 (nxLs mShf x.2.1 x.1), [(⟨0, 0, 0⟩, .sl T_Shelf (.all .w) (mkLs mShf x.2.1 x.1))])⟩
theorem cMkMo_ok : CtrOk Proofs.Tryz.prog cMkMo := by
 have hP := ((Prg.none ttok mtok).and cMkSh_ok)
 refine ctr_of_body hP cMkMo (fn := Proofs.Tryz.f15) (rts := [.tmp 4]) Proofs.Tryz.func15 rfl (by kernel_rfl) rfl rfl ?_
 rintro ⟨(l : Mdl), (k : Int), ⟨⟩⟩ _ ⟨h0, h1⟩
 try dsimp only [Ty.den, Mode.den, mdens] at h0
 try dsimp only [Ty.den, Mode.den, mdens] at h1
 refine ⟨rfl, ?_⟩
 refine sw_seq (xr hP 1 rfl (sw_seq (xg hP 2 [] rfl ?_ ?_)))
 ·simp [conj, maxL]
  try dsimp only [Ty.den, Ty.dflt]
  try simp only [rd_eta]
  exact ⟨h0, h1⟩
 refine sw_seq (xr hP 3 rfl (sw_ret ⟨.inl rfl, _, rfl, ?_⟩))
 simp [conj]
def cHdSh : Ctr := ⟨33, [.val false (.sl T_Shelf) (.all .b), .val false TI pF], fun x => 0 ≤ x.2.1 ∧ nxLs mShf x.2.1 x.1 ≤ 1000000000, fun x => (sInt .i64 (hdLs mShf x.2.1 x.1), [])⟩
theorem cHdSh_ok : CtrOk Proofs.Tryz.prog cHdSh := by
 have hP := (((Prg.none ttok mtok).and cMkT_ok).and cHdStr_ok)
 refine ctr_of_body hP cHdSh (fn := Proofs.Tryz.f33) (rts := [.tmp 4]) Proofs.Tryz.func33 rfl (by kernel_rfl) rfl rfl ?_
 rintro ⟨(l : List Shf), (k : Int), ⟨⟩⟩ ⟨hdl, _⟩ ⟨h0, h1⟩
 try dsimp only [Ty.den, Mode.den, mdens] at h0
 try dsimp only [Ty.den, Mode.den, mdens] at h1
 refine ⟨rfl, ?_⟩
 have hml : l.length ≤ 140737488355328 := hdl.1
 replace h0 : 0 ≤ k := h0
 replace h1 : nxLs mShf k l ≤ 1000000000 := h1
 refine sw_seq (xr hP 1 rfl (sw_seq (sw_seq (xr hP 2 rfl (sw_block (sw_loop (ι := Nat × Int) (fun ⟨i, q⟩ => ⟨[.v false [.d (.sl T_Shelf) (.all .b) l], sInt .i64 q, .j, .j, .j, sInt .i64 (i : Int), .j, .j, .j, .j, .j, .j, .j, .j, .j, .j, .j, .j, .j, .j, .j, .j, .j, .j, .j, .j, .j, .j, .j, .j, .j, .j], [], 2, []⟩) (fun ⟨i, q⟩ => l.length - i) (fun ⟨i, q⟩ => i ≤ l.length ∧ 0 ≤ q ∧ hdLs mShf q (l.drop i) = hdLs mShf k l ∧ nxLs mShf q (l.drop i) ≤ 1000000000) (0, k) ⟨?_, ?_⟩ ?_))))))
 ·exact ⟨Nat.zero_le _, h0, rfl, h1⟩
 ·refine ent_ok rfl ?_
  simp [conj]
 ·rintro ⟨i, q⟩ ⟨hi, hq, hgo, hb⟩
  refine sw_seq (sw_seq (xr hP 3 rfl (sw_cond rfl (fun c2 => ?_) (fun c2 => ?_))))
  ·have hlt : i < l.length := by simpa using c2
   obtain ⟨s1, s2, s3⟩ := nx_drop mShf_ok (q := q) hlt
   rw [s1] at hb
   have hp0 : ¬ q + 1 < 0 := by omega
   have s4 : q + 1 ≤ nxLs mkStr (q + 1) l[i].2 := (mkList_ok mkStr_ok).ge _ _
   replace s3 : nxLs mkStr (q + 1) l[i].2 ≤ nxLs mShf (nxLs mkStr (q + 1) l[i].2) (l.drop (i + 1)) := s3
   have hb2 : nxLs mShf (nxLs mkStr (q + 1) l[i].2) (l.drop (i + 1)) ≤ 1000000000 := hb
   have hSS : ∀ (q : Int) (s : Str), mkStr.hd q s = if s = mkT q then q + 1 else -1 := fun _ _ => rfl
   refine sw_skip (sw_seq (sw_block (sw_seq (sw_seq (xg hP 4 [] rfl ?_ ?_)))))
   ·simp [conj, gE hlt]
    repeat' apply And.intro
    all_goals first | trivial | assumption | omega | (show q ≤ 1099511627776; omega) | (show 0 ≤ q + 1; omega) | (show nxLs mkStr (q + 1) l[i].2 ≤ _; omega)
   refine sw_cond rfl (fun c4 => ?_) (fun c4 => ?_)
   ·replace c4 : ¬ l[i].1 = mkT q := by simpa [gE hlt] using c4
    have hn : mShf.hd q l[i] < 0 := by simp [mShf, mkPair, mkList, mkNo, hSS, c4, hp0]
    refine sw_seq (xg hP 5 [] rfl ?_ ?_)
    ·simp [conj, gE hlt]
     repeat' apply And.intro
     all_goals first | trivial | assumption | omega | (show q ≤ 1099511627776; omega) | (show 0 ≤ q + 1; omega) | (show nxLs mkStr (q + 1) l[i].2 ≤ _; omega)
    refine sw_ret ⟨.inl rfl, _, rfl, ?_⟩
    simp [conj]
    exact (hd_hit hlt hgo hn).symm
   ·replace c4 : l[i].1 = mkT q := by simpa [gE hlt] using c4
    refine sw_skip (sw_seq (xg hP 5 [] rfl ?_ ?_))
    ·simp [conj, gE hlt]
     repeat' apply And.intro
     all_goals first | trivial | assumption | omega | (show q ≤ 1099511627776; omega) | (show 0 ≤ q + 1; omega) | (show nxLs mkStr (q + 1) l[i].2 ≤ _; omega)
    refine sw_seq (xg hP 6 [] rfl ?_ ?_)
    ·simp [conj, gE hlt]
     repeat' apply And.intro
     all_goals first | trivial | assumption | omega | (show q ≤ 1099511627776; omega) | (show 0 ≤ q + 1; omega) | (show nxLs mkStr (q + 1) l[i].2 ≤ _; omega)
    refine sw_seq (xg hP 7 [] rfl ?_ ?_)
    ·simp [conj, gE hlt]
     repeat' apply And.intro
     all_goals first | trivial | assumption | omega | (show q ≤ 1099511627776; omega) | (show 0 ≤ q + 1; omega) | (show nxLs mkStr (q + 1) l[i].2 ≤ _; omega)
    refine sw_cond rfl (fun c8 => ?_) (fun c8 => ?_)
    ·replace c8 : hdLs mkStr (q + 1) l[i].2 < 0 := by simpa [gE hlt] using c8
     have hn : mShf.hd q l[i] < 0 := by simp [mShf, mkPair, mkList, mkNo, hSS, c4, c8, hp0]
     refine sw_seq (xg hP 8 [] rfl ?_ ?_)
     ·simp [conj, gE hlt]
      repeat' apply And.intro
      all_goals first | trivial | assumption | omega | (show q ≤ 1099511627776; omega) | (show 0 ≤ q + 1; omega) | (show nxLs mkStr (q + 1) l[i].2 ≤ _; omega)
     refine sw_ret ⟨.inl rfl, _, rfl, ?_⟩
     simp [conj]
     exact (hd_hit hlt hgo hn).symm
    ·replace c8 : ¬ hdLs mkStr (q + 1) l[i].2 < 0 := by simpa [gE hlt] using c8
     have e0 := hd_pos (mkList_ok mkStr_ok) c8
     have hv : mShf.hd q l[i] = hdLs mkStr (q + 1) l[i].2 := by simp [mShf, mkPair, mkList, mkNo, hSS, c4, c8, hp0]
     refine sw_skip (xg hP 8 [] rfl ?_ ?_)
     ·simp only [cj, cl]
      try dsimp only [Ty.den, Ty.dflt]
      repeat' apply And.intro
      all_goals first | rfl | omega | assumption | trivial
     refine ⟨(i + 1, hdLs mkStr (q + 1) l[i].2), ?_, ?_, ent_ok rfl ?_⟩
     ·have hnn : ¬ mShf.hd q l[i] < 0 := by rw [hv]; omega
      have hgn := hd_next hlt hgo hnn
      have hpo := hd_pos mShf_ok hnn
      have hbn : nxLs mShf (hdLs mkStr (q + 1) l[i].2) (l.drop (i + 1)) ≤ 1000000000 := by rw [← hv, hpo]; exact hb
      rw [hv] at hgn
      exact ⟨hlt, by show 0 ≤ hdLs mkStr (q + 1) l[i].2; omega, hgn, hbn⟩
     ·show l.length - (i + 1) < l.length - i
      omega
     ·simp [conj, gE hlt]
  ·obtain rfl : i = l.length := by simp at c2; omega
   refine sw_exit (sw_seq (xr hP 4 rfl (sw_ret ⟨.inl rfl, _, rfl, ?_⟩)))
   simp [conj]
   exact (hd_end hgo).symm
def cHdMo : Ctr := ⟨17, [.val true T_Model (.all .b), .val false TI pF], fun x => 0 ≤ x.2.1 ∧ nxLs mShf x.2.1 x.1 ≤ 1000000000, fun x => (sInt .i64 (hdLs mShf x.2.1 x.1), [])⟩
theorem cHdMo_ok : CtrOk Proofs.Tryz.prog cHdMo := by
 have hP := ((Prg.none ttok mtok).and cHdSh_ok)
 refine ctr_of_body hP cHdMo (fn := Proofs.Tryz.f17) (rts := [.tmp 4]) Proofs.Tryz.func17 rfl (by kernel_rfl) rfl rfl ?_
 rintro ⟨(l : Mdl), (k : Int), ⟨⟩⟩ _ ⟨h0, h1⟩
 try dsimp only [Ty.den, Mode.den, mdens] at h0
 try dsimp only [Ty.den, Mode.den, mdens] at h1
 refine ⟨rfl, ?_⟩
 replace h0 : 0 ≤ k := h0
 refine sw_seq (xr hP 1 rfl (sw_seq (xg hP 2 [] rfl ?_ ?_)))
 ·simp [conj, maxL]
  try dsimp only [Ty.den, Ty.dflt]
  try simp only [rd_eta]
  exact ⟨h0, h1⟩
 refine sw_seq (sw_seq (xr hP 3 rfl (sw_cond rfl (fun c2 => ?_) (fun c2 => ?_))))
 ·replace c2 : hdLs mShf k l < 0 := of_decide_eq_true c2
  have hv : hdLs mShf k l = -1 := hd_neg (mkList_ok mShf_ok) h0 c2
  refine sw_seq (xr hP 4 rfl (sw_ret ⟨.inl rfl, _, rfl, ?_⟩))
  simp [conj]
  exact hv.symm
 ·refine sw_skip (sw_seq (xr hP 4 rfl (sw_ret ⟨.inl rfl, _, rfl, ?_⟩)))
  simp [conj]
def cMkWo (p : Wor) (k : Int) (a b c d e f : Id) : Xctr := ⟨7, [(a, ⟨0, 0, 1⟩, .sl T_Disk (.all .w) p.1.1), (b, ⟨0, 0, 2⟩, .sl T_Vol (.all .w) p.1.2.2.1.2), (c, ⟨0, 0, 3⟩, .sl T_Vol (.all .w) p.1.2.2.2.2), (d, ⟨0, 0, 4⟩, .sl T_Shelf (.all .w) p.2.1), (e, ⟨0, 0, 5⟩, .sl T_Shelf (.all .w) p.2.2.1), (f, ⟨0, 0, 6⟩, .sl T_Shelf (.all .w) p.2.2.2.1)], [], [.v true [.own ⟨0, 0, 1⟩, .d .bool pF p.1.2.1, .d TI pF p.1.2.2.1.1, .own ⟨0, 0, 2⟩, .d TI pF p.1.2.2.2.1, .own ⟨0, 0, 3⟩, .own ⟨0, 0, 4⟩, .own ⟨0, 0, 5⟩, .own ⟨0, 0, 6⟩, .d .bool pF p.2.2.2.2], sInt .i64 k],
  (sInt .i64 (mWor.nx k p), [(⟨0, 0, 1⟩, .sl T_Disk (.all .w) (mWor.mk k p).1.1), (⟨0, 0, 2⟩, .sl T_Vol (.all .w) (mWor.mk k p).1.2.2.1.2), (⟨0, 0, 3⟩, .sl T_Vol (.all .w) (mWor.mk k p).1.2.2.2.2), (⟨0, 0, 4⟩, .sl T_Shelf (.all .w) (mWor.mk k p).2.1), (⟨0, 0, 5⟩, .sl T_Shelf (.all .w) (mWor.mk k p).2.2.1), (⟨0, 0, 6⟩, .sl T_Shelf (.all .w) (mWor.mk k p).2.2.2.1)])⟩
theorem cMkWo_ok {p : Wor} {k : Int} {a b c d e f : Id} (h0 : 0 ≤ k) (h1 : mWor.nx k p ≤ 1000000000) : XOk Proofs.Tryz.prog (cMkWo p k a b c d e f) := by
 have hP := (((Prg.none ttok mtok).and cMkMo_ok).andX (cMkPo_ok (p := p.1) (k := k) (a := ⟨0, 0, 1⟩) (b := ⟨0, 0, 2⟩) (c := ⟨0, 0, 3⟩) h0 (Int.le_trans (mkPair_ge3 h0) h1)))
 refine xctr_of_body hP (cMkWo p k a b c d e f) (fn := Proofs.Tryz.f7) (rts := [.tmp 4]) Proofs.Tryz.func7 rfl (by kernel_rfl) rfl rfl ?_
 refine ⟨rfl, ?_⟩
 have s1 : k ≤ (mPol.nx k p.1) := mPol_ok.ge _ _
 have s2 : (mPol.nx k p.1) ≤ (nxLs mShf (mPol.nx k p.1) p.2.1) := (mkList_ok mShf_ok).ge _ _
 have s3 : (nxLs mShf (mPol.nx k p.1) p.2.1) ≤ (nxLs mShf (nxLs mShf (mPol.nx k p.1) p.2.1) p.2.2.1) := (mkList_ok mShf_ok).ge _ _
 have s4 : (nxLs mShf (nxLs mShf (mPol.nx k p.1) p.2.1) p.2.2.1) ≤ (nxLs mShf (nxLs mShf (nxLs mShf (mPol.nx k p.1) p.2.1) p.2.2.1) p.2.2.2.1) := (mkList_ok mShf_ok).ge _ _
 replace h1 : (nxLs mShf (nxLs mShf (nxLs mShf (mPol.nx k p.1) p.2.1) p.2.2.1) p.2.2.2.1) ≤ 1000000000 := h1
 refine sw_seq (xr hP 1 rfl (sw_seq (xr hP 2 rfl (sw_seq (xg hP 3 [] rfl ?_ ?_)))))
 ·simp [conj, maxL]
  try dsimp only [Ty.den, Ty.dflt]
  try simp only [rd_eta]
  exact ⟨by show 0 ≤ (mPol.nx k p.1); omega, by show (nxLs mShf (mPol.nx k p.1) p.2.1) ≤ _; omega⟩
 refine sw_seq (xg hP 4 [] rfl ?_ ?_)
 ·simp [conj, maxL]
  try dsimp only [Ty.den, Ty.dflt]
  try simp only [rd_eta]
  exact ⟨by show 0 ≤ (nxLs mShf (mPol.nx k p.1) p.2.1); omega, by show (nxLs mShf (nxLs mShf (mPol.nx k p.1) p.2.1) p.2.2.1) ≤ _; omega⟩
 refine sw_seq (xg hP 5 [] rfl ?_ ?_)
 ·simp [conj, maxL]
  try dsimp only [Ty.den, Ty.dflt]
  try simp only [rd_eta]
  exact ⟨by show 0 ≤ (nxLs mShf (nxLs mShf (mPol.nx k p.1) p.2.1) p.2.2.1); omega, by show (nxLs mShf (nxLs mShf (nxLs mShf (mPol.nx k p.1) p.2.1) p.2.2.1) p.2.2.2.1) ≤ _; omega⟩
 refine sw_seq (xr hP 6 rfl (sw_ret ⟨.inl rfl, _, rfl, ?_⟩))
 simp [conj]
 try (repeat' apply And.intro)
 all_goals rfl
def cHdWo : Ctr := ⟨8, [.val true T_World (.all .b), .val false TI pF], fun x => 0 ≤ x.2.1 ∧ mWor.nx x.2.1 x.1 ≤ 1000000000, fun x => (sInt .i64 (mWor.hd x.2.1 x.1), [])⟩
theorem cHdWo_ok : CtrOk Proofs.Tryz.prog cHdWo := by
 have hP := (((Prg.none ttok mtok).and cHdPo_ok).and cHdMo_ok)
 refine ctr_of_body hP cHdWo (fn := Proofs.Tryz.f8) (rts := [.tmp 4]) Proofs.Tryz.func8 rfl (by kernel_rfl) rfl rfl ?_
 rintro ⟨⟨⟨(ds : List Dsk), (op : Bool), ⟨(tg : Int), (l : List Vol_)⟩, ⟨(tg2 : Int), (l2 : List Vol_)⟩⟩, (ka : Mdl), (kb : Mdl), (kc : Mdl), (kw : Bool)⟩, (k : Int), ⟨⟩⟩ _ ⟨h0, h1⟩
 try dsimp only [Ty.den, Mode.den, mdens] at h0
 try dsimp only [Ty.den, Mode.den, mdens] at h1
 refine ⟨rfl, ?_⟩
 replace h0 : 0 ≤ k := h0
 have s1 : k ≤ (mPol.nx k ((ds, op, (tg, l), (tg2, l2)) : Pol)) := mPol_ok.ge _ _
 have s2 : (mPol.nx k ((ds, op, (tg, l), (tg2, l2)) : Pol)) ≤ (nxLs mShf (mPol.nx k ((ds, op, (tg, l), (tg2, l2)) : Pol)) ka) := (mkList_ok mShf_ok).ge _ _
 have s3 : (nxLs mShf (mPol.nx k ((ds, op, (tg, l), (tg2, l2)) : Pol)) ka) ≤ (nxLs mShf (nxLs mShf (mPol.nx k ((ds, op, (tg, l), (tg2, l2)) : Pol)) ka) kb) := (mkList_ok mShf_ok).ge _ _
 have s4 : (nxLs mShf (nxLs mShf (mPol.nx k ((ds, op, (tg, l), (tg2, l2)) : Pol)) ka) kb) ≤ (nxLs mShf (nxLs mShf (nxLs mShf (mPol.nx k ((ds, op, (tg, l), (tg2, l2)) : Pol)) ka) kb) kc) := (mkList_ok mShf_ok).ge _ _
 replace h1 : (nxLs mShf (nxLs mShf (nxLs mShf (mPol.nx k ((ds, op, (tg, l), (tg2, l2)) : Pol)) ka) kb) kc) ≤ 1000000000 := h1
 refine sw_seq (xr hP 1 rfl (sw_seq (xg hP 2 [] rfl ?_ ?_)))
 ·simp [conj, maxL]
  try dsimp only [Ty.den, Ty.dflt]
  try simp only [rd_eta]
  exact ⟨h0, by show (mPol.nx k ((ds, op, (tg, l), (tg2, l2)) : Pol)) ≤ _; omega⟩
 refine sw_seq (sw_seq (xr hP 3 rfl (sw_cond rfl (fun c2 => ?_) (fun c2 => ?_))))
 ·replace c2 : (mPol.hd k ((ds, op, (tg, l), (tg2, l2)) : Pol)) < 0 := of_decide_eq_true c2
  have en : (mPol.hd k ((ds, op, (tg, l), (tg2, l2)) : Pol)) = -1 := hd_neg mPol_ok (by omega) c2
  refine sw_seq (xr hP 4 rfl (sw_ret ⟨.inl rfl, _, rfl, ?_⟩))
  have hv : mWor.hd k ((((ds, op, (tg, l), (tg2, l2)) : Pol), ka, kb, kc, kw) : Wor) = -1 := by
    show (if (mPol.hd k ((ds, op, (tg, l), (tg2, l2)) : Pol)) < 0 then -1 else if (hdLs mShf (mPol.hd k ((ds, op, (tg, l), (tg2, l2)) : Pol)) ka) < 0 then -1 else if (hdLs mShf (hdLs mShf (mPol.hd k ((ds, op, (tg, l), (tg2, l2)) : Pol)) ka) kb) < 0 then -1 else if (hdLs mShf (hdLs mShf (hdLs mShf (mPol.hd k ((ds, op, (tg, l), (tg2, l2)) : Pol)) ka) kb) kc) < 0 then -1 else (hdLs mShf (hdLs mShf (hdLs mShf (mPol.hd k ((ds, op, (tg, l), (tg2, l2)) : Pol)) ka) kb) kc)) = _
    rw [if_pos c2]
  simp only [conj, List.append_nil]
  exact hv.symm
 ·replace c2 : ¬ (mPol.hd k ((ds, op, (tg, l), (tg2, l2)) : Pol)) < 0 := of_decide_eq_false c2
  have e0 : (mPol.hd k ((ds, op, (tg, l), (tg2, l2)) : Pol)) = (mPol.nx k ((ds, op, (tg, l), (tg2, l2)) : Pol)) := hd_pos mPol_ok c2
  refine sw_skip (sw_seq (xg hP 4 [] rfl ?_ ?_))
  ·simp [conj, maxL]
   try dsimp only [Ty.den, Ty.dflt]
   try simp only [rd_eta]
   exact ⟨by show 0 ≤ (mPol.hd k ((ds, op, (tg, l), (tg2, l2)) : Pol)); omega, by show nxLs mShf (mPol.hd k ((ds, op, (tg, l), (tg2, l2)) : Pol)) ka ≤ _; rw [e0]; omega⟩
  refine sw_seq (sw_seq (xr hP 5 rfl (sw_cond rfl (fun c5 => ?_) (fun c5 => ?_))))
  ·replace c5 : (hdLs mShf (mPol.hd k ((ds, op, (tg, l), (tg2, l2)) : Pol)) ka) < 0 := of_decide_eq_true c5
   have en : (hdLs mShf (mPol.hd k ((ds, op, (tg, l), (tg2, l2)) : Pol)) ka) = -1 := hd_neg (mkList_ok mShf_ok) (by omega) c5
   refine sw_seq (xr hP 6 rfl (sw_ret ⟨.inl rfl, _, rfl, ?_⟩))
   have hv : mWor.hd k ((((ds, op, (tg, l), (tg2, l2)) : Pol), ka, kb, kc, kw) : Wor) = -1 := by
     show (if (mPol.hd k ((ds, op, (tg, l), (tg2, l2)) : Pol)) < 0 then -1 else if (hdLs mShf (mPol.hd k ((ds, op, (tg, l), (tg2, l2)) : Pol)) ka) < 0 then -1 else if (hdLs mShf (hdLs mShf (mPol.hd k ((ds, op, (tg, l), (tg2, l2)) : Pol)) ka) kb) < 0 then -1 else if (hdLs mShf (hdLs mShf (hdLs mShf (mPol.hd k ((ds, op, (tg, l), (tg2, l2)) : Pol)) ka) kb) kc) < 0 then -1 else (hdLs mShf (hdLs mShf (hdLs mShf (mPol.hd k ((ds, op, (tg, l), (tg2, l2)) : Pol)) ka) kb) kc)) = _
     rw [if_neg c2, if_pos c5]
   simp only [conj, List.append_nil]
   exact hv.symm
  ·replace c5 : ¬ (hdLs mShf (mPol.hd k ((ds, op, (tg, l), (tg2, l2)) : Pol)) ka) < 0 := of_decide_eq_false c5
   have e1 : (hdLs mShf (mPol.hd k ((ds, op, (tg, l), (tg2, l2)) : Pol)) ka) = nxLs mShf (mPol.hd k ((ds, op, (tg, l), (tg2, l2)) : Pol)) ka := hd_pos (mkList_ok mShf_ok) c5
   refine sw_skip (sw_seq (xg hP 6 [] rfl ?_ ?_))
   ·simp [conj, maxL]
    try dsimp only [Ty.den, Ty.dflt]
    try simp only [rd_eta]
    exact ⟨by show 0 ≤ (hdLs mShf (mPol.hd k ((ds, op, (tg, l), (tg2, l2)) : Pol)) ka); omega, by show nxLs mShf (hdLs mShf (mPol.hd k ((ds, op, (tg, l), (tg2, l2)) : Pol)) ka) kb ≤ _; rw [e1, e0]; omega⟩
   refine sw_seq (sw_seq (xr hP 7 rfl (sw_cond rfl (fun c8 => ?_) (fun c8 => ?_))))
   ·replace c8 : (hdLs mShf (hdLs mShf (mPol.hd k ((ds, op, (tg, l), (tg2, l2)) : Pol)) ka) kb) < 0 := of_decide_eq_true c8
    have en : (hdLs mShf (hdLs mShf (mPol.hd k ((ds, op, (tg, l), (tg2, l2)) : Pol)) ka) kb) = -1 := hd_neg (mkList_ok mShf_ok) (by omega) c8
    refine sw_seq (xr hP 8 rfl (sw_ret ⟨.inl rfl, _, rfl, ?_⟩))
    have hv : mWor.hd k ((((ds, op, (tg, l), (tg2, l2)) : Pol), ka, kb, kc, kw) : Wor) = -1 := by
      show (if (mPol.hd k ((ds, op, (tg, l), (tg2, l2)) : Pol)) < 0 then -1 else if (hdLs mShf (mPol.hd k ((ds, op, (tg, l), (tg2, l2)) : Pol)) ka) < 0 then -1 else if (hdLs mShf (hdLs mShf (mPol.hd k ((ds, op, (tg, l), (tg2, l2)) : Pol)) ka) kb) < 0 then -1 else if (hdLs mShf (hdLs mShf (hdLs mShf (mPol.hd k ((ds, op, (tg, l), (tg2, l2)) : Pol)) ka) kb) kc) < 0 then -1 else (hdLs mShf (hdLs mShf (hdLs mShf (mPol.hd k ((ds, op, (tg, l), (tg2, l2)) : Pol)) ka) kb) kc)) = _
      rw [if_neg c2, if_neg c5, if_pos c8]
    simp only [conj, List.append_nil]
    exact hv.symm
   ·replace c8 : ¬ (hdLs mShf (hdLs mShf (mPol.hd k ((ds, op, (tg, l), (tg2, l2)) : Pol)) ka) kb) < 0 := of_decide_eq_false c8
    have e2 : (hdLs mShf (hdLs mShf (mPol.hd k ((ds, op, (tg, l), (tg2, l2)) : Pol)) ka) kb) = nxLs mShf (hdLs mShf (mPol.hd k ((ds, op, (tg, l), (tg2, l2)) : Pol)) ka) kb := hd_pos (mkList_ok mShf_ok) c8
    refine sw_skip (sw_seq (xg hP 8 [] rfl ?_ ?_))
    ·simp [conj, maxL]
     try dsimp only [Ty.den, Ty.dflt]
     try simp only [rd_eta]
     exact ⟨by show 0 ≤ (hdLs mShf (hdLs mShf (mPol.hd k ((ds, op, (tg, l), (tg2, l2)) : Pol)) ka) kb); omega, by show nxLs mShf (hdLs mShf (hdLs mShf (mPol.hd k ((ds, op, (tg, l), (tg2, l2)) : Pol)) ka) kb) kc ≤ _; rw [e2, e1, e0]; omega⟩
    refine sw_seq (sw_seq (xr hP 9 rfl (sw_cond rfl (fun c11 => ?_) (fun c11 => ?_))))
    ·replace c11 : (hdLs mShf (hdLs mShf (hdLs mShf (mPol.hd k ((ds, op, (tg, l), (tg2, l2)) : Pol)) ka) kb) kc) < 0 := of_decide_eq_true c11
     have en : (hdLs mShf (hdLs mShf (hdLs mShf (mPol.hd k ((ds, op, (tg, l), (tg2, l2)) : Pol)) ka) kb) kc) = -1 := hd_neg (mkList_ok mShf_ok) (by omega) c11
     refine sw_seq (xr hP 10 rfl (sw_ret ⟨.inl rfl, _, rfl, ?_⟩))
     have hv : mWor.hd k ((((ds, op, (tg, l), (tg2, l2)) : Pol), ka, kb, kc, kw) : Wor) = -1 := by
       show (if (mPol.hd k ((ds, op, (tg, l), (tg2, l2)) : Pol)) < 0 then -1 else if (hdLs mShf (mPol.hd k ((ds, op, (tg, l), (tg2, l2)) : Pol)) ka) < 0 then -1 else if (hdLs mShf (hdLs mShf (mPol.hd k ((ds, op, (tg, l), (tg2, l2)) : Pol)) ka) kb) < 0 then -1 else if (hdLs mShf (hdLs mShf (hdLs mShf (mPol.hd k ((ds, op, (tg, l), (tg2, l2)) : Pol)) ka) kb) kc) < 0 then -1 else (hdLs mShf (hdLs mShf (hdLs mShf (mPol.hd k ((ds, op, (tg, l), (tg2, l2)) : Pol)) ka) kb) kc)) = _
       rw [if_neg c2, if_neg c5, if_neg c8, if_pos c11]
     simp only [conj, List.append_nil]
     exact hv.symm
    ·replace c11 : ¬ (hdLs mShf (hdLs mShf (hdLs mShf (mPol.hd k ((ds, op, (tg, l), (tg2, l2)) : Pol)) ka) kb) kc) < 0 := of_decide_eq_false c11
     have e3 : (hdLs mShf (hdLs mShf (hdLs mShf (mPol.hd k ((ds, op, (tg, l), (tg2, l2)) : Pol)) ka) kb) kc) = nxLs mShf (hdLs mShf (hdLs mShf (mPol.hd k ((ds, op, (tg, l), (tg2, l2)) : Pol)) ka) kb) kc := hd_pos (mkList_ok mShf_ok) c11
     refine sw_skip (sw_seq (xr hP 10 rfl (sw_ret ⟨.inl rfl, _, rfl, ?_⟩)))
     have hv : mWor.hd k ((((ds, op, (tg, l), (tg2, l2)) : Pol), ka, kb, kc, kw) : Wor) = (hdLs mShf (hdLs mShf (hdLs mShf (mPol.hd k ((ds, op, (tg, l), (tg2, l2)) : Pol)) ka) kb) kc) := by
       show (if (mPol.hd k ((ds, op, (tg, l), (tg2, l2)) : Pol)) < 0 then -1 else if (hdLs mShf (mPol.hd k ((ds, op, (tg, l), (tg2, l2)) : Pol)) ka) < 0 then -1 else if (hdLs mShf (hdLs mShf (mPol.hd k ((ds, op, (tg, l), (tg2, l2)) : Pol)) ka) kb) < 0 then -1 else if (hdLs mShf (hdLs mShf (hdLs mShf (mPol.hd k ((ds, op, (tg, l), (tg2, l2)) : Pol)) ka) kb) kc) < 0 then -1 else (hdLs mShf (hdLs mShf (hdLs mShf (mPol.hd k ((ds, op, (tg, l), (tg2, l2)) : Pol)) ka) kb) kc)) = _
       rw [if_neg c2, if_neg c5, if_neg c8, if_neg c11]
     simp only [conj, List.append_nil]
     exact hv.symm
end Go.Sx
