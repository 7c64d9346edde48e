/- Several texts, one behind the other. -/
import Derived.Test.YtbaifcnfdljhlaaDoorMR4toMK2
import Derived.Test.YtbaifcnfdljhlaaDoorMOpentoMPn
set_option linter.all false
namespace Go.Sx
open Go
set_option maxRecDepth 100000
set_option linter.unusedVariables false
set_option linter.unusedSimpArgs false
set_option maxHeartbeats 2000000
def cMkStr : Ctr := ⟨31, [.mu false .str (.all .w), .val false TI pF], fun x => 0 ≤ x.2.1 ∧ nxLs mkStr x.2.1 x.1 ≤ 1000000000, fun x => (sInt .i64 (nxLs mkStr x.2.1 x.1), [(⟨0, 0, 0⟩, .sl .str (.all .w) (mkLs mkStr x.2.1 x.1))])⟩
theorem cMkStr_ok : CtrOk Proofs.Tryd.prog cMkStr := by
 have hP := ((Prg.none ttok mtok).and cMkT_ok)
 refine ctr_of_body hP cMkStr (fn := Proofs.Tryd.f31) (rts := [.tmp 4]) Proofs.Tryd.func31 rfl (by kernel_rfl) rfl rfl ?_
 rintro ⟨(l : List Str), (k : Int), ⟨⟩⟩ ⟨hdl, _⟩ ⟨h0, h1⟩
 try dsimp only [Ty.den, Mode.den, mdens] at h0
 try dsimp only [Ty.den, Mode.den, mdens] at h1
 refine ⟨rfl, ?_⟩
 have hml : l.length ≤ 140737488355328 := hdl.1
 replace h0 : 0 ≤ k := h0
 replace h1 : nxLs mkStr k l ≤ 1000000000 := h1
 refine sw_seq (xr hP 1 rfl (sw_seq (sw_seq (xr hP 2 rfl (sw_block (sw_loop (ι := Nat) (fun i => ⟨[.v false [.own ⟨0, 0, 0⟩], sInt .i64 (nxLs mkStr k (l.take i)), .j, .j, .j, sInt .i64 (i : Int), .j, .j, .j, .j, .j, .j, .j, .j, .j, .j, .j, .j, .j, .j], [(⟨0, 0, 0⟩, .sl .str (.all .w) (mkLs mkStr k (l.take i) ++ l.drop i))], 2, [[.v false [.own ⟨0, 0, 0⟩], .j]]⟩) (fun i => l.length - i) (fun i => i ≤ l.length) 0 ⟨?_, ?_⟩ ?_))))))
 ·exact Nat.zero_le _
 ·refine ent_ok rfl ?_
  simp [conj, mkLs, nxLs]
 ·rintro i hi
  refine sw_seq (sw_seq (xr hP 3 rfl (sw_cond rfl (fun c2 => ?_) (fun c2 => ?_))))
  ·have hcl := mk_clen (m := mkStr) (k := k) hi
   have hlt : i < l.length := by have h : ((i : Nat) : Int) < ((mkLs mkStr k (l.take i) ++ l.drop i).length : Nat) := of_decide_eq_true c2; omega
   have hnx := mk_next (m := mkStr) (k := k) hlt
   have hnn := nx_next (m := mkStr) (k := k) hlt
   obtain ⟨s1, s2, s3⟩ := nx_split mkStr_ok (k := k) hlt
   have hget := mk_get (m := mkStr) (k := k) hlt
   have hgd : ∀ d, (mkLs mkStr k (l.take i) ++ l.drop i)[i]?.getD d = l[i] := fun d => by rw [hget]; rfl
   have hgi : ∀ h, (mkLs mkStr k (l.take i) ++ l.drop i)[i]'h = l[i] := fun h => by have h2 := hget; rw [gE h] at h2; exact Option.some.inj h2
   generalize hQ : (nxLs mkStr k (l.take i)) = Q at *
   replace s2 : Q ≤ Q + 1 := s2
   replace s3 : Q + 1 ≤ nxLs mkStr k l := s3
   refine sw_skip (sw_seq (sw_block (sw_seq (xg hP 4 [] rfl ?_ ?_))))
   ·simp [conj, hget, hgd, hgi, hcl, List.getElem?_set, hlt]
    repeat' apply And.intro
    all_goals first | trivial | assumption | omega | (show Q ≤ 1099511627776; omega)
   refine xg hP 5 [] rfl ?_ ?_
   ·simp [conj, hget, hgd, hgi, hcl, List.getElem?_set, hlt]
    repeat' apply And.intro
    all_goals first | trivial | assumption | omega | (show Q ≤ 1099511627776; omega)
   refine xg hP 6 [] rfl ?_ ?_
   ·simp only [cj, cl]
    try dsimp only [Ty.den, Ty.dflt]
    repeat' apply And.intro
    all_goals first | rfl | omega | assumption | trivial
   refine ⟨i + 1, ?_, ?_, ent_ok rfl ?_⟩
   ·exact hlt
   ·omega
   ·rw [hnn]
    simp [conj, hget, hgd, hgi, hcl, List.getElem?_set, hlt]
    repeat' apply And.intro
    all_goals first | rfl | exact hnx | omega
  ·have hcl := mk_clen (m := mkStr) (k := k) hi
   obtain rfl : i = l.length := by have h : ¬ ((i : Nat) : Int) < ((mkLs mkStr k (l.take i) ++ l.drop i).length : Nat) := of_decide_eq_false c2; omega
   refine sw_exit (sw_seq (xr hP 4 rfl (sw_ret ⟨.inl rfl, _, rfl, ?_⟩)))
   simp [conj]
def cMkBool : Ctr := ⟨32, [.mu false .bool (.all .w), .val false TI pF], fun x => 0 ≤ x.2.1 ∧ nxLs mkBool x.2.1 x.1 ≤ 1000000000, fun x => (sInt .i64 (nxLs mkBool x.2.1 x.1), [(⟨0, 0, 0⟩, .sl .bool (.all .w) (mkLs mkBool x.2.1 x.1))])⟩
theorem cMkBool_ok : CtrOk Proofs.Tryd.prog cMkBool := by
 have hP := (Prg.none ttok mtok)
 refine ctr_of_body hP cMkBool (fn := Proofs.Tryd.f32) (rts := [.tmp 4]) Proofs.Tryd.func32 rfl (by kernel_rfl) rfl rfl ?_
 rintro ⟨(l : List Bool), (k : Int), ⟨⟩⟩ ⟨hdl, _⟩ ⟨h0, h1⟩
 try dsimp only [Ty.den, Mode.den, mdens] at h0
 try dsimp only [Ty.den, Mode.den, mdens] at h1
 refine ⟨rfl, ?_⟩
 have hml : l.length ≤ 140737488355328 := hdl.1
 replace h0 : 0 ≤ k := h0
 replace h1 : nxLs mkBool k l ≤ 1000000000 := h1
 refine sw_seq (xr hP 1 rfl (sw_seq (sw_seq (xr hP 2 rfl (sw_block (sw_loop (ι := Nat) (fun i => ⟨[.v false [.own ⟨0, 0, 0⟩], sInt .i64 (nxLs mkBool k (l.take i)), .j, .j, .j, sInt .i64 (i : Int), .j, .j, .j, .j, .j, .j, .j, .j, .j, .j, .j, .j, .j, .j, .j], [(⟨0, 0, 0⟩, .sl .bool (.all .w) (mkLs mkBool k (l.take i) ++ l.drop i))], 2, [[.v false [.own ⟨0, 0, 0⟩], .j]]⟩) (fun i => l.length - i) (fun i => i ≤ l.length) 0 ⟨?_, ?_⟩ ?_))))))
 ·exact Nat.zero_le _
 ·refine ent_ok rfl ?_
  simp [conj, mkLs, nxLs]
 ·rintro i hi
  refine sw_seq (sw_seq (xr hP 3 rfl (sw_cond rfl (fun c2 => ?_) (fun c2 => ?_))))
  ·have hcl := mk_clen (m := mkBool) (k := k) hi
   have hlt : i < l.length := by have h : ((i : Nat) : Int) < ((mkLs mkBool k (l.take i) ++ l.drop i).length : Nat) := of_decide_eq_true c2; omega
   have hnx := mk_next (m := mkBool) (k := k) hlt
   have hnn := nx_next (m := mkBool) (k := k) hlt
   obtain ⟨s1, s2, s3⟩ := nx_split mkBool_ok (k := k) hlt
   have hget := mk_get (m := mkBool) (k := k) hlt
   have hgd : ∀ d, (mkLs mkBool k (l.take i) ++ l.drop i)[i]?.getD d = l[i] := fun d => by rw [hget]; rfl
   have hgi : ∀ h, (mkLs mkBool k (l.take i) ++ l.drop i)[i]'h = l[i] := fun h => by have h2 := hget; rw [gE h] at h2; exact Option.some.inj h2
   generalize hQ : (nxLs mkBool k (l.take i)) = Q at *
   replace s2 : Q ≤ Q + 1 := s2
   replace s3 : Q + 1 ≤ nxLs mkBool k l := s3
   refine sw_skip (sw_seq (sw_block (sw_seq (xg hP 4 [] rfl ?_ ?_))))
   ·simp [conj, hget, hgd, hgi, hcl, List.getElem?_set, hlt]
    repeat' apply And.intro
    all_goals first | trivial | assumption | omega
   refine xg hP 5 [] rfl ?_ ?_
   ·simp [conj, hget, hgd, hgi, hcl, List.getElem?_set, hlt]
    repeat' apply And.intro
    all_goals first | trivial | assumption | omega
   refine xg hP 6 [] rfl ?_ ?_
   ·simp only [cj, cl]
    try dsimp only [Ty.den, Ty.dflt]
    repeat' apply And.intro
    all_goals first | rfl | omega | assumption | trivial
   refine ⟨i + 1, ?_, ?_, ent_ok rfl ?_⟩
   ·exact hlt
   ·omega
   ·rw [hnn]
    simp [conj, hget, hgd, hgi, hcl, List.getElem?_set, hlt]
    repeat' apply And.intro
    all_goals first | rfl | exact hnx | omega
  ·have hcl := mk_clen (m := mkBool) (k := k) hi
   obtain rfl : i = l.length := by have h : ¬ ((i : Nat) : Int) < ((mkLs mkBool k (l.take i) ++ l.drop i).length : Nat) := of_decide_eq_false c2; omega
   refine sw_exit (sw_seq (xr hP 4 rfl (sw_ret ⟨.inl rfl, _, rfl, ?_⟩)))
   simp [conj]
def cMkPut : Ctr := ⟨33, [.mu false T_Put (.all .w), .val false TI pF], fun x => 0 ≤ x.2.1 ∧ nxLs mPut x.2.1 x.1 ≤ 1000000000, fun x => (sInt .i64 (nxLs mPut x.2.1 x.1), [(⟨0, 0, 0⟩, .sl T_Put (.all .w) (mkLs mPut x.2.1 x.1))])⟩
theorem cMkPut_ok : CtrOk Proofs.Tryd.prog cMkPut := by
 have hP := ((Prg.none ttok mtok).and cMkT_ok)
 refine ctr_of_body hP cMkPut (fn := Proofs.Tryd.f33) (rts := [.tmp 4]) Proofs.Tryd.func33 rfl (by kernel_rfl) rfl rfl ?_
 rintro ⟨(l : List Put), (k : Int), ⟨⟩⟩ ⟨hdl, _⟩ ⟨h0, h1⟩
 try dsimp only [Ty.den, Mode.den, mdens] at h0
 try dsimp only [Ty.den, Mode.den, mdens] at h1
 refine ⟨rfl, ?_⟩
 have hml : l.length ≤ 140737488355328 := hdl.1
 replace h0 : 0 ≤ k := h0
 replace h1 : nxLs mPut k l ≤ 1000000000 := h1
 refine sw_seq (xr hP 1 rfl (sw_seq (sw_seq (xr hP 2 rfl (sw_block (sw_loop (ι := Nat) (fun i => ⟨[.v false [.own ⟨0, 0, 0⟩], sInt .i64 (nxLs mPut k (l.take i)), .j, .j, .j, sInt .i64 (i : Int), .j, .j, .j, .j, .j, .j, .j, .j, .j, .j, .j, .j, .j, .j, .j, .j, .j, .j, .j, .j, .j, .j, .j, .j, .j, .j, .j, .j, .j, .j, .j], [(⟨0, 0, 0⟩, .sl T_Put (.all .w) (mkLs mPut k (l.take i) ++ l.drop i))], 2, [[.v false [.own ⟨0, 0, 0⟩], .j]]⟩) (fun i => l.length - i) (fun i => i ≤ l.length) 0 ⟨?_, ?_⟩ ?_))))))
 ·exact Nat.zero_le _
 ·refine ent_ok rfl ?_
  simp [conj, mkLs, nxLs]
 ·rintro i hi
  refine sw_seq (sw_seq (xr hP 3 rfl (sw_cond rfl (fun c2 => ?_) (fun c2 => ?_))))
  ·have hcl := mk_clen (m := mPut) (k := k) hi
   have hlt : i < l.length := by have h : ((i : Nat) : Int) < ((mkLs mPut k (l.take i) ++ l.drop i).length : Nat) := of_decide_eq_true c2; omega
   have hnx := mk_next (m := mPut) (k := k) hlt
   have hnn := nx_next (m := mPut) (k := k) hlt
   obtain ⟨s1, s2, s3⟩ := nx_split mPut_ok (k := k) hlt
   have hget := mk_get (m := mPut) (k := k) hlt
   have hgd : ∀ d, (mkLs mPut k (l.take i) ++ l.drop i)[i]?.getD d = l[i] := fun d => by rw [hget]; rfl
   have hgi : ∀ h, (mkLs mPut k (l.take i) ++ l.drop i)[i]'h = l[i] := fun h => by have h2 := hget; rw [gE h] at h2; exact Option.some.inj h2
   generalize hQ : (nxLs mPut k (l.take i)) = Q at *
   replace s2 : Q ≤ Q + 1 + 1 + 1 := s2
   replace s3 : Q + 1 + 1 + 1 ≤ nxLs mPut k l := s3
   refine sw_skip (sw_seq (sw_block (sw_seq (xg hP 4 [] rfl ?_ ?_))))
   ·simp [conj, hget, hgd, hgi, hcl, List.getElem?_set, hlt]
    repeat' apply And.intro
    all_goals first | trivial | assumption | omega | (show Q + 1 + 1 ≤ 1099511627776; omega)
   refine sw_seq (xg hP 5 [] rfl ?_ ?_)
   ·simp [conj, hget, hgd, hgi, hcl, List.getElem?_set, hlt]
    repeat' apply And.intro
    all_goals first | trivial | assumption | omega | (show Q + 1 + 1 ≤ 1099511627776; omega)
   refine sw_seq (xg hP 6 [] rfl ?_ ?_)
   ·simp [conj, hget, hgd, hgi, hcl, List.getElem?_set, hlt]
    repeat' apply And.intro
    all_goals first | trivial | assumption | omega | (show Q + 1 + 1 ≤ 1099511627776; omega)
   refine sw_seq (xg hP 7 [] rfl ?_ ?_)
   ·simp [conj, hget, hgd, hgi, hcl, List.getElem?_set, hlt]
    repeat' apply And.intro
    all_goals first | trivial | assumption | omega | (show Q + 1 + 1 ≤ 1099511627776; omega)
   refine sw_seq (xg hP 8 [] rfl ?_ ?_)
   ·simp [conj, hget, hgd, hgi, hcl, List.getElem?_set, hlt]
    repeat' apply And.intro
    all_goals first | trivial | assumption | omega | (show Q + 1 + 1 ≤ 1099511627776; omega)
   refine xg hP 9 [] rfl ?_ ?_
   ·simp [conj, hget, hgd, hgi, hcl, List.getElem?_set, hlt]
    repeat' apply And.intro
    all_goals first | trivial | assumption | omega | (show Q + 1 + 1 ≤ 1099511627776; omega)
   refine xg hP 10 [] rfl ?_ ?_
   ·simp only [cj, cl]
    try dsimp only [Ty.den, Ty.dflt]
    repeat' apply And.intro
    all_goals first | rfl | omega | assumption | trivial
   refine ⟨i + 1, ?_, ?_, ent_ok rfl ?_⟩
   ·exact hlt
   ·omega
   ·rw [hnn]
    simp [conj, hget, hgd, hgi, hcl, List.getElem?_set, hlt]
    repeat' apply And.intro
    all_goals first | rfl | exact hnx | omega
  ·have hcl := mk_clen (m := mPut) (k := k) hi
   obtain rfl : i = l.length := by have h : ¬ ((i : Nat) : Int) < ((mkLs mPut k (l.take i) ++ l.drop i).length : Nat) := of_decide_eq_false c2; omega
   refine sw_exit (sw_seq (xr hP 4 rfl (sw_ret ⟨.inl rfl, _, rfl, ?_⟩)))
   simp [conj]
def cMkDs : Ctr := ⟨18, [.mu false T_Disk (.all .w), .val false TI pF], fun x => 0 ≤ x.2.1 ∧ nxLs mDsk x.2.1 x.1 ≤ 1000000000, fun x => (sInt .i64 (nxLs mDsk x.2.1 x.1), [(⟨0, 0, 0⟩, .sl T_Disk (.all .w) (mkLs mDsk x.2.1 x.1))])⟩
theorem cMkDs_ok : CtrOk Proofs.Tryd.prog cMkDs := by
 have hP := ((((Prg.none ttok mtok).and cMkStr_ok).and cMkBool_ok).and cMkPut_ok)
 refine ctr_of_body hP cMkDs (fn := Proofs.Tryd.f18) (rts := [.tmp 4]) Proofs.Tryd.func18 rfl (by kernel_rfl) rfl rfl ?_
 rintro ⟨(l : List Dsk), (k : Int), ⟨⟩⟩ ⟨hdl, _⟩ ⟨h0, h1⟩
 try dsimp only [Ty.den, Mode.den, mdens] at h0
 try dsimp only [Ty.den, Mode.den, mdens] at h1
 refine ⟨rfl, ?_⟩
 have hml : l.length ≤ 140737488355328 := hdl.1
 replace h0 : 0 ≤ k := h0
 replace h1 : nxLs mDsk k l ≤ 1000000000 := h1
 refine sw_seq (xr hP 1 rfl (sw_seq (sw_seq (xr hP 2 rfl (sw_block (sw_loop (ι := Nat) (fun i => ⟨[.v false [.own ⟨0, 0, 0⟩], sInt .i64 (nxLs mDsk k (l.take i)), .j, .j, .j, sInt .i64 (i : Int), .j, .j, .j, .j, .j, .j, .j, .j, .j, .j, .j, .j, .j, .j, .j, .j, .j, .j, .j, .j, .j, .j, .j, .j, .j, .j, .j, .j, .j, .j, .j, .j, .j, .j, .j, .j, .j, .j, .j, .j, .j, .j], [(⟨0, 0, 0⟩, .sl T_Disk (.all .w) (mkLs mDsk k (l.take i) ++ l.drop i))], 2, [[.v false [.own ⟨0, 0, 0⟩], .j]]⟩) (fun i => l.length - i) (fun i => i ≤ l.length) 0 ⟨?_, ?_⟩ ?_))))))
 ·exact Nat.zero_le _
 ·refine ent_ok rfl ?_
  simp [conj, mkLs, nxLs]
 ·rintro i hi
  refine sw_seq (sw_seq (xr hP 3 rfl (sw_cond rfl (fun c2 => ?_) (fun c2 => ?_))))
  ·have hcl := mk_clen (m := mDsk) (k := k) hi
   have hlt : i < l.length := by have h : ((i : Nat) : Int) < ((mkLs mDsk k (l.take i) ++ l.drop i).length : Nat) := of_decide_eq_true c2; omega
   have hnx := mk_next (m := mDsk) (k := k) hlt
   have hnn := nx_next (m := mDsk) (k := k) hlt
   obtain ⟨s1, s2, s3⟩ := nx_split mDsk_ok (k := k) hlt
   have hget := mk_get (m := mDsk) (k := k) hlt
   have hgd : ∀ d, (mkLs mDsk k (l.take i) ++ l.drop i)[i]?.getD d = l[i] := fun d => by rw [hget]; rfl
   have hgi : ∀ h, (mkLs mDsk k (l.take i) ++ l.drop i)[i]'h = l[i] := fun h => by have h2 := hget; rw [gE h] at h2; exact Option.some.inj h2
   generalize hQ : (nxLs mDsk k (l.take i)) = Q at *
   have s4 : (Q + 1) ≤ (nxLs mkStr (Q + 1) l[i].2.1) := (mkList_ok mkStr_ok).ge _ _
   have s5 : (nxLs mkStr (Q + 1) l[i].2.1) ≤ (nxLs mkStr (nxLs mkStr (Q + 1) l[i].2.1) l[i].2.2.1) := (mkList_ok mkStr_ok).ge _ _
   have s6 : (nxLs mkStr (nxLs mkStr (Q + 1) l[i].2.1) l[i].2.2.1) ≤ (nxLs mkBool (nxLs mkStr (nxLs mkStr (Q + 1) l[i].2.1) l[i].2.2.1) l[i].2.2.2.1) := (mkList_ok mkBool_ok).ge _ _
   have s7 : (nxLs mkBool (nxLs mkStr (nxLs mkStr (Q + 1) l[i].2.1) l[i].2.2.1) l[i].2.2.2.1) ≤ (nxLs mPut (nxLs mkBool (nxLs mkStr (nxLs mkStr (Q + 1) l[i].2.1) l[i].2.2.1) l[i].2.2.2.1) l[i].2.2.2.2) := (mkList_ok mPut_ok).ge _ _
   replace s3 : (nxLs mPut (nxLs mkBool (nxLs mkStr (nxLs mkStr (Q + 1) l[i].2.1) l[i].2.2.1) l[i].2.2.2.1) l[i].2.2.2.2) ≤ nxLs mDsk k l := s3
   refine sw_skip (sw_seq (sw_block (sw_seq (xg hP 4 [] rfl ?_ ?_))))
   ·simp [conj, hget, hgd, hgi, hcl, List.getElem?_set, hlt]
    repeat' apply And.intro
    all_goals first | trivial | assumption | omega | (show 0 ≤ (Q + 1); omega) | (show (Q + 1) ≤ _; omega) | (show 0 ≤ (nxLs mkStr (Q + 1) l[i].2.1); omega) | (show (nxLs mkStr (Q + 1) l[i].2.1) ≤ _; omega) | (show 0 ≤ (nxLs mkStr (nxLs mkStr (Q + 1) l[i].2.1) l[i].2.2.1); omega) | (show (nxLs mkStr (nxLs mkStr (Q + 1) l[i].2.1) l[i].2.2.1) ≤ _; omega) | (show 0 ≤ (nxLs mkBool (nxLs mkStr (nxLs mkStr (Q + 1) l[i].2.1) l[i].2.2.1) l[i].2.2.2.1); omega) | (show (nxLs mkBool (nxLs mkStr (nxLs mkStr (Q + 1) l[i].2.1) l[i].2.2.1) l[i].2.2.2.1) ≤ _; omega) | (show 0 ≤ (nxLs mPut (nxLs mkBool (nxLs mkStr (nxLs mkStr (Q + 1) l[i].2.1) l[i].2.2.1) l[i].2.2.2.1) l[i].2.2.2.2); omega) | (show (nxLs mPut (nxLs mkBool (nxLs mkStr (nxLs mkStr (Q + 1) l[i].2.1) l[i].2.2.1) l[i].2.2.2.1) l[i].2.2.2.2) ≤ _; omega)
   refine sw_seq (xg hP 5 [] rfl ?_ ?_)
   ·simp [conj, hget, hgd, hgi, hcl, List.getElem?_set, hlt]
    repeat' apply And.intro
    all_goals first | trivial | assumption | omega | (show 0 ≤ (Q + 1); omega) | (show (Q + 1) ≤ _; omega) | (show 0 ≤ (nxLs mkStr (Q + 1) l[i].2.1); omega) | (show (nxLs mkStr (Q + 1) l[i].2.1) ≤ _; omega) | (show 0 ≤ (nxLs mkStr (nxLs mkStr (Q + 1) l[i].2.1) l[i].2.2.1); omega) | (show (nxLs mkStr (nxLs mkStr (Q + 1) l[i].2.1) l[i].2.2.1) ≤ _; omega) | (show 0 ≤ (nxLs mkBool (nxLs mkStr (nxLs mkStr (Q + 1) l[i].2.1) l[i].2.2.1) l[i].2.2.2.1); omega) | (show (nxLs mkBool (nxLs mkStr (nxLs mkStr (Q + 1) l[i].2.1) l[i].2.2.1) l[i].2.2.2.1) ≤ _; omega) | (show 0 ≤ (nxLs mPut (nxLs mkBool (nxLs mkStr (nxLs mkStr (Q + 1) l[i].2.1) l[i].2.2.1) l[i].2.2.2.1) l[i].2.2.2.2); omega) | (show (nxLs mPut (nxLs mkBool (nxLs mkStr (nxLs mkStr (Q + 1) l[i].2.1) l[i].2.2.1) l[i].2.2.2.1) l[i].2.2.2.2) ≤ _; omega)
   refine sw_seq (xg hP 6 [] rfl ?_ ?_)
   ·simp [conj, hget, hgd, hgi, hcl, List.getElem?_set, hlt]
    repeat' apply And.intro
    all_goals first | trivial | assumption | omega | (show 0 ≤ (Q + 1); omega) | (show (Q + 1) ≤ _; omega) | (show 0 ≤ (nxLs mkStr (Q + 1) l[i].2.1); omega) | (show (nxLs mkStr (Q + 1) l[i].2.1) ≤ _; omega) | (show 0 ≤ (nxLs mkStr (nxLs mkStr (Q + 1) l[i].2.1) l[i].2.2.1); omega) | (show (nxLs mkStr (nxLs mkStr (Q + 1) l[i].2.1) l[i].2.2.1) ≤ _; omega) | (show 0 ≤ (nxLs mkBool (nxLs mkStr (nxLs mkStr (Q + 1) l[i].2.1) l[i].2.2.1) l[i].2.2.2.1); omega) | (show (nxLs mkBool (nxLs mkStr (nxLs mkStr (Q + 1) l[i].2.1) l[i].2.2.1) l[i].2.2.2.1) ≤ _; omega) | (show 0 ≤ (nxLs mPut (nxLs mkBool (nxLs mkStr (nxLs mkStr (Q + 1) l[i].2.1) l[i].2.2.1) l[i].2.2.2.1) l[i].2.2.2.2); omega) | (show (nxLs mPut (nxLs mkBool (nxLs mkStr (nxLs mkStr (Q + 1) l[i].2.1) l[i].2.2.1) l[i].2.2.2.1) l[i].2.2.2.2) ≤ _; omega)
   refine sw_seq (xg hP 7 [] rfl ?_ ?_)
   ·simp [conj, hget, hgd, hgi, hcl, List.getElem?_set, hlt]
    repeat' apply And.intro
    all_goals first | trivial | assumption | omega | (show 0 ≤ (Q + 1); omega) | (show (Q + 1) ≤ _; omega) | (show 0 ≤ (nxLs mkStr (Q + 1) l[i].2.1); omega) | (show (nxLs mkStr (Q + 1) l[i].2.1) ≤ _; omega) | (show 0 ≤ (nxLs mkStr (nxLs mkStr (Q + 1) l[i].2.1) l[i].2.2.1); omega) | (show (nxLs mkStr (nxLs mkStr (Q + 1) l[i].2.1) l[i].2.2.1) ≤ _; omega) | (show 0 ≤ (nxLs mkBool (nxLs mkStr (nxLs mkStr (Q + 1) l[i].2.1) l[i].2.2.1) l[i].2.2.2.1); omega) | (show (nxLs mkBool (nxLs mkStr (nxLs mkStr (Q + 1) l[i].2.1) l[i].2.2.1) l[i].2.2.2.1) ≤ _; omega) | (show 0 ≤ (nxLs mPut (nxLs mkBool (nxLs mkStr (nxLs mkStr (Q + 1) l[i].2.1) l[i].2.2.1) l[i].2.2.2.1) l[i].2.2.2.2); omega) | (show (nxLs mPut (nxLs mkBool (nxLs mkStr (nxLs mkStr (Q + 1) l[i].2.1) l[i].2.2.1) l[i].2.2.2.1) l[i].2.2.2.2) ≤ _; omega)
   refine sw_seq (xg hP 8 [] rfl ?_ ?_)
   ·simp [conj, hget, hgd, hgi, hcl, List.getElem?_set, hlt]
    repeat' apply And.intro
    all_goals first | trivial | assumption | omega | (show 0 ≤ (Q + 1); omega) | (show (Q + 1) ≤ _; omega) | (show 0 ≤ (nxLs mkStr (Q + 1) l[i].2.1); omega) | (show (nxLs mkStr (Q + 1) l[i].2.1) ≤ _; omega) | (show 0 ≤ (nxLs mkStr (nxLs mkStr (Q + 1) l[i].2.1) l[i].2.2.1); omega) | (show (nxLs mkStr (nxLs mkStr (Q + 1) l[i].2.1) l[i].2.2.1) ≤ _; omega) | (show 0 ≤ (nxLs mkBool (nxLs mkStr (nxLs mkStr (Q + 1) l[i].2.1) l[i].2.2.1) l[i].2.2.2.1); omega) | (show (nxLs mkBool (nxLs mkStr (nxLs mkStr (Q + 1) l[i].2.1) l[i].2.2.1) l[i].2.2.2.1) ≤ _; omega) | (show 0 ≤ (nxLs mPut (nxLs mkBool (nxLs mkStr (nxLs mkStr (Q + 1) l[i].2.1) l[i].2.2.1) l[i].2.2.2.1) l[i].2.2.2.2); omega) | (show (nxLs mPut (nxLs mkBool (nxLs mkStr (nxLs mkStr (Q + 1) l[i].2.1) l[i].2.2.1) l[i].2.2.2.1) l[i].2.2.2.2) ≤ _; omega)
   refine xg hP 9 [] rfl ?_ ?_
   ·simp [conj, hget, hgd, hgi, hcl, List.getElem?_set, hlt]
    repeat' apply And.intro
    all_goals first | trivial | assumption | omega | (show 0 ≤ (Q + 1); omega) | (show (Q + 1) ≤ _; omega) | (show 0 ≤ (nxLs mkStr (Q + 1) l[i].2.1); omega) | (show (nxLs mkStr (Q + 1) l[i].2.1) ≤ _; omega) | (show 0 ≤ (nxLs mkStr (nxLs mkStr (Q + 1) l[i].2.1) l[i].2.2.1); omega) | (show (nxLs mkStr (nxLs mkStr (Q + 1) l[i].2.1) l[i].2.2.1) ≤ _; omega) | (show 0 ≤ (nxLs mkBool (nxLs mkStr (nxLs mkStr (Q + 1) l[i].2.1) l[i].2.2.1) l[i].2.2.2.1); omega) | (show (nxLs mkBool (nxLs mkStr (nxLs mkStr (Q + 1) l[i].2.1) l[i].2.2.1) l[i].2.2.2.1) ≤ _; omega) | (show 0 ≤ (nxLs mPut (nxLs mkBool (nxLs mkStr (nxLs mkStr (Q + 1) l[i].2.1) l[i].2.2.1) l[i].2.2.2.1) l[i].2.2.2.2); omega) | (show (nxLs mPut (nxLs mkBool (nxLs mkStr (nxLs mkStr (Q + 1) l[i].2.1) l[i].2.2.1) l[i].2.2.2.1) l[i].2.2.2.2) ≤ _; omega)
   refine xg hP 10 [] rfl ?_ ?_
   ·simp only [cj, cl]
    try dsimp only [Ty.den, Ty.dflt]
    repeat' apply And.intro
    all_goals first | rfl | omega | assumption | trivial
   refine ⟨i + 1, ?_, ?_, ent_ok rfl ?_⟩
   ·exact hlt
   ·omega
   ·rw [hnn]
    simp [conj, hget, hgd, hgi, hcl, List.getElem?_set, hlt]
    repeat' apply And.intro
    all_goals first | rfl | exact hnx | omega
  ·have hcl := mk_clen (m := mDsk) (k := k) hi
   obtain rfl : i = l.length := by have h : ¬ ((i : Nat) : Int) < ((mkLs mDsk k (l.take i) ++ l.drop i).length : Nat) := of_decide_eq_false c2; omega
   refine sw_exit (sw_seq (xr hP 4 rfl (sw_ret ⟨.inl rfl, _, rfl, ?_⟩)))
   simp [conj]
def cHdStr : Ctr := ⟨35, [.val false (.sl .str) (.all .b), .val false TI pF], fun x => 0 ≤ x.2.1 ∧ nxLs mkStr x.2.1 x.1 ≤ 1000000000, fun x => (sInt .i64 (hdLs mkStr x.2.1 x.1), [])⟩
theorem cHdStr_ok : CtrOk Proofs.Tryd.prog cHdStr := by
 have hP := ((Prg.none ttok mtok).and cMkT_ok)
 refine ctr_of_body hP cHdStr (fn := Proofs.Tryd.f35) (rts := [.tmp 4]) Proofs.Tryd.func35 rfl (by kernel_rfl) rfl rfl ?_
 rintro ⟨(l : List Str), (k : Int), ⟨⟩⟩ ⟨hdl, _⟩ ⟨h0, h1⟩
 try dsimp only [Ty.den, Mode.den, mdens] at h0
 try dsimp only [Ty.den, Mode.den, mdens] at h1
 refine ⟨rfl, ?_⟩
 have hml : l.length ≤ 140737488355328 := hdl.1
 replace h0 : 0 ≤ k := h0
 replace h1 : nxLs mkStr k l ≤ 1000000000 := h1
 refine sw_seq (xr hP 1 rfl (sw_seq (sw_seq (xr hP 2 rfl (sw_block (sw_loop (ι := Nat × Int) (fun ⟨i, q⟩ => ⟨[.v false [.d (.sl .str) (.all .b) l], sInt .i64 q, .j, .j, .j, sInt .i64 (i : Int), .j, .j, .j, .j, .j, .j, .j, .j, .j, .j, .j, .j, .j, .j, .j, .j], [], 2, []⟩) (fun ⟨i, q⟩ => l.length - i) (fun ⟨i, q⟩ => i ≤ l.length ∧ 0 ≤ q ∧ hdLs mkStr q (l.drop i) = hdLs mkStr k l ∧ nxLs mkStr q (l.drop i) ≤ 1000000000) (0, k) ⟨?_, ?_⟩ ?_))))))
 ·exact ⟨Nat.zero_le _, h0, rfl, h1⟩
 ·refine ent_ok rfl ?_
  simp [conj]
 ·rintro ⟨i, q⟩ ⟨hi, hq, hgo, hb⟩
  refine sw_seq (sw_seq (xr hP 3 rfl (sw_cond rfl (fun c2 => ?_) (fun c2 => ?_))))
  ·have hlt : i < l.length := by simpa using c2
   obtain ⟨s1, s2, s3⟩ := nx_drop mkStr_ok (q := q) hlt
   rw [s1] at hb
   have hp0 : ¬ q + 1 < 0 := by omega
   replace s2 : q ≤ q + 1 := s2
   replace s3 : q + 1 ≤ nxLs mkStr (q + 1) (l.drop (i + 1)) := s3
   replace hb : nxLs mkStr (q + 1) (l.drop (i + 1)) ≤ 1000000000 := hb
   refine sw_skip (sw_seq (sw_block (sw_seq (sw_seq (xg hP 4 [] rfl ?_ ?_)))))
   ·simp [conj, gE hlt]
    repeat' apply And.intro
    all_goals first | trivial | assumption | omega | (show q ≤ 1099511627776; omega)
   refine sw_cond rfl (fun c4 => ?_) (fun c4 => ?_)
   ·replace c4 : ¬ l[i] = mkT q := by simpa [gE hlt] using c4
    have hn : mkStr.hd q l[i] < 0 := by simp [mkStr, mkPair, mkI, mkStr, mkBool, mkOne, mkList, mkNo, c4, hp0]
    refine sw_seq (xg hP 5 [] rfl ?_ ?_)
    ·simp [conj, gE hlt]
     repeat' apply And.intro
     all_goals first | trivial | assumption | omega | (show q ≤ 1099511627776; omega)
    refine sw_ret ⟨.inl rfl, _, rfl, ?_⟩
    simp [conj]
    exact (hd_hit hlt hgo hn).symm
   ·replace c4 : l[i] = mkT q := by simpa [gE hlt] using c4
    have hv : mkStr.hd q l[i] = q + 1 := by simp [mkStr, mkPair, mkI, mkStr, mkBool, mkOne, mkList, mkNo, c4, hp0]
    refine sw_skip (xg hP 5 [] rfl ?_ ?_)
    ·simp [conj, gE hlt]
     repeat' apply And.intro
     all_goals first | trivial | assumption | omega | (show q ≤ 1099511627776; omega)
    refine xg hP 6 [] rfl ?_ ?_
    ·simp only [cj, cl]
     try dsimp only [Ty.den, Ty.dflt]
     repeat' apply And.intro
     all_goals first | rfl | omega | assumption | trivial
    refine ⟨(i + 1, q + 1), ?_, ?_, ent_ok rfl ?_⟩
    ·have hnn : ¬ mkStr.hd q l[i] < 0 := by rw [hv]; omega
     have hgn := hd_next hlt hgo hnn
     have hpo := hd_pos mkStr_ok hnn
     have hbn : nxLs mkStr (q + 1) (l.drop (i + 1)) ≤ 1000000000 := by rw [← hv, hpo]; exact hb
     rw [hv] at hgn
     exact ⟨hlt, by show 0 ≤ q + 1; omega, hgn, hbn⟩
    ·show l.length - (i + 1) < l.length - i
     omega
    ·simp [conj, gE hlt]
  ·obtain rfl : i = l.length := by simp at c2; omega
   refine sw_exit (sw_seq (xr hP 4 rfl (sw_ret ⟨.inl rfl, _, rfl, ?_⟩)))
   simp [conj]
   exact (hd_end hgo).symm
def cHdBool : Ctr := ⟨36, [.val false (.sl .bool) (.all .b), .val false TI pF], fun x => 0 ≤ x.2.1 ∧ nxLs mkBool x.2.1 x.1 ≤ 1000000000, fun x => (sInt .i64 (hdLs mkBool x.2.1 x.1), [])⟩
theorem cHdBool_ok : CtrOk Proofs.Tryd.prog cHdBool := by
 have hP := (Prg.none ttok mtok)
 refine ctr_of_body hP cHdBool (fn := Proofs.Tryd.f36) (rts := [.tmp 4]) Proofs.Tryd.func36 rfl (by kernel_rfl) rfl rfl ?_
 rintro ⟨(l : List Bool), (k : Int), ⟨⟩⟩ ⟨hdl, _⟩ ⟨h0, h1⟩
 try dsimp only [Ty.den, Mode.den, mdens] at h0
 try dsimp only [Ty.den, Mode.den, mdens] at h1
 refine ⟨rfl, ?_⟩
 have hml : l.length ≤ 140737488355328 := hdl.1
 replace h0 : 0 ≤ k := h0
 replace h1 : nxLs mkBool k l ≤ 1000000000 := h1
 refine sw_seq (xr hP 1 rfl (sw_seq (sw_seq (xr hP 2 rfl (sw_block (sw_loop (ι := Nat × Int) (fun ⟨i, q⟩ => ⟨[.v false [.d (.sl .bool) (.all .b) l], sInt .i64 q, .j, .j, .j, sInt .i64 (i : Int), .j, .j, .j, .j, .j, .j, .j, .j, .j, .j, .j, .j, .j, .j, .j, .j, .j], [], 2, []⟩) (fun ⟨i, q⟩ => l.length - i) (fun ⟨i, q⟩ => i ≤ l.length ∧ 0 ≤ q ∧ hdLs mkBool q (l.drop i) = hdLs mkBool k l ∧ nxLs mkBool q (l.drop i) ≤ 1000000000) (0, k) ⟨?_, ?_⟩ ?_))))))
 ·exact ⟨Nat.zero_le _, h0, rfl, h1⟩
 ·refine ent_ok rfl ?_
  simp [conj]
 ·rintro ⟨i, q⟩ ⟨hi, hq, hgo, hb⟩
  refine sw_seq (sw_seq (xr hP 3 rfl (sw_cond rfl (fun c2 => ?_) (fun c2 => ?_))))
  ·have hlt : i < l.length := by simpa using c2
   obtain ⟨s1, s2, s3⟩ := nx_drop mkBool_ok (q := q) hlt
   rw [s1] at hb
   have hp0 : ¬ q + 1 < 0 := by omega
   replace s2 : q ≤ q + 1 := s2
   replace s3 : q + 1 ≤ nxLs mkBool (q + 1) (l.drop (i + 1)) := s3
   replace hb : nxLs mkBool (q + 1) (l.drop (i + 1)) ≤ 1000000000 := hb
   refine sw_skip (sw_seq (sw_block (sw_seq (sw_seq (xg hP 4 [] rfl ?_ ?_)))))
   ·simp [conj, gE hlt]
    repeat' apply And.intro
    all_goals first | trivial | assumption | omega
   refine sw_cond rfl (fun c4 => ?_) (fun c4 => ?_)
   ·replace c4 : ¬ l[i] = mkB q := by simpa [gE hlt, mkB] using c4
    have hn : mkBool.hd q l[i] < 0 := by simp [mkBool, mkPair, mkI, mkStr, mkBool, mkOne, mkList, mkNo, c4, hp0]
    refine sw_seq (xg hP 5 [] rfl ?_ ?_)
    ·simp [conj, gE hlt]
     repeat' apply And.intro
     all_goals first | trivial | assumption | omega
    refine sw_ret ⟨.inl rfl, _, rfl, ?_⟩
    simp [conj]
    exact (hd_hit hlt hgo hn).symm
   ·replace c4 : l[i] = mkB q := by simpa [gE hlt, mkB] using c4
    have hv : mkBool.hd q l[i] = q + 1 := by simp [mkBool, mkPair, mkI, mkStr, mkBool, mkOne, mkList, mkNo, c4, hp0]
    refine sw_skip (xg hP 5 [] rfl ?_ ?_)
    ·simp [conj, gE hlt]
     repeat' apply And.intro
     all_goals first | trivial | assumption | omega
    refine xg hP 6 [] rfl ?_ ?_
    ·simp only [cj, cl]
     try dsimp only [Ty.den, Ty.dflt]
     repeat' apply And.intro
     all_goals first | rfl | omega | assumption | trivial
    refine ⟨(i + 1, q + 1), ?_, ?_, ent_ok rfl ?_⟩
    ·have hnn : ¬ mkBool.hd q l[i] < 0 := by rw [hv]; omega
     have hgn := hd_next hlt hgo hnn
     have hpo := hd_pos mkBool_ok hnn
     have hbn : nxLs mkBool (q + 1) (l.drop (i + 1)) ≤ 1000000000 := by rw [← hv, hpo]; exact hb
     rw [hv] at hgn
     exact ⟨hlt, by show 0 ≤ q + 1; omega, hgn, hbn⟩
    ·show l.length - (i + 1) < l.length - i
     omega
    ·simp [conj, gE hlt]
  ·obtain rfl : i = l.length := by simp at c2; omega
   refine sw_exit (sw_seq (xr hP 4 rfl (sw_ret ⟨.inl rfl, _, rfl, ?_⟩)))
   simp [conj]
   exact (hd_end hgo).symm
def cHdPut : Ctr := ⟨37, [.val false (.sl T_Put) (.all .b), .val false TI pF], fun x => 0 ≤ x.2.1 ∧ nxLs mPut x.2.1 x.1 ≤ 1000000000, fun x => (sInt .i64 (hdLs mPut x.2.1 x.1), [])⟩
theorem cHdPut_ok : CtrOk Proofs.Tryd.prog cHdPut := by
 have hP := ((Prg.none ttok mtok).and cMkT_ok)
 refine ctr_of_body hP cHdPut (fn := Proofs.Tryd.f37) (rts := [.tmp 4]) Proofs.Tryd.func37 rfl (by kernel_rfl) rfl rfl ?_
 rintro ⟨(l : List Put), (k : Int), ⟨⟩⟩ ⟨hdl, _⟩ ⟨h0, h1⟩
 try dsimp only [Ty.den, Mode.den, mdens] at h0
 try dsimp only [Ty.den, Mode.den, mdens] at h1
 refine ⟨rfl, ?_⟩
 have hml : l.length ≤ 140737488355328 := hdl.1
 replace h0 : 0 ≤ k := h0
 replace h1 : nxLs mPut k l ≤ 1000000000 := h1
 refine sw_seq (xr hP 1 rfl (sw_seq (sw_seq (xr hP 2 rfl (sw_block (sw_loop (ι := Nat × Int) (fun ⟨i, q⟩ => ⟨[.v false [.d (.sl T_Put) (.all .b) l], sInt .i64 q, .j, .j, .j, sInt .i64 (i : Int), .j, .j, .j, .j, .j, .j, .j, .j, .j, .j, .j, .j, .j, .j, .j, .j, .j, .j, .j, .j, .j, .j, .j, .j, .j, .j, .j, .j, .j, .j, .j, .j, .j, .j, .j, .j, .j], [], 2, []⟩) (fun ⟨i, q⟩ => l.length - i) (fun ⟨i, q⟩ => i ≤ l.length ∧ 0 ≤ q ∧ hdLs mPut q (l.drop i) = hdLs mPut k l ∧ nxLs mPut q (l.drop i) ≤ 1000000000) (0, k) ⟨?_, ?_⟩ ?_))))))
 ·exact ⟨Nat.zero_le _, h0, rfl, h1⟩
 ·refine ent_ok rfl ?_
  simp [conj]
 ·rintro ⟨i, q⟩ ⟨hi, hq, hgo, hb⟩
  refine sw_seq (sw_seq (xr hP 3 rfl (sw_cond rfl (fun c2 => ?_) (fun c2 => ?_))))
  ·have hlt : i < l.length := by simpa using c2
   obtain ⟨s1, s2, s3⟩ := nx_drop mPut_ok (q := q) hlt
   rw [s1] at hb
   have hp0 : ¬ q + 1 < 0 := by omega
   have hp1 : ¬ q + 1 + 1 < 0 := by omega
   replace s2 : q ≤ q + 1 + 1 + 1 := s2
   replace s3 : q + 1 + 1 + 1 ≤ nxLs mPut (q + 1 + 1 + 1) (l.drop (i + 1)) := s3
   replace hb : nxLs mPut (q + 1 + 1 + 1) (l.drop (i + 1)) ≤ 1000000000 := hb
   refine sw_skip (sw_seq (sw_block (sw_seq (sw_seq (xg hP 4 [] rfl ?_ ?_)))))
   ·simp [conj, gE hlt]
    repeat' apply And.intro
    all_goals first | trivial | assumption | omega | (show q + 1 + 1 ≤ 1099511627776; omega)
   refine sw_cond rfl (fun c4 => ?_) (fun c4 => ?_)
   ·replace c4 : ¬ l[i].1 = mkB q := by simpa [gE hlt, mkB] using c4
    have hn : mPut.hd q l[i] < 0 := by simp [mPut, mkPair, mkI, mkStr, mkBool, mkOne, mkList, mkNo, c4, hp0, hp1]
    refine sw_seq (xg hP 5 [] rfl ?_ ?_)
    ·simp [conj, gE hlt]
     repeat' apply And.intro
     all_goals first | trivial | assumption | omega | (show q + 1 + 1 ≤ 1099511627776; omega)
    refine sw_ret ⟨.inl rfl, _, rfl, ?_⟩
    simp [conj]
    exact (hd_hit hlt hgo hn).symm
   ·replace c4 : l[i].1 = mkB q := by simpa [gE hlt, mkB] using c4
    refine sw_skip (sw_seq (xg hP 5 [] rfl ?_ ?_))
    ·simp [conj, gE hlt]
     repeat' apply And.intro
     all_goals first | trivial | assumption | omega | (show q + 1 + 1 ≤ 1099511627776; omega)
    refine sw_seq (sw_seq (xg hP 6 [] rfl ?_ ?_))
    ·simp [conj, gE hlt]
     repeat' apply And.intro
     all_goals first | trivial | assumption | omega | (show q + 1 + 1 ≤ 1099511627776; omega)
    refine sw_cond rfl (fun c7 => ?_) (fun c7 => ?_)
    ·replace c7 : ¬ l[i].2.1 = q + 1 := by simpa [gE hlt] using c7
     have hn : mPut.hd q l[i] < 0 := by simp [mPut, mkPair, mkI, mkStr, mkBool, mkOne, mkList, mkNo, c4, c7, hp0, hp1]
     refine sw_seq (xg hP 7 [] rfl ?_ ?_)
     ·simp [conj, gE hlt]
      repeat' apply And.intro
      all_goals first | trivial | assumption | omega | (show q + 1 + 1 ≤ 1099511627776; omega)
     refine sw_ret ⟨.inl rfl, _, rfl, ?_⟩
     simp [conj]
     exact (hd_hit hlt hgo hn).symm
    ·replace c7 : l[i].2.1 = q + 1 := by simpa [gE hlt] using c7
     refine sw_skip (sw_seq (xg hP 7 [] rfl ?_ ?_))
     ·simp [conj, gE hlt]
      repeat' apply And.intro
      all_goals first | trivial | assumption | omega | (show q + 1 + 1 ≤ 1099511627776; omega)
     refine sw_seq (sw_seq (xg hP 8 [] rfl ?_ ?_))
     ·simp [conj, gE hlt]
      repeat' apply And.intro
      all_goals first | trivial | assumption | omega | (show q + 1 + 1 ≤ 1099511627776; omega)
     refine sw_cond rfl (fun c10 => ?_) (fun c10 => ?_)
     ·replace c10 : ¬ l[i].2.2 = mkT (q + 1 + 1) := by simpa [gE hlt] using c10
      have hn : mPut.hd q l[i] < 0 := by simp [mPut, mkPair, mkI, mkStr, mkBool, mkOne, mkList, mkNo, c4, c7, c10, hp0, hp1]
      refine sw_seq (xg hP 9 [] rfl ?_ ?_)
      ·simp [conj, gE hlt]
       repeat' apply And.intro
       all_goals first | trivial | assumption | omega | (show q + 1 + 1 ≤ 1099511627776; omega)
      refine sw_ret ⟨.inl rfl, _, rfl, ?_⟩
      simp [conj]
      exact (hd_hit hlt hgo hn).symm
     ·replace c10 : l[i].2.2 = mkT (q + 1 + 1) := by simpa [gE hlt] using c10
      have hv : mPut.hd q l[i] = q + 1 + 1 + 1 := by simp [mPut, mkPair, mkI, mkStr, mkBool, mkOne, mkList, mkNo, c4, c7, c10, hp0, hp1]
      refine sw_skip (xg hP 9 [] rfl ?_ ?_)
      ·simp [conj, gE hlt]
       repeat' apply And.intro
       all_goals first | trivial | assumption | omega | (show q + 1 + 1 ≤ 1099511627776; omega)
      refine xg hP 10 [] rfl ?_ ?_
      ·simp only [cj, cl]
       try dsimp only [Ty.den, Ty.dflt]
       repeat' apply And.intro
       all_goals first | rfl | omega | assumption | trivial
      refine ⟨(i + 1, q + 1 + 1 + 1), ?_, ?_, ent_ok rfl ?_⟩
      ·have hnn : ¬ mPut.hd q l[i] < 0 := by rw [hv]; omega
       have hgn := hd_next hlt hgo hnn
       have hpo := hd_pos mPut_ok hnn
       have hbn : nxLs mPut (q + 1 + 1 + 1) (l.drop (i + 1)) ≤ 1000000000 := by rw [← hv, hpo]; exact hb
       rw [hv] at hgn
       exact ⟨hlt, by show 0 ≤ q + 1 + 1 + 1; omega, hgn, hbn⟩
      ·show l.length - (i + 1) < l.length - i
       omega
      ·simp [conj, gE hlt]
  ·obtain rfl : i = l.length := by simp at c2; omega
   refine sw_exit (sw_seq (xr hP 4 rfl (sw_ret ⟨.inl rfl, _, rfl, ?_⟩)))
   simp [conj]
   exact (hd_end hgo).symm
end Go.Sx

namespace Go.Sx
open Go
set_option maxRecDepth 100000
set_option linter.unusedVariables false
set_option linter.unusedSimpArgs false
set_option maxHeartbeats 2000000
def cHdDs : Ctr := ⟨20, [.val false (.sl T_Disk) (.all .b), .val false TI pF], fun x => 0 ≤ x.2.1 ∧ nxLs mDsk x.2.1 x.1 ≤ 1000000000, fun x => (sInt .i64 (hdLs mDsk x.2.1 x.1), [])⟩
theorem cHdDs_ok : CtrOk Proofs.Tryd.prog cHdDs := by
 have hP := ((((Prg.none ttok mtok).and cHdStr_ok).and cHdBool_ok).and cHdPut_ok)
 refine ctr_of_body hP cHdDs (fn := Proofs.Tryd.f20) (rts := [.tmp 4]) Proofs.Tryd.func20 rfl (by kernel_rfl) rfl rfl ?_
 rintro ⟨(l : List Dsk), (k : Int), ⟨⟩⟩ ⟨hdl, _⟩ ⟨h0, h1⟩
 try dsimp only [Ty.den, Mode.den, mdens] at h0
 try dsimp only [Ty.den, Mode.den, mdens] at h1
 refine ⟨rfl, ?_⟩
 have hml : l.length ≤ 140737488355328 := hdl.1
 replace h0 : 0 ≤ k := h0
 replace h1 : nxLs mDsk k l ≤ 1000000000 := h1
 refine sw_seq (xr hP 1 rfl (sw_seq (sw_seq (xr hP 2 rfl (sw_block (sw_loop (ι := Nat × Int) (fun ⟨i, q⟩ => ⟨[.v false [.d (.sl T_Disk) (.all .b) l], sInt .i64 q, .j, .j, .j, sInt .i64 (i : Int), .j, .j, .j, .j, .j, .j, .j, .j, .j, .j, .j, .j, .j, .j, .j, .j, .j, .j, .j, .j, .j, .j, .j, .j, .j, .j, .j, .j, .j, .j, .j, .j, .j, .j, .j, .j, .j, .j, .j, .j, .j, .j, .j, .j, .j, .j, .j, .j, .j, .j, .j, .j], [], 2, []⟩) (fun ⟨i, q⟩ => l.length - i) (fun ⟨i, q⟩ => i ≤ l.length ∧ 0 ≤ q ∧ hdLs mDsk q (l.drop i) = hdLs mDsk k l ∧ nxLs mDsk q (l.drop i) ≤ 1000000000) (0, k) ⟨?_, ?_⟩ ?_))))))
 ·exact ⟨Nat.zero_le _, h0, rfl, h1⟩
 ·refine ent_ok rfl ?_
  simp [conj]
 ·rintro ⟨i, q⟩ ⟨hi, hq, hgo, hb⟩
  refine sw_seq (sw_seq (xr hP 3 rfl (sw_cond rfl (fun c2 => ?_) (fun c2 => ?_))))
  ·have hlt : i < l.length := by simpa using c2
   obtain ⟨s1, s2, s3⟩ := nx_drop mDsk_ok (q := q) hlt
   rw [s1] at hb
   have hp0 : ¬ q + 1 < 0 := by omega
   have s4 : (q + 1) ≤ (nxLs mkStr (q + 1) l[i].2.1) := (mkList_ok mkStr_ok).ge _ _
   have s5 : (nxLs mkStr (q + 1) l[i].2.1) ≤ (nxLs mkStr (nxLs mkStr (q + 1) l[i].2.1) l[i].2.2.1) := (mkList_ok mkStr_ok).ge _ _
   have s6 : (nxLs mkStr (nxLs mkStr (q + 1) l[i].2.1) l[i].2.2.1) ≤ (nxLs mkBool (nxLs mkStr (nxLs mkStr (q + 1) l[i].2.1) l[i].2.2.1) l[i].2.2.2.1) := (mkList_ok mkBool_ok).ge _ _
   have s7 : (nxLs mkBool (nxLs mkStr (nxLs mkStr (q + 1) l[i].2.1) l[i].2.2.1) l[i].2.2.2.1) ≤ (nxLs mPut (nxLs mkBool (nxLs mkStr (nxLs mkStr (q + 1) l[i].2.1) l[i].2.2.1) l[i].2.2.2.1) l[i].2.2.2.2) := (mkList_ok mPut_ok).ge _ _
   replace s3 : (nxLs mPut (nxLs mkBool (nxLs mkStr (nxLs mkStr (q + 1) l[i].2.1) l[i].2.2.1) l[i].2.2.2.1) l[i].2.2.2.2) ≤ nxLs mDsk ((nxLs mPut (nxLs mkBool (nxLs mkStr (nxLs mkStr (q + 1) l[i].2.1) l[i].2.2.1) l[i].2.2.2.1) l[i].2.2.2.2)) (l.drop (i + 1)) := s3
   have hb2 : nxLs mDsk ((nxLs mPut (nxLs mkBool (nxLs mkStr (nxLs mkStr (q + 1) l[i].2.1) l[i].2.2.1) l[i].2.2.2.1) l[i].2.2.2.2)) (l.drop (i + 1)) ≤ 1000000000 := hb
   refine sw_skip (sw_seq (sw_block (sw_seq (sw_seq (xg hP 4 [] rfl ?_ ?_)))))
   ·simp [conj, gE hlt]
    repeat' apply And.intro
    all_goals first | trivial | assumption | omega | (show 0 ≤ (q + 1); omega) | (show nxLs mkStr (q + 1) l[i].2.1 ≤ _; omega) | (show 0 ≤ (hdLs mkStr (q + 1) l[i].2.1); rw [e0]; omega) | (show nxLs mkStr (hdLs mkStr (q + 1) l[i].2.1) l[i].2.2.1 ≤ _; rw [e0]; omega) | (show 0 ≤ (hdLs mkStr (hdLs mkStr (q + 1) l[i].2.1) l[i].2.2.1); rw [e1, e0]; omega) | (show nxLs mkBool (hdLs mkStr (hdLs mkStr (q + 1) l[i].2.1) l[i].2.2.1) l[i].2.2.2.1 ≤ _; rw [e1, e0]; omega) | (show 0 ≤ (hdLs mkBool (hdLs mkStr (hdLs mkStr (q + 1) l[i].2.1) l[i].2.2.1) l[i].2.2.2.1); rw [e2, e1, e0]; omega) | (show nxLs mPut (hdLs mkBool (hdLs mkStr (hdLs mkStr (q + 1) l[i].2.1) l[i].2.2.1) l[i].2.2.2.1) l[i].2.2.2.2 ≤ _; rw [e2, e1, e0]; omega)
   refine sw_cond rfl (fun c4 => ?_) (fun c4 => ?_)
   ·replace c4 : ¬ l[i].1 = q := by simpa [gE hlt] using c4
    have hn : mDsk.hd q l[i] < 0 := by simp [mDsk, mkPair, mkI, mkOne, mkList, mkNo, c4, hp0]
    refine sw_seq (xg hP 5 [] rfl ?_ ?_)
    ·simp [conj, gE hlt]
     repeat' apply And.intro
     all_goals first | trivial | assumption | omega | (show 0 ≤ (q + 1); omega) | (show nxLs mkStr (q + 1) l[i].2.1 ≤ _; omega) | (show 0 ≤ (hdLs mkStr (q + 1) l[i].2.1); rw [e0]; omega) | (show nxLs mkStr (hdLs mkStr (q + 1) l[i].2.1) l[i].2.2.1 ≤ _; rw [e0]; omega) | (show 0 ≤ (hdLs mkStr (hdLs mkStr (q + 1) l[i].2.1) l[i].2.2.1); rw [e1, e0]; omega) | (show nxLs mkBool (hdLs mkStr (hdLs mkStr (q + 1) l[i].2.1) l[i].2.2.1) l[i].2.2.2.1 ≤ _; rw [e1, e0]; omega) | (show 0 ≤ (hdLs mkBool (hdLs mkStr (hdLs mkStr (q + 1) l[i].2.1) l[i].2.2.1) l[i].2.2.2.1); rw [e2, e1, e0]; omega) | (show nxLs mPut (hdLs mkBool (hdLs mkStr (hdLs mkStr (q + 1) l[i].2.1) l[i].2.2.1) l[i].2.2.2.1) l[i].2.2.2.2 ≤ _; rw [e2, e1, e0]; omega)
    refine sw_ret ⟨.inl rfl, _, rfl, ?_⟩
    simp [conj]
    exact (hd_hit hlt hgo hn).symm
   ·replace c4 : l[i].1 = q := by simpa [gE hlt] using c4
    refine sw_skip (sw_seq (xg hP 5 [] rfl ?_ ?_))
    ·simp [conj, gE hlt]
     repeat' apply And.intro
     all_goals first | trivial | assumption | omega | (show 0 ≤ (q + 1); omega) | (show nxLs mkStr (q + 1) l[i].2.1 ≤ _; omega) | (show 0 ≤ (hdLs mkStr (q + 1) l[i].2.1); rw [e0]; omega) | (show nxLs mkStr (hdLs mkStr (q + 1) l[i].2.1) l[i].2.2.1 ≤ _; rw [e0]; omega) | (show 0 ≤ (hdLs mkStr (hdLs mkStr (q + 1) l[i].2.1) l[i].2.2.1); rw [e1, e0]; omega) | (show nxLs mkBool (hdLs mkStr (hdLs mkStr (q + 1) l[i].2.1) l[i].2.2.1) l[i].2.2.2.1 ≤ _; rw [e1, e0]; omega) | (show 0 ≤ (hdLs mkBool (hdLs mkStr (hdLs mkStr (q + 1) l[i].2.1) l[i].2.2.1) l[i].2.2.2.1); rw [e2, e1, e0]; omega) | (show nxLs mPut (hdLs mkBool (hdLs mkStr (hdLs mkStr (q + 1) l[i].2.1) l[i].2.2.1) l[i].2.2.2.1) l[i].2.2.2.2 ≤ _; rw [e2, e1, e0]; omega)
    refine sw_seq (xg hP 6 [] rfl ?_ ?_)
    ·simp [conj, gE hlt]
     repeat' apply And.intro
     all_goals first | trivial | assumption | omega | (show 0 ≤ (q + 1); omega) | (show nxLs mkStr (q + 1) l[i].2.1 ≤ _; omega) | (show 0 ≤ (hdLs mkStr (q + 1) l[i].2.1); rw [e0]; omega) | (show nxLs mkStr (hdLs mkStr (q + 1) l[i].2.1) l[i].2.2.1 ≤ _; rw [e0]; omega) | (show 0 ≤ (hdLs mkStr (hdLs mkStr (q + 1) l[i].2.1) l[i].2.2.1); rw [e1, e0]; omega) | (show nxLs mkBool (hdLs mkStr (hdLs mkStr (q + 1) l[i].2.1) l[i].2.2.1) l[i].2.2.2.1 ≤ _; rw [e1, e0]; omega) | (show 0 ≤ (hdLs mkBool (hdLs mkStr (hdLs mkStr (q + 1) l[i].2.1) l[i].2.2.1) l[i].2.2.2.1); rw [e2, e1, e0]; omega) | (show nxLs mPut (hdLs mkBool (hdLs mkStr (hdLs mkStr (q + 1) l[i].2.1) l[i].2.2.1) l[i].2.2.2.1) l[i].2.2.2.2 ≤ _; rw [e2, e1, e0]; omega)
    refine sw_seq (sw_seq (xg hP 7 [] rfl ?_ ?_))
    ·simp [conj, gE hlt]
     repeat' apply And.intro
     all_goals first | trivial | assumption | omega | (show 0 ≤ (q + 1); omega) | (show nxLs mkStr (q + 1) l[i].2.1 ≤ _; omega) | (show 0 ≤ (hdLs mkStr (q + 1) l[i].2.1); rw [e0]; omega) | (show nxLs mkStr (hdLs mkStr (q + 1) l[i].2.1) l[i].2.2.1 ≤ _; rw [e0]; omega) | (show 0 ≤ (hdLs mkStr (hdLs mkStr (q + 1) l[i].2.1) l[i].2.2.1); rw [e1, e0]; omega) | (show nxLs mkBool (hdLs mkStr (hdLs mkStr (q + 1) l[i].2.1) l[i].2.2.1) l[i].2.2.2.1 ≤ _; rw [e1, e0]; omega) | (show 0 ≤ (hdLs mkBool (hdLs mkStr (hdLs mkStr (q + 1) l[i].2.1) l[i].2.2.1) l[i].2.2.2.1); rw [e2, e1, e0]; omega) | (show nxLs mPut (hdLs mkBool (hdLs mkStr (hdLs mkStr (q + 1) l[i].2.1) l[i].2.2.1) l[i].2.2.2.1) l[i].2.2.2.2 ≤ _; rw [e2, e1, e0]; omega)
    refine sw_cond rfl (fun c8 => ?_) (fun c8 => ?_)
    ·replace c8 : (hdLs mkStr (q + 1) l[i].2.1) < 0 := by simpa [gE hlt] using c8
     have hn : mDsk.hd q l[i] < 0 := by simp [mDsk, mkPair, mkI, mkOne, mkList, mkNo, c4, c8, hp0]
     refine sw_seq (xg hP 8 [] rfl ?_ ?_)
     ·simp [conj, gE hlt]
      repeat' apply And.intro
      all_goals first | trivial | assumption | omega | (show 0 ≤ (q + 1); omega) | (show nxLs mkStr (q + 1) l[i].2.1 ≤ _; omega) | (show 0 ≤ (hdLs mkStr (q + 1) l[i].2.1); rw [e0]; omega) | (show nxLs mkStr (hdLs mkStr (q + 1) l[i].2.1) l[i].2.2.1 ≤ _; rw [e0]; omega) | (show 0 ≤ (hdLs mkStr (hdLs mkStr (q + 1) l[i].2.1) l[i].2.2.1); rw [e1, e0]; omega) | (show nxLs mkBool (hdLs mkStr (hdLs mkStr (q + 1) l[i].2.1) l[i].2.2.1) l[i].2.2.2.1 ≤ _; rw [e1, e0]; omega) | (show 0 ≤ (hdLs mkBool (hdLs mkStr (hdLs mkStr (q + 1) l[i].2.1) l[i].2.2.1) l[i].2.2.2.1); rw [e2, e1, e0]; omega) | (show nxLs mPut (hdLs mkBool (hdLs mkStr (hdLs mkStr (q + 1) l[i].2.1) l[i].2.2.1) l[i].2.2.2.1) l[i].2.2.2.2 ≤ _; rw [e2, e1, e0]; omega)
     refine sw_ret ⟨.inl rfl, _, rfl, ?_⟩
     simp [conj]
     exact (hd_hit hlt hgo hn).symm
    ·replace c8 : ¬ (hdLs mkStr (q + 1) l[i].2.1) < 0 := by simpa [gE hlt] using c8
     have e0 : (hdLs mkStr (q + 1) l[i].2.1) = nxLs mkStr (q + 1) l[i].2.1 := hd_pos (mkList_ok mkStr_ok) c8
     refine sw_skip (sw_seq (xg hP 8 [] rfl ?_ ?_))
     ·simp [conj, gE hlt]
      repeat' apply And.intro
      all_goals first | trivial | assumption | omega | (show 0 ≤ (q + 1); omega) | (show nxLs mkStr (q + 1) l[i].2.1 ≤ _; omega) | (show 0 ≤ (hdLs mkStr (q + 1) l[i].2.1); rw [e0]; omega) | (show nxLs mkStr (hdLs mkStr (q + 1) l[i].2.1) l[i].2.2.1 ≤ _; rw [e0]; omega) | (show 0 ≤ (hdLs mkStr (hdLs mkStr (q + 1) l[i].2.1) l[i].2.2.1); rw [e1, e0]; omega) | (show nxLs mkBool (hdLs mkStr (hdLs mkStr (q + 1) l[i].2.1) l[i].2.2.1) l[i].2.2.2.1 ≤ _; rw [e1, e0]; omega) | (show 0 ≤ (hdLs mkBool (hdLs mkStr (hdLs mkStr (q + 1) l[i].2.1) l[i].2.2.1) l[i].2.2.2.1); rw [e2, e1, e0]; omega) | (show nxLs mPut (hdLs mkBool (hdLs mkStr (hdLs mkStr (q + 1) l[i].2.1) l[i].2.2.1) l[i].2.2.2.1) l[i].2.2.2.2 ≤ _; rw [e2, e1, e0]; omega)
     refine sw_seq (sw_seq (xg hP 9 [] rfl ?_ ?_))
     ·simp [conj, gE hlt]
      repeat' apply And.intro
      all_goals first | trivial | assumption | omega | (show 0 ≤ (q + 1); omega) | (show nxLs mkStr (q + 1) l[i].2.1 ≤ _; omega) | (show 0 ≤ (hdLs mkStr (q + 1) l[i].2.1); rw [e0]; omega) | (show nxLs mkStr (hdLs mkStr (q + 1) l[i].2.1) l[i].2.2.1 ≤ _; rw [e0]; omega) | (show 0 ≤ (hdLs mkStr (hdLs mkStr (q + 1) l[i].2.1) l[i].2.2.1); rw [e1, e0]; omega) | (show nxLs mkBool (hdLs mkStr (hdLs mkStr (q + 1) l[i].2.1) l[i].2.2.1) l[i].2.2.2.1 ≤ _; rw [e1, e0]; omega) | (show 0 ≤ (hdLs mkBool (hdLs mkStr (hdLs mkStr (q + 1) l[i].2.1) l[i].2.2.1) l[i].2.2.2.1); rw [e2, e1, e0]; omega) | (show nxLs mPut (hdLs mkBool (hdLs mkStr (hdLs mkStr (q + 1) l[i].2.1) l[i].2.2.1) l[i].2.2.2.1) l[i].2.2.2.2 ≤ _; rw [e2, e1, e0]; omega)
     refine sw_cond rfl (fun c11 => ?_) (fun c11 => ?_)
     ·replace c11 : (hdLs mkStr (hdLs mkStr (q + 1) l[i].2.1) l[i].2.2.1) < 0 := by simpa [gE hlt] using c11
      have hn : mDsk.hd q l[i] < 0 := by simp [mDsk, mkPair, mkI, mkOne, mkList, mkNo, c4, c8, c11, hp0]
      refine sw_seq (xg hP 10 [] rfl ?_ ?_)
      ·simp [conj, gE hlt]
       repeat' apply And.intro
       all_goals first | trivial | assumption | omega | (show 0 ≤ (q + 1); omega) | (show nxLs mkStr (q + 1) l[i].2.1 ≤ _; omega) | (show 0 ≤ (hdLs mkStr (q + 1) l[i].2.1); rw [e0]; omega) | (show nxLs mkStr (hdLs mkStr (q + 1) l[i].2.1) l[i].2.2.1 ≤ _; rw [e0]; omega) | (show 0 ≤ (hdLs mkStr (hdLs mkStr (q + 1) l[i].2.1) l[i].2.2.1); rw [e1, e0]; omega) | (show nxLs mkBool (hdLs mkStr (hdLs mkStr (q + 1) l[i].2.1) l[i].2.2.1) l[i].2.2.2.1 ≤ _; rw [e1, e0]; omega) | (show 0 ≤ (hdLs mkBool (hdLs mkStr (hdLs mkStr (q + 1) l[i].2.1) l[i].2.2.1) l[i].2.2.2.1); rw [e2, e1, e0]; omega) | (show nxLs mPut (hdLs mkBool (hdLs mkStr (hdLs mkStr (q + 1) l[i].2.1) l[i].2.2.1) l[i].2.2.2.1) l[i].2.2.2.2 ≤ _; rw [e2, e1, e0]; omega)
      refine sw_ret ⟨.inl rfl, _, rfl, ?_⟩
      simp [conj]
      exact (hd_hit hlt hgo hn).symm
     ·replace c11 : ¬ (hdLs mkStr (hdLs mkStr (q + 1) l[i].2.1) l[i].2.2.1) < 0 := by simpa [gE hlt] using c11
      have e1 : (hdLs mkStr (hdLs mkStr (q + 1) l[i].2.1) l[i].2.2.1) = nxLs mkStr (hdLs mkStr (q + 1) l[i].2.1) l[i].2.2.1 := hd_pos (mkList_ok mkStr_ok) c11
      refine sw_skip (sw_seq (xg hP 10 [] rfl ?_ ?_))
      ·simp [conj, gE hlt]
       repeat' apply And.intro
       all_goals first | trivial | assumption | omega | (show 0 ≤ (q + 1); omega) | (show nxLs mkStr (q + 1) l[i].2.1 ≤ _; omega) | (show 0 ≤ (hdLs mkStr (q + 1) l[i].2.1); rw [e0]; omega) | (show nxLs mkStr (hdLs mkStr (q + 1) l[i].2.1) l[i].2.2.1 ≤ _; rw [e0]; omega) | (show 0 ≤ (hdLs mkStr (hdLs mkStr (q + 1) l[i].2.1) l[i].2.2.1); rw [e1, e0]; omega) | (show nxLs mkBool (hdLs mkStr (hdLs mkStr (q + 1) l[i].2.1) l[i].2.2.1) l[i].2.2.2.1 ≤ _; rw [e1, e0]; omega) | (show 0 ≤ (hdLs mkBool (hdLs mkStr (hdLs mkStr (q + 1) l[i].2.1) l[i].2.2.1) l[i].2.2.2.1); rw [e2, e1, e0]; omega) | (show nxLs mPut (hdLs mkBool (hdLs mkStr (hdLs mkStr (q + 1) l[i].2.1) l[i].2.2.1) l[i].2.2.2.1) l[i].2.2.2.2 ≤ _; rw [e2, e1, e0]; omega)
      refine sw_seq (sw_seq (xg hP 11 [] rfl ?_ ?_))
      ·simp [conj, gE hlt]
       repeat' apply And.intro
       all_goals first | trivial | assumption | omega | (show 0 ≤ (q + 1); omega) | (show nxLs mkStr (q + 1) l[i].2.1 ≤ _; omega) | (show 0 ≤ (hdLs mkStr (q + 1) l[i].2.1); rw [e0]; omega) | (show nxLs mkStr (hdLs mkStr (q + 1) l[i].2.1) l[i].2.2.1 ≤ _; rw [e0]; omega) | (show 0 ≤ (hdLs mkStr (hdLs mkStr (q + 1) l[i].2.1) l[i].2.2.1); rw [e1, e0]; omega) | (show nxLs mkBool (hdLs mkStr (hdLs mkStr (q + 1) l[i].2.1) l[i].2.2.1) l[i].2.2.2.1 ≤ _; rw [e1, e0]; omega) | (show 0 ≤ (hdLs mkBool (hdLs mkStr (hdLs mkStr (q + 1) l[i].2.1) l[i].2.2.1) l[i].2.2.2.1); rw [e2, e1, e0]; omega) | (show nxLs mPut (hdLs mkBool (hdLs mkStr (hdLs mkStr (q + 1) l[i].2.1) l[i].2.2.1) l[i].2.2.2.1) l[i].2.2.2.2 ≤ _; rw [e2, e1, e0]; omega)
      refine sw_cond rfl (fun c14 => ?_) (fun c14 => ?_)
      ·replace c14 : (hdLs mkBool (hdLs mkStr (hdLs mkStr (q + 1) l[i].2.1) l[i].2.2.1) l[i].2.2.2.1) < 0 := by simpa [gE hlt] using c14
       have hn : mDsk.hd q l[i] < 0 := by simp [mDsk, mkPair, mkI, mkOne, mkList, mkNo, c4, c8, c11, c14, hp0]
       refine sw_seq (xg hP 12 [] rfl ?_ ?_)
       ·simp [conj, gE hlt]
        repeat' apply And.intro
        all_goals first | trivial | assumption | omega | (show 0 ≤ (q + 1); omega) | (show nxLs mkStr (q + 1) l[i].2.1 ≤ _; omega) | (show 0 ≤ (hdLs mkStr (q + 1) l[i].2.1); rw [e0]; omega) | (show nxLs mkStr (hdLs mkStr (q + 1) l[i].2.1) l[i].2.2.1 ≤ _; rw [e0]; omega) | (show 0 ≤ (hdLs mkStr (hdLs mkStr (q + 1) l[i].2.1) l[i].2.2.1); rw [e1, e0]; omega) | (show nxLs mkBool (hdLs mkStr (hdLs mkStr (q + 1) l[i].2.1) l[i].2.2.1) l[i].2.2.2.1 ≤ _; rw [e1, e0]; omega) | (show 0 ≤ (hdLs mkBool (hdLs mkStr (hdLs mkStr (q + 1) l[i].2.1) l[i].2.2.1) l[i].2.2.2.1); rw [e2, e1, e0]; omega) | (show nxLs mPut (hdLs mkBool (hdLs mkStr (hdLs mkStr (q + 1) l[i].2.1) l[i].2.2.1) l[i].2.2.2.1) l[i].2.2.2.2 ≤ _; rw [e2, e1, e0]; omega)
       refine sw_ret ⟨.inl rfl, _, rfl, ?_⟩
       simp [conj]
       exact (hd_hit hlt hgo hn).symm
      ·replace c14 : ¬ (hdLs mkBool (hdLs mkStr (hdLs mkStr (q + 1) l[i].2.1) l[i].2.2.1) l[i].2.2.2.1) < 0 := by simpa [gE hlt] using c14
       have e2 : (hdLs mkBool (hdLs mkStr (hdLs mkStr (q + 1) l[i].2.1) l[i].2.2.1) l[i].2.2.2.1) = nxLs mkBool (hdLs mkStr (hdLs mkStr (q + 1) l[i].2.1) l[i].2.2.1) l[i].2.2.2.1 := hd_pos (mkList_ok mkBool_ok) c14
       refine sw_skip (sw_seq (xg hP 12 [] rfl ?_ ?_))
       ·simp [conj, gE hlt]
        repeat' apply And.intro
        all_goals first | trivial | assumption | omega | (show 0 ≤ (q + 1); omega) | (show nxLs mkStr (q + 1) l[i].2.1 ≤ _; omega) | (show 0 ≤ (hdLs mkStr (q + 1) l[i].2.1); rw [e0]; omega) | (show nxLs mkStr (hdLs mkStr (q + 1) l[i].2.1) l[i].2.2.1 ≤ _; rw [e0]; omega) | (show 0 ≤ (hdLs mkStr (hdLs mkStr (q + 1) l[i].2.1) l[i].2.2.1); rw [e1, e0]; omega) | (show nxLs mkBool (hdLs mkStr (hdLs mkStr (q + 1) l[i].2.1) l[i].2.2.1) l[i].2.2.2.1 ≤ _; rw [e1, e0]; omega) | (show 0 ≤ (hdLs mkBool (hdLs mkStr (hdLs mkStr (q + 1) l[i].2.1) l[i].2.2.1) l[i].2.2.2.1); rw [e2, e1, e0]; omega) | (show nxLs mPut (hdLs mkBool (hdLs mkStr (hdLs mkStr (q + 1) l[i].2.1) l[i].2.2.1) l[i].2.2.2.1) l[i].2.2.2.2 ≤ _; rw [e2, e1, e0]; omega)
       refine sw_seq (xg hP 13 [] rfl ?_ ?_)
       ·simp [conj, gE hlt]
        repeat' apply And.intro
        all_goals first | trivial | assumption | omega | (show 0 ≤ (q + 1); omega) | (show nxLs mkStr (q + 1) l[i].2.1 ≤ _; omega) | (show 0 ≤ (hdLs mkStr (q + 1) l[i].2.1); rw [e0]; omega) | (show nxLs mkStr (hdLs mkStr (q + 1) l[i].2.1) l[i].2.2.1 ≤ _; rw [e0]; omega) | (show 0 ≤ (hdLs mkStr (hdLs mkStr (q + 1) l[i].2.1) l[i].2.2.1); rw [e1, e0]; omega) | (show nxLs mkBool (hdLs mkStr (hdLs mkStr (q + 1) l[i].2.1) l[i].2.2.1) l[i].2.2.2.1 ≤ _; rw [e1, e0]; omega) | (show 0 ≤ (hdLs mkBool (hdLs mkStr (hdLs mkStr (q + 1) l[i].2.1) l[i].2.2.1) l[i].2.2.2.1); rw [e2, e1, e0]; omega) | (show nxLs mPut (hdLs mkBool (hdLs mkStr (hdLs mkStr (q + 1) l[i].2.1) l[i].2.2.1) l[i].2.2.2.1) l[i].2.2.2.2 ≤ _; rw [e2, e1, e0]; omega)
       refine sw_cond rfl (fun c17 => ?_) (fun c17 => ?_)
       ·replace c17 : (hdLs mPut (hdLs mkBool (hdLs mkStr (hdLs mkStr (q + 1) l[i].2.1) l[i].2.2.1) l[i].2.2.2.1) l[i].2.2.2.2) < 0 := by simpa [gE hlt] using c17
        have hn : mDsk.hd q l[i] < 0 := by simp [mDsk, mkPair, mkI, mkOne, mkList, mkNo, c4, c8, c11, c14, c17, hp0]
        refine sw_seq (xg hP 14 [] rfl ?_ ?_)
        ·simp [conj, gE hlt]
         repeat' apply And.intro
         all_goals first | trivial | assumption | omega | (show 0 ≤ (q + 1); omega) | (show nxLs mkStr (q + 1) l[i].2.1 ≤ _; omega) | (show 0 ≤ (hdLs mkStr (q + 1) l[i].2.1); rw [e0]; omega) | (show nxLs mkStr (hdLs mkStr (q + 1) l[i].2.1) l[i].2.2.1 ≤ _; rw [e0]; omega) | (show 0 ≤ (hdLs mkStr (hdLs mkStr (q + 1) l[i].2.1) l[i].2.2.1); rw [e1, e0]; omega) | (show nxLs mkBool (hdLs mkStr (hdLs mkStr (q + 1) l[i].2.1) l[i].2.2.1) l[i].2.2.2.1 ≤ _; rw [e1, e0]; omega) | (show 0 ≤ (hdLs mkBool (hdLs mkStr (hdLs mkStr (q + 1) l[i].2.1) l[i].2.2.1) l[i].2.2.2.1); rw [e2, e1, e0]; omega) | (show nxLs mPut (hdLs mkBool (hdLs mkStr (hdLs mkStr (q + 1) l[i].2.1) l[i].2.2.1) l[i].2.2.2.1) l[i].2.2.2.2 ≤ _; rw [e2, e1, e0]; omega)
        refine sw_ret ⟨.inl rfl, _, rfl, ?_⟩
        simp [conj]
        exact (hd_hit hlt hgo hn).symm
       ·replace c17 : ¬ (hdLs mPut (hdLs mkBool (hdLs mkStr (hdLs mkStr (q + 1) l[i].2.1) l[i].2.2.1) l[i].2.2.2.1) l[i].2.2.2.2) < 0 := by simpa [gE hlt] using c17
        have e3 : (hdLs mPut (hdLs mkBool (hdLs mkStr (hdLs mkStr (q + 1) l[i].2.1) l[i].2.2.1) l[i].2.2.2.1) l[i].2.2.2.2) = nxLs mPut (hdLs mkBool (hdLs mkStr (hdLs mkStr (q + 1) l[i].2.1) l[i].2.2.1) l[i].2.2.2.1) l[i].2.2.2.2 := hd_pos (mkList_ok mPut_ok) c17
        have hv : mDsk.hd q l[i] = (hdLs mPut (hdLs mkBool (hdLs mkStr (hdLs mkStr (q + 1) l[i].2.1) l[i].2.2.1) l[i].2.2.2.1) l[i].2.2.2.2) := by simp [mDsk, mkPair, mkI, mkOne, mkList, mkNo, c4, c8, c11, c14, c17, hp0]
        refine sw_skip (xg hP 14 [] rfl ?_ ?_)
        ·simp only [cj, cl]
         try dsimp only [Ty.den, Ty.dflt]
         repeat' apply And.intro
         all_goals first | rfl | omega | assumption | trivial
        refine ⟨(i + 1, (hdLs mPut (hdLs mkBool (hdLs mkStr (hdLs mkStr (q + 1) l[i].2.1) l[i].2.2.1) l[i].2.2.2.1) l[i].2.2.2.2)), ?_, ?_, ent_ok rfl ?_⟩
        ·have hnn : ¬ mDsk.hd q l[i] < 0 := by rw [hv]; omega
         have hgn := hd_next hlt hgo hnn
         have hpo := hd_pos mDsk_ok hnn
         have hbn : nxLs mDsk ((hdLs mPut (hdLs mkBool (hdLs mkStr (hdLs mkStr (q + 1) l[i].2.1) l[i].2.2.1) l[i].2.2.2.1) l[i].2.2.2.2)) (l.drop (i + 1)) ≤ 1000000000 := by rw [← hv, hpo]; exact hb
         rw [hv] at hgn
         exact ⟨hlt, by show 0 ≤ (hdLs mPut (hdLs mkBool (hdLs mkStr (hdLs mkStr (q + 1) l[i].2.1) l[i].2.2.1) l[i].2.2.2.1) l[i].2.2.2.2); omega, hgn, hbn⟩
        ·show l.length - (i + 1) < l.length - i
         omega
        ·simp [conj, gE hlt]
  ·obtain rfl : i = l.length := by simp at c2; omega
   refine sw_exit (sw_seq (xr hP 4 rfl (sw_ret ⟨.inl rfl, _, rfl, ?_⟩)))
   simp [conj]
   exact (hd_end hgo).symm
def cMkPo (p : Pol) (k : Int) (a b c : Id) : Xctr := ⟨7, [(a, ⟨0, 0, 1⟩, .sl T_Disk (.all .w) p.1), (b, ⟨0, 0, 2⟩, .sl T_Vol (.all .w) p.2.2.1.2), (c, ⟨0, 0, 3⟩, .sl T_Vol (.all .w) p.2.2.2.2)], [], [.v true [.own ⟨0, 0, 1⟩, .d .bool pF p.2.1, .d TI pF p.2.2.1.1, .own ⟨0, 0, 2⟩, .d TI pF p.2.2.2.1, .own ⟨0, 0, 3⟩], sInt .i64 k],
  (sInt .i64 (mPol.nx k p), [(⟨0, 0, 1⟩, .sl T_Disk (.all .w) (mPol.mk k p).1), (⟨0, 0, 2⟩, .sl T_Vol (.all .w) (mPol.mk k p).2.2.1.2), (⟨0, 0, 3⟩, .sl T_Vol (.all .w) (mPol.mk k p).2.2.2.2)])⟩
theorem cMkPo_ok {p : Pol} {k : Int} {a b c : Id} (h0 : 0 ≤ k) (h1 : mPol.nx k p ≤ 1000000000) : XOk Proofs.Tryd.prog (cMkPo p k a b c) := by
 have hP := ((Prg.none ttok mtok).and cMkDs_ok)
 refine xctr_of_body hP (cMkPo p k a b c) (fn := Proofs.Tryd.f7) (rts := [.tmp 4]) Proofs.Tryd.func7 rfl (by kernel_rfl) rfl rfl ?_
 refine ⟨rfl, ?_⟩
 have s1 : k ≤ (nxLs mDsk k p.1) := (mkList_ok mDsk_ok).ge _ _
 have s2 : (nxLs mDsk k p.1) ≤ (nxLs mVol (nxLs mDsk k p.1) p.2.2.1.2) := (mkList_ok mVol_ok).ge _ _
 have s3 : (nxLs mVol (nxLs mDsk k p.1) p.2.2.1.2) ≤ nxLs mVol (nxLs mVol (nxLs mDsk k p.1) p.2.2.1.2) p.2.2.2.2 := (mkList_ok mVol_ok).ge _ _
 replace h1 : nxLs mVol (nxLs mVol (nxLs mDsk k p.1) p.2.2.1.2) p.2.2.2.2 ≤ 1000000000 := h1
 refine sw_seq (xr hP 1 rfl (sw_seq (xg hP 2 [] rfl ?_ ?_)))
 ·simp [conj, maxL]
  try dsimp only [Ty.den, Ty.dflt]
  try simp only [rd_eta]
  exact ⟨h0, by show (nxLs mDsk k p.1) ≤ _; omega⟩
 refine sw_seq ?_
 replace hP := hP.andX (cMkRoot_ok (r := p.2.2.1) (k := (nxLs mDsk k p.1)) (a := ⟨0, 0, 2⟩) (by omega) (by omega))
 refine xr hP 3 rfl (sw_seq ?_)
 replace hP := hP.andX (cMkRoot_ok (r := p.2.2.2) (k := (nxLs mVol (nxLs mDsk k p.1) p.2.2.1.2)) (a := ⟨0, 0, 3⟩) (by omega) (by omega))
 refine xr hP 4 rfl (sw_seq (xr hP 5 rfl (sw_ret ⟨.inl rfl, _, rfl, ?_⟩)))
 simp [conj]
 try (repeat' apply And.intro)
 all_goals rfl
def cHdPo : Ctr := ⟨8, [.val true T_Pool (.all .b), .val false TI pF], fun x => 0 ≤ x.2.1 ∧ mPol.nx x.2.1 x.1 ≤ 1000000000, fun x => (sInt .i64 (mPol.hd x.2.1 x.1), [])⟩
theorem cHdPo_ok : CtrOk Proofs.Tryd.prog cHdPo := by
 have hP := (((Prg.none ttok mtok).and cHdDs_ok).and cHdRoot_ok)
 refine ctr_of_body hP cHdPo (fn := Proofs.Tryd.f8) (rts := [.tmp 4]) Proofs.Tryd.func8 rfl (by kernel_rfl) rfl rfl ?_
 rintro ⟨⟨(ds : List Dsk), (op : Bool), ⟨(tg : Int), (l : List Vol_)⟩, ⟨(tg2 : Int), (l2 : List Vol_)⟩⟩, (k : Int), ⟨⟩⟩ _ ⟨h0, h1⟩
 try dsimp only [Ty.den, Mode.den, mdens] at h0
 try dsimp only [Ty.den, Mode.den, mdens] at h1
 refine ⟨rfl, ?_⟩
 replace h0 : 0 ≤ k := h0
 have s1 : k ≤ (nxLs mDsk k ds) := (mkList_ok mDsk_ok).ge _ _
 have s2 : (nxLs mDsk k ds) ≤ (nxLs mVol (nxLs mDsk k ds) l) := (mkList_ok mVol_ok).ge _ _
 have s3 : (nxLs mVol (nxLs mDsk k ds) l) ≤ nxLs mVol (nxLs mVol (nxLs mDsk k ds) l) l2 := (mkList_ok mVol_ok).ge _ _
 replace h1 : nxLs mVol (nxLs mVol (nxLs mDsk k ds) l) l2 ≤ 1000000000 := h1
 refine sw_seq (xr hP 1 rfl (sw_seq (xg hP 2 [] rfl ?_ ?_)))
 ·simp [conj, maxL]
  try dsimp only [Ty.den, Ty.dflt]
  try simp only [rd_eta]
  exact ⟨h0, by show (nxLs mDsk k ds) ≤ _; omega⟩
 refine sw_seq (sw_seq (xr hP 3 rfl (sw_cond rfl (fun c2 => ?_) (fun c2 => ?_))))
 ·replace c2 : (hdLs mDsk k ds) < 0 := of_decide_eq_true c2
  refine sw_seq (xr hP 4 rfl (sw_ret ⟨.inl rfl, _, rfl, ?_⟩))
  have hv : mPol.hd k ((ds, op, (tg, l), (tg2, l2)) : Pol) = -1 := by
    show (if (hdLs mDsk k ds) < 0 then -1 else if (hdLs mDsk k ds) < 0 then -1 else if (if (hdLs mDsk k ds) < 0 then -1 else (hdLs mVol (hdLs mDsk k ds) l)) < 0 then -1 else if (if (hdLs mDsk k ds) < 0 then -1 else (hdLs mVol (hdLs mDsk k ds) l)) < 0 then -1 else hdLs mVol (if (hdLs mDsk k ds) < 0 then -1 else (hdLs mVol (hdLs mDsk k ds) l)) l2) = _
    rw [if_pos c2]
  simp only [conj, List.append_nil]
  exact hv.symm
 ·replace c2 : ¬ (hdLs mDsk k ds) < 0 := of_decide_eq_false c2
  have e0 : (hdLs mDsk k ds) = (nxLs mDsk k ds) := hd_pos (mkList_ok mDsk_ok) c2
  refine sw_skip (sw_seq (xg hP 4 [] rfl ?_ ?_))
  ·simp [conj, maxL]
   try dsimp only [Ty.den, Ty.dflt]
   try simp only [rd_eta]
   exact ⟨by show 0 ≤ (hdLs mDsk k ds); omega, by show nxLs mVol (hdLs mDsk k ds) l ≤ _; rw [e0]; omega⟩
  refine sw_seq (sw_seq (xr hP 5 rfl (sw_cond rfl (fun c5 => ?_) (fun c5 => ?_))))
  ·replace c5 : (hdLs mVol (hdLs mDsk k ds) l) < 0 := of_decide_eq_true c5
   refine sw_seq (xr hP 6 rfl (sw_ret ⟨.inl rfl, _, rfl, ?_⟩))
   have hv : mPol.hd k ((ds, op, (tg, l), (tg2, l2)) : Pol) = -1 := by
     show (if (hdLs mDsk k ds) < 0 then -1 else if (hdLs mDsk k ds) < 0 then -1 else if (if (hdLs mDsk k ds) < 0 then -1 else (hdLs mVol (hdLs mDsk k ds) l)) < 0 then -1 else if (if (hdLs mDsk k ds) < 0 then -1 else (hdLs mVol (hdLs mDsk k ds) l)) < 0 then -1 else hdLs mVol (if (hdLs mDsk k ds) < 0 then -1 else (hdLs mVol (hdLs mDsk k ds) l)) l2) = _
     rw [if_neg c2, if_neg c2, if_neg c2, if_pos c5]
   simp only [conj, List.append_nil]
   exact hv.symm
  ·replace c5 : ¬ (hdLs mVol (hdLs mDsk k ds) l) < 0 := of_decide_eq_false c5
   have e1 : (hdLs mVol (hdLs mDsk k ds) l) = nxLs mVol (hdLs mDsk k ds) l := hd_pos (mkList_ok mVol_ok) c5
   refine sw_skip (sw_seq (xg hP 6 [] rfl ?_ ?_))
   ·simp [conj, maxL]
    try dsimp only [Ty.den, Ty.dflt]
    try simp only [rd_eta]
    exact ⟨by show 0 ≤ (hdLs mVol (hdLs mDsk k ds) l); omega, by show nxLs mVol (hdLs mVol (hdLs mDsk k ds) l) l2 ≤ _; rw [e1, e0]; omega⟩
   refine sw_seq (sw_seq (xr hP 7 rfl (sw_cond rfl (fun c8 => ?_) (fun c8 => ?_))))
   ·replace c8 : (hdLs mVol (hdLs mVol (hdLs mDsk k ds) l) l2) < 0 := of_decide_eq_true c8
    have e2 : (hdLs mVol (hdLs mVol (hdLs mDsk k ds) l) l2) = -1 := hd_neg (mkList_ok mVol_ok) (by omega) c8
    refine sw_seq (xr hP 8 rfl (sw_ret ⟨.inl rfl, _, rfl, ?_⟩))
    have hv : mPol.hd k ((ds, op, (tg, l), (tg2, l2)) : Pol) = -1 := by
      show (if (hdLs mDsk k ds) < 0 then -1 else if (hdLs mDsk k ds) < 0 then -1 else if (if (hdLs mDsk k ds) < 0 then -1 else (hdLs mVol (hdLs mDsk k ds) l)) < 0 then -1 else if (if (hdLs mDsk k ds) < 0 then -1 else (hdLs mVol (hdLs mDsk k ds) l)) < 0 then -1 else hdLs mVol (if (hdLs mDsk k ds) < 0 then -1 else (hdLs mVol (hdLs mDsk k ds) l)) l2) = _
      rw [if_neg c2, if_neg c2, if_neg c2, if_neg c5, if_neg c5]
      exact e2
    simp only [conj, List.append_nil]
    exact hv.symm
   ·refine sw_skip (sw_seq (xr hP 8 rfl (sw_ret ⟨.inl rfl, _, rfl, ?_⟩)))
    have hv : mPol.hd k ((ds, op, (tg, l), (tg2, l2)) : Pol) = (hdLs mVol (hdLs mVol (hdLs mDsk k ds) l) l2) := by
      show (if (hdLs mDsk k ds) < 0 then -1 else if (hdLs mDsk k ds) < 0 then -1 else if (if (hdLs mDsk k ds) < 0 then -1 else (hdLs mVol (hdLs mDsk k ds) l)) < 0 then -1 else if (if (hdLs mDsk k ds) < 0 then -1 else (hdLs mVol (hdLs mDsk k ds) l)) < 0 then -1 else hdLs mVol (if (hdLs mDsk k ds) < 0 then -1 else (hdLs mVol (hdLs mDsk k ds) l)) l2) = _
      rw [if_neg c2, if_neg c2, if_neg c2, if_neg c5, if_neg c5]
    simp only [conj, List.append_nil]
    exact hv.symm
end Go.Sx

namespace Go.Sx
open Go
set_option maxRecDepth 100000
set_option linter.unusedVariables false
set_option linter.unusedSimpArgs false
set_option maxHeartbeats 2000000
def cEqPlc : Ctr := ⟨91, [.val true T_Place pF, .val true T_Place pF], fun x => True, fun x => (sBool (decide ((x.1 : Plc) = x.2.1)), [])⟩
theorem cEqPlc_ok : CtrOk Proofs.Tryd.prog cEqPlc := by
 have hP := (Prg.none ttok mtok)
 refine ctr_of_body hP cEqPlc (fn := Proofs.Tryd.f91) (rts := [.tmp 4]) Proofs.Tryd.func91 rfl (by kernel_rfl) rfl rfl ?_
 rintro ⟨⟨(a : Int), (b : Int)⟩, ⟨(c : Int), (e : Int)⟩, ⟨⟩⟩ _ _
 try dsimp only [Ty.den, Mode.den, mdens] at _
 refine ⟨rfl, ?_⟩
 refine sw_seq (xr hP 1 rfl (sw_seq (sw_seq (xr hP 2 rfl (sw_cond rfl (fun c1 => ?_) (fun c1 => ?_))))))
 ·replace c1 : ¬ a = c := by simpa using c1
  refine sw_seq (xr hP 3 rfl (sw_ret ⟨.inl rfl, _, rfl, ?_⟩))
  simp [conj, *]
 ·replace c1 : a = c := by simpa using c1
  refine sw_skip (sw_seq (sw_seq (xr hP 3 rfl (sw_cond rfl (fun c3 => ?_) (fun c3 => ?_)))))
  ·replace c3 : ¬ b = e := by simpa using c3
   refine sw_seq (xr hP 4 rfl (sw_ret ⟨.inl rfl, _, rfl, ?_⟩))
   simp [conj, *]
  ·replace c3 : b = e := by simpa using c3
   refine sw_skip (sw_seq (xr hP 4 rfl (sw_ret ⟨.inl rfl, _, rfl, ?_⟩)))
   simp [conj, *]
def cEqPls : Ctr := ⟨88, [.val false (.sl T_Place) (.all .b), .val false (.sl T_Place) (.all .b)], fun x => True, fun x => (sBool (decide ((x.1 : List Plc) = x.2.1)), [])⟩
theorem cEqPls_ok : CtrOk Proofs.Tryd.prog cEqPls := by
 have hP := ((Prg.none ttok mtok).and cEqPlc_ok)
 refine ctr_of_body hP cEqPls (fn := Proofs.Tryd.f88) (rts := [.tmp 4]) Proofs.Tryd.func88 rfl (by kernel_rfl) rfl rfl ?_
 rintro ⟨(a : List Plc), (b : List Plc), ⟨⟩⟩ ⟨hda, hdb, _⟩ _
 try dsimp only [Ty.den, Mode.den, mdens] at _
 refine ⟨rfl, ?_⟩
 have hml : a.length ≤ 140737488355328 := hda.1
 have hmb : b.length ≤ 140737488355328 := hdb.1
 refine sw_seq (xr hP 1 rfl (sw_seq (sw_seq (xr hP 2 rfl (sw_cond rfl (fun c1 => ?_) (fun c1 => ?_))))))
 ·replace c1 : ¬ a.length = b.length := by simp at c1; omega
  refine sw_seq (xr hP 3 rfl (sw_ret ⟨.inl rfl, _, rfl, ?_⟩))
  have hv := eqL_len c1
  simp [conj, hv]
 ·replace c1 : a.length = b.length := by simp at c1; omega
  refine sw_skip (sw_seq (sw_seq (xr hP 3 rfl (sw_block (sw_loop (ι := Nat) (fun i => ⟨[.v false [.d (.sl T_Place) (.all .b) a], .v false [.d (.sl T_Place) (.all .b) b], .j, .j, .j, sInt .i64 (i : Int), .j, .j, .j, .j, .j, .j, .j, .j, .j, .j, .j, .j, .j, .j, .j, .j, .j, .j, .j, .j, .j], [], 3, []⟩) (fun i => a.length - i) (fun i => i ≤ a.length ∧ decide (a.drop i = b.drop i) = decide (a = b)) 0 ⟨?_, ?_⟩ ?_)))))
  ·exact ⟨Nat.zero_le _, rfl⟩
  ·refine ent_ok rfl ?_
   first | trivial | (simp [conj]; done) | (simp [conj] at *; (try dsimp only [Ty.den, Ty.dflt] at *); omega)
  ·rintro i ⟨hi, hgo⟩
   refine sw_seq (sw_seq (xr hP 4 rfl (sw_cond rfl (fun c4 => ?_) (fun c4 => ?_))))
   ·have hlt : i < a.length := by simpa using c4
    have hlt2 : i < b.length := by omega
    refine sw_skip (sw_seq (sw_block (sw_seq (xg hP 5 [] rfl ?_ ?_))))
    ·simp [conj, gE hlt, gE hlt2]
     repeat' apply And.intro
     all_goals first | omega | trivial
    refine sw_cond rfl (fun c6 => ?_) (fun c6 => ?_)
    ·replace c6 : ¬ a[i] = b[i] := by intro e; simp [gE hlt, gE hlt2, e] at c6
     refine sw_seq (xr hP 6 rfl (sw_ret ⟨.inl rfl, _, rfl, ?_⟩))
     have hv := eqL_hit hlt hlt2 hgo c6
     simp [conj, hv]
    ·replace c6 : a[i] = b[i] := by
       have h := c6
       simp [gE hlt, gE hlt2] at h
       exact Prod.ext h.1 h.2
     refine sw_skip (xr hP 6 rfl (⟨i + 1, ?_, ?_, ent_ok rfl ?_⟩))
     ·exact ⟨hlt, eqL_next hlt hlt2 hgo c6⟩
     ·omega
     ·simp [conj]
   ·obtain rfl : i = a.length := by simp at c4; omega
    refine sw_exit (sw_seq (xr hP 5 rfl (sw_ret ⟨.inl rfl, _, rfl, ?_⟩)))
    have hv := eqL_end c1 hgo
    simp [conj, hv]
def cEqPtr : Ctr := ⟨79, [.val true T_Ptr (.all .b), .val true T_Ptr (.all .b)], fun x => True, fun x => (sBool (decide ((x.1 : Ptr_) = x.2.1)), [])⟩
theorem cEqPtr_ok : CtrOk Proofs.Tryd.prog cEqPtr := by
 have hP := ((Prg.none ttok mtok).and cEqPls_ok)
 refine ctr_of_body hP cEqPtr (fn := Proofs.Tryd.f79) (rts := [.tmp 4]) Proofs.Tryd.func79 rfl (by kernel_rfl) rfl rfl ?_
 rintro ⟨⟨(sz : Int), (sm : Int), (pl : List Plc)⟩, ⟨(sz2 : Int), (sm2 : Int), (pl2 : List Plc)⟩, ⟨⟩⟩ _ _
 try dsimp only [Ty.den, Mode.den, mdens] at _
 refine ⟨rfl, ?_⟩
 refine sw_seq (xr hP 1 rfl (sw_seq (sw_seq (xr hP 2 rfl (sw_cond rfl (fun c1 => ?_) (fun c1 => ?_))))))
 ·replace c1 : ¬ sz = sz2 := by simpa using c1
  refine sw_seq (xr hP 3 rfl (sw_ret ⟨.inl rfl, _, rfl, ?_⟩))
  simp [conj, *]
 ·replace c1 : sz = sz2 := by simpa using c1
  refine sw_skip (sw_seq (sw_seq (xr hP 3 rfl (sw_cond rfl (fun c3 => ?_) (fun c3 => ?_)))))
  ·replace c3 : ¬ sm = sm2 := by simpa using c3
   refine sw_seq (xr hP 4 rfl (sw_ret ⟨.inl rfl, _, rfl, ?_⟩))
   simp [conj, *]
  ·replace c3 : sm = sm2 := by simpa using c3
   refine sw_skip (sw_seq (sw_seq (xg hP 4 [] rfl ?_ ?_)))
   ·simp [conj, maxL]
    try dsimp only [Ty.den, Ty.dflt]
    try simp only [rd_eta]
    trivial
   refine sw_cond rfl (fun c5 => ?_) (fun c5 => ?_)
   ·replace c5 : ¬ pl = pl2 := by simpa using c5
    refine sw_seq (xr hP 5 rfl (sw_ret ⟨.inl rfl, _, rfl, ?_⟩))
    simp [conj, *]
   ·replace c5 : pl = pl2 := by simpa using c5
    refine sw_skip (sw_seq (xr hP 5 rfl (sw_ret ⟨.inl rfl, _, rfl, ?_⟩)))
    simp [conj, *]
def cEqPtrs : Ctr := ⟨65, [.val false (.sl T_Ptr) (.all .b), .val false (.sl T_Ptr) (.all .b)], fun x => True, fun x => (sBool (decide ((x.1 : List Ptr_) = x.2.1)), [])⟩
theorem cEqPtrs_ok : CtrOk Proofs.Tryd.prog cEqPtrs := by
 have hP := ((Prg.none ttok mtok).and cEqPtr_ok)
 refine ctr_of_body hP cEqPtrs (fn := Proofs.Tryd.f65) (rts := [.tmp 4]) Proofs.Tryd.func65 rfl (by kernel_rfl) rfl rfl ?_
 rintro ⟨(a : List Ptr_), (b : List Ptr_), ⟨⟩⟩ ⟨hda, hdb, _⟩ _
 try dsimp only [Ty.den, Mode.den, mdens] at _
 refine ⟨rfl, ?_⟩
 have hml : a.length ≤ 140737488355328 := hda.1
 have hmb : b.length ≤ 140737488355328 := hdb.1
 refine sw_seq (xr hP 1 rfl (sw_seq (sw_seq (xr hP 2 rfl (sw_cond rfl (fun c1 => ?_) (fun c1 => ?_))))))
 ·replace c1 : ¬ a.length = b.length := by simp at c1; omega
  refine sw_seq (xr hP 3 rfl (sw_ret ⟨.inl rfl, _, rfl, ?_⟩))
  have hv := eqL_len c1
  simp [conj, hv]
 ·replace c1 : a.length = b.length := by simp at c1; omega
  refine sw_skip (sw_seq (sw_seq (xr hP 3 rfl (sw_block (sw_loop (ι := Nat) (fun i => ⟨[.v false [.d (.sl T_Ptr) (.all .b) a], .v false [.d (.sl T_Ptr) (.all .b) b], .j, .j, .j, sInt .i64 (i : Int), .j, .j, .j, .j, .j, .j, .j, .j, .j, .j, .j, .j, .j, .j, .j, .j, .j, .j, .j, .j, .j], [], 3, []⟩) (fun i => a.length - i) (fun i => i ≤ a.length ∧ decide (a.drop i = b.drop i) = decide (a = b)) 0 ⟨?_, ?_⟩ ?_)))))
  ·exact ⟨Nat.zero_le _, rfl⟩
  ·refine ent_ok rfl ?_
   first | trivial | (simp [conj]; done) | (simp [conj] at *; (try dsimp only [Ty.den, Ty.dflt] at *); omega)
  ·rintro i ⟨hi, hgo⟩
   refine sw_seq (sw_seq (xr hP 4 rfl (sw_cond rfl (fun c4 => ?_) (fun c4 => ?_))))
   ·have hlt : i < a.length := by simpa using c4
    have hlt2 : i < b.length := by omega
    refine sw_skip (sw_seq (sw_block (sw_seq (xg hP 5 [] rfl ?_ ?_))))
    ·simp [conj, gE hlt, gE hlt2]
     repeat' apply And.intro
     all_goals first | omega | trivial
    refine sw_cond rfl (fun c6 => ?_) (fun c6 => ?_)
    ·replace c6 : ¬ a[i] = b[i] := by intro e; simp [gE hlt, gE hlt2, e] at c6
     refine sw_seq (xr hP 6 rfl (sw_ret ⟨.inl rfl, _, rfl, ?_⟩))
     have hv := eqL_hit hlt hlt2 hgo c6
     simp [conj, hv]
    ·replace c6 : a[i] = b[i] := by
       have h := c6
       simp [gE hlt, gE hlt2] at h
       exact Prod.ext h.1 (Prod.ext h.2.1 h.2.2)
     refine sw_skip (xr hP 6 rfl (⟨i + 1, ?_, ?_, ent_ok rfl ?_⟩))
     ·exact ⟨hlt, eqL_next hlt hlt2 hgo c6⟩
     ·omega
     ·simp [conj]
   ·obtain rfl : i = a.length := by simp at c4; omega
    refine sw_exit (sw_seq (xr hP 5 rfl (sw_ret ⟨.inl rfl, _, rfl, ?_⟩)))
    have hv := eqL_end c1 hgo
    simp [conj, hv]
def cEqVol : Ctr := ⟨53, [.val true T_Vol (.all .b), .val true T_Vol (.all .b)], fun x => True, fun x => (sBool (decide ((x.1 : Vol_) = x.2.1)), [])⟩
theorem cEqVol_ok : CtrOk Proofs.Tryd.prog cEqVol := by
 have hP := ((Prg.none ttok mtok).and cEqPtrs_ok)
 refine ctr_of_body hP cEqVol (fn := Proofs.Tryd.f53) (rts := [.tmp 4]) Proofs.Tryd.func53 rfl (by kernel_rfl) rfl rfl ?_
 rintro ⟨⟨(nm : Str), (bl : List Ptr_)⟩, ⟨(nm2 : Str), (bl2 : List Ptr_)⟩, ⟨⟩⟩ _ _
 try dsimp only [Ty.den, Mode.den, mdens] at _
 refine ⟨rfl, ?_⟩
 refine sw_seq (xr hP 1 rfl (sw_seq (sw_seq (xr hP 2 rfl (sw_cond rfl (fun c1 => ?_) (fun c1 => ?_))))))
 ·replace c1 : ¬ nm = nm2 := by simpa using c1
  refine sw_seq (xr hP 3 rfl (sw_ret ⟨.inl rfl, _, rfl, ?_⟩))
  simp [conj, *]
 ·replace c1 : nm = nm2 := by simpa using c1
  refine sw_skip (sw_seq (sw_seq (xg hP 3 [] rfl ?_ ?_)))
  ·simp [conj, maxL]
   try dsimp only [Ty.den, Ty.dflt]
   try simp only [rd_eta]
   trivial
  refine sw_cond rfl (fun c3 => ?_) (fun c3 => ?_)
  ·replace c3 : ¬ bl = bl2 := by simpa using c3
   refine sw_seq (xr hP 4 rfl (sw_ret ⟨.inl rfl, _, rfl, ?_⟩))
   simp [conj, *]
  ·replace c3 : bl = bl2 := by simpa using c3
   refine sw_skip (sw_seq (xr hP 4 rfl (sw_ret ⟨.inl rfl, _, rfl, ?_⟩)))
   simp [conj, *]
def cEqVols : Ctr := ⟨30, [.val false (.sl T_Vol) (.all .b), .val false (.sl T_Vol) (.all .b)], fun x => True, fun x => (sBool (decide ((x.1 : List Vol_) = x.2.1)), [])⟩
theorem cEqVols_ok : CtrOk Proofs.Tryd.prog cEqVols := by
 have hP := ((Prg.none ttok mtok).and cEqVol_ok)
 refine ctr_of_body hP cEqVols (fn := Proofs.Tryd.f30) (rts := [.tmp 4]) Proofs.Tryd.func30 rfl (by kernel_rfl) rfl rfl ?_
 rintro ⟨(a : List Vol_), (b : List Vol_), ⟨⟩⟩ ⟨hda, hdb, _⟩ _
 try dsimp only [Ty.den, Mode.den, mdens] at _
 refine ⟨rfl, ?_⟩
 have hml : a.length ≤ 140737488355328 := hda.1
 have hmb : b.length ≤ 140737488355328 := hdb.1
 refine sw_seq (xr hP 1 rfl (sw_seq (sw_seq (xr hP 2 rfl (sw_cond rfl (fun c1 => ?_) (fun c1 => ?_))))))
 ·replace c1 : ¬ a.length = b.length := by simp at c1; omega
  refine sw_seq (xr hP 3 rfl (sw_ret ⟨.inl rfl, _, rfl, ?_⟩))
  have hv := eqL_len c1
  simp [conj, hv]
 ·replace c1 : a.length = b.length := by simp at c1; omega
  refine sw_skip (sw_seq (sw_seq (xr hP 3 rfl (sw_block (sw_loop (ι := Nat) (fun i => ⟨[.v false [.d (.sl T_Vol) (.all .b) a], .v false [.d (.sl T_Vol) (.all .b) b], .j, .j, .j, sInt .i64 (i : Int), .j, .j, .j, .j, .j, .j, .j, .j, .j, .j, .j, .j, .j, .j, .j, .j, .j, .j, .j, .j, .j], [], 3, []⟩) (fun i => a.length - i) (fun i => i ≤ a.length ∧ decide (a.drop i = b.drop i) = decide (a = b)) 0 ⟨?_, ?_⟩ ?_)))))
  ·exact ⟨Nat.zero_le _, rfl⟩
  ·refine ent_ok rfl ?_
   first | trivial | (simp [conj]; done) | (simp [conj] at *; (try dsimp only [Ty.den, Ty.dflt] at *); omega)
  ·rintro i ⟨hi, hgo⟩
   refine sw_seq (sw_seq (xr hP 4 rfl (sw_cond rfl (fun c4 => ?_) (fun c4 => ?_))))
   ·have hlt : i < a.length := by simpa using c4
    have hlt2 : i < b.length := by omega
    refine sw_skip (sw_seq (sw_block (sw_seq (xg hP 5 [] rfl ?_ ?_))))
    ·simp [conj, gE hlt, gE hlt2]
     repeat' apply And.intro
     all_goals first | omega | trivial
    refine sw_cond rfl (fun c6 => ?_) (fun c6 => ?_)
    ·replace c6 : ¬ a[i] = b[i] := by intro e; simp [gE hlt, gE hlt2, e] at c6
     refine sw_seq (xr hP 6 rfl (sw_ret ⟨.inl rfl, _, rfl, ?_⟩))
     have hv := eqL_hit hlt hlt2 hgo c6
     simp [conj, hv]
    ·replace c6 : a[i] = b[i] := by
       have h := c6
       simp [gE hlt, gE hlt2] at h
       exact Prod.ext h.1 h.2
     refine sw_skip (xr hP 6 rfl (⟨i + 1, ?_, ?_, ent_ok rfl ?_⟩))
     ·exact ⟨hlt, eqL_next hlt hlt2 hgo c6⟩
     ·omega
     ·simp [conj]
   ·obtain rfl : i = a.length := by simp at c4; omega
    refine sw_exit (sw_seq (xr hP 5 rfl (sw_ret ⟨.inl rfl, _, rfl, ?_⟩)))
    have hv := eqL_end c1 hgo
    simp [conj, hv]
def cEqRoot : Ctr := ⟨17, [.val true T_Root (.all .b), .val true T_Root (.all .b)], fun x => True, fun x => (sBool (decide ((x.1 : Root_) = x.2.1)), [])⟩
theorem cEqRoot_ok : CtrOk Proofs.Tryd.prog cEqRoot := by
 have hP := ((Prg.none ttok mtok).and cEqVols_ok)
 refine ctr_of_body hP cEqRoot (fn := Proofs.Tryd.f17) (rts := [.tmp 4]) Proofs.Tryd.func17 rfl (by kernel_rfl) rfl rfl ?_
 rintro ⟨⟨(tg : Int), (l : List Vol_)⟩, ⟨(tg2 : Int), (l2 : List Vol_)⟩, ⟨⟩⟩ _ _
 try dsimp only [Ty.den, Mode.den, mdens] at _
 refine ⟨rfl, ?_⟩
 refine sw_seq (xr hP 1 rfl (sw_seq (sw_seq (xr hP 2 rfl (sw_cond rfl (fun c1 => ?_) (fun c1 => ?_))))))
 ·replace c1 : ¬ tg = tg2 := by simpa using c1
  refine sw_seq (xr hP 3 rfl (sw_ret ⟨.inl rfl, _, rfl, ?_⟩))
  simp [conj, *]
 ·replace c1 : tg = tg2 := by simpa using c1
  refine sw_skip (sw_seq (sw_seq (xg hP 3 [] rfl ?_ ?_)))
  ·simp [conj, maxL]
   try dsimp only [Ty.den, Ty.dflt]
   try simp only [rd_eta]
   trivial
  refine sw_cond rfl (fun c3 => ?_) (fun c3 => ?_)
  ·replace c3 : ¬ l = l2 := by simpa using c3
   refine sw_seq (xr hP 4 rfl (sw_ret ⟨.inl rfl, _, rfl, ?_⟩))
   simp [conj, *]
  ·replace c3 : l = l2 := by simpa using c3
   refine sw_skip (sw_seq (xr hP 4 rfl (sw_ret ⟨.inl rfl, _, rfl, ?_⟩)))
   simp [conj, *]
end Go.Sx

namespace Go.Sx
open Go
set_option maxRecDepth 100000
set_option linter.unusedVariables false
set_option linter.unusedSimpArgs false
set_option maxHeartbeats 2000000
def cEqDs : Ctr := ⟨16, [.val false (.sl T_Disk) (.all .b), .val false (.sl T_Disk) (.all .b)], fun x => True, fun x => (sBool (decide ((x.1 : List Dsk) = x.2.1)), [])⟩
theorem cEqDs_ok : CtrOk Proofs.Tryd.prog cEqDs := by
 have hP := ((Prg.none ttok mtok).and cEqD_ok)
 refine ctr_of_body hP cEqDs (fn := Proofs.Tryd.f16) (rts := [.tmp 4]) Proofs.Tryd.func16 rfl (by kernel_rfl) rfl rfl ?_
 rintro ⟨(a : List Dsk), (b : List Dsk), ⟨⟩⟩ ⟨hda, hdb, _⟩ _
 try dsimp only [Ty.den, Mode.den, mdens] at _
 refine ⟨rfl, ?_⟩
 have hml : a.length ≤ 140737488355328 := hda.1
 have hmb : b.length ≤ 140737488355328 := hdb.1
 refine sw_seq (xr hP 1 rfl (sw_seq (sw_seq (xr hP 2 rfl (sw_cond rfl (fun c1 => ?_) (fun c1 => ?_))))))
 ·replace c1 : ¬ a.length = b.length := by simp at c1; omega
  refine sw_seq (xr hP 3 rfl (sw_ret ⟨.inl rfl, _, rfl, ?_⟩))
  have hv := eqL_len c1
  simp [conj, hv]
 ·replace c1 : a.length = b.length := by simp at c1; omega
  refine sw_skip (sw_seq (sw_seq (xr hP 3 rfl (sw_block (sw_loop (ι := Nat) (fun i => ⟨[.v false [.d (.sl T_Disk) (.all .b) a], .v false [.d (.sl T_Disk) (.all .b) b], .j, .j, .j, sInt .i64 (i : Int), .j, .j, .j, .j, .j, .j, .j, .j, .j, .j, .j, .j, .j, .j, .j, .j, .j, .j, .j, .j, .j], [], 3, []⟩) (fun i => a.length - i) (fun i => i ≤ a.length ∧ decide (a.drop i = b.drop i) = decide (a = b)) 0 ⟨?_, ?_⟩ ?_)))))
  ·exact ⟨Nat.zero_le _, rfl⟩
  ·refine ent_ok rfl ?_
   first | trivial | (simp [conj]; done) | (simp [conj] at *; (try dsimp only [Ty.den, Ty.dflt] at *); omega)
  ·rintro i ⟨hi, hgo⟩
   refine sw_seq (sw_seq (xr hP 4 rfl (sw_cond rfl (fun c4 => ?_) (fun c4 => ?_))))
   ·have hlt : i < a.length := by simpa using c4
    have hlt2 : i < b.length := by omega
    refine sw_skip (sw_seq (sw_block (sw_seq (xg hP 5 [] rfl ?_ ?_))))
    ·simp [conj, gE hlt, gE hlt2]
     repeat' apply And.intro
     all_goals first | omega | trivial
    refine sw_cond rfl (fun c6 => ?_) (fun c6 => ?_)
    ·replace c6 : ¬ a[i] = b[i] := by intro e; simp [gE hlt, gE hlt2, e, eqDV] at c6
     refine sw_seq (xr hP 6 rfl (sw_ret ⟨.inl rfl, _, rfl, ?_⟩))
     have hv := eqL_hit hlt hlt2 hgo c6
     simp [conj, hv]
    ·replace c6 : a[i] = b[i] := by
       have h := c6
       simp [gE hlt, gE hlt2, eqDV] at h
       exact Prod.ext h.1 (Prod.ext h.2.1 (Prod.ext h.2.2.1 (Prod.ext h.2.2.2.1 h.2.2.2.2)))
     refine sw_skip (xr hP 6 rfl (⟨i + 1, ?_, ?_, ent_ok rfl ?_⟩))
     ·exact ⟨hlt, eqL_next hlt hlt2 hgo c6⟩
     ·omega
     ·simp [conj]
   ·obtain rfl : i = a.length := by simp at c4; omega
    refine sw_exit (sw_seq (xr hP 5 rfl (sw_ret ⟨.inl rfl, _, rfl, ?_⟩)))
    have hv := eqL_end c1 hgo
    simp [conj, hv]
def cEqPo : Ctr := ⟨6, [.val true T_Pool (.all .b), .val true T_Pool (.all .b)], fun x => True, fun x => (sBool (decide ((x.1 : Pol) = x.2.1)), [])⟩
theorem cEqPo_ok : CtrOk Proofs.Tryd.prog cEqPo := by
 have hP := (((Prg.none ttok mtok).and cEqDs_ok).and cEqRoot_ok)
 refine ctr_of_body hP cEqPo (fn := Proofs.Tryd.f6) (rts := [.tmp 4]) Proofs.Tryd.func6 rfl (by kernel_rfl) rfl rfl ?_
 rintro ⟨⟨(ds : List Dsk), (op : Bool), ⟨(tg : Int), (l : List Vol_)⟩, ⟨(tg2 : Int), (l2 : List Vol_)⟩⟩, ⟨(es : List Dsk), (oq : Bool), ⟨(ug : Int), (m : List Vol_)⟩, ⟨(ug2 : Int), (m2 : List Vol_)⟩⟩, ⟨⟩⟩ _ _
 try dsimp only [Ty.den, Mode.den, mdens] at _
 refine ⟨rfl, ?_⟩
 refine sw_seq (xr hP 1 rfl (sw_seq (sw_seq (xg hP 2 [] rfl ?_ ?_))))
 ·simp [conj, maxL]
  try dsimp only [Ty.den, Ty.dflt]
  try simp only [rd_eta]
  try trivial
 refine sw_cond rfl (fun c1 => ?_) (fun c1 => ?_)
 ·replace c1 : ¬ ds = es := by simpa using c1
  refine sw_seq (xr hP 3 rfl (sw_ret ⟨.inl rfl, _, rfl, ?_⟩))
  have hne : decide (((ds, op, (tg, l), (tg2, l2)) : Pol) = (es, oq, (ug, m), (ug2, m2))) = false := decide_eq_false fun e => c1 (congrArg (·.1) e)
  simp only [conj, List.append_nil]
  exact hne.symm
 ·replace c1 : ds = es := by simpa using c1
  refine sw_skip (sw_seq (sw_seq (xr hP 3 rfl (sw_cond rfl (fun c3 => ?_) (fun c3 => ?_)))))
  ·replace c3 : ¬ op = oq := by intro e; rw [e] at c3; simp at c3
   refine sw_seq (xr hP 4 rfl (sw_ret ⟨.inl rfl, _, rfl, ?_⟩))
   have hne : decide (((ds, op, (tg, l), (tg2, l2)) : Pol) = (es, oq, (ug, m), (ug2, m2))) = false := decide_eq_false fun e => c3 (congrArg (·.2.1) e)
   simp only [conj, List.append_nil]
   exact hne.symm
  ·replace c3 : op = oq := by have h : (!(op == oq)) = false := c3; simpa using h
   refine sw_skip (sw_seq (sw_seq (xg hP 4 [] rfl ?_ ?_)))
   ·simp [conj, maxL]
    try dsimp only [Ty.den, Ty.dflt]
    try simp only [rd_eta]
    try trivial
   refine sw_cond rfl (fun c5 => ?_) (fun c5 => ?_)
   ·replace c5 : ¬ ((tg, l) : Root_) = (ug, m) := by have h : (!decide (((tg, l) : Root_) = (ug, m))) = true := c5; rwa [Bool.not_eq_true', decide_eq_false_iff_not] at h
    refine sw_seq (xr hP 5 rfl (sw_ret ⟨.inl rfl, _, rfl, ?_⟩))
    have hne : decide (((ds, op, (tg, l), (tg2, l2)) : Pol) = (es, oq, (ug, m), (ug2, m2))) = false := decide_eq_false fun e => c5 (congrArg (·.2.2.1) e)
    simp only [conj, List.append_nil]
    exact hne.symm
   ·replace c5 : ((tg, l) : Root_) = (ug, m) := by have h : (!decide (((tg, l) : Root_) = (ug, m))) = false := c5; rwa [Bool.not_eq_false', decide_eq_true_eq] at h
    refine sw_skip (sw_seq (sw_seq (xg hP 5 [] rfl ?_ ?_)))
    ·simp [conj, maxL]
     try dsimp only [Ty.den, Ty.dflt]
     try simp only [rd_eta]
     try trivial
    refine sw_cond rfl (fun c7 => ?_) (fun c7 => ?_)
    ·replace c7 : ¬ ((tg2, l2) : Root_) = (ug2, m2) := by have h : (!decide (((tg2, l2) : Root_) = (ug2, m2))) = true := c7; rwa [Bool.not_eq_true', decide_eq_false_iff_not] at h
     refine sw_seq (xr hP 6 rfl (sw_ret ⟨.inl rfl, _, rfl, ?_⟩))
     have hne : decide (((ds, op, (tg, l), (tg2, l2)) : Pol) = (es, oq, (ug, m), (ug2, m2))) = false := decide_eq_false fun e => c7 (congrArg (·.2.2.2) e)
     simp only [conj, List.append_nil]
     exact hne.symm
    ·replace c7 : ((tg2, l2) : Root_) = (ug2, m2) := by have h : (!decide (((tg2, l2) : Root_) = (ug2, m2))) = false := c7; rwa [Bool.not_eq_false', decide_eq_true_eq] at h
     refine sw_skip (sw_seq (xr hP 6 rfl (sw_ret ⟨.inl rfl, _, rfl, ?_⟩)))
     have hne : decide (((ds, op, (tg, l), (tg2, l2)) : Pol) = (es, oq, (ug, m), (ug2, m2))) = true := decide_eq_true (by rw [c1, c3, c5, c7])
     simp only [conj, List.append_nil]
     exact hne.symm
end Go.Sx

namespace Go.Sx
open Go
set_option maxRecDepth 100000
set_option linter.unusedVariables false
set_option linter.unusedSimpArgs false
set_option maxHeartbeats 4000000
def cXPoolNew : Ctr := ⟨3, [.val false TI pF], fun x => True, fun x => (sBool true, [])⟩
theorem cXPoolNew_ok : CtrOk Proofs.Tryd.prog cXPoolNew := by
 have hP := (((((Prg.none ttok mtok).and cPoolS_ok).and cPoolI_ok).and cEqPo_ok).and cHdPo_ok)
 refine ctr_of_body hP cXPoolNew (fn := Proofs.Tryd.f3) (rts := [.tmp 2]) Proofs.Tryd.func3 rfl (by kernel_rfl) rfl rfl ?_
 rintro ⟨(n : Int), ⟨⟩⟩ _ _
 try dsimp only [Ty.den, Mode.den, mdens] at _
 refine ⟨rfl, ?_⟩
 refine sw_seq (xr hP 1 rfl (sw_seq ?_))
 obtain ⟨W, hW⟩ : ∃ W, newPo n = W := ⟨_, rfl⟩
 obtain ⟨m1, m2⟩ := nx_fitPo (hW ▸ newPo_fit (n := n))
 have hh : mPol.hd 1 (mPol.mk 1 W) = (mPol.nx 1 W) := mPol_ok.hm 1 W (by decide)
 have hmm : mPol.nx 1 (mPol.mk 1 W) = (mPol.nx 1 W) := mPol_ok.nm 1 W
 refine xg hP 2 [] rfl ?_ ?_
 ·simp [conj, maxL]
  try dsimp only [Ty.den, Ty.dflt]
  try simp only [rd_eta]
  try trivial
 refine sw_seq (xg hP 3 [] rfl ?_ ?_)
 ·simp [conj, maxL]
  try dsimp only [Ty.den, Ty.dflt]
  try simp only [rd_eta]
  try trivial
 refine sw_seq (sw_seq ?_)
 refine sw_dec hP 4 [] 4 rfl (fun g3_4 => ?_) (fun g3_4 => ?_)
 ·simp at g3_4
 ·refine xd hP 4 [(4, false)] rfl (sw_cond rfl (fun c3 => ?_) (fun c3 => ?_))
  ·simp at c3
  ·refine sw_skip (sw_seq (xr hP 5 rfl (sw_seq ?_)))
   replace hP := hP.andX (cMkPo_ok (p := newPo n) (k := 1) (a := ⟨3, 1, 0⟩) (b := ⟨3, 1, 64⟩) (c := ⟨3, 1, 128⟩) (by decide) (by rw [hW]; omega))
   refine xg hP 6 [] rfl ?_ ?_
   ·simp only [cj, cl]
    try dsimp only [Ty.den, Ty.dflt]
    repeat' apply And.intro
    all_goals first | rfl | omega | assumption | trivial
   refine sw_seq (xr hP 7 rfl (sw_seq (xg hP 8 [] rfl ?_ ?_)))
   ·simp only [hW]
    simp only [cj, cl]
    try dsimp only [Ty.den, Ty.dflt]
    exact ⟨by show (0 : Int) ≤ 1; decide, by show mPol.nx 1 (mPol.mk 1 W) ≤ 1000000000; omega⟩
   refine sw_seq (sw_seq ?_)
   refine sw_ent (st' := ⟨[sInt .i64 n, .j, .j, .v false [.ptr ⟨2, 5, 0⟩ 0], .v false [.d .bool pF (poolV n)], .v false [.ptr ⟨3, 5, 0⟩ 0], .j, sInt .i64 (mPol.nx 1 W), sInt .i64 (mPol.nx 1 W), .j, .j, .j, .j, .j, .j, .j, .j, .j, .j, .j, .j, .j, .j, .j, .j, .j, .j, .j, .j, .j, .j, .j, .j, .j, .j, .j, .j, .j, .j, .j, .j, .j, .j, .j, .j, .j, .j, .j, .j, .j, .j, .j, .j, .j, .j, .j, .j, .j, .j, .j, .j, .j, .j], [(⟨2, 5, 0⟩, .var [.own ⟨2, 1, 0⟩, .d .bool pF W.2.1, .d TI pF W.2.2.1.1, .own ⟨2, 1, 64⟩, .d TI pF W.2.2.2.1, .own ⟨2, 1, 128⟩]), (⟨2, 1, 0⟩, .sl T_Disk (.all .w) W.1), (⟨2, 1, 64⟩, .sl T_Vol (.all .w) W.2.2.1.2), (⟨2, 1, 128⟩, .sl T_Vol (.all .w) W.2.2.2.2), (⟨3, 5, 0⟩, .var [.own ⟨3, 1, 0⟩, .d .bool pF W.2.1, .d TI pF W.2.2.1.1, .own ⟨3, 1, 64⟩, .d TI pF W.2.2.2.1, .own ⟨3, 1, 128⟩]), (⟨3, 1, 0⟩, .sl T_Disk (.all .w) (mPol.mk 1 W).1), (⟨3, 1, 64⟩, .sl T_Vol (.all .w) (mPol.mk 1 W).2.2.1.2), (⟨3, 1, 128⟩, .sl T_Vol (.all .w) (mPol.mk 1 W).2.2.2.2)], 8, []⟩) (ent_ok rfl ?_) ?_
   ·simp [conj, hW]
    try (repeat' apply And.intro
         all_goals first | rfl | exact hh)
   refine xr hP 9 rfl (sw_cond rfl (fun c9 => ?_) (fun c9 => ?_))
   ·have h : (mPol.nx 1 W) < 0 := of_decide_eq_true c9
    omega
   ·refine sw_skip (sw_seq (sw_seq (xr hP 10 rfl (sw_cond rfl (fun c11 => ?_) (fun c11 => ?_)))))
    ·simp at c11
    ·refine sw_skip (sw_seq (xg hP 11 [] rfl ?_ ?_))
     ·simp [conj, maxL]
      try dsimp only [Ty.den, Ty.dflt]
      try simp only [rd_eta]
      try trivial
     refine sw_seq (sw_seq ?_)
     refine sw_dec hP 12 [] 4 rfl (fun g14_4 => ?_) (fun g14_4 => ?_)
     ·simp [hW] at g14_4
     ·refine xd hP 12 [(4, false)] rfl (sw_cond rfl (fun c14 => ?_) (fun c14 => ?_))
      ·simp at c14
      ·refine sw_skip (sw_seq (xr hP 13 rfl (sw_seq (xg hP 14 [] rfl ?_ ?_))))
       ·simp only [cj, cl]
        try dsimp only [Ty.den, Ty.dflt]
        exact ⟨by show (0 : Int) ≤ 1; decide, by show mPol.nx 1 (mPol.mk 1 W) ≤ 1000000000; omega⟩
       refine sw_seq (sw_seq ?_)
       refine sw_ent (st' := ⟨[.j, .j, .j, .v false [.ptr ⟨2, 5, 0⟩ 0], .j, .v false [.ptr ⟨3, 5, 0⟩ 0], .j, sInt .i64 (mPol.nx 1 W), sInt .i64 (mPol.nx 1 W), .v false [.ptr ⟨11, 5, 0⟩ 0], .j, .j, .j, .j, .j, .j, .j, .j, .j, .j, .j, .j, .j, .j, .j, .j, .j, .j, .j, .j, .j, .j, .j, .j, .j, .j, .j, .j, .j, .j, .j, .j, .j, .j, .j, .j, .j, .j, .j, .j, .j, .j, .j, .j, .j, .j, .j, .j, .j, .j, .j, .j, .j], [], 14, []⟩) (ent_ok rfl ?_) ?_
       ·simp [conj]
        try exact hh
       refine xr hP 15 rfl (sw_cond rfl (fun c18 => ?_) (fun c18 => ?_))
       ·have h : (mPol.nx 1 W) < 0 := of_decide_eq_true c18
        omega
       ·refine sw_skip (sw_seq (sw_seq (xr hP 16 rfl (sw_cond rfl (fun c20 => ?_) (fun c20 => ?_)))))
        ·simp at c20
        ·refine sw_skip (sw_seq (xr hP 17 rfl (sw_ret ⟨.inl rfl, _, rfl, ?_⟩)))
         simp [conj]
end Go.Sx
