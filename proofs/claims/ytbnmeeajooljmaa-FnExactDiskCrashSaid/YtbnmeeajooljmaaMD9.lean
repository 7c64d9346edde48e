import Derived.Test.YtbnmeeajooljmaaMD8
set_option linter.all false
namespace Go.Sx
open Go
set_option maxRecDepth 100000
set_option linter.unusedVariables false
set_option linter.unusedSimpArgs false
set_option maxHeartbeats 2000000

def cMkT : Ctr := ⟨75, [.val false TI pF], fun x => x.1 ≤ 1099511627776, fun x => (sStr (mkT x.1), [])⟩
theorem cMkT_ok : CtrOk Proofs.Try.prog cMkT := by
  have hP := (Prg.none ttok mtok)
  refine ctr_of_body hP cMkT (fn := Proofs.Try.f75) (rts := [.tmp 2]) Proofs.Try.func75 rfl (by kernel_rfl) rfl rfl ?_
  rintro ⟨(k : Int), ⟨⟩⟩ _ hpre
  try dsimp only [Ty.den, Mode.den, mdens] at hpre
  refine ⟨rfl, ?_⟩
  replace hpre : k ≤ 1099511627776 := hpre
  refine sw_seq ?_
  refine sw_region hP 1 [] rfl (by kernel_rfl) (fun _ => by kernel_rfl) (by first | trivial | (simp [conj]; done) | (simp [conj] at *; (try dsimp only [Ty.den, Ty.dflt] at *); omega)) ?_
  refine sw_seq ?_
  refine sw_seq ?_
  refine sw_region hP 2 [] rfl (by kernel_rfl) (fun _ => by kernel_rfl) (by first | trivial | (simp [conj]; done) | (simp [conj] at *; (try dsimp only [Ty.den, Ty.dflt] at *); omega)) ?_
  refine sw_cond rfl (fun c1 => ?_) (fun c1 => ?_)
  · skip
    replace c1 : k ≤ 0 := of_decide_eq_true c1
    refine sw_seq ?_
    refine sw_region hP 3 [] rfl (by kernel_rfl) (fun _ => by kernel_rfl) (by first | trivial | (simp [conj]; done) | (simp [conj] at *; (try dsimp only [Ty.den, Ty.dflt] at *); omega)) ?_
    refine sw_ret ⟨.inl rfl, _, rfl, ?_⟩
    simp [conj]
    unfold mkT
    rw [if_pos c1]; rfl
  · skip
    replace c1 : ¬ k ≤ 0 := of_decide_eq_false c1
    refine sw_skip ?_
    refine sw_seq ?_
    refine sw_region hP 3 [] rfl (by kernel_rfl) (fun _ => by kernel_rfl) (by first | trivial | (simp [conj]; done) | (simp [conj] at *; (try dsimp only [Ty.den, Ty.dflt] at *); omega)) ?_
    refine sw_seq ?_
    refine sw_block ?_
    refine sw_loop (ι := Nat × Str) (fun ⟨n, out⟩ => ⟨[sInt .i64 (n : Int), .junk, .junk, sStr out, .junk, .junk, .junk, .junk, .junk, .junk, .junk, .junk, .junk, .junk, .junk, .junk, .junk, .junk, .junk, .junk], [], 3, []⟩) (fun ⟨n, out⟩ => n) (fun ⟨n, out⟩ => out.length + n ≤ 1099511627776 ∧ digX n out = digX k.toNat []) (k.toNat, []) ⟨?_, ?_⟩ ?_
    · skip
      exact ⟨by show 0 + k.toNat ≤ 1099511627776; omega, rfl⟩
    · refine ent_ok rfl ?_
      simp [conj]
      repeat' apply And.intro
      all_goals first | rfl | exact (Int.max_eq_left (by omega)).symm | omega
    · rintro ⟨n, out⟩ ⟨hl, hgo⟩
      refine sw_seq ?_
      refine sw_seq ?_
      refine sw_region hP 4 [] rfl (by kernel_rfl) (fun _ => by kernel_rfl) (by first | trivial | (simp [conj]; done) | (simp [conj] at *; (try dsimp only [Ty.den, Ty.dflt] at *); omega)) ?_
      refine sw_cond rfl (fun c4 => ?_) (fun c4 => ?_)
      · skip
        have hn : n ≠ 0 := by have h : (0 : Int) < (n : Nat) := of_decide_eq_true c4; omega
        have htm : ((n : Nat) : Int).tmod 10 = ((n % 10 : Nat) : Int) := rfl
        have htd : ((n : Nat) : Int).tdiv 10 = ((n / 10 : Nat) : Int) := rfl
        refine sw_skip ?_
        refine sw_block ?_
        refine sw_seq ?_
        refine sw_region hP 5 [] rfl (by kernel_rfl) (fun _ => by kernel_rfl) ?_ ?_
        · skip
          simp [conj, maxL, htm, ofBytes]
          repeat' apply And.intro
          all_goals first | assumption | omega
        refine sw_region hP 6 [] rfl (by kernel_rfl) (fun _ => by kernel_rfl) ?_ ?_
        · skip
          simp [conj, htd]
          repeat' apply And.intro
          all_goals first | assumption | omega
        refine ⟨(n / 10, UInt8.ofNat (48 + n % 10) :: out), ?_, ?_, ent_ok rfl ?_⟩
        · skip
          exact ⟨by show (out.length + 1) + n / 10 ≤ 1099511627776; omega, by rw [← hgo, digX_step hn]⟩
        · skip
          show n / 10 < n
          omega
        · skip
          simp only [conj, List.nil_append, List.cons_append, List.append_nil, List.append_assoc, inR_i64, true_and, and_true, Int.toNat_natCast]
          try dsimp only [Ty.den, Ty.dflt]
          repeat' apply And.intro
          all_goals first | trivial | exact htd | rfl
      · skip
        obtain rfl : n = 0 := by have h : ¬ (0 : Int) < (n : Nat) := of_decide_eq_false c4; omega
        refine sw_exit ?_
        refine sw_seq ?_
        refine sw_region hP 5 [] rfl (by kernel_rfl) (fun _ => by kernel_rfl) ?_ ?_
        · skip
          simp [conj, maxL, bytesL]
          repeat' apply And.intro
          all_goals first | assumption | omega
        refine sw_ret ⟨.inl rfl, _, rfl, ?_⟩
        simp [conj]
        unfold mkT
        rw [if_neg c1, ← hgo, digX_zero]; rfl

def cMkL : Ctr := ⟨50, [.mu false .str (.all .w), .val false TI pF], fun x => 0 ≤ x.2.1 ∧ x.2.1 + (List.length x.1 : Int) ≤ 1000000000, fun x => (sInt .i64 (x.2.1 + (List.length x.1 : Int)), [(⟨0, 0, 0⟩, .sl .str (.all .w) (mkG mkT 1 x.2.1 x.1))])⟩
theorem cMkL_ok : CtrOk Proofs.Try.prog cMkL := by
  have hP := ((Prg.none ttok mtok).and cMkT_ok)
  refine ctr_of_body hP cMkL (fn := Proofs.Try.f50) (rts := [.tmp 4]) Proofs.Try.func50 rfl (by kernel_rfl) rfl rfl ?_
  rintro ⟨(l : List Str), (k : Int), ⟨⟩⟩ _ ⟨h0, h1⟩
  try dsimp only [Ty.den, Mode.den, mdens] at h0
  try dsimp only [Ty.den, Mode.den, mdens] at h1
  refine ⟨rfl, ?_⟩
  replace h0 : 0 ≤ k := h0
  replace h1 : k + (l.length : Int) ≤ 1000000000 := h1
  refine sw_seq ?_
  refine sw_region hP 1 [] rfl (by kernel_rfl) (fun _ => by kernel_rfl) (by first | trivial | (simp [conj]; done) | (simp [conj] at *; (try dsimp only [Ty.den, Ty.dflt] at *); omega)) ?_
  refine sw_seq ?_
  refine sw_seq ?_
  refine sw_region hP 2 [] rfl (by kernel_rfl) (fun _ => by kernel_rfl) (by first | trivial | (simp [conj]; done) | (simp [conj] at *; (try dsimp only [Ty.den, Ty.dflt] at *); omega)) ?_
  refine sw_block ?_
  refine sw_loop (ι := Nat) (fun i => ⟨[.v false [.own ⟨0, 0, 0⟩], sInt .i64 (k + (i : Int)), .junk, .junk, .junk, sInt .i64 (i : Int), .junk, .junk, .junk, .junk, .junk, .junk, .junk, .junk, .junk, .junk, .junk, .junk, .junk, .junk], [(⟨0, 0, 0⟩, .sl .str (.all .w) (mkG mkT 1 k (l.take i) ++ l.drop i))], 2, [[.v false [.own ⟨0, 0, 0⟩], .junk]]⟩) (fun i => l.length - i) (fun i => i ≤ l.length) 0 ⟨?_, ?_⟩ ?_
  · skip
    exact Nat.zero_le _
  · refine ent_ok rfl ?_
    simp [conj, mkG]
  · rintro i hi
    refine sw_seq ?_
    refine sw_seq ?_
    refine sw_region hP 3 [] rfl (by kernel_rfl) (fun _ => by kernel_rfl) (by first | trivial | (simp [conj]; done) | (simp [conj] at *; (try dsimp only [Ty.den, Ty.dflt] at *); omega)) ?_
    refine sw_cond rfl (fun c2 => ?_) (fun c2 => ?_)
    · skip
      have hcl := mkG_clen (f := mkT) (s := 1) (k := k) hi
      have hlt : i < l.length := by have h : ((i : Nat) : Int) < ((mkG mkT 1 k (l.take i) ++ l.drop i).length : Nat) := of_decide_eq_true c2; omega
      have hnx := mkG_next (f := mkT) (s := 1) (k := k) hlt
      have hget := mkG_get (f := mkT) (s := 1) (k := k) hlt
      rw [Int.one_mul] at hnx
      refine sw_skip ?_
      refine sw_seq ?_
      refine sw_block ?_
      refine sw_seq ?_
      refine sw_region hP 4 [] rfl (by kernel_rfl) (fun _ => by kernel_rfl) ?_ ?_
      · skip
        simp only [conj, List.nil_append, List.cons_append, List.append_nil, List.append_assoc, inR_i64, true_and, and_true, Int.toNat_natCast]
        try dsimp only [Ty.den, Ty.dflt]
        repeat' apply And.intro
        all_goals first | trivial | assumption | (show k + (i : Int) ≤ 1099511627776; omega) | omega
      refine sw_region hP 5 [] rfl (by kernel_rfl) (fun _ => by kernel_rfl) ?_ ?_
      · skip
        simp only [conj, List.nil_append, List.cons_append, List.append_nil, List.append_assoc, inR_i64, true_and, and_true, Int.toNat_natCast]
        try dsimp only [Ty.den, Ty.dflt]
        repeat' apply And.intro
        all_goals first | rfl | omega | assumption | trivial
      refine sw_region hP 6 [] rfl (by kernel_rfl) (fun _ => by kernel_rfl) ?_ ?_
      · skip
        simp only [conj, List.nil_append, List.cons_append, List.append_nil, List.append_assoc, inR_i64, true_and, and_true, Int.toNat_natCast]
        try dsimp only [Ty.den, Ty.dflt]
        repeat' apply And.intro
        all_goals first | rfl | omega | assumption | trivial
      refine ⟨i + 1, ?_, ?_, ent_ok rfl ?_⟩
      · skip
        exact hlt
      · skip
        omega
      · skip
        simp only [conj, List.nil_append, List.cons_append, List.append_nil, List.append_assoc, inR_i64, true_and, and_true, Int.toNat_natCast]
        try dsimp only [Ty.den, Ty.dflt]
        repeat' apply And.intro
        all_goals first | trivial | rfl | exact hnx | (push_cast; omega)
    · skip
      have hcl := mkG_clen (f := mkT) (s := 1) (k := k) hi
      obtain rfl : i = l.length := by have h : ¬ ((i : Nat) : Int) < ((mkG mkT 1 k (l.take i) ++ l.drop i).length : Nat) := of_decide_eq_false c2; omega
      refine sw_exit ?_
      refine sw_seq ?_
      refine sw_region hP 4 [] rfl (by kernel_rfl) (fun _ => by kernel_rfl) (by first | trivial | (simp [conj]; done) | (simp [conj] at *; (try dsimp only [Ty.den, Ty.dflt] at *); omega)) ?_
      refine sw_ret ⟨.inl rfl, _, rfl, ?_⟩
      simp [conj]

def cMkB : Ctr := ⟨51, [.mu false .bool (.all .w), .val false TI pF], fun x => 0 ≤ x.2.1 ∧ x.2.1 + (List.length x.1 : Int) ≤ 1000000000, fun x => (sInt .i64 (x.2.1 + (List.length x.1 : Int)), [(⟨0, 0, 0⟩, .sl .bool (.all .w) (mkG mkB 1 x.2.1 x.1))])⟩
theorem cMkB_ok : CtrOk Proofs.Try.prog cMkB := by
  have hP := (Prg.none ttok mtok)
  refine ctr_of_body hP cMkB (fn := Proofs.Try.f51) (rts := [.tmp 4]) Proofs.Try.func51 rfl (by kernel_rfl) rfl rfl ?_
  rintro ⟨(l : List Bool), (k : Int), ⟨⟩⟩ _ ⟨h0, h1⟩
  try dsimp only [Ty.den, Mode.den, mdens] at h0
  try dsimp only [Ty.den, Mode.den, mdens] at h1
  refine ⟨rfl, ?_⟩
  replace h0 : 0 ≤ k := h0
  replace h1 : k + (l.length : Int) ≤ 1000000000 := h1
  refine sw_seq ?_
  refine sw_region hP 1 [] rfl (by kernel_rfl) (fun _ => by kernel_rfl) (by first | trivial | (simp [conj]; done) | (simp [conj] at *; (try dsimp only [Ty.den, Ty.dflt] at *); omega)) ?_
  refine sw_seq ?_
  refine sw_seq ?_
  refine sw_region hP 2 [] rfl (by kernel_rfl) (fun _ => by kernel_rfl) (by first | trivial | (simp [conj]; done) | (simp [conj] at *; (try dsimp only [Ty.den, Ty.dflt] at *); omega)) ?_
  refine sw_block ?_
  refine sw_loop (ι := Nat) (fun i => ⟨[.v false [.own ⟨0, 0, 0⟩], sInt .i64 (k + (i : Int)), .junk, .junk, .junk, sInt .i64 (i : Int), .junk, .junk, .junk, .junk, .junk, .junk, .junk, .junk, .junk, .junk, .junk, .junk, .junk, .junk, .junk], [(⟨0, 0, 0⟩, .sl .bool (.all .w) (mkG mkB 1 k (l.take i) ++ l.drop i))], 2, [[.v false [.own ⟨0, 0, 0⟩], .junk]]⟩) (fun i => l.length - i) (fun i => i ≤ l.length) 0 ⟨?_, ?_⟩ ?_
  · skip
    exact Nat.zero_le _
  · refine ent_ok rfl ?_
    simp [conj, mkG]
  · rintro i hi
    refine sw_seq ?_
    refine sw_seq ?_
    refine sw_region hP 3 [] rfl (by kernel_rfl) (fun _ => by kernel_rfl) (by first | trivial | (simp [conj]; done) | (simp [conj] at *; (try dsimp only [Ty.den, Ty.dflt] at *); omega)) ?_
    refine sw_cond rfl (fun c2 => ?_) (fun c2 => ?_)
    · skip
      have hcl := mkG_clen (f := mkB) (s := 1) (k := k) hi
      have hlt : i < l.length := by have h : ((i : Nat) : Int) < ((mkG mkB 1 k (l.take i) ++ l.drop i).length : Nat) := of_decide_eq_true c2; omega
      have hnx := mkG_next (f := mkB) (s := 1) (k := k) hlt
      have hget := mkG_get (f := mkB) (s := 1) (k := k) hlt
      rw [Int.one_mul] at hnx
      refine sw_skip ?_
      refine sw_seq ?_
      refine sw_block ?_
      refine sw_seq ?_
      refine sw_region hP 4 [] rfl (by kernel_rfl) (fun _ => by kernel_rfl) ?_ ?_
      · skip
        simp only [conj, List.nil_append, List.cons_append, List.append_nil, List.append_assoc, inR_i64, true_and, and_true, Int.toNat_natCast]
        try dsimp only [Ty.den, Ty.dflt]
        repeat' apply And.intro
        all_goals first | trivial | assumption | (show k + (i : Int) ≤ 1099511627776; omega) | omega
      refine sw_region hP 5 [] rfl (by kernel_rfl) (fun _ => by kernel_rfl) ?_ ?_
      · skip
        simp only [conj, List.nil_append, List.cons_append, List.append_nil, List.append_assoc, inR_i64, true_and, and_true, Int.toNat_natCast]
        try dsimp only [Ty.den, Ty.dflt]
        repeat' apply And.intro
        all_goals first | rfl | omega | assumption | trivial
      refine sw_region hP 6 [] rfl (by kernel_rfl) (fun _ => by kernel_rfl) ?_ ?_
      · skip
        simp only [conj, List.nil_append, List.cons_append, List.append_nil, List.append_assoc, inR_i64, true_and, and_true, Int.toNat_natCast]
        try dsimp only [Ty.den, Ty.dflt]
        repeat' apply And.intro
        all_goals first | rfl | omega | assumption | trivial
      refine ⟨i + 1, ?_, ?_, ent_ok rfl ?_⟩
      · skip
        exact hlt
      · skip
        omega
      · skip
        simp only [conj, List.nil_append, List.cons_append, List.append_nil, List.append_assoc, inR_i64, true_and, and_true, Int.toNat_natCast]
        try dsimp only [Ty.den, Ty.dflt]
        repeat' apply And.intro
        all_goals first | trivial | rfl | exact hnx | (push_cast; omega)
    · skip
      have hcl := mkG_clen (f := mkB) (s := 1) (k := k) hi
      obtain rfl : i = l.length := by have h : ¬ ((i : Nat) : Int) < ((mkG mkB 1 k (l.take i) ++ l.drop i).length : Nat) := of_decide_eq_false c2; omega
      refine sw_exit ?_
      refine sw_seq ?_
      refine sw_region hP 4 [] rfl (by kernel_rfl) (fun _ => by kernel_rfl) (by first | trivial | (simp [conj]; done) | (simp [conj] at *; (try dsimp only [Ty.den, Ty.dflt] at *); omega)) ?_
      refine sw_ret ⟨.inl rfl, _, rfl, ?_⟩
      simp [conj]

def cMkP : Ctr := ⟨52, [.mu false T_Put (.all .w), .val false TI pF], fun x => 0 ≤ x.2.1 ∧ x.2.1 + 3 * (List.length x.1 : Int) ≤ 1000000000, fun x => (sInt .i64 (x.2.1 + 3 * (List.length x.1 : Int)), [(⟨0, 0, 0⟩, .sl T_Put (.all .w) (mkG mkP 3 x.2.1 x.1))])⟩
theorem cMkP_ok : CtrOk Proofs.Try.prog cMkP := by
  have hP := ((Prg.none ttok mtok).and cMkT_ok)
  refine ctr_of_body hP cMkP (fn := Proofs.Try.f52) (rts := [.tmp 4]) Proofs.Try.func52 rfl (by kernel_rfl) rfl rfl ?_
  rintro ⟨(l : List Put), (k : Int), ⟨⟩⟩ _ ⟨h0, h1⟩
  try dsimp only [Ty.den, Mode.den, mdens] at h0
  try dsimp only [Ty.den, Mode.den, mdens] at h1
  refine ⟨rfl, ?_⟩
  replace h0 : 0 ≤ k := h0
  replace h1 : k + 3 * (l.length : Int) ≤ 1000000000 := h1
  refine sw_seq ?_
  refine sw_region hP 1 [] rfl (by kernel_rfl) (fun _ => by kernel_rfl) (by first | trivial | (simp [conj]; done) | (simp [conj] at *; (try dsimp only [Ty.den, Ty.dflt] at *); omega)) ?_
  refine sw_seq ?_
  refine sw_seq ?_
  refine sw_region hP 2 [] rfl (by kernel_rfl) (fun _ => by kernel_rfl) (by first | trivial | (simp [conj]; done) | (simp [conj] at *; (try dsimp only [Ty.den, Ty.dflt] at *); omega)) ?_
  refine sw_block ?_
  refine sw_loop (ι := Nat) (fun i => ⟨[.v false [.own ⟨0, 0, 0⟩], sInt .i64 (k + 3 * (i : Int)), .junk, .junk, .junk, sInt .i64 (i : Int), .junk, .junk, .junk, .junk, .junk, .junk, .junk, .junk, .junk, .junk, .junk, .junk, .junk, .junk, .junk, .junk, .junk, .junk, .junk, .junk, .junk, .junk, .junk, .junk, .junk, .junk, .junk, .junk, .junk, .junk, .junk], [(⟨0, 0, 0⟩, .sl T_Put (.all .w) (mkG mkP 3 k (l.take i) ++ l.drop i))], 2, [[.v false [.own ⟨0, 0, 0⟩], .junk]]⟩) (fun i => l.length - i) (fun i => i ≤ l.length) 0 ⟨?_, ?_⟩ ?_
  · skip
    exact Nat.zero_le _
  · refine ent_ok rfl ?_
    simp [conj, mkG]
  · rintro i hi
    refine sw_seq ?_
    refine sw_seq ?_
    refine sw_region hP 3 [] rfl (by kernel_rfl) (fun _ => by kernel_rfl) (by first | trivial | (simp [conj]; done) | (simp [conj] at *; (try dsimp only [Ty.den, Ty.dflt] at *); omega)) ?_
    refine sw_cond rfl (fun c2 => ?_) (fun c2 => ?_)
    · skip
      have hcl := mkG_clen (f := mkP) (s := 3) (k := k) hi
      have hlt : i < l.length := by have h : ((i : Nat) : Int) < ((mkG mkP 3 k (l.take i) ++ l.drop i).length : Nat) := of_decide_eq_true c2; omega
      have hnx := mkG_next (f := mkP) (s := 3) (k := k) hlt
      have hget := mkG_get (f := mkP) (s := 3) (k := k) hlt
      have hgd : (mkG mkP 3 k (l.take i) ++ l.drop i)[i]?.getD ((false, 0, []) : Put) = l[i] := by rw [hget]; rfl
      have hgi : ∀ h, (mkG mkP 3 k (l.take i) ++ l.drop i)[i]'h = l[i] := fun h => by have h2 := hget; rw [List.getElem?_eq_getElem h] at h2; exact Option.some.inj h2
      refine sw_skip ?_
      refine sw_seq ?_
      refine sw_block ?_
      refine sw_seq ?_
      refine sw_region hP 4 [] rfl (by kernel_rfl) (fun _ => by kernel_rfl) ?_ ?_
      · skip
        simp [conj, hget, hgd, hgi, hcl, List.getElem?_set, hlt]
        repeat' apply And.intro
        all_goals first | trivial | assumption | omega | (show k + 3 * (i : Int) + 1 + 1 ≤ 1099511627776; omega)
      refine sw_seq ?_
      refine sw_region hP 5 [] rfl (by kernel_rfl) (fun _ => by kernel_rfl) ?_ ?_
      · skip
        simp only [conj, List.nil_append, List.cons_append, List.append_nil, List.append_assoc, inR_i64, true_and, and_true, Int.toNat_natCast]
        try dsimp only [Ty.den, Ty.dflt]
        repeat' apply And.intro
        all_goals first | rfl | omega | assumption | trivial
      refine sw_seq ?_
      refine sw_region hP 6 [] rfl (by kernel_rfl) (fun _ => by kernel_rfl) ?_ ?_
      · skip
        simp [conj, hget, hgd, hgi, hcl, List.getElem?_set, hlt]
        repeat' apply And.intro
        all_goals first | trivial | assumption | omega | (show k + 3 * (i : Int) + 1 + 1 ≤ 1099511627776; omega)
      refine sw_seq ?_
      refine sw_region hP 7 [] rfl (by kernel_rfl) (fun _ => by kernel_rfl) ?_ ?_
      · skip
        simp only [conj, List.nil_append, List.cons_append, List.append_nil, List.append_assoc, inR_i64, true_and, and_true, Int.toNat_natCast]
        try dsimp only [Ty.den, Ty.dflt]
        repeat' apply And.intro
        all_goals first | rfl | omega | assumption | trivial
      refine sw_seq ?_
      refine sw_region hP 8 [] rfl (by kernel_rfl) (fun _ => by kernel_rfl) ?_ ?_
      · skip
        simp [conj, hget, hgd, hgi, hcl, List.getElem?_set, hlt]
        repeat' apply And.intro
        all_goals first | trivial | assumption | omega | (show k + 3 * (i : Int) + 1 + 1 ≤ 1099511627776; omega)
      refine sw_region hP 9 [] rfl (by kernel_rfl) (fun _ => by kernel_rfl) ?_ ?_
      · skip
        simp only [conj, List.nil_append, List.cons_append, List.append_nil, List.append_assoc, inR_i64, true_and, and_true, Int.toNat_natCast]
        try dsimp only [Ty.den, Ty.dflt]
        repeat' apply And.intro
        all_goals first | rfl | omega | assumption | trivial
      refine sw_region hP 10 [] rfl (by kernel_rfl) (fun _ => by kernel_rfl) ?_ ?_
      · skip
        simp only [conj, List.nil_append, List.cons_append, List.append_nil, List.append_assoc, inR_i64, true_and, and_true, Int.toNat_natCast]
        try dsimp only [Ty.den, Ty.dflt]
        repeat' apply And.intro
        all_goals first | rfl | omega | assumption | trivial
      refine ⟨i + 1, ?_, ?_, ent_ok rfl ?_⟩
      · skip
        exact hlt
      · skip
        omega
      · skip
        simp [conj, hget, hgd, hgi, hcl, List.getElem?_set, hlt]
        repeat' apply And.intro
        all_goals first | rfl | exact hnx | (have e : ((decide ((k + 3 * (i : Int)).tmod 3 = 0), k + 3 * (i : Int) + 1, mkT (k + 3 * (i : Int) + 1 + 1)) : Put) = mkP (k + 3 * (i : Int)) := (by unfold mkP mkB; rw [show k + 3 * (i : Int) + 1 + 1 = k + 3 * (i : Int) + 2 by omega]); rw [← hnx, ← e]) | (show k + 3 * (i : Int) + 1 + 1 + 1 = k + 3 * ((i : Int) + 1); omega) | (push_cast; omega) | omega
    · skip
      have hcl := mkG_clen (f := mkP) (s := 3) (k := k) hi
      obtain rfl : i = l.length := by have h : ¬ ((i : Nat) : Int) < ((mkG mkP 3 k (l.take i) ++ l.drop i).length : Nat) := of_decide_eq_false c2; omega
      refine sw_exit ?_
      refine sw_seq ?_
      refine sw_region hP 4 [] rfl (by kernel_rfl) (fun _ => by kernel_rfl) (by first | trivial | (simp [conj]; done) | (simp [conj] at *; (try dsimp only [Ty.den, Ty.dflt] at *); omega)) ?_
      refine sw_ret ⟨.inl rfl, _, rfl, ?_⟩
      simp [conj]

def cHdL : Ctr := ⟨53, [.val false (.sl .str) (.all .b), .val false TI pF], fun x => 0 ≤ x.2.1 ∧ x.2.1 + (List.length x.1 : Int) ≤ 1000000000, fun x => (sInt .i64 (hdG mkT 1 x.2.1 x.1), [])⟩
theorem cHdL_ok : CtrOk Proofs.Try.prog cHdL := by
  have hP := ((Prg.none ttok mtok).and cMkT_ok)
  refine ctr_of_body hP cHdL (fn := Proofs.Try.f53) (rts := [.tmp 4]) Proofs.Try.func53 rfl (by kernel_rfl) rfl rfl ?_
  rintro ⟨(l : List Str), (k : Int), ⟨⟩⟩ _ ⟨h0, h1⟩
  try dsimp only [Ty.den, Mode.den, mdens] at h0
  try dsimp only [Ty.den, Mode.den, mdens] at h1
  refine ⟨rfl, ?_⟩
  replace h0 : 0 ≤ k := h0
  replace h1 : k + (l.length : Int) ≤ 1000000000 := h1
  refine sw_seq ?_
  refine sw_region hP 1 [] rfl (by kernel_rfl) (fun _ => by kernel_rfl) (by first | trivial | (simp [conj]; done) | (simp [conj] at *; (try dsimp only [Ty.den, Ty.dflt] at *); omega)) ?_
  refine sw_seq ?_
  refine sw_seq ?_
  refine sw_region hP 2 [] rfl (by kernel_rfl) (fun _ => by kernel_rfl) (by first | trivial | (simp [conj]; done) | (simp [conj] at *; (try dsimp only [Ty.den, Ty.dflt] at *); omega)) ?_
  refine sw_block ?_
  refine sw_loop (ι := Nat) (fun i => ⟨[.v false [.d (.sl .str) (.all .b) l], sInt .i64 (k + (i : Int)), .junk, .junk, .junk, sInt .i64 (i : Int), .junk, .junk, .junk, .junk, .junk, .junk, .junk, .junk, .junk, .junk, .junk, .junk, .junk, .junk, .junk, .junk], [], 2, []⟩) (fun i => l.length - i) (fun i => i ≤ l.length ∧ hdG mkT 1 (k + 1 * (i : Int)) (l.drop i) = hdG mkT 1 k l) 0 ⟨?_, ?_⟩ ?_
  · skip
    exact ⟨Nat.zero_le _, by simp⟩
  · refine ent_ok rfl ?_
    simp [conj]
  · rintro i ⟨hi, hgo⟩
    refine sw_seq ?_
    refine sw_seq ?_
    refine sw_region hP 3 [] rfl (by kernel_rfl) (fun _ => by kernel_rfl) (by first | trivial | (simp [conj]; done) | (simp [conj] at *; (try dsimp only [Ty.den, Ty.dflt] at *); omega)) ?_
    refine sw_cond rfl (fun c2 => ?_) (fun c2 => ?_)
    · skip
      have hlt : i < l.length := by simpa using c2
      refine sw_skip ?_
      refine sw_seq ?_
      refine sw_block ?_
      refine sw_seq ?_
      refine sw_seq ?_
      refine sw_region hP 4 [] rfl (by kernel_rfl) (fun _ => by kernel_rfl) ?_ ?_
      · skip
        simp only [conj, List.nil_append, List.cons_append, List.append_nil, List.append_assoc, inR_i64, true_and, and_true, Int.toNat_natCast]
        try dsimp only [Ty.den, Ty.dflt]
        repeat' apply And.intro
        all_goals first | omega | assumption | (show k + (i : Int) ≤ 1099511627776; omega) | trivial
      refine sw_cond rfl (fun c4 => ?_) (fun c4 => ?_)
      · skip
        replace c4 : ¬ l[i] = mkT (k + 1 * (i : Int)) := by rw [Int.one_mul]; simpa [List.getElem?_eq_getElem hlt, mkB] using c4
        refine sw_seq ?_
        refine sw_region hP 5 [] rfl (by kernel_rfl) (fun _ => by kernel_rfl) (by first | trivial | (simp [conj]; done) | (simp [conj] at *; (try dsimp only [Ty.den, Ty.dflt] at *); omega)) ?_
        refine sw_ret ⟨.inl rfl, _, rfl, ?_⟩
        simp [conj]
        exact (hdG_hit hlt hgo c4).symm
      · skip
        replace c4 : l[i] = mkT (k + 1 * (i : Int)) := by rw [Int.one_mul]; simpa [List.getElem?_eq_getElem hlt, mkB] using c4
        refine sw_skip ?_
        refine sw_region hP 5 [] rfl (by kernel_rfl) (fun _ => by kernel_rfl) ?_ ?_
        · skip
          simp only [conj, List.nil_append, List.cons_append, List.append_nil, List.append_assoc, inR_i64, true_and, and_true, Int.toNat_natCast]
          try dsimp only [Ty.den, Ty.dflt]
          repeat' apply And.intro
          all_goals first | rfl | omega | assumption | trivial
        refine sw_region hP 6 [] rfl (by kernel_rfl) (fun _ => by kernel_rfl) ?_ ?_
        · skip
          simp only [conj, List.nil_append, List.cons_append, List.append_nil, List.append_assoc, inR_i64, true_and, and_true, Int.toNat_natCast]
          try dsimp only [Ty.den, Ty.dflt]
          repeat' apply And.intro
          all_goals first | rfl | omega | assumption | trivial
        refine ⟨i + 1, ?_, ?_, ent_ok rfl ?_⟩
        · skip
          exact ⟨hlt, hdG_next hlt hgo c4⟩
        · skip
          omega
        · skip
          simp only [conj, List.nil_append, List.cons_append, List.append_nil, List.append_assoc, inR_i64, true_and, and_true, Int.toNat_natCast]
          try dsimp only [Ty.den, Ty.dflt]
          repeat' apply And.intro
          all_goals first | rfl | (push_cast; omega)
    · skip
      obtain rfl : i = l.length := by simp at c2; omega
      refine sw_exit ?_
      refine sw_seq ?_
      refine sw_region hP 4 [] rfl (by kernel_rfl) (fun _ => by kernel_rfl) (by first | trivial | (simp [conj]; done) | (simp [conj] at *; (try dsimp only [Ty.den, Ty.dflt] at *); omega)) ?_
      refine sw_ret ⟨.inl rfl, _, rfl, ?_⟩
      simp [conj]
      have hv := hdG_end hgo
      rw [hv, Int.one_mul]

def cHdB : Ctr := ⟨54, [.val false (.sl .bool) (.all .b), .val false TI pF], fun x => 0 ≤ x.2.1 ∧ x.2.1 + (List.length x.1 : Int) ≤ 1000000000, fun x => (sInt .i64 (hdG mkB 1 x.2.1 x.1), [])⟩
theorem cHdB_ok : CtrOk Proofs.Try.prog cHdB := by
  have hP := (Prg.none ttok mtok)
  refine ctr_of_body hP cHdB (fn := Proofs.Try.f54) (rts := [.tmp 4]) Proofs.Try.func54 rfl (by kernel_rfl) rfl rfl ?_
  rintro ⟨(l : List Bool), (k : Int), ⟨⟩⟩ _ ⟨h0, h1⟩
  try dsimp only [Ty.den, Mode.den, mdens] at h0
  try dsimp only [Ty.den, Mode.den, mdens] at h1
  refine ⟨rfl, ?_⟩
  replace h0 : 0 ≤ k := h0
  replace h1 : k + (l.length : Int) ≤ 1000000000 := h1
  refine sw_seq ?_
  refine sw_region hP 1 [] rfl (by kernel_rfl) (fun _ => by kernel_rfl) (by first | trivial | (simp [conj]; done) | (simp [conj] at *; (try dsimp only [Ty.den, Ty.dflt] at *); omega)) ?_
  refine sw_seq ?_
  refine sw_seq ?_
  refine sw_region hP 2 [] rfl (by kernel_rfl) (fun _ => by kernel_rfl) (by first | trivial | (simp [conj]; done) | (simp [conj] at *; (try dsimp only [Ty.den, Ty.dflt] at *); omega)) ?_
  refine sw_block ?_
  refine sw_loop (ι := Nat) (fun i => ⟨[.v false [.d (.sl .bool) (.all .b) l], sInt .i64 (k + (i : Int)), .junk, .junk, .junk, sInt .i64 (i : Int), .junk, .junk, .junk, .junk, .junk, .junk, .junk, .junk, .junk, .junk, .junk, .junk, .junk, .junk, .junk, .junk, .junk], [], 2, []⟩) (fun i => l.length - i) (fun i => i ≤ l.length ∧ hdG mkB 1 (k + 1 * (i : Int)) (l.drop i) = hdG mkB 1 k l) 0 ⟨?_, ?_⟩ ?_
  · skip
    exact ⟨Nat.zero_le _, by simp⟩
  · refine ent_ok rfl ?_
    simp [conj]
  · rintro i ⟨hi, hgo⟩
    refine sw_seq ?_
    refine sw_seq ?_
    refine sw_region hP 3 [] rfl (by kernel_rfl) (fun _ => by kernel_rfl) (by first | trivial | (simp [conj]; done) | (simp [conj] at *; (try dsimp only [Ty.den, Ty.dflt] at *); omega)) ?_
    refine sw_cond rfl (fun c2 => ?_) (fun c2 => ?_)
    · skip
      have hlt : i < l.length := by simpa using c2
      refine sw_skip ?_
      refine sw_seq ?_
      refine sw_block ?_
      refine sw_seq ?_
      refine sw_seq ?_
      refine sw_region hP 4 [] rfl (by kernel_rfl) (fun _ => by kernel_rfl) ?_ ?_
      · skip
        simp only [conj, List.nil_append, List.cons_append, List.append_nil, List.append_assoc, inR_i64, true_and, and_true, Int.toNat_natCast]
        try dsimp only [Ty.den, Ty.dflt]
        repeat' apply And.intro
        all_goals first | omega | assumption | (show k + (i : Int) ≤ 1099511627776; omega) | trivial
      refine sw_cond rfl (fun c4 => ?_) (fun c4 => ?_)
      · skip
        replace c4 : ¬ l[i] = mkB (k + 1 * (i : Int)) := by rw [Int.one_mul]; simpa [List.getElem?_eq_getElem hlt, mkB] using c4
        refine sw_seq ?_
        refine sw_region hP 5 [] rfl (by kernel_rfl) (fun _ => by kernel_rfl) (by first | trivial | (simp [conj]; done) | (simp [conj] at *; (try dsimp only [Ty.den, Ty.dflt] at *); omega)) ?_
        refine sw_ret ⟨.inl rfl, _, rfl, ?_⟩
        simp [conj]
        exact (hdG_hit hlt hgo c4).symm
      · skip
        replace c4 : l[i] = mkB (k + 1 * (i : Int)) := by rw [Int.one_mul]; simpa [List.getElem?_eq_getElem hlt, mkB] using c4
        refine sw_skip ?_
        refine sw_region hP 5 [] rfl (by kernel_rfl) (fun _ => by kernel_rfl) ?_ ?_
        · skip
          simp only [conj, List.nil_append, List.cons_append, List.append_nil, List.append_assoc, inR_i64, true_and, and_true, Int.toNat_natCast]
          try dsimp only [Ty.den, Ty.dflt]
          repeat' apply And.intro
          all_goals first | rfl | omega | assumption | trivial
        refine sw_region hP 6 [] rfl (by kernel_rfl) (fun _ => by kernel_rfl) ?_ ?_
        · skip
          simp only [conj, List.nil_append, List.cons_append, List.append_nil, List.append_assoc, inR_i64, true_and, and_true, Int.toNat_natCast]
          try dsimp only [Ty.den, Ty.dflt]
          repeat' apply And.intro
          all_goals first | rfl | omega | assumption | trivial
        refine ⟨i + 1, ?_, ?_, ent_ok rfl ?_⟩
        · skip
          exact ⟨hlt, hdG_next hlt hgo c4⟩
        · skip
          omega
        · skip
          simp only [conj, List.nil_append, List.cons_append, List.append_nil, List.append_assoc, inR_i64, true_and, and_true, Int.toNat_natCast]
          try dsimp only [Ty.den, Ty.dflt]
          repeat' apply And.intro
          all_goals first | rfl | (push_cast; omega)
    · skip
      obtain rfl : i = l.length := by simp at c2; omega
      refine sw_exit ?_
      refine sw_seq ?_
      refine sw_region hP 4 [] rfl (by kernel_rfl) (fun _ => by kernel_rfl) (by first | trivial | (simp [conj]; done) | (simp [conj] at *; (try dsimp only [Ty.den, Ty.dflt] at *); omega)) ?_
      refine sw_ret ⟨.inl rfl, _, rfl, ?_⟩
      simp [conj]
      have hv := hdG_end hgo
      rw [hv, Int.one_mul]

def cHdP : Ctr := ⟨55, [.val false (.sl T_Put) (.all .b), .val false TI pF], fun x => 0 ≤ x.2.1 ∧ x.2.1 + 3 * (List.length x.1 : Int) ≤ 1000000000, fun x => (sInt .i64 (hdG mkP 3 x.2.1 x.1), [])⟩
theorem cHdP_ok : CtrOk Proofs.Try.prog cHdP := by
  have hP := ((Prg.none ttok mtok).and cMkT_ok)
  refine ctr_of_body hP cHdP (fn := Proofs.Try.f55) (rts := [.tmp 4]) Proofs.Try.func55 rfl (by kernel_rfl) rfl rfl ?_
  rintro ⟨(l : List Put), (k : Int), ⟨⟩⟩ _ ⟨h0, h1⟩
  try dsimp only [Ty.den, Mode.den, mdens] at h0
  try dsimp only [Ty.den, Mode.den, mdens] at h1
  refine ⟨rfl, ?_⟩
  replace h0 : 0 ≤ k := h0
  replace h1 : k + 3 * (l.length : Int) ≤ 1000000000 := h1
  refine sw_seq ?_
  refine sw_region hP 1 [] rfl (by kernel_rfl) (fun _ => by kernel_rfl) (by first | trivial | (simp [conj]; done) | (simp [conj] at *; (try dsimp only [Ty.den, Ty.dflt] at *); omega)) ?_
  refine sw_seq ?_
  refine sw_seq ?_
  refine sw_region hP 2 [] rfl (by kernel_rfl) (fun _ => by kernel_rfl) (by first | trivial | (simp [conj]; done) | (simp [conj] at *; (try dsimp only [Ty.den, Ty.dflt] at *); omega)) ?_
  refine sw_block ?_
  refine sw_loop (ι := Nat) (fun i => ⟨[.v false [.d (.sl T_Put) (.all .b) l], sInt .i64 (k + 3 * (i : Int)), .junk, .junk, .junk, sInt .i64 (i : Int), .junk, .junk, .junk, .junk, .junk, .junk, .junk, .junk, .junk, .junk, .junk, .junk, .junk, .junk, .junk, .junk, .junk, .junk, .junk, .junk, .junk, .junk, .junk, .junk, .junk, .junk, .junk, .junk, .junk, .junk, .junk, .junk, .junk, .junk, .junk, .junk, .junk], [], 2, []⟩) (fun i => l.length - i) (fun i => i ≤ l.length ∧ hdG mkP 3 (k + 3 * (i : Int)) (l.drop i) = hdG mkP 3 k l) 0 ⟨?_, ?_⟩ ?_
  · skip
    exact ⟨Nat.zero_le _, by simp⟩
  · refine ent_ok rfl ?_
    simp [conj]
  · rintro i ⟨hi, hgo⟩
    refine sw_seq ?_
    refine sw_seq ?_
    refine sw_region hP 3 [] rfl (by kernel_rfl) (fun _ => by kernel_rfl) (by first | trivial | (simp [conj]; done) | (simp [conj] at *; (try dsimp only [Ty.den, Ty.dflt] at *); omega)) ?_
    refine sw_cond rfl (fun c2 => ?_) (fun c2 => ?_)
    · skip
      have hlt : i < l.length := by simpa using c2
      refine sw_skip ?_
      refine sw_seq ?_
      refine sw_block ?_
      refine sw_seq ?_
      refine sw_seq ?_
      refine sw_region hP 4 [] rfl (by kernel_rfl) (fun _ => by kernel_rfl) ?_ ?_
      · skip
        simp [conj, List.getElem?_eq_getElem hlt]
        repeat' apply And.intro
        all_goals first | trivial | assumption | omega | (show k + 3 * (i : Int) + 1 + 1 ≤ 1099511627776; omega)
      refine sw_cond rfl (fun c4 => ?_) (fun c4 => ?_)
      · skip
        replace c4 : ¬ l[i].1 = mkB (k + 3 * (i : Int)) := by simpa [List.getElem?_eq_getElem hlt, mkB] using c4
        have hne : ¬ l[i] = mkP (k + 3 * (i : Int)) := fun e => c4 (by rw [e]; rfl)
        refine sw_seq ?_
        refine sw_region hP 5 [] rfl (by kernel_rfl) (fun _ => by kernel_rfl) (by first | trivial | (simp [conj]; done) | (simp [conj] at *; (try dsimp only [Ty.den, Ty.dflt] at *); omega)) ?_
        refine sw_ret ⟨.inl rfl, _, rfl, ?_⟩
        simp [conj]
        exact (hdG_hit hlt hgo hne).symm
      · skip
        replace c4 : l[i].1 = mkB (k + 3 * (i : Int)) := by simpa [List.getElem?_eq_getElem hlt, mkB] using c4
        refine sw_skip ?_
        refine sw_seq ?_
        refine sw_region hP 5 [] rfl (by kernel_rfl) (fun _ => by kernel_rfl) ?_ ?_
        · skip
          simp only [conj, List.nil_append, List.cons_append, List.append_nil, List.append_assoc, inR_i64, true_and, and_true, Int.toNat_natCast]
          try dsimp only [Ty.den, Ty.dflt]
          repeat' apply And.intro
          all_goals first | rfl | omega | assumption | trivial
        refine sw_seq ?_
        refine sw_seq ?_
        refine sw_region hP 6 [] rfl (by kernel_rfl) (fun _ => by kernel_rfl) ?_ ?_
        · skip
          simp [conj, List.getElem?_eq_getElem hlt]
          repeat' apply And.intro
          all_goals first | trivial | assumption | omega | (show k + 3 * (i : Int) + 1 + 1 ≤ 1099511627776; omega)
        refine sw_cond rfl (fun c7 => ?_) (fun c7 => ?_)
        · skip
          replace c7 : ¬ l[i].2.1 = (k + 3 * (i : Int)) + 1 := by simpa [List.getElem?_eq_getElem hlt] using c7
          have hne : ¬ l[i] = mkP (k + 3 * (i : Int)) := fun e => c7 (by rw [e]; rfl)
          refine sw_seq ?_
          refine sw_region hP 7 [] rfl (by kernel_rfl) (fun _ => by kernel_rfl) (by first | trivial | (simp [conj]; done) | (simp [conj] at *; (try dsimp only [Ty.den, Ty.dflt] at *); omega)) ?_
          refine sw_ret ⟨.inl rfl, _, rfl, ?_⟩
          simp [conj]
          exact (hdG_hit hlt hgo hne).symm
        · skip
          replace c7 : l[i].2.1 = (k + 3 * (i : Int)) + 1 := by simpa [List.getElem?_eq_getElem hlt] using c7
          refine sw_skip ?_
          refine sw_seq ?_
          refine sw_region hP 7 [] rfl (by kernel_rfl) (fun _ => by kernel_rfl) ?_ ?_
          · skip
            simp only [conj, List.nil_append, List.cons_append, List.append_nil, List.append_assoc, inR_i64, true_and, and_true, Int.toNat_natCast]
            try dsimp only [Ty.den, Ty.dflt]
            repeat' apply And.intro
            all_goals first | rfl | omega | assumption | trivial
          refine sw_seq ?_
          refine sw_seq ?_
          refine sw_region hP 8 [] rfl (by kernel_rfl) (fun _ => by kernel_rfl) ?_ ?_
          · skip
            simp [conj, List.getElem?_eq_getElem hlt]
            repeat' apply And.intro
            all_goals first | trivial | assumption | omega | (show k + 3 * (i : Int) + 1 + 1 ≤ 1099511627776; omega)
          refine sw_cond rfl (fun c10 => ?_) (fun c10 => ?_)
          · skip
            replace c10 : ¬ l[i].2.2 = mkT ((k + 3 * (i : Int)) + 2) := by have h := c10; simp [List.getElem?_eq_getElem hlt] at h; rw [show (k + 3 * (i : Int)) + 2 = (k + 3 * (i : Int)) + 1 + 1 by omega]; exact h
            have hne : ¬ l[i] = mkP (k + 3 * (i : Int)) := fun e => c10 (by rw [e]; rfl)
            refine sw_seq ?_
            refine sw_region hP 9 [] rfl (by kernel_rfl) (fun _ => by kernel_rfl) (by first | trivial | (simp [conj]; done) | (simp [conj] at *; (try dsimp only [Ty.den, Ty.dflt] at *); omega)) ?_
            refine sw_ret ⟨.inl rfl, _, rfl, ?_⟩
            simp [conj]
            exact (hdG_hit hlt hgo hne).symm
          · skip
            replace c10 : l[i].2.2 = mkT ((k + 3 * (i : Int)) + 2) := by have h := c10; simp [List.getElem?_eq_getElem hlt] at h; rw [show (k + 3 * (i : Int)) + 2 = (k + 3 * (i : Int)) + 1 + 1 by omega]; exact h
            have he : l[i] = mkP (k + 3 * (i : Int)) := Prod.ext c4 (Prod.ext c7 c10)
            refine sw_skip ?_
            refine sw_region hP 9 [] rfl (by kernel_rfl) (fun _ => by kernel_rfl) ?_ ?_
            · skip
              simp only [conj, List.nil_append, List.cons_append, List.append_nil, List.append_assoc, inR_i64, true_and, and_true, Int.toNat_natCast]
              try dsimp only [Ty.den, Ty.dflt]
              repeat' apply And.intro
              all_goals first | rfl | omega | assumption | trivial
            refine sw_region hP 10 [] rfl (by kernel_rfl) (fun _ => by kernel_rfl) ?_ ?_
            · skip
              simp only [conj, List.nil_append, List.cons_append, List.append_nil, List.append_assoc, inR_i64, true_and, and_true, Int.toNat_natCast]
              try dsimp only [Ty.den, Ty.dflt]
              repeat' apply And.intro
              all_goals first | rfl | omega | assumption | trivial
            refine ⟨i + 1, ?_, ?_, ent_ok rfl ?_⟩
            · skip
              exact ⟨hlt, hdG_next hlt hgo he⟩
            · skip
              omega
            · skip
              simp only [conj, List.nil_append, List.cons_append, List.append_nil, List.append_assoc, inR_i64, true_and, and_true, Int.toNat_natCast]
              try dsimp only [Ty.den, Ty.dflt]
              repeat' apply And.intro
              all_goals first | rfl | (push_cast; omega)
    · skip
      obtain rfl : i = l.length := by simp at c2; omega
      refine sw_exit ?_
      refine sw_seq ?_
      refine sw_region hP 4 [] rfl (by kernel_rfl) (fun _ => by kernel_rfl) (by first | trivial | (simp [conj]; done) | (simp [conj] at *; (try dsimp only [Ty.den, Ty.dflt] at *); omega)) ?_
      refine sw_ret ⟨.inl rfl, _, rfl, ?_⟩
      simp [conj]
      have hv := hdG_end hgo
      rw [hv]

def cMkD (d : Dsk) (k : Int) (a b c e : Id) : Xctr := ⟨20, [(a, ⟨0, 0, 1⟩, .sl .str (.all .w) d.2.1), (b, ⟨0, 0, 2⟩, .sl .str (.all .w) d.2.2.1), (c, ⟨0, 0, 3⟩, .sl .bool (.all .w) d.2.2.2.1), (e, ⟨0, 0, 4⟩, .sl T_Put (.all .w) d.2.2.2.2)], [], [.v true [.d TI pF d.1, .own ⟨0, 0, 1⟩, .own ⟨0, 0, 2⟩, .own ⟨0, 0, 3⟩, .own ⟨0, 0, 4⟩], sInt .i64 k],
  (sInt .i64 (mkDN k d), [(⟨0, 0, 1⟩, .sl .str (.all .w) (mkD k d).2.1), (⟨0, 0, 2⟩, .sl .str (.all .w) (mkD k d).2.2.1), (⟨0, 0, 3⟩, .sl .bool (.all .w) (mkD k d).2.2.2.1), (⟨0, 0, 4⟩, .sl T_Put (.all .w) (mkD k d).2.2.2.2)])⟩
theorem cMkD_ok {d : Dsk} {k : Int} {a b c e : Id} (h0 : 0 ≤ k) (h1 : mkDN k d ≤ 1000000000) : XOk Proofs.Try.prog (cMkD d k a b c e) := by
  have hP := ((((Prg.none ttok mtok).and cMkL_ok).and cMkB_ok).and cMkP_ok)
  refine xctr_of_body hP (cMkD d k a b c e) (fn := Proofs.Try.f20) (rts := [.tmp 4]) Proofs.Try.func20 rfl (by kernel_rfl) rfl rfl ?_
  refine ⟨rfl, ?_⟩
  unfold mkDN at h1
  refine sw_seq ?_
  refine sw_region hP 1 [] rfl (by kernel_rfl) (fun _ => by kernel_rfl) (by first | trivial | (simp [conj]; done) | (simp [conj] at *; (try dsimp only [Ty.den, Ty.dflt] at *); omega)) ?_
  refine sw_seq ?_
  refine sw_region hP 2 [] rfl (by kernel_rfl) (fun _ => by kernel_rfl) ?_ ?_
  · skip
    simp [conj, maxL]
    try dsimp only [Ty.den, Ty.dflt]
    try simp only [rd_eta]
    exact ⟨by show 0 ≤ k; omega, by show k + (d.2.1.length : Int) ≤ 1000000000; omega⟩
  refine sw_seq ?_
  refine sw_region hP 3 [] rfl (by kernel_rfl) (fun _ => by kernel_rfl) ?_ ?_
  · skip
    simp [conj, maxL]
    try dsimp only [Ty.den, Ty.dflt]
    try simp only [rd_eta]
    exact ⟨by show 0 ≤ (k + (d.2.1.length : Int)); omega, by show (k + (d.2.1.length : Int)) + (d.2.2.1.length : Int) ≤ 1000000000; omega⟩
  refine sw_seq ?_
  refine sw_region hP 4 [] rfl (by kernel_rfl) (fun _ => by kernel_rfl) ?_ ?_
  · skip
    simp [conj, maxL]
    try dsimp only [Ty.den, Ty.dflt]
    try simp only [rd_eta]
    exact ⟨by show 0 ≤ (k + (d.2.1.length : Int) + (d.2.2.1.length : Int)); omega, by show (k + (d.2.1.length : Int) + (d.2.2.1.length : Int)) + (d.2.2.2.1.length : Int) ≤ 1000000000; omega⟩
  refine sw_seq ?_
  refine sw_region hP 5 [] rfl (by kernel_rfl) (fun _ => by kernel_rfl) ?_ ?_
  · skip
    simp [conj, maxL]
    try dsimp only [Ty.den, Ty.dflt]
    try simp only [rd_eta]
    exact ⟨by show 0 ≤ (k + (d.2.1.length : Int) + (d.2.2.1.length : Int) + (d.2.2.2.1.length : Int)); omega, by show (k + (d.2.1.length : Int) + (d.2.2.1.length : Int) + (d.2.2.2.1.length : Int)) + 3 * (d.2.2.2.2.length : Int) ≤ 1000000000; omega⟩
  refine sw_seq ?_
  refine sw_region hP 6 [] rfl (by kernel_rfl) (fun _ => by kernel_rfl) (by first | trivial | (simp [conj]; done) | (simp [conj] at *; (try dsimp only [Ty.den, Ty.dflt] at *); omega)) ?_
  refine sw_ret ⟨.inl rfl, _, rfl, ?_⟩
  simp [conj, mkDN, mkD]

def cHdD : Ctr := ⟨21, [.val true T_Disk (.all .b), .val false TI pF], fun x => 0 ≤ x.2.1 ∧ mkDN x.2.1 x.1 ≤ 1000000000, fun x => (sInt .i64 (hdD x.2.1 x.1), [])⟩
theorem cHdD_ok : CtrOk Proofs.Try.prog cHdD := by
  have hP := ((((Prg.none ttok mtok).and cHdL_ok).and cHdB_ok).and cHdP_ok)
  refine ctr_of_body hP cHdD (fn := Proofs.Try.f21) (rts := [.tmp 4]) Proofs.Try.func21 rfl (by kernel_rfl) rfl rfl ?_
  rintro ⟨⟨(st : Int), (sl : List Str), (rg : List Str), (sp : List Bool), (wt : List Put)⟩, (k : Int), ⟨⟩⟩ _ ⟨h0, h1⟩
  try dsimp only [Ty.den, Mode.den, mdens] at h0
  try dsimp only [Ty.den, Mode.den, mdens] at h1
  refine ⟨rfl, ?_⟩
  replace h0 : 0 ≤ k := h0
  unfold mkDN at h1
  dsimp only at h1
  refine sw_seq ?_
  refine sw_region hP 1 [] rfl (by kernel_rfl) (fun _ => by kernel_rfl) (by first | trivial | (simp [conj]; done) | (simp [conj] at *; (try dsimp only [Ty.den, Ty.dflt] at *); omega)) ?_
  refine sw_seq ?_
  refine sw_region hP 2 [] rfl (by kernel_rfl) (fun _ => by kernel_rfl) ?_ ?_
  · skip
    simp [conj, maxL]
    try dsimp only [Ty.den, Ty.dflt]
    try simp only [rd_eta]
    exact ⟨by show 0 ≤ k; omega, by show k + ((sl.length : Nat) : Int) ≤ 1000000000; omega⟩
  refine sw_seq ?_
  refine sw_seq ?_
  refine sw_region hP 3 [] rfl (by kernel_rfl) (fun _ => by kernel_rfl) (by first | trivial | (simp [conj]; done) | (simp [conj] at *; (try dsimp only [Ty.den, Ty.dflt] at *); omega)) ?_
  refine sw_cond rfl (fun c2 => ?_) (fun c2 => ?_)
  · skip
    replace c2 : hdG mkT 1 k sl < 0 := of_decide_eq_true c2
    refine sw_seq ?_
    refine sw_region hP 4 [] rfl (by kernel_rfl) (fun _ => by kernel_rfl) (by first | trivial | (simp [conj]; done) | (simp [conj] at *; (try dsimp only [Ty.den, Ty.dflt] at *); omega)) ?_
    refine sw_ret ⟨.inl rfl, _, rfl, ?_⟩
    simp [conj]
    unfold hdD
    dsimp only
    rw [if_pos c2]
  · skip
    replace c2 : ¬ hdG mkT 1 k sl < 0 := of_decide_eq_false c2
    have e1 : hdG mkT 1 k sl = k + 1 * (sl.length : Int) := (hdG_val (f := mkT) (s := 1) (l := sl) (k := k)).resolve_left (fun h => c2 (by rw [h]; decide))
    refine sw_skip ?_
    refine sw_seq ?_
    refine sw_region hP 4 [] rfl (by kernel_rfl) (fun _ => by kernel_rfl) ?_ ?_
    · skip
      simp [conj, maxL]
      try dsimp only [Ty.den, Ty.dflt]
      try simp only [rd_eta]
      exact ⟨by show 0 ≤ hdG mkT 1 k sl; omega, by show (hdG mkT 1 k sl) + ((rg.length : Nat) : Int) ≤ 1000000000; omega⟩
    refine sw_seq ?_
    refine sw_seq ?_
    refine sw_region hP 5 [] rfl (by kernel_rfl) (fun _ => by kernel_rfl) (by first | trivial | (simp [conj]; done) | (simp [conj] at *; (try dsimp only [Ty.den, Ty.dflt] at *); omega)) ?_
    refine sw_cond rfl (fun c5 => ?_) (fun c5 => ?_)
    · skip
      replace c5 : hdG mkT 1 (hdG mkT 1 k sl) rg < 0 := of_decide_eq_true c5
      refine sw_seq ?_
      refine sw_region hP 6 [] rfl (by kernel_rfl) (fun _ => by kernel_rfl) (by first | trivial | (simp [conj]; done) | (simp [conj] at *; (try dsimp only [Ty.den, Ty.dflt] at *); omega)) ?_
      refine sw_ret ⟨.inl rfl, _, rfl, ?_⟩
      simp [conj]
      unfold hdD
      dsimp only
      rw [if_neg c2, if_pos c5]
    · skip
      replace c5 : ¬ hdG mkT 1 (hdG mkT 1 k sl) rg < 0 := of_decide_eq_false c5
      have e2 : hdG mkT 1 (hdG mkT 1 k sl) rg = (hdG mkT 1 k sl) + 1 * (rg.length : Int) := (hdG_val (f := mkT) (s := 1) (l := rg) (k := (hdG mkT 1 k sl))).resolve_left (fun h => c5 (by rw [h]; decide))
      refine sw_skip ?_
      refine sw_seq ?_
      refine sw_region hP 6 [] rfl (by kernel_rfl) (fun _ => by kernel_rfl) ?_ ?_
      · skip
        simp [conj, maxL]
        try dsimp only [Ty.den, Ty.dflt]
        try simp only [rd_eta]
        exact ⟨by show 0 ≤ hdG mkT 1 (hdG mkT 1 k sl) rg; omega, by show (hdG mkT 1 (hdG mkT 1 k sl) rg) + ((sp.length : Nat) : Int) ≤ 1000000000; omega⟩
      refine sw_seq ?_
      refine sw_seq ?_
      refine sw_region hP 7 [] rfl (by kernel_rfl) (fun _ => by kernel_rfl) (by first | trivial | (simp [conj]; done) | (simp [conj] at *; (try dsimp only [Ty.den, Ty.dflt] at *); omega)) ?_
      refine sw_cond rfl (fun c8 => ?_) (fun c8 => ?_)
      · skip
        replace c8 : hdG mkB 1 (hdG mkT 1 (hdG mkT 1 k sl) rg) sp < 0 := of_decide_eq_true c8
        refine sw_seq ?_
        refine sw_region hP 8 [] rfl (by kernel_rfl) (fun _ => by kernel_rfl) (by first | trivial | (simp [conj]; done) | (simp [conj] at *; (try dsimp only [Ty.den, Ty.dflt] at *); omega)) ?_
        refine sw_ret ⟨.inl rfl, _, rfl, ?_⟩
        simp [conj]
        unfold hdD
        dsimp only
        rw [if_neg c2, if_neg c5, if_pos c8]
      · skip
        replace c8 : ¬ hdG mkB 1 (hdG mkT 1 (hdG mkT 1 k sl) rg) sp < 0 := of_decide_eq_false c8
        have e3 : hdG mkB 1 (hdG mkT 1 (hdG mkT 1 k sl) rg) sp = (hdG mkT 1 (hdG mkT 1 k sl) rg) + 1 * (sp.length : Int) := (hdG_val (f := mkB) (s := 1) (l := sp) (k := (hdG mkT 1 (hdG mkT 1 k sl) rg))).resolve_left (fun h => c8 (by rw [h]; decide))
        refine sw_skip ?_
        refine sw_seq ?_
        refine sw_region hP 8 [] rfl (by kernel_rfl) (fun _ => by kernel_rfl) ?_ ?_
        · skip
          simp [conj, maxL]
          try dsimp only [Ty.den, Ty.dflt]
          try simp only [rd_eta]
          exact ⟨by show 0 ≤ hdG mkB 1 (hdG mkT 1 (hdG mkT 1 k sl) rg) sp; omega, by show (hdG mkB 1 (hdG mkT 1 (hdG mkT 1 k sl) rg) sp) + 3 * ((wt.length : Nat) : Int) ≤ 1000000000; omega⟩
        refine sw_seq ?_
        refine sw_seq ?_
        refine sw_region hP 9 [] rfl (by kernel_rfl) (fun _ => by kernel_rfl) (by first | trivial | (simp [conj]; done) | (simp [conj] at *; (try dsimp only [Ty.den, Ty.dflt] at *); omega)) ?_
        refine sw_cond rfl (fun c11 => ?_) (fun c11 => ?_)
        · skip
          replace c11 : hdG mkP 3 (hdG mkB 1 (hdG mkT 1 (hdG mkT 1 k sl) rg) sp) wt < 0 := of_decide_eq_true c11
          have e4 := (hdG_val (f := mkP) (s := 3) (l := wt) (k := hdG mkB 1 (hdG mkT 1 (hdG mkT 1 k sl) rg) sp)).resolve_right (fun h => by omega)
          refine sw_seq ?_
          refine sw_region hP 10 [] rfl (by kernel_rfl) (fun _ => by kernel_rfl) (by first | trivial | (simp [conj]; done) | (simp [conj] at *; (try dsimp only [Ty.den, Ty.dflt] at *); omega)) ?_
          refine sw_ret ⟨.inl rfl, _, rfl, ?_⟩
          simp [conj]
          unfold hdD
          dsimp only
          rw [if_neg c2, if_neg c5, if_neg c8]
          exact e4.symm
        · skip
          refine sw_skip ?_
          refine sw_seq ?_
          refine sw_region hP 10 [] rfl (by kernel_rfl) (fun _ => by kernel_rfl) (by first | trivial | (simp [conj]; done) | (simp [conj] at *; (try dsimp only [Ty.den, Ty.dflt] at *); omega)) ?_
          refine sw_ret ⟨.inl rfl, _, rfl, ?_⟩
          simp [conj]
          unfold hdD
          dsimp only
          rw [if_neg c2, if_neg c5, if_neg c8]
end Go.Sx
