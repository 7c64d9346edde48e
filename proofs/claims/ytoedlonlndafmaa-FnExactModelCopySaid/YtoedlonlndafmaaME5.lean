import Derived.Test.YtoedlonlndafmaaME4
import Derived.Test.YtoedlonlndafmaaMPy
set_option linter.all false
namespace Go.Sx
open Go
set_option maxRecDepth 100000
set_option linter.unusedVariables false
set_option linter.unusedSimpArgs false

def cMkT : Ctr := ⟨45, [.val false TI pF], fun x => x.1 ≤ 1099511627776, fun x => (sStr (mkT x.1), [])⟩
theorem cMkT_ok : CtrOk Proofs.Try.prog cMkT := by
  have hP := (Prg.none ttok mtok)
  refine ctr_of_body hP cMkT (fn := Proofs.Try.f45) (rts := [.tmp 2]) Proofs.Try.func45 rfl (by kernel_rfl) rfl rfl ?_
  rintro ⟨(k : Int), ⟨⟩⟩ _ hpre
  try dsimp only [Ty.den, Mode.den, mdens] at hpre
  refine ⟨rfl, ?_⟩
  replace hpre : k ≤ 1099511627776 := hpre
  refine sw_seq ?_
  refine sw_region hP 1 [] rfl (by kernel_rfl) (fun _ => by kernel_rfl) (by first | trivial | (simp [conj]; done) | (simp [conj] at *; (try dsimp only [Ty.den, Ty.dflt] at *); omega)) ?_
  refine sw_seq ?_
  refine sw_seq ?_
  refine sw_region hP 2 [] rfl (by kernel_rfl) (fun _ => by kernel_rfl) (by first | trivial | (simp [conj]; done) | (simp [conj] at *; (try dsimp only [Ty.den, Ty.dflt] at *); omega)) ?_
  refine sw_cond rfl (fun c1 => ?_) (fun c1 => ?_)
  · skip
    replace c1 : k ≤ 0 := of_decide_eq_true c1
    refine sw_seq ?_
    refine sw_region hP 3 [] rfl (by kernel_rfl) (fun _ => by kernel_rfl) (by first | trivial | (simp [conj]; done) | (simp [conj] at *; (try dsimp only [Ty.den, Ty.dflt] at *); omega)) ?_
    refine sw_ret ⟨.inl rfl, _, rfl, ?_⟩
    simp [conj]
    unfold mkT
    rw [if_pos c1]; rfl
  · skip
    replace c1 : ¬ k ≤ 0 := of_decide_eq_false c1
    refine sw_skip ?_
    refine sw_seq ?_
    refine sw_region hP 3 [] rfl (by kernel_rfl) (fun _ => by kernel_rfl) (by first | trivial | (simp [conj]; done) | (simp [conj] at *; (try dsimp only [Ty.den, Ty.dflt] at *); omega)) ?_
    refine sw_seq ?_
    refine sw_block ?_
    refine sw_loop (ι := Nat × Str) (fun ⟨n, out⟩ => ⟨[sInt .i64 (n : Int), .junk, .junk, sStr out, .junk, .junk, .junk, .junk, .junk, .junk, .junk, .junk, .junk, .junk, .junk, .junk, .junk, .junk, .junk, .junk], [], 3, []⟩) (fun ⟨n, out⟩ => n) (fun ⟨n, out⟩ => out.length + n ≤ 1099511627776 ∧ digX n out = digX k.toNat []) (k.toNat, []) ⟨?_, ?_⟩ ?_
    · skip
      exact ⟨by show 0 + k.toNat ≤ 1099511627776; omega, rfl⟩
    · refine ent_ok rfl ?_
      simp [conj]
      repeat' apply And.intro
      all_goals first | rfl | exact (Int.max_eq_left (by omega)).symm | omega
    · rintro ⟨n, out⟩ ⟨hl, hgo⟩
      refine sw_seq ?_
      refine sw_seq ?_
      refine sw_region hP 4 [] rfl (by kernel_rfl) (fun _ => by kernel_rfl) (by first | trivial | (simp [conj]; done) | (simp [conj] at *; (try dsimp only [Ty.den, Ty.dflt] at *); omega)) ?_
      refine sw_cond rfl (fun c4 => ?_) (fun c4 => ?_)
      · skip
        have hn : n ≠ 0 := by have h : (0 : Int) < (n : Nat) := of_decide_eq_true c4; omega
        have htm : ((n : Nat) : Int).tmod 10 = ((n % 10 : Nat) : Int) := rfl
        have htd : ((n : Nat) : Int).tdiv 10 = ((n / 10 : Nat) : Int) := rfl
        refine sw_skip ?_
        refine sw_block ?_
        refine sw_seq ?_
        refine sw_region hP 5 [] rfl (by kernel_rfl) (fun _ => by kernel_rfl) ?_ ?_
        · skip
          simp [conj, maxL, htm, ofBytes]
          repeat' apply And.intro
          all_goals first | assumption | omega
        refine sw_region hP 6 [] rfl (by kernel_rfl) (fun _ => by kernel_rfl) ?_ ?_
        · skip
          simp [conj, htd]
          repeat' apply And.intro
          all_goals first | assumption | omega
        refine ⟨(n / 10, UInt8.ofNat (48 + n % 10) :: out), ?_, ?_, ent_ok rfl ?_⟩
        · skip
          exact ⟨by show (out.length + 1) + n / 10 ≤ 1099511627776; omega, by rw [← hgo, digX_step hn]⟩
        · skip
          show n / 10 < n
          omega
        · skip
          simp only [conj, List.nil_append, List.cons_append, List.append_nil, List.append_assoc, inR_i64, true_and, and_true, Int.toNat_natCast]
          try dsimp only [Ty.den, Ty.dflt]
          repeat' apply And.intro
          all_goals first | trivial | exact htd | rfl
      · skip
        obtain rfl : n = 0 := by have h : ¬ (0 : Int) < (n : Nat) := of_decide_eq_false c4; omega
        refine sw_exit ?_
        refine sw_seq ?_
        refine sw_region hP 5 [] rfl (by kernel_rfl) (fun _ => by kernel_rfl) ?_ ?_
        · skip
          simp [conj, maxL, bytesL]
          repeat' apply And.intro
          all_goals first | assumption | omega
        refine sw_ret ⟨.inl rfl, _, rfl, ?_⟩
        simp [conj]
        unfold mkT
        rw [if_neg c1, ← hgo, digX_zero]; rfl

def cMkL : Ctr := ⟨46, [.mu false .str (.all .w), .val false TI pF], fun x => 0 ≤ x.2.1 ∧ x.2.1 + (List.length x.1 : Int) ≤ 1099511627776, fun x => (sInt .i64 (x.2.1 + (List.length x.1 : Int)), [(⟨0, 0, 0⟩, .sl .str (.all .w) (mkL x.2.1 x.1))])⟩
theorem cMkL_ok : CtrOk Proofs.Try.prog cMkL := by
  have hP := ((Prg.none ttok mtok).and cMkT_ok)
  refine ctr_of_body hP cMkL (fn := Proofs.Try.f46) (rts := [.tmp 4]) Proofs.Try.func46 rfl (by kernel_rfl) rfl rfl ?_
  rintro ⟨(l : List Str), (k : Int), ⟨⟩⟩ _ ⟨h0, h1⟩
  try dsimp only [Ty.den, Mode.den, mdens] at h0
  try dsimp only [Ty.den, Mode.den, mdens] at h1
  refine ⟨rfl, ?_⟩
  replace h1 : k + (l.length : Int) ≤ 1099511627776 := h1
  refine sw_seq ?_
  refine sw_region hP 1 [] rfl (by kernel_rfl) (fun _ => by kernel_rfl) (by first | trivial | (simp [conj]; done) | (simp [conj] at *; (try dsimp only [Ty.den, Ty.dflt] at *); omega)) ?_
  refine sw_seq ?_
  refine sw_seq ?_
  refine sw_region hP 2 [] rfl (by kernel_rfl) (fun _ => by kernel_rfl) (by first | trivial | (simp [conj]; done) | (simp [conj] at *; (try dsimp only [Ty.den, Ty.dflt] at *); omega)) ?_
  refine sw_block ?_
  refine sw_loop (ι := Nat) (fun i => ⟨[.v false [.own ⟨0, 0, 0⟩], sInt .i64 (k + (i : Int)), .junk, .junk, .junk, sInt .i64 (i : Int), .junk, .junk, .junk, .junk, .junk, .junk, .junk, .junk, .junk, .junk, .junk, .junk, .junk, .junk], [(⟨0, 0, 0⟩, .sl .str (.all .w) (mkL k (l.take i) ++ l.drop i))], 2, [[.v false [.own ⟨0, 0, 0⟩], .junk]]⟩) (fun i => l.length - i) (fun i => i ≤ l.length) 0 ⟨?_, ?_⟩ ?_
  · skip
    exact Nat.zero_le _
  · refine ent_ok rfl ?_
    simp [conj, mkL]
  · rintro i hi
    refine sw_seq ?_
    refine sw_seq ?_
    refine sw_region hP 3 [] rfl (by kernel_rfl) (fun _ => by kernel_rfl) (by first | trivial | (simp [conj]; done) | (simp [conj] at *; (try dsimp only [Ty.den, Ty.dflt] at *); omega)) ?_
    refine sw_cond rfl (fun c2 => ?_) (fun c2 => ?_)
    · skip
      have hcl := mkL_clen (k := k) hi
      have hlt : i < l.length := by have h : ((i : Nat) : Int) < ((mkL k (l.take i) ++ l.drop i).length : Nat) := of_decide_eq_true c2; omega
      refine sw_skip ?_
      refine sw_seq ?_
      refine sw_block ?_
      refine sw_seq ?_
      refine sw_region hP 4 [] rfl (by kernel_rfl) (fun _ => by kernel_rfl) ?_ ?_
      · skip
        simp only [conj, List.nil_append, List.cons_append, List.append_nil, List.append_assoc, inR_i64, true_and, and_true, Int.toNat_natCast]
        try dsimp only [Ty.den, Ty.dflt]
        repeat' apply And.intro
        all_goals first | trivial | assumption | (show k + (i : Int) ≤ 1099511627776; omega) | omega
      refine sw_region hP 5 [] rfl (by kernel_rfl) (fun _ => by kernel_rfl) ?_ ?_
      · skip
        simp only [conj, List.nil_append, List.cons_append, List.append_nil, List.append_assoc, inR_i64, true_and, and_true, Int.toNat_natCast]
        try dsimp only [Ty.den, Ty.dflt]
        repeat' apply And.intro
        all_goals first | omega | assumption | trivial
      refine sw_region hP 6 [] rfl (by kernel_rfl) (fun _ => by kernel_rfl) ?_ ?_
      · skip
        simp only [conj, List.nil_append, List.cons_append, List.append_nil, List.append_assoc, inR_i64, true_and, and_true, Int.toNat_natCast]
        try dsimp only [Ty.den, Ty.dflt]
        repeat' apply And.intro
        all_goals first | omega | assumption | trivial
      refine ⟨i + 1, ?_, ?_, ent_ok rfl ?_⟩
      · skip
        exact hlt
      · skip
        omega
      · skip
        simp only [conj, List.nil_append, List.cons_append, List.append_nil, List.append_assoc, inR_i64, true_and, and_true, Int.toNat_natCast]
        try dsimp only [Ty.den, Ty.dflt]
        repeat' apply And.intro
        all_goals first | trivial | rfl | exact mkL_next hlt | (push_cast; omega)
    · skip
      have hcl := mkL_clen (k := k) hi
      obtain rfl : i = l.length := by have h : ¬ ((i : Nat) : Int) < ((mkL k (l.take i) ++ l.drop i).length : Nat) := of_decide_eq_false c2; omega
      refine sw_exit ?_
      refine sw_seq ?_
      refine sw_region hP 4 [] rfl (by kernel_rfl) (fun _ => by kernel_rfl) (by first | trivial | (simp [conj]; done) | (simp [conj] at *; (try dsimp only [Ty.den, Ty.dflt] at *); omega)) ?_
      refine sw_ret ⟨.inl rfl, _, rfl, ?_⟩
      simp [conj]

def cMkS : Ctr := ⟨30, [.mu false T_Shelf (.all .w), .val false TI pF], fun x => 0 ≤ x.2.1 ∧ mkN x.2.1 x.1 ≤ 1099511627776, fun x => (sInt .i64 (mkN x.2.1 x.1), [(⟨0, 0, 0⟩, .sl T_Shelf (.all .w) (mrkS x.2.1 x.1))])⟩
theorem cMkS_ok : CtrOk Proofs.Try.prog cMkS := by
  have hP := (((Prg.none ttok mtok).and cMkT_ok).and cMkL_ok)
  refine ctr_of_body hP cMkS (fn := Proofs.Try.f30) (rts := [.tmp 4]) Proofs.Try.func30 rfl (by kernel_rfl) rfl rfl ?_
  rintro ⟨(l : List Shf), (k : Int), ⟨⟩⟩ ⟨hdl, _⟩ ⟨h0, h1⟩
  try dsimp only [Ty.den, Mode.den, mdens] at h0
  try dsimp only [Ty.den, Mode.den, mdens] at h1
  refine ⟨rfl, ?_⟩
  have hml : l.length ≤ 140737488355328 := hdl.1
  replace h1 : mkN k l ≤ 1099511627776 := h1
  refine sw_seq ?_
  refine sw_region hP 1 [] rfl (by kernel_rfl) (fun _ => by kernel_rfl) (by first | trivial | (simp [conj]; done) | (simp [conj] at *; (try dsimp only [Ty.den, Ty.dflt] at *); omega)) ?_
  refine sw_seq ?_
  refine sw_seq ?_
  refine sw_region hP 2 [] rfl (by kernel_rfl) (fun _ => by kernel_rfl) (by first | trivial | (simp [conj]; done) | (simp [conj] at *; (try dsimp only [Ty.den, Ty.dflt] at *); omega)) ?_
  refine sw_block ?_
  refine sw_loop (ι := Nat) (fun i => ⟨[.v false [.own ⟨0, 0, 0⟩], sInt .i64 (mkN k (l.take i)), .junk, .junk, .junk, sInt .i64 (i : Int), .junk, .junk, .junk, .junk, .junk, .junk, .junk, .junk, .junk, .junk, .junk, .junk, .junk, .junk, .junk, .junk, .junk, .junk, .junk, .junk, .junk, .junk], [(⟨0, 0, 0⟩, .sl T_Shelf (.all .w) (mrkS k (l.take i) ++ l.drop i))], 2, [[.v false [.own ⟨0, 0, 0⟩], .junk]]⟩) (fun i => l.length - i) (fun i => i ≤ l.length) 0 ⟨?_, ?_⟩ ?_
  · skip
    exact Nat.zero_le _
  · refine ent_ok rfl ?_
    simp [conj, mkN, mrkS]
  · rintro i hi
    refine sw_seq ?_
    refine sw_seq ?_
    refine sw_region hP 3 [] rfl (by kernel_rfl) (fun _ => by kernel_rfl) (by first | trivial | (simp [conj]; done) | (simp [conj] at *; (try dsimp only [Ty.den, Ty.dflt] at *); omega)) ?_
    refine sw_cond rfl (fun c2 => ?_) (fun c2 => ?_)
    · skip
      have hcl := mrkS_clen (k := k) hi
      have hlt : i < l.length := by have h : ((i : Nat) : Int) < ((mrkS k (l.take i) ++ l.drop i).length : Nat) := of_decide_eq_true c2; omega
      have hge : k ≤ mkN k (l.take i) := mkN_ge
      have hsp := mkN_split (k := k) hlt
      have hget := mrkS_get (k := k) hlt
      have hgd : (mrkS k (l.take i) ++ l.drop i)[i]?.getD (([], []) : Shf) = l[i] := by rw [hget]; rfl
      have hgi : ∀ h, (mrkS k (l.take i) ++ l.drop i)[i]'h = l[i] := fun h => by have h2 := hget; rw [List.getElem?_eq_getElem h] at h2; exact Option.some.inj h2
      refine sw_skip ?_
      refine sw_seq ?_
      refine sw_block ?_
      refine sw_seq ?_
      refine sw_region hP 4 [] rfl (by kernel_rfl) (fun _ => by kernel_rfl) ?_ ?_
      · skip
        simp only [conj, List.nil_append, List.cons_append, List.append_nil, List.append_assoc, inR_i64, true_and, and_true, Int.toNat_natCast]
        try dsimp only [Ty.den, Ty.dflt]
        repeat' apply And.intro
        all_goals first | assumption | (show mkN k (l.take i) ≤ 1099511627776; omega) | omega | trivial
      refine sw_seq ?_
      refine sw_region hP 5 [] rfl (by kernel_rfl) (fun _ => by kernel_rfl) ?_ ?_
      · skip
        simp only [conj, List.nil_append, List.cons_append, List.append_nil, List.append_assoc, inR_i64, true_and, and_true, Int.toNat_natCast]
        try dsimp only [Ty.den, Ty.dflt]
        repeat' apply And.intro
        all_goals first | omega | assumption | trivial
      refine sw_region hP 6 [] rfl (by kernel_rfl) (fun _ => by kernel_rfl) ?_ ?_
      · skip
        simp [conj, hget, hgd, hgi, hcl, List.getElem?_set, hlt]
        repeat' apply And.intro
        all_goals first | assumption | omega | (show 0 ≤ mkN k (l.take i) + 1; omega) | (show mkN k (l.take i) + 1 + (l[i].2.length : Int) ≤ 1099511627776; omega) | trivial
      refine sw_region hP 7 [] rfl (by kernel_rfl) (fun _ => by kernel_rfl) ?_ ?_
      · skip
        simp only [conj, List.nil_append, List.cons_append, List.append_nil, List.append_assoc, inR_i64, true_and, and_true, Int.toNat_natCast]
        try dsimp only [Ty.den, Ty.dflt]
        repeat' apply And.intro
        all_goals first | omega | assumption | trivial
      refine ⟨i + 1, ?_, ?_, ent_ok rfl ?_⟩
      · skip
        exact hlt
      · skip
        omega
      · skip
        simp [conj, hget, hgd, hgi, hcl, List.getElem?_set, hlt]
        repeat' apply And.intro
        all_goals first | rfl | exact mrkS_next hlt | (rw [List.take_succ_eq_append_getElem hlt, mkN_app]) | omega | trace_state
    · skip
      have hcl := mrkS_clen (k := k) hi
      obtain rfl : i = l.length := by have h : ¬ ((i : Nat) : Int) < ((mrkS k (l.take i) ++ l.drop i).length : Nat) := of_decide_eq_false c2; omega
      refine sw_exit ?_
      refine sw_seq ?_
      refine sw_region hP 4 [] rfl (by kernel_rfl) (fun _ => by kernel_rfl) (by first | trivial | (simp [conj]; done) | (simp [conj] at *; (try dsimp only [Ty.den, Ty.dflt] at *); omega)) ?_
      refine sw_ret ⟨.inl rfl, _, rfl, ?_⟩
      simp [conj]

def cMkM : Ctr := ⟨12, [.mu true T_Shelf (.all .w), .val false TI pF], fun x => 0 ≤ x.2.1 ∧ mkN x.2.1 x.1 ≤ 1099511627776, fun x => (sInt .i64 (mkN x.2.1 x.1), [(⟨0, 0, 0⟩, .sl T_Shelf (.all .w) (mrkS x.2.1 x.1))])⟩
theorem cMkM_ok : CtrOk Proofs.Try.prog cMkM := by
  have hP := ((Prg.none ttok mtok).and cMkS_ok)
  refine ctr_of_body hP cMkM (fn := Proofs.Try.f12) (rts := [.tmp 4]) Proofs.Try.func12 rfl (by kernel_rfl) rfl rfl ?_
  rintro ⟨(l : List Shf), (k : Int), ⟨⟩⟩ _ ⟨h0, h1⟩
  try dsimp only [Ty.den, Mode.den, mdens] at h0
  try dsimp only [Ty.den, Mode.den, mdens] at h1
  refine ⟨rfl, ?_⟩
  refine sw_seq ?_
  refine sw_region hP 1 [] rfl (by kernel_rfl) (fun _ => by kernel_rfl) (by first | trivial | (simp [conj]; done) | (simp [conj] at *; (try dsimp only [Ty.den, Ty.dflt] at *); omega)) ?_
  refine sw_seq ?_
  refine sw_region hP 2 [] rfl (by kernel_rfl) (fun _ => by kernel_rfl) ?_ ?_
  · skip
    simp [conj, maxL]
    try dsimp only [Ty.den, Ty.dflt]
    try simp only [rd_eta]
    exact ⟨h0, h1⟩
  refine sw_seq ?_
  refine sw_region hP 3 [] rfl (by kernel_rfl) (fun _ => by kernel_rfl) (by first | trivial | (simp [conj]; done) | (simp [conj] at *; (try dsimp only [Ty.den, Ty.dflt] at *); omega)) ?_
  refine sw_ret ⟨.inl rfl, _, rfl, ?_⟩
  simp [conj]

def cHdL : Ctr := ⟨47, [.val false (.sl .str) (.all .b), .val false TI pF], fun x => 0 ≤ x.2.1 ∧ x.2.1 + (List.length x.1 : Int) ≤ 1099511627776, fun x => (sInt .i64 (hdL x.2.1 x.1), [])⟩
theorem cHdL_ok : CtrOk Proofs.Try.prog cHdL := by
  have hP := ((Prg.none ttok mtok).and cMkT_ok)
  refine ctr_of_body hP cHdL (fn := Proofs.Try.f47) (rts := [.tmp 4]) Proofs.Try.func47 rfl (by kernel_rfl) rfl rfl ?_
  rintro ⟨(l : List Str), (k : Int), ⟨⟩⟩ _ ⟨h0, h1⟩
  try dsimp only [Ty.den, Mode.den, mdens] at h0
  try dsimp only [Ty.den, Mode.den, mdens] at h1
  refine ⟨rfl, ?_⟩
  replace h1 : k + (l.length : Int) ≤ 1099511627776 := h1
  refine sw_seq ?_
  refine sw_region hP 1 [] rfl (by kernel_rfl) (fun _ => by kernel_rfl) (by first | trivial | (simp [conj]; done) | (simp [conj] at *; (try dsimp only [Ty.den, Ty.dflt] at *); omega)) ?_
  refine sw_seq ?_
  refine sw_seq ?_
  refine sw_region hP 2 [] rfl (by kernel_rfl) (fun _ => by kernel_rfl) (by first | trivial | (simp [conj]; done) | (simp [conj] at *; (try dsimp only [Ty.den, Ty.dflt] at *); omega)) ?_
  refine sw_block ?_
  refine sw_loop (ι := Nat) (fun i => ⟨[.v false [.d (.sl .str) (.all .b) l], sInt .i64 (k + (i : Int)), .junk, .junk, .junk, sInt .i64 (i : Int), .junk, .junk, .junk, .junk, .junk, .junk, .junk, .junk, .junk, .junk, .junk, .junk, .junk, .junk, .junk, .junk], [], 2, []⟩) (fun i => l.length - i) (fun i => i ≤ l.length ∧ hdL (k + i) (l.drop i) = hdL k l) 0 ⟨?_, ?_⟩ ?_
  · skip
    exact ⟨Nat.zero_le _, by simp⟩
  · refine ent_ok rfl ?_
    simp [conj]
  · rintro i ⟨hi, hgo⟩
    refine sw_seq ?_
    refine sw_seq ?_
    refine sw_region hP 3 [] rfl (by kernel_rfl) (fun _ => by kernel_rfl) (by first | trivial | (simp [conj]; done) | (simp [conj] at *; (try dsimp only [Ty.den, Ty.dflt] at *); omega)) ?_
    refine sw_cond rfl (fun c2 => ?_) (fun c2 => ?_)
    · skip
      have hlt : i < l.length := by simpa using c2
      refine sw_skip ?_
      refine sw_seq ?_
      refine sw_block ?_
      refine sw_seq ?_
      refine sw_seq ?_
      refine sw_region hP 4 [] rfl (by kernel_rfl) (fun _ => by kernel_rfl) ?_ ?_
      · skip
        simp only [conj, List.nil_append, List.cons_append, List.append_nil, List.append_assoc, inR_i64, true_and, and_true, Int.toNat_natCast]
        try dsimp only [Ty.den, Ty.dflt]
        repeat' apply And.intro
        all_goals first | omega | assumption | (show k + (i : Int) ≤ 1099511627776; omega) | trivial
      refine sw_cond rfl (fun c4 => ?_) (fun c4 => ?_)
      · skip
        replace c4 : ¬ l[i] = mkT (k + i) := by simpa [List.getElem?_eq_getElem hlt] using c4
        refine sw_seq ?_
        refine sw_region hP 5 [] rfl (by kernel_rfl) (fun _ => by kernel_rfl) (by first | trivial | (simp [conj]; done) | (simp [conj] at *; (try dsimp only [Ty.den, Ty.dflt] at *); omega)) ?_
        refine sw_ret ⟨.inl rfl, _, rfl, ?_⟩
        simp [conj]
        exact (hdL_hit hlt hgo c4).symm
      · skip
        replace c4 : l[i] = mkT (k + i) := by simpa [List.getElem?_eq_getElem hlt] using c4
        refine sw_skip ?_
        refine sw_region hP 5 [] rfl (by kernel_rfl) (fun _ => by kernel_rfl) ?_ ?_
        · skip
          simp only [conj, List.nil_append, List.cons_append, List.append_nil, List.append_assoc, inR_i64, true_and, and_true, Int.toNat_natCast]
          try dsimp only [Ty.den, Ty.dflt]
          repeat' apply And.intro
          all_goals first | omega | assumption | trivial
        refine sw_region hP 6 [] rfl (by kernel_rfl) (fun _ => by kernel_rfl) ?_ ?_
        · skip
          simp only [conj, List.nil_append, List.cons_append, List.append_nil, List.append_assoc, inR_i64, true_and, and_true, Int.toNat_natCast]
          try dsimp only [Ty.den, Ty.dflt]
          repeat' apply And.intro
          all_goals first | omega | assumption | trivial
        refine ⟨i + 1, ?_, ?_, ent_ok rfl ?_⟩
        · skip
          exact ⟨hlt, hdL_next hlt hgo c4⟩
        · skip
          omega
        · skip
          simp only [conj, List.nil_append, List.cons_append, List.append_nil, List.append_assoc, inR_i64, true_and, and_true, Int.toNat_natCast]
          try dsimp only [Ty.den, Ty.dflt]
          repeat' apply And.intro
          all_goals first | rfl | (push_cast; omega)
    · skip
      obtain rfl : i = l.length := by simp at c2; omega
      refine sw_exit ?_
      refine sw_seq ?_
      refine sw_region hP 4 [] rfl (by kernel_rfl) (fun _ => by kernel_rfl) (by first | trivial | (simp [conj]; done) | (simp [conj] at *; (try dsimp only [Ty.den, Ty.dflt] at *); omega)) ?_
      refine sw_ret ⟨.inl rfl, _, rfl, ?_⟩
      simp [conj]
      exact (hdL_end hgo).symm

def cHdS : Ctr := ⟨31, [.val false T_Model (.all .b), .val false TI pF], fun x => 0 ≤ x.2.1 ∧ mkN x.2.1 x.1 ≤ 1099511627776, fun x => (sInt .i64 (hdS x.2.1 x.1), [])⟩
theorem cHdS_ok : CtrOk Proofs.Try.prog cHdS := by
  have hP := (((Prg.none ttok mtok).and cMkT_ok).and cHdL_ok)
  refine ctr_of_body hP cHdS (fn := Proofs.Try.f31) (rts := [.tmp 4]) Proofs.Try.func31 rfl (by kernel_rfl) rfl rfl ?_
  rintro ⟨(l : List Shf), (k : Int), ⟨⟩⟩ ⟨hdl, _⟩ ⟨h0, h1⟩
  try dsimp only [Ty.den, Mode.den, mdens] at h0
  try dsimp only [Ty.den, Mode.den, mdens] at h1
  refine ⟨rfl, ?_⟩
  have hml : l.length ≤ 140737488355328 := hdl.1
  replace h1 : mkN k l ≤ 1099511627776 := h1
  refine sw_seq ?_
  refine sw_region hP 1 [] rfl (by kernel_rfl) (fun _ => by kernel_rfl) (by first | trivial | (simp [conj]; done) | (simp [conj] at *; (try dsimp only [Ty.den, Ty.dflt] at *); omega)) ?_
  refine sw_seq ?_
  refine sw_seq ?_
  refine sw_region hP 2 [] rfl (by kernel_rfl) (fun _ => by kernel_rfl) (by first | trivial | (simp [conj]; done) | (simp [conj] at *; (try dsimp only [Ty.den, Ty.dflt] at *); omega)) ?_
  refine sw_block ?_
  refine sw_loop (ι := Nat × Int) (fun ⟨i, q⟩ => ⟨[.v false [.d T_Model (.all .b) l], sInt .i64 q, .junk, .junk, .junk, sInt .i64 (i : Int), .junk, .junk, .junk, .junk, .junk, .junk, .junk, .junk, .junk, .junk, .junk, .junk, .junk, .junk, .junk, .junk, .junk, .junk, .junk, .junk, .junk, .junk, .junk, .junk, .junk, .junk], [], 2, []⟩) (fun ⟨i, q⟩ => l.length - i) (fun ⟨i, q⟩ => i ≤ l.length ∧ 0 ≤ q ∧ hdS q (l.drop i) = hdS k l ∧ mkN q (l.drop i) ≤ 1099511627776) (0, k) ⟨?_, ?_⟩ ?_
  · skip
    exact ⟨Nat.zero_le _, h0, rfl, h1⟩
  · refine ent_ok rfl ?_
    simp [conj]
  · rintro ⟨i, q⟩ ⟨hi, hq, hgo, hb⟩
    refine sw_seq ?_
    refine sw_seq ?_
    refine sw_region hP 3 [] rfl (by kernel_rfl) (fun _ => by kernel_rfl) (by first | trivial | (simp [conj]; done) | (simp [conj] at *; (try dsimp only [Ty.den, Ty.dflt] at *); omega)) ?_
    refine sw_cond rfl (fun c2 => ?_) (fun c2 => ?_)
    · skip
      have hlt : i < l.length := by simpa using c2
      have hmd := mkN_drop (k := q) hlt
      have hge : q + 1 + l[i].2.length ≤ mkN (q + 1 + l[i].2.length) (l.drop (i + 1)) := mkN_ge
      refine sw_skip ?_
      refine sw_seq ?_
      refine sw_block ?_
      refine sw_seq ?_
      refine sw_seq ?_
      refine sw_region hP 4 [] rfl (by kernel_rfl) (fun _ => by kernel_rfl) ?_ ?_
      · skip
        simp [conj, List.getElem?_eq_getElem hlt]
        repeat' apply And.intro
        all_goals first | omega | assumption | (show q ≤ 1099511627776; omega) | trivial
      refine sw_cond rfl (fun c4 => ?_) (fun c4 => ?_)
      · skip
        replace c4 : ¬ l[i].1 = mkT q := by simpa [List.getElem?_eq_getElem hlt] using c4
        refine sw_seq ?_
        refine sw_region hP 5 [] rfl (by kernel_rfl) (fun _ => by kernel_rfl) (by first | trivial | (simp [conj]; done) | (simp [conj] at *; (try dsimp only [Ty.den, Ty.dflt] at *); omega)) ?_
        refine sw_ret ⟨.inl rfl, _, rfl, ?_⟩
        simp [conj]
        exact (hdS_hit hlt hgo c4).symm
      · skip
        replace c4 : l[i].1 = mkT q := by simpa [List.getElem?_eq_getElem hlt] using c4
        refine sw_skip ?_
        refine sw_seq ?_
        refine sw_region hP 5 [] rfl (by kernel_rfl) (fun _ => by kernel_rfl) ?_ ?_
        · skip
          simp only [conj, List.nil_append, List.cons_append, List.append_nil, List.append_assoc, inR_i64, true_and, and_true, Int.toNat_natCast]
          try dsimp only [Ty.den, Ty.dflt]
          repeat' apply And.intro
          all_goals first | omega | assumption | trivial
        refine sw_seq ?_
        refine sw_region hP 6 [] rfl (by kernel_rfl) (fun _ => by kernel_rfl) ?_ ?_
        · skip
          simp [conj, List.getElem?_eq_getElem hlt]
          repeat' apply And.intro
          all_goals first | omega | assumption | (show 0 ≤ q + 1; omega) | (show q + 1 + (l[i].2.length : Int) ≤ 1099511627776; omega) | trivial
        refine sw_seq ?_
        refine sw_region hP 7 [] rfl (by kernel_rfl) (fun _ => by kernel_rfl) (by first | trivial | (simp [conj]; done) | (simp [conj] at *; (try dsimp only [Ty.den, Ty.dflt] at *); omega)) ?_
        refine sw_cond rfl (fun c8 => ?_) (fun c8 => ?_)
        · skip
          replace c8 : hdL (q + 1) l[i].2 < 0 := by simpa [List.getElem?_eq_getElem hlt] using c8
          refine sw_seq ?_
          refine sw_region hP 8 [] rfl (by kernel_rfl) (fun _ => by kernel_rfl) (by first | trivial | (simp [conj]; done) | (simp [conj] at *; (try dsimp only [Ty.den, Ty.dflt] at *); omega)) ?_
          refine sw_ret ⟨.inl rfl, _, rfl, ?_⟩
          simp [conj]
          exact (hdS_hit2 hlt hgo c4 c8).symm
        · skip
          replace c8 : ¬ hdL (q + 1) l[i].2 < 0 := by simpa [List.getElem?_eq_getElem hlt] using c8
          have hv : hdL (q + 1) l[i].2 = q + 1 + l[i].2.length := (hdL_val (l := l[i].2) (k := q + 1)).resolve_left (fun h => c8 (by rw [h]; decide))
          refine sw_skip ?_
          refine sw_region hP 8 [] rfl (by kernel_rfl) (fun _ => by kernel_rfl) ?_ ?_
          · skip
            simp only [conj, List.nil_append, List.cons_append, List.append_nil, List.append_assoc, inR_i64, true_and, and_true, Int.toNat_natCast]
            try dsimp only [Ty.den, Ty.dflt]
            repeat' apply And.intro
            all_goals first | omega | assumption | trivial
          refine ⟨(i + 1, hdL (q + 1) l[i].2), ?_, ?_, ent_ok rfl ?_⟩
          · skip
            exact ⟨hlt, by show 0 ≤ hdL (q + 1) l[i].2; omega, hdS_next hlt hgo c4 c8, by show mkN (hdL (q + 1) l[i].2) _ ≤ _; rw [hv, ← hmd]; exact hb⟩
          · skip
            show l.length - (i + 1) < l.length - i
            omega
          · skip
            simp [conj, List.getElem?_eq_getElem hlt]
    · skip
      obtain rfl : i = l.length := by simp at c2; omega
      refine sw_exit ?_
      refine sw_seq ?_
      refine sw_region hP 4 [] rfl (by kernel_rfl) (fun _ => by kernel_rfl) (by first | trivial | (simp [conj]; done) | (simp [conj] at *; (try dsimp only [Ty.den, Ty.dflt] at *); omega)) ?_
      refine sw_ret ⟨.inl rfl, _, rfl, ?_⟩
      simp [conj]
      exact (hdS_end hgo).symm

def cHdM : Ctr := ⟨13, [.val true T_Model (.all .b), .val false TI pF], fun x => 0 ≤ x.2.1 ∧ mkN x.2.1 x.1 ≤ 1099511627776, fun x => (sInt .i64 (hdS x.2.1 x.1), [])⟩
theorem cHdM_ok : CtrOk Proofs.Try.prog cHdM := by
  have hP := ((Prg.none ttok mtok).and cHdS_ok)
  refine ctr_of_body hP cHdM (fn := Proofs.Try.f13) (rts := [.tmp 4]) Proofs.Try.func13 rfl (by kernel_rfl) rfl rfl ?_
  rintro ⟨(l : List Shf), (k : Int), ⟨⟩⟩ _ ⟨h0, h1⟩
  try dsimp only [Ty.den, Mode.den, mdens] at h0
  try dsimp only [Ty.den, Mode.den, mdens] at h1
  refine ⟨rfl, ?_⟩
  have hge := hdS_ge (l := l) (k := k) (by omega)
  refine sw_seq ?_
  refine sw_region hP 1 [] rfl (by kernel_rfl) (fun _ => by kernel_rfl) (by first | trivial | (simp [conj]; done) | (simp [conj] at *; (try dsimp only [Ty.den, Ty.dflt] at *); omega)) ?_
  refine sw_seq ?_
  refine sw_region hP 2 [] rfl (by kernel_rfl) (fun _ => by kernel_rfl) ?_ ?_
  · skip
    simp [conj, maxL]
    try dsimp only [Ty.den, Ty.dflt]
    try simp only [rd_eta]
    exact ⟨h0, h1⟩
  refine sw_seq ?_
  refine sw_seq ?_
  refine sw_region hP 3 [] rfl (by kernel_rfl) (fun _ => by kernel_rfl) (by first | trivial | (simp [conj]; done) | (simp [conj] at *; (try dsimp only [Ty.den, Ty.dflt] at *); omega)) ?_
  refine sw_cond rfl (fun c2 => ?_) (fun c2 => ?_)
  · skip
    replace c2 : hdS k l < 0 := of_decide_eq_true c2
    refine sw_seq ?_
    refine sw_region hP 4 [] rfl (by kernel_rfl) (fun _ => by kernel_rfl) (by first | trivial | (simp [conj]; done) | (simp [conj] at *; (try dsimp only [Ty.den, Ty.dflt] at *); omega)) ?_
    refine sw_ret ⟨.inl rfl, _, rfl, ?_⟩
    simp [conj]
    exact (hdS_neg h0 c2).symm
  · skip
    refine sw_skip ?_
    refine sw_seq ?_
    refine sw_region hP 4 [] rfl (by kernel_rfl) (fun _ => by kernel_rfl) (by first | trivial | (simp [conj]; done) | (simp [conj] at *; (try dsimp only [Ty.den, Ty.dflt] at *); omega)) ?_
    refine sw_ret ⟨.inl rfl, _, rfl, ?_⟩
    simp [conj]
    
end Go.Sx
