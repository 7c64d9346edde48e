import Derived.Test.YtbnmeeajooljmaaMD1
set_option linter.all false
namespace Go.Sx
open Go
set_option maxRecDepth 100000
set_option linter.unusedVariables false
set_option linter.unusedSimpArgs false

def cCloneO : Ctr := ⟨76, [.val false (.sl .str) (.all .b)], fun x => List.length x.1 ≤ 1099511627776, fun x => (.v false [.own ⟨1, 0, 0⟩], [(⟨1, 0, 0⟩, .sl .str (.all .w) x.1)])⟩
theorem cCloneO_ok : CtrOk Proofs.Try.prog cCloneO := by
  have hP := (Prg.none ttok mtok)
  refine ctr_of_body hP cCloneO (fn := Proofs.Try.f76) (rts := [.tmp 2]) Proofs.Try.func76 rfl (by kernel_rfl) rfl rfl ?_
  rintro ⟨(l : List Str), ⟨⟩⟩ ⟨hdl, _⟩ hpre
  try dsimp only [Ty.den, Mode.den, mdens] at hpre
  refine ⟨rfl, ?_⟩
  have hml : l.length ≤ 1099511627776 := hpre
  refine sw_seq ?_
  refine sw_region hP 1 [] rfl (by kernel_rfl) (fun _ => by kernel_rfl) (by first | trivial | (simp [conj]; done) | (simp [conj] at *; (try dsimp only [Ty.den, Ty.dflt] at *); omega)) ?_
  refine sw_seq ?_
  refine sw_seq ?_
  refine sw_region hP 2 [] rfl (by kernel_rfl) (fun _ => by kernel_rfl) (by first | trivial | (simp [conj]; done) | (simp [conj] at *; (try dsimp only [Ty.den, Ty.dflt] at *); omega)) ?_
  refine sw_condA rfl (fun c1 => ?_) ?_
  · skip
    obtain rfl : l = [] := List.eq_nil_of_length_eq_zero c1
    refine sw_seq ?_
    refine sw_region hP 3 [] rfl (by kernel_rfl) (fun _ => by kernel_rfl) (by first | trivial | (simp [conj]; done) | (simp [conj] at *; (try dsimp only [Ty.den, Ty.dflt] at *); omega)) ?_
    refine sw_ret ⟨.inl rfl, _, rfl, ?_⟩
    first | trivial | (simp [conj]; done) | (simp [conj] at *; (try dsimp only [Ty.den, Ty.dflt] at *); omega)
  · skip
    refine sw_skip ?_
    refine sw_seq ?_
    refine sw_region hP 3 [] rfl (by kernel_rfl) (fun _ => by kernel_rfl) ?_ ?_
    · skip
      simp [conj, maxL]
      try dsimp only [Ty.den, Ty.dflt]
      try simp only [rd_eta]
      omega
    refine sw_ret ⟨.inl rfl, _, rfl, ?_⟩
    first | trivial | (simp [conj]; done) | (simp [conj] at *; (try dsimp only [Ty.den, Ty.dflt] at *); omega)

def cCloneB : Ctr := ⟨77, [.val false (.sl .bool) (.all .b)], fun x => List.length x.1 ≤ 1099511627776, fun x => (.v false [.own ⟨1, 0, 0⟩], [(⟨1, 0, 0⟩, .sl .bool (.all .w) x.1)])⟩
theorem cCloneB_ok : CtrOk Proofs.Try.prog cCloneB := by
  have hP := (Prg.none ttok mtok)
  refine ctr_of_body hP cCloneB (fn := Proofs.Try.f77) (rts := [.tmp 2]) Proofs.Try.func77 rfl (by kernel_rfl) rfl rfl ?_
  rintro ⟨(l : List Bool), ⟨⟩⟩ ⟨hdl, _⟩ hpre
  try dsimp only [Ty.den, Mode.den, mdens] at hpre
  refine ⟨rfl, ?_⟩
  have hml : l.length ≤ 1099511627776 := hpre
  refine sw_seq ?_
  refine sw_region hP 1 [] rfl (by kernel_rfl) (fun _ => by kernel_rfl) (by first | trivial | (simp [conj]; done) | (simp [conj] at *; (try dsimp only [Ty.den, Ty.dflt] at *); omega)) ?_
  refine sw_seq ?_
  refine sw_seq ?_
  refine sw_region hP 2 [] rfl (by kernel_rfl) (fun _ => by kernel_rfl) (by first | trivial | (simp [conj]; done) | (simp [conj] at *; (try dsimp only [Ty.den, Ty.dflt] at *); omega)) ?_
  refine sw_condA rfl (fun c1 => ?_) ?_
  · skip
    obtain rfl : l = [] := List.eq_nil_of_length_eq_zero c1
    refine sw_seq ?_
    refine sw_region hP 3 [] rfl (by kernel_rfl) (fun _ => by kernel_rfl) (by first | trivial | (simp [conj]; done) | (simp [conj] at *; (try dsimp only [Ty.den, Ty.dflt] at *); omega)) ?_
    refine sw_ret ⟨.inl rfl, _, rfl, ?_⟩
    first | trivial | (simp [conj]; done) | (simp [conj] at *; (try dsimp only [Ty.den, Ty.dflt] at *); omega)
  · skip
    refine sw_skip ?_
    refine sw_seq ?_
    refine sw_region hP 3 [] rfl (by kernel_rfl) (fun _ => by kernel_rfl) ?_ ?_
    · skip
      simp [conj, maxL]
      try dsimp only [Ty.den, Ty.dflt]
      try simp only [rd_eta]
      omega
    refine sw_ret ⟨.inl rfl, _, rfl, ?_⟩
    first | trivial | (simp [conj]; done) | (simp [conj] at *; (try dsimp only [Ty.den, Ty.dflt] at *); omega)

def cDisk (st : Int) (t : Drv) (l : List Put) (d c : Id) : Xctr := ⟨59, [], [(d, ⟨0, 0, 0⟩, .lvar (drv st t (.chp ⟨0, 0, 1⟩ 0))), (c, ⟨0, 0, 1⟩, .ch false T_Put l)], [.v false [.ptr ⟨0, 0, 0⟩ 0]],
  (.v true [.d TI pF st, .own ⟨1, 0, 0⟩, .own ⟨1, 1, 0⟩, .own ⟨1, 2, 0⟩, .own ⟨1, 3, 0⟩], [(⟨1, 0, 0⟩, .sl .str (.all .w) t.1), (⟨1, 1, 0⟩, .sl .str (.all .w) t.2.1), (⟨1, 2, 0⟩, .sl .bool (.all .w) t.2.2), (⟨1, 3, 0⟩, .sl T_Put (.all .w) l)])⟩
theorem cDisk_ok {st : Int} {t : Drv} {l : List Put} {d c : Id} (hl : l.length ≤ 1000) (ht : t.ok) : XOk Proofs.Try.prog (cDisk st t l d c) := by
  have hP := ((((Prg.none ttok mtok).and cCloneO_ok).and cCloneB_ok).andX (cWaits_ok (st := st) (t := t) (d := ⟨0, 0, 0⟩) (c := ⟨0, 0, 1⟩) hl))
  refine xctr_of_body hP (cDisk st t l d c) (fn := Proofs.Try.f59) (rts := [.cell 2 27]) Proofs.Try.func59 rfl (by kernel_rfl) rfl rfl ?_
  refine ⟨rfl, ?_⟩
  obtain ⟨h1, h2, h3⟩ := ht
  refine sw_seq ?_
  refine sw_region hP 1 [] rfl (by kernel_rfl) (fun _ => by kernel_rfl) (by first | trivial | (simp [conj]; done) | (simp [conj] at *; (try dsimp only [Ty.den, Ty.dflt] at *); omega)) ?_
  refine sw_seq ?_
  refine sw_region hP 2 [] rfl (by kernel_rfl) (fun _ => by kernel_rfl) ?_ ?_
  · skip
    simp only [conj, List.nil_append, List.cons_append, List.append_nil, List.append_assoc, inR_i64, true_and, and_true, Int.toNat_natCast]
    try dsimp only [Ty.den, Ty.dflt]
    repeat' apply And.intro
    all_goals first | rfl | (show List.length t.1 ≤ 1099511627776; omega) | (show List.length t.2.1 ≤ 1099511627776; omega) | (show List.length t.2.2 ≤ 1099511627776; omega) | omega | assumption | trivial
  refine sw_ret ⟨.inl rfl, _, rfl, ?_⟩
  simp [conj]

def cFlush (st : Int) (t : Drv) (l : List Put) (d c : Id) : Xctr := ⟨33, [(d, ⟨0, 0, 0⟩, .var (drv st t (.chp ⟨0, 0, 1⟩ 0))), (c, ⟨0, 0, 1⟩, .ch true T_Put l)], [], [.v false [.ptr ⟨0, 0, 0⟩ 0]],
  (.tup [], [(⟨0, 0, 0⟩, .var (drv st (comes l t) .nilp))])⟩
theorem cFlush_ok {st : Int} {t : Drv} {l : List Put} {d c : Id} (hw : l.any badP = false) : XOk Proofs.Try.prog (cFlush st t l d c) := by
  have hP := (Prg.none ttok mtok)
  refine xctr_of_body hP (cFlush st t l d c) (fn := Proofs.Try.f33) (rts := []) Proofs.Try.func33 rfl (by kernel_rfl) rfl rfl ?_
  refine ⟨rfl, ?_⟩
  refine sw_block ?_
  refine sw_loop (ι := Nat × Drv) (fun ⟨i, u⟩ => ⟨[.v false [.ptr ⟨0, 0, 0⟩ 0], .junk, .junk, .junk, .junk, .junk, .junk, .junk, .junk, .junk, .junk, .junk, .junk, .junk, .junk, .junk, .junk, .junk, .junk, .junk, .junk, .junk, .junk, .junk, .junk, .junk], [(⟨0, 0, 0⟩, .var (drv st u (.chp ⟨0, 0, 1⟩ i))), (⟨0, 0, 1⟩, .ch true T_Put l)], 0, [[.v false [.ptr ⟨0, 0, 0⟩ 0]]]⟩) (fun ⟨i, u⟩ => l.length - i) (fun ⟨i, u⟩ => i ≤ l.length ∧ comes (l.drop i) u = comes l t) (0, t) ⟨?_, ?_⟩ ?_
  · skip
    exact ⟨Nat.zero_le _, rfl⟩
  · refine ent_ok rfl ?_
    first | trivial | (simp [conj]; done) | (simp [conj] at *; (try dsimp only [Ty.den, Ty.dflt] at *); omega)
  · rintro ⟨i, u⟩ ⟨hi, hgo⟩
    refine sw_seq ?_
    refine sw_seq ?_
    refine sw_region hP 1 [] rfl (by kernel_rfl) (fun _ => by kernel_rfl) ?_ ?_
    · skip
      simp [conj]
      exact hi
    refine sw_cond rfl (fun c0 => ?_) (fun c0 => ?_)
    · skip
      have hlt : i < l.length := by simp at c0; omega
      have hg : (List.getD l i T_Put.dflt : Put) = l[i] := by rw [List.getD, List.getElem?_eq_getElem hlt]; rfl
      have hp := wait_at hw hlt
      rw [← hg] at hp
      replace hP := hP.andX (cCome_ok (st := st) (t := u) (l := l) (i := i) (d := ⟨0, 0, 0⟩) (c := ⟨0, 0, 1⟩) hp)
      refine sw_skip ?_
      refine sw_seq ?_
      refine sw_block ?_
      refine sw_region hP 2 [] rfl (by kernel_rfl) (fun _ => by kernel_rfl) ?_ ?_
      · skip
        simp only [conj, List.nil_append, List.cons_append, List.append_nil, List.append_assoc, inR_i64, true_and, and_true, Int.toNat_natCast]
        try dsimp only [Ty.den, Ty.dflt]
        repeat' apply And.intro
        all_goals first | rfl | omega | assumption | trivial
      refine sw_region hP 3 [] rfl (by kernel_rfl) (fun _ => by kernel_rfl) ?_ ?_
      · skip
        simp [conj, maxL]
        try dsimp only [Ty.den, Ty.dflt]
        try simp only [rd_eta]
        repeat' apply And.intro
        all_goals first | rfl | assumption | omega
      refine ⟨(i + 1, come (List.getD l i T_Put.dflt) u), ?_, ?_, ent_ok rfl ?_⟩
      · skip
        exact ⟨hlt, by show comes _ (come (List.getD l i T_Put.dflt) u) = _; rw [hg]; exact comes_next hlt hgo⟩
      · skip
        show l.length - (i + 1) < l.length - i
        omega
      · skip
        simp [conj]
    · skip
      obtain rfl : i = l.length := by simp at c0; omega
      refine sw_exit ?_
      refine ⟨.inr rfl, _, rfl, ?_⟩
      have hv := comes_end hgo
      subst hv
      simp [conj]

def cCrash (st : Int) (t : Drv) (l : List Put) (keep : Int) (d c : Id) : Xctr := ⟨27, [(d, ⟨0, 0, 0⟩, .var (drv st t (.chp ⟨0, 0, 1⟩ 0))), (c, ⟨0, 0, 1⟩, .ch true T_Put l)], [], [.v false [.ptr ⟨0, 0, 0⟩ 0], sInt .i64 keep],
  (.tup [], [(⟨0, 0, 0⟩, .var (drv st (comes (keepB keep.toNat l) t) .nilp))])⟩
theorem cCrash_ok {st : Int} {t : Drv} {l : List Put} {keep : Int} {d c : Id} (hw : l.any badP = false) (hl : l.length ≤ 40) (h0 : 0 ≤ keep) (h1 : keep ≤ 9223372036854775807) : XOk Proofs.Try.prog (cCrash st t l keep d c) := by
  have hP := ((Prg.none ttok mtok).andX (cWaits_ok (st := st) (t := t) (d := ⟨0, 0, 0⟩) (c := ⟨0, 0, 1⟩) (Nat.le_trans hl (by decide))))
  refine xctr_of_body hP (cCrash st t l keep d c) (fn := Proofs.Try.f27) (rts := []) Proofs.Try.func27 rfl (by kernel_rfl) rfl rfl ?_
  refine ⟨rfl, ?_⟩
  have hl : l.length ≤ 40 := hl
  refine sw_seq ?_
  refine sw_seq ?_
  refine sw_region hP 1 [] rfl (by kernel_rfl) (fun _ => by kernel_rfl) ?_ ?_
  · skip
    simp only [conj, List.nil_append, List.cons_append, List.append_nil, List.append_assoc, inR_i64, true_and, and_true, Int.toNat_natCast]
    try dsimp only [Ty.den, Ty.dflt]
    repeat' apply And.intro
    all_goals first | rfl | omega | assumption | trivial
  refine sw_block ?_
  refine sw_loop (ι := Nat × Drv) (fun ⟨i, u⟩ => ⟨[.v false [.ptr ⟨0, 0, 0⟩ 0], sInt .i64 keep, .junk, .junk, .junk, .junk, .junk, .v false [.own ⟨0, 9, 0⟩], sInt .i64 (l.length : Int), sInt .i64 (i : Int), .junk, .junk, .junk, .junk, .junk, .junk, .junk, .junk, .junk, .junk, .junk, .junk, .junk, .junk, .junk, .junk], [(⟨0, 0, 0⟩, .var (drv st u (.chp ⟨0, 0, 1⟩ 0))), (⟨0, 0, 1⟩, .ch true T_Put l), (⟨0, 9, 0⟩, .sl T_Put (.all .w) l)], 1, [[.v false [.ptr ⟨0, 0, 0⟩ 0], .junk]]⟩) (fun ⟨i, u⟩ => l.length - i) (fun ⟨i, u⟩ => i ≤ l.length ∧ comes (keepB (keep.toNat / 2 ^ i) (l.drop i)) u = comes (keepB keep.toNat l) t) (0, t) ⟨?_, ?_⟩ ?_
  · skip
    exact ⟨Nat.zero_le _, by show comes (keepB (keep.toNat / 2 ^ 0) _) _ = _; rw [Nat.pow_zero, Nat.div_one]; rfl⟩
  · refine ent_ok rfl ?_
    first | trivial | (simp [conj]; done) | (simp [conj] at *; (try dsimp only [Ty.den, Ty.dflt] at *); omega)
  · rintro ⟨i, u⟩ ⟨hi, hgo⟩
    refine sw_seq ?_
    refine sw_region hP 2 [] rfl (by kernel_rfl) (fun _ => by kernel_rfl) ?_ ?_
    · skip
      simp only [conj, List.nil_append, List.cons_append, List.append_nil, List.append_assoc, inR_i64, true_and, and_true, Int.toNat_natCast]
      try dsimp only [Ty.den, Ty.dflt]
      repeat' apply And.intro
      all_goals first | rfl | omega | assumption | trivial
    refine sw_seq ?_
    refine sw_cond rfl (fun c1 => ?_) (fun c1 => ?_)
    · skip
      have hlt : i < l.length := by simpa using c1
      have hg : (List.getD l i T_Put.dflt : Put) = l[i] := by rw [List.getD, List.getElem?_eq_getElem hlt]; rfl
      have hp := wait_at hw hlt
      rw [← hg] at hp
      have hbit : bitsOp .and .i64 (keep.fdiv (2 ^ (min i 64))) 1 = ((keep.toNat / 2 ^ i % 2 : Nat) : Int) := by rw [shr_bit h0 (by omega), and_one (by have := Nat.div_le_self keep.toNat (2 ^ i); omega)]
      have hdiv : keep.toNat / 2 ^ (i + 1) = keep.toNat / 2 ^ i / 2 := by rw [Nat.pow_succ, Nat.div_div_eq_div_mul]
      refine sw_skip ?_
      refine sw_seq ?_
      refine sw_block ?_
      refine sw_seq ?_
      refine sw_region hP 3 [] rfl (by kernel_rfl) (fun _ => by kernel_rfl) ?_ ?_
      · skip
        simp only [conj, List.nil_append, List.cons_append, List.append_nil, List.append_assoc, inR_i64, true_and, and_true, Int.toNat_natCast]
        try dsimp only [Ty.den, Ty.dflt]
        repeat' apply And.intro
        all_goals first | rfl | omega | assumption | trivial
      refine sw_seq ?_
      refine sw_region hP 4 [] rfl (by kernel_rfl) (fun _ => by kernel_rfl) ?_ ?_
      · skip
        simp only [conj, List.nil_append, List.cons_append, List.append_nil, List.append_assoc, inR_i64, true_and, and_true, Int.toNat_natCast]
        try dsimp only [Ty.den, Ty.dflt]
        repeat' apply And.intro
        all_goals first | rfl | omega | assumption | trivial
      refine sw_cond rfl (fun c3 => ?_) (fun c3 => ?_)
      · skip
        have hb : keep.toNat / 2 ^ i % 2 = 1 := by have h : bitsOp .and .i64 (keep.fdiv (2 ^ (min i 64))) 1 = 1 := of_decide_eq_true c3; omega
        have hnx := keep_hit hlt hb hgo
        rw [← hdiv, ← hg] at hnx
        replace hP := hP.andX (cCome_ok (st := st) (t := u) (l := l) (i := 0) (d := ⟨0, 0, 0⟩) (c := ⟨0, 0, 1⟩) hp)
        refine sw_region hP 5 [] rfl (by kernel_rfl) (fun _ => by kernel_rfl) ?_ ?_
        · skip
          simp only [conj, List.nil_append, List.cons_append, List.append_nil, List.append_assoc, inR_i64, true_and, and_true, Int.toNat_natCast]
          try dsimp only [Ty.den, Ty.dflt]
          repeat' apply And.intro
          all_goals first | rfl | omega | assumption | trivial
        refine sw_region hP 6 [] rfl (by kernel_rfl) (fun _ => by kernel_rfl) ?_ ?_
        · skip
          simp only [conj, List.nil_append, List.cons_append, List.append_nil, List.append_assoc, inR_i64, true_and, and_true, Int.toNat_natCast]
          try dsimp only [Ty.den, Ty.dflt]
          repeat' apply And.intro
          all_goals first | rfl | omega | assumption | trivial
        refine ⟨(i + 1, come (List.getD l i T_Put.dflt) u), ?_, ?_, ent_ok rfl ?_⟩
        · skip
          exact ⟨hlt, hnx⟩
        · skip
          show l.length - (i + 1) < l.length - i
          omega
        · skip
          simp [conj]
      · skip
        have hb : ¬ keep.toNat / 2 ^ i % 2 = 1 := by have h : ¬ bitsOp .and .i64 (keep.fdiv (2 ^ (min i 64))) 1 = 1 := of_decide_eq_false c3; omega
        have hnx := keep_no hlt hb hgo
        rw [← hdiv] at hnx
        refine sw_skip ?_
        refine sw_region hP 5 [] rfl (by kernel_rfl) (fun _ => by kernel_rfl) ?_ ?_
        · skip
          simp only [conj, List.nil_append, List.cons_append, List.append_nil, List.append_assoc, inR_i64, true_and, and_true, Int.toNat_natCast]
          try dsimp only [Ty.den, Ty.dflt]
          repeat' apply And.intro
          all_goals first | rfl | omega | assumption | trivial
        refine ⟨(i + 1, u), ?_, ?_, ent_ok rfl ?_⟩
        · skip
          exact ⟨hlt, hnx⟩
        · skip
          show l.length - (i + 1) < l.length - i
          omega
        · skip
          simp [conj]
    · skip
      obtain rfl : i = l.length := by simp at c1; omega
      refine sw_exit ?_
      refine sw_region hP 3 [] rfl (by kernel_rfl) (fun _ => by kernel_rfl) ?_ ?_
      · skip
        simp only [conj, List.nil_append, List.cons_append, List.append_nil, List.append_assoc, inR_i64, true_and, and_true, Int.toNat_natCast]
        try dsimp only [Ty.den, Ty.dflt]
        repeat' apply And.intro
        all_goals first | rfl | omega | assumption | trivial
      refine ⟨.inr rfl, _, rfl, ?_⟩
      have hv := keep_end hgo
      subst hv
      simp [conj]
end Go.Sx
