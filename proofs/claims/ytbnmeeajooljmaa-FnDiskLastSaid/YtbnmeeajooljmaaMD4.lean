import Derived.Test.YtbnmeeajooljmaaMD3
set_option linter.all false
namespace Go.Sx
open Go
set_option maxRecDepth 100000
set_option linter.unusedVariables false
set_option linter.unusedSimpArgs false

def cPut (st : Int) (t : Drv) (l : List Put) (p : Put) (d c : Id) : Xctr := ⟨37, [(d, ⟨0, 0, 0⟩, .var (drv st t (.chp ⟨0, 0, 1⟩ 0))), (c, ⟨0, 0, 1⟩, .ch true T_Put l)], [], [.v false [.ptr ⟨0, 0, 0⟩ 0], putA_ p], (.tup [], [(⟨0, 0, 0⟩, .var (drv st (putT l t) (.chp ⟨1, 0, 0⟩ 0))), (⟨1, 0, 0⟩, .ch true T_Put (putW l p))])⟩
theorem cPut_ok {st : Int} {t : Drv} {l : List Put} {p : Put} {d c : Id} (hw : l.any badP = false) (hl : l.length ≤ 40) (hs : ¬ st = 1) : XOk Proofs.Try.prog (cPut st t l p d c) := by
  have hP := ((Prg.none ttok mtok).andX (cWaits_ok (st := st) (t := t) (d := ⟨0, 0, 0⟩) (c := ⟨0, 0, 1⟩) (Nat.le_trans hl (by decide))))
  refine xctr_of_body hP (cPut st t l p d c) (fn := Proofs.Try.f37) (rts := []) Proofs.Try.func37 rfl (by kernel_rfl) rfl rfl ?_
  refine ⟨rfl, ?_⟩
  refine sw_seq ?_
  refine sw_region hP 1 [] rfl (by kernel_rfl) (fun _ => by kernel_rfl) (by first | trivial | (simp [conj]; done) | (simp [conj] at *; (try dsimp only [Ty.den, Ty.dflt] at *); omega)) ?_
  refine sw_seq ?_
  refine sw_seq ?_
  refine sw_region hP 2 [] rfl (by kernel_rfl) (fun _ => by kernel_rfl) (by first | trivial | (simp [conj]; done) | (simp [conj] at *; (try dsimp only [Ty.den, Ty.dflt] at *); omega)) ?_
  refine sw_cond rfl (fun c1 => ?_) (fun c1 => ?_)
  · skip
    have h : st = 1 := of_decide_eq_true c1
    exact (hs h).elim
  · skip
    refine sw_skip ?_
    refine sw_seq ?_
    refine sw_seq ?_
    refine sw_region hP 3 [] rfl (by kernel_rfl) (fun _ => by kernel_rfl) ?_ ?_
    · skip
      simp only [conj, List.nil_append, List.cons_append, List.append_nil, List.append_assoc, inR_i64, true_and, and_true, Int.toNat_natCast]
      try dsimp only [Ty.den, Ty.dflt]
      repeat' apply And.intro
      all_goals first | rfl | omega | assumption | trivial
    refine sw_cond rfl (fun c2 => ?_) (fun c2 => ?_)
    · skip
      replace c2 : l.length = 40 := by have h : ((l.length : Nat) : Int) = 40 := of_decide_eq_true c2; omega
      replace hP := hP.andX (cFlush_ok (st := st) (t := t) (l := l) (d := ⟨0, 0, 0⟩) (c := ⟨0, 0, 1⟩) hw)
      refine sw_region hP 4 [] rfl (by kernel_rfl) (fun _ => by kernel_rfl) ?_ ?_
      · skip
        simp only [conj, List.nil_append, List.cons_append, List.append_nil, List.append_assoc, inR_i64, true_and, and_true, Int.toNat_natCast]
        try dsimp only [Ty.den, Ty.dflt]
        repeat' apply And.intro
        all_goals first | rfl | omega | assumption | trivial
      refine sw_seq ?_
      refine sw_region hP 5 [] rfl (by kernel_rfl) (fun _ => by kernel_rfl) (by first | trivial | (simp [conj]; done) | (simp [conj] at *; (try dsimp only [Ty.den, Ty.dflt] at *); omega)) ?_
      refine sw_seq ?_
      refine sw_block ?_
      refine sw_loop (ι := Nat) (fun i => ⟨[.junk, .junk, .junk, .v false [.ptr ⟨1, 0, 0⟩ 0], .v false [.lnk ⟨0, 0, 0⟩ 27 ⟨0, 9, 0⟩ i 3], .junk, .junk, .junk, .junk, .junk, .junk, .junk, .junk, .junk, .junk, .junk, .junk, .junk, .junk, .junk, .junk, .junk, .junk, .junk, .junk, .junk, .junk, .junk, .junk, .junk, .junk, .junk, .junk, .junk], [(⟨0, 0, 0⟩, .var (drv st (comes l t) (.chp ⟨0, 9, 0⟩ 0))), (⟨0, 9, 0⟩, .ch true T_Put ([] : List Put)), (⟨1, 0, 0⟩, .var [.d .bool pF p.1, .d TI pF p.2.1, .d .str pF p.2.2])], 5, [[.v false [.ptr ⟨0, 0, 0⟩ 0], .junk]]⟩) (fun i => ([] : List Put).length - i) (fun i => i ≤ ([] : List Put).length) 0 ⟨?_, ?_⟩ ?_
      · skip
        exact Nat.zero_le _
      · refine ent_ok rfl ?_
        first | trivial | (simp [conj]; done) | (simp [conj] at *; (try dsimp only [Ty.den, Ty.dflt] at *); omega)
      · rintro i hi
        refine sw_seq ?_
        refine sw_seq ?_
        refine sw_region hP 6 [] rfl (by kernel_rfl) (fun _ => by kernel_rfl) ?_ ?_
        · skip
          simp [conj]
          simpa using hi
        refine sw_cond rfl (fun c5 => ?_) (fun c5 => ?_)
        · skip
          have hlt : i < ([] : List Put).length := by simp at c5; exact absurd c5 (by simp at hi; omega)
          refine sw_skip ?_
          refine sw_block ?_
          refine sw_region hP 7 [] rfl (by kernel_rfl) (fun _ => by kernel_rfl) ?_ ?_
          · skip
            simp [conj]
            first | exact ⟨hi, hlt⟩ | exact hlt | (simpa using hlt)
          refine ⟨i + 1, ?_, ?_, ent_ok rfl ?_⟩
          · skip
            exact hlt
          · skip
            omega
          · skip
            simp [conj]
        · skip
          have hie : i = ([] : List Put).length := by simp at c5 ⊢; omega
          refine sw_exit ?_
          refine sw_region hP 7 [] rfl (by kernel_rfl) (fun _ => by kernel_rfl) ?_ ?_
          · skip
            simp [conj]
            simpa using hie
          refine ⟨.inr rfl, _, rfl, ?_⟩
          simp [conj, putT_full c2, putW_full c2]
    · skip
      replace c2 : ¬ l.length = 40 := by have h : ¬ ((l.length : Nat) : Int) = 40 := of_decide_eq_false c2; omega
      refine sw_skip ?_
      refine sw_seq ?_
      refine sw_region hP 4 [] rfl (by kernel_rfl) (fun _ => by kernel_rfl) (by first | trivial | (simp [conj]; done) | (simp [conj] at *; (try dsimp only [Ty.den, Ty.dflt] at *); omega)) ?_
      refine sw_seq ?_
      refine sw_block ?_
      refine sw_loop (ι := Nat) (fun i => ⟨[.junk, .junk, .junk, .v false [.ptr ⟨1, 0, 0⟩ 0], .v false [.lnk ⟨0, 0, 0⟩ 27 ⟨0, 9, 0⟩ i 3], .junk, .junk, .junk, .junk, .junk, .junk, .junk, .junk, .junk, .junk, .junk, .junk, .junk, .junk, .junk, .junk, .junk, .junk, .junk, .junk, .junk, .junk, .junk, .junk, .junk, .junk, .junk, .junk, .junk], [(⟨0, 0, 0⟩, .var (drv st t (.chp ⟨0, 9, 0⟩ 0))), (⟨0, 9, 0⟩, .ch true T_Put l), (⟨1, 0, 0⟩, .var [.d .bool pF p.1, .d TI pF p.2.1, .d .str pF p.2.2])], 4, [[.v false [.ptr ⟨0, 0, 0⟩ 0], .junk]]⟩) (fun i => l.length - i) (fun i => i ≤ l.length) 0 ⟨?_, ?_⟩ ?_
      · skip
        exact Nat.zero_le _
      · refine ent_ok rfl ?_
        first | trivial | (simp [conj]; done) | (simp [conj] at *; (try dsimp only [Ty.den, Ty.dflt] at *); omega)
      · rintro i hi
        refine sw_seq ?_
        refine sw_seq ?_
        refine sw_region hP 5 [] rfl (by kernel_rfl) (fun _ => by kernel_rfl) ?_ ?_
        · skip
          simp [conj]
          simpa using hi
        refine sw_cond rfl (fun c5 => ?_) (fun c5 => ?_)
        · skip
          have hlt : i < l.length := by simp at c5; omega
          refine sw_skip ?_
          refine sw_block ?_
          refine sw_region hP 6 [] rfl (by kernel_rfl) (fun _ => by kernel_rfl) ?_ ?_
          · skip
            simp [conj]
            first | exact ⟨hi, hlt⟩ | exact hlt | (simpa using hlt)
          refine ⟨i + 1, ?_, ?_, ent_ok rfl ?_⟩
          · skip
            exact hlt
          · skip
            omega
          · skip
            simp [conj]
        · skip
          have hie : i = l.length := by simp at c5 ⊢; omega
          refine sw_exit ?_
          refine sw_region hP 6 [] rfl (by kernel_rfl) (fun _ => by kernel_rfl) ?_ ?_
          · skip
            simp [conj]
            simpa using hie
          refine ⟨.inr rfl, _, rfl, ?_⟩
          simp [conj, putT_room c2, putW_room c2]

def cPutG (st : Int) (t : Drv) (l : List Put) (p : Put) (d c : Id) : Xctr := ⟨37, [(d, ⟨0, 0, 0⟩, .var (drv st t (.chp ⟨0, 0, 1⟩ 0))), (c, ⟨0, 0, 1⟩, .ch true T_Put l)], [], [.v false [.ptr ⟨0, 0, 0⟩ 0], putA_ p], (.tup [], [(⟨0, 0, 0⟩, .var (drv st t (.chp ⟨1, 0, 0⟩ 0))), (⟨1, 0, 0⟩, .ch true T_Put l)])⟩
theorem cPutG_ok {st : Int} {t : Drv} {l : List Put} {p : Put} {d c : Id} (hw : l.any badP = false) (hl : l.length ≤ 40) (hs : st = 1) : XOk Proofs.Try.prog (cPutG st t l p d c) := by
  have hP := ((Prg.none ttok mtok).andX (cWaits_ok (st := st) (t := t) (d := ⟨0, 0, 0⟩) (c := ⟨0, 0, 1⟩) (Nat.le_trans hl (by decide))))
  refine xctr_of_body hP (cPutG st t l p d c) (fn := Proofs.Try.f37) (rts := []) Proofs.Try.func37 rfl (by kernel_rfl) rfl rfl ?_
  refine ⟨rfl, ?_⟩
  refine sw_seq ?_
  refine sw_region hP 1 [] rfl (by kernel_rfl) (fun _ => by kernel_rfl) (by first | trivial | (simp [conj]; done) | (simp [conj] at *; (try dsimp only [Ty.den, Ty.dflt] at *); omega)) ?_
  refine sw_seq ?_
  refine sw_seq ?_
  refine sw_region hP 2 [] rfl (by kernel_rfl) (fun _ => by kernel_rfl) (by first | trivial | (simp [conj]; done) | (simp [conj] at *; (try dsimp only [Ty.den, Ty.dflt] at *); omega)) ?_
  refine sw_cond rfl (fun c1 => ?_) (fun c1 => ?_)
  · skip
    refine sw_ret ⟨.inl rfl, _, rfl, ?_⟩
    simp [conj]
  · skip
    have h : ¬ st = 1 := of_decide_eq_false c1
    exact (h hs).elim

def cSeen (st : Int) (t : Drv) (l : List Put) (at_ : Int) (d c : Id) : Xctr := ⟨40, [], [(d, ⟨0, 0, 0⟩, .lvar (drv st t (.chp ⟨0, 0, 1⟩ 0))), (c, ⟨0, 0, 1⟩, .ch false T_Put l)], [.v false [.ptr ⟨0, 0, 0⟩ 0], sInt .i64 at_], (sStr (seenV t l at_), [])⟩
theorem cSeen_ok {st : Int} {t : Drv} {l : List Put} {at_ : Int} {d c : Id} (hl : l.length ≤ 40) (h0 : 0 ≤ at_) (h1 : at_ < 12) : XOk Proofs.Try.prog (cSeen st t l at_ d c) := by
  have hP := ((Prg.none ttok mtok).andX (cWaits_ok (st := st) (t := t) (d := ⟨0, 0, 0⟩) (c := ⟨0, 0, 1⟩) (Nat.le_trans hl (by decide))))
  refine xctr_of_body hP (cSeen st t l at_ d c) (fn := Proofs.Try.f40) (rts := [.tmp 4]) Proofs.Try.func40 rfl (by kernel_rfl) rfl rfl ?_
  refine ⟨rfl, ?_⟩
  refine sw_seq ?_
  refine sw_region hP 1 [] rfl (by kernel_rfl) (fun _ => by kernel_rfl) (by first | trivial | (simp [conj]; done) | (simp [conj] at *; (try dsimp only [Ty.den, Ty.dflt] at *); omega)) ?_
  refine sw_seq ?_
  refine sw_region hP 2 [] rfl (by kernel_rfl) (fun _ => by kernel_rfl) ?_ ?_
  · skip
    simp only [conj, List.nil_append, List.cons_append, List.append_nil, List.append_assoc, inR_i64, true_and, and_true, Int.toNat_natCast]
    try dsimp only [Ty.den, Ty.dflt]
    repeat' apply And.intro
    all_goals first | rfl | omega | assumption | trivial
  refine sw_seq ?_
  refine sw_seq ?_
  refine sw_region hP 3 [] rfl (by kernel_rfl) (fun _ => by kernel_rfl) ?_ ?_
  · skip
    simp only [conj, List.nil_append, List.cons_append, List.append_nil, List.append_assoc, inR_i64, true_and, and_true, Int.toNat_natCast]
    try dsimp only [Ty.den, Ty.dflt]
    repeat' apply And.intro
    all_goals first | rfl | omega | assumption | trivial
  refine sw_block ?_
  refine sw_loop (ι := Nat × Str) (fun ⟨i, s⟩ => ⟨[.v false [.ptr ⟨0, 0, 0⟩ 0], sInt .i64 at_, .junk, .junk, .junk, sStr s, .junk, .junk, .junk, .junk, .junk, .junk, .junk, .junk, .junk, .v false [.own ⟨0, 9, 0⟩], sInt .i64 (l.length : Int), sInt .i64 (i : Int), .junk, .junk, .junk, .junk, .junk, .junk, .junk, .junk, .junk, .junk, .junk, .junk, .junk, .junk, .junk, .junk], [(⟨0, 0, 0⟩, .lvar (drv st t (.chp ⟨0, 0, 1⟩ 0))), (⟨0, 0, 1⟩, .ch false T_Put l), (⟨0, 9, 0⟩, .sl T_Put (.all .w) l)], 3, [[.v false [.ptr ⟨0, 0, 0⟩ 0], .junk]]⟩) (fun ⟨i, s⟩ => l.length - i) (fun ⟨i, s⟩ => i ≤ l.length ∧ seenGo at_ (l.drop i) s = seenV t l at_) (0, t.1.getD at_.toNat []) ⟨?_, ?_⟩ ?_
  · skip
    exact ⟨Nat.zero_le _, rfl⟩
  · refine ent_ok rfl ?_
    first | trivial | (simp [conj]; done) | (simp [conj] at *; (try dsimp only [Ty.den, Ty.dflt] at *); omega)
  · rintro ⟨i, s⟩ ⟨hi, hgo⟩
    refine sw_seq ?_
    refine sw_region hP 4 [] rfl (by kernel_rfl) (fun _ => by kernel_rfl) (by first | trivial | (simp [conj]; done) | (simp [conj] at *; (try dsimp only [Ty.den, Ty.dflt] at *); omega)) ?_
    refine sw_seq ?_
    refine sw_cond rfl (fun c3 => ?_) (fun c3 => ?_)
    · skip
      have hlt : i < l.length := by simpa using c3
      refine sw_skip ?_
      refine sw_seq ?_
      refine sw_block ?_
      refine sw_seq ?_
      refine sw_region hP 5 [] rfl (by kernel_rfl) (fun _ => by kernel_rfl) ?_ ?_
      · skip
        simp only [conj, List.nil_append, List.cons_append, List.append_nil, List.append_assoc, inR_i64, true_and, and_true, Int.toNat_natCast]
        try dsimp only [Ty.den, Ty.dflt]
        repeat' apply And.intro
        all_goals first | rfl | omega | assumption | trivial
      refine sw_seq ?_
      refine sw_dec hP 6 [] 3 rfl (fun g5_3 => ?_) (fun g5_3 => ?_)
      · skip
        replace g5_3 : l[i].1 = false := by simpa [List.getElem?_eq_getElem hlt] using g5_3
        refine sw_region hP 6 [(3, true)] rfl (by kernel_rfl) (fun _ => by kernel_rfl) ?_ ?_
        · skip
          simp [conj, List.getElem?_eq_getElem hlt]
          try assumption
          try (simpa using g5_3)
        refine sw_cond rfl (fun c5 => ?_) (fun c5 => ?_)
        · skip
          replace c5 : l[i].2.1 = at_ := by simpa [List.getElem?_eq_getElem hlt] using c5
          have hn := seen_next hlt hgo
          rw [if_pos ⟨g5_3, c5⟩] at hn
          refine sw_region hP 7 [] rfl (by kernel_rfl) (fun _ => by kernel_rfl) (by first | trivial | (simp [conj]; done) | (simp [conj] at *; (try dsimp only [Ty.den, Ty.dflt] at *); omega)) ?_
          refine sw_region hP 8 [] rfl (by kernel_rfl) (fun _ => by kernel_rfl) (by first | trivial | (simp [conj]; done) | (simp [conj] at *; (try dsimp only [Ty.den, Ty.dflt] at *); omega)) ?_
          refine ⟨(i + 1, l[i].2.2), ?_, ?_, ent_ok rfl ?_⟩
          · skip
            exact ⟨hlt, hn⟩
          · skip
            show l.length - (i + 1) < l.length - i
            omega
          · skip
            simp [conj, List.getElem?_eq_getElem hlt]
        · skip
          replace c5 : ¬ l[i].2.1 = at_ := by simpa [List.getElem?_eq_getElem hlt] using c5
          have hn := seen_next hlt hgo
          rw [if_neg (fun h => c5 h.2)] at hn
          refine sw_skip ?_
          refine sw_region hP 7 [] rfl (by kernel_rfl) (fun _ => by kernel_rfl) (by first | trivial | (simp [conj]; done) | (simp [conj] at *; (try dsimp only [Ty.den, Ty.dflt] at *); omega)) ?_
          refine ⟨(i + 1, s), ?_, ?_, ent_ok rfl ?_⟩
          · skip
            exact ⟨hlt, hn⟩
          · skip
            show l.length - (i + 1) < l.length - i
            omega
          · skip
            simp [conj, List.getElem?_eq_getElem hlt]
      · skip
        replace g5_3 : ¬ l[i].1 = false := by simpa [List.getElem?_eq_getElem hlt] using g5_3
        have hn := seen_next hlt hgo
        rw [if_neg (fun h => g5_3 h.1)] at hn
        refine sw_region hP 6 [(3, false)] rfl (by kernel_rfl) (fun _ => by kernel_rfl) ?_ ?_
        · skip
          simp [conj, List.getElem?_eq_getElem hlt]
          try assumption
          try (simpa using g5_3)
        refine sw_condF rfl ?_
        refine sw_skip ?_
        refine sw_region hP 7 [] rfl (by kernel_rfl) (fun _ => by kernel_rfl) (by first | trivial | (simp [conj]; done) | (simp [conj] at *; (try dsimp only [Ty.den, Ty.dflt] at *); omega)) ?_
        refine ⟨(i + 1, s), ?_, ?_, ent_ok rfl ?_⟩
        · skip
          exact ⟨hlt, hn⟩
        · skip
          show l.length - (i + 1) < l.length - i
          omega
        · skip
          simp [conj, List.getElem?_eq_getElem hlt]
    · skip
      obtain rfl : i = l.length := by simp at c3; omega
      refine sw_exit ?_
      refine sw_seq ?_
      refine sw_region hP 5 [] rfl (by kernel_rfl) (fun _ => by kernel_rfl) (by first | trivial | (simp [conj]; done) | (simp [conj] at *; (try dsimp only [Ty.den, Ty.dflt] at *); omega)) ?_
      refine sw_ret ⟨.inl rfl, _, rfl, ?_⟩
      have hv := seen_end hgo
      subst hv
      simp [conj]

def cClCrash (st : Int) (t : Drv) (l : List Put) (keep : Int) (d c : Id) : Xctr := ⟨26, [(d, ⟨0, 0, 0⟩, .var (drv st t (.chp ⟨0, 0, 1⟩ 0))), (c, ⟨0, 0, 1⟩, .ch true T_Put l)], [], [.v false [.ptr ⟨0, 0, 0⟩ 0], .v false [.rpt .b TI pF keep]],
  (.v false [.kb true], [(⟨0, 0, 0⟩, .var (drv st (comes (keepB keep.toNat l) t) (.chp ⟨1, 0, 0⟩ 0))), (⟨1, 0, 0⟩, .ch true T_Put [])])⟩
theorem cClCrash_ok {st : Int} {t : Drv} {l : List Put} {keep : Int} {d c : Id} (hw : l.any badP = false) (hl : l.length ≤ 40) (h0 : 0 ≤ keep) (h1 : keep ≤ 9223372036854775807) : XOk Proofs.Try.prog (cClCrash st t l keep d c) := by
  have hP := ((Prg.none ttok mtok).andX (cCrash_ok (st := st) (t := t) (d := ⟨0, 0, 0⟩) (c := ⟨0, 0, 1⟩) hw hl h0 h1))
  refine xctr_of_body hP (cClCrash st t l keep d c) (fn := Proofs.Try.f26) (rts := [.tmp 3]) Proofs.Try.func26 rfl (by kernel_rfl) rfl rfl ?_
  refine ⟨rfl, ?_⟩
  refine sw_seq ?_
  refine sw_region hP 1 [] rfl (by kernel_rfl) (fun _ => by kernel_rfl) (by first | trivial | (simp [conj]; done) | (simp [conj] at *; (try dsimp only [Ty.den, Ty.dflt] at *); omega)) ?_
  refine sw_seq ?_
  refine sw_seq ?_
  refine sw_region hP 2 [] rfl (by kernel_rfl) (fun _ => by kernel_rfl) (by first | trivial | (simp [conj]; done) | (simp [conj] at *; (try dsimp only [Ty.den, Ty.dflt] at *); omega)) ?_
  refine sw_cond rfl (fun c1 => ?_) (fun c1 => ?_)
  · skip
    have h : keep < 0 := of_decide_eq_true c1
    omega
  · skip
    refine sw_skip ?_
    refine sw_seq ?_
    refine sw_region hP 3 [] rfl (by kernel_rfl) (fun _ => by kernel_rfl) ?_ ?_
    · skip
      simp only [conj, List.nil_append, List.cons_append, List.append_nil, List.append_assoc, inR_i64, true_and, and_true, Int.toNat_natCast]
      try dsimp only [Ty.den, Ty.dflt]
      repeat' apply And.intro
      all_goals first | rfl | omega | assumption | trivial
    refine sw_seq ?_
    refine sw_region hP 4 [] rfl (by kernel_rfl) (fun _ => by kernel_rfl) (by first | trivial | (simp [conj]; done) | (simp [conj] at *; (try dsimp only [Ty.den, Ty.dflt] at *); omega)) ?_
    refine sw_ret ⟨.inl rfl, _, rfl, ?_⟩
    simp [conj]

def cClCrashN (st : Int) (t : Drv) (l : List Put) (keep : Int) (d c : Id) : Xctr := ⟨26, [(d, ⟨0, 0, 0⟩, .var (drv st t (.chp ⟨0, 0, 1⟩ 0))), (c, ⟨0, 0, 1⟩, .ch true T_Put l)], [], [.v false [.ptr ⟨0, 0, 0⟩ 0], .v false [.rpt .b TI pF keep]],
  (.v false [.kb false], [(⟨0, 0, 0⟩, .var (drv st t (.chp ⟨1, 0, 0⟩ 0))), (⟨1, 0, 0⟩, .ch true T_Put l)])⟩
theorem cClCrashN_ok {st : Int} {t : Drv} {l : List Put} {keep : Int} {d c : Id} (hn : ¬ 0 ≤ keep) : XOk Proofs.Try.prog (cClCrashN st t l keep d c) := by
  have hP := (Prg.none ttok mtok)
  refine xctr_of_body hP (cClCrashN st t l keep d c) (fn := Proofs.Try.f26) (rts := [.tmp 3]) Proofs.Try.func26 rfl (by kernel_rfl) rfl rfl ?_
  refine ⟨rfl, ?_⟩
  refine sw_seq ?_
  refine sw_region hP 1 [] rfl (by kernel_rfl) (fun _ => by kernel_rfl) (by first | trivial | (simp [conj]; done) | (simp [conj] at *; (try dsimp only [Ty.den, Ty.dflt] at *); omega)) ?_
  refine sw_seq ?_
  refine sw_seq ?_
  refine sw_region hP 2 [] rfl (by kernel_rfl) (fun _ => by kernel_rfl) (by first | trivial | (simp [conj]; done) | (simp [conj] at *; (try dsimp only [Ty.den, Ty.dflt] at *); omega)) ?_
  refine sw_cond rfl (fun c1 => ?_) (fun c1 => ?_)
  · skip
    refine sw_seq ?_
    refine sw_region hP 3 [] rfl (by kernel_rfl) (fun _ => by kernel_rfl) (by first | trivial | (simp [conj]; done) | (simp [conj] at *; (try dsimp only [Ty.den, Ty.dflt] at *); omega)) ?_
    refine sw_ret ⟨.inl rfl, _, rfl, ?_⟩
    simp [conj]
  · skip
    have h : ¬ keep < 0 := of_decide_eq_false c1
    omega

def cClFlush (st : Int) (t : Drv) (l : List Put) (d c : Id) : Xctr := ⟨32, [(d, ⟨0, 0, 0⟩, .var (drv st t (.chp ⟨0, 0, 1⟩ 0))), (c, ⟨0, 0, 1⟩, .ch true T_Put l)], [], [.v false [.ptr ⟨0, 0, 0⟩ 0]],
  (.v false [.kb true], [(⟨0, 0, 0⟩, .var (drv st (comes l t) (.chp ⟨1, 0, 0⟩ 0))), (⟨1, 0, 0⟩, .ch true T_Put [])])⟩
theorem cClFlush_ok {st : Int} {t : Drv} {l : List Put} {d c : Id} (hw : l.any badP = false) : XOk Proofs.Try.prog (cClFlush st t l d c) := by
  have hP := ((Prg.none ttok mtok).andX (cFlush_ok (st := st) (t := t) (d := ⟨0, 0, 0⟩) (c := ⟨0, 0, 1⟩) hw))
  refine xctr_of_body hP (cClFlush st t l d c) (fn := Proofs.Try.f32) (rts := [.tmp 2]) Proofs.Try.func32 rfl (by kernel_rfl) rfl rfl ?_
  refine ⟨rfl, ?_⟩
  refine sw_seq ?_
  refine sw_region hP 1 [] rfl (by kernel_rfl) (fun _ => by kernel_rfl) (by first | trivial | (simp [conj]; done) | (simp [conj] at *; (try dsimp only [Ty.den, Ty.dflt] at *); omega)) ?_
  refine sw_seq ?_
  refine sw_region hP 2 [] rfl (by kernel_rfl) (fun _ => by kernel_rfl) ?_ ?_
  · skip
    simp only [conj, List.nil_append, List.cons_append, List.append_nil, List.append_assoc, inR_i64, true_and, and_true, Int.toNat_natCast]
    try dsimp only [Ty.den, Ty.dflt]
    repeat' apply And.intro
    all_goals first | rfl | omega | assumption | trivial
  refine sw_seq ?_
  refine sw_region hP 3 [] rfl (by kernel_rfl) (fun _ => by kernel_rfl) (by first | trivial | (simp [conj]; done) | (simp [conj] at *; (try dsimp only [Ty.den, Ty.dflt] at *); omega)) ?_
  refine sw_ret ⟨.inl rfl, _, rfl, ?_⟩
  simp [conj]

def cClPut (st : Int) (t : Drv) (l : List Put) (p : Put) (d c : Id) : Xctr := ⟨35, [(d, ⟨0, 0, 0⟩, .var (drv st t (.chp ⟨0, 0, 1⟩ 0))), (c, ⟨0, 0, 1⟩, .ch true T_Put l)], [], [.v false [.ptr ⟨0, 0, 0⟩ 0], .v false [.rpt .b T_Put pF p]],
  (.v false [.kb true], [(⟨0, 0, 0⟩, .var (drv st (putU st l t) (.chp ⟨1, 0, 0⟩ 0))), (⟨1, 0, 0⟩, .ch true T_Put (putM st l p))])⟩
theorem cClPut_ok {st : Int} {t : Drv} {l : List Put} {p : Put} {d c : Id} (hw : l.any badP = false) (hl : l.length ≤ 40) (hp : putV p = true) : XOk Proofs.Try.prog (cClPut st t l p d c) := by
  have hP := ((Prg.none ttok mtok).and cPutOk_ok)
  refine xctr_of_body hP (cClPut st t l p d c) (fn := Proofs.Try.f35) (rts := [.tmp 3]) Proofs.Try.func35 rfl (by kernel_rfl) rfl rfl ?_
  refine ⟨rfl, ?_⟩
  by_cases hs : st = 1
  · skip
    replace hP := hP.andX (cPutG_ok (st := st) (t := t) (p := p) (d := ⟨0, 0, 0⟩) (c := ⟨0, 0, 1⟩) hw hl hs)
    refine sw_seq ?_
    refine sw_region hP 1 [] rfl (by kernel_rfl) (fun _ => by kernel_rfl) (by first | trivial | (simp [conj]; done) | (simp [conj] at *; (try dsimp only [Ty.den, Ty.dflt] at *); omega)) ?_
    refine sw_seq ?_
    refine sw_seq ?_
    refine sw_region hP 2 [] rfl (by kernel_rfl) (fun _ => by kernel_rfl) ?_ ?_
    · skip
      simp [conj, maxL]
      try dsimp only [Ty.den, Ty.dflt]
      try simp only [rd_eta]
      repeat' apply And.intro
      all_goals first | rfl | assumption | omega | trivial
    refine sw_cond rfl (fun c1 => ?_) (fun c1 => ?_)
    · skip
      have h : (!putV p) = true := c1
      rw [hp] at h
      cases h
    · skip
      refine sw_skip ?_
      refine sw_seq ?_
      refine sw_region hP 3 [] rfl (by kernel_rfl) (fun _ => by kernel_rfl) ?_ ?_
      · skip
        simp only [conj, List.nil_append, List.cons_append, List.append_nil, List.append_assoc, inR_i64, true_and, and_true, Int.toNat_natCast]
        try dsimp only [Ty.den, Ty.dflt]
        repeat' apply And.intro
        all_goals first | rfl | omega | assumption | trivial
      refine sw_seq ?_
      refine sw_region hP 4 [] rfl (by kernel_rfl) (fun _ => by kernel_rfl) (by first | trivial | (simp [conj]; done) | (simp [conj] at *; (try dsimp only [Ty.den, Ty.dflt] at *); omega)) ?_
      refine sw_ret ⟨.inl rfl, _, rfl, ?_⟩
      simp [conj, putU_gone hs, putM_gone hs]
  · skip
    replace hP := hP.andX (cPut_ok (st := st) (t := t) (p := p) (d := ⟨0, 0, 0⟩) (c := ⟨0, 0, 1⟩) hw hl hs)
    refine sw_seq ?_
    refine sw_region hP 1 [] rfl (by kernel_rfl) (fun _ => by kernel_rfl) (by first | trivial | (simp [conj]; done) | (simp [conj] at *; (try dsimp only [Ty.den, Ty.dflt] at *); omega)) ?_
    refine sw_seq ?_
    refine sw_seq ?_
    refine sw_region hP 2 [] rfl (by kernel_rfl) (fun _ => by kernel_rfl) ?_ ?_
    · skip
      simp [conj, maxL]
      try dsimp only [Ty.den, Ty.dflt]
      try simp only [rd_eta]
      repeat' apply And.intro
      all_goals first | rfl | assumption | omega | trivial
    refine sw_cond rfl (fun c1 => ?_) (fun c1 => ?_)
    · skip
      have h : (!putV p) = true := c1
      rw [hp] at h
      cases h
    · skip
      refine sw_skip ?_
      refine sw_seq ?_
      refine sw_region hP 3 [] rfl (by kernel_rfl) (fun _ => by kernel_rfl) ?_ ?_
      · skip
        simp only [conj, List.nil_append, List.cons_append, List.append_nil, List.append_assoc, inR_i64, true_and, and_true, Int.toNat_natCast]
        try dsimp only [Ty.den, Ty.dflt]
        repeat' apply And.intro
        all_goals first | rfl | omega | assumption | trivial
      refine sw_seq ?_
      refine sw_region hP 4 [] rfl (by kernel_rfl) (fun _ => by kernel_rfl) (by first | trivial | (simp [conj]; done) | (simp [conj] at *; (try dsimp only [Ty.den, Ty.dflt] at *); omega)) ?_
      refine sw_ret ⟨.inl rfl, _, rfl, ?_⟩
      simp [conj, putU_live hs, putM_live hs]

def cClPutN (st : Int) (t : Drv) (l : List Put) (p : Put) (d c : Id) : Xctr := ⟨35, [(d, ⟨0, 0, 0⟩, .var (drv st t (.chp ⟨0, 0, 1⟩ 0))), (c, ⟨0, 0, 1⟩, .ch true T_Put l)], [], [.v false [.ptr ⟨0, 0, 0⟩ 0], .v false [.rpt .b T_Put pF p]],
  (.v false [.kb false], [(⟨0, 0, 0⟩, .var (drv st t (.chp ⟨1, 0, 0⟩ 0))), (⟨1, 0, 0⟩, .ch true T_Put l)])⟩
theorem cClPutN_ok {st : Int} {t : Drv} {l : List Put} {p : Put} {d c : Id} (hn : ¬ putV p = true) : XOk Proofs.Try.prog (cClPutN st t l p d c) := by
  have hP := ((Prg.none ttok mtok).and cPutOk_ok)
  refine xctr_of_body hP (cClPutN st t l p d c) (fn := Proofs.Try.f35) (rts := [.tmp 3]) Proofs.Try.func35 rfl (by kernel_rfl) rfl rfl ?_
  refine ⟨rfl, ?_⟩
  refine sw_seq ?_
  refine sw_region hP 1 [] rfl (by kernel_rfl) (fun _ => by kernel_rfl) (by first | trivial | (simp [conj]; done) | (simp [conj] at *; (try dsimp only [Ty.den, Ty.dflt] at *); omega)) ?_
  refine sw_seq ?_
  refine sw_seq ?_
  refine sw_region hP 2 [] rfl (by kernel_rfl) (fun _ => by kernel_rfl) ?_ ?_
  · skip
    simp [conj, maxL]
    try dsimp only [Ty.den, Ty.dflt]
    try simp only [rd_eta]
    repeat' apply And.intro
    all_goals first | rfl | assumption | omega | trivial
  refine sw_cond rfl (fun c1 => ?_) (fun c1 => ?_)
  · skip
    refine sw_seq ?_
    refine sw_region hP 3 [] rfl (by kernel_rfl) (fun _ => by kernel_rfl) (by first | trivial | (simp [conj]; done) | (simp [conj] at *; (try dsimp only [Ty.den, Ty.dflt] at *); omega)) ?_
    refine sw_ret ⟨.inl rfl, _, rfl, ?_⟩
    simp [conj]
  · skip
    have h : (!putV p) = false := c1
    exact (hn (by simpa using h)).elim
end Go.Sx
