import Derived.Test.YtdoennebblhfbaaMBase
set_option linter.all false
namespace Go.Sx
open Go
set_option maxRecDepth 100000
set_option linter.unusedVariables false
set_option linter.unusedSimpArgs false

def cOpen : Ctr := ⟨22, [.val false TB pF], fun _ => True, fun x => (.v false [.ptr ⟨1, 0, 0⟩ 0], [(⟨1, 0, 0⟩, rdA (List.take 2000 x.1, 0))])⟩
theorem cOpen_ok : CtrOk Proofs.Try.prog cOpen := by
  have hP := (Prg.none ttok mtok)
  refine ctr_of_body hP cOpen (fn := Proofs.Try.f22) (rts := [.tmp 2]) Proofs.Try.func22 rfl (by kernel_rfl) rfl rfl ?_
  rintro ⟨(code : List Int), ⟨⟩⟩ hd hpre
  try dsimp only [Ty.den, Mode.den, mdens] at hpre
  refine ⟨rfl, ?_⟩
  refine sw_seq ?_
  refine sw_region hP 1 [] rfl (by kernel_rfl) (fun _ => by kernel_rfl) (by first | trivial | (simp [conj]; done) | (simp [conj] at *; (try dsimp only [Ty.den, Ty.dflt] at *); omega)) ?_
  refine sw_seq ?_
  refine sw_seq ?_
  refine sw_region hP 2 [] rfl (by kernel_rfl) (fun _ => by kernel_rfl) (by first | trivial | (simp [conj]; done) | (simp [conj] at *; (try dsimp only [Ty.den, Ty.dflt] at *); omega)) ?_
  refine sw_cond rfl (fun c1 => ?_) (fun c1 => ?_)
  · skip
    refine sw_region hP 3 [] rfl (by kernel_rfl) (fun _ => by kernel_rfl) (by first | trivial | (simp [conj]; done) | (simp [conj] at *; (try dsimp only [Ty.den, Ty.dflt] at *); omega)) ?_
    refine sw_seq ?_
    refine sw_region hP 4 [] rfl (by kernel_rfl) (fun _ => by kernel_rfl) (by first | trivial | (simp [conj]; done) | (simp [conj] at *; (try dsimp only [Ty.den, Ty.dflt] at *); omega)) ?_
    refine sw_ret ⟨.inl rfl, _, rfl, ?_⟩
    simp [conj] at *
    try (rw [List.take_of_length_le (by omega)])
  · skip
    refine sw_skip ?_
    refine sw_seq ?_
    refine sw_region hP 3 [] rfl (by kernel_rfl) (fun _ => by kernel_rfl) (by first | trivial | (simp [conj]; done) | (simp [conj] at *; (try dsimp only [Ty.den, Ty.dflt] at *); omega)) ?_
    refine sw_ret ⟨.inl rfl, _, rfl, ?_⟩
    simp [conj] at *
    try (rw [List.take_of_length_le (by omega)])

def cPick : Ctr := ⟨25, [.ref T_l6Rd pF, .val false TI pF], fun x => ROk x.1 1, fun x => (sInt .i64 (pk x.1 x.2.1), [(⟨0, 0, 0⟩, rdA (nx x.1))])⟩
theorem cPick_ok : CtrOk Proofs.Try.prog cPick := by
  have hP := (Prg.none ttok mtok)
  refine ctr_of_body hP cPick (fn := Proofs.Try.f25) (rts := [.tmp 4]) Proofs.Try.func25 rfl (by kernel_rfl) rfl rfl ?_
  rintro ⟨⟨(b : List Int), (p : Int)⟩, (n : Int), ⟨⟩⟩ hd hpre
  try dsimp only [Ty.den, Mode.den, mdens] at hpre
  refine ⟨rfl, ?_⟩
  have h0 : 0 ≤ p := hpre.p0
  have h1 : p + 1 ≤ 1099511627776 := hpre.p1
  have hl : b.length ≤ 2000 := hpre.len
  have hb : BOk b := hpre.b
  refine sw_seq ?_
  refine sw_region hP 1 [] rfl (by kernel_rfl) (fun _ => by kernel_rfl) (by first | trivial | (simp [conj]; done) | (simp [conj] at *; (try dsimp only [Ty.den, Ty.dflt] at *); omega)) ?_
  refine sw_seq ?_
  refine sw_region hP 2 [] rfl (by kernel_rfl) (fun _ => by kernel_rfl) (by first | trivial | (simp [conj]; done) | (simp [conj] at *; (try dsimp only [Ty.den, Ty.dflt] at *); omega)) ?_
  refine sw_seq ?_
  refine sw_seq ?_
  refine sw_dec hP 3 [] 2 rfl (fun g2_2 => ?_) (fun g2_2 => ?_)
  · skip
    refine sw_region hP 3 [(2, true)] rfl (by kernel_rfl) (fun _ => by kernel_rfl) (by first | trivial | (simp [conj]; done) | (simp [conj] at *; (try dsimp only [Ty.den, Ty.dflt] at *); omega)) ?_
    refine sw_condT rfl ?_
    refine sw_seq ?_
    refine sw_region hP 4 [] rfl (by kernel_rfl) (fun _ => by kernel_rfl) (by first | trivial | (simp [conj]; done) | (simp [conj] at *; (try dsimp only [Ty.den, Ty.dflt] at *); omega)) ?_
    refine sw_ret ⟨.inl rfl, _, rfl, ?_⟩
    simp [conj, maxL] at *
    try dsimp only [Ty.den, Ty.dflt] at *
    try simp only [rd_eta] at *
    simp [pk, pickV, nx, pickX]
    first | omega | (intros; omega) | (intro _ hh; exact absurd c2 hh) | (rw [if_neg (by omega)]; first | (rw [if_neg c2, if_pos c5]; done) | (rw [if_neg c2, if_neg (by omega)]; done) | (intros; simp_all; done))
  · skip
    refine sw_region hP 3 [(2, false)] rfl (by kernel_rfl) (fun _ => by kernel_rfl) (by first | trivial | (simp [conj]; done) | (simp [conj] at *; (try dsimp only [Ty.den, Ty.dflt] at *); omega)) ?_
    refine sw_cond rfl (fun c2 => ?_) (fun c2 => ?_)
    · skip
      refine sw_seq ?_
      refine sw_region hP 4 [] rfl (by kernel_rfl) (fun _ => by kernel_rfl) (by first | trivial | (simp [conj]; done) | (simp [conj] at *; (try dsimp only [Ty.den, Ty.dflt] at *); omega)) ?_
      refine sw_ret ⟨.inl rfl, _, rfl, ?_⟩
      simp [conj, maxL] at *
      try dsimp only [Ty.den, Ty.dflt] at *
      try simp only [rd_eta] at *
      simp [pk, pickV, nx, pickX]
      first | omega | (intros; omega) | (intro _ hh; exact absurd c2 hh) | (rw [if_neg (by omega)]; first | (rw [if_neg c2, if_pos c5]; done) | (rw [if_neg c2, if_neg (by omega)]; done) | (intros; simp_all; done))
    · skip
      refine sw_skip ?_
      refine sw_seq ?_
      refine sw_region hP 4 [] rfl (by kernel_rfl) (fun _ => by kernel_rfl) (by first | trivial | (simp [conj]; done) | (simp [conj] at *; (try dsimp only [Ty.den, Ty.dflt] at *); omega)) ?_
      refine sw_seq ?_
      refine sw_seq ?_
      refine sw_region hP 5 [] rfl (by kernel_rfl) (fun _ => by kernel_rfl) (by first | trivial | (simp [conj]; done) | (simp [conj] at *; (try dsimp only [Ty.den, Ty.dflt] at *); omega)) ?_
      refine sw_cond rfl (fun c5 => ?_) (fun c5 => ?_)
      · skip
        refine sw_seq ?_
        refine sw_region hP 6 [] rfl (by kernel_rfl) (fun _ => by kernel_rfl) ?_ ?_
        · skip
          simp [conj] at *
          dsimp only [Ty.den, Ty.dflt] at *
          have := getD_b' hb p.toNat
          omega
        refine sw_ret ⟨.inl rfl, _, rfl, ?_⟩
        simp [conj, maxL] at *
        try dsimp only [Ty.den, Ty.dflt] at *
        try simp only [rd_eta] at *
        simp [pk, pickV, nx, pickX]
        first | omega | (intros; omega) | (intro _ hh; exact absurd c2 hh) | (rw [if_neg (by omega)]; first | (rw [if_neg c2, if_pos c5]; done) | (rw [if_neg c2, if_neg (by omega)]; done) | (intros; simp_all; done))
      · skip
        refine sw_skip ?_
        refine sw_seq ?_
        refine sw_region hP 6 [] rfl (by kernel_rfl) (fun _ => by kernel_rfl) ?_ ?_
        · skip
          simp [conj] at *
          dsimp only [Ty.den, Ty.dflt] at *
          have hlp : 0 < b.length := List.length_pos_iff.2 c2
          have a1 := getD_b' hb (Int.tmod p b.length).toNat
          have a2 := getD_b' hb (Int.tmod (p * 7 + 3) b.length).toNat
          have a3 := tmod_ix (a := p) (n := b.length) h0 (by omega)
          have a4 := tmod_ix (a := p * 7 + 3) (n := b.length) (by omega) (by omega)
          have a5 : 0 ≤ Int.tdiv p b.length ∧ Int.tdiv p b.length ≤ p := ⟨Int.tdiv_nonneg h0 (by omega), Int.tdiv_le_self _ h0⟩
          repeat' apply And.intro
          all_goals first | assumption | omega
        refine sw_seq ?_
        refine sw_region hP 7 [] rfl (by kernel_rfl) (fun _ => by kernel_rfl) ?_ ?_
        · skip
          have a5 := pickX_bd hpre (by omega)
          simp only [pickX, List.getD_eq_getElem?_getD] at a5
          have a6 : 0 ≤ (pickX b p).tdiv 64 ∧ (pickX b p).tdiv 64 ≤ pickX b p := ⟨Int.tdiv_nonneg a5.1 (by omega), Int.tdiv_le_self _ a5.1⟩
          simp only [pickX, List.getD_eq_getElem?_getD] at a6
          simp [conj] at *
          dsimp only [Ty.den, Ty.dflt] at *
          omega
        refine sw_seq ?_
        refine sw_region hP 8 [] rfl (by kernel_rfl) (fun _ => by kernel_rfl) (by first | trivial | (simp [conj]; done) | (simp [conj] at *; (try dsimp only [Ty.den, Ty.dflt] at *); omega)) ?_
        refine sw_ret ⟨.inl rfl, _, rfl, ?_⟩
        simp [conj, maxL] at *
        try dsimp only [Ty.den, Ty.dflt] at *
        try simp only [rd_eta] at *
        simp [pk, pickV, nx, pickX]
        first | omega | (intros; omega) | (intro _ hh; exact absurd c2 hh) | (rw [if_neg (by omega)]; first | (rw [if_neg c2, if_pos c5]; done) | (rw [if_neg c2, if_neg (by omega)]; done) | (intros; simp_all; done))

def cOf : Ctr := ⟨44, [.ref T_l6Rd pF, .val false (.sl .str) (.all .b)], fun x => ROk x.1 1 ∧ 0 < List.length x.2.1, fun x => (sStr (List.getD x.2.1 (pk x.1 (List.length x.2.1 : Int)).toNat []), [(⟨0, 0, 0⟩, rdA (nx x.1))])⟩
theorem cOf_ok : CtrOk Proofs.Try.prog cOf := by
  have hP := ((Prg.none ttok mtok).and cPick_ok)
  refine ctr_of_body hP cOf (fn := Proofs.Try.f44) (rts := [.tmp 4]) Proofs.Try.func44 rfl (by kernel_rfl) rfl rfl ?_
  rintro ⟨⟨(b : List Int), (p : Int)⟩, (l : List Str), ⟨⟩⟩ hd ⟨hr, hl⟩
  try dsimp only [Ty.den, Mode.den, mdens] at hr
  try dsimp only [Ty.den, Mode.den, mdens] at hl
  refine ⟨rfl, ?_⟩
  refine sw_seq ?_
  refine sw_region hP 1 [] rfl (by kernel_rfl) (fun _ => by kernel_rfl) (by first | trivial | (simp [conj]; done) | (simp [conj] at *; (try dsimp only [Ty.den, Ty.dflt] at *); omega)) ?_
  refine sw_seq ?_
  refine sw_region hP 2 [] rfl (by kernel_rfl) (fun _ => by kernel_rfl) ?_ ?_
  · skip
    have := pk_bd hr (by omega) (n := List.length l) (by omega)
    simp [conj] at *
    exact ⟨hr, this⟩
  refine sw_ret ⟨.inl rfl, _, rfl, ?_⟩
  first | trivial | (simp [conj]; done) | (simp [conj] at *; (try dsimp only [Ty.den, Ty.dflt] at *); omega)

def cText : Ctr := ⟨26, [.ref T_l6Rd pF, .val false TI pF], fun x => ROk x.1 (2 * x.2.1 + 3) ∧ 0 ≤ x.2.1 ∧ x.2.1 ≤ 1000, fun x => (sStr (textV x.1 x.2.1), [(⟨0, 0, 0⟩, rdA (textR x.1 x.2.1))])⟩
theorem cText_ok : CtrOk Proofs.Try.prog cText := by
  have hP := ((Prg.none ttok mtok).and cPick_ok)
  refine ctr_of_body hP cText (fn := Proofs.Try.f26) (rts := [.tmp 4]) Proofs.Try.func26 rfl (by kernel_rfl) rfl rfl ?_
  rintro ⟨(r : Rd), (most : Int), ⟨⟩⟩ hd ⟨hr, h0, h1⟩
  try dsimp only [Ty.den, Mode.den, mdens] at hr
  try dsimp only [Ty.den, Mode.den, mdens] at h0
  try dsimp only [Ty.den, Mode.den, mdens] at h1
  refine ⟨rfl, ?_⟩
  have hn := pk_bd hr (by omega) (n := most + 1) (by omega)
  refine sw_seq ?_
  refine sw_region hP 1 [] rfl (by kernel_rfl) (fun _ => by kernel_rfl) (by first | trivial | (simp [conj]; done) | (simp [conj] at *; (try dsimp only [Ty.den, Ty.dflt] at *); omega)) ?_
  refine sw_seq ?_
  refine sw_region hP 2 [] rfl (by kernel_rfl) (fun _ => by kernel_rfl) (by first | trivial | (simp [conj]; done) | (simp [conj] at *; (try dsimp only [Ty.den, Ty.dflt] at *); omega)) ?_
  refine sw_seq ?_
  refine sw_seq ?_
  refine sw_region hP 3 [] rfl (by kernel_rfl) (fun _ => by kernel_rfl) ?_ ?_
  · skip
    simp [conj]
    exact ⟨by omega, hr.le (by omega)⟩
  refine sw_block ?_
  refine sw_loop (ι := Nat × Rd × List Int) (fun ⟨k, R, out⟩ => ⟨[.v false [.ptr ⟨0, 0, 0⟩ 0], .junk, .junk, .junk, .junk, .v false [.own ⟨0, 9, 0⟩], sInt .i64 (k : Int), .junk, .junk, .junk, .junk, .junk, .junk, .junk, .junk, .junk, .junk, .junk, .junk, .junk, .junk, .junk, .junk, .junk, .junk, .junk, .junk, .junk, .junk, .junk], [(⟨0, 0, 0⟩, rdA R), (⟨0, 9, 0⟩, .sl (.int .u8) pF out)], 3, [[.v false [.ptr ⟨0, 0, 0⟩ 0], .junk]]⟩) (fun ⟨k, R, out⟩ => k) (fun ⟨k, R, out⟩ => ROk R (2 * k + 1) ∧ textGo k R out = textGo (pk r (most + 1)).toNat (nx r) [] ∧ out.length + k ≤ 1001) ((pk r (most + 1)).toNat, nx r, []) ⟨?_, ?_⟩ ?_
  · skip
    refine ⟨hr.nx (by omega), rfl, ?_⟩
    simp; omega
  · refine ent_ok rfl ?_
    simp [conj, maxL]
    try dsimp only [Ty.den, Ty.dflt]
    try simp only [rd_eta]
    omega
  · rintro ⟨k, R, out⟩ ⟨hR, hgo, hlen⟩
    refine sw_seq ?_
    refine sw_seq ?_
    refine sw_region hP 4 [] rfl (by kernel_rfl) (fun _ => by kernel_rfl) (by first | trivial | (simp [conj]; done) | (simp [conj] at *; (try dsimp only [Ty.den, Ty.dflt] at *); omega)) ?_
    refine sw_cond rfl (fun c3 => ?_) (fun c3 => ?_)
    · skip
      obtain ⟨k, rfl⟩ : ∃ m, k = m + 1 := ⟨k - 1, by simp at c3; omega⟩
      refine sw_skip ?_
      refine sw_seq ?_
      refine sw_block ?_
      refine sw_region hP 5 [] rfl (by kernel_rfl) (fun _ => by kernel_rfl) ?_ ?_
      · skip
        have ha := pk_bd hR (by omega) (n := 6) (by omega)
        have hR1 : ROk (nx R) (2 * k + 2) := hR.nx (by omega)
        have hb := pk_bd hR1 (by omega) (n := 3) (by omega)
        have hb2 : pk (nx R) 3 ≤ 255 := by omega
        simp [conj, maxL]
        try dsimp only [Ty.den, Ty.dflt]
        try simp only [rd_eta]
        repeat' apply And.intro
        all_goals first | assumption | omega | exact hR.le (by omega) | exact hR1.le (by omega) | exact hb.1 | exact hb2 | exact ha.1 | exact ha.2
      refine sw_region hP 6 [] rfl (by kernel_rfl) (fun _ => by kernel_rfl) (by first | trivial | (simp [conj]; done) | (simp [conj] at *; (try dsimp only [Ty.den, Ty.dflt] at *); omega)) ?_
      refine ⟨(k, nx (nx R), out ++ [(([97, 98, 122, 0, 255, 128] : List Int).getD (pk R 6).toNat 0 + pk (nx R) 3) % 256]), ?_, ?_, ent_ok rfl ?_⟩
      · skip
        exact ⟨(hR.nx (m' := 2 * k + 2) (by omega)).nx (by omega), hgo, by simp; omega⟩
      · skip
        exact Nat.lt_succ_self k
      · skip
        simp [conj, maxL]
        try dsimp only [Ty.den, Ty.dflt]
        try simp only [rd_eta]
        try rfl
    · skip
      refine sw_exit ?_
      refine sw_seq ?_
      refine sw_region hP 5 [] rfl (by kernel_rfl) (fun _ => by kernel_rfl) (by first | trivial | (simp [conj]; done) | (simp [conj] at *; (try dsimp only [Ty.den, Ty.dflt] at *); omega)) ?_
      refine sw_ret ⟨.inl rfl, _, rfl, ?_⟩
      obtain rfl : k = 0 := by simp at c3; omega
      simp only [textGo] at hgo
      simp [conj, textV, textR, ← hgo]
end Go.Sx
