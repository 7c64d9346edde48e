/- Several texts, one behind the other. -/
import Derived.Test.YtkbgdpdldoopmabGreatDoorMR1toMRf
import Derived.Lib.Split
import Derived.Lib.SplitLaws
import Derived.Lib.AtoiTie
import Derived.Lib.AtoiAllCases
import Derived.Lib.Strings
import Derived.WalkKit
import Derived.LaidEql
import Derived.Stop.Asserts
import Derived.RowKitTokens
import Derived.Test.YtkbgdpdldoopmabGreatDoorMOpentoMShelf
set_option linter.all false
namespace Go.Sx
open Go
def lineO (p : Ptr_) : Str := if p.1 = 0 then tNone else Lib.join (wordsV p) [32] ++ [10]
def volTO (v : Vol_) : Str := (tVol ++ v.1 ++ [10]) ++ catGo lineO v.2
def bodyO (r : Root_) : Str := (tRoot ++ itoaV r.1 ++ [10]) ++ catGo volTO r.2
def SmO (l : List Vol_) : Prop := l.length ≤ 6 ∧ ∀ v ∈ l, v.1.length ≤ 3 ∧ v.2.length ≤ 3 ∧ ∀ p ∈ v.2, p.2.2.length ≤ 4
theorem lineO_V {d : Int} {p : Ptr_} (h : ptrV d p = true) : lineO p = lineV p := by
 unfold lineO lineV
 by_cases h0 : p.1 = 0
 ·rw [if_pos h0, if_pos (ptrV_none h h0)]
 ·rw [if_neg h0, if_neg (by simp only [noneV, Bool.and_eq_true, decide_eq_true_eq]; exact fun h => h0 h.1)]
theorem catGo_congr {α : Type} {f g : α → Str} : ∀ {l : List α}, (∀ x ∈ l, f x = g x) → catGo f l = catGo g l := by
 intro l
 induction l with
 | nil => intro _; rfl
 | cons x l ih => intro h; simp only [catGo]; rw [h x List.mem_cons_self, ih fun y hy => h y (List.mem_cons_of_mem _ hy)]
theorem bodyO_V {d : Int} {r : Root_} (h : rootV d r = true) : bodyO r = bodyV r := by
 have hs := rootV_small h
 unfold bodyO bodyV
 rw [catGo_congr fun v hv => ?_]
 unfold volTO volT
 rw [catGo_congr fun p hp => ?_]
 obtain ⟨d2, h2⟩ := (hs.2 v hv).2.2 p hp
 exact lineO_V h2
theorem SmallR.smO {l : List Vol_} (h : SmallR l) : SmO l := ⟨Nat.le_trans h.1 (by decide), fun v hv => ⟨(h.2 v hv).1, Nat.le_of_eq (h.2 v hv).2.1, fun p hp => by
 obtain ⟨d, hd⟩ := (h.2 v hv).2.2 p hp
 exact ptrV_len hd⟩⟩
theorem itoaV_neg {n : Int} (h : n < 0) : itoaV n = 45 :: itoaV (-n) := by
 obtain ⟨u, rfl⟩ : ∃ u : Nat, n = -(u : Int) := ⟨n.natAbs, by omega⟩
 unfold itoaV
 rw [Lib.itoa_neg u (by omega), Int.neg_neg, Lib.itoa_nonneg]
theorem itoaV_min : itoaV (-9223372036854775808) = [45, 57, 50, 50, 51, 51, 55, 50, 48, 51, 54, 56, 53, 52, 55, 55, 53, 56, 48, 56] := by decide +kernel
theorem lineO_len {p : Ptr_} (h1 : inR .i64 p.1) (h2 : inR .i64 p.2.1) (h3 : ∀ a ∈ p.2.2, inR .i64 a.1 ∧ inR .i64 a.2) (h : p.2.2.length ≤ 4) : (lineO p).length ≤ 300 := by
 unfold lineO
 split
 ·simp [tNone]
 ·rw [List.length_append]
  have : (Lib.join (wordsV p) [32]).length ≤ 290 := join_len h1 h2 h3 h
  simp only [List.length_cons, List.length_nil]
  omega
theorem volO_in {l : List Vol_} {i : Nat} {o v : Str} (hlt : i < l.length) (h : o ++ catGo volTO (l.drop i) = v) : ((o ++ (tVol ++ l[i].1 ++ [10])) ++ catGo lineO (l[i].2.drop 0)) ++ catGo volTO (l.drop (i + 1)) = v := by
 rw [drop_at hlt] at h
 rw [List.drop_zero]
 simp only [catGo, volTO] at h
 simpa only [List.append_assoc] using h
theorem volO_line {l : List Ptr_} {j : Nat} {o r v : Str} (hlj : j < l.length) (h : (o ++ catGo lineO (l.drop j)) ++ r = v) : ((o ++ lineO l[j]) ++ catGo lineO (l.drop (j + 1))) ++ r = v := by
 rw [drop_at hlj] at h
 simp only [catGo] at h
 simpa only [List.append_assoc] using h
theorem volO_out {l : List Ptr_} {o r v : Str} (h : (o ++ catGo lineO (l.drop l.length)) ++ r = v) : o ++ r = v := by
 rw [List.drop_length] at h
 simpa [catGo] using h
theorem bodyO_len {r : Root_} (h0 : inR .i64 r.1) (h : ∀ v ∈ r.2, ∀ p ∈ v.2, inR .i64 p.1 ∧ inR .i64 p.2.1 ∧ ∀ a ∈ p.2.2, inR .i64 a.1 ∧ inR .i64 a.2) (hs : SmO r.2) : (bodyO r).length ≤ 7000 := by
 have h4 := cat_len (f := volTO) (m := 1000) (l := r.2) fun v hv => by
  obtain ⟨h1, h2, h3⟩ := hs.2 v hv
  have h4 := cat_len (f := lineO) (m := 300) (l := v.2) fun p hp => by
   obtain ⟨a, b, c⟩ := h v hv p hp
   exact lineO_len a b c (h3 p hp)
  unfold volTO
  simp only [List.length_append, List.length_cons, List.length_nil, tVol]
  omega
 have h5 : r.2.length ≤ 6 := hs.1
 have h6 := itoaV_len h0
 unfold bodyO
 simp only [List.length_append, List.length_cons, List.length_nil, tRoot]
 omega
def bodyL (r : Root_) : Str := if (bodyO r).length ≤ 7000 then bodyO r else []
theorem bodyL_of {r : Root_} (h : (bodyO r).length ≤ 7000) : bodyL r = bodyO r := if_pos h
theorem bodyL_len (r : Root_) : (bodyL r).length ≤ 7000 := by
 unfold bodyL
 split
 ·assumption
 ·exact Nat.zero_le _
def P4 (p : Ptr_) : Prop := p.2.2.length ≤ 4
theorem P4_z : P4 zP := Nat.zero_le _
theorem P4_ptrD {R : Rd} {d : Int} (h : ROk R 30) (hd : 3 ≤ d ∧ d ≤ 4) : P4 (ptrD R d).1 := (ptrD_len h hd).2
theorem P4_some {R : Rd} {d : Int} (h : ROk R 40) (hd : 3 ≤ d ∧ d ≤ 4) : P4 (someD R d).1 := by
 have h4 := P4_ptrD (R := nx R) (h.nx (by omega)) hd
 unfold P4 at h4
 unfold someD
 simp only
 split
 ·exact P4_z
 ·split
  ·exact h4
  ·split
   ·exact h4
   ·split
    ·show (List.set _ _ _).length ≤ 4; rw [List.length_set]; exact h4
    ·split
     ·show (List.set _ _ _).length ≤ 4; rw [List.length_set]; exact h4
     ·split
      ·show (List.drop _ _).length ≤ 4; rw [List.length_drop]; omega
      ·exact h4
theorem P4_set {l : List Ptr_} {k : Nat} {p : Ptr_} (h : ∀ q ∈ l, P4 q) (hp : P4 p) : ∀ q ∈ l.set k p, P4 q := by
 intro q hq
 rcases List.mem_or_eq_of_mem_set hq with h1 | rfl
 ·exact h q h1
 ·exact hp
theorem P4_getD {l : List Ptr_} {k : Nat} (h : ∀ q ∈ l, P4 q) : P4 (l.getD k zP) := by
 rw [List.getD_eq_getElem?_getD]
 cases hk : l[k]? with
 | none => exact P4_z
 | some q => exact h q (List.mem_of_getElem? hk)
theorem P4_step {d : Int} {all bl : List Ptr_} {k : Nat} {R : Rd} (h : ROk R 40) (hd : 3 ≤ d ∧ d ≤ 4) (ha : ∀ q ∈ all, P4 q) (hb : ∀ q ∈ bl, P4 q) : ∀ q ∈ (blkStep d all k bl R).1, P4 q := by
 have h4 := P4_ptrD (R := R) (h.le (by omega)) hd
 unfold blkStep
 simp only
 split
 ·exact P4_set hb h4
 ·split
  ·split
   ·exact P4_set hb (P4_getD ha)
   ·exact hb
  ·exact hb
theorem P4_go {d : Int} {all : List Ptr_} (hd : 3 ≤ d ∧ d ≤ 4) (ha : ∀ q ∈ all, P4 q) : ∀ (n k : Nat) (bl : List Ptr_) (R : Rd), ROk R (40 * n) → (∀ q ∈ bl, P4 q) → ∀ q ∈ (blkGo d all n k bl R).1, P4 q := by
 intro n
 induction n with
 | zero => intro k bl R _ hb; exact hb
 | succ n ih =>
  intro k bl R h hb
  simp only [blkGo]
  have h1 := (blkStep_ok (m := 40 * n) (all := all) (bl := bl) (k := k) (by omega) (h.le (by push_cast; omega)) hd).1
  exact ih _ _ _ h1 (P4_step (h.le (by push_cast; omega)) hd ha hb)
theorem nmD_len (R : Rd) : (nmD R).length ≤ 3 := by
 unfold nmD
 rw [List.getD_eq_getElem?_getD]
 cases hk : nms[(pk R 6).toNat]? with
 | none => exact Nat.zero_le _
 | some s =>
  have h : ∀ s ∈ nms, s.length ≤ 3 := by decide
  exact h s (List.mem_of_getElem? hk)
def VO (v : Vol_) : Prop := v.1.length ≤ 3 ∧ v.2.length ≤ 3 ∧ ∀ p ∈ v.2, P4 p
theorem VO_go {d : Int} (hd : 3 ≤ d ∧ d ≤ 4) : ∀ (n : Nat) (vs : List Vol_) (R : Rd), ROk R (130 * n) → (∀ v ∈ vs, VO v) → ∀ v ∈ (volGo d n vs R).1, VO v := by
 intro n
 induction n with
 | zero => intro vs R _ h; exact h
 | succ n ih =>
  intro vs R h hv
  simp only [volGo]
  split
  ·exact ih vs (nx R) (h.nx (by push_cast; omega)) hv
  ·have hR : ROk (nx R) (130 * n + 120) := h.nx (by push_cast; omega)
   have ha : ∀ q ∈ blksOf vs, P4 q := fun q hq => by
    obtain ⟨v, h1, h2⟩ := List.mem_flatMap.1 hq
    exact (hv v h1).2.2 q h2
   have hz : ∀ q ∈ [zP, zP, zP], P4 q := fun q hq => by
    simp only [List.mem_cons, List.not_mem_nil, or_false, or_self] at hq
    rw [hq]; exact P4_z
   obtain ⟨h1, h2⟩ := blkGo_ok (all := blksOf vs) hd 3 0 [zP, zP, zP] (nx R) (130 * n) (by omega) (hR.le (by omega))
   refine ih _ _ h1 fun v hm => ?_
   rcases List.mem_append.1 hm with hm | hm
   ·exact hv v hm
   ·rw [List.mem_singleton.1 hm]
    have h5 := P4_go hd ha 3 0 [zP, zP, zP] (nx R) (hR.le (by omega)) hz
    generalize (blkGo d (blksOf vs) 3 0 [zP, zP, zP] (nx R)).1 = B at h2 h5
    exact ⟨nmD_len R, Nat.le_of_eq h2, h5⟩
theorem rootD_smO {R : Rd} {d : Int} (h : ROk R 600) (hd : 3 ≤ d ∧ d ≤ 4) : (rootD R d).1.2.length ≤ 4 ∧ ∀ v ∈ (rootD R d).1.2, VO v := by
 have h1 : ROk (nx R) 599 := h.nx (by omega)
 have h2 : ROk (nx (nx R)) 598 := h1.nx (by omega)
 have hb := pk_bd h1 (by omega) (n := 5) (by omega)
 exact ⟨(rootD_ok (m := 0) (by decide) (h.le (by omega)) hd).2.1, VO_go hd (pk (nx R) 5).toNat [] (nx (nx R)) (h2.le (by omega)) fun v hv => by cases hv⟩
theorem smO_of {l : List Vol_} (h1 : l.length ≤ 6) (h2 : ∀ v ∈ l, VO v) : SmO l := ⟨h1, h2⟩
theorem VO_z {s : Str} (h : s.length ≤ 3) : VO (s, [zP, zP, zP]) := ⟨h, Nat.le_refl _, fun q hq => by
 simp only [List.mem_cons, List.not_mem_nil, or_false, or_self] at hq
 rw [hq]; exact P4_z⟩
theorem VO_v0 {l : List Vol_} (h : ∀ v ∈ l, VO v) : VO (v0 l) := by
 unfold v0
 rw [List.getD_eq_getElem?_getD]
 cases hk : l[0]? with
 | none => exact ⟨Nat.zero_le _, Nat.zero_le _, fun q hq => by cases hq⟩
 | some q => exact h q (List.mem_of_getElem? hk)
theorem VO_set {l : List Vol_} {k : Nat} {v : Vol_} (h : ∀ q ∈ l, VO q) (hp : VO v) : ∀ q ∈ l.set k v, VO q := by
 intro q hq
 rcases List.mem_or_eq_of_mem_set hq with h1 | rfl
 ·exact h q h1
 ·exact hp
theorem VO_snoc {l : List Vol_} {v : Vol_} (h : ∀ q ∈ l, VO q) (hp : VO v) : ∀ q ∈ l ++ [v], VO q := by
 intro q hq
 rcases List.mem_append.1 hq with h1 | h1
 ·exact h q h1
 ·rw [List.mem_singleton.1 h1]; exact hp
theorem fill_VO : ∀ (n : Nat) (l : List Vol_), (∀ v ∈ l, VO v) → (∀ v ∈ fillGo n l, VO v) ∧ (fillGo n l).length = l.length + n := by
 intro n
 induction n with
 | zero => intro l h; exact ⟨h, rfl⟩
 | succ n ih =>
  intro l h
  simp only [fillGo]
  obtain ⟨a, b⟩ := ih (l ++ [([UInt8.ofNat (107 + l.length)], [zP, zP, zP])]) (VO_snoc h (VO_z (by show 1 ≤ 3; decide)))
  exact ⟨a, by rw [b, List.length_append, List.length_singleton]; omega⟩
theorem offD_smO {R : Rd} {d : Int} (h : ROk R 700) (hd : 3 ≤ d ∧ d ≤ 4) : SmO (offD R d).1.2 := by
 obtain ⟨h4, hv⟩ := rootD_smO (h.le (by omega)) hd
 have hq : ROk (rootD R d).2 100 := (rootD_ok (m := 100) (by decide) (h.le (by omega)) hd).1
 have hR2 : ROk (nx (nx (rootD R d).2)) 40 := (hq.nx (m' := 99) (by omega)).nx (by omega)
 have h6 : (rootD R d).1.2.length ≤ 6 := by omega
 unfold offD
 simp only
 split
 ·exact smO_of h6 hv
 ·split
  ·exact smO_of h6 hv
  ·split
   ·exact smO_of (by show (_ ++ _ : List Vol_).length ≤ 6; rw [List.length_append, List.length_singleton]; omega) (VO_snoc hv (VO_z (by show 1 ≤ 3; decide)))
   ·split
    ·split
     ·obtain ⟨a, b, c⟩ := VO_v0 hv
      exact smO_of (by show (List.set _ _ _ : List Vol_).length ≤ 6; rw [List.length_set]; omega) (VO_set hv ⟨a, by show (List.drop _ _).length ≤ 3; rw [List.length_drop]; omega, fun p hp => c p (List.mem_of_mem_drop hp)⟩)
     ·exact smO_of h6 hv
    ·split
     ·split
      ·obtain ⟨a, b, c⟩ := VO_v0 hv
       exact smO_of (by show (List.set _ _ _ : List Vol_).length ≤ 6; rw [List.length_set]; omega) (VO_set hv ⟨a, by show (List.set _ _ _).length ≤ 3; rw [List.length_set]; exact b, P4_set c (P4_some hR2 hd)⟩)
      ·exact smO_of h6 hv
     ·split
      ·split
       ·exact smO_of (by show (_ ++ _ : List Vol_).length ≤ 6; rw [List.length_append, List.length_singleton]; omega) (VO_snoc hv (VO_v0 hv))
       ·exact smO_of h6 hv
      ·obtain ⟨a, b⟩ := fill_VO (5 - (rootD R d).1.2.length) (rootD R d).1.2 hv
       exact smO_of (by show (fillGo _ _).length ≤ 6; rw [b]; omega) a
def drR2 (code : List Int) : Root_ × Rd := rootD (nx (rd0 code)) (drN code)
def drS (code : List Int) : Str := rootT (drN code) (drR2 code).1
def drAt (code : List Int) : Int := pk (drR2 code).2 ((drS code).length + 1 : Int)
def drQ1 (code : List Int) : Rd := nx (drR2 code).2
def ofs : List Str := [[48], [32], [10], [49], [118, 111, 108, 32, 113, 10], [110, 111, 110, 101, 10]]
def drText (code : List Int) : Int × Str :=
 let s := drS code
 let a := (drAt code).toNat
 let q := drQ1 code
 if pk q 8 = 0 then (drN code, s.take a)
 else if pk q 8 = 1 then (drN code, s.take a ++ ofs.getD (pk (nx q) 6).toNat [] ++ s.drop a)
 else if pk q 8 = 2 then (7 - drN code, s)
 else if pk q 8 = 3 then (drN code, bodyL (offD (nx q) (drN code)).1 ++ tSum ++ itoaV (weighV (bodyL (offD (nx q) (drN code)).1)) ++ [10])
 else (drN code, s)
end Go.Sx

namespace Go.Sx
open Go
set_option maxRecDepth 100000
set_option linter.unusedVariables false
set_option linter.unusedSimpArgs false
set_option maxHeartbeats 2000000
def cDecA : Ctr := ⟨18, [.val false TI pF], fun _ => True, fun x => (sStr (itoaV x.1), [])⟩
theorem cDecA_ok : CtrOk Proofs.Tryz.prog cDecA := by
 have hP := ((Prg.none ttok mtok).and cDec_ok)
 refine ctr_of_body hP cDecA (fn := Proofs.Tryz.f18) (rts := [.tmp 2]) Proofs.Tryz.func18 rfl (by kernel_rfl) rfl rfl ?_
 rintro ⟨(n : Int), ⟨⟩⟩ ⟨hn0, _⟩ _
 try dsimp only [Ty.den, Mode.den, mdens] at _
 refine ⟨rfl, ?_⟩
 replace hn0 : inR .i64 n := hn0
 have hln := itoaV_len hn0
 rw [inR_i64] at hn0
 refine sw_seq (rd hP 1 rfl (sw_seq (sw_seq (rd hP 2 rfl (sw_cond rfl (fun c1 => ?_) (fun c1 => ?_))))))
 ·obtain rfl : n = -9223372036854775808 := by have h : n < -9223372036854775807 := of_decide_eq_true c1; omega
  refine sw_seq (rd hP 3 rfl (sw_ret ⟨.inl rfl, _, rfl, ?_⟩))
  simp [conj, bytesL]
  exact itoaV_min.symm
 ·have hg : ¬ n < -9223372036854775807 := of_decide_eq_false c1
  refine sw_skip (sw_seq (sw_seq (rd hP 3 rfl (sw_cond rfl (fun c3 => ?_) (fun c3 => ?_)))))
  ·replace c3 : n < 0 := of_decide_eq_true c3
   have hv := itoaV_neg c3
   have hl2 : (itoaV (-n)).length ≤ 21 := itoaV_len (by rw [inR_i64]; omega)
   refine sw_seq (rg hP 4 [] rfl ?_ ?_)
   ·simp [conj, maxL, bytesL]
    repeat' apply And.intro
    all_goals first | omega | (show 0 ≤ -n; omega) | (show (itoaV (-n)).length + 1 ≤ 140737488355328; omega) | (show 1 + (itoaV (-n)).length ≤ 140737488355328; omega)
   refine sw_ret ⟨.inl rfl, _, rfl, ?_⟩
   simp [conj, bytesL]
   exact hv.symm
  ·have h0 : 0 ≤ n := by have h : ¬ n < 0 := of_decide_eq_false c3; omega
   have hq : n.tdiv 10 = n / 10 := Int.tdiv_eq_ediv_of_nonneg h0
   have hr : n.tmod 10 = n % 10 := Int.tmod_eq_emod_of_nonneg h0
   have hlq : (itoaV (n.tdiv 10)).length ≤ 21 := itoaV_len (by rw [inR_i64]; omega)
   refine sw_skip (sw_seq (sw_seq (rd hP 4 rfl (sw_cond rfl (fun c5 => ?_) (fun c5 => ?_)))))
   ·replace c5 : n < 10 := of_decide_eq_true c5
    refine sw_seq (rg hP 5 [] rfl ?_ ?_)
    ·simp only [cj, inR_u8, cl]
     try dsimp only [Ty.den, Ty.dflt]
     repeat' apply And.intro
     all_goals first | omega | trivial
    refine sw_ret ⟨.inl rfl, _, rfl, ?_⟩
    simp [conj, ofBytes]
    exact (itoaV_small h0 c5).symm
   ·replace c5 : ¬ n < 10 := of_decide_eq_false c5
    refine sw_skip (sw_seq (rg hP 5 [] rfl ?_ ?_))
    ·simp only [cj, inR_u8, cl]
     try dsimp only [Ty.den, Ty.dflt]
     repeat' apply And.intro
     all_goals first | omega | (show 0 ≤ n.tdiv 10; omega) | (show _ ≤ n.tdiv 10; omega) | (show n.tdiv 10 ≤ _; omega) | (show _ ≤ 48 + n.tmod 10; omega) | (show 48 + n.tmod 10 ≤ _; omega) | trivial | (show (itoaV (n.tdiv 10)).length + 1 ≤ 140737488355328; omega)
    refine sw_ret ⟨.inl rfl, _, rfl, ?_⟩
    simp [conj, ofBytes]
    rw [itoaV_big h0 c5, hq, hr]
def cLineO : Ctr := ⟨37, [.val true T_Ptr (.all .b)], fun x => List.length x.1.2.2 ≤ 4, fun x => (sStr (lineO x.1), [])⟩
theorem cLineO_ok : CtrOk Proofs.Tryz.prog cLineO := by
 have hP := ((Prg.none ttok mtok).and cDecA_ok)
 refine ctr_of_body hP cLineO (fn := Proofs.Tryz.f37) (rts := [.tmp 2]) Proofs.Tryz.func37 rfl (by kernel_rfl) rfl rfl ?_
 rintro ⟨⟨(sz : Int), (sm : Int), (pl : List Plc)⟩, ⟨⟩⟩ ⟨⟨hz0, hm0, hpl0⟩, _⟩ hpre
 try dsimp only [Ty.den, Mode.den, mdens] at hpre
 refine ⟨rfl, ?_⟩
 replace hpre : pl.length ≤ 4 := hpre
 have hi1 : (itoaV sz).length ≤ 21 := itoaV_len hz0
 have hi2 : (itoaV sm).length ≤ 21 := itoaV_len hm0
 refine sw_seq (rd hP 1 rfl (sw_seq (sw_seq (rd hP 2 rfl (sw_cond rfl (fun c1 => ?_) (fun c1 => ?_))))))
 ·replace c1 : sz = 0 := of_decide_eq_true c1
  have hnn : lineO ((sz, sm, pl) : Ptr_) = tNone := if_pos c1
  refine sw_seq (rd hP 3 rfl (sw_ret ⟨.inl rfl, _, rfl, ?_⟩))
  simp [conj, hnn, bytesL]
  rfl
 ·replace c1 : ¬ sz = 0 := of_decide_eq_false c1
  have hnn : lineO ((sz, sm, pl) : Ptr_) = (Lib.join (wordsV ((sz, sm, pl) : Ptr_)) [32]) ++ [10] := if_neg c1
  refine sw_skip (sw_seq (rg hP 3 [] rfl ?_ ?_))
  ·simp [conj, maxL, bytesL]
   repeat' apply And.intro
   all_goals first | omega | trivial
  refine sw_seq (sw_seq (rd hP 4 rfl (sw_block (sw_loop (ι := Nat × Str) (fun ⟨i, o⟩ => ⟨[.j, .v false [.ptr ⟨1, 0, 0⟩ 0], .j, sStr o, sInt .i64 (i : Int), .j, .j, .j, .j, .j, .j, .j, .j, .j, .j, .j, .j, .j, .j, .j, .j, .j, .j, .j, .j, .j, .j, .j, .j, .j, .j, .j, .j, .j, .j, .j, .j, .j, .j, .j, .j, .j, .j, .j, .j], [(⟨1, 0, 0⟩, .var [.d TI pF sz, .d TI pF sm, .d (.sl T_Place) (.all .b) pl])], 4, []⟩) (fun ⟨i, o⟩ => pl.length - i) (fun ⟨i, o⟩ => i ≤ pl.length ∧ o ++ catGo wordS (pl.drop i) = (Lib.join (wordsV ((sz, sm, pl) : Ptr_)) [32]) ∧ o.length ≤ 50 + i * 50) (0, tPtr ++ [32] ++ itoaV sz ++ [32] ++ itoaV sm) ⟨?_, ?_⟩ ?_))))
  ·exact ⟨Nat.zero_le _, words_join.symm, by simp [tPtr]; omega⟩
  ·refine ent_ok rfl ?_
   simp [conj, bytesL]
   rfl
  ·rintro ⟨i, o⟩ ⟨hi, hgo, hol⟩
   refine sw_seq (sw_seq (rd hP 5 rfl (sw_cond rfl (fun c5 => ?_) (fun c5 => ?_))))
   ·have hlt : i < pl.length := by simpa using c5
    have hin := hpl0.2 _ (List.getElem_mem hlt)
    have hi3 : (itoaV pl[i].1).length ≤ 21 := itoaV_len hin.1
    have hi4 : (itoaV pl[i].2).length ≤ 21 := itoaV_len hin.2
    refine sw_skip (sw_seq (sw_block (rg hP 6 [] rfl ?_ ?_)))
    ·simp [conj, maxL, bytesL, gE hlt]
     repeat' apply And.intro
     all_goals first | omega | trivial
    refine rd hP 7 rfl (⟨(i + 1, o ++ wordS pl[i]), ?_, ?_, ent_ok rfl ?_⟩)
    ·exact ⟨hlt, cat_next hlt hgo, by simp [wordS, wordV]; omega⟩
    ·show pl.length - (i + 1) < pl.length - i
     omega
    ·simp [conj, bytesL, wordS, wordV, gE hlt]
   ·obtain rfl : i = pl.length := by simp at c5; omega
    have hv := cat_end hgo
    subst hv
    refine sw_exit (sw_seq (rg hP 6 [] rfl ?_ ?_))
    ·simp [conj, maxL, bytesL]
     repeat' apply And.intro
     all_goals first | omega | trivial
    refine sw_ret ⟨.inl rfl, _, rfl, ?_⟩
    simp [conj, hnn, bytesL]
def cTextO : Ctr := ⟨16, [.val true T_Root (.all .b)], fun x => SmO x.1.2, fun x => (sStr (bodyL x.1), [])⟩
theorem cTextO_ok : CtrOk Proofs.Tryz.prog cTextO := by
 have hP := (((Prg.none ttok mtok).and cDecA_ok).and cLineO_ok)
 refine ctr_of_body hP cTextO (fn := Proofs.Tryz.f16) (rts := [.tmp 2]) Proofs.Tryz.func16 rfl (by kernel_rfl) rfl rfl ?_
 rintro ⟨⟨(tg : Int), (l : List Vol_)⟩, ⟨⟩⟩ ⟨⟨ht0, hl0⟩, _⟩ hpre
 try dsimp only [Ty.den, Mode.den, mdens] at hpre
 refine ⟨rfl, ?_⟩
 replace hpre : SmO l := hpre
 have hi1 : (itoaV tg).length ≤ 21 := itoaV_len ht0
 have hml : l.length ≤ 6 := hpre.1
 refine sw_seq (rd hP 1 rfl (sw_seq (rg hP 2 [] rfl ?_ ?_)))
 ·simp [conj, maxL, bytesL]
  repeat' apply And.intro
  all_goals first | omega | trivial
 refine sw_seq (sw_seq (rd hP 3 rfl (sw_block (sw_loop (ι := Nat × Str) (fun ⟨i, o⟩ => ⟨[.j, .v false [.ptr ⟨1, 0, 0⟩ 0], .j, sStr o, sInt .i64 (i : Int), .j, .j, .j, .j, .j, .j, .j, .j, .j, .j, .j, .j, .j, .j, .j, .j, .j, .j, .j, .j, .j, .j, .j, .j, .j, .j, .j, .j, .j, .j, .j, .j, .j, .j, .j, .j, .j, .j, .j, .j, .j, .j, .j, .j, .j, .j, .j], [(⟨1, 0, 0⟩, .var [.d TI pF tg, .d (.sl T_Vol) (.all .b) l])], 3, []⟩) (fun ⟨i, o⟩ => l.length - i) (fun ⟨i, o⟩ => i ≤ l.length ∧ o ++ catGo volTO (l.drop i) = bodyO ((tg, l) : Root_) ∧ o.length ≤ 27 + i * 1000) (0, tRoot ++ itoaV tg ++ [10]) ⟨?_, ?_⟩ ?_))))
 ·exact ⟨Nat.zero_le _, rfl, by simp [tRoot]; omega⟩
 ·refine ent_ok rfl ?_
  simp [conj, bytesL]
  try rfl
 ·rintro ⟨i, o⟩ ⟨hi, hgo, hol⟩
  refine sw_seq (sw_seq (rd hP 4 rfl (sw_cond rfl (fun c3 => ?_) (fun c3 => ?_))))
  ·have hlt : i < l.length := by simpa using c3
   obtain ⟨hn3, hb3, hpv⟩ := hpre.2 _ (List.getElem_mem hlt)
   refine sw_skip (sw_seq (sw_block (sw_seq (rg hP 5 [] rfl ?_ ?_))))
   ·simp [conj, maxL, bytesL, gE hlt]
    repeat' apply And.intro
    all_goals first | omega | trivial
   refine sw_seq (rd hP 6 rfl (sw_block (sw_loop (ι := Nat × Str) (fun ⟨j, o⟩ => ⟨[.j, .v false [.ptr ⟨1, 0, 0⟩ 0], .j, sStr o, sInt .i64 (i : Int), sInt .i64 (j : Int), .j, .j, .j, .j, .j, .j, .j, .j, .j, .j, .j, .j, .j, .j, .j, .j, .j, .j, .j, .j, .j, .j, .j, .j, .j, .j, .j, .j, .j, .j, .j, .j, .j, .j, .j, .j, .j, .j, .j, .j, .j, .j, .j, .j, .j, .j], [(⟨1, 0, 0⟩, .var [.d TI pF tg, .d (.sl T_Vol) (.all .b) l])], 6, []⟩) (fun ⟨j, o⟩ => l[i].2.length - j) (fun ⟨j, o⟩ => j ≤ l[i].2.length ∧ (o ++ catGo lineO (l[i].2.drop j)) ++ catGo volTO (l.drop (i + 1)) = bodyO ((tg, l) : Root_) ∧ o.length ≤ 27 + i * 1000 + 8 + j * 300) (0, o ++ (tVol ++ l[i].1 ++ [10])) ⟨?_, ?_⟩ ?_)))
   ·exact ⟨Nat.zero_le _, volO_in hlt hgo, by simp [tVol]; omega⟩
   ·refine ent_ok rfl ?_
    simp [conj, bytesL, gE hlt]
    try rfl
   ·rintro ⟨j, o⟩ ⟨hj, hgo2, hol2⟩
    refine sw_seq (sw_seq (rg hP 7 [] rfl ?_ ?_))
    ·simp [conj, gE hlt]
     repeat' apply And.intro
     all_goals first | omega | trivial
    refine sw_cond rfl (fun c7 => ?_) (fun c7 => ?_)
    ·have hlj : j < l[i].2.length := by
       have h := c7
       simp [gE hlt] at h
       omega
     have hpj := hpv _ (List.getElem_mem hlj)
     have hok := (hl0.2 _ (List.getElem_mem hlt)).2.2 _ (List.getElem_mem hlj)
     have hll := lineO_len hok.1 hok.2.1 hok.2.2.2 hpj
     refine sw_skip (sw_seq (sw_block (rg hP 8 [] rfl ?_ ?_)))
     ·simp [conj, maxL, gE hlt, gE hlj]
      repeat' apply And.intro
      all_goals first | omega | exact hpj | (have h : List.length (lineO l[i].2[j]) ≤ 300 := hll; show o.length + List.length (lineO l[i].2[j]) ≤ 140737488355328; omega) | trivial
     refine rd hP 9 rfl (⟨(j + 1, o ++ lineO l[i].2[j]), ?_, ?_, ent_ok rfl ?_⟩)
     ·exact ⟨hlj, volO_line hlj hgo2, by simp; omega⟩
     ·show l[i].2.length - (j + 1) < l[i].2.length - j
      omega
     ·simp [conj, gE hlt, gE hlj]
    ·obtain rfl : j = l[i].2.length := by
       have h := c7
       simp [gE hlt] at h
       omega
     refine sw_exit (rd hP 8 rfl (⟨(i + 1, o), ?_, ?_, ent_ok rfl ?_⟩))
     ·exact ⟨hlt, volO_out hgo2, by show o.length ≤ 27 + (i + 1) * 1000; omega⟩
     ·show l.length - (i + 1) < l.length - i
      omega
     ·simp [conj]
  ·obtain rfl : i = l.length := by simp at c3; omega
   have hv := cat_end hgo
   subst hv
   refine sw_exit (sw_seq (rd hP 5 rfl (sw_ret ⟨.inl rfl, _, rfl, ?_⟩)))
   have hbl := bodyO_len (r := ((tg, l) : Root_)) ht0 (fun v hv p hp => by have h := (hl0.2 v hv).2.2 p hp; exact ⟨h.1, h.2.1, h.2.2.2⟩) hpre
   simp [conj, bodyL_of hbl]
end Go.Sx

namespace Go.Sx
open Go
set_option maxRecDepth 100000
set_option linter.unusedVariables false
set_option linter.unusedSimpArgs false
set_option maxHeartbeats 2000000
def cRootTextS : Ctr := ⟨12, [.val false TI pF, .val true T_Root (.all .b)], fun x => True, fun x => (sStr (rootT x.1 x.2.1), [])⟩
theorem cRootTextS_ok : CtrOk Proofs.Tryz.prog cRootTextS := by
 have hP := (((((Prg.none ttok mtok).and cRootOkS_ok).and cTextO_ok).and cCheck_ok).and cDecA_ok)
 refine ctr_of_body hP cRootTextS (fn := Proofs.Tryz.f12) (rts := [.tmp 4]) Proofs.Tryz.func12 rfl (by kernel_rfl) rfl rfl ?_
 rintro ⟨(d : Int), ⟨(tg : Int), (l : List Vol_)⟩, ⟨⟩⟩ ⟨_, ⟨ht0, hl0⟩, _⟩ _
 try dsimp only [Ty.den, Mode.den, mdens] at _
 refine ⟨rfl, ?_⟩
 refine sw_seq (rd hP 1 rfl (sw_seq (sw_seq (rg hP 2 [] rfl ?_ ?_))))
 ·simp only [cj, cl]
  try dsimp only [Ty.den, Ty.dflt]
  repeat' apply And.intro
  all_goals first | trivial | assumption | omega | exact decide_eq_true ‹_› | exact decide_eq_false ‹_› | (simp [*]; done)
 refine sw_cond rfl (fun c1 => ?_) (fun c1 => ?_)
 ·replace c1 : rootV d ((tg, l) : Root_) = false := by have h : (!rootS d ((tg, l) : Root_)) = true := c1; rw [← rootV_S] at h; simpa using h
  refine sw_seq (rd hP 3 rfl (sw_ret ⟨.inl rfl, _, rfl, ?_⟩))
  simp [conj, rootT, c1, bytesL]
  try (rw [hbe, hbo]; simp [sealV]; rfl)
 ·replace c1 : rootV d ((tg, l) : Root_) = true := by have h : (!rootS d ((tg, l) : Root_)) = false := c1; rw [← rootV_S] at h; simpa using h
  have hso : SmO l := (rootV_small c1).smO
  have hbo := bodyO_V c1
  have hbq : (bodyO ((tg, l) : Root_)).length ≤ 7000 := bodyO_len ht0 (fun v hv p hp => by have h := (hl0.2 v hv).2.2 p hp; exact ⟨h.1, h.2.1, h.2.2.2⟩) hso
  have hbe := bodyL_of hbq
  have hbl := bodyL_len ((tg, l) : Root_)
  have hw := weighV_bd (s := (bodyL ((tg, l) : Root_))) (by omega)
  have hi2 : (itoaV (weighV (bodyL ((tg, l) : Root_)))).length ≤ 21 := itoaV_len (by rw [inR_i64]; omega)
  refine sw_skip (sw_seq (rg hP 3 [] rfl ?_ ?_))
  ·simp [conj]
   exact hso
  refine sw_seq (rg hP 4 [] rfl ?_ ?_)
  ·simp [conj, maxL, bytesL]
   repeat' apply And.intro
   all_goals first | omega | (show List.length (bodyL ((tg, l) : Root_)) ≤ 1000000; omega) | trivial
  refine sw_ret ⟨.inl rfl, _, rfl, ?_⟩
  simp [conj, rootT, c1, bytesL]
  try (rw [hbe, hbo]; simp [sealV]; rfl)
end Go.Sx

namespace Go.Sx
open Go
def numGo : Str → Int → Int
 | [], n => n
 | c :: r, n => if c.toNat < 48 ∨ 57 < c.toNat then -1 else numGo r (10 * n + ((c.toNat : Int) - 48))
def numV (s : Str) : Int := if inV s.length 1 12 = true then numGo s 0 else -1
theorem dig_toNat {k : Int} (h0 : 0 ≤ k) (h1 : k < 10) : ((UInt8.ofNat (48 + k).toNat).toNat : Int) = 48 + k := by
 obtain ⟨u, rfl⟩ := Int.eq_ofNat_of_zero_le h0
 have hu : u < 10 := by omega
 rw [show (48 + (u : Int)).toNat = 48 + u by omega, UInt8.toNat_ofNat']
 omega
theorem itoa_ind {P : Int → Prop} (h0 : ∀ n, 0 ≤ n → n < 10 → P n) (h1 : ∀ n, 0 ≤ n → ¬ n < 10 → P (n / 10) → P n) : ∀ n, 0 ≤ n → P n := by
 have : ∀ (k : Nat) (n : Int), 0 ≤ n → n < k → P n := by
  intro k
  induction k with
  | zero => intro n h hk; omega
  | succ k ih =>
   intro n h hk
   by_cases hn : n < 10
   ·exact h0 n h hn
   ·exact h1 n h hn (ih (n / 10) (by omega) (by omega))
 intro n hn
 exact this (n.toNat + 1) n hn (by omega)
theorem itoaV_dig : ∀ n : Int, 0 ≤ n → ∀ c ∈ itoaV n, 48 ≤ c.toNat ∧ c.toNat ≤ 57 := by
 refine itoa_ind ?_ ?_
 ·intro n h h2 c hc
  rw [itoaV_small h h2, List.mem_singleton] at hc
  have := dig_toNat h h2
  subst hc
  omega
 ·intro n h h2 ih c hc
  rw [itoaV_big h h2] at hc
  rcases List.mem_append.1 hc with hc | hc
  ·exact ih c hc
  ·rw [List.mem_singleton] at hc
   have := dig_toNat (k := n % 10) (by omega) (by omega)
   subst hc
   omega
theorem itoaV_lenk : ∀ (k : Nat) (n : Int), 0 ≤ n → n < 10 ^ (k + 1) → 1 ≤ (itoaV n).length ∧ (itoaV n).length ≤ k + 1 := by
 intro k
 induction k with
 | zero => intro n h h2; rw [itoaV_small h (by simpa using h2)]; simp
 | succ k ih =>
  intro n h h2
  by_cases hn : n < 10
  ·rw [itoaV_small h hn]; simp
  ·rw [itoaV_big h hn]
   rw [Int.pow_succ] at h2
   have := ih (n / 10) (by omega) (by omega)
   simp only [List.length_append, List.length_cons, List.length_nil]
   omega
theorem numGo_itoa : ∀ n : Int, 0 ≤ n → ∀ r, numGo (itoaV n ++ r) 0 = numGo r n := by
 refine itoa_ind ?_ ?_
 ·intro n h h2 r
  have hd := dig_toNat h h2
  rw [itoaV_small h h2, List.singleton_append]
  simp only [numGo]
  rw [if_neg (by omega), hd]
  congr 1
  omega
 ·intro n h h2 ih r
  have hd := dig_toNat (k := n % 10) (by omega) (by omega)
  rw [itoaV_big h h2, List.append_assoc, ih, List.singleton_append]
  simp only [numGo]
  rw [if_neg (by omega), hd]
  congr 1
  omega
theorem numV_itoa {n : Int} (h : 0 ≤ n) (h2 : n < 1000000000000) : numV (itoaV n) = n := by
 have hl := itoaV_lenk 11 n h (by omega)
 unfold numV
 rw [if_pos (by simp [inV]; omega)]
 have := numGo_itoa n h []
 rwa [List.append_nil] at this
def cutGo (a : UInt8) : Str → Str → List Str
 | cur, [] => [cur]
 | cur, c :: r => if c = a then cur :: cutGo a [] r else cutGo a (cur ++ [c]) r
def cutV (a : UInt8) (s : Str) : List Str := cutGo a [] s
theorem cutGo_word {a : UInt8} : ∀ {w cur r : Str}, (∀ c ∈ w, c ≠ a) → cutGo a cur (w ++ r) = cutGo a (cur ++ w) r := by
 intro w
 induction w with
 | nil => intro cur r _; simp
 | cons c w ih =>
  intro cur r h
  rw [List.cons_append]
  simp only [cutGo]
  rw [if_neg (h c List.mem_cons_self), ih (fun x hx => h x (List.mem_cons_of_mem _ hx)), List.append_assoc, List.singleton_append]
theorem cutGo_at {a : UInt8} {cur r : Str} : cutGo a cur (a :: r) = cur :: cutGo a [] r := by simp [cutGo]
theorem cut_lines {a : UInt8} : ∀ {ls : List Str}, (∀ l ∈ ls, ∀ c ∈ l, c ≠ a) → cutV a (catGo (fun l => l ++ [a]) ls) = ls ++ [[]] := by
 intro ls
 induction ls with
 | nil => intro _; rfl
 | cons l ls ih =>
  intro h
  have ih2 := ih (fun x hx => h x (List.mem_cons_of_mem _ hx))
  unfold cutV at ih2 ⊢
  simp only [catGo]
  rw [List.append_assoc, cutGo_word (h l List.mem_cons_self), List.nil_append, List.singleton_append, cutGo_at, ih2]
  rfl
theorem cut_tail {a : UInt8} : ∀ {ws : List Str} {cur : Str}, (∀ w ∈ ws, ∀ c ∈ w, c ≠ a) → cutGo a cur (Lib.joinTail [a] ws) = cur :: ws := by
 intro ws
 induction ws with
 | nil => intro cur _; rfl
 | cons w ws ih =>
  intro cur h
  have e : Lib.joinTail [a] (w :: ws) = a :: (w ++ Lib.joinTail [a] ws) := by simp [Lib.joinTail]
  rw [e, cutGo_at, cutGo_word (h w List.mem_cons_self), List.nil_append, ih (fun x hx => h x (List.mem_cons_of_mem _ hx))]
theorem cut_join {a : UInt8} {w : Str} {ws : List Str} (h : ∀ x ∈ w :: ws, ∀ c ∈ x, c ≠ a) : cutV a (Lib.join (w :: ws) [a]) = w :: ws := by
 unfold cutV
 rw [Lib.join_cons, cutGo_word (h w List.mem_cons_self), List.nil_append, cut_tail (fun x hx => h x (List.mem_cons_of_mem _ hx))]
def nR : Str := [114, 111, 111, 116]
def nV : Str := [118, 111, 108]
def nS : Str := [115, 117, 109]
def nN : Str := [110, 111, 110, 101]
def lineW (ws : List Str) : Str := Lib.join ws [32] ++ [10]
def pW (p : Ptr_) : List Str := if noneV p = true then [nN] else wordsV p
def vW (v : Vol_) : List (List Str) := [nV, v.1] :: v.2.map pW
def rW (r : Root_) : List (List Str) := [nR, itoaV r.1] :: r.2.flatMap vW
theorem cat_append {α : Type} {f : α → Str} {a b : List α} : catGo f (a ++ b) = catGo f a ++ catGo f b := by
 induction a with
 | nil => rfl
 | cons x a ih => simp only [List.cons_append, catGo, ih, List.append_assoc]
theorem cat_map {α β : Type} {f : β → Str} {g : α → β} {l : List α} : catGo f (l.map g) = catGo (fun x => f (g x)) l := by
 induction l with
 | nil => rfl
 | cons x l ih => simp only [List.map_cons, catGo, ih]
theorem cat_flat {α β : Type} {f : β → Str} {g : α → List β} {l : List α} : catGo f (l.flatMap g) = catGo (fun x => catGo f (g x)) l := by
 induction l with
 | nil => rfl
 | cons x l ih => rw [List.flatMap_cons, cat_append, ih]; rfl
theorem cat_congr {α : Type} {f g : α → Str} {l : List α} (h : ∀ x, f x = g x) : catGo f l = catGo g l := by rw [show f = g from funext h]
theorem lineV_W (p : Ptr_) : lineV p = lineW (pW p) := by
 unfold lineV lineW pW
 split
 ·rw [Lib.join_one]; rfl
 ·rfl
theorem join_two (a b s : Str) : Lib.join [a, b] s = a ++ s ++ b := by rw [Lib.join_cons]; simp [Lib.joinTail]
theorem volT_W (v : Vol_) : volT v = catGo lineW (vW v) := by
 unfold volT vW
 simp only [catGo]
 rw [cat_map, cat_congr lineV_W]
 congr 1
 rw [lineW, join_two]
 rfl
theorem body_W (r : Root_) : bodyV r = catGo lineW (rW r) := by
 unfold bodyV rW
 simp only [catGo]
 rw [cat_flat, cat_congr volT_W]
 congr 1
 rw [lineW, join_two]
 rfl
theorem seal_W (r : Root_) : sealV (bodyV r) = catGo lineW (rW r ++ [[nS, itoaV (weighV (bodyV r))]]) := by
 rw [cat_append, ← body_W]
 unfold sealV
 simp only [catGo]
 rw [lineW, join_two, List.append_nil, List.append_assoc, List.append_assoc, List.append_assoc]
 rfl
def Cl (w : Str) : Prop := ∀ c ∈ w, c ≠ 32 ∧ c ≠ 10
theorem cl_num {n : Int} (h : 0 ≤ n) : Cl (itoaV n) := by
 intro c hc
 have := itoaV_dig n h c hc
 refine ⟨?_, ?_⟩ <;> · rintro rfl; revert this; decide
theorem cl_name {s : Str} (h : s.all lower = true) : Cl s := by
 intro c hc
 have := List.all_eq_true.1 h c hc
 refine ⟨?_, ?_⟩ <;> · rintro rfl; revert this; decide
theorem cl_app {a b : Str} (ha : Cl a) (hb : Cl b) : Cl (a ++ b) := fun c hc => (List.mem_append.1 hc).elim (ha c) (hb c)
theorem cl_lit {s : Str} (h : (s.all fun c => decide (c ≠ 32 ∧ c ≠ 10)) = true) : Cl s := fun c hc => of_decide_eq_true (List.all_eq_true.1 h c hc)
def LOk (ws : List Str) : Prop := ws ≠ [] ∧ ∀ w ∈ ws, Cl w
theorem lok_two {a b : Str} (ha : Cl a) (hb : Cl b) : LOk [a, b] := ⟨by simp, fun w hw => by
 simp only [List.mem_cons, List.not_mem_nil, or_false] at hw
 rcases hw with rfl | rfl
 ·exact ha
 ·exact hb⟩
theorem cut_line {ws : List Str} (h : LOk ws) : cutV 32 (Lib.join ws [32]) = ws := by
 cases ws with
 | nil => exact absurd rfl h.1
 | cons w ws => exact cut_join fun x hx c hc => (h.2 x hx c hc).1
theorem join_no10 {ws : List Str} (h : LOk ws) : ∀ c ∈ Lib.join ws [32], c ≠ 10 := by
 cases ws with
 | nil => exact absurd rfl h.1
 | cons w ws =>
  intro c hc
  rw [Lib.join_cons] at hc
  rcases List.mem_append.1 hc with hc | hc
  ·exact (h.2 w List.mem_cons_self c hc).2
  ·simp only [Lib.joinTail, List.mem_flatten, List.mem_map] at hc
   obtain ⟨l, ⟨x, hx, rfl⟩, hc⟩ := hc
   rcases List.mem_append.1 hc with hc | hc
   ·rw [List.mem_singleton] at hc; subst hc; decide
   ·exact (h.2 x (List.mem_cons_of_mem _ hx) c hc).2
theorem cut_all {ls : List (List Str)} (h : ∀ ws ∈ ls, LOk ws) : (cutV 10 (catGo lineW ls)).map (cutV 32) = ls ++ [[[]]] := by
 have e : catGo lineW ls = catGo (fun l => l ++ [10]) (ls.map fun ws => Lib.join ws [32]) := by rw [cat_map]; rfl
 rw [e, cut_lines (fun l hl => by obtain ⟨ws, hws, rfl⟩ := List.mem_map.1 hl; exact join_no10 (h ws hws)), List.map_append, List.map_map]
 congr 1
 rw [show ls = ls.map id from (List.map_id _).symm, List.map_map]
 exact List.map_congr_left fun ws hws => cut_line (h ws hws)
def plcR (w : Str) : Plc := (numV ((cutV 46 w).getD 0 []), if (cutV 46 w).length = 2 then numV ((cutV 46 w).getD 1 []) else -1)
def ptrR (ws : List Str) : Ptr_ := if ws.getD 0 [] ≠ tPtr ∨ ws.length < 3 then (0, 0, []) else (numV (ws.getD 1 []), numV (ws.getD 2 []), (ws.drop 3).map plcR)
theorem plcR_word {d : Int} {a : Plc} (h : placeV d a = true) (hd : d ≤ 4) : plcR (wordV a) = a := by
 simp only [placeV, Bool.and_eq_true, decide_eq_true_eq] at h
 have hn : ∀ n : Int, 0 ≤ n → ∀ c ∈ itoaV n, c ≠ 46 := by
  intro n hn c hc
  have := itoaV_dig n hn c hc
  rintro rfl; revert this; decide
 have e : cutV 46 (wordV a) = [itoaV a.1, itoaV a.2] := by
  unfold cutV wordV
  rw [List.append_assoc, cutGo_word (hn _ h.1), List.nil_append, List.singleton_append, cutGo_at]
  have := cutGo_word (a := 46) (cur := []) (r := []) (hn a.2 h.2.2.1)
  rw [List.append_nil, List.nil_append] at this
  rw [this]
  rfl
 unfold plcR
 rw [e]
 show (numV (itoaV a.1), numV (itoaV a.2)) = a
 rw [numV_itoa h.1 (by omega), numV_itoa h.2.2.1 (by omega)]
theorem ptrV_wide2 {d : Int} {p : Ptr_} (h : ptrV d p = true) (hn : ¬ noneV p = true) : (0 ≤ p.1 ∧ p.1 ≤ 9) ∧ (0 ≤ p.2.1 ∧ p.2.1 ≤ 1000000000) ∧ ∀ a ∈ p.2.2, placeV 4 a = true := by
 have h4 := ptrV_wide h
 simp only [ptrV, Bool.and_eq_true, Bool.or_eq_true] at h4
 rcases h4.2 with h1 | h1
 ·exact absurd h1 hn
 ·obtain ⟨h1, h2⟩ := h1
  simp only [sizeV, inV, Bool.and_eq_true, decide_eq_true_eq] at h1
  have hm : mostV 4 = 9 := by decide
  refine ⟨by omega, by omega, fun a ha => ?_⟩
  obtain ⟨i, hi, rfl⟩ := List.getElem_of_mem ha
  have := chk_iff.1 h2 i hi
  simp only [placeF, Bool.and_eq_true] at this
  exact this.1
theorem none_eq {p : Ptr_} (h : noneV p = true) : p = (0, 0, []) := by
 simp only [noneV, Bool.and_eq_true, decide_eq_true_eq] at h
 obtain ⟨a, b, c⟩ := p
 obtain ⟨rfl, rfl, h3⟩ := h
 have h4 : c = [] := List.eq_nil_of_length_eq_zero h3
 rw [h4]
theorem ptrR_W {d : Int} {p : Ptr_} (h : ptrV d p = true) : ptrR (pW p) = p := by
 by_cases hn : noneV p = true
 ·rw [none_eq hn]; decide
 ·obtain ⟨h1, h2, h3⟩ := ptrV_wide2 h hn
  have e : pW p = tPtr :: itoaV p.1 :: itoaV p.2.1 :: p.2.2.map wordV := by unfold pW; rw [if_neg hn]; rfl
  rw [e]
  unfold ptrR
  rw [if_neg (by simp)]
  show (numV (itoaV p.1), numV (itoaV p.2.1), (p.2.2.map wordV).map plcR) = p
  rw [numV_itoa h1.1 (by omega), numV_itoa h2.1 (by omega), List.map_map]
  have : p.2.2.map (plcR ∘ wordV) = p.2.2 := by
   conv => rhs; rw [← List.map_id p.2.2]
   exact List.map_congr_left fun a ha => plcR_word (h3 a ha) (by decide)
  rw [this]
theorem lok_W {d : Int} {p : Ptr_} (h : ptrV d p = true) : LOk (pW p) := by
 unfold pW
 split
 ·exact ⟨by simp, fun w hw => by rw [List.mem_singleton.1 hw]; exact cl_lit (by decide)⟩
 ·rename_i hn
  obtain ⟨h1, h2, h3⟩ := ptrV_wide2 h hn
  refine ⟨by simp [wordsV], fun w hw => ?_⟩
  rcases List.mem_append.1 hw with hw | hw
  ·simp only [List.mem_cons, List.not_mem_nil, or_false] at hw
   rcases hw with rfl | rfl | rfl
   ·exact cl_lit (by decide)
   ·exact cl_num h1.1
   ·exact cl_num h2.1
  ·obtain ⟨a, ha, rfl⟩ := List.mem_map.1 hw
   have h4 := h3 a ha
   simp only [placeV, Bool.and_eq_true, decide_eq_true_eq] at h4
   exact cl_app (cl_app (cl_num h4.1) (cl_lit (by decide))) (cl_num h4.2.2.1)
def rdStep (b : Bool) (o : Root_) (ws : List Str) : Root_ :=
 if b = true ∧ ws.length = 2 then (numV (ws.getD 1 []), o.2)
 else if ws.getD 0 [] = nV ∧ ws.length = 2 then (o.1, o.2 ++ [(ws.getD 1 [], [])])
 else if 0 < o.2.length ∧ (ws.getD 0 [] = tPtr ∨ ws.getD 0 [] = nN) then (o.1, o.2.set (o.2.length - 1) ((o.2.getD (o.2.length - 1) ([], [])).1, (o.2.getD (o.2.length - 1) ([], [])).2 ++ [ptrR ws]))
 else o
def rdGo : Bool → Root_ → List (List Str) → Root_
 | _, o, [] => o
 | b, o, ws :: r => rdGo false (rdStep b o ws) r
def parseV (s : Str) : Root_ := rdGo true (0, []) ((cutV 10 s).map (cutV 32))
theorem step_ptr {t : Int} {pre : List Vol_} {nm : Str} {done : List Ptr_} {p : Ptr_} {d : Int} (h : ptrV d p = true) : rdStep false (t, pre ++ [(nm, done)]) (pW p) = (t, pre ++ [(nm, done ++ [p])]) := by
 have hr := ptrR_W h
 have h0 : (pW p).getD 0 [] = tPtr ∨ (pW p).getD 0 [] = nN := by
  unfold pW
  split
  ·exact .inr rfl
  ·exact .inl rfl
 unfold rdStep
 rw [if_neg (by simp), if_neg (by rcases h0 with h0 | h0 <;> · rw [h0]; intro hh; exact absurd hh.1 (by decide)), if_pos ⟨by simp, h0⟩, hr]
 simp
theorem rd_blocks {t : Int} {pre : List Vol_} {nm : Str} {d : Int} : ∀ {bl done : List Ptr_} {rest : List (List Str)}, (∀ p ∈ bl, ptrV d p = true) → rdGo false (t, pre ++ [(nm, done)]) (bl.map pW ++ rest) = rdGo false (t, pre ++ [(nm, done ++ bl)]) rest := by
 intro bl
 induction bl with
 | nil => intro done rest _; simp
 | cons p bl ih =>
  intro done rest h
  rw [List.map_cons, List.cons_append]
  simp only [rdGo]
  rw [step_ptr (h p List.mem_cons_self), ih (fun q hq => h q (List.mem_cons_of_mem _ hq)), List.append_assoc, List.singleton_append]
theorem rd_vol {t : Int} {pre : List Vol_} {v : Vol_} {d : Int} {rest : List (List Str)} (h : ∀ p ∈ v.2, ptrV d p = true) : rdGo false (t, pre) (vW v ++ rest) = rdGo false (t, pre ++ [v]) rest := by
 unfold vW
 rw [List.cons_append]
 simp only [rdGo]
 have e : rdStep false (t, pre) [nV, v.1] = (t, pre ++ [(v.1, [])]) := by
  unfold rdStep
  rw [if_neg (by simp), if_pos ⟨rfl, rfl⟩]
  rfl
 rw [e, rd_blocks h, List.nil_append]
theorem rd_vols {t : Int} {d : Int} : ∀ {vs pre : List Vol_} {rest : List (List Str)}, (∀ v ∈ vs, ∀ p ∈ v.2, ptrV d p = true) → rdGo false (t, pre) (vs.flatMap vW ++ rest) = rdGo false (t, pre ++ vs) rest := by
 intro vs
 induction vs with
 | nil => intro pre rest _; simp
 | cons v vs ih =>
  intro pre rest h
  rw [List.flatMap_cons, List.append_assoc, rd_vol (h v List.mem_cons_self), ih (fun w hw => h w (List.mem_cons_of_mem _ hw)), List.append_assoc, List.singleton_append]
theorem root_parts {d : Int} {r : Root_} (h : rootV d r = true) : (0 ≤ r.1 ∧ r.1 ≤ 100000) ∧ (∀ v ∈ r.2, nameV v.1 = true ∧ v.2.length = 3 ∧ ∀ p ∈ v.2, ptrV d p = true) ∧ r.2.length ≤ 4 := by
 simp only [rootV, volsV, inV, Bool.and_eq_true, decide_eq_true_eq] at h
 refine ⟨h.2.1, fun v hv => ?_, h.2.2.1.2⟩
 obtain ⟨i, hi, rfl⟩ := List.getElem_of_mem hv
 have := chk_iff.1 h.2.2.1.1 i hi
 simp only [volF, Bool.and_eq_true, decide_eq_true_eq, List.all_eq_true] at this
 exact ⟨this.1, this.2.1, this.2.2.2⟩
theorem weighGo_nn : ∀ (s : Str) (i : Nat), 0 ≤ weighGo s i := by
 intro s
 induction s with
 | nil => intro i; exact Int.le_refl _
 | cons c s ih =>
  intro i
  simp only [weighGo]
  have := ih (i + 1)
  have h1 : (0 : Int) ≤ (c.toNat : Int) * (65536 + (i : Int) + 1) := Int.mul_nonneg (by omega) (by omega)
  omega
theorem lok_root {d : Int} {r : Root_} (h : rootV d r = true) : ∀ ws ∈ rW r ++ [[nS, itoaV (weighV (bodyV r))]], LOk ws := by
 obtain ⟨h1, h2, _⟩ := root_parts h
 intro ws hws
 rcases List.mem_append.1 hws with hws | hws
 ·unfold rW at hws
  rcases List.mem_cons.1 hws with rfl | hws
  ·exact lok_two (cl_lit (by decide)) (cl_num h1.1)
  ·obtain ⟨v, hv, hws⟩ := List.mem_flatMap.1 hws
   obtain ⟨a, _, c⟩ := h2 v hv
   unfold vW at hws
   rcases List.mem_cons.1 hws with rfl | hws
   ·refine lok_two (cl_lit (by decide)) (cl_name ?_)
    simp only [nameV, Bool.and_eq_true] at a
    exact a.2
   ·obtain ⟨p, hp, rfl⟩ := List.mem_map.1 hws
    exact lok_W (c p hp)
 ·rw [List.mem_singleton.1 hws]
  exact lok_two (cl_lit (by decide)) (cl_num (weighGo_nn _ _))
theorem step_none {o : Root_} {ws : List Str} (h1 : ws.getD 0 [] ≠ nV) (h2 : ws.getD 0 [] ≠ tPtr) (h3 : ws.getD 0 [] ≠ nN) : rdStep false o ws = o := by
 unfold rdStep
 rw [if_neg (by simp), if_neg (fun hh => h1 hh.1), if_neg (fun hh => hh.2.elim h2 h3)]
theorem parse_seal {d : Int} {r : Root_} (h : rootV d r = true) : parseV (sealV (bodyV r)) = r := by
 obtain ⟨h1, h2, _⟩ := root_parts h
 unfold parseV
 rw [seal_W, cut_all (lok_root h)]
 unfold rW
 rw [List.cons_append, List.cons_append]
 simp only [rdGo]
 have e : rdStep true (0, []) [nR, itoaV r.1] = (r.1, []) := by
  unfold rdStep
  rw [if_pos ⟨rfl, rfl⟩]
  show (numV (itoaV r.1), []) = _
  rw [numV_itoa h1.1 (by omega)]
 rw [e, List.append_assoc, rd_vols (fun v hv => (h2 v hv).2.2), List.nil_append, List.singleton_append]
 simp only [rdGo]
 rw [step_none (by simp [nS]; decide) (by simp [nS]; decide) (by simp [nS]; decide), step_none (by simp; decide) (by simp; decide) (by simp; decide)]
theorem seal_ne {s : Str} : sealV s ≠ [] := by unfold sealV; simp
theorem rootT_nil {d : Int} {r : Root_} : rootT d r = [] ↔ ¬ rootV d r = true := by
 unfold rootT
 split
 ·rename_i h
  exact ⟨fun e => absurd e seal_ne, fun e => absurd h e⟩
 ·rename_i h
  exact ⟨fun _ => h, fun _ => rfl⟩
theorem parse_root {d : Int} {r : Root_} (h : rootV d r = true) : parseV (rootT d r) = r := by
 unfold rootT
 rw [if_pos h, parse_seal h]
theorem rootT_inj {d : Int} {a b : Root_} (ha : rootV d a = true) (hb : rootV d b = true) : rootT d a = rootT d b ↔ a = b :=
 ⟨fun e => by rw [← parse_root ha, ← parse_root hb, e], fun e => by rw [e]⟩
end Go.Sx

namespace Go.Sx
open Go
theorem cutGo_cons {a : UInt8} : ∀ {s cur : Str}, cutGo a cur s = (match cutGo a [] s with | [] => [] | w :: ws => (cur ++ w) :: ws) := by
 intro s
 induction s with
 | nil => intro cur; simp [cutGo]
 | cons c s ih =>
  intro cur
  simp only [cutGo]
  split
  ·simp
  ·rw [ih (cur := cur ++ [c]), ih (cur := [] ++ [c])]
   cases cutGo a [] s with
   | nil => rfl
   | cons w ws => simp
theorem cutV_ne {a : UInt8} {s : Str} : cutV a s ≠ [] := by
 unfold cutV
 induction s with
 | nil => simp [cutGo]
 | cons c s ih =>
  simp only [cutGo]
  split
  ·simp
  ·rw [cutGo_cons]
   cases h : cutGo a [] s with
   | nil => exact absurd h ih
   | cons w ws => simp
theorem index_miss_cut {a : UInt8} : ∀ {s : Str}, Lib.index s [a] = -1 → cutV a s = [s] := by
 intro s
 induction s with
 | nil => intro _; rfl
 | cons c s ih =>
  intro h
  unfold Lib.index at h
  by_cases hc : c = a
  ·subst hc; simp [List.isPrefixOf] at h
  ·have hp : ([a] : List UInt8).isPrefixOf (c :: s) = false := by simp [List.isPrefixOf, Ne.symm hc]
   rw [hp] at h
   by_cases hm : Lib.index s [a] = -1
   ·have := ih hm
    unfold cutV at this ⊢
    simp only [cutGo]
    rw [if_neg hc, cutGo_cons, this]
    rfl
   ·have hge := Lib.index_ge s [a]
    simp [hm] at h <;> omega
theorem index_hit_cut {a : UInt8} : ∀ {s : Str} {i : Nat}, Lib.index s [a] = i → cutV a s = s.take i :: cutV a (s.drop (i + 1)) := by
 intro s
 induction s with
 | nil => intro i h; simp [Lib.index] at h <;> omega
 | cons c s ih =>
  intro i h
  unfold Lib.index at h
  by_cases hc : c = a
  ·subst hc
   simp [List.isPrefixOf] at h
   obtain rfl : i = 0 := by omega
   unfold cutV
   simp [cutGo]
  ·have hp : ([a] : List UInt8).isPrefixOf (c :: s) = false := by simp [List.isPrefixOf, Ne.symm hc]
   rw [hp] at h
   by_cases hm : Lib.index s [a] = -1
   ·simp [hm] at h <;> omega
   ·have hge := Lib.index_ge s [a]
    simp [hm] at h
    obtain ⟨j, rfl⟩ : ∃ j, i = j + 1 := ⟨i - 1, by omega⟩
    have := ih (i := j) (by omega)
    unfold cutV at this ⊢
    simp only [cutGo]
    rw [if_neg hc, cutGo_cons, this]
    rfl
theorem splitK_cut {a : UInt8} : ∀ (k : Nat) (s : Str), Lib.count s [a] = k → Lib.splitK [a] 0 k s = cutV a s := by
 intro k
 induction k with
 | zero =>
  intro s h
  show [s] = _
  by_cases hm : Lib.index s [a] = -1
  ·exact (index_miss_cut hm).symm
  ·have hge := Lib.index_ge s [a]
   obtain ⟨i, hi⟩ : ∃ i : Nat, Lib.index s [a] = i := ⟨(Lib.index s [a]).toNat, by omega⟩
   have := Lib.count_hit (by simp) hi
   omega
 | succ k ih =>
  intro s h
  by_cases hm : Lib.index s [a] = -1
  ·have := Lib.count_miss hm; omega
  ·have hge := Lib.index_ge s [a]
   obtain ⟨i, hi⟩ : ∃ i : Nat, Lib.index s [a] = i := ⟨(Lib.index s [a]).toNat, by omega⟩
   have hc := Lib.count_hit (by simp) hi
   simp only [List.length_cons, List.length_nil, Nat.zero_add] at hc
   unfold Lib.splitK
   rw [if_neg (by simp [hm]), hi, index_hit_cut hi, ← ih (s.drop (i + 1)) (by omega)]
   simp
theorem split_cut {a : UInt8} {s : Str} : (Lib.splitB (mkS [a]) 0 (Lib.countB (mkS s) (mkS [a])) (mkS s)).map (·.data.toList) = cutV a s := by
 rw [Lib.splitB_data]
 exact splitK_cut _ s rfl
def atoN (s : Str) : Int := match Lib.atoiAll s with | .ok v => v | .range => Lib.atoiSat s | _ => 0
def atoE (s : Str) : Nat := match Lib.atoiAll s with | .ok _ => 0 | _ => 2
theorem decFrom_itoa : ∀ n : Int, 0 ≤ n → ∀ r, Lib.decFrom 0 (itoaV n ++ r) = Lib.decFrom n.toNat r := by
 refine itoa_ind ?_ ?_
 ·intro n h h2 r
  have hd := dig_toNat h h2
  rw [itoaV_small h h2, List.singleton_append]
  simp only [Lib.decFrom, Lib.digitVal]
  rw [if_pos (by omega)]
  simp only
  congr 1
  omega
 ·intro n h h2 ih r
  have hd := dig_toNat (k := n % 10) (by omega) (by omega)
  rw [itoaV_big h h2, List.append_assoc, ih, List.singleton_append]
  simp only [Lib.decFrom, Lib.digitVal]
  rw [if_pos (by omega)]
  simp only
  congr 1
  omega
theorem atoi_itoa {n : Int} (h : 0 ≤ n) (h2 : n < 1000000000000) : Lib.atoiAll (itoaV n) = .ok n := by
 have hl := itoaV_lenk 11 n h (by omega)
 rw [Lib.atoiAll_short _ (by omega)]
 have hd := decFrom_itoa n h []
 rw [List.append_nil] at hd
 have hdig := itoaV_dig n h
 cases hi : itoaV n with
 | nil => rw [hi] at hl; simp at hl
 | cons b r =>
  rw [hi] at hd hdig
  have hb := hdig b List.mem_cons_self
  have e1 : ¬ b = 45 := by rintro rfl; revert hb; decide
  have e2 : ¬ b = 43 := by rintro rfl; revert hb; decide
  simp only [Lib.atoi, beq_iff_eq]
  rw [if_neg e1, if_neg e2]
  unfold Lib.decNat
  simp only [List.isEmpty_cons, Bool.false_eq_true, if_false]
  rw [hd]
  simp only [Lib.decFrom, Option.map, Lib.NumEnd.ofOption]
  congr 1
  omega
theorem atoN_itoa {n : Int} (h : 0 ≤ n) (h2 : n < 1000000000000) : atoN (itoaV n) = n ∧ atoE (itoaV n) = 0 := by
 unfold atoN atoE
 rw [atoi_itoa h h2]
 exact ⟨rfl, rfl⟩
theorem cut_word {w r : Str} {a : UInt8} (h : ∀ c ∈ w, c ≠ a) : Lib.index (w ++ a :: r) [a] = (w.length : Int) := by
 induction w with
 | nil => unfold Lib.index; simp [List.isPrefixOf]
 | cons c w ih =>
  have hc : ¬ c = a := h c List.mem_cons_self
  have hp : ([a] : List UInt8).isPrefixOf (c :: (w ++ a :: r)) = false := by simp [List.isPrefixOf, Ne.symm hc]
  rw [List.cons_append]
  unfold Lib.index
  rw [hp, ih (fun x hx => h x (List.mem_cons_of_mem _ hx))]
  have : ((w.length : Int) == -1) = false := by rw [beq_eq_false_iff_ne]; omega
  simp [this]
theorem cut_at {w r : Str} {a : UInt8} (h : ∀ c ∈ w, c ≠ a) : Lib.cut (w ++ a :: r) [a] = (w, r, true) := by
 unfold Lib.cut
 rw [cut_word h, if_pos (by omega)]
 simp
abbrev RdS := List Str × Nat
def wordsI (first : Str) (s : RdS) : List Str × RdS :=
 if s.1.length = 0 then ([], (s.1, 1))
 else ((cutV 32 (s.1.getD 0 [])).drop 1, (s.1.drop 1, if (cutV 32 (s.1.getD 0 [])).getD 0 [] = first then s.2 else 1))
def numI (w : Str) (s : RdS) : Int × RdS := (atoN w, (s.1, if atoE w = 0 then s.2 else 1))
def onlyI (ws : List Str) (s : RdS) : Str × RdS := if ws.length = 1 then (ws.getD 0 [], s) else ([], (s.1, 1))
def nextI (first : Str) (s : RdS) : Bool := if s.1.length = 0 then false else Lib.hasPrefix (s.1.getD 0 [] ++ [32]) (first ++ [32])
def plcsI : List Str → List Plc → RdS → List Plc × RdS
 | [], out, s => (out, s)
 | w :: ws, out, s => plcsI ws (out ++ [(atoN (Lib.cut w [46]).1, atoN (Lib.cut w [46]).2.1)]) (numI (Lib.cut w [46]).2.1 (numI (Lib.cut w [46]).1 s).2).2
def ptrI (s : RdS) : Ptr_ × RdS :=
 if nextI nN s = true then ((0, 0, []), (wordsI nN s).2)
 else
  let ws := (wordsI tPtr s).1
  let s1 := (wordsI tPtr s).2
  if ws.length < 2 then ((0, 0, []), (s1.1, 1))
  else
   let s3 := (numI (ws.getD 1 []) (numI (ws.getD 0 []) s1).2).2
   let q := plcsI (ws.drop 2) [] s3
   ((atoN (ws.getD 0 []), atoN (ws.getD 1 []), q.1), q.2)
def blksI : Nat → List Ptr_ → RdS → List Ptr_ × RdS
 | 0, out, s => (out, s)
 | n + 1, out, s => blksI n (out ++ [(ptrI s).1]) (ptrI s).2
def volsI : Nat → List Vol_ → RdS → List Vol_ × RdS
 | 0, out, s => (out, s)
 | n + 1, out, s =>
  if s.2 = 0 ∧ nextI nV s = true then
   let w := wordsI nV s
   let o := onlyI w.1 w.2
   let q := blksI 3 [] o.2
   volsI n (out ++ [(o.1, q.1)]) q.2
  else (out, s)
def rootI (s : RdS) : Root_ × RdS :=
 let w := wordsI nR s
 let o := onlyI w.1 w.2
 let n := numI o.1 o.2
 let q := volsI s.1.length [] n.2
 ((n.1, q.1), q.2)
def readI (d : Int) (t : Str) : Root_ × Bool :=
 if 700 < t.length ∨ t = [] then ((0, []), false)
 else
  let q := rootI (cutV 10 t, 0)
  if q.2.2 = 1 ∨ rootT d q.1 ≠ t then ((0, []), false) else (q.1, true)
def readS (d : Int) (t : Str) : Root_ × Bool :=
 if 700 < t.length then ((0, []), false)
 else if rootT d (parseV t) ≠ t ∨ t = [] then ((0, []), false) else (parseV t, true)
end Go.Sx

namespace Go.Sx
open Go
structure RdOk (s : RdS) : Prop where
 ln : ∀ l ∈ s.1, l.length ≤ 700
 num : s.1.length ≤ 701
 er : s.2 ≤ 1
theorem words_ok {f : Str} {s : RdS} (h : RdOk s) : RdOk (wordsI f s).2 ∧ (wordsI f s).2.1.length ≤ s.1.length ∧ (0 < s.1.length → (wordsI f s).2.1.length < s.1.length) := by
 obtain ⟨h1, h2, h3⟩ := h
 unfold wordsI
 split
 ·exact ⟨⟨h1, h2, Nat.le_refl _⟩, Nat.le_refl _, fun h => by omega⟩
 ·refine ⟨⟨fun l hl => h1 l (List.mem_of_mem_drop hl), by simp only [List.length_drop]; omega, ?_⟩, by simp only [List.length_drop]; omega, fun _ => by simp only [List.length_drop]; omega⟩
  simp only
  split <;> omega
theorem cutGo_len' {a : UInt8} : ∀ {s cur : Str}, ∀ x ∈ cutGo a cur s, x.length ≤ cur.length + s.length := by
 intro s
 induction s with
 | nil => intro cur x hx; rw [List.mem_singleton.1 hx]; exact Nat.le_add_right _ _
 | cons c s ih =>
  intro cur x hx
  simp only [cutGo] at hx
  split at hx
  ·rcases List.mem_cons.1 hx with rfl | hx
   ·exact Nat.le_add_right _ _
   ·have := ih x hx
    simp only [List.length_nil, List.length_cons] at this ⊢
    omega
  ·have := ih x hx
   simp only [List.length_append, List.length_cons, List.length_nil] at this ⊢
   omega
theorem words_len {f : Str} {s : RdS} (h : RdOk s) : (∀ w ∈ (wordsI f s).1, w.length ≤ 700) ∧ (wordsI f s).1.length ≤ 701 := by
 unfold wordsI
 split
 ·simp
 ·rename_i hne
  have hlt : 0 < s.1.length := by omega
  have h0 : (s.1.getD 0 []).length ≤ 700 := by
   rw [List.getD_eq_getElem?_getD, gE hlt]
   exact h.1 _ (List.getElem_mem hlt)
  refine ⟨fun w hw => ?_, ?_⟩
  ·have := cutGo_len' w (List.mem_of_mem_drop hw)
   simp only [List.length_nil] at this
   omega
  ·have : ∀ (s cur : Str), (cutGo 32 cur s).length ≤ s.length + 1 := by
    intro s
    induction s with
    | nil => intro cur; simp [cutGo]
    | cons c s ih =>
     intro cur
     simp only [cutGo]
     split
     ·have := ih []
      simp only [List.length_cons]
      omega
     ·have := ih (cur ++ [c])
      simp only [List.length_cons]
      omega
   have h1 := this (s.1.getD 0 []) []
   simp only [List.length_drop]
   unfold cutV
   omega
theorem plcs_next {l : List Str} {i : Nat} {out : List Plc} {s : RdS} {v : List Plc × RdS} (hlt : i < l.length) (h : plcsI (l.drop i) out s = v) : plcsI (l.drop (i + 1)) (out ++ [(atoN (Lib.cut (l.getD i []) [46]).1, atoN (Lib.cut (l.getD i []) [46]).2.1)]) (numI (Lib.cut (l.getD i []) [46]).2.1 (numI (Lib.cut (l.getD i []) [46]).1 s).2).2 = v := by
 rw [List.drop_eq_getElem_cons hlt] at h
 rw [List.getD_eq_getElem?_getD, gE hlt]
 exact h
theorem plcs_end {l : List Str} {out : List Plc} {s : RdS} {v : List Plc × RdS} (h : plcsI (l.drop l.length) out s = v) : (out, s) = v := by
 rw [List.drop_length] at h
 exact h
theorem num_ok {f : Str} {s : RdS} (h : RdOk s) : RdOk (numI f s).2 ∧ (numI f s).2.1 = s.1 := by
 obtain ⟨h1, h2, h3⟩ := h
 unfold numI
 refine ⟨⟨h1, h2, ?_⟩, rfl⟩
 simp only
 split <;> omega
theorem only_ok {ws : List Str} {s : RdS} (h : RdOk s) : RdOk (onlyI ws s).2 ∧ (onlyI ws s).2.1 = s.1 := by
 obtain ⟨h1, h2, h3⟩ := h
 unfold onlyI
 split
 ·exact ⟨⟨h1, h2, h3⟩, rfl⟩
 ·exact ⟨⟨h1, h2, Nat.le_refl _⟩, rfl⟩
theorem plcs_ok : ∀ {ws : List Str} {out : List Plc} {s : RdS}, RdOk s → RdOk (plcsI ws out s).2 ∧ (plcsI ws out s).2.1 = s.1 := by
 intro ws
 induction ws with
 | nil => intro out s h; exact ⟨h, rfl⟩
 | cons w ws ih =>
  intro out s h
  simp only [plcsI]
  obtain ⟨a1, a2⟩ := num_ok (f := (Lib.cut w [46]).1) h
  obtain ⟨b1, b2⟩ := num_ok (f := (Lib.cut w [46]).2.1) a1
  obtain ⟨c1, c2⟩ := ih (out := out ++ [(atoN (Lib.cut w [46]).1, atoN (Lib.cut w [46]).2.1)]) b1
  exact ⟨c1, c2.trans (b2.trans a2)⟩
theorem ptrI_ok {s : RdS} (h : RdOk s) : RdOk (ptrI s).2 ∧ (ptrI s).2.1.length ≤ s.1.length := by
 unfold ptrI
 split
 ·exact ⟨(words_ok h).1, (words_ok h).2.1⟩
 ·obtain ⟨a1, a2, _⟩ := words_ok (f := tPtr) h
  simp only
  split
  ·exact ⟨⟨a1.1, a1.2, Nat.le_refl _⟩, a2⟩
  ·obtain ⟨b1, b2⟩ := num_ok (f := (wordsI tPtr s).1.getD 0 []) a1
   obtain ⟨c1, c2⟩ := num_ok (f := (wordsI tPtr s).1.getD 1 []) b1
   obtain ⟨d1, d2⟩ := plcs_ok (ws := (wordsI tPtr s).1.drop 2) (out := []) c1
   refine ⟨d1, ?_⟩
   rw [d2, c2, b2]
   exact a2
theorem blksI_ok : ∀ (n : Nat) (out : List Ptr_) (s : RdS), RdOk s → RdOk (blksI n out s).2 ∧ (blksI n out s).2.1.length ≤ s.1.length := by
 intro n
 induction n with
 | zero => intro out s h; exact ⟨h, Nat.le_refl _⟩
 | succ n ih =>
  intro out s h
  simp only [blksI]
  obtain ⟨a1, a2⟩ := ptrI_ok h
  obtain ⟨b1, b2⟩ := ih (out ++ [(ptrI s).1]) _ a1
  exact ⟨b1, by omega⟩
theorem nextI_pos {f : Str} {s : RdS} (h : nextI f s = true) : 0 < s.1.length := by
 unfold nextI at h
 split at h
 ·cases h
 ·omega
theorem volsI_stop {n : Nat} {vs : List Vol_} {s : RdS} (h : ¬ (s.2 = 0 ∧ nextI nV s = true)) : volsI n vs s = (vs, s) := by
 cases n with
 | zero => rfl
 | succ n => simp only [volsI]; rw [if_neg h]
theorem cut_ok {t : Str} (h : t.length ≤ 700) : RdOk (cutV 10 t, 0) := by
 refine ⟨fun l hl => ?_, ?_, Nat.zero_le _⟩
 ·have := cutGo_len' l hl
  simp only [List.length_nil] at this
  omega
 ·have : ∀ (s cur : Str), (cutGo 10 cur s).length ≤ s.length + 1 := by
   intro s
   induction s with
   | nil => intro cur; simp [cutGo]
   | cons c s ih =>
    intro cur
    simp only [cutGo]
    split
    ·have := ih []
     simp only [List.length_cons]
     omega
    ·have := ih (cur ++ [c])
     simp only [List.length_cons]
     omega
  have h1 := this t []
  show (cutGo 10 [] t).length ≤ 701
  omega
theorem volsI_ok : ∀ (n : Nat) (out : List Vol_) (s : RdS), RdOk s → RdOk (volsI n out s).2 := by
 intro n
 induction n with
 | zero => intro out s h; exact h
 | succ n ih =>
  intro out s h
  simp only [volsI]
  split
  ·exact ih _ _ (blksI_ok 3 [] _ (only_ok (words_ok h).1).1).1
  ·exact h
theorem rootI_ok {s : RdS} (h : RdOk s) : RdOk (rootI s).2 := volsI_ok _ _ _ (num_ok (only_ok (words_ok h).1).1).1
theorem only_len {ws : List Str} {s : RdS} (h : ∀ w ∈ ws, w.length ≤ 700) : (onlyI ws s).1.length ≤ 700 := by
 unfold onlyI
 split
 ·rename_i h1
  have hlt : 0 < ws.length := by omega
  show (ws.getD 0 []).length ≤ 700
  rw [List.getD_eq_getElem?_getD, gE hlt]
  exact h _ (List.getElem_mem hlt)
 ·exact Nat.zero_le _
end Go.Sx

namespace Go.Sx
open Go
def jw (ws : List Str) : Str := Lib.join ws [32]
theorem prefix_word : ∀ {f w y : Str}, (∀ c ∈ f, c ≠ 32) → (∀ c ∈ w, c ≠ 32) → (f ++ [32]).isPrefixOf (w ++ 32 :: y) = decide (f = w) := by
 intro f
 induction f with
 | nil =>
  intro w y _ hw
  cases w with
  | nil => simp [List.isPrefixOf]
  | cons c w =>
   have := hw c List.mem_cons_self
   simp [List.isPrefixOf, Ne.symm this]
 | cons a f ih =>
  intro w y hf hw
  have ha := hf a List.mem_cons_self
  cases w with
  | nil => simp [List.isPrefixOf, ha]
  | cons c w =>
   have := ih (w := w) (y := y) (fun x hx => hf x (List.mem_cons_of_mem _ hx)) (fun x hx => hw x (List.mem_cons_of_mem _ hx))
   simp only [List.cons_append, List.isPrefixOf, this]
   by_cases hac : a = c
   ·subst hac; simp
   ·simp [hac]
theorem jw_tail (w : Str) (ws : List Str) : ∃ y, jw (w :: ws) ++ [32] = w ++ 32 :: y := by
 unfold jw
 rw [Lib.join_cons]
 cases ws with
 | nil => exact ⟨[], by simp [Lib.joinTail]⟩
 | cons x ws => exact ⟨x ++ Lib.joinTail [32] ws ++ [32], by simp [Lib.joinTail]⟩
theorem nextI_jw {f w : Str} {ws rest : List Str} {e : Nat} (hf : Cl f) (hw : Cl w) : nextI f (jw (w :: ws) :: rest, e) = decide (f = w) := by
 unfold nextI
 rw [if_neg (by simp)]
 show Lib.hasPrefix (jw (w :: ws) ++ [32]) (f ++ [32]) = _
 obtain ⟨y, hy⟩ := jw_tail w ws
 rw [hy]
 exact prefix_word (fun c hc => (hf c hc).1) (fun c hc => (hw c hc).1)
theorem wordsI_jw {f : Str} {ws rest : List Str} {e : Nat} (h : LOk (f :: ws)) : wordsI f (jw (f :: ws) :: rest, e) = (ws, (rest, e)) := by
 unfold wordsI
 rw [if_neg (by simp)]
 have e1 : cutV 32 (List.getD (jw (f :: ws) :: rest, e).1 0 []) = f :: ws := cut_line h
 rw [e1]
 simp
theorem numI_itoa {n : Int} {s : RdS} (h : 0 ≤ n) (h2 : n < 1000000000000) : numI (itoaV n) s = (n, s) := by
 unfold numI
 obtain ⟨a, b⟩ := atoN_itoa h h2
 rw [a, b]
 rfl
theorem wordV_cut {a : Plc} (h0 : 0 ≤ a.1) : Lib.cut (wordV a) [46] = (itoaV a.1, itoaV a.2, true) := by
 have hn : ∀ c ∈ itoaV a.1, c ≠ 46 := by
  intro c hc
  have := itoaV_dig _ h0 c hc
  rintro rfl; revert this; decide
 unfold wordV
 rw [List.append_assoc, List.singleton_append]
 exact cut_at hn
theorem plcsI_words : ∀ {pl : List Plc} {out : List Plc} {s : RdS}, (∀ a ∈ pl, placeV 4 a = true) → plcsI (pl.map wordV) out s = (out ++ pl, s) := by
 intro pl
 induction pl with
 | nil => intro out s _; simp [plcsI]
 | cons a pl ih =>
  intro out s h
  have ha := h a List.mem_cons_self
  simp only [placeV, Bool.and_eq_true, decide_eq_true_eq] at ha
  simp only [List.map_cons, plcsI]
  rw [wordV_cut ha.1]
  simp only
  rw [numI_itoa ha.1 (by omega), numI_itoa ha.2.2.1 (by omega), (atoN_itoa ha.1 (by omega)).1, (atoN_itoa ha.2.2.1 (by omega)).1, ih (fun x hx => h x (List.mem_cons_of_mem _ hx)), List.append_assoc]
  rfl
theorem onlyI_one (w : Str) (s : RdS) : onlyI [w] s = (w, s) := by unfold onlyI; simp
theorem cl_nN : Cl nN := cl_lit (by decide)
theorem cl_nV : Cl nV := cl_lit (by decide)
theorem cl_nR : Cl nR := cl_lit (by decide)
theorem cl_nS : Cl nS := cl_lit (by decide)
theorem cl_tP : Cl tPtr := cl_lit (by decide)
theorem ptrI_jw {d : Int} {p : Ptr_} {rest : List Str} (h : ptrV d p = true) : ptrI (jw (pW p) :: rest, 0) = (p, (rest, 0)) := by
 have hl := lok_W h
 by_cases hn : noneV p = true
 ·have e : pW p = [nN] := by unfold pW; rw [if_pos hn]
  rw [e] at hl ⊢
  unfold ptrI
  rw [nextI_jw cl_nN cl_nN, if_pos (by decide), wordsI_jw hl, none_eq hn]
 ·obtain ⟨h1, h2, h3⟩ := ptrV_wide2 h hn
  have e : pW p = tPtr :: itoaV p.1 :: itoaV p.2.1 :: p.2.2.map wordV := by unfold pW; rw [if_neg hn]; rfl
  rw [e] at hl ⊢
  unfold ptrI
  rw [nextI_jw cl_nN cl_tP, if_neg (by decide), wordsI_jw hl]
  simp only
  rw [if_neg (by simp)]
  show ((atoN (itoaV p.1), atoN (itoaV p.2.1), (plcsI (p.2.2.map wordV) [] (numI (itoaV p.2.1) (numI (itoaV p.1) (rest, 0)).2).2).1), (plcsI (p.2.2.map wordV) [] (numI (itoaV p.2.1) (numI (itoaV p.1) (rest, 0)).2).2).2) = _
  rw [numI_itoa h1.1 (by omega), numI_itoa h2.1 (by omega), plcsI_words h3, (atoN_itoa h1.1 (by omega)).1, (atoN_itoa h2.1 (by omega)).1]
  rfl
theorem blksI_jw {d : Int} : ∀ {bl out : List Ptr_} {rest : List Str}, (∀ p ∈ bl, ptrV d p = true) → blksI bl.length out (bl.map (fun p => jw (pW p)) ++ rest, 0) = (out ++ bl, (rest, 0)) := by
 intro bl
 induction bl with
 | nil => intro out rest _; simp [blksI]
 | cons p bl ih =>
  intro out rest h
  simp only [List.map_cons, List.cons_append, List.length_cons, blksI]
  rw [ptrI_jw (h p List.mem_cons_self)]
  simp only
  rw [ih (fun q hq => h q (List.mem_cons_of_mem _ hq)), List.append_assoc]
  rfl
theorem volsI_jw {d : Int} : ∀ {vs out : List Vol_} {rest : List Str} {n : Nat}, (∀ v ∈ vs, nameV v.1 = true ∧ v.2.length = 3 ∧ ∀ p ∈ v.2, ptrV d p = true) → nextI nV (rest, 0) = false → vs.length ≤ n → volsI n out ((vs.flatMap vW).map jw ++ rest, 0) = (out ++ vs, (rest, 0)) := by
 intro vs
 induction vs with
 | nil =>
  intro out rest n _ hr _
  rw [volsI_stop (by rintro ⟨_, h⟩; rw [show ((([] : List Vol_).flatMap vW).map jw ++ rest, 0) = (rest, 0) from rfl, hr] at h; cases h)]
  simp
 | cons v vs ih =>
  intro out rest n h hr hn
  obtain ⟨m, rfl⟩ : ∃ m, n = m + 1 := ⟨n - 1, by simp only [List.length_cons] at hn; omega⟩
  obtain ⟨a, b, c⟩ := h v List.mem_cons_self
  have hcl : Cl v.1 := by
   simp only [nameV, Bool.and_eq_true] at a
   exact cl_name a.2
  have e : ((v :: vs).flatMap vW).map jw ++ rest = jw (nV :: [v.1]) :: (v.2.map (fun p => jw (pW p)) ++ ((vs.flatMap vW).map jw ++ rest)) := by
   simp [List.flatMap_cons, vW, Function.comp_def]
  rw [e]
  simp only [volsI]
  rw [nextI_jw cl_nV cl_nV, if_pos ⟨trivial, by decide⟩, wordsI_jw (lok_two cl_nV hcl)]
  have eo : onlyI [v.1] (v.2.map (fun p => jw (pW p)) ++ ((vs.flatMap vW).map jw ++ rest), 0) = (v.1, (v.2.map (fun p => jw (pW p)) ++ ((vs.flatMap vW).map jw ++ rest), 0)) := by
   exact onlyI_one _ _
  simp only
  rw [eo]
  simp only
  have hb := blksI_jw (d := d) (bl := v.2) (out := []) (rest := (vs.flatMap vW).map jw ++ rest) c
  rw [b] at hb
  rw [hb]
  simp only [List.nil_append]
  rw [ih (fun w hw => h w (List.mem_cons_of_mem _ hw)) hr (by simp only [List.length_cons] at hn; omega), List.append_assoc]
  rfl
theorem cut_seal {d : Int} {r : Root_} (h : rootV d r = true) : cutV 10 (sealV (bodyV r)) = (rW r ++ [[nS, itoaV (weighV (bodyV r))]]).map jw ++ [[]] := by
 have hl := lok_root h
 have e : catGo lineW (rW r ++ [[nS, itoaV (weighV (bodyV r))]]) = catGo (fun l => l ++ [10]) ((rW r ++ [[nS, itoaV (weighV (bodyV r))]]).map jw) := by rw [cat_map]; rfl
 rw [seal_W, e]
 exact cut_lines fun l hl2 => by obtain ⟨ws, hws, rfl⟩ := List.mem_map.1 hl2; exact join_no10 (hl ws hws)
theorem rootI_seal {d : Int} {r : Root_} (h : rootV d r = true) : (rootI (cutV 10 (sealV (bodyV r)), 0)).1 = r ∧ (rootI (cutV 10 (sealV (bodyV r)), 0)).2.2 = 0 := by
 obtain ⟨h1, h2, h3⟩ := root_parts h
 have hw := weighGo_nn (bodyV r) 0
 have e : cutV 10 (sealV (bodyV r)) = jw (nR :: [itoaV r.1]) :: ((r.2.flatMap vW).map jw ++ [jw [nS, itoaV (weighV (bodyV r))], []]) := by
  rw [cut_seal h]
  unfold rW
  simp
 rw [e]
 have hv := volsI_jw (d := d) (vs := r.2) (out := []) (rest := [jw [nS, itoaV (weighV (bodyV r))], []]) (n := (jw (nR :: [itoaV r.1]) :: ((r.2.flatMap vW).map jw ++ [jw [nS, itoaV (weighV (bodyV r))], []])).length) h2
  (by rw [nextI_jw cl_nV cl_nS]; decide)
  (by
   have : r.2.length ≤ (r.2.flatMap vW).length := by
    generalize r.2 = l
    induction l with
    | nil => simp
    | cons v l ih => rw [List.flatMap_cons, List.length_append]; simp only [vW, List.length_cons]; omega
   simp only [List.length_cons, List.length_append, List.length_map]
   omega)
 have hr : rootI (jw (nR :: [itoaV r.1]) :: ((r.2.flatMap vW).map jw ++ [jw [nS, itoaV (weighV (bodyV r))], []]), 0) = ((r.1, r.2), ([jw [nS, itoaV (weighV (bodyV r))], []], 0)) := by
  unfold rootI
  simp only
  rw [wordsI_jw (lok_two cl_nR (cl_num h1.1))]
  have eo : ∀ s : RdS, onlyI [itoaV r.1] s = (itoaV r.1, s) := fun s => onlyI_one _ s
  simp only
  rw [eo]
  simp only
  rw [numI_itoa h1.1 (by omega), hv]
  rfl
 rw [hr]
 exact ⟨rfl, rfl⟩
theorem lineW_len : ∀ {ws : List Str}, ws ≠ [] → (lineW ws).length = (ws.map fun w => w.length + 1).sum := by
 intro ws
 cases ws with
 | nil => intro h; exact absurd rfl h
 | cons w ws =>
  intro _
  have ht : ∀ ws : List Str, (Lib.joinTail [32] ws).length = (ws.map fun w => w.length + 1).sum := by
   intro ws
   induction ws with
   | nil => rfl
   | cons x ws ih =>
    have e : Lib.joinTail [32] (x :: ws) = 32 :: (x ++ Lib.joinTail [32] ws) := by simp [Lib.joinTail]
    rw [e, List.length_cons, List.length_append, ih, List.map_cons, List.sum_cons]
    omega
  unfold lineW
  rw [Lib.join_cons, List.length_append, List.length_append, ht, List.map_cons, List.sum_cons]
  simp only [List.length_cons, List.length_nil]
  omega
theorem lineV_short {d : Int} {p : Ptr_} (h : ptrV d p = true) : (lineV p).length ≤ 37 := by
 rw [lineV_W]
 by_cases hn : noneV p = true
 ·have e : pW p = [nN] := by unfold pW; rw [if_pos hn]
  rw [e]; decide
 ·obtain ⟨h1, h2, h3⟩ := ptrV_wide2 h hn
  have e : pW p = tPtr :: itoaV p.1 :: itoaV p.2.1 :: p.2.2.map wordV := by unfold pW; rw [if_neg hn]; rfl
  have hl4 : p.2.2.length ≤ 4 := ptrV_len h
  rw [e, lineW_len (by simp)]
  have a1 := itoaV_lenk 0 p.1 h1.1 (by omega)
  have a2 := itoaV_lenk 9 p.2.1 h2.1 (by omega)
  have a3 : ∀ (l : List Plc), (∀ a ∈ l, placeV 4 a = true) → ((l.map wordV).map fun w => w.length + 1).sum ≤ 5 * l.length := by
   intro l
   induction l with
   | nil => intro _; exact Nat.le_refl _
   | cons a l ih =>
    intro hp
    have ha := hp a List.mem_cons_self
    simp only [placeV, Bool.and_eq_true, decide_eq_true_eq] at ha
    have b1 := itoaV_lenk 0 a.1 ha.1 (by omega)
    have b2 := itoaV_lenk 1 a.2 ha.2.2.1 (by omega)
    have := ih fun x hx => hp x (List.mem_cons_of_mem _ hx)
    simp only [List.map_cons, List.sum_cons, wordV, List.length_append, List.length_cons, List.length_nil] at this ⊢
    omega
  have a4 := a3 p.2.2 h3
  simp only [List.map_cons, List.sum_cons, tPtr, List.length_cons, List.length_nil] at a4 ⊢
  omega
theorem rootT_short {d : Int} {r : Root_} : (rootT d r).length ≤ 700 := by
 unfold rootT
 split
 ·rename_i h
  obtain ⟨h1, h2, h3⟩ := root_parts h
  have a1 := itoaV_lenk 5 r.1 h1.1 (by omega)
  have a2 : (catGo volT r.2).length ≤ r.2.length * 119 := cat_len fun v hv => by
   obtain ⟨b1, b2, b3⟩ := h2 v hv
   have c1 : (catGo lineV v.2).length ≤ v.2.length * 37 := cat_len fun p hp => lineV_short (b3 p hp)
   simp only [nameV, inV, Bool.and_eq_true, decide_eq_true_eq] at b1
   unfold volT
   simp only [List.length_append, tVol, List.length_cons, List.length_nil]
   omega
  have a3 : (bodyV r).length ≤ 488 := by
   unfold bodyV
   simp only [List.length_append, tRoot, List.length_cons, List.length_nil]
   omega
  have a4 := weighV_bd (s := bodyV r) (by omega)
  have a5 := itoaV_lenk 11 (weighV (bodyV r)) a4.1 (by omega)
  unfold sealV
  simp only [List.length_append, tSum, List.length_cons, List.length_nil]
  omega
 ·exact Nat.zero_le _
theorem readI_root {d : Int} {r : Root_} (h : rootV d r = true) : readI d (rootT d r) = (r, true) := by
 have hs := rootT_short (d := d) (r := r)
 have hT : rootT d r = sealV (bodyV r) := if_pos h
 obtain ⟨e1, e2⟩ := rootI_seal h
 have hne : ¬ rootT d r = [] := by rw [rootT_nil]; exact fun h2 => h2 h
 unfold readI
 rw [if_neg (fun hh => hh.elim (fun h => by omega) hne)]
 simp only
 rw [hT, e1, e2, if_neg (by rw [hT]; simp)]
theorem readS_root {d : Int} {r : Root_} (h : rootV d r = true) : readS d (rootT d r) = (r, true) := by
 have hs := rootT_short (d := d) (r := r)
 have hne : ¬ rootT d r = [] := by rw [rootT_nil]; exact fun h2 => h2 h
 unfold readS
 rw [if_neg (by omega), parse_root h, if_neg (fun hh => hh.elim (fun h => h rfl) hne)]
theorem readI_S {d : Int} {t : Str} : readI d t = readS d t := by
 by_cases hx : ∃ r, rootV d r = true ∧ rootT d r = t
 ·obtain ⟨r, h1, rfl⟩ := hx
  rw [readI_root h1, readS_root h1]
 ·have hno : ∀ r, t ≠ [] → rootT d r ≠ t := by
   intro r hne e
   by_cases hr : rootV d r = true
   ·exact hx ⟨r, hr, e⟩
   ·have : rootT d r = [] := if_neg hr
    exact hne (by rw [← e, this])
  unfold readI readS
  by_cases h0 : t = []
  ·rw [if_pos (.inr h0)]
   split
   ·rfl
   ·rw [if_pos (.inr h0)]
  ·by_cases h7 : 700 < t.length
   ·rw [if_pos (.inl h7), if_pos h7]
   ·rw [if_neg (fun h => h.elim h7 h0), if_neg h7]
    simp only
    rw [if_pos (.inr (hno _ h0)), if_pos (.inl (hno _ h0))]
end Go.Sx

namespace Go.Sx
open Go
theorem readI_yes {d : Int} {t : Str} (h : (readI d t).2 = true) : rootV d (readI d t).1 = true ∧ rootT d (readI d t).1 = t := by
 unfold readI at h ⊢
 split
 ·rename_i h0
  rw [if_pos h0] at h
  cases h
 ·rename_i h0
  rw [if_neg h0] at h
  simp only at h ⊢
  split
  ·rename_i h1
   rw [if_pos h1] at h
   cases h
  ·rename_i h1
   have hne : ¬ t = [] := fun e => h0 (.inr e)
   have he : rootT d (rootI (cutV 10 t, 0)).1 = t := Classical.not_not.1 fun e => h1 (.inr e)
   exact ⟨Classical.not_not.1 fun e => hne (by rw [← he]; exact if_neg e), he⟩
theorem take_len {s : Str} {a : Int} (h0 : 0 ≤ a) (h1 : a < (s.length + 1 : Int)) : 0 ≤ a ∧ a ≤ (s.length : Int) := ⟨h0, by omega⟩
theorem ofs_len (R : Rd) : (ofs.getD (pk R 6).toNat []).length ≤ 6 := by
 rw [List.getD_eq_getElem?_getD]
 cases hk : ofs[(pk R 6).toNat]? with
 | none => exact Nat.zero_le _
 | some s =>
  have h : ∀ s ∈ ofs, s.length ≤ 6 := by decide
  exact h s (List.mem_of_getElem? hk)
theorem len3 {s u : Str} {a b : Nat} (hs : s.length ≤ 700) (hu : u.length ≤ 6) : (s.take a).length + u.length ≤ 140737488355328 ∧ (s.take a ++ u).length + (s.drop b).length ≤ 140737488355328 := by
 have h1 := List.length_take_le a s
 have h2 : (s.drop b).length ≤ s.length := by rw [List.length_drop]; omega
 have h3 : (s.take a).length ≤ s.length := by rw [List.length_take]; omega
 rw [List.length_append]
 omega
end Go.Sx

namespace Go.Sx
open Go
set_option maxRecDepth 100000
set_option linter.unusedVariables false
set_option linter.unusedSimpArgs false
set_option maxHeartbeats 2000000
def cDrRd : Ctr := ⟨4, [.val false TB pF], fun x => True, fun x => (.tup [(false, [.d TI pF (drText x.1).1]), (false, [.d .str pF (drText x.1).2])], [])⟩
theorem cDrRd_ok : CtrOk Proofs.Tryz.prog cDrRd := by
 have hP := (((((((((((Prg.none ttok mtok).and cOpen_ok).and cPick_ok).and cOf_ok).and cDisksD_ok).and cRootD_ok).and cOff_ok).and cRootTextS_ok).and cTextO_ok).and cCheck_ok).and cDecA_ok)
 refine ctr_of_body hP cDrRd (fn := Proofs.Tryz.f4) (rts := [.tmp 2, .tmp 3]) Proofs.Tryz.func4 rfl (by kernel_rfl) rfl rfl ?_
 rintro ⟨(code : List Int), ⟨⟩⟩ ⟨hdc, _⟩ _
 try dsimp only [Ty.den, Mode.den, mdens] at _
 refine ⟨rfl, ?_⟩
 have h0 : ROk (rd0 code) 3000 := rd0_ok hdc.2
 have h1 : ROk (nx (rd0 code)) 2999 := h0.nx (by omega)
 have hn := drN_bd h0
 have hq0 : ROk (drR2 code).2 2300 := (rootD_ok (m := 2300) (by decide) (h1.le (by omega)) hn).1
 have hq1 : ROk (drQ1 code) 2299 := hq0.nx (by omega)
 have hq2 : ROk (nx (drQ1 code)) 2298 := hq1.nx (by omega)
 have hsl : (drS code).length ≤ 700 := rootT_short
 have hat0 := pk_bd hq0 (by omega) (n := ((drS code).length + 1 : Int)) (by omega)
 have hat : 0 ≤ drAt code ∧ drAt code ≤ ((drS code).length : Int) := take_len hat0.1 hat0.2
 have hol := ofs_len (nx (drQ1 code))
 refine sw_seq (rd hP 1 rfl (sw_seq (rd hP 2 rfl (sw_seq (rg hP 3 [] rfl ?_ ?_)))))
 ·simp only [cj, cl]
  try dsimp only [Ty.den, Ty.dflt]
  repeat' apply And.intro
  all_goals first | omega | trivial | exact h0.le (by omega) | exact h1.le (by omega) | (show 3 ≤ drN code; omega) | (show drN code ≤ 4; omega)
 refine sw_seq (rg hP 4 [] rfl ?_ ?_)
 ·simp only [cj, cl]
  try dsimp only [Ty.den, Ty.dflt]
  repeat' apply And.intro
  all_goals first | omega | trivial | exact h0.le (by omega) | exact h1.le (by omega) | (show 3 ≤ drN code; omega) | (show drN code ≤ 4; omega)
 refine sw_seq ?_
 refine sw_ent (st' := ⟨[.j, .j, .j, .j, .v false [.ptr ⟨2, 1, 0⟩ 0], sInt .i64 (drN code), sStr (drS code), .j, .j, .j, .j, .j, .j, .j, .j, .j, .j, .j, .j, .j, .j, .j, .j, .j, .j, .j, .j, .j, .j, .j, .j, .j, .j, .j, .j, .j, .j, .j, .j, .j, .j, .j, .j, .j, .j, .j, .j, .j, .j, .j, .j, .j, .j, .j, .j, .j, .j, .j, .j, .j, .j, .j, .j, .j, .j, .j], [(⟨2, 1, 0⟩, rdA (drR2 code).2)], 4, []⟩) (ent_ok rfl ?_) ?_
 ·simp [conj, drS, drR2, drN, rd0]
 refine rg hP 5 [] rfl ?_ ?_
 ·simp only [cj, cl, maxL, bytesL, tcast_self]
  try dsimp only [Ty.den, Ty.dflt]
  repeat' apply And.intro
  all_goals first | omega | trivial | exact hq0.le (by omega) | exact hq1.le (by omega) | exact hq2.le (by omega) | (show 3 ≤ drN code; omega) | (show drN code ≤ 4; omega) | exact hat.1 | exact hat.2 | (show 0 < 6; decide) | exact hso | exact hso.1 | exact hso.2
 refine sw_seq (sw_seq (rg hP 6 [] rfl ?_ ?_))
 ·simp only [cj, cl, maxL, bytesL, tcast_self]
  try dsimp only [Ty.den, Ty.dflt]
  repeat' apply And.intro
  all_goals first | omega | trivial | exact hq0.le (by omega) | exact hq1.le (by omega) | exact hq2.le (by omega) | (show 3 ≤ drN code; omega) | (show drN code ≤ 4; omega) | exact hat.1 | exact hat.2 | (show 0 < 6; decide) | exact hso | exact hso.1 | exact hso.2
 refine sw_block (sw_seq ?_)
 refine sw_ent (st' := ⟨[.j, .j, .j, .j, .v false [.ptr ⟨2, 1, 0⟩ 0], sInt .i64 (drN code), sStr (drS code), sInt .i64 (drAt code), .j, .j, .j, .j, .j, .j, .j, .j, .j, .j, .j, .j, .j, .j, .j, .j, sInt .i64 (pk (drQ1 code) 8), .j, .j, .j, .j, .j, .j, .j, .j, .j, .j, .j, .j, .j, .j, .j, .j, .j, .j, .j, .j, .j, .j, .j, .j, .j, .j, .j, .j, .j, .j, .j, .j, .j, .j, .j, .j, .j, .j, .j, .j, .j], [(⟨2, 1, 0⟩, rdA (nx (drQ1 code)))], 6, []⟩) (ent_ok rfl ?_) ?_
 ·simp [conj, drAt, drQ1]
 refine rd hP 7 rfl (sw_cond rfl (fun c6 => ?_) (fun c6 => ?_))
 ·replace c6 : pk (drQ1 code) 8 = 0 := of_decide_eq_true c6
  refine sw_seq (rg hP 8 [] rfl ?_ ?_)
  ·simp only [cj, cl, maxL, bytesL, tcast_self]
   try dsimp only [Ty.den, Ty.dflt]
   repeat' apply And.intro
   all_goals first | omega | trivial | exact hq0.le (by omega) | exact hq1.le (by omega) | exact hq2.le (by omega) | (show 3 ≤ drN code; omega) | (show drN code ≤ 4; omega) | exact hat.1 | exact hat.2 | (show 0 < 6; decide) | exact hso | exact hso.1 | exact hso.2
  refine sw_ret ⟨.inl rfl, _, rfl, ?_⟩
  have hv : drText code = (drN code, (drS code).take (drAt code).toNat) := by
    unfold drText
    simp only
    rw [if_pos c6]
  rw [hv]
  simp [conj, bytesL, drAt, ofs, tSum]
  try rfl
 ·replace c6 : ¬ pk (drQ1 code) 8 = 0 := of_decide_eq_false c6
  refine sw_seq (rd hP 8 rfl (sw_cond rfl (fun c8 => ?_) (fun c8 => ?_)))
  ·replace c8 : pk (drQ1 code) 8 = 1 := of_decide_eq_true c8
   refine sw_seq (rg hP 9 [] rfl ?_ ?_)
   ·simp [conj, maxL, bytesL]
    have h9 := ofs_len (nx (drQ1 code))
    simp only [ofs] at h9
    simp at h9
    simp only [rd_eta]
    repeat' apply And.intro
    all_goals first | exact (show 0 < 6 by decide) | omega | exact hq2.le (by omega) | exact hq1.le (by omega) | exact hat.1 | exact hat.2
   refine sw_ret ⟨.inl rfl, _, rfl, ?_⟩
   have hv : drText code = (drN code, (drS code).take (drAt code).toNat ++ ofs.getD (pk (nx (drQ1 code)) 6).toNat [] ++ (drS code).drop (drAt code).toNat) := by
     unfold drText
     simp only
     rw [if_neg c6, if_pos c8]
   rw [hv]
   simp [conj, bytesL, drAt, ofs, tSum]
   try rfl
  ·replace c8 : ¬ pk (drQ1 code) 8 = 1 := of_decide_eq_false c8
   refine sw_seq (rd hP 9 rfl (sw_cond rfl (fun c10 => ?_) (fun c10 => ?_)))
   ·replace c10 : pk (drQ1 code) 8 = 2 := of_decide_eq_true c10
    refine sw_seq (rg hP 10 [] rfl ?_ ?_)
    ·simp only [cj, cl, maxL, bytesL, tcast_self]
     try dsimp only [Ty.den, Ty.dflt]
     repeat' apply And.intro
     all_goals first | omega | trivial | exact hq0.le (by omega) | exact hq1.le (by omega) | exact hq2.le (by omega) | (show 3 ≤ drN code; omega) | (show drN code ≤ 4; omega) | exact hat.1 | exact hat.2 | (show 0 < 6; decide) | exact hso | exact hso.1 | exact hso.2
    refine sw_ret ⟨.inl rfl, _, rfl, ?_⟩
    have hv : drText code = (7 - drN code, drS code) := by
      unfold drText
      simp only
      rw [if_neg c6, if_neg c8, if_pos c10]
    rw [hv]
    simp [conj, bytesL, drAt, ofs, tSum]
    try rfl
   ·replace c10 : ¬ pk (drQ1 code) 8 = 2 := of_decide_eq_false c10
    refine sw_seq (rd hP 10 rfl (sw_cond rfl (fun c12 => ?_) (fun c12 => ?_)))
    ·replace c12 : pk (drQ1 code) 8 = 3 := of_decide_eq_true c12
     obtain ⟨BL, hBL⟩ : ∃ s, bodyL (offD (nx (drQ1 code)) (drN code)).1 = s := ⟨_, rfl⟩
     have hbl : BL.length ≤ 7000 := hBL ▸ bodyL_len _
     have hw := weighV_bd (s := BL) (by omega)
     have hi2 : (itoaV (weighV BL)).length ≤ 21 := itoaV_len (by rw [inR_i64]; omega)
     have hso : SmO (offD (nx (drQ1 code)) (drN code)).1.2 := offD_smO (hq2.le (by omega)) hn
     refine sw_seq (rg hP 11 [] rfl ?_ ?_)
     ·simp only [cj, cl, tcast_self, rd_eta]
      repeat' apply And.intro
      all_goals first | exact hq2.le (by omega) | exact hn.1 | exact hn.2 | exact hso.1 | exact hso.2 | exact hso
     refine sw_seq ?_
     refine sw_ent (st' := ⟨[.j, .j, .j, .j, .v false [.ptr ⟨2, 1, 0⟩ 0], sInt .i64 (drN code), .j, .j, sStr BL, .j, .j, .j, .j, .j, .j, .j, .j, .j, .j, .j, .j, .j, .j, .j, .j, .j, .j, .j, .j, .j, .j, .j, .j, .j, .j, .j, .j, .j, .j, .j, .j, .j, .j, .j, .j, .j, .j, .j, .j, .j, .j, .j, .j, .j, .j, .j, .j, .j, .j, .j, .j, .j, .j, .j, .j, .j], [], 11, []⟩) (ent_ok rfl ?_) ?_
     ·simp [conj]
      exact hBL
     refine rg hP 12 [] rfl ?_ ?_
     ·simp [conj, maxL, bytesL]
      repeat' apply And.intro
      all_goals first | omega | (show BL.length ≤ 1000000; omega) | trivial
     refine sw_ret ⟨.inl rfl, _, rfl, ?_⟩
     have hv : drText code = (drN code, bodyL (offD (nx (drQ1 code)) (drN code)).1 ++ tSum ++ itoaV (weighV (bodyL (offD (nx (drQ1 code)) (drN code)).1)) ++ [10]) := by
       unfold drText
       simp only
       rw [if_neg c6, if_neg c8, if_neg c10, if_pos c12]
     rw [hv]
     rw [hBL]
     simp [conj, bytesL, drAt, ofs, tSum]
     try rfl
    ·replace c12 : ¬ pk (drQ1 code) 8 = 3 := of_decide_eq_false c12
     refine sw_skip (sw_seq (rd hP 11 rfl (sw_ret ⟨.inl rfl, _, rfl, ?_⟩)))
     have hv : drText code = (drN code, drS code) := by
       unfold drText
       simp only
       rw [if_neg c6, if_neg c8, if_neg c10, if_neg c12]
     rw [hv]
     simp [conj, bytesL, drAt, ofs, tSum]
     try rfl
end Go.Sx

namespace Go.Sx
open Go Go.RowKit
theorem ctr_of_new {P : Program} {c : Ctr} {fn : Func} {body : Code} (hf : P.funcs[c.f]? = some fn) (hb : fn.body = some body) (hn : (fn.name == "runtime.NumGoroutine") = false) (href : noRefs c.ins = true)
  (h : ∀ G w args x, (∀ b, G.g b ≠ .no → b < w.heap.size) → Amb P G.g w → ArgsOk G w 0 c.ins x args → c.pre x → Calls P c.f args.toArray w fun e w' => ∃ v, e = .returned v ∧ Below w.heap.size w w' ∧
   (∀ G' : Gh, (∀ b, w.heap.size ≤ b → b < w'.heap.size → G'.g b = .per) → MtS G' w' (c.post x).1 v) ∧ (c.post x).2 = []) : CtrOk P c := by
 intro G w args x hbnd ham hargs hpre
 have hrun : (callFunc c.f args.toArray).run P w = .ok (.enter c.f args.toArray) w := by
  have hn' : ¬ fn.name = "runtime.NumGoroutine" := by simpa using hn
  simp [callFunc, hf, hn', hb]
 refine ⟨_, _, hrun, .inr (.inl ⟨rfl, ?_⟩)⟩
 intro cs
 obtain ⟨e, w', fr, ⟨v, rfl, hB, hm, hp⟩, h1, h2, h3⟩ := h G w args x hbnd ham hargs hpre cs
 refine ⟨_, w', fr, ?_, h1, h2, h3⟩
 let G' : Gh := ⟨fun _ => .bool false, fun b => if w.heap.size ≤ b ∧ b < w'.heap.size then .per else G.g b⟩
 have hk : ∀ b, G.g b ≠ .no → w'.heap[b]? = w.heap[b]? := fun b hb => hB.block b (hbnd b hb)
 have hg : ∀ b, b < w.heap.size → G'.g b = G.g b := fun b hb => if_neg (by omega)
 have hgn : ∀ b, G.g b ≠ .no → G'.g b = G.g b := fun b hb => hg b (hbnd b hb)
 refine ⟨G', ⟨fun _ h => h.elim, ⟨fun b hb => ⟨(hgn b (by rw [hb]; simp)).trans hb, hk b (by rw [hb]; simp)⟩, fun b hb => ⟨(hgn b (by rw [hb]; simp)).trans hb, hk b (by rw [hb]; simp)⟩⟩, fun b j q hq _ => ⟨(hgn b (by rw [hq]; simp)).trans hq, hk b (by rw [hq]; simp)⟩, fun b hlt hb => ⟨hB.block b hlt, (hg b hlt).trans hb⟩, fun b hb => ?_, fun _ _ => rfl, hB.os, hB.tape, hB.output, hB.size⟩, fun _ => rfl, ?_, hm G' (fun b h1 h2 => if_pos ⟨h1, h2⟩), ?_⟩
 ·by_cases hlt : w.heap.size ≤ b ∧ b < w'.heap.size
  ·exact hlt.2
  ·have : G'.g b = G.g b := if_neg hlt
   rw [this] at hb
   exact Nat.lt_of_lt_of_le (hbnd b hb) hB.size
 ·rw [noRefs_ptr href]; intro p hp; cases hp
 ·rw [hp]; intro i R hi; cases hi
theorem maxLen_cell {G : Gh} {w : World} (ham : Amb Proofs.Tryz.prog G.g w) : ∃ m, w.cell? ⟨1, 0, none⟩ = some (.int .i64 m) := by
 obtain ⟨_, C, t, fz, h1, m, h2⟩ := ham.1 "internal/bytealg.MaxLen" (fun cs => ∃ m, cs = [.int .i64 m]) (.tail _ (List.mem_cons_self ..)) 1 (by kernel_rfl)
 refine ⟨m, ?_⟩
 have : C = #[.int .i64 m] := Array.ext' h2
 simp [World.cell?, h1, this]
def cPref : Ctr := ⟨68, [.val false .str pF, .val false .str pF], fun _ => True, fun x => (sBool (Lib.hasPrefix x.1 x.2.1), [])⟩
theorem cPref_ok : CtrOk Proofs.Tryz.prog cPref := by
 refine ctr_of_below (fn := Proofs.Tryz.f68) Proofs.Tryz.func68 rfl rfl rfl ?_
 rintro G w args ⟨(s : Str), (p : Str), ⟨⟩⟩ _ _ ⟨v, vs, rfl, ⟨_, cs, rfl, _, ⟨rfl, hl⟩⟩, v2, vs2, rfl, ⟨_, cs2, rfl, _, ⟨rfl, hl2⟩⟩, rfl⟩ _
 refine (Proofs.Tryz.strings_HasPrefix (mkS s) (mkS p) w).mono ?_
 rintro e w' ⟨rfl, rfl⟩
 exact ⟨_, rfl, Below.refl _ _, fun G' => MtS.ofBool, rfl⟩
def cCut : Ctr := ⟨69, [.val false .str pF, .val false .str pF], fun x => List.length x.1 ≤ 1000000, fun x => (.tup [(false, [.d .str pF (Lib.cut x.1 x.2.1).1]), (false, [.d .str pF (Lib.cut x.1 x.2.1).2.1]), (false, [.d .bool pF (Lib.cut x.1 x.2.1).2.2])], [])⟩
theorem cut_len (s a : Str) : (Lib.cut s a).1.length ≤ s.length ∧ (Lib.cut s a).2.1.length ≤ s.length := by
 unfold Lib.cut
 split
 ·simp only [List.length_take, List.length_drop]; omega
 ·exact ⟨Nat.le_refl _, Nat.zero_le _⟩
theorem size_ok {s : Str} (h : s.length ≤ 1000000) : (mkS s).size < 4294967281 := by
 have : (mkS s).size = s.length := rfl
 omega
theorem maxL_ok {n : Nat} (h : n ≤ 1000000) : n ≤ maxL := by unfold maxL; omega
theorem drewN_below (w : World) (n : Nat) : Below w.heap.size w (w.drewN n) := ⟨rfl, rfl, rfl, Nat.le_refl _, fun _ _ => rfl⟩
theorem cCut_ok : CtrOk Proofs.Tryz.prog cCut := by
 refine ctr_of_below (fn := Proofs.Tryz.f69) Proofs.Tryz.func69 rfl rfl rfl ?_
 rintro G w args ⟨(s : Str), (a : Str), ⟨⟩⟩ _ ham ⟨v, vs, rfl, ⟨_, cs, rfl, _, ⟨rfl, hl⟩⟩, v2, vs2, rfl, ⟨_, cs2, rfl, _, ⟨rfl, hl2⟩⟩, rfl⟩ hpre
 replace hpre : s.length ≤ 1000000 := hpre
 obtain ⟨m, hm⟩ := maxLen_cell ham
 refine (Proofs.Tryz.strings_Cut (mkS s) (mkS a) m w (size_ok hpre) hm).mono ?_
 rintro e w' ⟨rfl, n, rfl⟩
 have hc := cut_len s a
 exact ⟨_, rfl, drewN_below w n, fun G' => ⟨_, rfl, _, _, rfl, (MtS.ofStr (maxL_ok (by show (Lib.cut s a).1.length ≤ _; omega)) : MtS G' _ (sStr (Lib.cut s a).1) _), _, _, rfl, (MtS.ofStr (maxL_ok (by show (Lib.cut s a).2.1.length ≤ _; omega)) : MtS G' _ (sStr (Lib.cut s a).2.1) _), _, _, rfl, (MtS.ofBool : MtS G' _ (sBool (Lib.cut s a).2.2) _), rfl⟩, rfl⟩
def cAtoi : Ctr := ⟨67, [.val false .str pF], fun x => List.length x.1 ≤ 1000000, fun x => (.tup [(false, [.d TI pF (atoN x.1)]), (false, [.d .er pF (atoE x.1)])], [])⟩
theorem errVar_cell {G : Gh} {w : World} (ham : Amb Proofs.Tryz.prog G.g w) : (∃ t p, w.cell? ⟨4, 0, none⟩ = some (.iface t p)) ∧ ∃ t p, w.cell? ⟨5, 0, none⟩ = some (.iface t p) := by
 constructor
 ·obtain ⟨_, C, t, fz, h1, t2, p, h2⟩ := ham.1 "strconv.ErrSyntax" (fun cs => ∃ t p, cs = [.iface t p]) (.tail _ (.tail _ (List.mem_cons_self ..))) 4 (by kernel_rfl)
  refine ⟨t2, p, ?_⟩
  have : C = #[.iface t2 p] := Array.ext' h2
  simp [World.cell?, h1, this]
 ·obtain ⟨_, C, t, fz, h1, t2, p, h2⟩ := ham.1 "strconv.ErrRange" (fun cs => ∃ t p, cs = [.iface t p]) (.tail _ (.tail _ (.tail _ (List.mem_cons_self ..)))) 5 (by kernel_rfl)
  refine ⟨t2, p, ?_⟩
  have : C = #[.iface t2 p] := Array.ext' h2
  simp [World.cell?, h1, this]
theorem cAtoi_ok : CtrOk Proofs.Tryz.prog cAtoi := by
 refine ctr_of_below (fn := Proofs.Tryz.f67) Proofs.Tryz.func67 rfl rfl rfl ?_
 rintro G w args ⟨(s : Str), ⟨⟩⟩ _ ham ⟨v, vs, rfl, ⟨_, cs, rfl, _, ⟨rfl, hl⟩⟩, rfl⟩ hpre
 replace hpre : s.length ≤ 1000000 := hpre
 have hsz : (mkS s).size = s.length := rfl
 obtain ⟨⟨t5, p5, h5⟩, t6, p6, h6⟩ := errVar_cell ham
 cases h : Lib.atoiAll s with
 | ok n =>
  have hb := Lib.atoiAll_bounds h
  refine (Proofs.Tryz.strconv_Atoi_ok (mkS s) (by omega) n h w).mono ?_
  rintro e w' ⟨rfl, hw⟩
  refine ⟨_, rfl, ?_, fun G' => ⟨_, rfl, _, _, rfl, ?_, _, _, rfl, ?_, rfl⟩, rfl⟩
  ·rcases hw with rfl | ⟨t, rfl⟩
   ·exact Below.refl _ _
   ·exact Lib.bytesWorld_below w 5 t
  ·show MtS G' w' (sInt .i64 (atoN s)) _
   unfold atoN
   rw [h]
   exact .ofInt (by rw [inR_i64]; exact hb)
  ·show MtS G' w' (.v false [.d .er pF (atoE s)]) _
   unfold atoE
   rw [h]
   exact .of1 rfl ⟨rfl, _, rfl, .inl ⟨rfl, rfl⟩⟩
 | range =>
  refine (Proofs.Tryz.strconv_Atoi_range (mkS s) (by omega) h _ w h6 (.inr ⟨_, _, rfl⟩)).mono ?_
  rintro e w' ⟨N, rfl, _, _, hB⟩
  refine ⟨_, rfl, hB, fun G' => ⟨_, rfl, _, _, rfl, ?_, _, _, rfl, ?_, rfl⟩, rfl⟩
  ·show MtS G' w' (sInt .i64 (atoN s)) _
   unfold atoN
   rw [h]
   refine .ofInt ?_
   rw [inR_i64]
   show _ ≤ Lib.atoiSat s ∧ Lib.atoiSat s ≤ _
   unfold Lib.atoiSat
   split <;> decide
  ·show MtS G' w' (.v false [.d .er pF (atoE s)]) _
   unfold atoE
   rw [h]
   exact .of1 rfl ⟨rfl, _, rfl, .inr (.inr ⟨rfl, _, _, rfl⟩)⟩
 | _ =>
  refine (Proofs.Tryz.strconv_Atoi_syntax (mkS s) (by omega) h _ w h5 (.inr ⟨_, _, rfl⟩)).mono ?_
  rintro e w' ⟨N, rfl, _, _, hB⟩
  refine ⟨_, rfl, hB, fun G' => ⟨_, rfl, _, _, rfl, ?_, _, _, rfl, ?_, rfl⟩, rfl⟩
  ·show MtS G' w' (sInt .i64 (atoN s)) _
   unfold atoN
   rw [h]
   exact .ofInt (by rw [inR_i64]; show (-9223372036854775808 : Int) ≤ 0 ∧ (0 : Int) ≤ 9223372036854775807; decide)
  ·show MtS G' w' (.v false [.d .er pF (atoE s)]) _
   unfold atoE
   rw [h]
   exact .of1 rfl ⟨rfl, _, rfl, .inr (.inr ⟨rfl, _, _, rfl⟩)⟩
def cSplit : Ctr := ⟨23, [.val false .str pF, .val false .str pF], fun x => List.length x.1 ≤ 1000000 ∧ List.length x.2.1 = 1, fun x => (.v false [.d (.sl .str) pF (cutV (List.headD x.2.1 0) x.1)], [])⟩
theorem cutGo_len {a : UInt8} : ∀ {s cur : Str}, ∀ x ∈ cutGo a cur s, x.length ≤ cur.length + s.length := by
 intro s
 induction s with
 | nil => intro cur x hx; rw [List.mem_singleton.1 hx]; exact Nat.le_add_right _ _
 | cons c s ih =>
  intro cur x hx
  simp only [cutGo] at hx
  split at hx
  ·rcases List.mem_cons.1 hx with rfl | hx
   ·exact Nat.le_add_right _ _
   ·have := ih x hx
    simp only [List.length_nil, List.length_cons] at this ⊢
    omega
  ·have := ih x hx
   simp only [List.length_append, List.length_cons, List.length_nil] at this ⊢
   omega
theorem cutV_len {a : UInt8} {s : Str} : ∀ x ∈ cutV a s, x.length ≤ s.length := fun x hx => by
 have := cutGo_len x hx
 simpa using this
theorem cSplit_ok : CtrOk Proofs.Tryz.prog cSplit := by
 refine ctr_of_new (fn := Proofs.Tryz.f23) Proofs.Tryz.func23 rfl rfl rfl ?_
 rintro G w args ⟨(s : Str), (p : Str), ⟨⟩⟩ _ ham ⟨v, vs, rfl, ⟨_, cs, rfl, _, ⟨rfl, hl⟩⟩, v2, vs2, rfl, ⟨_, cs2, rfl, _, ⟨rfl, hl2⟩⟩, rfl⟩ ⟨hpre, hp1⟩
 replace hpre : s.length ≤ 1000000 := hpre
 obtain ⟨a, rfl⟩ : ∃ a, p = [a] := List.length_eq_one_iff.1 hp1
 obtain ⟨m, hm⟩ := maxLen_cell ham
 refine (Proofs.Tryz.strings_Split (mkS s) (mkS [a]) m w (size_ok hpre) hm (Nat.le_refl _)).mono ?_
 rintro e w' ⟨rfl, rfl⟩
 have hlen : (Lib.splitB (mkS [a]) 0 (Lib.countB (mkS s) (mkS [a])) (mkS s)).length = Lib.countB (mkS s) (mkS [a]) + 1 := Lib.splitB_all (mkS [a]) (Nat.le_refl _) 0 _ (mkS s) rfl
 have hcl : Lib.countB (mkS s) (mkS [a]) ≤ s.length := Lib.countB_le (mkS [a]) (Nat.le_refl _) _ (mkS s) (Nat.le_refl _)
 have hcut : (Lib.splitB (mkS [a]) 0 (Lib.countB (mkS s) (mkS [a])) (mkS s)).map (·.data.toList) = cutV a s := split_cut
 have hcl2 : (cutV a s).length = Lib.countB (mkS s) (mkS [a]) + 1 := by rw [← hcut, List.length_map, hlen]
 refine ⟨_, rfl, (Below.refl _ w).alloc (Nat.le_refl _) _, fun G' hper => ?_, rfl⟩
 have hper0 := hper w.heap.size (Nat.le_refl _) (by simp [World.size_alloc])
 refine .of1 rfl ⟨rfl, some ⟨w.heap.size, 0, none⟩, _, _, rfl, hcl2.symm, Nat.le_refl _, by unfold maxL; omega, fun _ => rfl, .inr ⟨w.heap.size, 0, ((Lib.splitB (mkS [a]) 0 (Lib.countB (mkS s) (mkS [a])) (mkS s)).map Value.string).toArray, 9, (0, 0), rfl, hper0, ?_, ?_, fun h => (by cases h), ?_⟩⟩
 ·show (w.heap.push _)[w.heap.size]? = _
  exact Array.getElem?_push_size
 ·simp [hlen, Ty.size]
 ·intro j x hx
  have hx' : (cutV a s)[j]? = some x := hx
  rw [← hcut, List.getElem?_map, Option.map_eq_some_iff] at hx'
  obtain ⟨y, hy, rfl⟩ := hx'
  have hmem : y.data.toList ∈ cutV a s := by rw [← hcut]; exact List.mem_map_of_mem (List.mem_of_getElem? hy)
  refine ⟨?_, maxL_ok (Nat.le_trans (cutV_len _ hmem) hpre)⟩
  unfold cellsAt
  rw [show (0 + j * Ty.str.size) = j by simp [Ty.size], show Ty.str.size = 1 from rfl]
  simp only [List.toList_toArray]
  rw [List.drop_eq_getElem_cons (by rw [List.length_map]; exact (List.getElem?_eq_some_iff.1 hy).1)]
  simp only [List.take_succ_cons, List.take_zero, List.getElem_map, (List.getElem?_eq_some_iff.1 hy).2]
  rfl
open Go.Extern.Stop Go.Stop Go.Extern
theorem isTypeOf (v : Value) (w : World) : (Extern.ReflectliteType.typeOf #[.iface 167 v]).run Proofs.Tryz.prog w = .ok (.iface 103 (.agg #[.pointer (some ⟨9, 167, none⟩)])) w := by kernel_rfl
def cmpX : Array Value → Sem Value := Extern.ReflectliteType.method fun t => do Extern.Rtype.noPackHeld "Comparable" t; pure (.bool (← typeInfo t).comparable)
theorem isComparable (w : World) : (cmpX #[.agg #[.pointer (some ⟨9, 167, none⟩)]]).run Proofs.Tryz.prog w = .ok (.bool true) w := by kernel_rfl
theorem isComp : (Proofs.Tryz.prog.info? 167).map (·.comparable) = some true := by kernel_rfl
theorem isSize : (Proofs.Tryz.prog.info? 169).map (·.size) = some 1 := by kernel_rfl
theorem isMethodComparable (v : Value) (w : World) : (Go.method 303 103 v "Comparable").run Proofs.Tryz.prog w = .ok (150, v) w := by kernel_rfl
set_option maxRecDepth 100000 in
set_option maxHeartbeats 1000000 in
theorem is_same (a : Addr) (w : World) :
  Calls Proofs.Tryz.prog 25 #[.iface 167 (.pointer (some a)), .iface 167 (.pointer (some a))] w fun e w' => e = .returned (.bool true) ∧ w' = w := by
 obtain ⟨i, hi, hcmp⟩ := Option.map_eq_some_iff.1 isComp
 obtain ⟨j, hj, hjs⟩ := Option.map_eq_some_iff.1 isSize
 have h8 := @run_callFunc_extern Proofs.Tryz.prog 46 _ Extern.ReflectliteType.typeOf Proofs.Tryz.func46 (by kernel_rfl) (by kernel_rfl) (by kernel_rfl) (by kernel_rfl)
 have h32 := @run_callFunc_extern Proofs.Tryz.prog 150 _ cmpX Proofs.Tryz.func150 (by kernel_rfl) (by kernel_rfl) (by kernel_rfl) (by kernel_rfl)
 have tT := isTypeOf
 have cT := isComparable
 have mR := isMethodComparable
 have heq := run_eql_iface_ptr_same (P := Proofs.Tryz.prog) w a Proofs.Tryz.underlying55 Proofs.Tryz.underlying167 hi hcmp hj
 open Proofs.Tryz in go_enter func25, ntmps25
 go_wp2
 refine wp_loop_rounds 1 ?_
 rw [rounds_succ]
 go_wp2
 go_ret
 exact ⟨rfl, rfl⟩
set_option maxRecDepth 100000 in
theorem is_nil (b : Addr) (w : World) :
  Calls Proofs.Tryz.prog 25 #[.nilIface, .iface 167 (.pointer (some b))] w fun e w' => e = .returned (.bool false) ∧ w' = w := by
 have hn := run_eql_iface_nil_left (P := Proofs.Tryz.prog) w 167 (.pointer (some b)) Proofs.Tryz.underlying55
 open Proofs.Tryz in go_enter func25, ntmps25
 go_wp2
 go_ret
 exact ⟨rfl, rfl⟩
def cIs : Ctr := ⟨25, [.val false .er pF, .val false .er pF], fun x => x.1 ≤ 1 ∧ x.2.1 = 1, fun x => (sBool (Nat.beq x.1 1), [])⟩
theorem cIs_ok : CtrOk Proofs.Tryz.prog cIs := by
 refine ctr_of_below (fn := Proofs.Tryz.f25) Proofs.Tryz.func25 rfl rfl rfl ?_
 rintro G w args ⟨(e : Nat), (t : Nat), ⟨⟩⟩ _ ham ⟨v, vs, rfl, ⟨_, cs, rfl, _, ⟨u, rfl, h1⟩⟩, v2, vs2, rfl, ⟨_, cs2, rfl, _, ⟨u2, rfl, h2⟩⟩, rfl⟩ ⟨hp1, hp2⟩
 replace hp1 : e ≤ 1 := hp1
 replace hp2 : t = 1 := hp2
 subst hp2
 rcases h2 with h2 | ⟨_, hg, C, t2, fz, A, hh, hC, rfl⟩ | h2
 ·exact absurd (show (1 : Nat) = 0 from h2.1) (by decide)
 ·rcases h1 with ⟨he, rfl⟩ | ⟨he, _, C', t3, fz', A', hh', hC', rfl⟩ | h1
  ·replace he : e = 0 := he
   subst he
   refine (is_nil A w).mono ?_
   rintro e w' ⟨rfl, rfl⟩
   exact ⟨_, rfl, Below.refl _ _, fun G' => MtS.ofBool, rfl⟩
  ·replace he : e = 1 := he
   subst he
   rw [hh] at hh'
   simp only [Option.some.injEq, Obj.cells.injEq] at hh'
   rw [← hh'.1, hC] at hC'
   simp only [List.cons.injEq, Value.iface.injEq, Value.pointer.injEq, Option.some.injEq, and_true, true_and] at hC'
   subst hC'
   refine (is_same A w).mono ?_
   rintro e w' ⟨rfl, rfl⟩
   exact ⟨_, rfl, Below.refl _ _, fun G' => MtS.ofBool, rfl⟩
  ·have : e = 2 := h1.1
   omega
 ·exact absurd (show (1 : Nat) = 2 from h2.1) (by decide)
end Go.Sx

namespace Go.Sx
open Go
set_option maxRecDepth 100000
set_option linter.unusedVariables false
set_option linter.unusedSimpArgs false
set_option maxHeartbeats 2000000
def cNextI : Ctr := ⟨44, [.ref T_rootReader pF, .val false .str pF], fun x => RdOk x.1 ∧ List.length x.2.1 ≤ 1000, fun x => (sBool (nextI x.2.1 x.1), [(⟨0, 0, 0⟩, .var [.d (.sl .str) pF x.1.1, .d .er pF x.1.2])])⟩
theorem cNextI_ok : CtrOk Proofs.Tryz.prog cNextI := by
 have hP := ((Prg.none ttok mtok).and cPref_ok)
 refine ctr_of_body hP cNextI (fn := Proofs.Tryz.f44) (rts := [.tmp 4]) Proofs.Tryz.func44 rfl (by kernel_rfl) rfl rfl ?_
 rintro ⟨⟨(ls : List Str), (er : Nat)⟩, (f : Str), ⟨⟩⟩ _ ⟨hpre, hfl⟩
 try dsimp only [Ty.den, Mode.den, mdens] at hpre
 try dsimp only [Ty.den, Mode.den, mdens] at hfl
 refine ⟨rfl, ?_⟩
 replace hpre : RdOk (ls, er) := hpre
 replace hfl : f.length ≤ 1000 := hfl
 have hl : ∀ l ∈ ls, l.length ≤ 700 := hpre.1
 have hn : ls.length ≤ 701 := hpre.2
 refine sw_seq (rd hP 1 rfl (sw_seq ?_))
 refine sw_dec hP 2 [] 6 rfl (fun g1_6 => ?_) (fun g1_6 => ?_)
 ·have hlt : 0 < ls.length := by simpa using g1_6
  have h0 := hl _ (List.getElem_mem hlt)
  have hne : ¬ ls = [] := by intro e; rw [e] at hlt; cases hlt
  refine rg hP 2 [(6, true)] rfl ?_ ?_
  ·simp [conj, maxL, bytesL, gE hlt]
   repeat' apply And.intro
   all_goals first | omega | trivial
  refine sw_ret ⟨.inl rfl, _, rfl, ?_⟩
  simp [conj, nextI, hne, bytesL, gE hlt]
 ·obtain rfl : ls = [] := by have h : decide ((0 : Int) < (ls.length : Int)) = false := g1_6; simpa using h
  refine rg hP 2 [(6, false)] rfl ?_ ?_
  ·simp [conj]
  refine sw_ret ⟨.inl rfl, _, rfl, ?_⟩
  simp [conj, nextI]
def cWordsI : Ctr := ⟨43, [.ref T_rootReader pF, .val false .str pF], fun x => RdOk x.1, fun x => (.v false [.d (.sl .str) pF (wordsI x.2.1 x.1).1], [(⟨0, 0, 0⟩, .var [.d (.sl .str) pF (wordsI x.2.1 x.1).2.1, .d .er pF (wordsI x.2.1 x.1).2.2])])⟩
theorem cWordsI_ok : CtrOk Proofs.Tryz.prog cWordsI := by
 have hP := ((Prg.none ttok mtok).and cSplit_ok)
 refine ctr_of_body hP cWordsI (fn := Proofs.Tryz.f43) (rts := [.tmp 4]) Proofs.Tryz.func43 rfl (by kernel_rfl) rfl rfl ?_
 rintro ⟨⟨(ls : List Str), (er : Nat)⟩, (f : Str), ⟨⟩⟩ _ hpre
 try dsimp only [Ty.den, Mode.den, mdens] at hpre
 refine ⟨rfl, ?_⟩
 replace hpre : RdOk (ls, er) := hpre
 have hl : ∀ l ∈ ls, l.length ≤ 700 := hpre.1
 have hn : ls.length ≤ 701 := hpre.2
 refine sw_seq (rd hP 1 rfl (sw_seq (sw_seq (rd hP 2 rfl (sw_cond rfl (fun c1 => ?_) (fun c1 => ?_))))))
 ·have hlt : ls.length = 0 := by simpa using c1
  obtain rfl : ls = [] := List.eq_nil_of_length_eq_zero hlt
  refine sw_seq (rd hP 3 rfl (sw_seq (rd hP 4 rfl (sw_ret ⟨.inl rfl, _, rfl, ?_⟩))))
  simp [conj, wordsI]
 ·have hlt : 0 < ls.length := by
    rcases Nat.eq_zero_or_pos ls.length with h | h
    · simp [h] at c1
    · exact h
  have h0 := hl _ (List.getElem_mem hlt)
  have hcv := List.length_pos_iff.2 (cutV_ne (a := 32) (s := ls[0]))
  refine sw_skip (sw_seq (rg hP 3 [] rfl ?_ ?_))
  ·simp [conj, gE hlt, bytesL]
   repeat' apply And.intro
   all_goals first | omega | trivial | (show List.length ls[0] ≤ 1000000; omega)
  refine sw_seq (rg hP 4 [] rfl ?_ ?_)
  ·simp [conj, gE hlt]
   repeat' apply And.intro
   all_goals first | omega | trivial
  refine sw_seq (sw_seq (rg hP 5 [] rfl ?_ ?_))
  ·simp [conj, gE hlt, bytesL]
   repeat' apply And.intro
   all_goals first | omega | trivial
  refine sw_cond rfl (fun c6 => ?_) (fun c6 => ?_)
  ·have hw : ¬ (cutV 32 ls[0])[0] = f := by simpa [gE hlt, bytesL, gE hcv] using c6
   refine rd hP 6 rfl (sw_seq (rg hP 7 [] rfl ?_ ?_))
   ·simp [conj, gE hlt, bytesL]
    repeat' apply And.intro
    all_goals first | omega | trivial
   refine sw_ret ⟨.inl rfl, _, rfl, ?_⟩
   have hne : ¬ ls.length = 0 := by omega
   simp [conj, wordsI, hne, gE hlt, gE hcv, hw, bytesL]
  ·have hw : (cutV 32 ls[0])[0] = f := by simpa [gE hlt, bytesL, gE hcv] using c6
   refine sw_skip (sw_seq (rg hP 6 [] rfl ?_ ?_))
   ·simp [conj, gE hlt, bytesL]
    repeat' apply And.intro
    all_goals first | omega | trivial
   refine sw_ret ⟨.inl rfl, _, rfl, ?_⟩
   have hne : ¬ ls.length = 0 := by omega
   simp [conj, wordsI, hne, gE hlt, gE hcv, hw, bytesL]
def cNumI : Ctr := ⟨41, [.ref T_rootReader pF, .val false .str pF], fun x => List.length x.2.1 ≤ 1000000, fun x => (sInt .i64 (numI x.2.1 x.1).1, [(⟨0, 0, 0⟩, .var [.d (.sl .str) pF (numI x.2.1 x.1).2.1, .d .er pF (numI x.2.1 x.1).2.2])])⟩
theorem cNumI_ok : CtrOk Proofs.Tryz.prog cNumI := by
 have hP := ((Prg.none ttok mtok).and cAtoi_ok)
 refine ctr_of_body hP cNumI (fn := Proofs.Tryz.f41) (rts := [.tmp 4]) Proofs.Tryz.func41 rfl (by kernel_rfl) rfl rfl ?_
 rintro ⟨⟨(ls : List Str), (er : Nat)⟩, (f : Str), ⟨⟩⟩ _ hpre
 try dsimp only [Ty.den, Mode.den, mdens] at hpre
 refine ⟨rfl, ?_⟩
 replace hpre : f.length ≤ 1000000 := hpre
 refine sw_seq (rd hP 1 rfl (sw_seq (rg hP 2 [] rfl ?_ ?_)))
 ·simp only [cj, cl]
  try dsimp only [Ty.den, Ty.dflt]
  repeat' apply And.intro
  all_goals first | omega | assumption | trivial
 refine sw_seq (sw_seq (rd hP 3 rfl (sw_cond rfl (fun c2 => ?_) (fun c2 => ?_))))
 ·have he : ¬ atoE f = 0 := by have h : (!Nat.beq (atoE f) 0) = true := c2; intro e; rw [e] at h; cases h
  refine rd hP 4 rfl (sw_seq (rd hP 5 rfl (sw_ret ⟨.inl rfl, _, rfl, ?_⟩)))
  simp [conj, numI, he]
 ·have he : atoE f = 0 := by have h : (!Nat.beq (atoE f) 0) = false := c2; simpa using h
  refine sw_skip (sw_seq (rd hP 4 rfl (sw_ret ⟨.inl rfl, _, rfl, ?_⟩)))
  simp [conj, numI, he]
def cOnlyI : Ctr := ⟨42, [.ref T_rootReader pF, .val false (.sl .str) pF], fun x => True, fun x => (sStr (onlyI x.2.1 x.1).1, [(⟨0, 0, 0⟩, .var [.d (.sl .str) pF (onlyI x.2.1 x.1).2.1, .d .er pF (onlyI x.2.1 x.1).2.2])])⟩
theorem cOnlyI_ok : CtrOk Proofs.Tryz.prog cOnlyI := by
 have hP := (Prg.none ttok mtok)
 refine ctr_of_body hP cOnlyI (fn := Proofs.Tryz.f42) (rts := [.tmp 4]) Proofs.Tryz.func42 rfl (by kernel_rfl) rfl rfl ?_
 rintro ⟨⟨(ls : List Str), (er : Nat)⟩, (ws : List Str), ⟨⟩⟩ _ _
 try dsimp only [Ty.den, Mode.den, mdens] at _
 refine ⟨rfl, ?_⟩
 refine sw_seq (rd hP 1 rfl (sw_seq (sw_seq (rd hP 2 rfl (sw_cond rfl (fun c1 => ?_) (fun c1 => ?_))))))
 ·have hw : ¬ ws.length = 1 := by have h := c1; simp at h; omega
  refine sw_seq (rd hP 3 rfl (sw_seq (rd hP 4 rfl (sw_ret ⟨.inl rfl, _, rfl, ?_⟩))))
  simp [conj, onlyI, hw, bytesL]
 ·have hw : ws.length = 1 := by have h := c1; simp at h; omega
  have hlt : 0 < ws.length := by omega
  refine sw_skip (sw_seq (rg hP 3 [] rfl ?_ ?_))
  ·simp [conj, gE hlt]
   repeat' apply And.intro
   all_goals first | omega | trivial
  refine sw_ret ⟨.inl rfl, _, rfl, ?_⟩
  simp [conj, onlyI, hw, bytesL]
end Go.Sx

namespace Go.Sx
open Go
set_option maxRecDepth 100000
set_option linter.unusedVariables false
set_option linter.unusedSimpArgs false
set_option maxHeartbeats 2000000
def cPtrI : Ctr := ⟨45, [.ref T_rootReader pF], fun x => RdOk x.1, fun x => (.v true [.d TI pF (ptrI x.1).1.1, .d TI pF (ptrI x.1).1.2.1, .own ⟨1, 0, 0⟩], [(⟨0, 0, 0⟩, .var [.d (.sl .str) pF (ptrI x.1).2.1, .d .er pF (ptrI x.1).2.2]), (⟨1, 0, 0⟩, .sl T_Place pF (ptrI x.1).1.2.2)])⟩
theorem cPtrI_ok : CtrOk Proofs.Tryz.prog cPtrI := by
 have hP := (((((Prg.none ttok mtok).and cNextI_ok).and cWordsI_ok).and cNumI_ok).and cCut_ok)
 refine ctr_of_body hP cPtrI (fn := Proofs.Tryz.f45) (rts := [.cell 2 50]) Proofs.Tryz.func45 rfl (by kernel_rfl) rfl rfl ?_
 rintro ⟨⟨(ls : List Str), (er : Nat)⟩, ⟨⟩⟩ _ hpre
 try dsimp only [Ty.den, Mode.den, mdens] at hpre
 refine ⟨rfl, ?_⟩
 replace hpre : RdOk (ls, er) := hpre
 refine sw_seq (rd hP 1 rfl (sw_seq (sw_seq (rg hP 2 [] rfl ?_ ?_))))
 ·simp only [cj, cl]
  try dsimp only [Ty.den, Ty.dflt]
  repeat' apply And.intro
  all_goals first | omega | assumption | trivial | exact hpre | (show 4 ≤ 1000; decide)
 refine sw_cond rfl (fun c1 => ?_) (fun c1 => ?_)
 ·replace c1 : nextI nN (ls, er) = true := c1
  refine sw_seq (rg hP 3 [] rfl ?_ ?_)
  ·simp only [cj, cl]
   try dsimp only [Ty.den, Ty.dflt]
   repeat' apply And.intro
   all_goals first | omega | assumption | trivial | exact hpre
  refine sw_seq (rd hP 4 rfl (sw_ret ⟨.inl rfl, _, rfl, ?_⟩))
  have hv : ptrI (ls, er) = ((0, 0, []), (wordsI nN (ls, er)).2) := by
    unfold ptrI
    rw [if_pos c1]
  rw [hv]
  simp [conj, bytesL, nN]
 ·replace c1 : ¬ nextI nN (ls, er) = true := by have h : nextI nN (ls, er) = false := c1; rw [h]; decide
  refine sw_skip (sw_seq (rg hP 3 [] rfl ?_ ?_))
  ·simp only [cj, cl]
   try dsimp only [Ty.den, Ty.dflt]
   repeat' apply And.intro
   all_goals first | omega | assumption | trivial | exact hpre
  refine sw_seq (sw_seq ?_)
  obtain ⟨q, hq⟩ : ∃ q, wordsI tPtr (ls, er) = q := ⟨_, rfl⟩
  have hqo : RdOk q.2 := hq ▸ (words_ok hpre).1
  have hql : (∀ w ∈ q.1, w.length ≤ 700) ∧ q.1.length ≤ 701 := hq ▸ words_len hpre
  refine sw_ent (st' := ⟨[.v false [.ptr ⟨0, 0, 0⟩ 0], .j, .v false [.ptr ⟨1, 0, 0⟩ 0], .v false [.d (.sl .str) pF q.1], .j, .j, .j, .j, .j, .j, .j, .j, .j, .j, .j, .j, .j, .j, .j, .j, .j, .j, .j, .j, .j, .j, .j, .j, .j, .j, .j, .j, .j, .j, .j, .j, .j, .j, .j, .j, .j, .j, .j, .j, .j, .j, .j, .j, .j, .j, .j, .j, .j, .j, .j, .j, .j, .j, .j, .j, .j, .j, .j], [(⟨0, 0, 0⟩, .var [.d (.sl .str) pF q.2.1, .d .er pF q.2.2]), (⟨1, 0, 0⟩, .var [.d TI pF 0, .d TI pF 0, .d (.sl T_Place) pF []])], 3, [[.v false [.ptr ⟨0, 0, 0⟩ 0]]]⟩) (ent_ok rfl ?_) ?_
  ·simp [conj, ← hq, bytesL, tPtr]
  refine rd hP 4 rfl (sw_cond rfl (fun c5 => ?_) (fun c5 => ?_))
  ·replace c5 : q.1.length < 2 := by have h := c5; simp at h; omega
   refine sw_seq (rd hP 5 rfl (sw_seq (rd hP 6 rfl (sw_ret ⟨.inl rfl, _, rfl, ?_⟩))))
   have hv : ptrI (ls, er) = ((0, 0, []), (q.2.1, 1)) := by
     unfold ptrI
     simp only [hq]
     rw [if_neg c1, if_pos c5]
   simp [conj, hv]
  ·replace c5 : ¬ q.1.length < 2 := by have h := c5; simp at h; omega
   have h0 : 0 < q.1.length := by omega
   have h1 : 1 < q.1.length := by omega
   have l0 := hql.1 _ (List.getElem_mem h0)
   have l1 := hql.1 _ (List.getElem_mem h1)
   have hl2 : (q.1.drop 2).length ≤ 701 := by rw [List.length_drop]; omega
   refine sw_skip (sw_seq (rg hP 5 [] rfl ?_ ?_))
   ·simp [conj, gE h0, gE h1]
    repeat' apply And.intro
    all_goals first | omega | trivial | exact Int.ofNat_lt.2 h1 | exact Int.ofNat_lt.2 h0 | (show List.length q.1[0] ≤ 1000000; omega) | (show List.length q.1[1] ≤ 1000000; omega)
   refine sw_seq (sw_seq (rg hP 6 [] rfl ?_ ?_))
   ·simp [conj]
    repeat' apply And.intro
    all_goals first | omega | trivial
   refine sw_block (sw_loop (ι := Nat × List Plc × RdS) (fun ⟨i, out, s⟩ => ⟨[.v false [.ptr ⟨0, 0, 0⟩ 0], .j, .v false [.ptr ⟨1, 0, 0⟩ 0], .j, .v false [.ptr ⟨5, 11, 0⟩ 0], .j, .j, .j, .j, .j, .j, .j, .j, .j, .j, .j, .j, .j, .j, .j, .j, .j, .j, .j, .j, .j, .j, .j, .j, .j, .j, .j, .j, .j, .j, .j, .j, .v false [.d (.sl .str) pF (q.1.drop 2)], sInt .i64 ((q.1.drop 2).length : Int), sInt .i64 (i : Int), .j, .j, .j, .j, .j, .j, .j, .j, .j, .j, .j, .j, .j, .j, .j, .j, .j, .j, .j, .j, .j, .j, .j], [(⟨0, 0, 0⟩, .var [.d (.sl .str) pF s.1, .d .er pF s.2]), (⟨1, 0, 0⟩, .var [.d TI pF 0, .d TI pF 0, .d (.sl T_Place) pF []]), (⟨5, 11, 0⟩, .var [.d TI pF (atoN (q.1.getD 0 [])), .d TI pF (atoN (q.1.getD 1 [])), .own ⟨0, 9, 0⟩]), (⟨0, 9, 0⟩, .sl T_Place pF out)], 6, [[.v false [.ptr ⟨0, 0, 0⟩ 0]]]⟩) (fun ⟨i, out, s⟩ => (q.1.drop 2).length - i) (fun ⟨i, out, s⟩ => i ≤ (q.1.drop 2).length ∧ out.length = i ∧ plcsI ((q.1.drop 2).drop i) out s = (plcsI (q.1.drop 2) [] (numI (q.1.getD 1 []) (numI (q.1.getD 0 []) q.2).2).2)) (0, [], (numI (q.1.getD 1 []) (numI (q.1.getD 0 []) q.2).2).2) ⟨?_, ?_⟩ ?_)
   ·exact ⟨Nat.zero_le _, rfl, rfl⟩
   ·refine ent_ok rfl ?_
    simp [conj, numI, gE h0, gE h1]
   ·rintro ⟨i, out, s⟩ ⟨hi, hol, hgo⟩
    refine sw_seq (rd hP 7 rfl (sw_seq (sw_cond rfl (fun c10 => ?_) (fun c10 => ?_))))
    ·have hlt : i < (q.1.drop 2).length := by have h := c10; simp at h; simp; omega
     have hwl : ((q.1.drop 2).getD i []).length ≤ 700 := by
       rw [List.getD_eq_getElem?_getD, gE hlt]
       exact hql.1 _ (List.mem_of_mem_drop (List.getElem_mem hlt))
     have hcl := cut_len ((q.1.drop 2).getD i []) [46]
     refine sw_skip (sw_seq (sw_block (sw_seq (rg hP 8 [] rfl ?_ ?_))))
     ·simp [conj]
      repeat' apply And.intro
      all_goals first | omega | trivial | (simpa using hlt)
     refine sw_seq (rg hP 9 [] rfl ?_ ?_)
     ·simp only [cj, cl]
      try dsimp only [Ty.den, Ty.dflt]
      repeat' apply And.intro
      all_goals first | (show List.length ((q.1.drop 2).getD i []) ≤ 1000000; omega) | trivial
     refine rg hP 10 [] rfl ?_ ?_
     ·simp only [cj, cl]
      try dsimp only [Ty.den, Ty.dflt]
      simp only [maxL]
      repeat' apply And.intro
      all_goals first | omega | (show List.length (Lib.cut ((q.1.drop 2).getD i []) [46]).1 ≤ 1000000; omega) | (show List.length (Lib.cut ((q.1.drop 2).getD i []) [46]).2.1 ≤ 1000000; omega) | trivial | (simp; omega)
     refine rd hP 11 rfl (⟨(i + 1, out ++ [(atoN (Lib.cut ((q.1.drop 2).getD i []) [46]).1, atoN (Lib.cut ((q.1.drop 2).getD i []) [46]).2.1)], (numI (Lib.cut ((q.1.drop 2).getD i []) [46]).2.1 (numI (Lib.cut ((q.1.drop 2).getD i []) [46]).1 s).2).2), ?_, ?_, ent_ok rfl ?_⟩)
     ·exact ⟨hlt, by simp [hol], plcs_next hlt hgo⟩
     ·show (q.1.drop 2).length - (i + 1) < (q.1.drop 2).length - i
      omega
     ·simp [conj, numI, bytesL]
      exact ⟨⟨rfl, rfl⟩, rfl⟩
    ·obtain rfl : i = (q.1.drop 2).length := by have h := c10; simp at h; simp at hi; simp; omega
     replace hgo := plcs_end hgo
     refine sw_exit (sw_seq (rd hP 8 rfl (sw_ret ⟨.inl rfl, _, rfl, ?_⟩)))
     have hv : ptrI (ls, er) = ((atoN (q.1.getD 0 []), atoN (q.1.getD 1 []), out), s) := by
       unfold ptrI
       simp only [hq]
       rw [if_neg c1, if_neg c5, ← hgo]
     simp [conj, hv]
end Go.Sx

namespace Go.Sx
open Go
set_option maxRecDepth 100000
set_option linter.unusedVariables false
set_option linter.unusedSimpArgs false
set_option maxHeartbeats 2000000
def cRootI : Ctr := ⟨24, [.ref T_rootReader pF], fun x => RdOk x.1, fun x => (.v true [.d TI pF (rootI x.1).1.1, .own ⟨1, 0, 0⟩], [(⟨0, 0, 0⟩, .var [.d (.sl .str) pF (rootI x.1).2.1, .d .er pF (rootI x.1).2.2]), (⟨1, 0, 0⟩, .sl T_Vol (.all .w) (rootI x.1).1.2)])⟩
theorem cRootI_ok : CtrOk Proofs.Tryz.prog cRootI := by
 have hP := ((((((Prg.none ttok mtok).and cNextI_ok).and cWordsI_ok).and cOnlyI_ok).and cNumI_ok).and cPtrI_ok)
 refine ctr_of_body hP cRootI (fn := Proofs.Tryz.f24) (rts := [.cell 2 27]) Proofs.Tryz.func24 rfl (by kernel_rfl) rfl rfl ?_
 rintro ⟨⟨(ls : List Str), (er : Nat)⟩, ⟨⟩⟩ _ hpre
 try dsimp only [Ty.den, Mode.den, mdens] at hpre
 refine ⟨rfl, ?_⟩
 replace hpre : RdOk (ls, er) := hpre
 obtain ⟨x1, x2, _⟩ := words_ok (f := nR) hpre
 obtain ⟨y1, y2⟩ := only_ok (ws := (wordsI nR (ls, er)).1) x1
 obtain ⟨z1, z2⟩ := num_ok (f := (onlyI (wordsI nR (ls, er)).1 (wordsI nR (ls, er)).2).1) y1
 have yl := only_len (s := (wordsI nR (ls, er)).2) (words_len (f := nR) hpre).1
 have hll : ls.length ≤ 701 := hpre.2
 refine sw_seq (rd hP 1 rfl (sw_seq (rg hP 2 [] rfl ?_ ?_)))
 ·simp only [cj, cl]
  try dsimp only [Ty.den, Ty.dflt]
  repeat' apply And.intro
  all_goals first | omega | assumption | trivial | exact hpre | exact hs | exact (words_ok hpre).1 | exact (words_ok hs).1 | exact hu | (simp [nR]; done) | (simp [nV]; done) | (show List.length (onlyI (wordsI nR (ls, er)).1 (wordsI nR (ls, er)).2).1 ≤ 1000000; omega)
 refine sw_seq (sw_block (sw_loop (ι := Nat × List Vol_ × RdS) (fun ⟨n, vs, s⟩ => ⟨[.v false [.ptr ⟨0, 0, 0⟩ 0], .j, .v false [.ptr ⟨1, 0, 0⟩ 0], .v false [.ptr ⟨2, 7, 0⟩ 0], .j, .j, .j, .j, .j, .j, .j, .j, .j, .j, .j, .j, .j, .j, .j, .j, .j, .j, .j, .j, .j, .j, .j, .j, .j, .j, .j, .j, .j, .j, .j, .j, .j, .j, .j, .j, .j, .j, .j], [(⟨0, 0, 0⟩, .var [.d (.sl .str) pF s.1, .d .er pF s.2]), (⟨1, 0, 0⟩, .var [.d TI pF 0, .d (.sl T_Vol) pF []]), (⟨2, 7, 0⟩, .var [.d TI pF (numI (onlyI (wordsI nR (ls, er)).1 (wordsI nR (ls, er)).2).1 (onlyI (wordsI nR (ls, er)).1 (wordsI nR (ls, er)).2).2).1, .own ⟨0, 9, 0⟩]), (⟨0, 9, 0⟩, .sl T_Vol (.all .w) vs)], 2, [[.v false [.ptr ⟨0, 0, 0⟩ 0]]]⟩) (fun ⟨n, vs, s⟩ => n) (fun ⟨n, vs, s⟩ => RdOk s ∧ s.1.length ≤ n ∧ vs.length + n ≤ 701 ∧ volsI n vs s = (volsI ls.length [] (numI (onlyI (wordsI nR (ls, er)).1 (wordsI nR (ls, er)).2).1 (onlyI (wordsI nR (ls, er)).1 (wordsI nR (ls, er)).2).2).2)) (ls.length, [], (numI (onlyI (wordsI nR (ls, er)).1 (wordsI nR (ls, er)).2).1 (onlyI (wordsI nR (ls, er)).1 (wordsI nR (ls, er)).2).2).2) ⟨?_, ?_⟩ ?_))
 ·exact ⟨z1, by show (numI (onlyI (wordsI nR (ls, er)).1 (wordsI nR (ls, er)).2).1 (onlyI (wordsI nR (ls, er)).1 (wordsI nR (ls, er)).2).2).2.1.length ≤ ls.length; rw [z2, y2]; exact x2, by show 0 + ls.length ≤ 701; omega, rfl⟩
 ·refine ent_ok rfl ?_
  simp [conj, bytesL, nR]
  try rfl
 ·rintro ⟨n, vs, s⟩ ⟨hs, hsl, hvl, hgo⟩
  refine sw_seq (sw_seq ?_)
  refine sw_dec hP 3 [] 5 rfl (fun g2_5 => ?_) (fun g2_5 => ?_)
  ·have he : s.2 = 0 := Nat.eq_of_beq_eq_true g2_5
   refine rg hP 3 [(5, true)] rfl ?_ ?_
   ·simp only [cj, cl]
    try dsimp only [Ty.den, Ty.dflt]
    repeat' apply And.intro
    all_goals first | omega | assumption | trivial | exact hpre | exact hs | exact (words_ok hpre).1 | exact (words_ok hs).1 | exact hu | (simp [nR]; done) | (simp [nV]; done) | (show 3 ≤ 1000; decide) | exact g2_5
   refine sw_cond rfl (fun c2 => ?_) (fun c2 => ?_)
   ·have hnx : nextI nV s = true := c2
    have hp := nextI_pos hnx
    obtain ⟨m, rfl⟩ : ∃ m, n = m + 1 := ⟨n - 1, by omega⟩
    simp only [volsI] at hgo
    rw [if_pos ⟨he, hnx⟩] at hgo
    obtain ⟨w1, w2, w3⟩ := words_ok (f := nV) hs
    have w4 := w3 hp
    have wl := words_len (f := nV) hs
    obtain ⟨o1, o2⟩ := only_ok (ws := (wordsI nV s).1) w1
    have ol := only_len (s := (wordsI nV s).2) wl.1
    refine sw_skip (sw_block (sw_seq (rg hP 4 [] rfl ?_ ?_)))
    ·simp only [cj, cl]
     try dsimp only [Ty.den, Ty.dflt]
     repeat' apply And.intro
     all_goals first | omega | assumption | trivial | exact hpre | exact hs | exact (words_ok hpre).1 | exact (words_ok hs).1 | exact hu | (simp [nR]; done) | (simp [nV]; done)
    refine sw_seq (sw_seq (rd hP 5 rfl (sw_block (sw_loop (ι := Nat × List Ptr_ × RdS) (fun ⟨k, bl, u⟩ => ⟨[.v false [.ptr ⟨0, 0, 0⟩ 0], .j, .v false [.ptr ⟨1, 0, 0⟩ 0], .v false [.ptr ⟨2, 7, 0⟩ 0], .v false [.ptr ⟨4, 5, 0⟩ 0], .j, .j, .j, .j, .j, .j, .j, .j, .j, .j, .j, .j, .j, .j, .j, .j, .j, .j, .j, .j, .j, sInt .i64 (k : Int), .j, .j, .j, .j, .j, .j, .j, .j, .j, .j, .j, .j, .j, .j, .j, .j], [(⟨0, 0, 0⟩, .var [.d (.sl .str) pF u.1, .d .er pF u.2]), (⟨1, 0, 0⟩, .var [.d TI pF 0, .d (.sl T_Vol) pF []]), (⟨2, 7, 0⟩, .var [.d TI pF (numI (onlyI (wordsI nR (ls, er)).1 (wordsI nR (ls, er)).2).1 (onlyI (wordsI nR (ls, er)).1 (wordsI nR (ls, er)).2).2).1, .own ⟨0, 9, 0⟩]), (⟨0, 9, 0⟩, .sl T_Vol (.all .w) vs), (⟨4, 5, 0⟩, .var [.d .str pF (onlyI (wordsI nV s).1 (wordsI nV s).2).1, .own ⟨0, 8, 0⟩]), (⟨0, 8, 0⟩, .sl T_Ptr (.all .w) bl)], 5, [[.v false [.ptr ⟨0, 0, 0⟩ 0]]]⟩) (fun ⟨k, bl, u⟩ => 3 - k) (fun ⟨k, bl, u⟩ => k ≤ 3 ∧ bl.length = k ∧ RdOk u ∧ u.1.length ≤ (onlyI (wordsI nV s).1 (wordsI nV s).2).2.1.length ∧ blksI (3 - k) bl u = (blksI 3 [] (onlyI (wordsI nV s).1 (wordsI nV s).2).2)) (0, [], (onlyI (wordsI nV s).1 (wordsI nV s).2).2) ⟨?_, ?_⟩ ?_))))
    ·exact ⟨Nat.zero_le _, rfl, o1, Nat.le_refl _, rfl⟩
    ·refine ent_ok rfl ?_
     simp [conj, bytesL, nV]
     try rfl
    ·rintro ⟨k, bl, u⟩ ⟨hk, hbl, hu, hul, hgk⟩
     refine sw_seq (rd hP 6 rfl (sw_seq (sw_cond rfl (fun c5 => ?_) (fun c5 => ?_))))
     ·have hk3 : k < 3 := by have h := c5; simp at h; omega
      obtain ⟨j, hj⟩ : ∃ j, 3 - k = j + 1 := ⟨2 - k, by omega⟩
      have hj2 : 3 - (k + 1) = j := by omega
      rw [hj] at hgk
      simp only [blksI] at hgk
      obtain ⟨p1, p2⟩ := ptrI_ok hu
      refine sw_skip (sw_seq (sw_block (rg hP 7 [] rfl ?_ ?_)))
      ·simp only [cj, cl]
       try dsimp only [Ty.den, Ty.dflt]
       repeat' apply And.intro
       all_goals first | omega | assumption | trivial | exact hpre | exact hs | exact (words_ok hpre).1 | exact (words_ok hs).1 | exact hu | (simp [nR]; done) | (simp [nV]; done) | (simp only [maxL]; simp; omega)
      refine rd hP 8 rfl (⟨(k + 1, bl ++ [(ptrI u).1], (ptrI u).2), ?_, ?_, ent_ok rfl ?_⟩)
      ·exact ⟨hk3, by simp [hbl], p1, Nat.le_trans p2 hul, by show blksI (3 - (k + 1)) _ _ = _; rw [hj2]; exact hgk⟩
      ·show 3 - (k + 1) < 3 - k
       omega
      ·simp [conj]
     ·obtain rfl : k = 3 := by have h := c5; simp at h; omega
      replace hgk : (bl, u) = (blksI 3 [] (onlyI (wordsI nV s).1 (wordsI nV s).2).2) := hgk
      rw [← hgk] at hgo
      refine sw_exit (rg hP 7 [] rfl ?_ ?_)
      ·simp only [cj, cl]
       try dsimp only [Ty.den, Ty.dflt]
       repeat' apply And.intro
       all_goals first | omega | assumption | trivial | exact hpre | exact hs | exact (words_ok hpre).1 | exact (words_ok hs).1 | exact hu | (simp [nR]; done) | (simp [nV]; done) | (simp only [maxL]; simp; omega)
      refine ⟨(m, vs ++ [((onlyI (wordsI nV s).1 (wordsI nV s).2).1, bl)], u), ?_, ?_, ent_ok rfl ?_⟩
      ·exact ⟨hu, by show u.1.length ≤ m; rw [o2] at hul; omega, by simp; omega, hgo⟩
      ·show m < m + 1
       omega
      ·simp [conj, bytesL, nV]
   ·have he2 : ¬ (s.2 = 0 ∧ nextI nV s = true) := by
      intro h
      have h2 : nextI nV s = false := c2
      rw [h.2] at h2
      cases h2
    rw [volsI_stop he2] at hgo
    refine sw_exit (sw_seq (rd hP 4 rfl (sw_ret ⟨.inl rfl, _, rfl, ?_⟩)))
    have hv : rootI (ls, er) = (((numI (onlyI (wordsI nR (ls, er)).1 (wordsI nR (ls, er)).2).1 (onlyI (wordsI nR (ls, er)).1 (wordsI nR (ls, er)).2).2).1, vs), s) := by
      show (((numI (onlyI (wordsI nR (ls, er)).1 (wordsI nR (ls, er)).2).1 (onlyI (wordsI nR (ls, er)).1 (wordsI nR (ls, er)).2).2).1, (volsI ls.length [] (numI (onlyI (wordsI nR (ls, er)).1 (wordsI nR (ls, er)).2).1 (onlyI (wordsI nR (ls, er)).1 (wordsI nR (ls, er)).2).2).2).1), (volsI ls.length [] (numI (onlyI (wordsI nR (ls, er)).1 (wordsI nR (ls, er)).2).1 (onlyI (wordsI nR (ls, er)).1 (wordsI nR (ls, er)).2).2).2).2) = _
      rw [← hgo]
    simp [conj, hv]
  ·have he : ¬ (s.2 = 0 ∧ nextI nV s = true) := by
     intro h
     have h2 : Nat.beq s.2 0 = false := g2_5
     rw [h.1] at h2
     cases h2
   rw [volsI_stop he] at hgo
   refine rg hP 3 [(5, false)] rfl ?_ ?_
   ·simp only [cj, cl]
    try dsimp only [Ty.den, Ty.dflt]
    repeat' apply And.intro
    all_goals first | omega | assumption | trivial | exact hpre | exact hs | exact (words_ok hpre).1 | exact (words_ok hs).1 | exact hu | (simp [nR]; done) | (simp [nV]; done) | (show 3 ≤ 1000; decide) | exact g2_5
   refine sw_condF rfl (sw_exit (sw_seq (rd hP 4 rfl (sw_ret ⟨.inl rfl, _, rfl, ?_⟩))))
   have hv : rootI (ls, er) = (((numI (onlyI (wordsI nR (ls, er)).1 (wordsI nR (ls, er)).2).1 (onlyI (wordsI nR (ls, er)).1 (wordsI nR (ls, er)).2).2).1, vs), s) := by
     show (((numI (onlyI (wordsI nR (ls, er)).1 (wordsI nR (ls, er)).2).1 (onlyI (wordsI nR (ls, er)).1 (wordsI nR (ls, er)).2).2).1, (volsI ls.length [] (numI (onlyI (wordsI nR (ls, er)).1 (wordsI nR (ls, er)).2).1 (onlyI (wordsI nR (ls, er)).1 (wordsI nR (ls, er)).2).2).2).1), (volsI ls.length [] (numI (onlyI (wordsI nR (ls, er)).1 (wordsI nR (ls, er)).2).1 (onlyI (wordsI nR (ls, er)).1 (wordsI nR (ls, er)).2).2).2).2) = _
     rw [← hgo]
   simp [conj, hv]
end Go.Sx

namespace Go.Sx
open Go
set_option maxRecDepth 100000
set_option linter.unusedVariables false
set_option linter.unusedSimpArgs false
set_option maxHeartbeats 2000000
def cLine : Ctr := ⟨56, [.val true T_Ptr (.all .b)], fun x => ∃ d, ptrV d x.1 = true, fun x => (sStr (lineV x.1), [])⟩
theorem cLine_ok : CtrOk Proofs.Tryz.prog cLine := by
 have hP := ((((Prg.none ttok mtok).and cNone_ok).and cItoa_ok).and cJoin_ok)
 refine ctr_of_body hP cLine (fn := Proofs.Tryz.f56) (rts := [.tmp 2]) Proofs.Tryz.func56 rfl (by kernel_rfl) rfl rfl ?_
 rintro ⟨⟨(sz : Int), (sm : Int), (pl : List Plc)⟩, ⟨⟩⟩ ⟨⟨hz0, hm0, hpl0⟩, _⟩ ⟨d, hpre⟩
 try dsimp only [Ty.den, Mode.den, mdens] at d
 try dsimp only [Ty.den, Mode.den, mdens] at hpre
 refine ⟨rfl, ?_⟩
 replace hpre : ptrV d ((sz, sm, pl) : Ptr_) = true := hpre
 have hl4 : pl.length ≤ 4 := ptrV_len hpre
 have hi1 : (itoaV sz).length ≤ 21 := itoaV_len hz0
 have hi2 : (itoaV sm).length ≤ 21 := itoaV_len hm0
 refine sw_seq (rd hP 1 rfl (sw_seq (sw_seq (rg hP 2 [] rfl ?_ ?_))))
 ·simp only [cj, cl]
  try dsimp only [Ty.den, Ty.dflt]
  repeat' apply And.intro
  all_goals first | trivial | assumption | omega | exact decide_eq_true ‹_› | exact decide_eq_false ‹_› | (simp [*]; done)
 refine sw_cond rfl (fun c1 => ?_) (fun c1 => ?_)
 ·replace c1 : noneV ((sz, sm, pl) : Ptr_) = true := c1
  refine sw_seq (rd hP 3 rfl (sw_ret ⟨.inl rfl, _, rfl, ?_⟩))
  simp [conj, lineV, c1]
  try rfl
 ·replace c1 : noneV ((sz, sm, pl) : Ptr_) = false := c1
  have hjl : (Lib.join (wordsV ((sz, sm, pl) : Ptr_)) [32]).length ≤ 290 := join_len hz0 hm0 hpl0.2 hl4
  refine sw_skip (sw_seq (rg hP 3 [] rfl ?_ ?_))
  ·simp only [cj, cl]
   try dsimp only [Ty.den, Ty.dflt]
   repeat' apply And.intro
   all_goals first | trivial | assumption | omega | exact decide_eq_true ‹_› | exact decide_eq_false ‹_› | (simp [*]; done)
  refine sw_seq (sw_seq (rd hP 4 rfl (sw_block (sw_loop (ι := Nat) (fun i => ⟨[.j, .v false [.ptr ⟨1, 0, 0⟩ 0], .j, .v false [.own ⟨0, 9, 0⟩], .j, .j, .j, .j, .j, .j, .j, .j, .j, .j, .j, .j, .v false [.d (.sl T_Place) (.all .b) pl], sInt .i64 (pl.length : Int), sInt .i64 (i : Int), .j, .j, .j, .j, .j, .j, .j, .j, .j, .j, .j, .j, .j, .j, .j, .j, .j, .j], [(⟨1, 0, 0⟩, .var [.d TI pF sz, .d TI pF sm, .d (.sl T_Place) (.all .b) pl]), (⟨0, 9, 0⟩, .sl .str pF ([tPtr, itoaV sz, itoaV sm] ++ (pl.take i).map wordV))], 4, []⟩) (fun i => pl.length - i) (fun i => i ≤ pl.length) 0 ⟨?_, ?_⟩ ?_))))
  ·exact Nat.zero_le _
  ·refine ent_ok rfl ?_
   simp [conj, bytesL]
   try rfl
  ·rintro i hi
   refine sw_seq (rd hP 5 rfl (sw_seq (sw_cond rfl (fun c5 => ?_) (fun c5 => ?_))))
   ·have hlt : i < pl.length := by simpa using c5
    have hin := hpl0.2 _ (List.getElem_mem hlt)
    have hi3 : (itoaV pl[i].1).length ≤ 21 := itoaV_len hin.1
    have hi4 : (itoaV pl[i].2).length ≤ 21 := itoaV_len hin.2
    refine sw_skip (sw_seq (sw_block (sw_seq (rg hP 6 [] rfl ?_ ?_))))
    ·simp [conj, gE hlt]
     exact hlt
    refine rg hP 7 [] rfl ?_ ?_
    ·simp [conj, maxL, bytesL, gE hlt]
     repeat' apply And.intro
     all_goals first | omega | trivial
    refine rd hP 8 rfl (⟨i + 1, ?_, ?_, ent_ok rfl ?_⟩)
    ·exact hlt
    ·omega
    ·simp [conj, bytesL, gE hlt]
     exact words_next hlt
   ·obtain rfl : i = pl.length := by simp at c5; omega
    refine sw_exit (sw_seq (rg hP 6 [] rfl ?_ ?_))
    ·simp [conj, maxL, bytesL]
     exact ⟨by show (Lib.join (wordsV ((sz, sm, pl) : Ptr_)) [32]).length ≤ 1000000; omega, by show (Lib.join (wordsV ((sz, sm, pl) : Ptr_)) [32]).length ≤ _; omega⟩
    refine sw_ret ⟨.inl rfl, _, rfl, ?_⟩
    simp [conj, lineV, c1]
    try rfl
def cText_ : Ctr := ⟨31, [.val true T_Root (.all .b)], fun x => ∃ d, rootV d x.1 = true, fun x => (sStr (sealV (bodyV x.1)), [])⟩
theorem cText__ok : CtrOk Proofs.Tryz.prog cText_ := by
 have hP := ((((Prg.none ttok mtok).and cItoa_ok).and cLine_ok).and cWeigh_ok)
 refine ctr_of_body hP cText_ (fn := Proofs.Tryz.f31) (rts := [.tmp 2]) Proofs.Tryz.func31 rfl (by kernel_rfl) rfl rfl ?_
 rintro ⟨⟨(tg : Int), (l : List Vol_)⟩, ⟨⟩⟩ ⟨⟨ht0, hl0⟩, _⟩ ⟨d, hpre⟩
 try dsimp only [Ty.den, Mode.den, mdens] at d
 try dsimp only [Ty.den, Mode.den, mdens] at hpre
 refine ⟨rfl, ?_⟩
 replace hpre : rootV d ((tg, l) : Root_) = true := hpre
 have hs := rootV_small hpre
 have hb := hs.1
 have hi1 : (itoaV tg).length ≤ 21 := itoaV_len ht0
 have hml : l.length ≤ 4 := hs.1
 refine sw_seq (rd hP 1 rfl (sw_seq (rg hP 2 [] rfl ?_ ?_)))
 ·simp [conj, maxL, bytesL]
  repeat' apply And.intro
  all_goals first | omega | trivial
 refine sw_seq (sw_seq (rd hP 3 rfl (sw_block (sw_loop (ι := Nat × Str) (fun ⟨i, o⟩ => ⟨[.j, .v false [.ptr ⟨1, 0, 0⟩ 0], .j, sStr o, .j, .j, .j, .j, .j, .j, .j, .j, .j, .j, .v false [.d (.sl T_Vol) (.all .b) l], sInt .i64 (l.length : Int), sInt .i64 (i : Int), .j, .j, .j, .j, .j, .j, .j, .j, .j, .j, .j, .j, .j, .j, .j, .j, .j, .j, .j, .j, .j, .j, .j, .j, .j, .j, .j, .j, .j], [(⟨1, 0, 0⟩, .var [.d TI pF tg, .d (.sl T_Vol) (.all .b) l])], 3, []⟩) (fun ⟨i, o⟩ => l.length - i) (fun ⟨i, o⟩ => i ≤ l.length ∧ o ++ catGo volT (l.drop i) = bodyV ((tg, l) : Root_) ∧ o.length ≤ 27 + i * 1000) (0, tRoot ++ itoaV tg ++ [10]) ⟨?_, ?_⟩ ?_))))
 ·exact ⟨Nat.zero_le _, rfl, by simp [tRoot]; omega⟩
 ·refine ent_ok rfl ?_
  simp [conj, bytesL]
  try rfl
 ·rintro ⟨i, o⟩ ⟨hi, hgo, hol⟩
  refine sw_seq (rd hP 4 rfl (sw_seq (sw_cond rfl (fun c3 => ?_) (fun c3 => ?_))))
  ·have hlt : i < l.length := by simpa using c3
   obtain ⟨hn3, hb3, hpv⟩ := hs.2 _ (List.getElem_mem hlt)
   refine sw_skip (sw_seq (sw_block (sw_seq (rg hP 5 [] rfl ?_ ?_))))
   ·simp [conj, gE hlt]
    exact hlt
   refine sw_seq (rg hP 6 [] rfl ?_ ?_)
   ·simp [conj, maxL, bytesL, gE hlt]
    repeat' apply And.intro
    all_goals first | omega | trivial
   refine sw_seq (rd hP 7 rfl (sw_block (sw_loop (ι := Nat × Str) (fun ⟨j, o⟩ => ⟨[.j, .v false [.ptr ⟨1, 0, 0⟩ 0], .j, sStr o, .j, .v false [.ptr ⟨0, 9, 2⟩ 0], .j, .j, .j, .j, .j, .j, .j, .j, .v false [.d (.sl T_Vol) (.all .b) l], sInt .i64 (l.length : Int), sInt .i64 (i : Int), .j, .j, .j, .j, .j, .j, .j, .j, .j, .j, .v false [.d (.sl T_Ptr) (.all .b) l[i].2], sInt .i64 (l[i].2.length : Int), sInt .i64 (j : Int), .j, .j, .j, .j, .j, .j, .j, .j, .j, .j, .j, .j, .j, .j, .j, .j], [(⟨1, 0, 0⟩, .var [.d TI pF tg, .d (.sl T_Vol) (.all .b) l]), (⟨0, 9, 2⟩, .var [.d .str pF l[i].1, .d (.sl T_Ptr) (.all .b) l[i].2])], 7, []⟩) (fun ⟨j, o⟩ => l[i].2.length - j) (fun ⟨j, o⟩ => j ≤ l[i].2.length ∧ (o ++ catGo lineV (l[i].2.drop j)) ++ catGo volT (l.drop (i + 1)) = bodyV ((tg, l) : Root_) ∧ o.length ≤ 27 + i * 1000 + 8 + j * 300) (0, o ++ (tVol ++ l[i].1 ++ [10])) ⟨?_, ?_⟩ ?_)))
   ·exact ⟨Nat.zero_le _, vol_in hlt hgo, by simp [tVol]; omega⟩
   ·refine ent_ok rfl ?_
    simp [conj, bytesL, gE hlt]
    try rfl
   ·rintro ⟨j, o⟩ ⟨hj, hgo2, hol2⟩
    refine sw_seq (rd hP 8 rfl (sw_seq (sw_cond rfl (fun c7 => ?_) (fun c7 => ?_))))
    ·have hlj : j < l[i].2.length := by simpa using c7
     have hpj := hpv _ (List.getElem_mem hlj)
     obtain ⟨dd, hpd⟩ := hpj
     have hok := (hl0.2 _ (List.getElem_mem hlt)).2.2 _ (List.getElem_mem hlj)
     have hll := lineV_len' hok.1 hok.2.1 hok.2.2.2 hpd
     refine sw_skip (sw_seq (sw_block (sw_seq (rg hP 9 [] rfl ?_ ?_))))
     ·simp [conj, gE hlj]
      exact hlj
     refine rg hP 10 [] rfl ?_ ?_
     ·simp [conj, maxL, gE hlj]
      exact ⟨⟨dd, hpd⟩, by have h : List.length (lineV l[i].2[j]) ≤ 300 := hll; show o.length + List.length (lineV l[i].2[j]) ≤ 140737488355328; omega⟩
     refine rd hP 11 rfl (⟨(j + 1, o ++ lineV l[i].2[j]), ?_, ?_, ent_ok rfl ?_⟩)
     ·exact ⟨hlj, vol_line hlj hgo2, by simp; omega⟩
     ·show l[i].2.length - (j + 1) < l[i].2.length - j
      omega
     ·simp [conj, gE hlj]
    ·obtain rfl : j = l[i].2.length := by simp at c7; omega
     refine sw_exit (rd hP 9 rfl (⟨(i + 1, o), ?_, ?_, ent_ok rfl ?_⟩))
     ·exact ⟨hlt, vol_out hgo2, by show o.length ≤ 27 + (i + 1) * 1000; omega⟩
     ·show l.length - (i + 1) < l.length - i
      omega
     ·simp [conj]
  ·obtain rfl : i = l.length := by simp at c3; omega
   have hv := cat_end hgo
   subst hv
   have hw := weighV_bd (s := bodyV ((tg, l) : Root_)) (by omega)
   have hi2 : (itoaV (weighV (bodyV ((tg, l) : Root_)))).length ≤ 21 := itoaV_len (by rw [inR_i64]; omega)
   refine sw_exit (sw_seq (rg hP 5 [] rfl ?_ ?_))
   ·simp [conj, maxL, bytesL]
    repeat' apply And.intro
    all_goals first | omega | (show List.length (bodyV ((tg, l) : Root_)) ≤ 1000000; omega) | trivial
   refine sw_ret ⟨.inl rfl, _, rfl, ?_⟩
   simp [conj, sealV, bytesL]
   rfl
def cRootText : Ctr := ⟨9, [.val false TI pF, .val true T_Root (.all .b)], fun x => True, fun x => (sStr (rootT x.1 x.2.1), [])⟩
theorem cRootText_ok : CtrOk Proofs.Tryz.prog cRootText := by
 have hP := (((Prg.none ttok mtok).and cRootOk_ok).and cText__ok)
 refine ctr_of_body hP cRootText (fn := Proofs.Tryz.f9) (rts := [.tmp 4]) Proofs.Tryz.func9 rfl (by kernel_rfl) rfl rfl ?_
 rintro ⟨(d : Int), ⟨(tg : Int), (l : List Vol_)⟩, ⟨⟩⟩ _ _
 try dsimp only [Ty.den, Mode.den, mdens] at _
 refine ⟨rfl, ?_⟩
 refine sw_seq (rd hP 1 rfl (sw_seq (sw_seq (rg hP 2 [] rfl ?_ ?_))))
 ·simp only [cj, cl]
  try dsimp only [Ty.den, Ty.dflt]
  repeat' apply And.intro
  all_goals first | trivial | assumption | omega | exact decide_eq_true ‹_› | exact decide_eq_false ‹_› | (simp [*]; done)
 refine sw_cond rfl (fun c1 => ?_) (fun c1 => ?_)
 ·replace c1 : rootV d ((tg, l) : Root_) = false := by have h : (!rootV d ((tg, l) : Root_)) = true := c1; simpa using h
  refine sw_seq (rd hP 3 rfl (sw_ret ⟨.inl rfl, _, rfl, ?_⟩))
  simp [conj, rootT, c1, bytesL]
 ·replace c1 : rootV d ((tg, l) : Root_) = true := by have h : (!rootV d ((tg, l) : Root_)) = false := c1; simpa using h
  refine sw_skip (sw_seq (rg hP 3 [] rfl ?_ ?_))
  ·simp [conj]
   exact ⟨d, c1⟩
  refine sw_ret ⟨.inl rfl, _, rfl, ?_⟩
  simp [conj, rootT, c1, bytesL]
end Go.Sx

namespace Go.Sx
open Go
set_option maxRecDepth 100000
set_option linter.unusedVariables false
set_option linter.unusedSimpArgs false
set_option maxHeartbeats 2000000
def cReadI : Ctr := ⟨6, [.val false TI pF, .val false .str pF], fun x => True, fun x => (.tup [(true, [.d TI pF (readI x.1 x.2.1).1.1, .own ⟨1, 0, 0⟩]), (false, [.d .bool pF (readI x.1 x.2.1).2])], [(⟨1, 0, 0⟩, .sl T_Vol (.all .w) (readI x.1 x.2.1).1.2)])⟩
theorem cReadI_ok : CtrOk Proofs.Tryz.prog cReadI := by
 have hP := (((((Prg.none ttok mtok).and cSplit_ok).and cRootI_ok).and cIs_ok).and cRootText_ok)
 refine ctr_of_body hP cReadI (fn := Proofs.Tryz.f6) (rts := [.cell 4 27, .tmp 5]) Proofs.Tryz.func6 rfl (by kernel_rfl) rfl rfl ?_
 rintro ⟨(d : Int), (t : Str), ⟨⟩⟩ _ _
 try dsimp only [Ty.den, Mode.den, mdens] at _
 refine ⟨rfl, ?_⟩
 refine sw_seq (rd hP 1 rfl (sw_seq (sw_seq ?_)))
 refine sw_dec hP 2 [] 3 rfl (fun g1_3 => ?_) (fun g1_3 => ?_)
 ·have hz : 700 < t.length ∨ t = [] := .inl (by have h := g1_3; simp at h; omega)
  refine rD hP 2 [(3, true)] rfl (sw_condT rfl (sw_seq (rd hP 3 rfl (sw_ret ⟨.inl rfl, _, rfl, ?_⟩))))
  have hv : readI d t = ((0, []), false) := by unfold readI; rw [if_pos hz]
  simp [conj, hv]
 ·have hz0 : ¬ 700 < t.length := by have h := g1_3; simp at h; omega
  refine rD hP 2 [(3, false)] rfl (sw_cond rfl (fun c1 => ?_) (fun c1 => ?_))
  ·have hz : 700 < t.length ∨ t = [] :=   .inr (of_decide_eq_true (show decide (t = []) = true from c1))
   refine sw_seq (rd hP 3 rfl (sw_ret ⟨.inl rfl, _, rfl, ?_⟩))
   have hv : readI d t = ((0, []), false) := by unfold readI; rw [if_pos hz]
   simp [conj, hv]
  ·have hz1 : ¬ t = [] := of_decide_eq_false (show decide (t = []) = false from c1)
   have hz : ¬ (700 < t.length ∨ t = []) := fun h => h.elim hz0 hz1
   have hrd := cut_ok (t := t) (by omega)
   refine sw_skip (sw_seq (rg hP 3 [] rfl ?_ ?_))
   ·simp only [cj, cl]
    try dsimp only [Ty.den, Ty.dflt]
    repeat' apply And.intro
    all_goals first | omega | assumption | trivial | (show t.length ≤ 1000000; omega)
   refine sw_seq (rg hP 4 [] rfl ?_ ?_)
   ·simp only [cj, cl]
    try dsimp only [Ty.den, Ty.dflt]
    repeat' apply And.intro
    all_goals first | omega | assumption | trivial | exact hrd
   refine sw_seq (sw_seq ?_)
   obtain ⟨q, hq⟩ : ∃ q, (rootI (cutV 10 t, 0)) = q := ⟨_, rfl⟩
   have hqo : RdOk q.2 := hq ▸ rootI_ok hrd
   have hqe := hqo.er
   refine sw_ent (st' := ⟨[sInt .i64 d, .v false [.d .str pF t], .j, .j, .v false [.ptr ⟨1, 0, 0⟩ 0], .j, .v false [.ptr ⟨3, 3, 0⟩ 0], .v false [.ptr ⟨4, 2, 0⟩ 0], .j, .j, .j, .j, .j, .j, .j, .j, .j, .j, .j, .v false [.ptr ⟨3, 3, 0⟩ 0], .j, .j, .j, .j, .j, .j, .j, .j, .j, .j, .j, .j, .j, .j, .j, .j, .j], [(⟨1, 0, 0⟩, .var [.d TI pF 0, .d (.sl T_Vol) pF []]), (⟨3, 3, 0⟩, .var [.d (.sl .str) pF q.2.1, .d .er pF q.2.2]), (⟨4, 2, 0⟩, .var [.d TI pF q.1.1, .own ⟨0, 9, 0⟩]), (⟨0, 9, 0⟩, .sl T_Vol (.all .w) q.1.2)], 4, []⟩) (ent_ok rfl ?_) ?_
   ·simp [conj, ← hq, bytesL]
    try rfl
   refine sw_dec hP 5 [] 6 rfl (fun g5_6 => ?_) (fun g5_6 => ?_)
   ·have hbad : q.2.2 = 1 ∨ rootT d q.1 ≠ t := .inl (Nat.eq_of_beq_eq_true g5_6)
    refine rg hP 5 [(6, true)] rfl ?_ ?_
    ·simp only [cj, cl]
     try dsimp only [Ty.den, Ty.dflt]
     repeat' apply And.intro
     all_goals first | omega | assumption | trivial | exact g5_6
    refine sw_condT rfl (sw_seq (rd hP 6 rfl (sw_ret ⟨.inl rfl, _, rfl, ?_⟩)))
    have hv : readI d t = ((0, []), false) := by unfold readI; rw [if_neg hz]; simp only [hq]; rw [if_pos hbad]
    simp [conj, hv]
   ·have hne1 : ¬ q.2.2 = 1 := by
      intro h
      have h2 : Nat.beq q.2.2 1 = false := g5_6
      rw [h] at h2
      cases h2
    refine rg hP 5 [(6, false)] rfl ?_ ?_
    ·simp only [cj, cl]
     try dsimp only [Ty.den, Ty.dflt]
     repeat' apply And.intro
     all_goals first | omega | assumption | trivial | exact g5_6
    refine sw_cond rfl (fun c5 => ?_) (fun c5 => ?_)
    ·have hbad : q.2.2 = 1 ∨ rootT d q.1 ≠ t := .inr (by have h : (!decide (rootT d q.1 = t)) = true := c5; simpa using h)
     refine sw_seq (rd hP 6 rfl (sw_ret ⟨.inl rfl, _, rfl, ?_⟩))
     have hv : readI d t = ((0, []), false) := by unfold readI; rw [if_neg hz]; simp only [hq]; rw [if_pos hbad]
     simp [conj, hv]
    ·have hgood : ¬ (q.2.2 = 1 ∨ rootT d q.1 ≠ t) := by
       have h : (!decide (rootT d q.1 = t)) = false := c5
       intro h2
       rcases h2 with h2 | h2
       · exact hne1 h2
       · simp at h; exact h2 h
     refine sw_skip (sw_seq (rd hP 6 rfl (sw_ret ⟨.inl rfl, _, rfl, ?_⟩)))
     have hv : readI d t = (q.1, true) := by unfold readI; rw [if_neg hz]; simp only [hq]; rw [if_neg hgood]
     simp [conj, hv]
end Go.Sx

namespace Go.Sx
open Go
set_option maxRecDepth 100000
set_option linter.unusedVariables false
set_option linter.unusedSimpArgs false
set_option maxHeartbeats 2000000
def cLpaPtr : Ctr := ⟨26, [.val true T_Ptr (.all .b), .val true T_Ptr (.all .b)], fun x => True, fun x => (sBool (decide ((x.1 : Ptr_) = x.2.1)), [])⟩
theorem cLpaPtr_ok : CtrOk Proofs.Tryz.prog cLpaPtr := by
 have hP := (Prg.none ttok mtok)
 refine ctr_of_body hP cLpaPtr (fn := Proofs.Tryz.f26) (rts := [.tmp 4]) Proofs.Tryz.func26 rfl (by kernel_rfl) rfl rfl ?_
 rintro ⟨⟨(sz : Int), (sm : Int), (pl : List Plc)⟩, ⟨(sz2 : Int), (sm2 : Int), (pl2 : List Plc)⟩, ⟨⟩⟩ ⟨⟨_, _, hda⟩, ⟨_, _, hdb⟩, _⟩ _
 try dsimp only [Ty.den, Mode.den, mdens] at _
 refine ⟨rfl, ?_⟩
 have hml : pl.length ≤ 140737488355328 := hda.1
 have hmb : pl2.length ≤ 140737488355328 := hdb.1
 refine sw_seq (rd hP 1 rfl (sw_seq (sw_seq ?_)))
 refine sw_dec hP 2 [] 5 rfl (fun g1_5 => ?_) (fun g1_5 => ?_)
 ·replace g1_5 : ¬ sz = sz2 := by simpa using g1_5
  refine rD hP 2 [(5, true)] rfl (sw_condT rfl (sw_seq (rd hP 3 rfl (sw_ret ⟨.inl rfl, _, rfl, ?_⟩))))
  simp [conj, g1_5]
 ·replace g1_5 : sz = sz2 := by simpa using g1_5
  refine sw_dec hP 2 [(5, false)] 12 rfl (fun g1_12 => ?_) (fun g1_12 => ?_)
  ·replace g1_12 : ¬ sm = sm2 := by simpa using g1_12
   refine rD hP 2 [(5, false), (12, true)] rfl (sw_condT rfl (sw_seq (rd hP 3 rfl (sw_ret ⟨.inl rfl, _, rfl, ?_⟩))))
   simp [conj, g1_12]
  ·replace g1_12 : sm = sm2 := by simpa using g1_12
   refine rD hP 2 [(5, false), (12, false)] rfl (sw_cond rfl (fun c1 => ?_) (fun c1 => ?_))
   ·replace c1 : ¬ pl.length = pl2.length := by simp at c1; omega
    refine sw_seq (rd hP 3 rfl (sw_ret ⟨.inl rfl, _, rfl, ?_⟩))
    have hne : ¬ pl = pl2 := fun e => c1 (by rw [e])
    simp [conj, hne]
   ·replace c1 : pl.length = pl2.length := by simp at c1; omega
    refine sw_skip (sw_seq (sw_seq (rd hP 3 rfl (sw_block (sw_loop (ι := Nat) (fun i => ⟨[.j, .j, .v false [.ptr ⟨1, 0, 0⟩ 0], .v false [.ptr ⟨1, 1, 0⟩ 0], .j, sInt .i64 (i : Int), .j, .j, .j, .j, .j, .j, .j, .j, .j, .j, .j, .j, .j, .j, .j, .j, .j, .j, .j, .j, .j, .j, .j, .j, .j, .j, .j, .j, .j, .j, .j, .j, .j, .j, .j, .j, .j, .j, .j], [(⟨1, 0, 0⟩, .var [.d TI pF sz, .d TI pF sm, .d (.sl T_Place) (.all .b) pl]), (⟨1, 1, 0⟩, .var [.d TI pF sz2, .d TI pF sm2, .d (.sl T_Place) (.all .b) pl2])], 3, []⟩) (fun i => pl.length - i) (fun i => i ≤ pl.length ∧ decide (pl.drop i = pl2.drop i) = decide (pl = pl2)) 0 ⟨?_, ?_⟩ ?_)))))
    ·exact ⟨Nat.zero_le _, rfl⟩
    ·refine ent_ok rfl ?_
     simp [conj]
    ·rintro i ⟨hi, hgo⟩
     refine sw_seq (sw_seq (rd hP 4 rfl (sw_cond rfl (fun c4 => ?_) (fun c4 => ?_))))
     ·have hlt : i < pl.length := by simpa using c4
      have hlt2 : i < pl2.length := by omega
      refine sw_skip (sw_seq (sw_block (sw_seq (rg hP 5 [] rfl ?_ ?_))))
      ·simp [conj, gE hlt, gE hlt2]
       repeat' apply And.intro
       all_goals first | omega | trivial
      refine sw_cond rfl (fun c6 => ?_) (fun c6 => ?_)
      ·replace c6 : ¬ pl[i] = pl2[i] := by intro e; simp [gE hlt, gE hlt2, e] at c6
       refine sw_seq (rd hP 6 rfl (sw_ret ⟨.inl rfl, _, rfl, ?_⟩))
       have hne : ¬ pl = pl2 := of_decide_eq_false (eqL_hit hlt hlt2 hgo c6)
       simp [conj, hne]
      ·replace c6 : pl[i] = pl2[i] := by
         have h := c6
         simp [gE hlt, gE hlt2] at h
         exact Prod.ext h.1 h.2
       refine sw_skip (rd hP 6 rfl (⟨i + 1, ?_, ?_, ent_ok rfl ?_⟩))
       ·exact ⟨hlt, eqL_next hlt hlt2 hgo c6⟩
       ·omega
       ·simp [conj]
     ·obtain rfl : i = pl.length := by simp at c4; omega
      refine sw_exit (sw_seq (rd hP 5 rfl (sw_ret ⟨.inl rfl, _, rfl, ?_⟩)))
      have he : pl = pl2 := of_decide_eq_true (eqL_end c1 hgo)
      simp [conj, g1_5, g1_12, he]
def cLpaRoot : Ctr := ⟨7, [.val true T_Root (.all .b), .val true T_Root (.all .b)], fun x => True, fun x => (sBool (decide ((x.1 : Root_) = x.2.1)), [])⟩
theorem cLpaRoot_ok : CtrOk Proofs.Tryz.prog cLpaRoot := by
 have hP := ((Prg.none ttok mtok).and cLpaPtr_ok)
 refine ctr_of_body hP cLpaRoot (fn := Proofs.Tryz.f7) (rts := [.tmp 4]) Proofs.Tryz.func7 rfl (by kernel_rfl) rfl rfl ?_
 rintro ⟨⟨(tg : Int), (l : List Vol_)⟩, ⟨(tg2 : Int), (l2 : List Vol_)⟩, ⟨⟩⟩ ⟨⟨_, hda⟩, ⟨_, hdb⟩, _⟩ _
 try dsimp only [Ty.den, Mode.den, mdens] at _
 refine ⟨rfl, ?_⟩
 have hml : l.length ≤ 140737488355328 := hda.1
 have hmb : l2.length ≤ 140737488355328 := hdb.1
 refine sw_seq (rd hP 1 rfl (sw_seq (sw_seq ?_)))
 refine sw_dec hP 2 [] 5 rfl (fun g1_5 => ?_) (fun g1_5 => ?_)
 ·replace g1_5 : ¬ tg = tg2 := by simpa using g1_5
  refine rD hP 2 [(5, true)] rfl (sw_condT rfl (sw_seq (rd hP 3 rfl (sw_ret ⟨.inl rfl, _, rfl, ?_⟩))))
  simp [conj, g1_5]
 ·replace g1_5 : tg = tg2 := by simpa using g1_5
  refine rD hP 2 [(5, false)] rfl (sw_cond rfl (fun c1 => ?_) (fun c1 => ?_))
  ·replace c1 : ¬ l.length = l2.length := by simp at c1; omega
   refine sw_seq (rd hP 3 rfl (sw_ret ⟨.inl rfl, _, rfl, ?_⟩))
   have hne : ¬ l = l2 := fun e => c1 (by rw [e])
   simp [conj, hne]
  ·replace c1 : l.length = l2.length := by simp at c1; omega
   refine sw_skip (sw_seq (sw_seq (rd hP 3 rfl (sw_block (sw_loop (ι := Nat) (fun i => ⟨[.j, .j, .v false [.ptr ⟨1, 0, 0⟩ 0], .v false [.ptr ⟨1, 1, 0⟩ 0], .j, sInt .i64 (i : Int), .j, .j, .j, .j, .j, .j, .j, .j, .j, .j, .j, .j, .j, .j, .j, .j, .j, .j, .j, .j, .j, .j, .j, .j, .j, .j, .j, .j, .j, .j, .j, .j, .j, .j, .j, .j, .j, .j, .j, .j, .j, .j, .j, .j, .j, .j, .j, .j, .j, .j, .j, .j, .j, .j, .j, .j, .j, .j, .j, .j, .j, .j, .j, .j, .j, .j, .j, .j, .j, .j, .j, .j, .j, .j, .j, .j, .j, .j, .j, .j, .j, .j, .j], [(⟨1, 0, 0⟩, .var [.d TI pF tg, .d (.sl T_Vol) (.all .b) l]), (⟨1, 1, 0⟩, .var [.d TI pF tg2, .d (.sl T_Vol) (.all .b) l2])], 3, []⟩) (fun i => l.length - i) (fun i => i ≤ l.length ∧ decide (l.drop i = l2.drop i) = decide (l = l2)) 0 ⟨?_, ?_⟩ ?_)))))
   ·exact ⟨Nat.zero_le _, rfl⟩
   ·refine ent_ok rfl ?_
    simp [conj]
   ·rintro i ⟨hi, hgo⟩
    refine sw_seq (sw_seq (rd hP 4 rfl (sw_cond rfl (fun c4 => ?_) (fun c4 => ?_))))
    ·have hlt : i < l.length := by simpa using c4
     have hlt2 : i < l2.length := by omega
     have hb1 : l[i].2.length ≤ 140737488355328 := (hda.2 _ (List.getElem_mem hlt)).2.1
     have hb2 : l2[i].2.length ≤ 140737488355328 := (hdb.2 _ (List.getElem_mem hlt2)).2.1
     refine sw_skip (sw_seq (sw_block (sw_seq (sw_seq ?_))))
     refine sw_dec hP 5 [] 13 rfl (fun g6_13 => ?_) (fun g6_13 => ?_)
     ·replace g6_13 : ¬ l[i].1 = l2[i].1 := by simpa [gE hlt, gE hlt2] using g6_13
      have hbad : ¬ l[i] = l2[i] := fun e => g6_13 (by rw [e])
      refine rg hP 5 [(13, true)] rfl ?_ ?_
      ·simp [conj, gE hlt, gE hlt2]
       repeat' apply And.intro
       all_goals first | omega | trivial
      refine sw_condT rfl (sw_seq (rd hP 6 rfl (sw_ret ⟨.inl rfl, _, rfl, ?_⟩)))
      have hne : ¬ l = l2 := of_decide_eq_false (eqL_hit hlt hlt2 hgo hbad)
      simp [conj, hne]
     ·replace g6_13 : l[i].1 = l2[i].1 := by simpa [gE hlt, gE hlt2] using g6_13
      refine rg hP 5 [(13, false)] rfl ?_ ?_
      ·simp [conj, gE hlt, gE hlt2]
       repeat' apply And.intro
       all_goals first | omega | trivial
      refine sw_cond rfl (fun c6 => ?_) (fun c6 => ?_)
      ·replace c6 : ¬ l[i].2.length = l2[i].2.length := by simp [gE hlt, gE hlt2] at c6; omega
       have hbad : ¬ l[i] = l2[i] := fun e => c6 (by rw [e])
       refine sw_seq (rd hP 6 rfl (sw_ret ⟨.inl rfl, _, rfl, ?_⟩))
       have hne : ¬ l = l2 := of_decide_eq_false (eqL_hit hlt hlt2 hgo hbad)
       simp [conj, hne]
      ·replace c6 : l[i].2.length = l2[i].2.length := by simp [gE hlt, gE hlt2] at c6; omega
       refine sw_skip (sw_seq (rd hP 6 rfl (sw_block (sw_loop (ι := Nat) (fun k => ⟨[.j, .j, .v false [.ptr ⟨1, 0, 0⟩ 0], .v false [.ptr ⟨1, 1, 0⟩ 0], .j, sInt .i64 (i : Int), sInt .i64 (k : Int), .j, .j, .j, .j, .j, .j, .j, .j, .j, .j, .j, .j, .j, .j, .j, .j, .j, .j, .j, .j, .j, .j, .j, .j, .j, .j, .j, .j, .j, .j, .j, .j, .j, .j, .j, .j, .j, .j, .j, .j, .j, .j, .j, .j, .j, .j, .j, .j, .j, .j, .j, .j, .j, .j, .j, .j, .j, .j, .j, .j, .j, .j, .j, .j, .j, .j, .j, .j, .j, .j, .j, .j, .j, .j, .j, .j, .j, .j, .j, .j, .j, .j], [(⟨1, 0, 0⟩, .var [.d TI pF tg, .d (.sl T_Vol) (.all .b) l]), (⟨1, 1, 0⟩, .var [.d TI pF tg2, .d (.sl T_Vol) (.all .b) l2])], 6, []⟩) (fun k => l[i].2.length - k) (fun k => k ≤ l[i].2.length ∧ decide (l[i].2.drop k = l2[i].2.drop k) = decide (l[i].2 = l2[i].2)) 0 ⟨?_, ?_⟩ ?_))))
       ·exact ⟨Nat.zero_le _, rfl⟩
       ·refine ent_ok rfl ?_
        simp [conj]
       ·rintro k ⟨hk, hgk⟩
        refine sw_seq (sw_seq (rg hP 7 [] rfl ?_ ?_))
        ·simp [conj, gE hlt, gE hlt2]
         repeat' apply And.intro
         all_goals first | omega | trivial
        refine sw_cond rfl (fun c9 => ?_) (fun c9 => ?_)
        ·have hk1 : k < l[i].2.length := by simp [gE hlt, gE hlt2] at c9; omega
         have hk2 : k < l2[i].2.length := by omega
         refine sw_skip (sw_seq (sw_block (sw_seq (rg hP 8 [] rfl ?_ ?_))))
         ·simp [conj, gE hlt, gE hlt2, gE hk1, gE hk2]
          repeat' apply And.intro
          all_goals first | omega | trivial
         refine sw_cond rfl (fun c11 => ?_) (fun c11 => ?_)
         ·replace c11 : ¬ l[i].2[k] = l2[i].2[k] := by intro e; simp [gE hlt, gE hlt2, gE hk1, gE hk2, e] at c11
          have hbad : ¬ l[i] = l2[i] := fun e => of_decide_eq_false (eqL_hit hk1 hk2 hgk c11) (by rw [e])
          refine sw_seq (rd hP 9 rfl (sw_ret ⟨.inl rfl, _, rfl, ?_⟩))
          have hne : ¬ l = l2 := of_decide_eq_false (eqL_hit hlt hlt2 hgo hbad)
          simp [conj, hne]
         ·replace c11 : l[i].2[k] = l2[i].2[k] := by
            have h := c11
            simp [gE hlt, gE hlt2, gE hk1, gE hk2] at h
            exact Prod.ext h.1 (Prod.ext h.2.1 h.2.2)
          refine sw_skip (rd hP 9 rfl (⟨k + 1, ?_, ?_, ent_ok rfl ?_⟩))
          ·exact ⟨hk1, eqL_next hk1 hk2 hgk c11⟩
          ·omega
          ·simp [conj]
        ·obtain rfl : k = l[i].2.length := by simp [gE hlt, gE hlt2] at c9; omega
         have heb : l[i].2 = l2[i].2 := of_decide_eq_true (eqL_end c6 hgk)
         have hel : l[i] = l2[i] := Prod.ext g6_13 heb
         refine sw_exit (rd hP 8 rfl (⟨i + 1, ?_, ?_, ent_ok rfl ?_⟩))
         ·exact ⟨hlt, eqL_next hlt hlt2 hgo hel⟩
         ·omega
         ·simp [conj]
    ·obtain rfl : i = l.length := by simp at c4; omega
     refine sw_exit (sw_seq (rd hP 5 rfl (sw_ret ⟨.inl rfl, _, rfl, ?_⟩)))
     have he : l = l2 := of_decide_eq_true (eqL_end c1 hgo)
     simp [conj, g1_5, he]
end Go.Sx

namespace Go.Sx
open Go
structure Mk (α : Type) where of_ ::
 mk : Int → α → α
 nx : Int → α → Int
 hd : Int → α → Int
structure MkOk {α : Type} (m : Mk α) : Prop where
 ge : ∀ k x, k ≤ m.nx k x
 hm : ∀ k x, 0 ≤ k → m.hd k (m.mk k x) = m.nx k x
 nm : ∀ k x, m.nx k (m.mk k x) = m.nx k x
 val : ∀ k x, m.hd k x = -1 ∨ m.hd k x = m.nx k x
section
variable {α : Type} (m : Mk α)
def mkLs : Int → List α → List α
 | _, [] => []
 | k, x :: r => m.mk k x :: mkLs (m.nx k x) r
def nxLs : Int → List α → Int
 | k, [] => k
 | k, x :: r => nxLs (m.nx k x) r
def hdLs : Int → List α → Int
 | k, [] => k
 | k, x :: r => if m.hd k x < 0 then -1 else hdLs (m.hd k x) r
def mkList : Mk (List α) := ⟨mkLs m, nxLs m, hdLs m⟩
end
theorem mkList_ok {α : Type} {m : Mk α} (h : MkOk m) : MkOk (mkList m) := by
 have hge : ∀ (l : List α) k, k ≤ nxLs m k l := by
  intro l
  induction l with
  | nil => intro k; exact Int.le_refl _
  | cons x r ih => intro k; exact Int.le_trans (h.ge k x) (ih _)
 refine ⟨fun k x => hge x k, ?_, ?_, ?_⟩
 ·intro k l
  show 0 ≤ k → hdLs m k (mkLs m k l) = nxLs m k l
  induction l generalizing k with
  | nil => intro _; rfl
  | cons x r ih =>
   intro h0
   simp only [mkLs, hdLs, nxLs]
   have h1 := h.ge k x
   rw [h.hm k x h0, if_neg (by omega)]
   exact ih _ (by omega)
 ·intro k l
  show nxLs m k (mkLs m k l) = nxLs m k l
  induction l generalizing k with
  | nil => rfl
  | cons x r ih => simp only [mkLs, nxLs]; rw [h.nm]; exact ih _
 ·intro k l
  show hdLs m k l = -1 ∨ hdLs m k l = nxLs m k l
  induction l generalizing k with
  | nil => exact .inr rfl
  | cons x r ih =>
   simp only [hdLs, nxLs]
   split
   ·exact .inl rfl
   ·rename_i hn
    rcases h.val k x with h1 | h1
    ·rw [h1] at hn; exact absurd (by decide) hn
    ·rw [h1]; exact ih _
section
variable {α : Type} {m : Mk α}
theorem mkLs_len : ∀ {l : List α} {k : Int}, (mkLs m k l).length = l.length := by
 intro l
 induction l with
 | nil => intro k; rfl
 | cons x r ih => intro k; simp only [mkLs, List.length_cons, ih]
theorem mkLs_app : ∀ {a b : List α} {k : Int}, mkLs m k (a ++ b) = mkLs m k a ++ mkLs m (nxLs m k a) b := by
 intro a
 induction a with
 | nil => intro b k; rfl
 | cons x r ih => intro b k; simp only [List.cons_append, mkLs, nxLs, ih]
theorem nxLs_app : ∀ {a b : List α} {k : Int}, nxLs m k (a ++ b) = nxLs m (nxLs m k a) b := by
 intro a
 induction a with
 | nil => intro b k; rfl
 | cons x r ih => intro b k; simp only [List.cons_append, nxLs, ih]
theorem drop_cons' {l : List α} {i : Nat} (h : i < l.length) : l.drop i = l[i] :: l.drop (i + 1) := List.drop_eq_getElem_cons h
theorem take_snoc {l : List α} {i : Nat} (h : i < l.length) : l.take (i + 1) = l.take i ++ [l[i]] := List.take_succ_eq_append_getElem h
theorem mk_clen {l : List α} {k : Int} {i : Nat} (hi : i ≤ l.length) : (mkLs m k (l.take i) ++ l.drop i).length = l.length := by
 rw [List.length_append, mkLs_len, List.length_take, List.length_drop]; omega
theorem mk_get {l : List α} {k : Int} {i : Nat} (h : i < l.length) : (mkLs m k (l.take i) ++ l.drop i)[i]? = some l[i] := by
 have hl : (mkLs m k (l.take i)).length = i := by rw [mkLs_len, List.length_take]; omega
 rw [List.getElem?_append_right (by omega), hl, Nat.sub_self, drop_cons' h]; rfl
theorem nx_next {l : List α} {k : Int} {i : Nat} (h : i < l.length) : nxLs m k (l.take (i + 1)) = m.nx (nxLs m k (l.take i)) l[i] := by
 rw [take_snoc h, nxLs_app]; rfl
theorem mk_next {l : List α} {k : Int} {i : Nat} (h : i < l.length) : (mkLs m k (l.take i) ++ l.drop i).set i (m.mk (nxLs m k (l.take i)) l[i]) = mkLs m k (l.take (i + 1)) ++ l.drop (i + 1) := by
 have hl : (mkLs m k (l.take i)).length = i := by rw [mkLs_len, List.length_take]; omega
 rw [List.set_append_right _ _ (by omega), hl, Nat.sub_self, drop_cons' h, List.set_cons_zero, take_snoc h, mkLs_app, List.append_assoc]
 rfl
theorem nx_split (hm : MkOk m) {l : List α} {k : Int} {i : Nat} (h : i < l.length) : k ≤ nxLs m k (l.take i) ∧ nxLs m k (l.take i) ≤ m.nx (nxLs m k (l.take i)) l[i] ∧ m.nx (nxLs m k (l.take i)) l[i] ≤ nxLs m k l := by
 refine ⟨(mkList_ok hm).ge _ _, hm.ge _ _, ?_⟩
 have e : nxLs m k l = nxLs m (m.nx (nxLs m k (l.take i)) l[i]) (l.drop (i + 1)) := by
  conv => lhs; rw [← List.take_append_drop i l, nxLs_app, drop_cons' h]
  rfl
 rw [e]
 exact (mkList_ok hm).ge _ _
theorem nx_drop (hm : MkOk m) {l : List α} {q : Int} {i : Nat} (h : i < l.length) : nxLs m q (l.drop i) = nxLs m (m.nx q l[i]) (l.drop (i + 1)) ∧ q ≤ m.nx q l[i] ∧ m.nx q l[i] ≤ nxLs m (m.nx q l[i]) (l.drop (i + 1)) := by
 refine ⟨by rw [drop_cons' h]; rfl, hm.ge _ _, (mkList_ok hm).ge _ _⟩
theorem hd_next {l : List α} {q V : Int} {i : Nat} (h : i < l.length) (hgo : hdLs m q (l.drop i) = V) (hn : ¬ m.hd q l[i] < 0) : hdLs m (m.hd q l[i]) (l.drop (i + 1)) = V := by
 rw [drop_cons' h] at hgo; simp only [hdLs, if_neg hn] at hgo; exact hgo
theorem hd_hit {l : List α} {q V : Int} {i : Nat} (h : i < l.length) (hgo : hdLs m q (l.drop i) = V) (hn : m.hd q l[i] < 0) : V = -1 := by
 rw [drop_cons' h] at hgo; simp only [hdLs, if_pos hn] at hgo; exact hgo.symm
theorem hd_end {l : List α} {q V : Int} (hgo : hdLs m q (l.drop l.length) = V) : V = q := by
 rw [List.drop_length] at hgo; exact hgo.symm
theorem hd_pos (hm : MkOk m) {q : Int} {x : α} (hn : ¬ m.hd q x < 0) : m.hd q x = m.nx q x := (hm.val q x).resolve_left fun e => hn (by rw [e]; decide)
theorem hd_neg (hm : MkOk m) {q : Int} {x : α} (h0 : 0 ≤ q) (hn : m.hd q x < 0) : m.hd q x = -1 := (hm.val q x).resolve_right fun e => by have := hm.ge q x; omega
end
def mkOne {α : Type} [DecidableEq α] (n : Int) (f : Int → α) : Mk α := ⟨fun k _ => f k, fun k _ => k + n, fun k x => if x = f k then k + n else -1⟩
theorem mkOne_ok {α : Type} [DecidableEq α] {n : Int} {f : Int → α} (hn : 0 ≤ n) : MkOk (mkOne n f) := by
 refine ⟨fun k x => by show k ≤ k + n; omega, fun k x _ => if_pos rfl, fun _ _ => rfl, fun k x => ?_⟩
 show (if x = f k then k + n else -1) = -1 ∨ (if x = f k then k + n else -1) = k + n
 split
 ·exact .inr rfl
 ·exact .inl rfl
def mkPair {α β : Type} (a : Mk α) (b : Mk β) : Mk (α × β) := ⟨fun k x => (a.mk k x.1, b.mk (a.nx k x.1) x.2), fun k x => b.nx (a.nx k x.1) x.2, fun k x => if a.hd k x.1 < 0 then -1 else b.hd (a.hd k x.1) x.2⟩
theorem mkPair_ok {α β : Type} {a : Mk α} {b : Mk β} (ha : MkOk a) (hb : MkOk b) : MkOk (mkPair a b) := by
 refine ⟨fun k x => Int.le_trans (ha.ge k x.1) (hb.ge _ _), fun k x h => ?_, fun k x => ?_, fun k x => ?_⟩
 ·have := ha.ge k x.1
  show (if a.hd k (a.mk k x.1) < 0 then -1 else b.hd (a.hd k (a.mk k x.1)) (b.mk (a.nx k x.1) x.2)) = _
  rw [ha.hm k _ h, if_neg (by omega)]
  exact hb.hm _ _ (by omega)
 ·show b.nx (a.nx k (a.mk k x.1)) (b.mk (a.nx k x.1) x.2) = _
  rw [ha.nm, hb.nm]; rfl
 ·show (if a.hd k x.1 < 0 then -1 else b.hd (a.hd k x.1) x.2) = -1 ∨ (if a.hd k x.1 < 0 then -1 else b.hd (a.hd k x.1) x.2) = b.nx (a.nx k x.1) x.2
  split
  ·exact .inl rfl
  ·rename_i hn
   rw [hd_pos ha hn]
   exact hb.val _ _
def mkNo {α : Type} : Mk α := ⟨fun _ x => x, fun k _ => k, fun k _ => k⟩
theorem mkNo_ok {α : Type} : MkOk (mkNo : Mk α) := ⟨fun _ _ => Int.le_refl _, fun _ _ _ => rfl, fun _ _ => rfl, fun _ _ => .inr rfl⟩
def mkI : Mk Int := mkOne 1 id
theorem mkI_ok : MkOk mkI := mkOne_ok (by decide)
def digX (k : Nat) (out : Str) : Str := if h : k = 0 then out else digX (k / 10) (UInt8.ofNat (48 + k % 10) :: out)
 termination_by k
 decreasing_by omega
theorem digX_zero {out : Str} : digX 0 out = out := by rw [digX]; rfl
theorem digX_step {k : Nat} {out : Str} (h : k ≠ 0) : digX k out = digX (k / 10) (UInt8.ofNat (48 + k % 10) :: out) := by rw [digX, dif_neg h]
def mkT (k : Int) : Str := if k ≤ 0 then [109, 48] else 109 :: digX k.toNat []
def mkB (k : Int) : Bool := decide (k.tmod 3 = 0)
def mkStr : Mk Str := mkOne 1 mkT
theorem mkStr_ok : MkOk mkStr := mkOne_ok (by decide)
def mkBool : Mk Bool := mkOne 1 mkB
theorem mkBool_ok : MkOk mkBool := mkOne_ok (by decide)
end Go.Sx

namespace Go.Sx
open Go
def mPlc : Mk Plc := mkPair mkI mkI
def mPtr : Mk Ptr_ := mkPair mkI (mkPair mkI (mkList mPlc))
def mVol : Mk Vol_ := mkPair mkStr (mkList mPtr)
theorem mPlc_ok : MkOk mPlc := mkPair_ok mkI_ok mkI_ok
theorem mPtr_ok : MkOk mPtr := mkPair_ok mkI_ok (mkPair_ok mkI_ok (mkList_ok mPlc_ok))
theorem mVol_ok : MkOk mVol := mkPair_ok mkStr_ok (mkList_ok mPtr_ok)
theorem nx_plcs : ∀ {l : List Plc} {k : Int}, nxLs mPlc k l = k + 2 * (l.length : Int) := by
 intro l
 induction l with
 | nil => intro k; show k = k + 2 * (0 : Int); omega
 | cons x r ih =>
  intro k
  show nxLs mPlc (k + 1 + 1) r = _
  rw [ih, List.length_cons]
  omega
theorem nx_ptrs : ∀ {l : List Ptr_} {k : Int}, (∀ p ∈ l, p.2.2.length ≤ 4) → nxLs mPtr k l ≤ k + 10 * (l.length : Int) := by
 intro l
 induction l with
 | nil => intro k _; show k ≤ k + 10 * (0 : Int); omega
 | cons x r ih =>
  intro k h
  have h1 := h x List.mem_cons_self
  have h2 := ih (k := nxLs mPlc (k + 1 + 1) x.2.2) fun p hp => h p (List.mem_cons_of_mem _ hp)
  show nxLs mPtr (nxLs mPlc (k + 1 + 1) x.2.2) r ≤ _
  rw [nx_plcs] at h2
  rw [nx_plcs, List.length_cons]
  omega
theorem nx_vols : ∀ {l : List Vol_} {k : Int}, (∀ v ∈ l, v.2.length ≤ 3 ∧ ∀ p ∈ v.2, p.2.2.length ≤ 4) → nxLs mVol k l ≤ k + 31 * (l.length : Int) := by
 intro l
 induction l with
 | nil => intro k _; show k ≤ k + 31 * (0 : Int); omega
 | cons x r ih =>
  intro k h
  have h1 := h x List.mem_cons_self
  have h2 := ih (k := nxLs mPtr (k + 1) x.2) fun p hp => h p (List.mem_cons_of_mem _ hp)
  have h3 := nx_ptrs (k := k + 1) h1.2
  show nxLs mVol (nxLs mPtr (k + 1) x.2) r ≤ _
  rw [List.length_cons]
  omega
def FitV (l : List Vol_) : Prop := l.length ≤ 5 ∧ ∀ v ∈ l, v.2.length ≤ 3 ∧ ∀ p ∈ v.2, p.2.2.length ≤ 4
theorem fitV_nil : FitV [] := ⟨Nat.zero_le _, fun v h => by cases h⟩
theorem fitV_nx {l : List Vol_} (h : FitV l) : 1 ≤ nxLs mVol 1 l ∧ nxLs mVol 1 l ≤ 1000 := by
 refine ⟨(mkList_ok mVol_ok).ge 1 l, ?_⟩
 have := nx_vols (k := 1) h.2
 have := h.1
 omega
theorem fitV_root {d : Int} {r : Root_} (h : rootV d r = true) : FitV r.2 := by
 obtain ⟨h1, h2, h3⟩ := root_parts h
 refine ⟨by omega, fun v hv => ?_⟩
 obtain ⟨b1, b2, b3⟩ := h2 v hv
 exact ⟨by omega, fun p hp => ptrV_len (b3 p hp)⟩
theorem readI_fit {d : Int} {t : Str} : FitV (readI d t).1.2 := by
 unfold readI
 split
 ·exact fitV_nil
 ·rename_i h0
  simp only
  split
  ·exact fitV_nil
  ·rename_i h1
   have hne : ¬ t = [] := fun e => h0 (.inr e)
   have he : rootT d (rootI (cutV 10 t, 0)).1 = t := Classical.not_not.1 fun e => h1 (.inr e)
   have hv : rootV d (rootI (cutV 10 t, 0)).1 = true := Classical.not_not.1 fun e => hne (by rw [← he]; exact if_neg e)
   exact fitV_root hv
end Go.Sx

namespace Go.Sx
open Go
theorem u8_at {c : UInt8} {a : Int} (h0 : 0 ≤ a) (h1 : a ≤ 255) : (c.toNat : Int) = a ↔ c = UInt8.ofNat a.toNat := by
 have hc := c.toNat_lt
 constructor
 ·intro h
  apply UInt8.toNat_inj.1
  rw [UInt8.toNat_ofNat']
  omega
 ·intro h
  rw [h, UInt8.toNat_ofNat']
  omega
theorem cutV_cnt {a : UInt8} {s : Str} : (cutV a s).length ≤ s.length + 1 := by
 have : ∀ (s cur : Str), (cutGo a cur s).length ≤ s.length + 1 := by
  intro s
  induction s with
  | nil => intro cur; simp [cutGo]
  | cons c s ih =>
   intro cur
   simp only [cutGo]
   split
   ·have := ih []
    simp only [List.length_cons]
    omega
   ·have := ih (cur ++ [c])
    simp only [List.length_cons]
    omega
 exact this s []
theorem dt_next {α : Type} {l : List α} {i j : Nat} (hj : j ≤ i) (h : i < l.length) : (l.take (i + 1)).drop j = (l.take i).drop j ++ [l[i]] := by
 rw [List.take_succ_eq_append_getElem h, List.drop_append_of_le_length (by rw [List.length_take]; omega)]
theorem last_lt {α : Type} {l : List α} (h : 0 < l.length) : l.length - 1 < l.length := by omega
theorem blk_snoc {l : List Vol_} {i : Nat} {s : Str} (h : ∀ v ∈ l, v.2.length ≤ i) : ∀ v ∈ l ++ [(s, [])], v.2.length ≤ i + 1 := by
 intro v hv
 rcases List.mem_append.1 hv with hv | hv
 ·exact Nat.le_succ_of_le (h v hv)
 ·rw [List.mem_singleton.1 hv]; exact Nat.zero_le _
theorem blk_set {l : List Vol_} {i k : Nat} {p : Ptr_} (h : ∀ v ∈ l, v.2.length ≤ i) (hk : k < l.length) : ∀ v ∈ l.set k ((l.getD k ([], [])).1, (l.getD k ([], [])).2 ++ [p]), v.2.length ≤ i + 1 := by
 intro v hv
 rcases List.mem_or_eq_of_mem_set hv with hv | rfl
 ·exact Nat.le_succ_of_le (h v hv)
 ·have := h _ (List.getElem_mem hk)
  simp [gE hk]
  exact this
theorem len40 {n i : Nat} (h : n ≤ i) (hi : i ≤ 701) : (n + 1) * 40 ≤ 140737488355328 := by omega
end Go.Sx
