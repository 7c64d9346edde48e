/- Disks: plain law. -/
import Derived.Test.YtbnmeeajooljmaaMPf
set_option linter.all false
namespace Go.Sx
open Go
abbrev Put := Bool × Int × Str
abbrev Dsk := Int × List Str × List Str × List Bool × List Put
abbrev Drv := List Str × List Str × List Bool
def putV (p : Put) : Bool := if p.1 = true then decide (0 ≤ p.2.1 ∧ p.2.1 < 2 ∧ p.2.2.length ≤ 700) else decide (0 ≤ p.2.1 ∧ p.2.1 < 12 ∧ p.2.2.length = 3)
theorem putV_ring {p : Put} (h : putV p = true) (hr : p.1 = true) : 0 ≤ p.2.1 ∧ p.2.1 < 2 ∧ p.2.2.length ≤ 700 := by unfold putV at h; rw [if_pos hr] at h; exact of_decide_eq_true h
theorem putV_slot {p : Put} (h : putV p = true) (hr : p.1 = false) : 0 ≤ p.2.1 ∧ p.2.1 < 12 ∧ p.2.2.length = 3 := by unfold putV at h; rw [if_neg (by simp [hr])] at h; exact of_decide_eq_true h
def badP (p : Put) : Bool := !putV p
def longR (t : Str) : Bool := decide (700 < t.length)
def stV (n : Int) : Bool := decide (0 ≤ n ∧ n ≤ 2)
def shapedV (d : Dsk) : Bool := stV d.1 && decide (d.2.1.length = 12) && decide (d.2.2.1.length = 2) && decide (d.2.2.2.1.length = 12) && decide (d.2.2.2.2.length ≤ 40)
theorem shaped_iff {d : Dsk} (h : shapedV d = true) : stV d.1 = true ∧ d.2.1.length = 12 ∧ d.2.2.1.length = 2 ∧ d.2.2.2.1.length = 12 ∧ d.2.2.2.2.length ≤ 40 := by
  simp only [shapedV, Bool.and_eq_true, decide_eq_true_eq] at h
  exact ⟨h.1.1.1.1, h.1.1.1.2, h.1.1.2, h.1.2, h.2⟩
/-- a write comes -/
def come (p : Put) (t : Drv) : Drv := if p.1 = true then (t.1, t.2.1.set p.2.1.toNat p.2.2, t.2.2) else (t.1.set p.2.1.toNat p.2.2, t.2.1, t.2.2.set p.2.1.toNat false)
theorem come_ring {p : Put} {t : Drv} (h : p.1 = true) : come p t = (t.1, t.2.1.set p.2.1.toNat p.2.2, t.2.2) := by unfold come; rw [if_pos h]
theorem come_slot {p : Put} {t : Drv} (h : p.1 = false) : come p t = (t.1.set p.2.1.toNat p.2.2, t.2.1, t.2.2.set p.2.1.toNat false) := by unfold come; rw [if_neg (by simp [h])]
def Drv.ok (t : Drv) : Prop := t.1.length = 12 ∧ t.2.1.length = 2 ∧ t.2.2.length = 12
theorem come_ok {p : Put} {t : Drv} (h : t.ok) : (come p t).ok := by
  unfold come
  split <;> simpa [Drv.ok] using h
def comes (l : List Put) (t : Drv) : Drv := l.foldl (fun t p => come p t) t
theorem comes_next {l : List Put} {i : Nat} {t v : Drv} (hlt : i < l.length) (h : comes (l.drop i) t = v) : comes (l.drop (i + 1)) (come l[i] t) = v := by
  rw [drop_at hlt] at h; exact h
theorem comes_end {l : List Put} {t v : Drv} (h : comes (l.drop l.length) t = v) : t = v := by
  rw [List.drop_length] at h; exact h
theorem comes_ok {l : List Put} : ∀ {t : Drv}, t.ok → (comes l t).ok := by
  induction l with
  | nil => intro t h; exact h
  | cons p r ih => intro t h; exact ih (come_ok h)
/-- those whose bit is set -/
def keepB (n : Nat) : List Put → List Put
  | [] => []
  | p :: r => if n % 2 = 1 then p :: keepB (n / 2) r else keepB (n / 2) r
theorem keep_hit {l : List Put} {i n : Nat} {t v : Drv} (hlt : i < l.length) (hb : n % 2 = 1) (h : comes (keepB n (l.drop i)) t = v) : comes (keepB (n / 2) (l.drop (i + 1))) (come l[i] t) = v := by
  rw [drop_at hlt] at h; simp only [keepB, if_pos hb] at h; exact h
theorem keep_no {l : List Put} {i n : Nat} {t v : Drv} (hlt : i < l.length) (hb : ¬ n % 2 = 1) (h : comes (keepB n (l.drop i)) t = v) : comes (keepB (n / 2) (l.drop (i + 1))) t = v := by
  rw [drop_at hlt] at h; simp only [keepB, if_neg hb] at h; exact h
theorem keep_end {l : List Put} {n : Nat} {t v : Drv} (h : comes (keepB n (l.drop l.length)) t = v) : t = v := by
  rw [List.drop_length] at h; exact h
/-- an empty text with a spoilt slot, or one that is no column -/
def slotB (t : Str) (b : Bool) : Bool := (decide (t ≠ []) && !decide (t.length = 3)) || (decide (t = []) && b)
def slotsB : List Str → List Bool → Bool
  | t :: ts, b :: bs => slotB t b || slotsB ts bs
  | _, _ => false
def goneB (d : Dsk) : Bool := decide (d.1 = 1) && (decide (d.2.1 ≠ List.replicate 12 []) || decide (d.2.2.1 ≠ List.replicate 2 []) || decide (0 < d.2.2.2.2.length))
def rdV (d : Dsk) : Bool := shapedV d && !(d.2.2.2.2.any badP) && !(slotsB d.2.1 d.2.2.2.1) && !(d.2.2.1.any longR) && !(goneB d)
theorem gone_no {d : Dsk} (h : goneB d = false) (h1 : d.1 = 1) : d.2.1 = List.replicate 12 [] ∧ d.2.2.1 = List.replicate 2 [] ∧ d.2.2.2.2.length = 0 := by
  simp only [goneB, h1, decide_true, Bool.true_and, Bool.or_eq_false_iff, decide_eq_false_iff_not, Decidable.not_not] at h
  exact ⟨h.1.1, h.1.2, by omega⟩
theorem gone_yes {d : Dsk} (h1 : d.2.1 = List.replicate 12 []) (h2 : d.2.2.1 = List.replicate 2 []) (h3 : d.2.2.2.2.length = 0) : goneB d = false := by
  simp only [goneB, h1, h2, h3, ne_eq, not_true_eq_false, decide_false, Bool.or_false, Nat.lt_irrefl, Bool.and_false]
theorem gone_live {d : Dsk} (h : ¬ d.1 = 1) : goneB d = false := by simp only [goneB, h, decide_false, Bool.false_and]
theorem rd_mk {d : Dsk} (h1 : shapedV d = true) (h2 : d.2.2.2.2.any badP = false) (h3 : slotsB d.2.1 d.2.2.2.1 = false) (h4 : d.2.2.1.any longR = false) (h5 : goneB d = false) : rdV d = true := by
  simp only [rdV, h1, h2, h3, h4, h5, Bool.not_false, Bool.and_self]
theorem slots_next {ts : List Str} {bs : List Bool} {i : Nat} {v : Bool} (h1 : i < ts.length) (h2 : i < bs.length) (h : slotsB (ts.drop i) (bs.drop i) = v) (hn : slotB ts[i] bs[i] = false) : slotsB (ts.drop (i + 1)) (bs.drop (i + 1)) = v := by
  rw [drop_at h1, drop_at h2] at h; simpa [slotsB, hn] using h
theorem slots_hit {ts : List Str} {bs : List Bool} {i : Nat} {v : Bool} (h1 : i < ts.length) (h2 : i < bs.length) (h : slotsB (ts.drop i) (bs.drop i) = v) (hn : slotB ts[i] bs[i] = true) : v = true := by
  rw [drop_at h1, drop_at h2] at h; simpa [slotsB, hn] using h.symm
theorem slots_end {ts : List Str} {bs : List Bool} {v : Bool} (h : slotsB (ts.drop ts.length) (bs.drop ts.length) = v) : v = false := by
  rw [List.drop_length] at h; rw [← h]; rfl
theorem slotB_col {t : Str} {b : Bool} (h : t ≠ []) (h2 : ¬ t.length = 3) : slotB t b = true := by simp [slotB, h, h2]
theorem slotB_ok {t : Str} {b : Bool} (h : t ≠ []) (h2 : t.length = 3) : slotB t b = false := by simp [slotB, h, h2]
theorem slotB_nil {t : Str} {b : Bool} (h : t = []) : slotB t b = b := by simp [slotB, h]
theorem take_next {l : List Put} {i : Nat} {d : Put} (h : i < l.length) : l.take i ++ [((l[i]?.getD d).1, (l[i]?.getD d).2.1, (l[i]?.getD d).2.2)] = l.take (i + 1) := by
  rw [List.getElem?_eq_getElem h, Option.getD_some]
  exact List.take_append_getElem h
def zeroD : Dsk := (0, [], [], [], [])
def drvOf (d : Dsk) : Drv := (d.2.1, d.2.2.1, d.2.2.2.1)
def dskOf (st : Int) (t : Drv) (w : List Put) : Dsk := (st, t.1, t.2.1, t.2.2, w)
def crashV (d : Dsk) (keep : Int) : Dsk := if rdV d = true ∧ 0 ≤ keep then dskOf d.1 (comes (keepB keep.toNat d.2.2.2.2) (drvOf d)) [] else zeroD
theorem rd_parts {d : Dsk} (h : rdV d = true) : shapedV d = true ∧ d.2.2.2.2.any badP = false ∧ slotsB d.2.1 d.2.2.2.1 = false ∧ d.2.2.1.any longR = false ∧ goneB d = false := by
  simp only [rdV, Bool.and_eq_true, Bool.not_eq_true'] at h
  exact ⟨h.1.1.1.1, h.1.1.1.2, h.1.1.2, h.1.2, h.2⟩
theorem drv_ok {d : Dsk} (h : shapedV d = true) : (drvOf d).ok := by obtain ⟨_, a, b, c, _⟩ := shaped_iff h; exact ⟨a, b, c⟩
theorem wait_at {l : List Put} (h : l.any badP = false) {i : Nat} (hi : i < l.length) : putV l[i] = true := by
  have := List.any_eq_false.1 h l[i] (List.getElem_mem hi)
  simpa [badP] using this
theorem shr_bit {k : Int} {i : Nat} (h : 0 ≤ k) (hi : i ≤ 64) : (k.fdiv (2 ^ (min i 64))) = ((k.toNat / 2 ^ i : Nat) : Int) := by
  obtain ⟨n, rfl⟩ := Int.eq_ofNat_of_zero_le h
  have e : (2 : Int) ^ i = ((2 ^ i : Nat) : Int) := (Int.natCast_pow 2 i).symm
  rw [Nat.min_eq_left hi, Int.toNat_natCast, e, Int.fdiv_eq_ediv_of_nonneg _ (Int.natCast_nonneg _)]
  exact (Int.natCast_ediv n (2 ^ i)).symm
theorem and_one {n : Nat} (h : n < 2 ^ 63) : bitsOp .and .i64 (n : Int) 1 = ((n % 2 : Nat) : Int) := by
  show IntKind.wrap .i64 ((BitVec.ofInt 64 (n : Int) &&& BitVec.ofInt 64 1).toNat : Nat) = _
  rw [BitVec.toNat_and]
  have e1 : (BitVec.ofInt 64 (n : Int)).toNat = n := by rw [BitVec.toNat_ofInt]; simp only [Nat.reducePow] at h ⊢; omega
  have e2 : (BitVec.ofInt 64 (1 : Int)).toNat = 1 := rfl
  rw [e1, e2, Nat.and_one_is_mod, wrap_in]
  have := Nat.mod_lt n (show 0 < 2 by decide)
  simp only [inR, IntKind.min, IntKind.max, IntKind.signed, IntKind.bits]
  constructor <;> simp <;> omega
/-- a write is let wait -/
def putT (l : List Put) (t : Drv) : Drv := if l.length = 40 then comes l t else t
def putW (l : List Put) (p : Put) : List Put := if l.length = 40 then [p] else l ++ [p]
def putU (st : Int) (l : List Put) (t : Drv) : Drv := if st = 1 then t else putT l t
def putM (st : Int) (l : List Put) (p : Put) : List Put := if st = 1 then l else putW l p
theorem putT_full {l : List Put} {t : Drv} (h : l.length = 40) : putT l t = comes l t := by unfold putT; rw [if_pos h]
theorem putT_room {l : List Put} {t : Drv} (h : ¬ l.length = 40) : putT l t = t := by unfold putT; rw [if_neg h]
theorem putW_full {l : List Put} {p : Put} (h : l.length = 40) : putW l p = [p] := by unfold putW; rw [if_pos h]
theorem putW_room {l : List Put} {p : Put} (h : ¬ l.length = 40) : putW l p = l ++ [p] := by unfold putW; rw [if_neg h]
theorem putU_gone {st : Int} {l : List Put} {t : Drv} (h : st = 1) : putU st l t = t := by unfold putU; rw [if_pos h]
theorem putU_live {st : Int} {l : List Put} {t : Drv} (h : ¬ st = 1) : putU st l t = putT l t := by unfold putU; rw [if_neg h]
theorem putM_gone {st : Int} {l : List Put} {p : Put} (h : st = 1) : putM st l p = l := by unfold putM; rw [if_pos h]
theorem putM_live {st : Int} {l : List Put} {p : Put} (h : ¬ st = 1) : putM st l p = putW l p := by unfold putM; rw [if_neg h]
theorem putU_ok {st : Int} {l : List Put} {t : Drv} (h : t.ok) : (putU st l t).ok := by
  unfold putU putT
  split
  · exact h
  · split
    · exact comes_ok h
    · exact h
theorem putM_len {st : Int} {l : List Put} {p : Put} (h : l.length ≤ 40) : (putM st l p).length ≤ 40 := by
  unfold putM putW
  split
  · exact h
  · split
    · simp
    · simp; omega
/-- what a slot has, as if all that waits had come -/
def seenGo (at_ : Int) : List Put → Str → Str
  | [], s => s
  | p :: r, s => seenGo at_ r (if p.1 = false ∧ p.2.1 = at_ then p.2.2 else s)
theorem seen_next {at_ : Int} {l : List Put} {i : Nat} {s v : Str} (hlt : i < l.length) (h : seenGo at_ (l.drop i) s = v) : seenGo at_ (l.drop (i + 1)) (if l[i].1 = false ∧ l[i].2.1 = at_ then l[i].2.2 else s) = v := by
  rw [drop_at hlt] at h; exact h
theorem seen_end {at_ : Int} {l : List Put} {s v : Str} (h : seenGo at_ (l.drop l.length) s = v) : s = v := by rw [List.drop_length] at h; exact h
def seenV (t : Drv) (l : List Put) (at_ : Int) : Str := seenGo at_ l (t.1.getD at_.toNat [])
def flushV (d : Dsk) : Dsk := if rdV d = true then dskOf d.1 (comes d.2.2.2.2 (drvOf d)) [] else zeroD
def putD (d : Dsk) (p : Put) : Dsk := if rdV d = true ∧ putV p = true then dskOf d.1 (putU d.1 d.2.2.2.2 (drvOf d)) (putM d.1 d.2.2.2.2 p) else zeroD
theorem crashV_ok {d : Dsk} {k : Int} (h : rdV d = true) (h2 : 0 ≤ k) : crashV d k = dskOf d.1 (comes (keepB k.toNat d.2.2.2.2) (drvOf d)) [] := by unfold crashV; rw [if_pos ⟨h, h2⟩]
theorem crashV_bad {d : Dsk} {k : Int} (h : ¬ rdV d = true) : crashV d k = zeroD := by unfold crashV; rw [if_neg (fun h' => h h'.1)]
theorem crashV_neg {d : Dsk} {k : Int} (h : ¬ 0 ≤ k) : crashV d k = zeroD := by unfold crashV; rw [if_neg (fun h' => h h'.2)]
theorem flushV_ok {d : Dsk} (h : rdV d = true) : flushV d = dskOf d.1 (comes d.2.2.2.2 (drvOf d)) [] := by unfold flushV; rw [if_pos h]
theorem flushV_bad {d : Dsk} (h : ¬ rdV d = true) : flushV d = zeroD := by unfold flushV; rw [if_neg h]
theorem putD_ok {d : Dsk} {p : Put} (h : rdV d = true) (h2 : putV p = true) : putD d p = dskOf d.1 (putU d.1 d.2.2.2.2 (drvOf d)) (putM d.1 d.2.2.2.2 p) := by unfold putD; rw [if_pos ⟨h, h2⟩]
theorem putD_bad {d : Dsk} {p : Put} (h : ¬ rdV d = true) : putD d p = zeroD := by unfold putD; rw [if_neg (fun h' => h h'.1)]
theorem putD_no {d : Dsk} {p : Put} (h : ¬ putV p = true) : putD d p = zeroD := by unfold putD; rw [if_neg (fun h' => h h'.2)]
end Go.Sx
