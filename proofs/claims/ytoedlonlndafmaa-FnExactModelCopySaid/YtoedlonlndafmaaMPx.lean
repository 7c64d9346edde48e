/- Sizes, copies, marks of models: plain law. -/
import Derived.Test.YtoedlonlndafmaaMPi
set_option linter.all false
namespace Go.Sx
open Go
def szT : List Str → Int → Int
  | [], left => left
  | s :: r, left => if left - s.length < 0 then -1 else szT r (left - s.length)
def szL (l : List Str) (left : Int) : Int := if left - l.length < 0 then -1 else szT l (left - l.length)
def szSh (s : Shf) (left : Int) : Int := if left - s.1.length < 0 then -1 else szL s.2 (left - s.1.length)
def szGoS : List Shf → Int → Int
  | [], left => left
  | s :: r, left => if szSh s left < 0 then -1 else szGoS r (szSh s left)
def szM (m : List Shf) (left : Int) : Int := if left - m.length < 0 then -1 else szGoS m (left - m.length)
theorem szT_bd : ∀ {l : List Str} {left : Int}, 0 ≤ left → -1 ≤ szT l left ∧ szT l left ≤ left := by
  intro l
  induction l with
  | nil => intro left h; exact ⟨by simp only [szT]; omega, Int.le_refl _⟩
  | cons s r ih =>
    intro left h
    simp only [szT]
    split
    · omega
    · rename_i h2
      have := ih (left := left - s.length) (by omega)
      omega
theorem szL_bd {l : List Str} {left : Int} (h : 0 ≤ left) : -1 ≤ szL l left ∧ szL l left ≤ left := by
  unfold szL
  split
  · omega
  · have := szT_bd (l := l) (left := left - l.length) (by omega)
    omega
theorem szSh_bd {s : Shf} {left : Int} (h : 0 ≤ left) : -1 ≤ szSh s left ∧ szSh s left ≤ left := by
  unfold szSh
  split
  · omega
  · have := szL_bd (l := s.2) (left := left - s.1.length) (by omega)
    omega
theorem szGoS_bd : ∀ {l : List Shf} {left : Int}, 0 ≤ left → -1 ≤ szGoS l left ∧ szGoS l left ≤ left := by
  intro l
  induction l with
  | nil => intro left h; exact ⟨by simp only [szGoS]; omega, Int.le_refl _⟩
  | cons s r ih =>
    intro left h
    simp only [szGoS]
    split
    · omega
    · rename_i h2
      have := ih (left := szSh s left) (by omega)
      have := szSh_bd (s := s) h
      omega
theorem szM_bd {m : List Shf} {left : Int} (h : 0 ≤ left) : -1 ≤ szM m left ∧ szM m left ≤ left := by
  unfold szM
  split
  · omega
  · have := szGoS_bd (l := m) (left := left - m.length) (by omega)
    omega
theorem szL_neg {l : List Str} {left : Int} (h : 0 ≤ left) (h2 : szL l left < 0) : szL l left = -1 := by have := szL_bd (l := l) h; omega
theorem szM_neg {l : List Shf} {left : Int} (h : 0 ≤ left) (h2 : szM l left < 0) : szM l left = -1 := by have := szM_bd (m := l) h; omega
theorem szT_next {l : List Str} {i : Nat} {left v : Int} (hlt : i < l.length) (h : szT (l.drop i) left = v) (h0 : ¬ left - l[i].length < 0) : szT (l.drop (i + 1)) (left - l[i].length) = v := by
  rw [drop_at hlt] at h; simp only [szT] at h; rwa [if_neg h0] at h
theorem szT_hit {l : List Str} {i : Nat} {left v : Int} (hlt : i < l.length) (h : szT (l.drop i) left = v) (h0 : left - l[i].length < 0) : v = -1 := by
  rw [drop_at hlt] at h; simp only [szT] at h; rw [if_pos h0] at h; exact h.symm
theorem szT_end {l : List Str} {left v : Int} (h : szT (l.drop l.length) left = v) : v = left := by
  rw [List.drop_length] at h; exact h.symm
theorem szS_next {l : List Shf} {i : Nat} {left v : Int} (hlt : i < l.length) (h : szGoS (l.drop i) left = v) (h0 : ¬ szSh l[i] left < 0) : szGoS (l.drop (i + 1)) (szSh l[i] left) = v := by
  rw [drop_at hlt] at h; simp only [szGoS] at h; rwa [if_neg h0] at h
theorem szS_hit {l : List Shf} {i : Nat} {left v : Int} (hlt : i < l.length) (h : szGoS (l.drop i) left = v) (h0 : szSh l[i] left < 0) : v = -1 := by
  rw [drop_at hlt] at h; simp only [szGoS] at h; rw [if_pos h0] at h; exact h.symm
theorem szS_end {l : List Shf} {left v : Int} (h : szGoS (l.drop l.length) left = v) : v = left := by
  rw [List.drop_length] at h; exact h.symm
/-- a model within the bound that the laws set -/
def SmallM (m : List Shf) : Prop := m.length ≤ 1048576 ∧ ∀ s ∈ m, s.2.length ≤ 1048576
theorem szGoS_small : ∀ {l : List Shf} {left : Int}, 0 ≤ left → 0 ≤ szGoS l left → ∀ s ∈ l, (s.2.length : Int) ≤ left := by
  intro l
  induction l with
  | nil => intro left _ _ s hs; cases hs
  | cons a r ih =>
    intro left h0 h s hs
    simp only [szGoS] at h
    split at h
    · omega
    · rename_i h2
      have hb := szSh_bd (s := a) h0
      rcases List.mem_cons.1 hs with rfl | hs
      · unfold szSh szL at h2
        split at h2
        · omega
        · split at h2
          · omega
          · omega
      · have := ih (left := szSh a left) (by omega) h s hs
        omega
theorem szM_small {m : List Shf} (h : 0 ≤ szM m 1048576) : SmallM m := by
  unfold szM at h
  split at h
  · omega
  · rename_i h2
    refine ⟨by omega, fun s hs => ?_⟩
    have := szGoS_small (by omega) h s hs
    omega
def cpL {α : Type} (l : List α) (d : α) (i : Nat) : List α := l.take i ++ List.replicate (l.length - i) d
theorem cpL_next {α : Type} {l : List α} {d : α} {i : Nat} (hlt : i < l.length) : (cpL l d i).set i l[i] = cpL l d (i + 1) := by
  unfold cpL
  rw [List.set_append_right _ _ (by simp; omega)]
  have h1 : i - (l.take i).length = 0 := by simp; omega
  rw [h1, show l.length - i = (l.length - (i + 1)) + 1 by omega, List.replicate_succ, List.set_cons_zero, List.take_succ_eq_append_getElem hlt, List.append_assoc]
  rfl
theorem cpL_len {α : Type} {l : List α} {d : α} {i : Nat} (h : i ≤ l.length) : (cpL l d i).length = l.length := by
  unfold cpL; simp; omega
theorem cpL_end {α : Type} {l : List α} {d : α} : cpL l d l.length = l := by unfold cpL; simp
theorem cpL_zero {α : Type} {l : List α} {d : α} : cpL l d 0 = List.replicate l.length d := by unfold cpL; simp
/-- a number's digits -/
def digGo : Nat → Nat → Str → Str
  | 0, _, out => out
  | n + 1, k, out => if k = 0 then out else digGo n (k / 10) (UInt8.ofNat (48 + k % 10) :: out)
def markV (k : Int) : Str := if k ≤ 0 then [109, 48] else 109 :: digGo k.toNat k.toNat []
def markL : Int → List Str → List Str
  | _, [] => []
  | k, _ :: r => markV k :: markL (k + 1) r
def markS : Int → List Shf → List Shf
  | _, [] => []
  | k, s :: r => (markV k, markL (k + 1) s.2) :: markS (k + 1 + s.2.length) r
def markN : Int → List Shf → Int
  | k, [] => k
  | k, s :: r => markN (k + 1 + s.2.length) r
end Go.Sx
