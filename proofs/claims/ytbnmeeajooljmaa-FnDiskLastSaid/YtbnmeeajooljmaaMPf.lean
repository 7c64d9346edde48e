/- Lists searched: plain law. -/
import Derived.Test.YtbnmeeajooljmaaMPu
set_option linter.all false
namespace Go.Sx
open Go
theorem drop_at {α : Type} {l : List α} {i : Nat} (h : i < l.length) : l.drop i = l[i] :: l.drop (i + 1) := by simp
def idxFGo {α : Type} (p : α → Bool) : List α → Nat → Int
  | [], _ => -1
  | s :: r, i => if p s then (i : Int) else idxFGo p r (i + 1)
def idxF {α : Type} (p : α → Bool) (l : List α) : Int := idxFGo p l 0
theorem idxF_next {α : Type} {p : α → Bool} {l : List α} {i : Nat} {v : Int} (hlt : i < l.length) (h : idxFGo p (l.drop i) i = v) (hp : p l[i] = false) : idxFGo p (l.drop (i + 1)) (i + 1) = v := by
  rw [drop_at hlt] at h; simpa [idxFGo, hp] using h
theorem idxF_hit {α : Type} {p : α → Bool} {l : List α} {i : Nat} {v : Int} (hlt : i < l.length) (h : idxFGo p (l.drop i) i = v) (hp : p l[i] = true) : v = i := by
  rw [drop_at hlt] at h; simp [idxFGo, hp] at h; exact h.symm
theorem idxF_end {α : Type} {p : α → Bool} {l : List α} {j : Nat} {v : Int} (h : idxFGo p (l.drop l.length) j = v) : v = -1 := by
  rw [List.drop_length] at h; exact h.symm
theorem idxFGo_any {α : Type} {p : α → Bool} : ∀ {l : List α} {i : Nat}, decide (0 ≤ idxFGo p l i) = l.any p := by
  intro l
  induction l with
  | nil => intro i; rfl
  | cons s r ih =>
    intro i
    simp only [idxFGo, List.any_cons]
    by_cases hp : p s = true
    · simp [hp]
    · simpa [hp] using ih
theorem idxF_any {α : Type} {p : α → Bool} {l : List α} : decide (0 ≤ idxF p l) = l.any p := idxFGo_any
end Go.Sx
