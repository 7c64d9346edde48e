/- The exact laws of the model: plain law. -/
import Derived.Test.YtoedlonlndafmaaMPy
import Derived.Test.YtoedlonlndafmaaMPx
import Derived.Test.YtoedlonlndafmaaMPl
set_option linter.all false
namespace Go.Sx
open Go
theorem szGoS_mk : ∀ {l : List Shf} {k left : Int}, 0 ≤ left → 0 ≤ szGoS l left → mkN k l ≤ k + l.length + left := by
  intro l
  induction l with
  | nil => intro k left h _; simp only [mkN, List.length_nil]; omega
  | cons a r ih =>
    intro k left h0 h
    simp only [szGoS] at h
    split at h
    · omega
    · rename_i h2
      have h3 := ih (k := k + 1 + a.2.length) (left := szSh a left) (by omega) h
      have h4 : szSh a left ≤ left - a.2.length := by
        unfold szSh szL at h2 ⊢
        split
        · rename_i h5; rw [if_pos h5] at h2; omega
        · rename_i h5
          rw [if_neg h5] at h2
          split
          · rename_i h6; rw [if_pos h6] at h2; omega
          · rename_i h6
            have := szT_bd (l := a.2) (left := left - a.1.length - a.2.length) (by omega)
            omega
      simp only [mkN, List.length_cons]
      push_cast
      omega
theorem szM_mk {m : List Shf} (h : 0 ≤ szM m 1048576) : mkN 1 m ≤ 1099511627776 := by
  have hs := szM_small h
  unfold szM at h
  split at h
  · omega
  · rename_i h2
    have := szGoS_mk (k := 1) (l := m) (by omega) h
    have := hs.1
    omega
theorem fit_mk : ∀ {l : List Shf} {k : Int}, (∀ s ∈ l, s.2.length ≤ 3) → mkN k l ≤ k + 4 * l.length := by
  intro l
  induction l with
  | nil => intro k _; simp only [mkN, List.length_nil]; omega
  | cons a r ih =>
    intro k h
    have := ih (k := k + 1 + a.2.length) (fun s hs => h s (List.mem_cons_of_mem _ hs))
    have := h a List.mem_cons_self
    simp only [mkN, List.length_cons]
    push_cast
    omega
theorem fit_mk1 {l : List Shf} (h : Fit l) : mkN 1 l ≤ 1099511627776 := by
  have := fit_mk (k := 1) h.2
  have := h.1
  omega
theorem mok_fit {m : List Shf} (h : mokV m = true) : Fit m := by
  rw [mok_iff] at h
  exact ⟨by omega, fun s hs => by rw [(h.2.2 s hs).2.1]; exact Nat.le_refl _⟩
theorem fit_nil : Fit [] := ⟨Nat.zero_le _, fun s h => by cases h⟩
theorem dropV_fit {m : List Shf} {name : Str} : Fit (dropV m name).1 := by
  unfold dropV
  split
  · exact fit_nil
  · rename_i hm
    have hf := mok_fit (m := m) (by simpa using hm)
    split
    · exact hf
    · refine ⟨?_, fun s hs => ?_⟩
      · have := hf.1
        simp only [List.length_append, List.length_take, List.length_drop]; omega
      · rcases List.mem_append.1 hs with h | h
        · exact hf.2 s (List.mem_of_mem_take h)
        · exact hf.2 s (List.mem_of_mem_drop h)
theorem makeV_fit {m : List Shf} {name : Str} : Fit (makeV m name).1 := by
  unfold makeV
  split
  · exact fit_nil
  · rename_i hm
    have hm' : mokV m = true := by simpa using hm
    have hf := mok_fit hm'
    have h4 := mok_len4 hm'
    simp only
    split
    · refine ⟨by simp only [List.length_append, List.length_cons, List.length_nil]; omega, fun s hs => ?_⟩
      rcases List.mem_append.1 hs with h | h
      · exact hf.2 s h
      · rw [List.mem_singleton.1 h]; exact Nat.le_refl _
    · exact hf
theorem writeV_fit {m : List Shf} {name text : Str} {block : Int} : Fit (writeV m name block text).1 := by
  unfold writeV
  split
  · exact fit_nil
  · rename_i hm
    have hf := mok_fit (m := m) (by simpa using hm)
    split
    · exact hf
    · split
      · exact hf
      · refine ⟨by rw [List.length_set]; exact hf.1, fun s hs => ?_⟩
        rcases List.mem_or_eq_of_mem_set hs with h | h
        · exact hf.2 s h
        · rw [h]; simp only [List.length_set, List.getD_eq_getElem?_getD]
          cases hg : m[(findV m name).toNat]? with
          | none => exact Nat.zero_le _
          | some y => exact hf.2 y (List.mem_of_getElem? hg)
end Go.Sx
