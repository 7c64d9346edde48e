/- The laws of the model's functions: plain law. -/
import Derived.Test.YtdoennebblhfbaaMPi
set_option linter.all false
namespace Go.Sx
open Go
theorem names_app {m : List Shf} {s : Shf} : names (m ++ [s]) = names m ++ [s.1] := by simp [names]
theorem find_in {m : List Shf} {name : Str} : 0 ≤ findV m name ↔ name ∈ names m := by
  have := @findGo_no name m 0
  unfold findV
  constructor
  · intro h
    apply Decidable.byContradiction
    intro h2
    have := this.2 h2
    omega
  · intro h
    apply Decidable.byContradiction
    intro h2
    exact this.1 (by omega) h
theorem mok_iff {m : List Shf} : mokV m = true ↔ m.length ≤ 4 ∧ (names m).Nodup ∧ ∀ s ∈ m, nameV s.1 = true ∧ s.2.length = 3 ∧ shortV s.2 = true := by
  constructor
  · intro h
    refine ⟨mok_len4 h, mok_nodup h, ?_⟩
    simp only [mokV, Bool.and_eq_true] at h
    exact mokGo_at h.2
  · rintro ⟨h1, h2, h3⟩
    simp only [mokV, Bool.and_eq_true, decide_eq_true_eq, mokGo_iff, Nat.zero_add]
    exact ⟨h1, fun j hj => ⟨(h3 _ (List.getElem_mem hj)).1, (h3 _ (List.getElem_mem hj)).2.1, find_nodup h2 hj, (h3 _ (List.getElem_mem hj)).2.2⟩⟩
theorem mok_app {m : List Shf} {name : Str} {l : List Str} (hm : mokV m = true) (hn : nameV name = true) (hf : ¬ 0 ≤ findV m name) (h4 : ¬ m.length = 4) (hl : l.length = 3) (hs : shortV l = true) : mokV (m ++ [(name, l)]) = true := by
  rw [mok_iff] at hm ⊢
  refine ⟨by simp only [List.length_append, List.length_cons, List.length_nil]; omega, ?_, fun s hs' => ?_⟩
  · rw [names_app, List.nodup_append]
    refine ⟨hm.2.1, by simp, fun a ha b hb e => ?_⟩
    simp only [List.mem_singleton] at hb
    exact hf (find_in.2 (by rw [← hb, ← e]; exact ha))
  · rcases List.mem_append.1 hs' with h | h
    · exact hm.2.2 s h
    · rw [List.mem_singleton.1 h]; exact ⟨hn, hl, hs⟩
theorem findGo_app {name : Str} {s : Shf} : ∀ {l : List Shf} {i : Nat}, name ∉ names l → s.1 = name → findGo name (l ++ [s]) i = ((i + l.length : Nat) : Int) := by
  intro l
  induction l with
  | nil => intro i _ h; simp [findGo, h]
  | cons a r ih =>
    intro i h hs
    simp only [names, List.map_cons, List.mem_cons, not_or] at h
    simp only [List.cons_append, findGo]
    rw [if_neg (fun e => h.1 e.symm), ih h.2 hs]
    simp only [List.length_cons]; congr 1; omega
theorem find_app {m : List Shf} {name : Str} {l : List Str} (hf : ¬ 0 ≤ findV m name) : findV (m ++ [(name, l)]) name = m.length := by
  unfold findV
  rw [findGo_app (fun h => hf (find_in.2 h)) rfl]; simp
theorem addV_zero {m : List Shf} {name : Str} (h : addV m name = 0) : nameV name = true ∧ ¬ 0 ≤ findV m name ∧ ¬ m.length = 4 := by
  unfold addV at h
  split at h
  · cases h
  · rename_i h1
    split at h
    · cases h
    · rename_i h2
      exact ⟨by simpa using fun e => h1 (.inl e), fun e => h1 (.inr e), h2⟩
theorem makeV_zero {m : List Shf} {name : Str} (h : (makeV m name).2 = 0) : mokV m = true ∧ addV m name = 0 ∧ (makeV m name).1 = m ++ [(name, [[], [], []])] := by
  unfold makeV at h ⊢
  split at h
  · cases h
  · rename_i hm
    rw [if_neg hm]
    have h : addV m name = 0 := h
    exact ⟨by simpa using hm, h, by simp [h]⟩
theorem readV_ok {m : List Shf} {name : Str} {block : Int} (hm : mokV m = true) (hb : blkC m name block = 0) : readV m name block = (((m.getD (findV m name).toNat ([], [])).2).getD block.toNat [], 0) := by
  unfold readV; rw [if_neg (by simp [hm]), if_pos hb]
theorem readV_no {m : List Shf} {name : Str} {block : Int} (hm : mokV m = true) (hb : ¬ blkC m name block = 0) : readV m name block = ([], blkC m name block) := by
  unfold readV; rw [if_neg (by simp [hm]), if_neg hb]
theorem getD_last {m : List Shf} {s : Shf} {d : Shf} : (m ++ [s]).getD m.length d = s := by
  rw [List.getD_eq_getElem?_getD, List.getElem?_append_right (Nat.le_refl _)]; simp
theorem law_drop {m : List Shf} {name : Str} (h : (makeV m name).2 = 0) :
    dropV (makeV m name).1 name = (m, 0) ∧ readV m name 0 = ([], 2) ∧ readV (makeV m name).1 name 2 = ([], 0) := by
  obtain ⟨hm, ha, he⟩ := makeV_zero h
  obtain ⟨hn, hf, h4⟩ := addV_zero ha
  rw [he]
  have hg := mok_app (l := [[], [], []]) hm hn hf h4 rfl (by decide)
  have hfa := find_app (l := [[], [], []]) hf
  refine ⟨?_, ?_, ?_⟩
  · rw [dropV_ok hg (by rw [hfa]; omega), hfa]
    simp
  · rw [readV_no hm (by rw [blkC_no hf]; decide), blkC_no hf]
  · have hb := blkC_in (m := m ++ [(name, [[], [], []])]) (name := name) (block := 2) (by rw [hfa]; omega) ⟨by decide, by decide⟩
    rw [readV_ok hg hb, hfa, Int.toNat_natCast, getD_last]
    rfl
end Go.Sx
