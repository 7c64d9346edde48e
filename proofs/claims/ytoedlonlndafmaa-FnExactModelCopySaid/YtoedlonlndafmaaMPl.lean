/- The laws of the model's functions: plain law. -/
import Derived.Test.YtoedlonlndafmaaMPi
set_option linter.all false
namespace Go.Sx
open Go
theorem names_app {m : List Shf} {s : Shf} : names (m ++ [s]) = names m ++ [s.1] := by simp [names]
theorem find_in {m : List Shf} {name : Str} : 0 ≤ findV m name ↔ name ∈ names m := by
  have := @findGo_no name m 0
  unfold findV
  constructor
  · intro h
    apply Decidable.byContradiction
    intro h2
    have := this.2 h2
    omega
  · intro h
    apply Decidable.byContradiction
    intro h2
    exact this.1 (by omega) h
theorem mok_iff {m : List Shf} : mokV m = true ↔ m.length ≤ 4 ∧ (names m).Nodup ∧ ∀ s ∈ m, nameV s.1 = true ∧ s.2.length = 3 ∧ shortV s.2 = true := by
  constructor
  · intro h
    refine ⟨mok_len4 h, mok_nodup h, ?_⟩
    simp only [mokV, Bool.and_eq_true] at h
    exact mokGo_at h.2
  · rintro ⟨h1, h2, h3⟩
    simp only [mokV, Bool.and_eq_true, decide_eq_true_eq, mokGo_iff, Nat.zero_add]
    exact ⟨h1, fun j hj => ⟨(h3 _ (List.getElem_mem hj)).1, (h3 _ (List.getElem_mem hj)).2.1, find_nodup h2 hj, (h3 _ (List.getElem_mem hj)).2.2⟩⟩
theorem mok_app {m : List Shf} {name : Str} {l : List Str} (hm : mokV m = true) (hn : nameV name = true) (hf : ¬ 0 ≤ findV m name) (h4 : ¬ m.length = 4) (hl : l.length = 3) (hs : shortV l = true) : mokV (m ++ [(name, l)]) = true := by
  rw [mok_iff] at hm ⊢
  refine ⟨by simp only [List.length_append, List.length_cons, List.length_nil]; omega, ?_, fun s hs' => ?_⟩
  · rw [names_app, List.nodup_append]
    refine ⟨hm.2.1, by simp, fun a ha b hb e => ?_⟩
    simp only [List.mem_singleton] at hb
    exact hf (find_in.2 (by rw [← hb, ← e]; exact ha))
  · rcases List.mem_append.1 hs' with h | h
    · exact hm.2.2 s h
    · rw [List.mem_singleton.1 h]; exact ⟨hn, hl, hs⟩
theorem findGo_app {name : Str} {s : Shf} : ∀ {l : List Shf} {i : Nat}, name ∉ names l → s.1 = name → findGo name (l ++ [s]) i = ((i + l.length : Nat) : Int) := by
  intro l
  induction l with
  | nil => intro i _ h; simp [findGo, h]
  | cons a r ih =>
    intro i h hs
    simp only [names, List.map_cons, List.mem_cons, not_or] at h
    simp only [List.cons_append, findGo]
    rw [if_neg (fun e => h.1 e.symm), ih h.2 hs]
    simp only [List.length_cons]; congr 1; omega
theorem find_app {m : List Shf} {name : Str} {l : List Str} (hf : ¬ 0 ≤ findV m name) : findV (m ++ [(name, l)]) name = m.length := by
  unfold findV
  rw [findGo_app (fun h => hf (find_in.2 h)) rfl]; simp
theorem addV_zero {m : List Shf} {name : Str} (h : addV m name = 0) : nameV name = true ∧ ¬ 0 ≤ findV m name ∧ ¬ m.length = 4 := by
  unfold addV at h
  split at h
  · cases h
  · rename_i h1
    split at h
    · cases h
    · rename_i h2
      exact ⟨by simpa using fun e => h1 (.inl e), fun e => h1 (.inr e), h2⟩
theorem makeV_zero {m : List Shf} {name : Str} (h : (makeV m name).2 = 0) : mokV m = true ∧ addV m name = 0 ∧ (makeV m name).1 = m ++ [(name, [[], [], []])] := by
  unfold makeV at h ⊢
  split at h
  · cases h
  · rename_i hm
    rw [if_neg hm]
    have h : addV m name = 0 := h
    exact ⟨by simpa using hm, h, by simp [h]⟩
theorem readV_ok {m : List Shf} {name : Str} {block : Int} (hm : mokV m = true) (hb : blkC m name block = 0) : readV m name block = (((m.getD (findV m name).toNat ([], [])).2).getD block.toNat [], 0) := by
  unfold readV; rw [if_neg (by simp [hm]), if_pos hb]
theorem readV_no {m : List Shf} {name : Str} {block : Int} (hm : mokV m = true) (hb : ¬ blkC m name block = 0) : readV m name block = ([], blkC m name block) := by
  unfold readV; rw [if_neg (by simp [hm]), if_neg hb]
theorem getD_last {m : List Shf} {s : Shf} {d : Shf} : (m ++ [s]).getD m.length d = s := by
  rw [List.getD_eq_getElem?_getD, List.getElem?_append_right (Nat.le_refl _)]; simp
theorem law_drop {m : List Shf} {name : Str} (h : (makeV m name).2 = 0) :
    dropV (makeV m name).1 name = (m, 0) ∧ readV m name 0 = ([], 2) ∧ readV (makeV m name).1 name 2 = ([], 0) := by
  obtain ⟨hm, ha, he⟩ := makeV_zero h
  obtain ⟨hn, hf, h4⟩ := addV_zero ha
  rw [he]
  have hg := mok_app (l := [[], [], []]) hm hn hf h4 rfl (by decide)
  have hfa := find_app (l := [[], [], []]) hf
  refine ⟨?_, ?_, ?_⟩
  · rw [dropV_ok hg (by rw [hfa]; omega), hfa]
    simp
  · rw [readV_no hm (by rw [blkC_no hf]; decide), blkC_no hf]
  · have hb := blkC_in (m := m ++ [(name, [[], [], []])]) (name := name) (block := 2) (by rw [hfa]; omega) ⟨by decide, by decide⟩
    rw [readV_ok hg hb, hfa, Int.toNat_natCast, getD_last]
    rfl
theorem findGo_names {x : Str} : ∀ {a b : List Shf} {i : Nat}, names a = names b → findGo x a i = findGo x b i := by
  intro a
  induction a with
  | nil =>
    intro b i h
    cases b with
    | nil => rfl
    | cons s r => cases h
  | cons s r ih =>
    intro b i h
    cases b with
    | nil => cases h
    | cons t r' =>
      simp only [names, List.map_cons, List.cons.injEq] at h
      simp only [findGo]
      rw [h.1, ih h.2]
theorem names_set {m : List Shf} {k : Nat} (hk : k < m.length) {l : List Str} : names (m.set k (m[k].1, l)) = names m := by
  unfold names
  rw [List.map_set]
  simp only
  have : (m.map (·.1))[k]'(by simpa using hk) = m[k].1 := by simp
  rw [← this]
  exact List.set_getElem_self _
theorem mok_set {m : List Shf} {k : Nat} (hm : mokV m = true) (hk : k < m.length) {l : List Str} (hl : l.length = 3) (hs : shortV l = true) : mokV (m.set k (m[k].1, l)) = true := by
  rw [mok_iff] at hm ⊢
  refine ⟨by rw [List.length_set]; exact hm.1, by rw [names_set hk]; exact hm.2.1, fun s h => ?_⟩
  rcases List.mem_or_eq_of_mem_set h with h | h
  · exact hm.2.2 s h
  · rw [h]; exact ⟨(hm.2.2 _ (List.getElem_mem hk)).1, hl, hs⟩
theorem read_mem {a : List Shf} (hm : mokV a = true) {s : Shf} (hs : s ∈ a) {j : Int} (h0 : 0 ≤ j) (h3 : j < 3) : readV a s.1 j = (s.2.getD j.toNat [], 0) := by
  obtain ⟨i, hi, rfl⟩ := List.getElem_of_mem hs
  have hf := find_nodup (mok_nodup hm) hi
  rw [readV_ok hm (blkC_in (by rw [hf]; omega) ⟨h0, h3⟩), hf, Int.toNat_natCast, List.getD_eq_getElem?_getD (i := i), List.getElem?_eq_getElem hi]
  rfl
theorem short_at {m : List Shf} (hm : mokV m = true) {s : Shf} (hs : s ∈ m) : s.2.length = 3 ∧ shortV s.2 = true := by
  rw [mok_iff] at hm; exact (hm.2.2 s hs).2
theorem short_set {l : List Str} {i : Nat} {t : Str} (h : shortV l = true) (ht : t.length ≤ 9) : shortV (l.set i t) = true := by
  simp only [shortV, List.all_eq_true, decide_eq_true_eq] at h ⊢
  intro x hx
  rcases List.mem_or_eq_of_mem_set hx with h' | h'
  · exact h x h'
  · rw [h']; exact ht
theorem writeV_zero {m : List Shf} {name text : Str} {block : Int} (h : (writeV m name block text).2 = 0) : mokV m = true ∧ 0 ≤ findV m name ∧ (0 ≤ block ∧ block < 3) ∧ text.length ≤ 9 ∧
    ∃ hk : (findV m name).toNat < m.length, m[(findV m name).toNat].1 = name ∧ (writeV m name block text).1 = m.set (findV m name).toNat (m[(findV m name).toNat].1, m[(findV m name).toNat].2.set block.toNat text) := by
  have hm : mokV m = true := by
    rcases Bool.eq_false_or_eq_true (mokV m) with hb | hb
    · exact hb
    · unfold writeV at h; rw [if_pos hb] at h; cases h
  have hf : 0 ≤ findV m name := by
    apply Decidable.byContradiction
    intro hn
    unfold writeV at h; rw [if_neg (by simp [hm]), if_pos (by omega)] at h; cases h
  have hb : inV block 0 2 = true := by
    rcases Bool.eq_false_or_eq_true (inV block 0 2) with hb | hb
    · exact hb
    · rw [writeV_out hm hf hb] at h; cases h
  have h9 : ¬ 9 < text.length := fun h9 => by rw [writeV_long hm hf h9] at h; cases h
  obtain ⟨hk, hn⟩ := find_name hf
  have hb' := inV_bd hb
  refine ⟨hm, hf, ⟨hb'.1, by omega⟩, by omega, hk, hn, ?_⟩
  rw [writeV_ok hm hf hb h9, List.getD_eq_getElem?_getD, List.getElem?_eq_getElem hk]
  rfl
theorem law_read {m : List Shf} {name text : Str} {block : Int} (h : (writeV m name block text).2 = 0) : mokV (writeV m name block text).1 = true ∧
    ∀ (k : Nat) (hk : k < m.length) (j : Int), 0 ≤ j → j < 3 → (readV (writeV m name block text).1 m[k].1 j).2 = 0 ∧
      (readV (writeV m name block text).1 m[k].1 j).1 = if m[k].1 = name ∧ j = block then text else (readV m m[k].1 j).1 := by
  obtain ⟨hm, hf, hb, h9, hk0, hn, he⟩ := writeV_zero h
  have hs := short_at hm (List.getElem_mem hk0)
  have hg : mokV (m.set (findV m name).toNat (m[(findV m name).toNat].1, m[(findV m name).toNat].2.set block.toNat text)) = true :=
    mok_set hm hk0 (by rw [List.length_set]; exact hs.1) (short_set hs.2 h9)
  rw [he]
  refine ⟨hg, fun k hk j h0 h3 => ?_⟩
  by_cases hkk : k = (findV m name).toNat
  · subst hkk
    have hmem : (m[(findV m name).toNat].1, m[(findV m name).toNat].2.set block.toNat text) ∈ m.set (findV m name).toNat (m[(findV m name).toNat].1, m[(findV m name).toNat].2.set block.toNat text) := List.mem_set hk0 _
    have hr := read_mem hg hmem h0 h3
    have hr2 := read_mem hm (List.getElem_mem hk0) h0 h3
    simp only at hr
    rw [hr, hr2]
    refine ⟨rfl, ?_⟩
    simp only [hn, true_and]
    rw [List.getD_eq_getElem?_getD, List.getElem?_set]
    by_cases hj : j = block
    · subst hj
      have : j.toNat < m[(findV m name).toNat].2.length := by rw [hs.1]; omega
      simp [this]
    · have : ¬ block.toNat = j.toNat := by omega
      simp [hj, this]
  · have hmem : m[k] ∈ m.set (findV m name).toNat (m[(findV m name).toNat].1, m[(findV m name).toNat].2.set block.toNat text) := by
      rw [List.mem_iff_getElem]
      refine ⟨k, by rw [List.length_set]; exact hk, ?_⟩
      rw [List.getElem_set]; simp [Ne.symm hkk]
    have hr := read_mem hg hmem h0 h3
    have hr2 := read_mem hm (List.getElem_mem hk) h0 h3
    rw [hr, hr2]
    refine ⟨rfl, ?_⟩
    have hne : ¬ m[k].1 = name := fun e => by
      have h1 := find_nodup (mok_nodup hm) hk
      rw [e] at h1
      exact hkk (by rw [h1]; simp)
    simp [hne]
theorem dropV_zero {m : List Shf} {name : Str} (h : (dropV m name).2 = 0) : mokV m = true ∧ 0 ≤ findV m name ∧ (dropV m name).1 = m.take (findV m name).toNat ++ m.drop ((findV m name).toNat + 1) := by
  have hm : mokV m = true := by
    rcases Bool.eq_false_or_eq_true (mokV m) with hb | hb
    · exact hb
    · unfold dropV at h; rw [if_pos hb] at h; cases h
  have hf : 0 ≤ findV m name := by
    apply Decidable.byContradiction
    intro hn
    unfold dropV at h; rw [if_neg (by simp [hm]), if_pos (by omega)] at h; cases h
  exact ⟨hm, hf, by rw [dropV_ok hm hf]⟩
theorem law_less {m : List Shf} {name : Str} (h : (dropV m name).2 = 0) : mokV (dropV m name).1 = true ∧ (dropV m name).1.length + 1 = m.length ∧
    ∀ (k : Nat) (hk : k < m.length) (j : Int), 0 ≤ j → j < 3 → ¬ m[k].1 = name → readV (dropV m name).1 m[k].1 j = readV m m[k].1 j := by
  obtain ⟨hm, hf, he⟩ := dropV_zero h
  obtain ⟨hk0, hn⟩ := find_name hf
  rw [he]
  have hlen : (m.take (findV m name).toNat ++ m.drop ((findV m name).toNat + 1)).length + 1 = m.length := by
    rw [List.length_append, List.length_take, List.length_drop]; omega
  have hsub : (m.take (findV m name).toNat ++ m.drop ((findV m name).toNat + 1)).Sublist m := by
    have h1 : (m.take (findV m name).toNat ++ m.drop ((findV m name).toNat + 1)).Sublist (m.take (findV m name).toNat ++ m.drop (findV m name).toNat) :=
      List.Sublist.append (List.Sublist.refl _) (by rw [← List.drop_drop]; exact List.drop_sublist _ _)
    rwa [List.take_append_drop] at h1
  have hg : mokV (m.take (findV m name).toNat ++ m.drop ((findV m name).toNat + 1)) = true := by
    rw [mok_iff] at hm ⊢
    refine ⟨by omega, List.Nodup.sublist (hsub.map _) hm.2.1, fun s hs => hm.2.2 s (hsub.subset hs)⟩
  refine ⟨hg, hlen, fun k hk j h0 h3 hne => ?_⟩
  have hkk : k ≠ (findV m name).toNat := fun e => hne (by subst e; exact hn)
  have hmem : m[k] ∈ m.take (findV m name).toNat ++ m.drop ((findV m name).toNat + 1) := by
    rw [List.mem_append]
    by_cases hlt : k < (findV m name).toNat
    · left
      rw [List.mem_iff_getElem]
      exact ⟨k, by rw [List.length_take]; omega, by rw [List.getElem_take]⟩
    · right
      rw [List.mem_iff_getElem]
      refine ⟨k - ((findV m name).toNat + 1), by rw [List.length_drop]; omega, ?_⟩
      rw [List.getElem_drop]
      congr 1; omega
  rw [read_mem hg hmem h0 h3, read_mem hm (List.getElem_mem hk) h0 h3]
theorem copyV_zero {m : List Shf} {frm name : Str} (h : (copyV m frm name).2 = 0) : mokV m = true ∧ 0 ≤ findV m frm ∧ addV m name = 0 ∧ ∃ hk : (findV m frm).toNat < m.length, m[(findV m frm).toNat].1 = frm ∧ (copyV m frm name).1 = m ++ [(name, m[(findV m frm).toNat].2)] := by
  have hm : mokV m = true := by
    rcases Bool.eq_false_or_eq_true (mokV m) with hb | hb
    · exact hb
    · unfold copyV at h; rw [if_pos hb] at h; cases h
  have hf : 0 ≤ findV m frm := by
    apply Decidable.byContradiction
    intro hn
    unfold copyV at h; rw [if_neg (by simp [hm]), if_pos (by omega)] at h; cases h
  have ha : addV m name = 0 := by
    apply Decidable.byContradiction
    intro hn
    rw [copyV_no hm hf hn] at h; exact hn h
  obtain ⟨hk, hn⟩ := find_name hf
  refine ⟨hm, hf, ha, hk, hn, ?_⟩
  rw [copyV_ok hm hf ha, List.getD_eq_getElem?_getD, List.getElem?_eq_getElem hk]
  rfl
theorem law_copy {m : List Shf} {frm name other : Str} (h : (copyV m frm name).2 = 0) (ho : other.length ≤ 9) : mokV (copyV m frm name).1 = true ∧ (writeV (copyV m frm name).1 frm 0 other).2 = 0 ∧
    ∀ j : Int, 0 ≤ j → j < 3 → ∃ t, readV (copyV m frm name).1 frm j = (t, 0) ∧ readV (copyV m frm name).1 name j = (t, 0) ∧ readV (writeV (copyV m frm name).1 frm 0 other).1 name j = (t, 0) := by
  obtain ⟨hm, hf, ha, hk, hn, he⟩ := copyV_zero h
  obtain ⟨hnm, hnf, h4⟩ := addV_zero ha
  have hs := short_at hm (List.getElem_mem hk)
  have hg := mok_app hm hnm hnf h4 hs.1 hs.2
  rw [he]
  have hmem1 : m[(findV m frm).toNat] ∈ m ++ [(name, m[(findV m frm).toNat].2)] := List.mem_append_left _ (List.getElem_mem hk)
  have hmem2 : (name, m[(findV m frm).toNat].2) ∈ m ++ [(name, m[(findV m frm).toNat].2)] := List.mem_append_right _ (List.mem_singleton.2 rfl)
  have hkg : (findV m frm).toNat < (m ++ [(name, m[(findV m frm).toNat].2)]).length := by simp; omega
  have hgk : (m ++ [(name, m[(findV m frm).toNat].2)])[(findV m frm).toNat] = m[(findV m frm).toNat] := List.getElem_append_left hk
  have hfg : findV (m ++ [(name, m[(findV m frm).toNat].2)]) frm = ((findV m frm).toNat : Int) := by
    have := find_nodup (mok_nodup hg) hkg
    rw [hgk, hn] at this
    exact this
  have hw : writeV (m ++ [(name, m[(findV m frm).toNat].2)]) frm 0 other = ((m ++ [(name, m[(findV m frm).toNat].2)]).set (findV m frm).toNat (m[(findV m frm).toNat].1, m[(findV m frm).toNat].2.set 0 other), 0) := by
    rw [writeV_ok hg (by rw [hfg]; omega) (by decide) (by omega), hfg, Int.toNat_natCast, List.getD_eq_getElem?_getD, List.getElem?_eq_getElem hkg]
    simp only [Option.getD_some, hgk]
    rfl
  have hx : mokV ((m ++ [(name, m[(findV m frm).toNat].2)]).set (findV m frm).toNat (m[(findV m frm).toNat].1, m[(findV m frm).toNat].2.set 0 other)) = true := by
    have := mok_set (l := m[(findV m frm).toNat].2.set 0 other) hg hkg (by rw [List.length_set]; exact hs.1) (short_set hs.2 ho)
    rwa [hgk] at this
  have hmem3 : (name, m[(findV m frm).toNat].2) ∈ (m ++ [(name, m[(findV m frm).toNat].2)]).set (findV m frm).toNat (m[(findV m frm).toNat].1, m[(findV m frm).toNat].2.set 0 other) := by
    rw [List.mem_iff_getElem]
    refine ⟨m.length, by simp, ?_⟩
    rw [List.getElem_set]
    have : ¬ (findV m frm).toNat = m.length := by omega
    simp [this]
  refine ⟨hg, by rw [hw], fun j h0 h3 => ⟨m[(findV m frm).toNat].2.getD j.toNat [], ?_, ?_, ?_⟩⟩
  · have := read_mem hg hmem1 h0 h3
    rwa [hn] at this
  · exact read_mem hg hmem2 h0 h3
  · rw [hw]; exact read_mem hx hmem3 h0 h3
end Go.Sx
