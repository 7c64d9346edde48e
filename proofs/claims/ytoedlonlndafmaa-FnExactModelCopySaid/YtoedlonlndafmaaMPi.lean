/- What the implementation computes: plain law. -/
import Derived.Test.YtoedlonlndafmaaMPd
set_option linter.all false
namespace Go.Sx
open Go
def idxGo : List Shf → Nat → List (Str × Int) → List (Str × Int)
  | [], _, acc => acc
  | s :: r, i, acc => idxGo r (i + 1) (mset .str acc s.1 (i : Int))
def idxV (m : List Shf) : List (Str × Int) := idxGo m 0 []
theorem idx_next {m : List Shf} {i : Nat} {acc v : List (Str × Int)} (hlt : i < m.length) (h : idxGo (m.drop i) i acc = v) : idxGo (m.drop (i + 1)) (i + 1) (mset .str acc m[i].1 (i : Int)) = v := by
  rw [drop_at hlt] at h; exact h
theorem idx_end {m : List Shf} {j : Nat} {acc v : List (Str × Int)} (h : idxGo (m.drop m.length) j acc = v) : acc = v := by
  rw [List.drop_length] at h; exact h
theorem mget_mset {V : Type} {l : List (Str × V)} {a x : Str} {v : V} : mget .str (mset .str l a v) x = if x = a then some v else mget .str l x := by
  induction l with
  | nil =>
    simp only [mset, mget, keyEq]
    by_cases h : x = a
    · simp [h]
    · simp [h]
  | cons p l ih =>
    simp only [mset]
    cases hb : keyEq .str a p.1 with
    | true =>
      have hb' : a = p.1 := by simpa [keyEq] using hb
      simp only [cond_true, mget, keyEq]
      by_cases h : x = a
      · simp [h]
      · have : ¬ x = p.1 := by rw [← hb']; exact h
        simp [h, this]
    | false =>
      have hb' : ¬ a = p.1 := by simpa [keyEq] using hb
      simp only [cond_false, mget, ih, keyEq]
      by_cases h : x = a
      · subst h; simp [hb']
      · simp [h]
theorem mset_len {V : Type} {l : List (Str × V)} {a : Str} {v : V} : (mset .str l a v).length = if (mget .str l a).isSome then l.length else l.length + 1 := by
  induction l with
  | nil => rfl
  | cons p l ih =>
    rcases Bool.eq_false_or_eq_true (keyEq .str a p.1) with hb | hb
    · simp only [mset, mget, hb, cond_true, Option.isSome_some, if_true]; rfl
    · simp only [mset, mget, hb, cond_false, List.length_cons, ih]
      split <;> rfl
def names (m : List Shf) : List Str := m.map (·.1)
theorem idx_not {x : Str} : ∀ {l : List Shf} {i : Nat} {acc : List (Str × Int)}, x ∉ names l → mget .str (idxGo l i acc) x = mget .str acc x := by
  intro l
  induction l with
  | nil => intro i acc _; rfl
  | cons s r ih =>
    intro i acc h
    simp only [names, List.map_cons, List.mem_cons, not_or] at h
    simp only [idxGo]
    rw [ih h.2, mget_mset, if_neg h.1]
theorem idx_at {x : Str} : ∀ {l : List Shf} {i j : Nat} {acc : List (Str × Int)} (hj : j < l.length), (names l).Nodup → l[j].1 = x → mget .str (idxGo l i acc) x = some ((i + j : Nat) : Int) := by
  intro l
  induction l with
  | nil => intro i j acc hj; cases hj
  | cons s r ih =>
    intro i j acc hj hn hx
    simp only [names, List.map_cons, List.nodup_cons] at hn
    simp only [idxGo]
    cases j with
    | zero =>
      simp only [List.getElem_cons_zero] at hx
      rw [idx_not (by rw [← hx]; exact hn.1), mget_mset, if_pos hx.symm]
      rfl
    | succ j =>
      simp only [List.getElem_cons_succ] at hx
      rw [ih (by simpa using hj) hn.2 hx]
      congr 2; omega
theorem idx_len : ∀ {l : List Shf} {i : Nat} {acc : List (Str × Int)}, (idxGo l i acc).length ≤ acc.length + l.length ∧ ((idxGo l i acc).length = acc.length + l.length ↔ (names l).Nodup ∧ ∀ s ∈ names l, mget .str acc s = none) := by
  intro l
  induction l with
  | nil => intro i acc; exact ⟨Nat.le_refl _, by simp [idxGo, names]⟩
  | cons s r ih =>
    intro i acc
    simp only [idxGo]
    have h := @ih (i + 1) (mset .str acc s.1 (i : Int))
    have hl := mset_len (l := acc) (a := s.1) (v := (i : Int))
    simp only [List.length_cons]
    cases hg : mget .str acc s.1 with
    | some y =>
      rw [hg] at hl
      simp only [Option.isSome_some, if_true] at hl
      refine ⟨by omega, ⟨fun e => by omega, fun e => ?_⟩⟩
      have := e.2 s.1 (by simp [names])
      rw [hg] at this; cases this
    | none =>
      rw [hg] at hl
      simp only [Option.isSome_none, Bool.false_eq_true, if_false] at hl
      refine ⟨by omega, ?_⟩
      have hiff : (idxGo r (i + 1) (mset .str acc s.1 (i : Int))).length = acc.length + (r.length + 1) ↔ (idxGo r (i + 1) (mset .str acc s.1 (i : Int))).length = (mset .str acc s.1 (i : Int)).length + r.length := by rw [hl]; omega
      rw [hiff, h.2]
      simp only [names, List.map_cons, List.nodup_cons, List.mem_cons, forall_eq_or_imp]
      constructor
      · rintro ⟨hn, ha⟩
        refine ⟨⟨fun hm => ?_, hn⟩, hg, fun y hy => ?_⟩
        · have := ha s.1 hm
          rw [mget_mset, if_pos rfl] at this; cases this
        · have := ha y hy
          rw [mget_mset] at this
          split at this
          · cases this
          · exact this
      · rintro ⟨⟨hs, hn⟩, _, ha⟩
        refine ⟨hn, fun y hy => ?_⟩
        rw [mget_mset, if_neg (fun e => hs (by rw [← e]; exact hy))]
        exact ha y hy
theorem findGo_at {name : Str} : ∀ {l : List Shf} {i : Nat} {k : Int}, findGo name l i = k → 0 ≤ k → ∃ j : Nat, k = ((i + j : Nat) : Int) ∧ ∃ hj : j < l.length, l[j].1 = name ∧ ∀ (t : Nat) (ht : t < l.length), t < j → l[t].1 ≠ name := by
  intro l
  induction l with
  | nil => intro i k h h0; simp only [findGo] at h; omega
  | cons s r ih =>
    intro i k h h0
    simp only [findGo] at h
    split at h
    · rename_i hs
      exact ⟨0, by omega, by simp, hs, fun t _ ht => by omega⟩
    · rename_i hs
      obtain ⟨j, e, hj, h1, h2⟩ := ih h h0
      refine ⟨j + 1, by omega, by simp; omega, h1, fun t ht htj => ?_⟩
      cases t with
      | zero => exact hs
      | succ t => exact h2 t (by simpa using ht) (by omega)
theorem findGo_no {name : Str} : ∀ {l : List Shf} {i : Nat}, findGo name l i < 0 ↔ name ∉ names l := by
  intro l
  induction l with
  | nil => intro i; simp [findGo, names]
  | cons s r ih =>
    intro i
    simp only [findGo, names, List.map_cons, List.mem_cons, not_or]
    split
    · rename_i h; exact ⟨fun h0 => by omega, fun h0 => absurd h.symm h0.1⟩
    · rename_i h
      rw [ih]
      exact ⟨fun h0 => ⟨fun e => h e.symm, h0⟩, fun h0 => h0.2⟩
theorem find_nodup {m : List Shf} (h : (names m).Nodup) {j : Nat} (hj : j < m.length) : findV m m[j].1 = j := by
  have h0 : ¬ findV m m[j].1 < 0 := fun h1 => findGo_no.1 h1 (List.mem_map.2 ⟨m[j], List.getElem_mem hj, rfl⟩)
  obtain ⟨k, e, hk, h1, h2⟩ := findGo_at (l := m) (i := 0) rfl (Int.not_lt.1 h0)
  have h3 : k = j := by
    have hk' : k < (names m).length := by simpa [names] using hk
    have hj' : j < (names m).length := by simpa [names] using hj
    have e1 : (names m)[k] = (names m)[j] := by simpa [names] using h1
    have hp := List.pairwise_iff_getElem.1 h
    rcases Nat.lt_trichotomy k j with hlt | heq | hgt
    · exact absurd e1 (hp k j hk' hj' hlt)
    · exact heq
    · exact absurd e1.symm (hp j k hj' hk' hgt)
  show findGo m[j].1 m 0 = j
  rw [e, h3]; simp
theorem nodup_find {m : List Shf} (h : ∀ (j : Nat) (hj : j < m.length), findV m m[j].1 = j) : (names m).Nodup := by
  refine List.pairwise_iff_getElem.2 fun i j hi hj hij e => ?_
  have hj' : j < m.length := by simpa [names] using hj
  have hi' : i < m.length := by omega
  simp only [names, List.getElem_map] at e
  have h1 := h i hi'
  have h2 := h j hj'
  rw [e] at h1
  omega
theorem mokGo_iff {m0 : List Shf} : ∀ {l : List Shf} {i : Nat}, mokGo m0 l i = true ↔ ∀ (j : Nat) (hj : j < l.length), nameV l[j].1 = true ∧ l[j].2.length = 3 ∧ findV m0 l[j].1 = ((i + j : Nat) : Int) ∧ shortV l[j].2 = true := by
  intro l
  induction l with
  | nil => intro i; exact ⟨fun _ j hj => (by cases hj), fun _ => rfl⟩
  | cons s r ih =>
    intro i
    simp only [mokGo, Bool.and_eq_true, decide_eq_true_eq, ih]
    constructor
    · rintro ⟨⟨⟨⟨a, b⟩, c⟩, d⟩, e⟩ j hj
      cases j with
      | zero => exact ⟨a, b, by simpa using c, d⟩
      | succ j =>
        obtain ⟨x1, x2, x3, x4⟩ := e j (by simpa using hj)
        exact ⟨x1, x2, by rw [List.getElem_cons_succ, x3]; congr 1; omega, x4⟩
    · intro h
      have h0 := h 0 (by simp)
      refine ⟨⟨⟨⟨h0.1, h0.2.1⟩, by simpa using h0.2.2.1⟩, h0.2.2.2⟩, fun j hj => ?_⟩
      obtain ⟨x1, x2, x3, x4⟩ := h (j + 1) (by simpa using hj)
      rw [List.getElem_cons_succ] at x1 x2 x3 x4
      exact ⟨x1, x2, by rw [x3]; congr 1; omega, x4⟩
def badS (s : Shf) : Bool := !nameV s.1 || !decide (s.2.length = 3) || s.2.any fun t => decide (9 < t.length)
def longS (t : Str) : Bool := decide (9 < t.length)
theorem badS_eq {a : Str} {l : List Str} : badS (a, l) = (!nameV a || !decide (l.length = 3) || l.any longS) := rfl
def idxFGo {α : Type} (p : α → Bool) : List α → Nat → Int
  | [], _ => -1
  | s :: r, i => if p s then (i : Int) else idxFGo p r (i + 1)
def idxF {α : Type} (p : α → Bool) (l : List α) : Int := idxFGo p l 0
theorem idxF_next {α : Type} {p : α → Bool} {l : List α} {i : Nat} {v : Int} (hlt : i < l.length) (h : idxFGo p (l.drop i) i = v) (hp : p l[i] = false) : idxFGo p (l.drop (i + 1)) (i + 1) = v := by
  rw [drop_at hlt] at h; simpa [idxFGo, hp] using h
theorem idxF_hit {α : Type} {p : α → Bool} {l : List α} {i : Nat} {v : Int} (hlt : i < l.length) (h : idxFGo p (l.drop i) i = v) (hp : p l[i] = true) : v = i := by
  rw [drop_at hlt] at h; simp [idxFGo, hp] at h; exact h.symm
theorem idxF_end {α : Type} {p : α → Bool} {l : List α} {j : Nat} {v : Int} (h : idxFGo p (l.drop l.length) j = v) : v = -1 := by
  rw [List.drop_length] at h; exact h.symm
theorem idxFGo_any {α : Type} {p : α → Bool} : ∀ {l : List α} {i : Nat}, decide (0 ≤ idxFGo p l i) = l.any p := by
  intro l
  induction l with
  | nil => intro i; rfl
  | cons s r ih =>
    intro i
    simp only [idxFGo, List.any_cons]
    by_cases hp : p s = true
    · simp [hp]
    · simpa [hp] using ih
theorem idxF_any {α : Type} {p : α → Bool} {l : List α} : decide (0 ≤ idxF p l) = l.any p := idxFGo_any
def okI (m : List Shf) : Bool := !(decide (4 < m.length) || decide ((idxV m).length < m.length)) && !(m.any badS)
theorem okI_eq (m : List Shf) : okI m = mokV m := by
  rw [Bool.eq_iff_iff]
  unfold okI mokV
  have hl := @idx_len m 0 []
  simp only [List.length_nil, Nat.zero_add, mget, implies_true, and_true] at hl
  have hlen : ¬ (idxV m).length < m.length ↔ (names m).Nodup := by
    rw [← hl.2]; unfold idxV; omega
  simp only [Bool.and_eq_true, Bool.not_eq_true', Bool.or_eq_false_iff, decide_eq_false_iff_not, decide_eq_true_eq, hlen, mokGo_iff, Nat.zero_add]
  have hbad : m.any badS = false ↔ ∀ (j : Nat) (hj : j < m.length), nameV m[j].1 = true ∧ m[j].2.length = 3 ∧ shortV m[j].2 = true := by
    rw [List.any_eq_false]
    constructor
    · intro h j hj
      have := h _ (List.getElem_mem hj)
      simp only [badS, Bool.or_eq_true, Bool.not_eq_true', decide_eq_false_iff_not, List.any_eq_true, decide_eq_true_eq, not_or, not_exists, not_and, Bool.not_eq_false, Decidable.not_not] at this
      refine ⟨this.1.1, this.1.2, ?_⟩
      simp only [shortV, List.all_eq_true, decide_eq_true_eq]
      intro t ht
      have := this.2 t ht
      omega
    · intro h s hs
      obtain ⟨j, hj, rfl⟩ := List.getElem_of_mem hs
      obtain ⟨h1, h2, h3⟩ := h j hj
      simp only [shortV, List.all_eq_true, decide_eq_true_eq] at h3
      simp only [badS, h1, h2, Bool.not_true, decide_true, Bool.or_self, Bool.false_or, List.any_eq_true, decide_eq_true_eq, not_exists, not_and]
      intro t ht
      have := h3 t ht
      omega
  rw [hbad]
  constructor
  · rintro ⟨⟨h1, h2⟩, h3⟩
    exact ⟨by omega, fun j hj => ⟨(h3 j hj).1, (h3 j hj).2.1, find_nodup h2 hj, (h3 j hj).2.2⟩⟩
  · rintro ⟨h1, h2⟩
    exact ⟨⟨by omega, nodup_find fun j hj => (h2 j hj).2.2.1⟩, fun j hj => ⟨(h2 j hj).1, (h2 j hj).2.1, (h2 j hj).2.2.2⟩⟩
theorem idxV_len {m : List Shf} : (idxV m).length ≤ m.length := by
  have := (@idx_len m 0 []).1
  simpa [idxV] using this
theorem mok_nodup {m : List Shf} (h : mokV m = true) : (names m).Nodup := by
  simp only [mokV, Bool.and_eq_true, mokGo_iff] at h
  exact nodup_find fun j hj => by simpa using (h.2 j hj).2.2.1
theorem idx_some {m : List Shf} (h : mokV m = true) {name : Str} (hf : 0 ≤ findV m name) : mget .str (idxV m) name = some (findV m name) := by
  obtain ⟨k, e, hk, h1, h2⟩ := findGo_at (l := m) (i := 0) rfl hf
  have := idx_at (i := 0) (acc := []) hk (mok_nodup h) h1
  unfold idxV
  rw [this, ← e]; rfl
theorem idx_none {m : List Shf} {name : Str} (hf : ¬ 0 ≤ findV m name) : mget .str (idxV m) name = none := by
  unfold idxV
  rw [idx_not (findGo_no.1 (Int.not_le.1 hf))]; rfl
theorem idx_isSome {m : List Shf} (h : mokV m = true) {name : Str} : (mget .str (idxV m) name).isSome = decide (0 ≤ findV m name) := by
  by_cases hf : 0 ≤ findV m name
  · rw [idx_some h hf]; simp [hf]
  · rw [idx_none hf]; simp [hf]
theorem find_name {m : List Shf} {name : Str} (hf : 0 ≤ findV m name) : ∃ hj : (findV m name).toNat < m.length, m[(findV m name).toNat].1 = name := by
  obtain ⟨k, e, hk, h1, _⟩ := findGo_at (l := m) (i := 0) rfl hf
  have : (findV m name).toNat = k := by show (findGo name m 0).toNat = k; omega
  exact ⟨by rw [this]; exact hk, by simp only [this]; exact h1⟩
/-- what a change that is tried on a copy leaves -/
def thoughtV (cl : List Shf → List Shf × Int) (m : List Shf) : List Shf × Int := if mokV m = false then ([], 4) else if (cl m).2 = 0 then ((cl m).1, 0) else (m, (cl m).2)
def addI (m : List Shf) (name : Str) (l : List Str) : List Shf × Int := if 0 ≤ findV m name ∨ nameV name = false then (m, 1) else if m.length = 4 then (m, 3) else (m ++ [(name, l)], 0)
def clDrop (name : Str) (m : List Shf) : List Shf × Int := if 0 ≤ findV m name then (m.take (findV m name).toNat ++ m.drop ((findV m name).toNat + 1), 0) else (m, 2)
def clMake (name : Str) (m : List Shf) : List Shf × Int := addI m name [[], [], []]
def clCopy (frm name : Str) (m : List Shf) : List Shf × Int := if 0 ≤ findV m frm then addI m name (m.getD (findV m frm).toNat ([], [])).2 else (m, 2)
def blkOk (m : List Shf) (name : Str) (block : Int) : Prop := 0 ≤ findV m name ∧ 0 ≤ block ∧ block < 3
def blkC (m : List Shf) (name : Str) (block : Int) : Int := if ¬ 0 ≤ findV m name then 2 else if 0 ≤ block ∧ block < 3 then 0 else 4
def clWrite (name : Str) (block : Int) (text : Str) (m : List Shf) : List Shf × Int :=
  if blkC m name block = 0 then (if 9 < text.length then (m, 4) else (m.set (findV m name).toNat ((m.getD (findV m name).toNat ([], [])).1, ((m.getD (findV m name).toNat ([], [])).2).set block.toNat text), 0)) else (m, blkC m name block)
def readV (m : List Shf) (name : Str) (block : Int) : Str × Int := if mokV m = false then ([], 4) else if blkC m name block = 0 then (((m.getD (findV m name).toNat ([], [])).2).getD block.toNat [], 0) else ([], blkC m name block)
theorem room_le {a b : Nat} (h : a ≤ b) : b ≤ bif a.ble b then b else a := by
  rw [show Nat.ble a b = true from Nat.ble_eq_true_of_le h]; exact Nat.le_refl _
theorem addI_there {m : List Shf} {name : Str} {l : List Str} (h : 0 ≤ findV m name) : addI m name l = (m, 1) := by unfold addI; rw [if_pos (.inl h)]
theorem addI_bad {m : List Shf} {name : Str} {l : List Str} (h : nameV name = false) : addI m name l = (m, 1) := by unfold addI; rw [if_pos (.inr h)]
theorem addI_full {m : List Shf} {name : Str} {l : List Str} (h : ¬ 0 ≤ findV m name) (h2 : nameV name = true) (h4 : m.length = 4) : addI m name l = (m, 3) := by
  unfold addI; rw [if_neg (by rw [h2]; simp [h]), if_pos h4]
theorem addI_ok {m : List Shf} {name : Str} {l : List Str} (h : ¬ 0 ≤ findV m name) (h2 : nameV name = true) (h4 : ¬ m.length = 4) : addI m name l = (m ++ [(name, l)], 0) := by
  unfold addI; rw [if_neg (by rw [h2]; simp [h]), if_neg h4]
theorem clDrop_no {m : List Shf} {name : Str} (h : ¬ 0 ≤ findV m name) : clDrop name m = (m, 2) := by unfold clDrop; rw [if_neg h]
theorem clDrop_ok {m : List Shf} {name : Str} (h : 0 ≤ findV m name) : clDrop name m = (m.take (findV m name).toNat ++ m.drop ((findV m name).toNat + 1), 0) := by unfold clDrop; rw [if_pos h]
theorem blkC_no {m : List Shf} {name : Str} {block : Int} (h : ¬ 0 ≤ findV m name) : blkC m name block = 2 := by unfold blkC; rw [if_pos h]
theorem blkC_out {m : List Shf} {name : Str} {block : Int} (h : 0 ≤ findV m name) (h2 : ¬ (0 ≤ block ∧ block < 3)) : blkC m name block = 4 := by unfold blkC; rw [if_neg (by simpa using h), if_neg h2]
theorem blkC_in {m : List Shf} {name : Str} {block : Int} (h : 0 ≤ findV m name) (h2 : 0 ≤ block ∧ block < 3) : blkC m name block = 0 := by unfold blkC; rw [if_neg (by simpa using h), if_pos h2]
theorem set_self {m : List Shf} {k : Nat} {d : Shf} (hk : k < m.length) : m.set k ((m[k]?.getD d).1, (m[k]?.getD d).2) = m := by
  rw [List.getElem?_eq_getElem hk]
  exact List.set_getElem_self hk
theorem blkC_zero {m : List Shf} {name : Str} {block : Int} (h : blkC m name block = 0) : 0 ≤ findV m name ∧ 0 ≤ block ∧ block < 3 := by
  unfold blkC at h
  split at h
  · cases h
  · rename_i hf
    split at h
    · rename_i hb; exact ⟨Decidable.not_not.1 hf, hb⟩
    · cases h
theorem clWrite_no {m : List Shf} {name text : Str} {block : Int} (h : ¬ blkC m name block = 0) : clWrite name block text m = (m, blkC m name block) := by unfold clWrite; rw [if_neg h]
theorem clWrite_long {m : List Shf} {name text : Str} {block : Int} (h : blkC m name block = 0) (h9 : 9 < text.length) : clWrite name block text m = (m, 4) := by unfold clWrite; rw [if_pos h, if_pos h9]
theorem clWrite_ok {m : List Shf} {name text : Str} {block : Int} (h : blkC m name block = 0) (h9 : ¬ 9 < text.length) : clWrite name block text m = (m.set (findV m name).toNat ((m.getD (findV m name).toNat ([], [])).1, ((m.getD (findV m name).toNat ([], [])).2).set block.toNat text), 0) := by unfold clWrite; rw [if_pos h, if_neg h9]
def rdV (m : List Shf) (name : Str) (block : Int) : Str := if blkC m name block = 0 then ((m.getD (findV m name).toNat ([], [])).2).getD block.toNat [] else []
theorem rdV_ok {m : List Shf} {name : Str} {block : Int} (h : blkC m name block = 0) : rdV m name block = ((m.getD (findV m name).toNat ([], [])).2).getD block.toNat [] := by unfold rdV; rw [if_pos h]
theorem rdV_no {m : List Shf} {name : Str} {block : Int} (h : ¬ blkC m name block = 0) : rdV m name block = [] := by unfold rdV; rw [if_neg h]
theorem clCopy_no {m : List Shf} {frm name : Str} (h : ¬ 0 ≤ findV m frm) : clCopy frm name m = (m, 2) := by unfold clCopy; rw [if_neg h]
theorem clCopy_ok {m : List Shf} {frm name : Str} (h : 0 ≤ findV m frm) : clCopy frm name m = addI m name (m.getD (findV m frm).toNat ([], [])).2 := by unfold clCopy; rw [if_pos h]
theorem thoughtV_bad {cl : List Shf → List Shf × Int} {m : List Shf} (h : mokV m = false) : thoughtV cl m = ([], 4) := by unfold thoughtV; rw [if_pos h]
theorem thoughtV_no {cl : List Shf → List Shf × Int} {m : List Shf} (h : mokV m = true) (h2 : ¬ (cl m).2 = 0) : thoughtV cl m = (m, (cl m).2) := by unfold thoughtV; rw [if_neg (by simp [h]), if_neg h2]
theorem thoughtV_ok {cl : List Shf → List Shf × Int} {m : List Shf} (h : mokV m = true) (h2 : (cl m).2 = 0) : thoughtV cl m = ((cl m).1, 0) := by unfold thoughtV; rw [if_neg (by simp [h]), if_pos h2]
def clRead (name : Str) (block : Int) (m : List Shf) : List Shf × Int := (m, blkC m name block)
def rdT (m : List Shf) (name : Str) (block : Int) : Str := if mokV m = false then [] else rdV m name block
theorem rdT_bad {m : List Shf} {name : Str} {block : Int} (h : mokV m = false) : rdT m name block = [] := by unfold rdT; rw [if_pos h]
theorem rdT_ok {m : List Shf} {name : Str} {block : Int} (h : mokV m = true) : rdT m name block = rdV m name block := by unfold rdT; rw [if_neg (by simp [h])]
theorem readV_eq {m : List Shf} {name : Str} {block : Int} : readV m name block = (rdT m name block, (thoughtV (clRead name block) m).2) := by
  unfold readV rdT thoughtV clRead rdV
  cases mokV m with
  | false => rfl
  | true =>
    by_cases hb : blkC m name block = 0
    · simp [hb]
    · simp [hb]
theorem thought_make {m : List Shf} {name : Str} : thoughtV (clMake name) m = makeV m name := by
  unfold thoughtV makeV clMake addI addV
  cases hm : mokV m with
  | false => simp
  | true =>
    cases hn : nameV name with
    | false => simp
    | true =>
      by_cases hf : 0 ≤ findV m name
      · simp [hf]
      · by_cases h4 : m.length = 4
        · simp [hf, h4]
        · simp [hf, h4]
theorem thought_drop {m : List Shf} {name : Str} : thoughtV (clDrop name) m = dropV m name := by
  unfold thoughtV dropV clDrop
  cases hm : mokV m with
  | false => simp
  | true =>
    by_cases hf : 0 ≤ findV m name
    · have : ¬ findV m name < 0 := by omega
      simp [hf, this]
    · have : findV m name < 0 := by omega
      simp [hf, this]
theorem thought_copy {m : List Shf} {frm name : Str} : thoughtV (clCopy frm name) m = copyV m frm name := by
  unfold thoughtV copyV clCopy addI addV
  cases hm : mokV m with
  | false => simp
  | true =>
    by_cases hf : 0 ≤ findV m frm
    · have : ¬ findV m frm < 0 := by omega
      cases hn : nameV name with
      | false => simp [hf, this]
      | true =>
        by_cases hg : 0 ≤ findV m name
        · simp [hf, this, hg]
        · by_cases h4 : m.length = 4
          · simp [hf, this, hg, h4]
          · simp [hf, this, hg, h4]
    · have : findV m frm < 0 := by omega
      simp [hf, this]
theorem thought_write {m : List Shf} {name : Str} {block : Int} {text : Str} : thoughtV (clWrite name block text) m = writeV m name block text := by
  unfold thoughtV writeV clWrite blkC
  cases hm : mokV m with
  | false => simp
  | true =>
    by_cases hf : 0 ≤ findV m name
    · have h1 : ¬ findV m name < 0 := by omega
      by_cases hb : 0 ≤ block ∧ block < 3
      · have hv : inV block 0 2 = true := by simp [inV]; omega
        by_cases h9 : 9 < text.length
        · simp [hf, h1, hb, hv, h9]
        · simp [hf, h1, hb, hv, h9]
      · have hv : inV block 0 2 = false := by
          simp only [inV, Bool.and_eq_false_iff, decide_eq_false_iff_not]; omega
        simp [hf, h1, hb, hv]
    · have h1 : findV m name < 0 := by omega
      simp [hf, h1]
end Go.Sx
