/- Models, as the reference thinks of them: plain law. -/
import Derived.Test.YtoedlonlndafmaaMPu
set_option linter.all false
namespace Go.Sx
open Go
abbrev Shf := Str × List Str
def inV (n lo hi : Int) : Bool := decide (lo ≤ n) && decide (n ≤ hi)
def findGo (name : Str) : List Shf → Nat → Int
  | [], _ => -1
  | s :: r, i => if s.1 = name then (i : Int) else findGo name r (i + 1)
def findV (m : List Shf) (name : Str) : Int := findGo name m 0
def lower (c : UInt8) : Bool := decide (97 ≤ c.toNat) && decide (c.toNat ≤ 122)
def nameV (s : Str) : Bool := inV s.length 1 3 && s.all lower
def shortV (l : List Str) : Bool := l.all fun t => decide (t.length ≤ 9)
def mokGo (m : List Shf) : List Shf → Nat → Bool
  | [], _ => true
  | s :: r, i => nameV s.1 && decide (s.2.length = 3) && decide (findV m s.1 = i) && shortV s.2 && mokGo m r (i + 1)
def mokV (m : List Shf) : Bool := decide (m.length ≤ 4) && mokGo m m 0
def addV (m : List Shf) (name : Str) : Int := if nameV name = false ∨ 0 ≤ findV m name then 1 else if m.length = 4 then 3 else 0
theorem findGo_bd {name : Str} : ∀ {l : List Shf} {i : Nat}, findGo name l i = -1 ∨ ((i : Int) ≤ findGo name l i ∧ findGo name l i < i + l.length) := by
  intro l
  induction l with
  | nil => intro i; exact .inl rfl
  | cons s r ih =>
    intro i
    simp only [findGo, List.length_cons]
    split
    · exact .inr ⟨by omega, by omega⟩
    · rcases ih (i := i + 1) with h | ⟨h1, h2⟩
      · exact .inl h
      · exact .inr ⟨by omega, by omega⟩
theorem findV_bd {m : List Shf} {name : Str} (h : 0 ≤ findV m name) : (findV m name).toNat < m.length := by
  rcases findGo_bd (name := name) (l := m) (i := 0) with h1 | h1
  · unfold findV at h; omega
  · unfold findV at h ⊢; omega
theorem drop_at {α : Type} {l : List α} {i : Nat} (h : i < l.length) : l.drop i = l[i] :: l.drop (i + 1) := List.drop_eq_getElem_cons h
theorem find_next {m : List Shf} {name : Str} {i : Nat} {v : Int} (hlt : i < m.length) (h : findGo name (m.drop i) i = v) (hne : ¬ m[i].1 = name) : findGo name (m.drop (i + 1)) (i + 1) = v := by
  rw [drop_at hlt] at h
  simp only [findGo] at h
  rwa [if_neg hne] at h
theorem find_hit {m : List Shf} {name : Str} {i : Nat} {v : Int} (hlt : i < m.length) (h : findGo name (m.drop i) i = v) (he : m[i].1 = name) : v = i := by
  rw [drop_at hlt] at h
  simp only [findGo] at h
  rw [if_pos he] at h
  exact h.symm
theorem find_end {m : List Shf} {name : Str} {j : Nat} {v : Int} (h : findGo name (m.drop m.length) j = v) : v = -1 := by
  rw [List.drop_length] at h; exact h.symm
theorem all_next {α : Type} {p : α → Bool} {l : List α} {i : Nat} {v : Bool} (hlt : i < l.length) (h : (l.drop i).all p = v) (hp : p l[i] = true) : (l.drop (i + 1)).all p = v := by
  rw [drop_at hlt, List.all_cons, hp, Bool.true_and] at h; exact h
theorem all_hit {α : Type} {p : α → Bool} {l : List α} {i : Nat} {v : Bool} (hlt : i < l.length) (h : (l.drop i).all p = v) (hp : p l[i] = false) : v = false := by
  rw [drop_at hlt, List.all_cons, hp, Bool.false_and] at h; exact h.symm
theorem all_end {α : Type} {p : α → Bool} {l : List α} {v : Bool} (h : (l.drop l.length).all p = v) : v = true := by
  rw [List.drop_length] at h; exact h.symm
theorem lower_t {c : UInt8} (h1 : 97 ≤ (c.toNat : Int)) (h2 : (c.toNat : Int) ≤ 122) : lower c = true := by simp [lower]; omega
theorem lower_l {c : UInt8} (h1 : (c.toNat : Int) < 97) : lower c = false := by simp [lower]; omega
theorem lower_h {c : UInt8} (h1 : 122 < (c.toNat : Int)) : lower c = false := by simp [lower]; omega
theorem mokV_long {m : List Shf} (h : 4 < m.length) : mokV m = false := by simp [mokV]; omega
theorem mokV_of {m : List Shf} (h : m.length ≤ 4) : mokGo m m 0 = mokV m := by simp [mokV, h]
theorem mok_next {m : List Shf} {i : Nat} {v : Bool} (hlt : i < m.length) (h : mokGo m (m.drop i) i = v) (h1 : nameV m[i].1 = true) (h2 : m[i].2.length = 3) (h3 : findV m m[i].1 = i) (h4 : shortV m[i].2 = true) : mokGo m (m.drop (i + 1)) (i + 1) = v := by
  rw [drop_at hlt] at h
  simpa [mokGo, h1, h2, h3, h4] using h
theorem mok_name {m : List Shf} {i : Nat} {v : Bool} (hlt : i < m.length) (h : mokGo m (m.drop i) i = v) (h1 : nameV m[i].1 = false) : v = false := by
  rw [drop_at hlt] at h
  simp [mokGo, h1] at h; exact h
theorem mok_len {m : List Shf} {i : Nat} {v : Bool} (hlt : i < m.length) (h : mokGo m (m.drop i) i = v) (h1 : ¬ m[i].2.length = 3) : v = false := by
  rw [drop_at hlt] at h
  simp [mokGo, h1] at h; exact h
theorem mok_find {m : List Shf} {i : Nat} {v : Bool} (hlt : i < m.length) (h : mokGo m (m.drop i) i = v) (h1 : ¬ findV m m[i].1 = i) : v = false := by
  rw [drop_at hlt] at h
  simp [mokGo, h1] at h; exact h
theorem mok_short {m : List Shf} {i : Nat} {v : Bool} (hlt : i < m.length) (h : mokGo m (m.drop i) i = v) (h1 : shortV m[i].2 = false) : v = false := by
  rw [drop_at hlt] at h
  simp [mokGo, h1] at h; exact h
theorem mok_end {m : List Shf} {j : Nat} {v : Bool} (h : mokGo m (m.drop m.length) j = v) : v = true := by
  rw [List.drop_length] at h; exact h.symm
theorem eq_len {α : Type} [DecidableEq α] {a b : List α} (h : ¬ a.length = b.length) : decide (a = b) = false := by
  simp; intro e; rw [e] at h; exact h rfl
theorem eq_step {α : Type} {a b : List α} {i : Nat} (h1 : i < a.length) (h2 : i < b.length) : (a.drop i = b.drop i) ↔ (a[i] = b[i] ∧ a.drop (i + 1) = b.drop (i + 1)) := by
  rw [drop_at h1, drop_at h2, List.cons.injEq]
theorem eq_next {α : Type} [DecidableEq α] {a b : List α} {i : Nat} {v : Bool} (h1 : i < a.length) (h2 : i < b.length) (h : decide (a.drop i = b.drop i) = v) (he : a[i] = b[i]) : decide (a.drop (i + 1) = b.drop (i + 1)) = v := by
  rw [← h]; exact decide_eq_decide.2 ⟨fun h => (eq_step h1 h2).2 ⟨he, h⟩, fun h => ((eq_step h1 h2).1 h).2⟩
theorem eq_hit {α : Type} [DecidableEq α] {a b : List α} {i : Nat} {v : Bool} (h1 : i < a.length) (h2 : i < b.length) (h : decide (a.drop i = b.drop i) = v) (he : ¬ a[i] = b[i]) : v = false := by
  rw [← h]; exact decide_eq_false fun h => he ((eq_step h1 h2).1 h).1
theorem eq_end {α : Type} [DecidableEq α] {a b : List α} {v : Bool} (hl : a.length = b.length) (h : decide (a.drop a.length = b.drop a.length) = v) : v = true := by
  rw [List.drop_length, hl, List.drop_length] at h
  simpa using h.symm
theorem addV_name {m : List Shf} {name : Str} (h : nameV name = false) : addV m name = 1 := by simp [addV, h]
theorem addV_there {m : List Shf} {name : Str} (h : 0 ≤ findV m name) : addV m name = 1 := by simp [addV, h]
theorem addV_full {m : List Shf} {name : Str} (h1 : nameV name = true) (h2 : findV m name < 0) (h : (m.length : Int) = 4) : addV m name = 3 := by
  have : ¬ 0 ≤ findV m name := by omega
  have h : m.length = 4 := by omega
  simp [addV, h1, this, h]
theorem addV_fine {m : List Shf} {name : Str} (h1 : nameV name = true) (h2 : findV m name < 0) (h : ¬ (m.length : Int) = 4) : addV m name = 0 := by
  have : ¬ 0 ≤ findV m name := by omega
  have h : ¬ m.length = 4 := by omega
  simp [addV, h1, this, h]
def textsV (a b : List Str) : Bool := decide (a = b)
def modelsV (a b : List Shf) : Bool := decide (a = b)
def textsGo : List Str → List Str → Bool
  | [], [] => true
  | x :: a, y :: b => decide (x = y) && textsGo a b
  | _, _ => false
theorem textsGo_eq : ∀ {a b : List Str}, textsGo a b = decide (a = b) := by
  intro a
  induction a with
  | nil => intro b; cases b <;> rfl
  | cons x a ih => intro b; cases b with
    | nil => rfl
    | cons y b => simp only [textsGo, ih]; exact Bool.eq_iff_iff.2 (by simp)
def makeV (m : List Shf) (name : Str) : List Shf × Int := if mokV m = false then ([], 4) else (if addV m name = 0 then m ++ [(name, [[], [], []])] else m, addV m name)
def dropV (m : List Shf) (name : Str) : List Shf × Int := if mokV m = false then ([], 4) else if findV m name < 0 then (m, 2) else (m.take (findV m name).toNat ++ m.drop ((findV m name).toNat + 1), 0)
def copyV (m : List Shf) (frm name : Str) : List Shf × Int := if mokV m = false then ([], 4) else if findV m frm < 0 then (m, 2) else
  (if addV m name = 0 then m ++ [(name, (m.getD (findV m frm).toNat ([], [])).2)] else m, addV m name)
def writeV (m : List Shf) (name : Str) (block : Int) (text : Str) : List Shf × Int := if mokV m = false then ([], 4) else if findV m name < 0 then (m, 2) else
  if inV block 0 2 = false ∨ 9 < text.length then (m, 4) else
  (m.set (findV m name).toNat ((m.getD (findV m name).toNat ([], [])).1, ((m.getD (findV m name).toNat ([], [])).2).set block.toNat text), 0)
theorem mok_len4 {m : List Shf} (h : mokV m = true) : m.length ≤ 4 := by simp [mokV] at h; exact h.1
theorem mokGo_at {m0 : List Shf} : ∀ {l : List Shf} {i : Nat}, mokGo m0 l i = true → ∀ s ∈ l, nameV s.1 = true ∧ s.2.length = 3 ∧ shortV s.2 = true := by
  intro l
  induction l with
  | nil => intro i _ s hs; cases hs
  | cons a r ih =>
    intro i h s hs
    simp only [mokGo, Bool.and_eq_true, decide_eq_true_eq] at h
    rcases List.mem_cons.1 hs with rfl | hs
    · exact ⟨h.1.1.1.1, h.1.1.1.2, h.1.2⟩
    · exact ih h.2 s hs
theorem mok_at {m : List Shf} (h : mokV m = true) {i : Nat} (hlt : i < m.length) : m[i].2.length = 3 := by
  simp only [mokV, Bool.and_eq_true] at h
  exact (mokGo_at h.2 _ (List.getElem_mem hlt)).2.1
theorem copy_next' {m : List Shf} {i : Nat} {d : Shf} (hlt : i < m.length) : m.take i ++ [((m[i]?.getD d).1, (m[i]?.getD d).2)] = m.take (i + 1) := by
  rw [List.getElem?_eq_getElem hlt]
  exact (List.take_succ_eq_append_getElem hlt).symm
theorem inV_bd {n lo hi : Int} (h : inV n lo hi = true) : lo ≤ n ∧ n ≤ hi := by simpa [inV] using h
theorem dropV_ok {m : List Shf} {name : Str} (c1 : mokV m = true) (c5 : 0 ≤ findV m name) : dropV m name = (m.take (findV m name).toNat ++ m.drop ((findV m name).toNat + 1), 0) := by
  unfold dropV; rw [if_neg (by simp [c1]), if_neg (by omega)]
theorem copyV_ok {m : List Shf} {frm name : Str} (c1 : mokV m = true) (c5 : 0 ≤ findV m frm) (c8 : addV m name = 0) : copyV m frm name = (m ++ [(name, (m.getD (findV m frm).toNat ([], [])).2)], 0) := by
  unfold copyV; rw [if_neg (by simp [c1]), if_neg (by omega), if_pos c8, c8]
theorem copyV_no {m : List Shf} {frm name : Str} (c1 : mokV m = true) (c5 : 0 ≤ findV m frm) (c8 : ¬ addV m name = 0) : copyV m frm name = (m, addV m name) := by
  unfold copyV; rw [if_neg (by simp [c1]), if_neg (by omega), if_neg c8]
theorem writeV_out {m : List Shf} {name text : Str} {block : Int} (c1 : mokV m = true) (c5 : 0 ≤ findV m name) (h : inV block 0 2 = false) : writeV m name block text = (m, 4) := by
  unfold writeV; rw [if_neg (by simp [c1]), if_neg (by omega), if_pos (.inl h)]
theorem writeV_long {m : List Shf} {name text : Str} {block : Int} (c1 : mokV m = true) (c5 : 0 ≤ findV m name) (h : 9 < text.length) : writeV m name block text = (m, 4) := by
  unfold writeV; rw [if_neg (by simp [c1]), if_neg (by omega), if_pos (.inr h)]
theorem writeV_ok {m : List Shf} {name text : Str} {block : Int} (c1 : mokV m = true) (c5 : 0 ≤ findV m name) (h : inV block 0 2 = true) (h9 : ¬ 9 < text.length) : writeV m name block text = (m.set (findV m name).toNat ((m.getD (findV m name).toNat ([], [])).1, ((m.getD (findV m name).toNat ([], [])).2).set block.toNat text), 0) := by
  unfold writeV; rw [if_neg (by simp [c1]), if_neg (by omega), if_neg (by rintro (h' | h'); rw [h] at h'; cases h'; exact h9 h')]
end Go.Sx
