/- Sizes, copies, equality, marks of lists; what the reference says of disks: plain law. -/
import Derived.Test.YtbnmeeajooljmaaMPk
set_option linter.all false
namespace Go.Sx
open Go
/-! sizes -/
def szGo {α : Type} (w : α → Nat) : List α → Int → Int
  | [], left => left
  | s :: r, left => if left - (w s : Int) < 0 then -1 else szGo w r (left - w s)
def szA {α : Type} (w : α → Nat) (l : List α) (left : Int) : Int := if left - (l.length : Int) < 0 then -1 else szGo w l (left - l.length)
theorem szGo_bd {α : Type} {w : α → Nat} : ∀ {l : List α} {left : Int}, 0 ≤ left → -1 ≤ szGo w l left ∧ szGo w l left ≤ left := by
  intro l
  induction l with
  | nil => intro left h; exact ⟨by simp only [szGo]; omega, Int.le_refl _⟩
  | cons s r ih =>
    intro left h
    simp only [szGo]
    split
    · omega
    · rename_i h2
      have := ih (left := left - w s) (by omega)
      omega
theorem szA_bd {α : Type} {w : α → Nat} {l : List α} {left : Int} (h : 0 ≤ left) : -1 ≤ szA w l left ∧ szA w l left ≤ left := by
  unfold szA
  split
  · omega
  · have := szGo_bd (w := w) (l := l) (left := left - l.length) (by omega)
    omega
theorem szA_neg {α : Type} {w : α → Nat} {l : List α} {left : Int} (h : 0 ≤ left) (h2 : szA w l left < 0) : szA w l left = -1 := by have := szA_bd (w := w) (l := l) h; omega
theorem szA_len {α : Type} {w : α → Nat} {l : List α} {left : Int} (h : 0 ≤ szA w l left) : (l.length : Int) ≤ left := by
  unfold szA at h
  split at h
  · omega
  · omega
theorem szGo_next {α : Type} {w : α → Nat} {l : List α} {i : Nat} {left v : Int} (hlt : i < l.length) (h : szGo w (l.drop i) left = v) (h0 : ¬ left - (w l[i] : Int) < 0) : szGo w (l.drop (i + 1)) (left - w l[i]) = v := by
  rw [drop_at hlt] at h; simp only [szGo] at h; rwa [if_neg h0] at h
theorem szGo_hit {α : Type} {w : α → Nat} {l : List α} {i : Nat} {left v : Int} (hlt : i < l.length) (h : szGo w (l.drop i) left = v) (h0 : left - (w l[i] : Int) < 0) : v = -1 := by
  rw [drop_at hlt] at h; simp only [szGo] at h; rw [if_pos h0] at h; exact h.symm
theorem szGo_end {α : Type} {w : α → Nat} {l : List α} {left v : Int} (h : szGo w (l.drop l.length) left = v) : v = left := by
  rw [List.drop_length] at h; exact h.symm
def lenS (s : Str) : Nat := s.length
def lenP (p : Put) : Nat := p.2.2.length
def len0 (_ : Bool) : Nat := 0
theorem szA_bool {l : List Bool} {left : Int} : szA len0 l left = if left - (l.length : Int) < 0 then -1 else left - l.length := by
  have : ∀ (l : List Bool) {left : Int}, 0 ≤ left → szGo len0 l left = left := by
    intro l
    induction l with
    | nil => intro left _; rfl
    | cons b r ih =>
      intro left h
      have e : left - ((len0 b : Nat) : Int) = left := by simp [len0]
      simp only [szGo, e]
      rw [if_neg (by omega)]
      exact ih h
  unfold szA
  split
  · rfl
  · exact this l (by omega)
def szP1V (p : Put) (left : Int) : Int := if left - (lenP p : Int) < 0 then -1 else left - lenP p
theorem szP1_neg {p : Put} {left : Int} (h : left - (lenP p : Int) < 0) : szP1V p left = -1 := by unfold szP1V; rw [if_pos h]
theorem szP1_pos {p : Put} {left : Int} (h : ¬ left - (lenP p : Int) < 0) : szP1V p left = left - lenP p := by unfold szP1V; rw [if_neg h]
theorem szP1_iff {p : Put} {left : Int} : szP1V p left < 0 ↔ left - (lenP p : Int) < 0 := by
  constructor
  · intro h
    by_cases h2 : left - (lenP p : Int) < 0
    · exact h2
    · rw [szP1_pos h2] at h; exact h
  · intro h; rw [szP1_neg h]; decide
instance decD0 : DecidableEq Put := inferInstance
instance decD1 : DecidableEq (List Bool × List Put) := inferInstance
instance decD2 : DecidableEq (List Str × List Bool × List Put) := inferInstance
instance decD3 : DecidableEq (List Str × List Str × List Bool × List Put) := inferInstance
instance decD4 : DecidableEq Dsk := inferInstance
def eqDV (a b : Dsk) : Bool := decide (a = b)
theorem eqDV_self {a : Dsk} : eqDV a a = true := by simp [eqDV]
def szD (d : Dsk) (left : Int) : Int :=
  if szA lenS d.2.1 left < 0 then -1 else if szA lenS d.2.2.1 (szA lenS d.2.1 left) < 0 then -1 else
  if szA len0 d.2.2.2.1 (szA lenS d.2.2.1 (szA lenS d.2.1 left)) < 0 then -1 else szA lenP d.2.2.2.2 (szA len0 d.2.2.2.1 (szA lenS d.2.2.1 (szA lenS d.2.1 left)))
def SmallD (d : Dsk) : Prop := d.2.1.length ≤ 1048576 ∧ d.2.2.1.length ≤ 1048576 ∧ d.2.2.2.1.length ≤ 1048576 ∧ d.2.2.2.2.length ≤ 1048576
theorem szD_small {d : Dsk} (h : 0 ≤ szD d 1048576) : SmallD d := by
  unfold szD at h
  split at h
  · omega
  · rename_i h1
    split at h
    · omega
    · rename_i h2
      split at h
      · omega
      · rename_i h3
        have a1 := szA_bd (w := lenS) (l := d.2.1) (left := 1048576) (by omega)
        have a2 := szA_bd (w := lenS) (l := d.2.2.1) (left := szA lenS d.2.1 1048576) (by omega)
        have a3 := szA_bd (w := len0) (l := d.2.2.2.1) (left := szA lenS d.2.2.1 (szA lenS d.2.1 1048576)) (by omega)
        have b1 := szA_len (w := lenS) (l := d.2.1) (left := 1048576) (by omega)
        have b2 := szA_len (w := lenS) (l := d.2.2.1) (left := szA lenS d.2.1 1048576) (by omega)
        have b3 := szA_len (w := len0) (l := d.2.2.2.1) (left := szA lenS d.2.2.1 (szA lenS d.2.1 1048576)) (by omega)
        have b4 := szA_len (w := lenP) (l := d.2.2.2.2) (left := szA len0 d.2.2.2.1 (szA lenS d.2.2.1 (szA lenS d.2.1 1048576))) h
        exact ⟨by omega, by omega, by omega, by omega⟩
/-! copies -/
def cpL {α : Type} (l : List α) (d : α) (i : Nat) : List α := l.take i ++ List.replicate (l.length - i) d
theorem cpL_next {α : Type} {l : List α} {d : α} {i : Nat} (hlt : i < l.length) : (cpL l d i).set i l[i] = cpL l d (i + 1) := by
  unfold cpL
  rw [List.set_append_right _ _ (by simp; omega)]
  have h1 : i - (l.take i).length = 0 := by simp; omega
  rw [h1, show l.length - i = (l.length - (i + 1)) + 1 by omega, List.replicate_succ, List.set_cons_zero, List.take_succ_eq_append_getElem hlt, List.append_assoc]
  rfl
theorem cpL_len {α : Type} {l : List α} {d : α} {i : Nat} (h : i ≤ l.length) : (cpL l d i).length = l.length := by
  unfold cpL; simp; omega
theorem cpL_end {α : Type} {l : List α} {d : α} : cpL l d l.length = l := by unfold cpL; simp
theorem cpL_zero {α : Type} {l : List α} {d : α} : cpL l d 0 = List.replicate l.length d := by unfold cpL; simp
/-! equality -/
theorem eq_len' {α : Type} [DecidableEq α] {a b : List α} (h : ¬ a.length = b.length) : decide (a = b) = false := decide_eq_false fun e => h (by rw [e])
theorem eq_next' {α : Type} [DecidableEq α] {a b : List α} {i : Nat} {v : Bool} (h1 : i < a.length) (h2 : i < b.length) (h : decide (a.drop i = b.drop i) = v) (he : a[i] = b[i]) : decide (a.drop (i + 1) = b.drop (i + 1)) = v := by
  rw [drop_at h1, drop_at h2] at h; rw [← h, he]; exact decide_eq_decide.2 ⟨fun e => by rw [e], fun e => (List.cons.inj e).2⟩
theorem eq_hit' {α : Type} [DecidableEq α] {a b : List α} {i : Nat} {v : Bool} (h1 : i < a.length) (h2 : i < b.length) (h : decide (a.drop i = b.drop i) = v) (he : ¬ a[i] = b[i]) : v = false := by
  rw [drop_at h1, drop_at h2] at h; rw [← h]; exact decide_eq_false fun e => he (List.cons.inj e).1
theorem eq_end' {α : Type} [DecidableEq α] {a b : List α} {v : Bool} (hl : a.length = b.length) (h : decide (a.drop a.length = b.drop a.length) = v) : v = true := by
  rw [← h, List.drop_length, hl, List.drop_length]; simp
/-! marks -/
def digX (k : Nat) (out : Str) : Str := if h : k = 0 then out else digX (k / 10) (UInt8.ofNat (48 + k % 10) :: out)
  termination_by k
  decreasing_by omega
theorem digX_zero {out : Str} : digX 0 out = out := by rw [digX]; rfl
theorem digX_step {k : Nat} {out : Str} (h : k ≠ 0) : digX k out = digX (k / 10) (UInt8.ofNat (48 + k % 10) :: out) := by rw [digX, dif_neg h]
def mkT (k : Int) : Str := if k ≤ 0 then [109, 48] else 109 :: digX k.toNat []
def mkB (k : Int) : Bool := decide (k.tmod 3 = 0)
def mkP (k : Int) : Put := (mkB k, k + 1, mkT (k + 2))
/-- a list's elements marked, s marks each -/
def mkG {α : Type} (f : Int → α) (s : Int) : Int → List α → List α
  | _, [] => []
  | k, _ :: r => f k :: mkG f s (k + s) r
theorem mkG_len {α : Type} {f : Int → α} {s : Int} : ∀ {l : List α} {k : Int}, (mkG f s k l).length = l.length := by
  intro l
  induction l with
  | nil => intro k; rfl
  | cons x r ih => intro k; simp only [mkG, List.length_cons, ih]
theorem mkG_app {α : Type} {f : Int → α} {s : Int} : ∀ {a : List α} {x : α} {k : Int}, mkG f s k (a ++ [x]) = mkG f s k a ++ [f (k + s * a.length)] := by
  intro a
  induction a with
  | nil => intro x k; simp [mkG]
  | cons y r ih =>
    intro x k
    simp only [List.cons_append, mkG, ih, List.length_cons]
    congr 2
    rw [show k + s + s * (r.length : Int) = k + s * ((r.length + 1 : Nat) : Int) by push_cast; rw [Int.mul_add]; omega]
theorem mkG_clen {α : Type} {f : Int → α} {s : Int} {l : List α} {k : Int} {i : Nat} (hi : i ≤ l.length) : (mkG f s k (l.take i) ++ l.drop i).length = l.length := by
  rw [List.length_append, mkG_len, List.length_take, List.length_drop]; omega
theorem mkG_next {α : Type} {f : Int → α} {s : Int} {l : List α} {k : Int} {i : Nat} (hlt : i < l.length) : (mkG f s k (l.take i) ++ l.drop i).set i (f (k + s * i)) = mkG f s k (l.take (i + 1)) ++ l.drop (i + 1) := by
  have hl : (mkG f s k (l.take i)).length = i := by rw [mkG_len, List.length_take]; omega
  rw [List.set_append_right _ _ (by omega), hl, Nat.sub_self, drop_at hlt, List.set_cons_zero, List.take_succ_eq_append_getElem hlt, mkG_app, List.length_take, Nat.min_eq_left (by omega), List.append_assoc]
  rfl
theorem mkG_get {α : Type} {f : Int → α} {s : Int} {l : List α} {k : Int} {i : Nat} (hlt : i < l.length) : (mkG f s k (l.take i) ++ l.drop i)[i]? = some l[i] := by
  have hl : (mkG f s k (l.take i)).length = i := by rw [mkG_len, List.length_take]; omega
  rw [List.getElem?_append_right (by omega), hl, Nat.sub_self, drop_at hlt]; rfl
def hdG {α : Type} [DecidableEq α] (f : Int → α) (s : Int) : Int → List α → Int
  | k, [] => k
  | k, x :: r => if x = f k then hdG f s (k + s) r else -1
theorem hdG_val {α : Type} [DecidableEq α] {f : Int → α} {s : Int} : ∀ {l : List α} {k : Int}, hdG f s k l = -1 ∨ hdG f s k l = k + s * l.length := by
  intro l
  induction l with
  | nil => intro k; right; simp [hdG]
  | cons x r ih =>
    intro k
    simp only [hdG, List.length_cons]
    split
    · rcases ih (k := k + s) with h | h
      · exact .inl h
      · right; rw [h]; push_cast; rw [Int.mul_add]; omega
    · exact .inl rfl
theorem hdG_next {α : Type} [DecidableEq α] {f : Int → α} {s : Int} {l : List α} {k v : Int} {i : Nat} (hlt : i < l.length) (h : hdG f s (k + s * i) (l.drop i) = v) (he : l[i] = f (k + s * i)) : hdG f s (k + s * (i + 1 : Nat)) (l.drop (i + 1)) = v := by
  rw [drop_at hlt] at h; simp only [hdG, if_pos he] at h; rw [← h]; congr 1; push_cast; rw [Int.mul_add]; omega
theorem hdG_hit {α : Type} [DecidableEq α] {f : Int → α} {s : Int} {l : List α} {k v : Int} {i : Nat} (hlt : i < l.length) (h : hdG f s (k + s * i) (l.drop i) = v) (he : ¬ l[i] = f (k + s * i)) : v = -1 := by
  rw [drop_at hlt] at h; simp only [hdG, if_neg he] at h; exact h.symm
theorem hdG_end {α : Type} [DecidableEq α] {f : Int → α} {s : Int} {l : List α} {k v : Int} (h : hdG f s k (l.drop l.length) = v) : v = k := by
  rw [List.drop_length] at h; exact h.symm
theorem hdG_mk {α : Type} [DecidableEq α] {f : Int → α} {s : Int} : ∀ {l : List α} {k : Int}, hdG f s k (mkG f s k l) = k + s * l.length := by
  intro l
  induction l with
  | nil => intro k; simp [hdG, mkG]
  | cons x r ih => intro k; simp only [mkG, hdG, if_true, ih, List.length_cons]; push_cast; rw [Int.mul_add]; omega
def mkD (k : Int) (d : Dsk) : Dsk := (d.1, mkG mkT 1 k d.2.1, mkG mkT 1 (k + d.2.1.length) d.2.2.1, mkG mkB 1 (k + d.2.1.length + d.2.2.1.length) d.2.2.2.1, mkG mkP 3 (k + d.2.1.length + d.2.2.1.length + d.2.2.2.1.length) d.2.2.2.2)
def mkDN (k : Int) (d : Dsk) : Int := k + d.2.1.length + d.2.2.1.length + d.2.2.2.1.length + 3 * d.2.2.2.2.length
def hdD (k : Int) (d : Dsk) : Int :=
  if hdG mkT 1 k d.2.1 < 0 then -1 else if hdG mkT 1 (hdG mkT 1 k d.2.1) d.2.2.1 < 0 then -1 else
  if hdG mkB 1 (hdG mkT 1 (hdG mkT 1 k d.2.1) d.2.2.1) d.2.2.2.1 < 0 then -1 else hdG mkP 3 (hdG mkB 1 (hdG mkT 1 (hdG mkT 1 k d.2.1) d.2.2.1) d.2.2.2.1) d.2.2.2.2
theorem hdD_mk {k : Int} {d : Dsk} (h : 0 ≤ k) : hdD k (mkD k d) = mkDN k d := by
  unfold hdD mkD mkDN
  simp only [hdG_mk, Int.one_mul]
  rw [if_neg (by omega), if_neg (by omega), if_neg (by omega)]
theorem mkDN_mkD {k : Int} {d : Dsk} : mkDN k (mkD k d) = mkDN k d := by unfold mkDN mkD; simp only [mkG_len]
/-! the reference -/
def inV (n a b : Int) : Bool := decide (a ≤ n ∧ n ≤ b)
def slotS (g : Bool) (t : Str) (b : Bool) : Bool := (decide (t.length ≠ 0) && decide (t.length ≠ 3)) || (b && decide (t.length = 0)) || (g && decide (0 < t.length))
def slotsS (g : Bool) : List Str → List Bool → Bool
  | t :: ts, b :: bs => slotS g t b || slotsS g ts bs
  | _, _ => false
def ringS (g : Bool) (t : Str) : Bool := decide (700 < t.length) || (g && decide (0 < t.length))
theorem slotsS_next {g : Bool} {ts : List Str} {bs : List Bool} {i : Nat} {v : Bool} (h1 : i < ts.length) (h2 : i < bs.length) (h : slotsS g (ts.drop i) (bs.drop i) = v) (hn : slotS g ts[i] bs[i] = false) : slotsS g (ts.drop (i + 1)) (bs.drop (i + 1)) = v := by
  rw [drop_at h1, drop_at h2] at h; simpa [slotsS, hn] using h
theorem slotsS_hit {g : Bool} {ts : List Str} {bs : List Bool} {i : Nat} {v : Bool} (h1 : i < ts.length) (h2 : i < bs.length) (h : slotsS g (ts.drop i) (bs.drop i) = v) (hn : slotS g ts[i] bs[i] = true) : v = true := by
  rw [drop_at h1, drop_at h2] at h; simpa [slotsS, hn] using h.symm
theorem slotsS_end {g : Bool} {ts : List Str} {bs : List Bool} {v : Bool} (h : slotsS g (ts.drop ts.length) (bs.drop ts.length) = v) : v = false := by
  rw [List.drop_length] at h; rw [← h]; rfl
theorem any_next {α : Type} {p : α → Bool} {l : List α} {i : Nat} {v : Bool} (hlt : i < l.length) (h : (l.drop i).any p = v) (hn : p l[i] = false) : (l.drop (i + 1)).any p = v := by
  rw [drop_at hlt] at h; simp only [List.any_cons, hn, Bool.false_or] at h; exact h
theorem any_hit {α : Type} {p : α → Bool} {l : List α} {i : Nat} {v : Bool} (hlt : i < l.length) (h : (l.drop i).any p = v) (hn : p l[i] = true) : v = true := by
  rw [drop_at hlt] at h; simp only [List.any_cons, hn, Bool.true_or] at h; exact h.symm
theorem any_end {α : Type} {p : α → Bool} {l : List α} {v : Bool} (h : (l.drop l.length).any p = v) : v = false := by
  rw [List.drop_length] at h; rw [← h]; rfl
def dokV (d : Dsk) : Bool := shapedV d && !(slotsS (decide (d.1 = 1)) d.2.1 d.2.2.2.1) && !(d.2.2.1.any (ringS (decide (d.1 = 1)))) && !(d.2.2.2.2.any badP) && (decide (¬ d.1 = 1) || decide (d.2.2.2.2.length = 0))
def fullS (t : Str) : Bool := decide (0 < t.length)
theorem slotsS_eq {g : Bool} : ∀ {ts : List Str} {bs : List Bool}, ts.length = bs.length → slotsS g ts bs = (slotsB ts bs || (g && ts.any fullS)) := by
  intro ts
  induction ts with
  | nil => intro bs _; simp [slotsS, slotsB]
  | cons t r ih =>
    intro bs hl
    cases bs with
    | nil => cases hl
    | cons b bs =>
      simp only [slotsS, slotsB, List.any_cons]
      rw [ih (by simpa using hl)]
      have : slotS g t b = (slotB t b || (g && fullS t)) := by
        unfold slotS slotB fullS
        cases t with
        | nil => simp
        | cons x y => simp
      rw [this]
      cases slotB t b <;> cases g <;> cases fullS t <;> simp
theorem rings_eq {g : Bool} : ∀ {ts : List Str}, ts.any (ringS g) = (ts.any longR || (g && ts.any fullS)) := by
  intro ts
  induction ts with
  | nil => simp
  | cons t r ih =>
    simp only [List.any_cons, ih, ringS, longR, fullS]
    cases decide (700 < t.length) <;> cases g <;> cases decide (0 < t.length) <;> simp
theorem any_full {n : Nat} : ∀ {l : List Str}, l.length = n → (l.any fullS = decide (l ≠ List.replicate n [])) := by
  intro l
  induction l generalizing n with
  | nil => intro h; cases h; simp
  | cons t r ih =>
    intro h
    obtain ⟨m, rfl⟩ : ∃ m, n = m + 1 := ⟨n - 1, by simp at h; omega⟩
    simp only [List.any_cons, List.replicate_succ]
    rw [ih (n := m) (by simpa using h)]
    cases t with
    | nil => simp [fullS]
    | cons x y => simp [fullS]
theorem dok_eq {d : Dsk} : dokV d = rdV d := by
  unfold dokV rdV
  cases hs : shapedV d with
  | false => simp
  | true =>
    obtain ⟨_, h1, h2, h3, _⟩ := shaped_iff hs
    rw [slotsS_eq (by rw [h1, h3]), rings_eq, any_full h1, any_full h2]
    unfold goneB
    by_cases hg : d.1 = 1
    · have hw : decide (d.2.2.2.2.length = 0) = !decide (0 < d.2.2.2.2.length) := by rw [← decide_not]; exact decide_eq_decide.2 (by omega)
      rw [hw]
      simp only [hg, decide_true, Bool.true_and, not_true_eq_false, decide_false, Bool.false_or]
      cases slotsB d.2.1 d.2.2.2.1 <;> cases d.2.2.1.any longR <;> cases d.2.2.2.2.any badP <;> cases decide (d.2.1 ≠ List.replicate 12 []) <;> cases decide (d.2.2.1 ≠ List.replicate 2 []) <;> simp
    · simp only [hg, decide_false, Bool.false_and, Bool.or_false, not_false_eq_true, decide_true, Bool.true_or, Bool.and_true, Bool.not_false, Bool.true_and]
      cases slotsB d.2.1 d.2.2.2.1 <;> cases d.2.2.1.any longR <;> cases d.2.2.2.2.any badP <;> simp
def comeD (d : Dsk) (p : Put) : Dsk := dskOf d.1 (come p (drvOf d)) d.2.2.2.2
def FitD (d : Dsk) : Prop := d.2.1.length ≤ 12 ∧ d.2.2.1.length ≤ 2 ∧ d.2.2.2.1.length ≤ 12 ∧ d.2.2.2.2.length ≤ 40
theorem fit_zero : FitD zeroD := ⟨Nat.zero_le _, Nat.zero_le _, Nat.zero_le _, Nat.zero_le _⟩
theorem fit_mk1 {d : Dsk} (h : FitD d) : 1 ≤ mkDN 1 d ∧ mkDN 1 d ≤ 1000 := by
  obtain ⟨a, b, c, e⟩ := h
  unfold mkDN
  omega
theorem small_mk1 {d : Dsk} (h : SmallD d) : 1 ≤ mkDN 1 d ∧ mkDN 1 d ≤ 10000000 := by
  obtain ⟨a, b, c, e⟩ := h
  unfold mkDN
  omega
theorem crashV_fit {d : Dsk} {k : Int} : FitD (crashV d k) := by
  unfold crashV
  split
  · rename_i h
    have hp := rd_parts h.1
    have hok : (comes (keepB k.toNat d.2.2.2.2) (drvOf d)).ok := comes_ok (drv_ok hp.1)
    obtain ⟨a, b, c⟩ := hok
    exact ⟨Nat.le_of_eq a, Nat.le_of_eq b, Nat.le_of_eq c, Nat.zero_le _⟩
  · exact fit_zero
end Go.Sx
