/- Marks: plain law. -/
import Derived.Test.YtoedlonlndafmaaMPi
set_option linter.all false
namespace Go.Sx
open Go
def digX (k : Nat) (out : Str) : Str := if h : k = 0 then out else digX (k / 10) (UInt8.ofNat (48 + k % 10) :: out)
  termination_by k
  decreasing_by omega
theorem digX_zero {out : Str} : digX 0 out = out := by rw [digX]; rfl
theorem digX_step {k : Nat} {out : Str} (h : k ≠ 0) : digX k out = digX (k / 10) (UInt8.ofNat (48 + k % 10) :: out) := by rw [digX, dif_neg h]
def mkT (k : Int) : Str := if k ≤ 0 then [109, 48] else 109 :: digX k.toNat []
def mkL : Int → List Str → List Str
  | _, [] => []
  | k, _ :: r => mkT k :: mkL (k + 1) r
def mrkS : Int → List Shf → List Shf
  | _, [] => []
  | k, s :: r => (mkT k, mkL (k + 1) s.2) :: mrkS (k + 1 + s.2.length) r
def mkN : Int → List Shf → Int
  | k, [] => k
  | k, s :: r => mkN (k + 1 + s.2.length) r
theorem mkL_len : ∀ {l : List Str} {k : Int}, (mkL k l).length = l.length := by
  intro l
  induction l with
  | nil => intro k; rfl
  | cons a r ih => intro k; simp [mkL, ih]
theorem mkL_app : ∀ {a : List Str} {x : Str} {k : Int}, mkL k (a ++ [x]) = mkL k a ++ [mkT (k + a.length)] := by
  intro a
  induction a with
  | nil => intro x k; simp [mkL]
  | cons b r ih =>
    intro x k
    simp only [List.cons_append, mkL, ih, List.length_cons]
    congr 3; congr 1; push_cast; omega
theorem mkL_next {l : List Str} {k : Int} {i : Nat} (hlt : i < l.length) : (mkL k (l.take i) ++ l.drop i).set i (mkT (k + i)) = mkL k (l.take (i + 1)) ++ l.drop (i + 1) := by
  have hl : (mkL k (l.take i)).length = i := by rw [mkL_len, List.length_take]; omega
  rw [List.set_append_right _ _ (by omega), hl, Nat.sub_self, drop_at hlt, List.set_cons_zero, List.take_succ_eq_append_getElem hlt, mkL_app, List.length_take, show min i l.length = i by omega, List.append_assoc]
  rfl
theorem mrkS_len : ∀ {l : List Shf} {k : Int}, (mrkS k l).length = l.length := by
  intro l
  induction l with
  | nil => intro k; rfl
  | cons a r ih => intro k; simp [mrkS, ih]
theorem mrkS_app : ∀ {a : List Shf} {x : Shf} {k : Int}, mrkS k (a ++ [x]) = mrkS k a ++ [(mkT (mkN k a), mkL (mkN k a + 1) x.2)] := by
  intro a
  induction a with
  | nil => intro x k; simp [mrkS, mkN]
  | cons b r ih => intro x k; simp only [List.cons_append, mrkS, mkN, ih]
theorem mkN_app : ∀ {a : List Shf} {x : Shf} {k : Int}, mkN k (a ++ [x]) = mkN k a + 1 + x.2.length := by
  intro a
  induction a with
  | nil => intro x k; simp [mkN]
  | cons b r ih => intro x k; simp only [List.cons_append, mkN, ih]
theorem mrkS_next {l : List Shf} {k : Int} {i : Nat} (hlt : i < l.length) : (mrkS k (l.take i) ++ l.drop i).set i (mkT (mkN k (l.take i)), mkL (mkN k (l.take i) + 1) l[i].2) = mrkS k (l.take (i + 1)) ++ l.drop (i + 1) := by
  have hl : (mrkS k (l.take i)).length = i := by rw [mrkS_len, List.length_take]; omega
  rw [List.set_append_right _ _ (by omega), hl, Nat.sub_self, drop_at hlt, List.set_cons_zero, List.take_succ_eq_append_getElem hlt, mrkS_app, List.append_assoc]
  rfl
theorem mrkS_get {l : List Shf} {k : Int} {i : Nat} (hlt : i < l.length) : (mrkS k (l.take i) ++ l.drop i)[i]? = some l[i] := by
  have hl : (mrkS k (l.take i)).length = i := by rw [mrkS_len, List.length_take]; omega
  rw [List.getElem?_append_right (by omega), hl, Nat.sub_self, drop_at hlt]; rfl
theorem mrkS_clen {l : List Shf} {k : Int} {i : Nat} (hi : i ≤ l.length) : (mrkS k (l.take i) ++ l.drop i).length = l.length := by
  rw [List.length_append, mrkS_len, List.length_take, List.length_drop]; omega
theorem mkL_clen {l : List Str} {k : Int} {i : Nat} (hi : i ≤ l.length) : (mkL k (l.take i) ++ l.drop i).length = l.length := by
  rw [List.length_append, mkL_len, List.length_take, List.length_drop]; omega
theorem mkN_ge : ∀ {l : List Shf} {k : Int}, k ≤ mkN k l := by
  intro l
  induction l with
  | nil => intro k; exact Int.le_refl _
  | cons a r ih => intro k; simp only [mkN]; have := ih (k := k + 1 + a.2.length); omega
theorem mkN_split {l : List Shf} {k : Int} {i : Nat} (hlt : i < l.length) : mkN k (l.take i) + 1 + l[i].2.length ≤ mkN k l := by
  have h1 : mkN k l = mkN (mkN k (l.take (i + 1))) (l.drop (i + 1)) := by
    have key : ∀ (a b : List Shf) (k : Int), mkN k (a ++ b) = mkN (mkN k a) b := by
      intro a
      induction a with
      | nil => intro b k; rfl
      | cons s r ih => intro b k; simp only [List.cons_append, mkN, ih]
    rw [← key, List.take_append_drop]
  rw [h1, List.take_succ_eq_append_getElem hlt, mkN_app]
  exact mkN_ge
theorem mkL_idem : ∀ {l : List Str} {k : Int}, mkL k (mkL k l) = mkL k l := by
  intro l
  induction l with
  | nil => intro k; rfl
  | cons a r ih => intro k; simp only [mkL, ih]
theorem mrkS_idem : ∀ {l : List Shf} {k : Int}, mrkS k (mrkS k l) = mrkS k l := by
  intro l
  induction l with
  | nil => intro k; rfl
  | cons a r ih => intro k; simp only [mrkS, mkL_idem, mkL_len, ih]
theorem mkN_mrkS : ∀ {l : List Shf} {k : Int}, mkN k (mrkS k l) = mkN k l := by
  intro l
  induction l with
  | nil => intro k; rfl
  | cons a r ih => intro k; simp only [mrkS, mkN, mkL_len, ih]
/-- whether the marks are still there -/
def hdL (k : Int) : List Str → Int
  | [] => k
  | s :: r => if s = mkT k then hdL (k + 1) r else -1
def hdS (k : Int) : List Shf → Int
  | [] => k
  | s :: r => if s.1 = mkT k then (if hdL (k + 1) s.2 < 0 then -1 else hdS (hdL (k + 1) s.2) r) else -1
theorem hdL_val : ∀ {l : List Str} {k : Int}, hdL k l = -1 ∨ hdL k l = k + l.length := by
  intro l
  induction l with
  | nil => intro k; right; simp [hdL]
  | cons a r ih =>
    intro k
    simp only [hdL]
    split
    · rcases ih (k := k + 1) with h | h
      · exact .inl h
      · right; rw [h]; simp only [List.length_cons]; push_cast; omega
    · exact .inl rfl
theorem hdL_next {l : List Str} {k v : Int} {i : Nat} (hlt : i < l.length) (h : hdL (k + i) (l.drop i) = v) (he : l[i] = mkT (k + i)) : hdL (k + (i + 1 : Nat)) (l.drop (i + 1)) = v := by
  rw [drop_at hlt] at h; simp only [hdL] at h; rw [if_pos he] at h; rw [← h]; congr 1; push_cast; omega
theorem hdL_hit {l : List Str} {k v : Int} {i : Nat} (hlt : i < l.length) (h : hdL (k + i) (l.drop i) = v) (he : ¬ l[i] = mkT (k + i)) : v = -1 := by
  rw [drop_at hlt] at h; simp only [hdL] at h; rw [if_neg he] at h; exact h.symm
theorem hdL_end {l : List Str} {k v : Int} (h : hdL k (l.drop l.length) = v) : v = k := by
  rw [List.drop_length] at h; exact h.symm
theorem hdS_next {l : List Shf} {k v : Int} {i : Nat} (hlt : i < l.length) (h : hdS k (l.drop i) = v) (he : l[i].1 = mkT k) (h2 : ¬ hdL (k + 1) l[i].2 < 0) : hdS (hdL (k + 1) l[i].2) (l.drop (i + 1)) = v := by
  rw [drop_at hlt] at h; simp only [hdS] at h; rwa [if_pos he, if_neg h2] at h
theorem hdS_hit {l : List Shf} {k v : Int} {i : Nat} (hlt : i < l.length) (h : hdS k (l.drop i) = v) (he : ¬ l[i].1 = mkT k) : v = -1 := by
  rw [drop_at hlt] at h; simp only [hdS] at h; rw [if_neg he] at h; exact h.symm
theorem hdS_hit2 {l : List Shf} {k v : Int} {i : Nat} (hlt : i < l.length) (h : hdS k (l.drop i) = v) (he : l[i].1 = mkT k) (h2 : hdL (k + 1) l[i].2 < 0) : v = -1 := by
  rw [drop_at hlt] at h; simp only [hdS] at h; rw [if_pos he, if_pos h2] at h; exact h.symm
theorem hdS_end {l : List Shf} {k v : Int} (h : hdS k (l.drop l.length) = v) : v = k := by
  rw [List.drop_length] at h; exact h.symm
theorem mkN_drop {l : List Shf} {k : Int} {i : Nat} (hlt : i < l.length) : mkN k (l.drop i) = mkN (k + 1 + l[i].2.length) (l.drop (i + 1)) := by
  rw [drop_at hlt]; rfl
theorem hdS_ge : ∀ {l : List Shf} {k : Int}, -1 ≤ k → -1 ≤ hdS k l := by
  intro l
  induction l with
  | nil => intro k h; exact h
  | cons a r ih =>
    intro k h
    simp only [hdS]
    split
    · split
      · exact Int.le_refl _
      · exact ih (by omega)
    · exact Int.le_refl _
theorem hdS_neg {l : List Shf} {k : Int} (h0 : 0 ≤ k) (h : hdS k l < 0) : hdS k l = -1 := by have := hdS_ge (l := l) (k := k) (by omega); omega
theorem hdL_mk : ∀ {l : List Str} {k : Int}, hdL k (mkL k l) = k + l.length := by
  intro l
  induction l with
  | nil => intro k; simp [mkL, hdL]
  | cons a r ih => intro k; simp only [mkL, hdL, if_pos, ih, List.length_cons]; push_cast; omega
theorem hdS_mk : ∀ {l : List Shf} {k : Int}, 0 ≤ k → hdS k (mrkS k l) = mkN k l := by
  intro l
  induction l with
  | nil => intro k _; rfl
  | cons a r ih =>
    intro k h
    simp only [mrkS, hdS, if_pos, hdL_mk, mkN]
    rw [if_neg (by omega), ih (by omega)]
end Go.Sx
