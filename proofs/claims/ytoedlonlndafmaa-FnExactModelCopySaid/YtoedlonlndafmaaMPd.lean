/- What the draws draw: plain law. -/
import Derived.Test.YtoedlonlndafmaaMPm
import Derived.Test.YtoedlonlndafmaaSxY
set_option linter.all false
namespace Go.Sx
open Go
def nm5 : List Str := [[97], [98], [99, 100], [120, 121, 122], [113]]
def nmV (r : Rd) : Str := nm5.getD (pk r 5).toNat []
def txGo : Nat → Rd → List Str → List Str × Rd
  | 0, r, l => (l, r)
  | k + 1, r, l => txGo k (textR r 9) (l ++ [textV r 9])
def modGo : Nat → Rd → List Shf → List Shf × Rd
  | 0, r, m => (m, r)
  | k + 1, r, m => if 0 ≤ findV m (nmV r) then modGo k (nx r) m else modGo k (txGo 3 (nx r) []).2 (m ++ [(nmV r, (txGo 3 (nx r) []).1)])
def shf0 (m : List Shf) : Shf := m.getD 0 ([], [])
def modX (k : Int) (m : List Shf) : List Shf :=
  if k = 0 then m ++ [shf0 m] else if k = 1 then m.set 0 ([65], (shf0 m).2) else if k = 2 then m.set 0 ((shf0 m).1, (shf0 m).2.drop 1)
  else m.set 0 ((shf0 m).1, (shf0 m).2.set 0 [48, 49, 50, 51, 52, 53, 54, 55, 56, 57])
def modT (m : List Shf) (r : Rd) : List Shf × Rd := if 0 < pk r 12 ∨ m = [] then (m, nx r) else (modX (pk (nx r) 4) m, nx (nx r))
def modG (r : Rd) : List Shf × Rd := modGo (pk r 5).toNat (nx r) []
def modV (r : Rd) : List Shf × Rd := modT (modG r).1 (modG r).2
theorem txGo_ok : ∀ {k : Nat} {r : Rd} {l : List Str} {m m' : Int}, ROk r m → 0 ≤ m' → m' + 19 * k ≤ m → ROk (txGo k r l).2 m' := by
  intro k
  induction k with
  | zero => intro r l m m' h h0 hm; exact h.le (by omega)
  | succ k ih => intro r l m m' h h0 hm; exact ih (m := m' + 19 * k) (textR_ok h (by omega) (by omega) (by omega)) h0 (by omega)
theorem txGo_len : ∀ {k : Nat} {r : Rd} {l : List Str}, (txGo k r l).1.length = l.length + k := by
  intro k
  induction k with
  | zero => intro r l; rfl
  | succ k ih => intro r l; simp only [txGo, ih, List.length_append, List.length_cons, List.length_nil]; omega
theorem modGo_ok : ∀ {k : Nat} {r : Rd} {l : List Shf} {m m' : Int}, ROk r m → 0 ≤ m' → m' + 58 * k ≤ m → ROk (modGo k r l).2 m' := by
  intro k
  induction k with
  | zero => intro r l m m' h h0 hm; exact h.le (by omega)
  | succ k ih =>
    intro r l m m' h h0 hm
    simp only [modGo]
    split
    · exact ih (m := m' + 58 * k) (h.nx (by omega)) h0 (by omega)
    · exact ih (m := m' + 58 * k) (txGo_ok (m := m' + 58 * k + 57) (h.nx (by omega)) (by omega) (by omega)) h0 (by omega)
theorem modT_ok {m : List Shf} {r : Rd} {a b : Int} (h : ROk r a) (hb : b + 2 ≤ a) : ROk (modT m r).2 b := by
  unfold modT
  split
  · exact h.nx (by omega)
  · exact (h.nx (m' := b + 1) (by omega)).nx (by omega)
theorem modV_ok {r : Rd} (h : ROk r 400) : ROk (modV r).2 100 := by
  have hb := pk_bd h (by omega) (n := 5) (by omega)
  refine modT_ok (a := 102) (modGo_ok (m := 399) (h.nx (by omega)) (by omega) ?_) (by omega)
  omega
theorem modGo_len : ∀ {k : Nat} {r : Rd} {l : List Shf}, (modGo k r l).1.length ≤ l.length + k := by
  intro k
  induction k with
  | zero => intro r l; exact Nat.le_refl _
  | succ k ih =>
    intro r l
    simp only [modGo]
    split
    · have := ih (r := nx r) (l := l); omega
    · refine Nat.le_trans ih ?_; simp only [List.length_append, List.length_cons, List.length_nil]; omega
/-- a model of a size that any room holds -/
def Fit (m : List Shf) : Prop := m.length ≤ 5 ∧ ∀ s ∈ m, s.2.length ≤ 3
def Thr (m : List Shf) : Prop := ∀ s ∈ m, s.2.length = 3
theorem Thr.add {m : List Shf} (h : Thr m) {a : Str} {l : List Str} (hl : l.length = 3) : Thr (m ++ [(a, l)]) := fun s hs => by
  rcases List.mem_append.1 hs with h' | h'
  · exact h s h'
  · rcases List.mem_singleton.1 h' with rfl; exact hl
theorem Thr.nil : Thr [] := fun s h => by cases h
theorem modGo_thr : ∀ {k : Nat} {r : Rd} {l : List Shf}, Thr l → Thr (modGo k r l).1 := by
  intro k
  induction k with
  | zero => intro r l h; exact h
  | succ k ih =>
    intro r l h
    simp only [modGo]
    split
    · exact ih h
    · exact ih (h.add (txGo_len (k := 3)))
theorem Thr.shf0 {m : List Shf} (h : Thr m) (hm : m ≠ []) : (shf0 m).2.length = 3 := by
  cases m with
  | nil => exact absurd rfl hm
  | cons a r => exact h a List.mem_cons_self
theorem modT_fit {m : List Shf} {r : Rd} (h4 : m.length ≤ 4) (h : Thr m) : Fit (modT m r).1 := by
  unfold modT
  split
  · exact ⟨by simpa using (by omega : m.length ≤ 5), fun s hs => by rw [h s hs]; exact Nat.le_refl _⟩
  · rename_i hn
    have hm : m ≠ [] := fun e => hn (.inr e)
    have h0 := h.shf0 hm
    have set_fit : ∀ (x : Shf), x.2.length ≤ 3 → Fit (m.set 0 x) := fun x hx => ⟨by rw [List.length_set]; omega, fun s hs => by
      rcases List.mem_or_eq_of_mem_set hs with h' | h'
      · rw [h s h']; exact Nat.le_refl _
      · rw [h']; exact hx⟩
    show Fit (modX _ _)
    unfold modX
    split
    · refine ⟨by simp; omega, fun s hs => ?_⟩
      rcases List.mem_append.1 hs with h' | h'
      · rw [h s h']; exact Nat.le_refl _
      · rw [List.mem_singleton.1 h', h0]; exact Nat.le_refl _
    · split
      · exact set_fit _ (by simp only [h0]; exact Nat.le_refl _)
      · split
        · exact set_fit _ (by simp only [List.length_drop, h0]; omega)
        · exact set_fit _ (by simp only [List.length_set, h0]; exact Nat.le_refl _)
theorem modV_fit {r : Rd} (h : ROk r 400) : Fit (modV r).1 := by
  have hb := pk_bd h (by omega) (n := 5) (by omega)
  refine modT_fit ?_ (modGo_thr Thr.nil)
  refine Nat.le_trans modGo_len ?_
  simp only [List.length_nil]
  omega
theorem modGo_skip {k : Nat} {R : Rd} {out : List Shf} {v : List Shf × Rd} (h : modGo (k + 1) R out = v) (c : 0 ≤ findV out (nmV R)) : modGo k (nx R) out = v := by
  rw [← h]; simp only [modGo]; rw [if_pos c]
theorem modGo_more {k : Nat} {R : Rd} {out : List Shf} {v : List Shf × Rd} (h : modGo (k + 1) R out = v) (c : ¬ 0 ≤ findV out (nmV R)) : v = modGo k (txGo 3 (nx R) []).2 (out ++ [(nmV R, (txGo 3 (nx R) []).1)]) := by
  rw [← h]; simp only [modGo]; rw [if_neg c]
theorem modV_a {r R : Rd} {out : List Shf} (h : (out, R) = modG r) (h2 : 0 < pk R 12 ∨ out = []) : modV r = (out, nx R) := by
  unfold modV modT; rw [← h, if_pos h2]
theorem modV_b {r R : Rd} {out : List Shf} (h : (out, R) = modG r) (h2 : ¬ 0 < pk R 12) (h3 : ¬ out = []) : modV r = (modX (pk (nx R) 4) out, nx (nx R)) := by
  unfold modV modT; rw [← h, if_neg (by rintro (h | h); exact h2 h; exact h3 h)]
def nmE : List Str := [[97], [110], [113], [65], []]
def nmX (r : Rd) (m : List Shf) : Str × Rd :=
  if 0 < m.length then (if 0 < pk r 5 then ((m.getD (pk (nx r) m.length).toNat ([], [])).1, nx (nx r)) else (nmE.getD (pk (nx r) 5).toNat [], nx (nx r)))
  else (nmE.getD (pk r 5).toNat [], nx r)
theorem nmX_a {r : Rd} {m : List Shf} (h : 0 < m.length) (h2 : 0 < pk r 5) : nmX r m = ((m.getD (pk (nx r) m.length).toNat ([], [])).1, nx (nx r)) := by unfold nmX; rw [if_pos h, if_pos h2]
theorem nmX_b {r : Rd} {m : List Shf} (h : 0 < m.length) (h2 : ¬ 0 < pk r 5) : nmX r m = (nmE.getD (pk (nx r) 5).toNat [], nx (nx r)) := by unfold nmX; rw [if_pos h, if_neg h2]
theorem nmX_c {r : Rd} {m : List Shf} (h : ¬ 0 < m.length) : nmX r m = (nmE.getD (pk r 5).toNat [], nx r) := by unfold nmX; rw [if_neg h]
theorem nmX_ok {r : Rd} (h : ROk r 100) (m : List Shf) : ROk (nmX r m).2 98 := by
  unfold nmX
  split
  · split
    · exact (h.nx (m' := 99) (by omega)).nx (by omega)
    · exact (h.nx (m' := 99) (by omega)).nx (by omega)
  · exact h.nx (by omega)
def rd0 (code : List Int) : Rd := (code.take 2000, 0)
theorem rd0_ok {code : List Int} (h : Ok (.sl (.int .u8)) code) : ROk (rd0 code) 400 := by
  refine ⟨fun v hv => ?_, ?_, Int.le_refl _, ?_⟩
  · have := h.2 v (List.mem_of_mem_take hv)
    have : inR .u8 v := this
    rwa [inR_u8] at this
  · simp only [rd0, List.length_take]; omega
  · show (0 : Int) + 400 ≤ _; omega
def nmK : List Str := [[97], [110], [111], [112, 113], [65], [108, 111, 110, 103]]
def nmC : List Str := [[110], [111], [112, 113], [97], [65]]
def dMake (code : List Int) : List Shf × Str := ((modV (rd0 code)).1, nmK.getD (pk (modV (rd0 code)).2 6).toNat [])
def dDrop (code : List Int) : List Shf × Str := ((modV (rd0 code)).1, (nmX (modV (rd0 code)).2 (modV (rd0 code)).1).1)
def dCopy (code : List Int) : List Shf × Str × Str := ((modV (rd0 code)).1, (nmX (modV (rd0 code)).2 (modV (rd0 code)).1).1, nmC.getD (pk (nmX (modV (rd0 code)).2 (modV (rd0 code)).1).2 5).toNat [])
def dwB (r : Rd) : Int := pk r 3 + (pk (nx r) 24).tdiv 23 - (pk (nx (nx r)) 24).tdiv 23 * 4
def dwL (r : Rd) : Int := 9 + (pk (nx (nx (nx r))) 12).tdiv 11
def dwT (r : Rd) : Str := textV (nx (nx (nx (nx r)))) (dwL r)
def dWrite (code : List Int) : List Shf × Str × Int × Str := ((modV (rd0 code)).1, (nmX (modV (rd0 code)).2 (modV (rd0 code)).1).1, dwB (nmX (modV (rd0 code)).2 (modV (rd0 code)).1).2, dwT (nmX (modV (rd0 code)).2 (modV (rd0 code)).1).2)
theorem tdiv_bd {x n : Int} (h : 0 ≤ x) (hn : 0 ≤ n) : 0 ≤ x.tdiv n ∧ x.tdiv n ≤ x := ⟨Int.tdiv_nonneg h hn, Int.tdiv_le_self _ h⟩
theorem dw_bd {r : Rd} (h : ROk r 98) : (0 ≤ pk r 3 ∧ pk r 3 < 3) ∧ (0 ≤ (pk (nx r) 24).tdiv 23 ∧ (pk (nx r) 24).tdiv 23 < 24) ∧ (0 ≤ (pk (nx (nx r)) 24).tdiv 23 ∧ (pk (nx (nx r)) 24).tdiv 23 < 24) ∧ (0 ≤ (pk (nx (nx (nx r))) 12).tdiv 11 ∧ (pk (nx (nx (nx r))) 12).tdiv 11 ≤ 1) ∧ ROk (nx r) 97 ∧ ROk (nx (nx r)) 96 ∧ ROk (nx (nx (nx r))) 95 ∧ ROk (nx (nx (nx (nx r)))) 94 := by
  have a1 : ROk (nx r) 97 := h.nx (by omega)
  have a2 : ROk (nx (nx r)) 96 := a1.nx (by omega)
  have a3 : ROk (nx (nx (nx r))) 95 := a2.nx (by omega)
  have a4 : ROk (nx (nx (nx (nx r)))) 94 := a3.nx (by omega)
  have b1 := pk_bd h (by omega) (n := 3) (by omega)
  have b2 := pk_bd a1 (by omega) (n := 24) (by omega)
  have b3 := pk_bd a2 (by omega) (n := 24) (by omega)
  have b4 := pk_bd a3 (by omega) (n := 12) (by omega)
  have c2 := tdiv_bd (n := 23) b2.1 (by omega)
  have c3 := tdiv_bd (n := 23) b3.1 (by omega)
  refine ⟨b1, ⟨c2.1, by omega⟩, ⟨c3.1, by omega⟩, ⟨Int.tdiv_nonneg b4.1 (by omega), ?_⟩, a1, a2, a3, a4⟩
  have := Int.tdiv_eq_ediv_of_nonneg b4.1 (b := 11)
  omega
end Go.Sx
