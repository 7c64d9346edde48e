/- Disks drawn from bytes: plain law. -/
import Derived.Test.YtbnmeeajooljmaaMPr
set_option linter.all false
namespace Go.Sx
open Go
def secT (s : Str) : Str := (s ++ List.replicate (3 - s.length) 0).take 3
theorem secT_len {s : Str} : (secT s).length = 3 := by simp [secT]; omega
theorem secT_next {s : Str} (h : s.length < 3) : secT (s ++ [0]) = secT s := by
  unfold secT
  rw [List.append_assoc, List.length_append, List.length_singleton, show 3 - s.length = (3 - (s.length + 1)) + 1 by omega, List.replicate_succ]
  rfl
theorem secT_end {s : Str} (h : ¬ s.length < 3) : secT s = s.take 3 := by
  unfold secT
  rw [show 3 - s.length = 0 by omega, List.replicate_zero, List.append_nil]
def putG (r : Rd) : Put := if pk r 4 = 0 then (true, pk (nx r) 2, textV (nx (nx r)) 6) else (false, pk (nx r) 12, secT (textV (nx (nx r)) 3))
def putQ (r : Rd) : Rd := if pk r 4 = 0 then textR (nx (nx r)) 6 else textR (nx (nx r)) 3
theorem putG_ok {r : Rd} {m : Int} (h : ROk r m) (hm : 20 ≤ m) : putV (putG r) = true := by
  have h1 : ROk (nx r) 19 := h.nx (by omega)
  have h2 : ROk (nx (nx r)) 18 := h1.nx (by omega)
  unfold putG
  split
  · have a := pk_bd h1 (by omega) (n := 2) (by omega)
    have b := textV_len h2 (by omega) (most := 6) (by omega)
    simp only [putV, if_true]
    exact decide_eq_true ⟨a.1, a.2, by omega⟩
  · have a := pk_bd h1 (by omega) (n := 12) (by omega)
    simp only [putV, Bool.false_eq_true, if_false]
    exact decide_eq_true ⟨a.1, a.2, secT_len⟩
theorem putQ_ok {r : Rd} {m m' : Int} (h : ROk r m) (hm : m' + 20 ≤ m) (h0 : 0 ≤ m') : ROk (putQ r) m' := by
  have h1 : ROk (nx r) (m' + 19) := h.nx (by omega)
  have h2 : ROk (nx (nx r)) (m' + 18) := h1.nx (by omega)
  unfold putQ
  split
  · exact textR_ok h2 (by omega) (by omega) (by omega)
  · exact textR_ok h2 (by omega) (by omega) (by omega)
/-- what the drawn disks keep -/
structure DrOk (d : Dsk) : Prop where
  drv : (drvOf d).ok
  wait : d.2.2.2.2.any badP = false
  len : d.2.2.2.2.length ≤ 40
  col : d.2.1.all colS = true
theorem newD_ok {n : Int} : DrOk (newD n) := by
  refine ⟨⟨by simp [drvOf, newD], by simp [drvOf, newD], by simp [drvOf, newD]⟩, rfl, by simp [newD], ?_⟩
  simp [newD, colS]
theorem all_set {p : Str → Bool} {l : List Str} {i : Nat} {x : Str} (h : l.all p = true) (hx : p x = true) : (l.set i x).all p = true := by
  rw [List.all_eq_true] at h ⊢
  intro y hy
  rcases List.mem_or_eq_of_mem_set hy with hy | rfl
  · exact h y hy
  · exact hx
theorem come_col {p : Put} {t : Drv} (hp : putV p = true) (h : t.1.all colS = true) : (come p t).1.all colS = true := by
  unfold come
  split
  · exact h
  · rename_i hr
    exact all_set h (by have := putV_slot hp (by simpa using hr); simp [colS, this.2.2])
theorem comes_col {l : List Put} : ∀ {t : Drv}, l.any badP = false → t.1.all colS = true → (comes l t).1.all colS = true := by
  induction l with
  | nil => intro t _ h; exact h
  | cons p r ih =>
    intro t hw h
    simp only [List.any_cons, Bool.or_eq_false_iff, badP, Bool.not_eq_false'] at hw
    exact ih hw.2 (come_col hw.1 h)
theorem flush_DrOk {d : Dsk} (h : DrOk d) : DrOk (dskOf d.1 (comes d.2.2.2.2 (drvOf d)) []) :=
  ⟨comes_ok h.drv, rfl, Nat.zero_le _, comes_col h.wait h.col⟩
theorem write_DrOk {d : Dsk} {p : Put} (h : DrOk d) (hp : putV p = true) : DrOk (writeD d p) := by
  have hb : badP p = false := by simp [badP, hp]
  refine ⟨putU_ok h.drv, ?_, putM_len h.len, ?_⟩
  · show (putM d.1 d.2.2.2.2 p).any badP = false
    unfold putM putW
    split
    · exact h.wait
    · split
      · simp [hb]
      · rw [List.any_append, h.wait]; simp [hb]
  · show (putU d.1 d.2.2.2.2 (drvOf d)).1.all colS = true
    unfold putU putT
    split
    · exact h.col
    · split
      · exact comes_col h.wait h.col
      · exact h.col
theorem spoil_DrOk {d : Dsk} {a b c : Int} (h : DrOk d) : DrOk (spoilV d a b c) := by
  unfold spoilV
  split
  · exact h
  · rename_i hn
    have hd := h.drv
    refine ⟨⟨by simpa [drvOf] using hd.1, hd.2.1, by simpa [drvOf] using hd.2.2⟩, h.wait, h.len, ?_⟩
    show (d.2.1.set _ _).all colS = true
    refine all_set h.col ?_
    by_cases hm : a.toNat < d.2.1.length
    · have h1 := List.all_eq_true.1 h.col (d.2.1.getD a.toNat []) (by rw [List.getD_eq_getElem?_getD, List.getElem?_eq_getElem hm]; exact List.getElem_mem hm)
      simp only [colS, Bool.or_eq_true, decide_eq_true_eq] at h1 ⊢
      rcases h1 with h1 | h1
      · exact absurd (.inl h1) hn
      · exact .inr (by rw [xorT_len]; exact h1)
    · exact absurd (.inl (by rw [List.getD_eq_getElem?_getD, List.getElem?_eq_none (by omega)]; rfl)) hn
/-- one round of the drawing -/
def stD1 (d : Dsk) (r : Rd) : Dsk := writeD d (putG r)
def stD2 (d : Dsk) (r : Rd) : Dsk := if pk r 3 = 0 then dskOf d.1 (comes d.2.2.2.2 (drvOf d)) [] else d
def stD3 (d : Dsk) (r : Rd) : Dsk := if pk r 5 = 0 then spoilV d (pk (nx r) 12) (pk (nx (nx r)) 3) (1 + pk (nx (nx (nx r))) 255) else d
def stR3 (r : Rd) : Rd := if pk r 5 = 0 then nx (nx (nx (nx r))) else nx r
def stD (d : Dsk) (r : Rd) : Dsk := stD3 (stD2 (stD1 d r) (putQ r)) (nx (putQ r))
def stR (r : Rd) : Rd := stR3 (nx (putQ r))
def loopG : Nat → Dsk → Rd → Dsk × Rd
  | 0, d, r => (d, r)
  | k + 1, d, r => loopG k (stD d r) (stR r)
theorem stR_ok {r : Rd} {m m' : Int} (h : ROk r m) (hm : m' + 30 ≤ m) (h0 : 0 ≤ m') : ROk (stR r) m' := by
  have h1 : ROk (putQ r) (m' + 10) := putQ_ok h (by omega) (by omega)
  have h2 : ROk (nx (putQ r)) (m' + 9) := h1.nx (by omega)
  unfold stR stR3
  split
  · exact (((h2.nx (m' := m' + 8) (by omega)).nx (m' := m' + 7) (by omega)).nx (m' := m' + 6) (by omega)).nx (by omega)
  · exact h2.nx (by omega)
theorem stD_ok {d : Dsk} {r : Rd} {m : Int} (h : DrOk d) (hr : ROk r m) (hm : 20 ≤ m) : DrOk (stD d r) := by
  have h1 : DrOk (stD1 d r) := write_DrOk h (putG_ok hr hm)
  have h2 : DrOk (stD2 (stD1 d r) (putQ r)) := by
    unfold stD2
    split
    · exact flush_DrOk h1
    · exact h1
  unfold stD stD3
  split
  · exact spoil_DrOk h2
  · exact h2
/-- more writes than may wait -/
def fillG : Nat → List Put → Rd → List Put × Rd
  | 0, l, r => (l, r)
  | k + 1, l, r => if (l.length : Int) < 40 + pk r 2 then fillG k (l ++ [putG (nx r)]) (putQ (nx r)) else (l, nx r)
theorem fillG_next {k : Nat} {l : List Put} {r : Rd} (h : (l.length : Int) < 40 + pk r 2) : fillG (k + 1) l r = fillG k (l ++ [putG (nx r)]) (putQ (nx r)) := by simp only [fillG, if_pos h]
theorem fillG_end {k : Nat} {l : List Put} {r : Rd} (h : ¬ (l.length : Int) < 40 + pk r 2) : fillG (k + 1) l r = (l, nx r) := by simp only [fillG, if_neg h]
def abT : Str := [97, 98]
def abcT : Str := [97, 98, 99]
def xyzT : Str := [120, 121, 122]
def aT : Str := [97]
def harmG (d : Dsk) (r : Rd) : Dsk × Rd :=
  if pk r 30 = 0 then ((List.getD [(-1 : Int), 3, 1] (pk (nx r) 3).toNat 0, d.2), nx (nx r))
  else if pk r 30 = 1 then ((d.1, d.2.1.set (pk (nx r) 12).toNat abT, d.2.2), nx (nx r))
  else if pk r 30 = 2 then ((d.1, d.2.1, d.2.2.1, d.2.2.2.1.set (pk (nx r) 12).toNat true, d.2.2.2.2), nx (nx r))
  else if pk r 30 = 3 then ((d.1, d.2.1, d.2.2.1, d.2.2.2.1, d.2.2.2.2 ++ [(false, 12, abcT)]), nx r)
  else if pk r 30 = 4 then ((d.1, d.2.1, d.2.2.1, d.2.2.2.1, (fillG 50 d.2.2.2.2 (nx r)).1), (fillG 50 d.2.2.2.2 (nx r)).2)
  else if pk r 30 = 5 then ((d.1, d.2.1, d.2.2.1.drop 1, d.2.2.2.1, d.2.2.2.2), nx r)
  else (d, nx r)
def drawS (r : Rd) : Int := List.getD [(0 : Int), 0, 2, 1] (pk r 4).toNat 0
theorem drawS_bd {r : Rd} : 0 ≤ drawS r ∧ drawS r ≤ 2 := by
  unfold drawS
  generalize (pk r 4).toNat = n
  rcases n with _ | _ | _ | _ | n <;> simp [List.getD]
def drawL (r : Rd) : Dsk × Rd := loopG (pk (nx r) 12).toNat (newD (drawS r)) (nx (nx r))
@[irreducible] def drawD (r : Rd) : Dsk := (harmG (drawL r).1 (drawL r).2).1
@[irreducible] def drawR (r : Rd) : Rd := (harmG (drawL r).1 (drawL r).2).2
end Go.Sx
