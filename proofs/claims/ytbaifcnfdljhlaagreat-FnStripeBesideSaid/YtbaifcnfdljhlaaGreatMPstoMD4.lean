/- Several texts, one behind the other. -/
import Derived.Test.YtbaifcnfdljhlaaGreatMOpentoMPr
import Derived.Laws.BytesString
import Derived.Lib.BufferWrite
import Derived.Laws.MakeOwn
import Derived.Laws.EntriesVeiled
set_option linter.all false
namespace Go.Sx
open Go
def secT (s : Str) : Str := (s ++ List.replicate (3 - s.length) 0).take 3
theorem secT_len {s : Str} : (secT s).length = 3 := by simp [secT]; omega
theorem secT_next {s : Str} (h : s.length < 3) : secT (s ++ [0]) = secT s := by
 unfold secT
 rw [List.append_assoc, List.length_append, List.length_singleton, show 3 - s.length = (3 - (s.length + 1)) + 1 by omega, List.replicate_succ]
 rfl
theorem secT_end {s : Str} (h : ¬ s.length < 3) : secT s = s.take 3 := by
 unfold secT
 rw [show 3 - s.length = 0 by omega, List.replicate_zero, List.append_nil]
def putG (r : Rd) : Put := if pk r 4 = 0 then (true, pk (nx r) 2, textV (nx (nx r)) 6) else (false, pk (nx r) 12, secT (textV (nx (nx r)) 3))
def putQ (r : Rd) : Rd := if pk r 4 = 0 then textR (nx (nx r)) 6 else textR (nx (nx r)) 3
theorem putG_ok {r : Rd} {m : Int} (h : ROk r m) (hm : 20 ≤ m) : putV (putG r) = true := by
 have h1 : ROk (nx r) 19 := h.nx (by omega)
 have h2 : ROk (nx (nx r)) 18 := h1.nx (by omega)
 unfold putG
 split
 ·have a := pk_bd h1 (by omega) (n := 2) (by omega)
  have b := textV_len h2 (by omega) (most := 6) (by omega)
  simp only [putV, if_true]
  exact decide_eq_true ⟨a.1, a.2, by omega⟩
 ·have a := pk_bd h1 (by omega) (n := 12) (by omega)
  simp only [putV, Bool.false_eq_true, if_false]
  exact decide_eq_true ⟨a.1, a.2, secT_len⟩
theorem putQ_ok {r : Rd} {m m' : Int} (h : ROk r m) (hm : m' + 20 ≤ m) (h0 : 0 ≤ m') : ROk (putQ r) m' := by
 have h1 : ROk (nx r) (m' + 19) := h.nx (by omega)
 have h2 : ROk (nx (nx r)) (m' + 18) := h1.nx (by omega)
 unfold putQ
 split
 ·exact textR_ok h2 (by omega) (by omega) (by omega)
 ·exact textR_ok h2 (by omega) (by omega) (by omega)
structure DrOk (d : Dsk) : Prop where
 drv : (drvOf d).ok
 wait : d.2.2.2.2.any badP = false
 len : d.2.2.2.2.length ≤ 40
 col : d.2.1.all colS = true
theorem newD_ok {n : Int} : DrOk (newD n) := by
 refine ⟨⟨by simp [drvOf, newD], by simp [drvOf, newD], by simp [drvOf, newD]⟩, rfl, by simp [newD], ?_⟩
 simp [newD, colS]
theorem all_set {p : Str → Bool} {l : List Str} {i : Nat} {x : Str} (h : l.all p = true) (hx : p x = true) : (l.set i x).all p = true := by
 rw [List.all_eq_true] at h ⊢
 intro y hy
 rcases List.mem_or_eq_of_mem_set hy with hy | rfl
 ·exact h y hy
 ·exact hx
theorem come_col {p : Put} {t : Drv} (hp : putV p = true) (h : t.1.all colS = true) : (come p t).1.all colS = true := by
 unfold come
 split
 ·exact h
 ·rename_i hr
  exact all_set h (by have := putV_slot hp (by simpa using hr); simp [colS, this.2.2])
theorem comes_col {l : List Put} : ∀ {t : Drv}, l.any badP = false → t.1.all colS = true → (comes l t).1.all colS = true := by
 induction l with
 | nil => intro t _ h; exact h
 | cons p r ih =>
  intro t hw h
  simp only [List.any_cons, Bool.or_eq_false_iff, badP, Bool.not_eq_false'] at hw
  exact ih hw.2 (come_col hw.1 h)
theorem flush_DrOk {d : Dsk} (h : DrOk d) : DrOk (dskOf d.1 (comes d.2.2.2.2 (drvOf d)) []) :=
 ⟨comes_ok h.drv, rfl, Nat.zero_le _, comes_col h.wait h.col⟩
theorem write_DrOk {d : Dsk} {p : Put} (h : DrOk d) (hp : putV p = true) : DrOk (writeD d p) := by
 have hb : badP p = false := by simp [badP, hp]
 refine ⟨putU_ok h.drv, ?_, putM_len h.len, ?_⟩
 ·show (putM d.1 d.2.2.2.2 p).any badP = false
  unfold putM putW
  split
  ·exact h.wait
  ·split
   ·simp [hb]
   ·rw [List.any_append, h.wait]; simp [hb]
 ·show (putU d.1 d.2.2.2.2 (drvOf d)).1.all colS = true
  unfold putU putT
  split
  ·exact h.col
  ·split
   ·exact comes_col h.wait h.col
   ·exact h.col
theorem spoil_DrOk {d : Dsk} {a b c : Int} (h : DrOk d) : DrOk (spoilV d a b c) := by
 unfold spoilV
 split
 ·exact h
 ·rename_i hn
  have hd := h.drv
  refine ⟨⟨by simpa [drvOf] using hd.1, hd.2.1, by simpa [drvOf] using hd.2.2⟩, h.wait, h.len, ?_⟩
  show (d.2.1.set _ _).all colS = true
  refine all_set h.col ?_
  by_cases hm : a.toNat < d.2.1.length
  ·have h1 := List.all_eq_true.1 h.col (d.2.1.getD a.toNat []) (by rw [List.getD_eq_getElem?_getD, gE hm]; exact List.getElem_mem hm)
   simp only [colS, Bool.or_eq_true, decide_eq_true_eq] at h1 ⊢
   rcases h1 with h1 | h1
   ·exact absurd (.inl h1) hn
   ·exact .inr (by rw [xorT_len]; exact h1)
  ·exact absurd (.inl (by rw [List.getD_eq_getElem?_getD, List.getElem?_eq_none (by omega)]; rfl)) hn
def stD1 (d : Dsk) (r : Rd) : Dsk := writeD d (putG r)
def stD2 (d : Dsk) (r : Rd) : Dsk := if pk r 3 = 0 then dskOf d.1 (comes d.2.2.2.2 (drvOf d)) [] else d
def stD3 (d : Dsk) (r : Rd) : Dsk := if pk r 5 = 0 then spoilV d (pk (nx r) 12) (pk (nx (nx r)) 3) (1 + pk (nx (nx (nx r))) 255) else d
def stR3 (r : Rd) : Rd := if pk r 5 = 0 then nx (nx (nx (nx r))) else nx r
def stD (d : Dsk) (r : Rd) : Dsk := stD3 (stD2 (stD1 d r) (putQ r)) (nx (putQ r))
def stR (r : Rd) : Rd := stR3 (nx (putQ r))
def loopG : Nat → Dsk → Rd → Dsk × Rd
 | 0, d, r => (d, r)
 | k + 1, d, r => loopG k (stD d r) (stR r)
theorem stR_ok {r : Rd} {m m' : Int} (h : ROk r m) (hm : m' + 30 ≤ m) (h0 : 0 ≤ m') : ROk (stR r) m' := by
 have h1 : ROk (putQ r) (m' + 10) := putQ_ok h (by omega) (by omega)
 have h2 : ROk (nx (putQ r)) (m' + 9) := h1.nx (by omega)
 unfold stR stR3
 split
 ·exact (((h2.nx (m' := m' + 8) (by omega)).nx (m' := m' + 7) (by omega)).nx (m' := m' + 6) (by omega)).nx (by omega)
 ·exact h2.nx (by omega)
theorem stD_ok {d : Dsk} {r : Rd} {m : Int} (h : DrOk d) (hr : ROk r m) (hm : 20 ≤ m) : DrOk (stD d r) := by
 have h1 : DrOk (stD1 d r) := write_DrOk h (putG_ok hr hm)
 have h2 : DrOk (stD2 (stD1 d r) (putQ r)) := by
  unfold stD2
  split
  ·exact flush_DrOk h1
  ·exact h1
 unfold stD stD3
 split
 ·exact spoil_DrOk h2
 ·exact h2
def fillG : Nat → List Put → Rd → List Put × Rd
 | 0, l, r => (l, r)
 | k + 1, l, r => if (l.length : Int) < 40 + pk r 2 then fillG k (l ++ [putG (nx r)]) (putQ (nx r)) else (l, nx r)
theorem fillG_next {k : Nat} {l : List Put} {r : Rd} (h : (l.length : Int) < 40 + pk r 2) : fillG (k + 1) l r = fillG k (l ++ [putG (nx r)]) (putQ (nx r)) := by simp only [fillG, if_pos h]
theorem fillG_end {k : Nat} {l : List Put} {r : Rd} (h : ¬ (l.length : Int) < 40 + pk r 2) : fillG (k + 1) l r = (l, nx r) := by simp only [fillG, if_neg h]
def abT : Str := [97, 98]
def abcT : Str := [97, 98, 99]
def xyzT : Str := [120, 121, 122]
def aTD : Str := [97]
def harmG (d : Dsk) (r : Rd) : Dsk × Rd :=
 if pk r 30 = 0 then ((List.getD [(-1 : Int), 3, 1] (pk (nx r) 3).toNat 0, d.2), nx (nx r))
 else if pk r 30 = 1 then ((d.1, d.2.1.set (pk (nx r) 12).toNat abT, d.2.2), nx (nx r))
 else if pk r 30 = 2 then ((d.1, d.2.1, d.2.2.1, d.2.2.2.1.set (pk (nx r) 12).toNat true, d.2.2.2.2), nx (nx r))
 else if pk r 30 = 3 then ((d.1, d.2.1, d.2.2.1, d.2.2.2.1, d.2.2.2.2 ++ [(false, 12, abcT)]), nx r)
 else if pk r 30 = 4 then ((d.1, d.2.1, d.2.2.1, d.2.2.2.1, (fillG 50 d.2.2.2.2 (nx r)).1), (fillG 50 d.2.2.2.2 (nx r)).2)
 else if pk r 30 = 5 then ((d.1, d.2.1, d.2.2.1.drop 1, d.2.2.2.1, d.2.2.2.2), nx r)
 else (d, nx r)
def drawS (r : Rd) : Int := List.getD [(0 : Int), 0, 2, 1] (pk r 4).toNat 0
theorem drawS_bd {r : Rd} : 0 ≤ drawS r ∧ drawS r ≤ 2 := by
 unfold drawS
 generalize (pk r 4).toNat = n
 rcases n with _ | _ | _ | _ | n <;> simp [List.getD]
def drawL (r : Rd) : Dsk × Rd := loopG (pk (nx r) 12).toNat (newD (drawS r)) (nx (nx r))
@[irreducible] def drawD (r : Rd) : Dsk := (harmG (drawL r).1 (drawL r).2).1
@[irreducible] def drawR (r : Rd) : Rd := (harmG (drawL r).1 (drawL r).2).2
end Go.Sx

namespace Go.Sx
open Go
theorem loopG_rd : ∀ {k : Nat} {d : Dsk} {r : Rd} {m : Int}, ROk r (30 * k + m) → 0 ≤ m → ROk (loopG k d r).2 m := by
 intro k
 induction k with
 | zero => intro d r m h _; exact h.le (by omega)
 | succ k ih => intro d r m h h0; exact ih (stR_ok h (by omega) (by omega)) h0
theorem fillG_rd : ∀ {k : Nat} {l : List Put} {r : Rd} {m : Int}, ROk r (21 * k + 1 + m) → 0 ≤ m → ROk (fillG k l r).2 m := by
 intro k
 induction k with
 | zero => intro l r m h _; exact h.le (by omega)
 | succ k ih =>
  intro l r m h h0
  simp only [fillG]
  split
  ·exact ih (putQ_ok (h.nx (m' := 21 * k + 21 + m) (by omega)) (by omega) (by omega)) h0
  ·exact h.nx (by omega)
theorem harmG_rd {d : Dsk} {r : Rd} {m : Int} (h : ROk r (1100 + m)) (h0 : 0 ≤ m) : ROk (harmG d r).2 m := by
 have h1 : ROk (nx r) (1099 + m) := h.nx (by omega)
 have h2 : ROk (nx (nx r)) (1098 + m) := h1.nx (by omega)
 unfold harmG
 split
 ·exact h2.le (by omega)
 ·split
  ·exact h2.le (by omega)
  ·split
   ·exact h2.le (by omega)
   ·split
    ·exact h1.le (by omega)
    ·split
     ·exact fillG_rd (h1.le (by omega)) h0
     ·split
      ·exact h1.le (by omega)
      ·exact h1.le (by omega)
theorem drawR_rd {r : Rd} (h : ROk r 3000) : ROk (drawR r) 100 := by
 have h1 : ROk (nx r) 2999 := h.nx (by omega)
 have h2 : ROk (nx (nx r)) 2998 := h1.nx (by omega)
 have hb := pk_bd h1 (by omega) (n := 12) (by omega)
 unfold drawR
 exact harmG_rd (loopG_rd (h2.le (by omega)) (by omega)) (by omega)
def rd0D (code : List Int) : Rd := (code.take 2000, 0)
theorem rd0_okD {code : List Int} (h : Ok (.sl (.int .u8)) code) : ROk (rd0D code) 3000 := by
 refine ⟨fun v hv => ?_, ?_, Int.le_refl _, ?_⟩
 ·have := h.2 v (List.mem_of_mem_take hv)
  have : inR .u8 v := this
  rwa [inR_u8] at this
 ·simp only [rd0D, List.length_take]; omega
 ·show (0 : Int) + 3000 ≤ _; omega
def keepG (r : Rd) : Int := pk r 256 * (1 + pk (nx r) 3) - (pk (nx (nx r)) 16).tdiv 15 * 300
def ltG (p : Put) (r : Rd) : Put := if pk r 20 = 0 then (p.1, p.2.1, p.2.2 ++ aTD) else if pk r 20 = 1 then (p.1, List.getD [(-1 : Int), 12] (pk (nx r) 2).toNat 0, p.2.2) else p
theorem slots_set {ts : List Str} {bs : List Bool} {x : Str} (hx : x.length = 3) : ∀ {i : Nat}, slotsB ts bs = false → slotsB (ts.set i x) (bs.set i false) = false := by
 induction ts generalizing bs with
 | nil => intro i h; cases i <;> simp [slotsB]
 | cons t r ih =>
  intro i h
  cases bs with
  | nil => cases i <;> simp [slotsB]
  | cons b bs =>
   simp only [slotsB, Bool.or_eq_false_iff] at h
   cases i with
   | zero =>
    simp only [List.set_cons_zero, slotsB, Bool.or_eq_false_iff]
    exact ⟨slotB_ok (by intro e; rw [e] at hx; cases hx) hx, h.2⟩
   | succ i =>
    simp only [List.set_cons_succ, slotsB, Bool.or_eq_false_iff]
    exact ⟨h.1, ih h.2⟩
theorem any_set {p : Str → Bool} {l : List Str} {i : Nat} {x : Str} (h : l.any p = false) (hx : p x = false) : (l.set i x).any p = false := by
 rw [List.any_eq_false] at h ⊢
 intro y hy
 rcases List.mem_or_eq_of_mem_set hy with hy | rfl
 ·exact h y hy
 ·simp [hx]
theorem come_rd {p : Put} {t : Drv} (hp : putV p = true) (h1 : slotsB t.1 t.2.2 = false) (h2 : t.2.1.any longR = false) : slotsB (come p t).1 (come p t).2.2 = false ∧ (come p t).2.1.any longR = false := by
 unfold come
 split
 ·rename_i hr
  have := putV_ring hp hr
  exact ⟨h1, any_set h2 (by simp [longR]; omega)⟩
 ·rename_i hr
  have := putV_slot hp (by simpa using hr)
  exact ⟨slots_set this.2.2 h1, h2⟩
theorem comes_rd {l : List Put} : ∀ {t : Drv}, l.any badP = false → slotsB t.1 t.2.2 = false → t.2.1.any longR = false → slotsB (comes l t).1 (comes l t).2.2 = false ∧ (comes l t).2.1.any longR = false := by
 induction l with
 | nil => intro t _ h1 h2; exact ⟨h1, h2⟩
 | cons p r ih =>
  intro t hw h1 h2
  simp only [List.any_cons, Bool.or_eq_false_iff, badP, Bool.not_eq_false'] at hw
  have := come_rd hw.1 h1 h2
  exact ih hw.2 this.1 this.2
theorem keepB_sub {l : List Put} : ∀ {n : Nat} {p : Put}, p ∈ keepB n l → p ∈ l := by
 induction l with
 | nil => intro n p h; cases h
 | cons a r ih =>
  intro n p h
  simp only [keepB] at h
  split at h
  ·rcases List.mem_cons.1 h with rfl | h
   ·exact List.mem_cons_self
   ·exact List.mem_cons_of_mem _ (ih h)
  ·exact List.mem_cons_of_mem _ (ih h)
theorem keepB_bad {l : List Put} {n : Nat} (h : l.any badP = false) : (keepB n l).any badP = false := by
 rw [List.any_eq_false] at h ⊢
 exact fun p hp => h p (keepB_sub hp)
theorem keepB_zero {l : List Put} : keepB 0 l = [] := by
 induction l with
 | nil => rfl
 | cons a r ih => simp [keepB, ih]
theorem keepB_all {l : List Put} : ∀ {k : Nat}, l.length ≤ k → keepB (2 ^ k - 1) l = l := by
 induction l with
 | nil => intro k _; rfl
 | cons a r ih =>
  intro k h
  obtain ⟨j, rfl⟩ : ∃ j, k = j + 1 := ⟨k - 1, by simp at h; omega⟩
  have hp : 0 < 2 ^ j := Nat.two_pow_pos j
  have h1 : (2 ^ (j + 1) - 1) % 2 = 1 := by rw [Nat.pow_succ]; omega
  have h2 : (2 ^ (j + 1) - 1) / 2 = 2 ^ j - 1 := by rw [Nat.pow_succ]; omega
  simp only [keepB, h1, if_true, h2]
  rw [ih (by simpa using h)]
structure LvOk (st : Int) (t : Drv) (l : List Put) : Prop where
 ok : t.ok
 slots : slotsB t.1 t.2.2 = false
 rings : t.2.1.any longR = false
 wait : l.any badP = false
 len : l.length ≤ 40
 sta : stV st = true
 gone : st = 1 → t.1 = List.replicate 12 [] ∧ t.2.1 = List.replicate 2 [] ∧ l = []
theorem lv_of {d : Dsk} (h : rdV d = true) : LvOk d.1 (drvOf d) d.2.2.2.2 := by
 obtain ⟨a, b, c, e, f⟩ := rd_parts h
 obtain ⟨s1, s2, s3, s4, s5⟩ := shaped_iff a
 refine ⟨⟨s2, s3, s4⟩, c, e, b, s5, s1, fun hs => ?_⟩
 obtain ⟨g1, g2, g3⟩ := gone_no f hs
 exact ⟨g1, g2, List.eq_nil_of_length_eq_zero g3⟩
theorem rd_of {st : Int} {t : Drv} {l : List Put} (h : LvOk st t l) : rdV (dskOf st t l) = true := by
 obtain ⟨h1, h2, h3⟩ := h.ok
 refine rd_mk ?_ h.wait h.slots h.rings ?_
 ·simp only [shapedV, dskOf, h.sta, h1, h2, h3, h.len, decide_true, Bool.and_self]
 ·by_cases hs : st = 1
  ·obtain ⟨g1, g2, g3⟩ := h.gone hs
   exact gone_yes g1 g2 (by show l.length = 0; rw [g3]; rfl)
  ·exact gone_live hs
theorem LvOk.come {st : Int} {t : Drv} {l m : List Put} (h : LvOk st t l) (hm : m.any badP = false) (hg : st = 1 → m = []) : LvOk st (comes m t) [] := by
 have hr := comes_rd hm h.slots h.rings
 refine ⟨comes_ok h.ok, hr.1, hr.2, rfl, Nat.zero_le _, h.sta, fun hs => ?_⟩
 rw [hg hs]
 exact ⟨(h.gone hs).1, (h.gone hs).2.1, rfl⟩
theorem LvOk.put {st : Int} {t : Drv} {l : List Put} {p : Put} (h : LvOk st t l) (hp : putV p = true) : LvOk st (putU st l t) (putM st l p) := by
 by_cases hs : st = 1
 ·rw [putU_gone hs, putM_gone hs]; exact h
 ·have hb : badP p = false := by simp [badP, hp]
  rw [putU_live hs, putM_live hs]
  by_cases hf : l.length = 40
  ·rw [putT_full hf, putW_full hf]
   have := h.come h.wait (fun e => absurd e hs)
   exact ⟨this.ok, this.slots, this.rings, by simp [hb], by simp, h.sta, fun e => absurd e hs⟩
  ·rw [putT_room hf, putW_room hf]
   have := h.len
   exact ⟨h.ok, h.slots, h.rings, by rw [List.any_append, h.wait]; simp [hb], by simp; omega, h.sta, fun e => absurd e hs⟩
theorem crash_len {d : Dsk} {k : Int} (h : ¬ (crashV d k).2.1.length = 0) : rdV d = true ∧ 0 ≤ k := by
 unfold crashV at h
 split at h
 ·assumption
 ·exact absurd rfl h
theorem crash_rd {d : Dsk} {k : Int} (h : rdV d = true) (h0 : 0 ≤ k) : rdV (crashV d k) = true ∧ (crashV d k).2.2.2.2 = [] ∧ (crashV d k).2.1.length = 12 := by
 rw [crashV_ok h h0]
 have hl := lv_of h
 have := hl.come (keepB_bad (n := k.toNat) hl.wait) (fun hs => by rw [(hl.gone hs).2.2]; rfl)
 exact ⟨rd_of this, rfl, this.ok.1⟩
theorem crash_zero {d : Dsk} (h : rdV d = true) : (crashV d 0).2.1 = d.2.1 ∧ (crashV d 0).2.2.1 = d.2.2.1 := by
 rw [crashV_ok h (by decide)]
 show (comes (keepB 0 d.2.2.2.2) (drvOf d)).1 = _ ∧ (comes (keepB 0 d.2.2.2.2) (drvOf d)).2.1 = _
 rw [keepB_zero]
 exact ⟨rfl, rfl⟩
theorem crash_all {d : Dsk} (h : rdV d = true) : crashV d 9223372036854775807 = flushV d := by
 rw [crashV_ok h (by decide), flushV_ok h]
 have hl := (lv_of h).len
 have e : ((9223372036854775807 : Int).toNat) = 2 ^ 63 - 1 := by decide
 rw [e, keepB_all (k := 63) (by omega)]
def hasP (a : Nat) (s : Str) (p : Put) : Bool := !p.1 && decide (p.2.1 = (a : Int)) && decide (p.2.2 = s)
theorem come_slot_at {p : Put} {t : Drv} {a : Nat} (hp : putV p = true) : (come p t).1.getD a [] = t.1.getD a [] ∨ hasP a ((come p t).1.getD a []) p = true := by
 unfold come
 split
 ·exact .inl rfl
 ·rename_i hr
  have h1 := putV_slot hp (by simpa using hr)
  have hr' : p.1 = false := by simpa using hr
  by_cases ha : p.2.1.toNat = a
  ·by_cases hl : a < t.1.length
   ·right
    have hg : (t.1.set p.2.1.toNat p.2.2).getD a [] = p.2.2 := by rw [ha, List.getD_eq_getElem?_getD, List.getElem?_set_self hl]; rfl
    show hasP a ((t.1.set p.2.1.toNat p.2.2).getD a []) p = true
    rw [hg]
    simp only [hasP, hr', Bool.not_false, Bool.true_and, Bool.and_eq_true, decide_eq_true_eq, and_true]
    omega
   ·left
    show (t.1.set p.2.1.toNat p.2.2).getD a [] = _
    rw [List.getD_eq_getElem?_getD, List.getD_eq_getElem?_getD, List.getElem?_eq_none (by rw [List.length_set]; omega), List.getElem?_eq_none (by omega)]
  ·left
   show (t.1.set p.2.1.toNat p.2.2).getD a [] = _
   rw [List.getD_eq_getElem?_getD, List.getD_eq_getElem?_getD, List.getElem?_set_ne ha]
theorem comes_slot_at {l : List Put} {a : Nat} : ∀ {t : Drv}, l.any badP = false → (comes l t).1.getD a [] = t.1.getD a [] ∨ l.any (hasP a ((comes l t).1.getD a [])) = true := by
 induction l with
 | nil => intro t _; exact .inl rfl
 | cons p r ih =>
  intro t hw
  simp only [List.any_cons, Bool.or_eq_false_iff, badP, Bool.not_eq_false'] at hw
  show (comes r (come p t)).1.getD a [] = _ ∨ _
  rcases ih (t := come p t) hw.2 with h | h
  ·rcases come_slot_at (t := t) (a := a) hw.1 with h2 | h2
   ·exact .inl (h.trans h2)
   ·right
    simp only [List.any_cons, Bool.or_eq_true]
    left
    show hasP a ((comes r (come p t)).1.getD a []) p = true
    rw [h]; exact h2
  ·right
   simp only [List.any_cons, Bool.or_eq_true]
   exact .inr h
theorem crash_slot {d : Dsk} {k : Int} (h : rdV d = true) (h0 : 0 ≤ k) (a : Nat) : (decide ((crashV d k).2.1.getD a [] = d.2.1.getD a []) || d.2.2.2.2.any (hasP a ((crashV d k).2.1.getD a []))) = true := by
 rw [crashV_ok h h0]
 have hl := lv_of h
 rcases comes_slot_at (a := a) (t := drvOf d) (keepB_bad (n := k.toNat) hl.wait) with h1 | h1
 ·rw [Bool.or_eq_true]; left; exact decide_eq_true h1
 ·rw [Bool.or_eq_true]; right
  obtain ⟨p, hp, hq⟩ := List.any_eq_true.1 h1
  exact List.any_eq_true.2 ⟨p, keepB_sub hp, hq⟩
theorem take_any {p : Put → Bool} {l : List Put} {i : Nat} (h : i < l.length) : (l.take (i + 1)).any p = ((l.take i).any p || p l[i]) := by
 rw [← List.take_append_getElem h, List.any_append]; simp
theorem found_next {a : Bool} {p : Put → Bool} {l : List Put} {j : Nat} (h : j < l.length) : (a || (l.take (j + 1)).any p) = ((a || (l.take j).any p) || p l[j]) := by rw [take_any h, Bool.or_assoc]
end Go.Sx

namespace Go.Sx
open Go
theorem put_lv {d : Dsk} {p : Put} (h : rdV d = true) (hp : putV p = true) : putD d p = dskOf d.1 (putU d.1 d.2.2.2.2 (drvOf d)) (putM d.1 d.2.2.2.2 p) ∧ LvOk d.1 (putU d.1 d.2.2.2.2 (drvOf d)) (putM d.1 d.2.2.2.2 p) := ⟨putD_ok h hp, (lv_of h).put hp⟩
theorem putV_len {p : Put} (h : putV p = true) : p.2.2.length ≤ 700 := by
 cases hr : p.1 with
 | true => exact (putV_ring h hr).2.2
 | false => have := (putV_slot h hr).2.2; omega
theorem putM_last {l : List Put} {p : Put} : ∃ m, putW l p = m ++ [p] := by
 unfold putW
 split
 ·exact ⟨[], rfl⟩
 ·exact ⟨l, rfl⟩
theorem comes_app {l m : List Put} {t : Drv} : comes (l ++ m) t = comes m (comes l t) := by simp [comes]
theorem come_get {p : Put} {t : Drv} (hp : putV p = true) (hr : p.1 = false) (ht : t.ok) : (come p t).1.getD p.2.1.toNat [] = p.2.2 := by
 obtain ⟨a, b, _⟩ := putV_slot hp hr
 rw [come_slot hr]
 show (t.1.set p.2.1.toNat p.2.2).getD p.2.1.toNat [] = _
 rw [List.getD_eq_getElem?_getD, List.getElem?_set_self (by rw [ht.1]; omega)]
 rfl
theorem read_dsk {st : Int} {t : Drv} {l : List Put} {a : Int} (h : LvOk st t l) (h0 : 0 ≤ a) (h1 : a < 12) : readV (dskOf st t l) a = seenV t l a := readV_ok (rd_of h) ⟨h0, h1⟩
theorem last_facts {d : Dsk} {p : Put} (hrd : rdV d = true) (hp : putV p = true) (hr : p.1 = false) (hs : ¬ d.1 = 1) :
  readV (putD (putD (flushV (putD d p)) (false, p.2.1, abcT)) (false, p.2.1, xyzT)) p.2.1 = xyzT ∧
  readV (flushV (putD (putD (flushV (putD d p)) (false, p.2.1, abcT)) (false, p.2.1, xyzT))) p.2.1 = xyzT ∧
  readV (crashV (putD (putD (flushV (putD d p)) (false, p.2.1, abcT)) (false, p.2.1, xyzT)) 1) p.2.1 = abcT ∧
  readV (crashV (putD (putD (flushV (putD d p)) (false, p.2.1, abcT)) (false, p.2.1, xyzT)) 0) p.2.1 = p.2.2 ∧
  readV (crashV (putD (putD (flushV (putD d p)) (false, p.2.1, abcT)) (false, p.2.1, xyzT)) 2) p.2.1 = xyzT := by
 obtain ⟨a0, a1, a2⟩ := putV_slot hp hr
 obtain ⟨e1, l1⟩ := put_lv hrd hp
 rw [putU_live hs, putM_live hs] at e1 l1
 obtain ⟨m, hm⟩ := putM_last (l := d.2.2.2.2) (p := p)
 rw [hm] at e1 l1
 generalize hT : putT d.2.2.2.2 (drvOf d) = T at e1 l1
 have e2 : flushV (putD d p) = dskOf d.1 (comes (m ++ [p]) T) [] := by rw [e1, flushV_ok (rd_of l1)]; rfl
 have l2 : LvOk d.1 (comes (m ++ [p]) T) [] := l1.come l1.wait (fun h => absurd h hs)
 have hmw : m.any badP = false := by have := l1.wait; rw [List.any_append, Bool.or_eq_false_iff] at this; exact this.1
 have g2 : (comes (m ++ [p]) T).1.getD p.2.1.toNat [] = p.2.2 := by
  rw [comes_app]
  exact come_get hp hr (comes_ok l1.ok)
 generalize comes (m ++ [p]) T = U at e2 l2 g2
 have hq1 : putV (false, p.2.1, abcT) = true := by simp only [putV, Bool.false_eq_true, if_false]; exact decide_eq_true ⟨a0, a1, rfl⟩
 have hq2 : putV (false, p.2.1, xyzT) = true := by simp only [putV, Bool.false_eq_true, if_false]; exact decide_eq_true ⟨a0, a1, rfl⟩
 have e3 : putD (dskOf d.1 U []) (false, p.2.1, abcT) = dskOf d.1 U [(false, p.2.1, abcT)] := by
  obtain ⟨e, _⟩ := put_lv (rd_of l2) hq1
  rw [e]
  show dskOf d.1 (putU d.1 [] U) (putM d.1 [] (false, p.2.1, abcT)) = _
  rw [putU_live hs, putM_live hs, putT_room (by simp), putW_room (by simp)]; rfl
 have l3 : LvOk d.1 U [(false, p.2.1, abcT)] := by
  have := l2.put hq1
  rw [putU_live hs, putM_live hs, putT_room (by simp), putW_room (by simp)] at this
  exact this
 have e4 : putD (dskOf d.1 U [(false, p.2.1, abcT)]) (false, p.2.1, xyzT) = dskOf d.1 U [(false, p.2.1, abcT), (false, p.2.1, xyzT)] := by
  obtain ⟨e, _⟩ := put_lv (rd_of l3) hq2
  rw [e]
  show dskOf d.1 (putU d.1 [(false, p.2.1, abcT)] U) (putM d.1 [(false, p.2.1, abcT)] (false, p.2.1, xyzT)) = _
  rw [putU_live hs, putM_live hs, putT_room (by simp), putW_room (by simp)]; rfl
 have l4 : LvOk d.1 U [(false, p.2.1, abcT), (false, p.2.1, xyzT)] := by
  have := l3.put hq2
  rw [putU_live hs, putM_live hs, putT_room (by simp), putW_room (by simp)] at this
  exact this
 rw [e2, e3, e4]
 have cr : ∀ {k : Int} {l : List Put}, 0 ≤ k → keepB k.toNat [(false, p.2.1, abcT), (false, p.2.1, xyzT)] = l → l.any badP = false → readV (crashV (dskOf d.1 U [(false, p.2.1, abcT), (false, p.2.1, xyzT)]) k) p.2.1 = (comes l U).1.getD p.2.1.toNat [] := by
  intro k l hk hl hb
  rw [crashV_ok (rd_of l4) hk]
  show readV (dskOf d.1 (comes (keepB k.toNat [(false, p.2.1, abcT), (false, p.2.1, xyzT)]) U) []) p.2.1 = _
  rw [hl, read_dsk (l2.come hb (fun h => absurd h hs)) a0 a1]
  rfl
 have b1 : badP (false, p.2.1, abcT) = false := by simp [badP, hq1]
 have b2 : badP (false, p.2.1, xyzT) = false := by simp [badP, hq2]
 refine ⟨?_, ?_, ?_, ?_, ?_⟩
 ·rw [read_dsk l4 a0 a1]
  simp [seenV, seenGo]
 ·rw [flushV_ok (rd_of l4)]
  show readV (dskOf d.1 (comes [(false, p.2.1, abcT), (false, p.2.1, xyzT)] U) []) p.2.1 = _
  rw [read_dsk (l2.come l4.wait (fun h => absurd h hs)) a0 a1]
  exact come_get (p := (false, p.2.1, xyzT)) hq2 rfl (come_ok l2.ok)
 ·rw [cr (l := [(false, p.2.1, abcT)]) (by decide) (by simp [keepB]) (by simp [b1])]
  exact come_get (p := (false, p.2.1, abcT)) hq1 rfl l2.ok
 ·rw [cr (l := []) (by decide) (by simp [keepB]) rfl]
  exact g2
 ·rw [cr (l := [(false, p.2.1, xyzT)]) (by decide) (by simp [keepB]) (by simp [b2])]
  exact come_get (p := (false, p.2.1, xyzT)) hq2 rfl l2.ok
theorem put_len {d : Dsk} {p : Put} (h : ¬ (putD d p).2.1.length = 0) : rdV d = true ∧ putV p = true := by
 unfold putD at h
 split at h
 ·assumption
 ·exact absurd rfl h
theorem c02 {n : Nat} : (((n : Int).tmod 4).tdiv 2) * 2 = 0 ∨ (((n : Int).tmod 4).tdiv 2) * 2 = 2 := by
 have h1 : (n : Int).tmod 4 = ((n % 4 : Nat) : Int) := rfl
 rw [h1]
 have h2 : ((n % 4 : Nat) : Int).tdiv 2 = ((n % 4 / 2 : Nat) : Int) := rfl
 rw [h2]
 omega
end Go.Sx

namespace Go.Sx
open Go
theorem keyPK (x y : Plc) : keyEq PK x y = decide (x = y) := by
 simp only [keyEq]
 refine Bool.eq_iff_iff.2 ?_
 simp only [Bool.and_eq_true, decide_eq_true_eq]
 exact ⟨fun h => Prod.ext h.1 h.2, fun h => by rw [h]; exact ⟨rfl, rfl⟩⟩
theorem mget_mset {m : List (Plc × Ptr_)} {a b : Plc} {p : Ptr_} : mget PK (mset PK m a p) b = if b = a then some p else mget PK m b := by
 induction m with
 | nil =>
  simp only [mset, mget]
  rw [keyPK]
  by_cases h : b = a <;> simp [h]
 | cons e m ih =>
  simp only [mset]
  rw [keyPK]
  by_cases h : a = e.1
  ·simp only [h, decide_true, cond_true, mget]
   rw [keyPK]
   by_cases h2 : b = e.1 <;> simp [h2]
  ·simp only [h, decide_false, cond_false, mget]
   rw [keyPK, ih]
   by_cases h2 : b = e.1
   ·have h3 : ¬ b = a := fun e2 => h (e2.symm.trans h2)
    simp [h2, h3]
    intro e2
    exact absurd e2.symm h
   ·simp [h2]
theorem own_iff : ∀ {l m : List (Plc × Ptr_)}, ownGo m l = true ↔ (∀ e ∈ l, ∀ q, mget PK m e.1 = some q → e.2 = q) ∧ ∀ e ∈ l, ∀ f ∈ l, e.1 = f.1 → e.2 = f.2 := by
 intro l
 induction l with
 | nil => intro m; simp [ownGo]
 | cons c r ih =>
  intro m
  obtain ⟨a, p⟩ := c
  simp only [ownGo, Bool.and_eq_true]
  rw [ih]
  constructor
  ·rintro ⟨h1, h2, h3⟩
   have ha : ∀ q, mget PK m a = some q → p = q := fun q hq => by rw [hq] at h1; simpa using h1
   have hp : ∀ e ∈ r, e.1 = a → e.2 = p := fun e he hea => h2 e he p (by rw [mget_mset, if_pos hea])
   refine ⟨fun e he q hq => ?_, fun e he f hf hef => ?_⟩
   ·rcases List.mem_cons.1 he with rfl | he
    ·exact ha q hq
    ·by_cases hea : e.1 = a
     ·rw [hp e he hea]; exact ha q (by rw [← hea]; exact hq)
     ·exact h2 e he q (by rw [mget_mset, if_neg hea]; exact hq)
   ·rcases List.mem_cons.1 he with rfl | he <;> rcases List.mem_cons.1 hf with rfl | hf
    ·rfl
    ·exact (hp f hf hef.symm).symm
    ·exact hp e he hef
    ·exact h3 e he f hf hef
  ·rintro ⟨h1, h2⟩
   refine ⟨?_, fun e he q hq => ?_, fun e he f hf => h2 e (List.mem_cons_of_mem _ he) f (List.mem_cons_of_mem _ hf)⟩
   ·cases hq : mget PK m a with
    | none => rfl
    | some q => have := h1 (a, p) List.mem_cons_self q hq; simpa using this
   ·rw [mget_mset] at hq
    by_cases hea : e.1 = a
    ·rw [if_pos hea] at hq
     cases hq
     exact h2 e (List.mem_cons_of_mem _ he) (a, p) List.mem_cons_self hea
    ·rw [if_neg hea] at hq
     exact h1 e (List.mem_cons_of_mem _ he) q hq
theorem mem_pairs {ps : List Ptr_} {e : Plc × Ptr_} : e ∈ pairsOf ps ↔ e.2 ∈ ps ∧ e.1 ∈ e.2.2.2 := by
 obtain ⟨a, p⟩ := e
 simp only [pairsOf, List.mem_flatMap, List.mem_map, Prod.mk.injEq]
 constructor
 ·rintro ⟨q, hq, b, hb, rfl, rfl⟩
  exact ⟨hq, hb⟩
 ·rintro ⟨h1, h2⟩
  exact ⟨p, h1, a, h2, rfl, rfl⟩
theorem meet_iff {p q : Ptr_} : meetV p q = true ↔ ∃ a, a ∈ p.2.2 ∧ a ∈ q.2.2 := by
 simp only [meetV, List.any_eq_true, decide_eq_true_eq]
 constructor
 ·rintro ⟨a, ha, b, hb, rfl⟩; exact ⟨a, ha, hb⟩
 ·rintro ⟨a, ha, hb⟩; exact ⟨a, ha, a, hb, rfl⟩
theorem own_meet {ps : List Ptr_} : ownGo [] (pairsOf ps) = true ↔ ∀ i (h : i < ps.length), ∀ q ∈ ps.take i, meetV ps[i] q = true → ps[i] = q := by
 rw [own_iff]
 constructor
 ·rintro ⟨_, h2⟩ i hi q hq hm
  obtain ⟨a, ha, hb⟩ := meet_iff.1 hm
  exact h2 (a, ps[i]) (mem_pairs.2 ⟨List.getElem_mem hi, ha⟩) (a, q) (mem_pairs.2 ⟨List.mem_of_mem_take hq, hb⟩) rfl
 ·intro h
  refine ⟨fun e _ q hq => by simp [mget] at hq, fun e he f hf hef => ?_⟩
  obtain ⟨e1, e2⟩ := mem_pairs.1 he
  obtain ⟨f1, f2⟩ := mem_pairs.1 hf
  obtain ⟨i, hi, hie⟩ := List.getElem_of_mem e1
  obtain ⟨k, hk, hkf⟩ := List.getElem_of_mem f1
  rw [← hie] at e2 ⊢
  rw [← hkf] at f2 ⊢
  rcases Nat.lt_trichotomy i k with hlt | rfl | hlt
  ·refine (h k hk ps[i] (List.mem_take_iff_getElem.2 ⟨i, by omega, rfl⟩) (meet_iff.2 ⟨f.1, f2, ?_⟩)).symm
   rw [← hef]; exact e2
  ·rfl
  ·refine h i hi ps[k] (List.mem_take_iff_getElem.2 ⟨k, by omega, rfl⟩) (meet_iff.2 ⟨e.1, e2, ?_⟩)
   rw [hef]; exact f2
theorem ptrV_W {d : Int} {p : Ptr_} (h : poolV d = true) : ptrV d p = ptrW d p := by
 unfold ptrV ptrW
 rw [h, Bool.true_and]
 by_cases h0 : p.1 = 0
 ·rw [if_pos h0]
  have h1 : sizeV d p = false := by simp [sizeV, inV, h0]
  rw [h1]
  simp [noneV, h0]
 ·rw [if_neg h0]
  simp [noneV, h0]
theorem volF_G {d : Int} {pre : List Vol_} {v : Vol_} : volF d pre v = (volG pre v && v.2.all (ptrV d)) := by
 simp only [volF, volG, Bool.and_assoc]
theorem chk_volF {d : Int} {l : List Vol_} : chk (volF d) l = true ↔ chk volG l = true ∧ ∀ p ∈ blksOf l, ptrV d p = true := by
 simp only [chk_iff, volF_G, Bool.and_eq_true, List.all_eq_true]
 constructor
 ·intro h
  refine ⟨fun i hi => (h i hi).1, fun p hp => ?_⟩
  obtain ⟨v, hv, hp⟩ := List.mem_flatMap.1 hp
  obtain ⟨i, hi, rfl⟩ := List.getElem_of_mem hv
  exact (h i hi).2 p hp
 ·rintro ⟨h1, h2⟩ i hi
  exact ⟨h1 i hi, fun p hp => h2 p (List.mem_flatMap.2 ⟨l[i], List.getElem_mem hi, hp⟩)⟩
theorem chk_ptrG {d : Int} {ps : List Ptr_} : chk (ptrG d) ps = true ↔ (∀ p ∈ ps, ptrW d p = true) ∧ ∀ i (h : i < ps.length), ∀ q ∈ ps.take i, meetV ps[i] q = true → ps[i] = q := by
 simp only [chk_iff, ptrG, Bool.and_eq_true]
 constructor
 ·intro h
  refine ⟨fun p hp => ?_, fun i hi q hq hm => ?_⟩
  ·obtain ⟨i, hi, rfl⟩ := List.getElem_of_mem hp
   exact (h i hi).1
  ·have h2 := (h i hi).2
   simp only [Bool.not_eq_true', List.any_eq_false, Bool.and_eq_true, not_and] at h2
   have := h2 q hq hm
   simpa using this
 ·rintro ⟨h1, h2⟩ i hi
  refine ⟨h1 _ (List.getElem_mem hi), ?_⟩
  simp only [Bool.not_eq_true', List.any_eq_false, Bool.and_eq_true, not_and]
  intro q hq hm
  have := h2 i hi q hq hm
  simpa using this
theorem rootV_S {d : Int} {r : Root_} : rootV d r = rootS d r := by
 unfold rootV rootS
 cases hp : poolV d with
 | false => rfl
 | true =>
  simp only [Bool.true_and]
  congr 1
  refine Bool.eq_iff_iff.2 ?_
  simp only [volsV, volsS, Bool.and_eq_true, chk_volF, chk_ptrG, own_meet, decide_eq_true_eq]
  have hw : (∀ p ∈ blksOf r.2, ptrV d p = true) ↔ ∀ p ∈ blksOf r.2, ptrW d p = true := by simp only [ptrV_W hp]
  rw [hw]
  constructor
  ·rintro ⟨⟨⟨a, b⟩, c⟩, e⟩; exact ⟨c, a, b, e⟩
  ·rintro ⟨c, a, b, e⟩; exact ⟨⟨⟨a, b⟩, c⟩, e⟩
theorem line_all {l : List Vol_} (h : ∀ v ∈ l, ∀ p ∈ v.2, inR .i64 p.1 ∧ inR .i64 p.2.1 ∧ ∀ a ∈ p.2.2, inR .i64 a.1 ∧ inR .i64 a.2) (hs : SmallR l) : ∀ v ∈ l, (volT v).length ≤ 1000 := by
 intro v hv
 obtain ⟨h1, h2, h3⟩ := hs.2 v hv
 have h4 := cat_len (f := lineV) (m := 300) (l := v.2) fun p hp => by
  obtain ⟨d, hd⟩ := h3 p hp
  obtain ⟨a, b, c⟩ := h v hv p hp
  exact lineV_len' a b c hd
 unfold volT
 simp only [List.length_append, List.length_cons, List.length_nil, tVol]
 rw [h2] at h4
 omega
theorem body_len {d tg : Int} {l : List Vol_} (h0 : inR .i64 tg) (h : ∀ v ∈ l, ∀ p ∈ v.2, inR .i64 p.1 ∧ inR .i64 p.2.1 ∧ ∀ a ∈ p.2.2, inR .i64 a.1 ∧ inR .i64 a.2) (hr : rootV d ((tg, l) : Root_) = true) : (bodyV ((tg, l) : Root_)).length ≤ 5000 := by
 have hs := rootV_small hr
 have h4 := cat_len (f := volT) (m := 1000) (l := l) (line_all h hs)
 have h5 : l.length ≤ 4 := hs.1
 have h6 := itoaV_len h0
 unfold bodyV
 simp only [List.length_append, List.length_cons, List.length_nil, tRoot]
 omega
end Go.Sx

namespace Go.Sx
open Go Go.RowKit
def xorV (a b : Str) : Str := (List.range (max a.length b.length)).map fun i => a.getD i 0 ^^^ b.getD i 0
def colT (s : Str) : List Str := (List.range ((s.length + 2) / 3)).map fun k => secT (s.drop (3 * k))
def colsT (s : Str) : List Str := if 1 ≤ s.length ∧ s.length ≤ 9 then colT s else []
def parT (l : List Str) : Str := l.foldl xorV [0, 0, 0]
def stripT (s : Str) : List Str := colsT s ++ [parT (colsT s)]
theorem xorV_len (a b : Str) : (xorV a b).length = max a.length b.length := by simp [xorV]
theorem xorV_nil {c : Str} (h : c.length = 3) : xorV [] c = xorV [0, 0, 0] c := by
 obtain ⟨a, b, d, rfl⟩ : ∃ a b d, c = [a, b, d] := by
  match c, h with
  | [a, b, d], _ => exact ⟨a, b, d, rfl⟩
 simp [xorV, List.range, List.range.loop]
theorem colT_len (s : Str) : (colT s).length = (s.length + 2) / 3 := by simp [colT]
theorem colT_3 {s : Str} {c : Str} (h : c ∈ colT s) : c.length = 3 := by
 obtain ⟨k, _, rfl⟩ := List.mem_map.1 h
 exact secT_len
theorem colsT_3 {s : Str} {c : Str} (h : c ∈ colsT s) : c.length = 3 := by
 unfold colsT at h
 split at h
 ·exact colT_3 h
 ·cases h
theorem par_go {l : List Str} (h : ∀ c ∈ l, c.length = 3) : ∀ {z : Str}, z.length = 3 → (l.foldl xorV z).length = 3 := by
 induction l with
 | nil => exact fun h => h
 | cons c l ih =>
  intro z hz
  exact ih (fun c hc => h c (List.mem_cons_of_mem _ hc)) (by rw [xorV_len, hz, h c (List.mem_cons_self ..)]; rfl)
theorem parT_len {l : List Str} (h : ∀ c ∈ l, c.length = 3) : (parT l).length = 3 := par_go h rfl
theorem parI_eq {l : List Str} (h : ∀ c ∈ l, c.length = 3) (hn : l ≠ []) : l.foldl xorV [] = parT l := by
 cases l with
 | nil => exact (hn rfl).elim
 | cons c l => simp only [List.foldl_cons, parT]; rw [xorV_nil (h c (List.mem_cons_self ..))]
theorem stripT_3 {s : Str} {c : Str} (h : c ∈ stripT s) : c.length = 3 := by
 unfold stripT at h
 rcases List.mem_append.1 h with h | h
 ·exact colsT_3 h
 ·rw [List.mem_singleton.1 h]; exact parT_len fun c hc => colsT_3 hc
theorem stripT_len {s : Str} (h : 1 ≤ s.length ∧ s.length ≤ 9) : (stripT s).length = (s.length + 2) / 3 + 1 := by
 unfold stripT colsT
 rw [if_pos h]
 simp [colT_len]
def wrN (cols : List Str) (pl : List Plc) : Nat → List Dsk → List Dsk
 | 0, ds => ds
 | k + 1, ds => (wrN cols pl k ds).set (pl.getD k (0, 0)).1.toNat (writeD ((wrN cols pl k ds).getD (pl.getD k (0, 0)).1.toNat zeroD) (false, (pl.getD k (0, 0)).2, cols.getD k []))
theorem wrN_len (cols : List Str) (pl : List Plc) (ds : List Dsk) : ∀ k, (wrN cols pl k ds).length = ds.length := by
 intro k
 induction k with
 | zero => rfl
 | succ k ih => simp only [wrN, List.length_set, ih]
theorem put_rd {d : Dsk} {p : Put} (h : rdV d = true) (hp : putV p = true) : rdV (writeD d p) = true := by
 obtain ⟨h1, h2⟩ := put_lv h hp
 exact rd_of h2
theorem put_wr {d : Dsk} {p : Put} (h : rdV d = true) (hp : putV p = true) : putD d p = writeD d p := putD_ok h hp
theorem col_put {at_ : Int} {c : Str} (h : 0 ≤ at_ ∧ at_ < 12) (hc : c.length = 3) : putV (false, at_, c) = true := by
 simp [putV, hc, h.1, h.2]
theorem wrN_rd {cols : List Str} {pl : List Plc} {ds : List Dsk} (h : ∀ d ∈ ds, rdV d = true) (hp : ∀ a ∈ pl, placeV (ds.length : Int) a = true) (hc : ∀ c ∈ cols, c.length = 3) :
  ∀ k, k ≤ pl.length → k ≤ cols.length → ∀ d ∈ wrN cols pl k ds, rdV d = true := by
 intro k
 induction k with
 | zero => exact fun _ _ => h
 | succ k ih =>
  intro hk hk2 d hd
  have h1 := ih (by omega) (by omega)
  simp only [wrN] at hd
  rcases List.mem_or_eq_of_mem_set hd with hd | rfl
  ·exact h1 d hd
  ·have hlt : k < pl.length := by omega
   have hlc : k < cols.length := by omega
   have ha := hp _ (List.getElem_mem hlt)
   have e : pl.getD k (0, 0) = pl[k] := by simp [List.getD_eq_getElem?_getD, hlt]
   have ec : cols.getD k [] = cols[k] := by simp [List.getD_eq_getElem?_getD, hlc]
   rw [e, ec]
   have ha2 : 0 ≤ pl[k].1 ∧ pl[k].1 < (ds.length : Int) ∧ 0 ≤ pl[k].2 ∧ pl[k].2 < 12 := by simpa [placeV] using ha
   have hl : pl[k].1.toNat < (wrN cols pl k ds).length := by rw [wrN_len]; omega
   have eg : (wrN cols pl k ds).getD pl[k].1.toNat zeroD = (wrN cols pl k ds)[pl[k].1.toNat] := by simp [List.getD_eq_getElem?_getD, hl]
   rw [eg]
   exact put_rd (h1 _ (List.getElem_mem hl)) (col_put ha2.2.2 (hc _ (List.getElem_mem hlc)))
def allGo (n : Int) : Nat → List Str → Bool
 | _, [] => true
 | i, c :: r => (decide ((i : Int) = n) || decide (c.length = 3)) && allGo n (i + 1) r
def allC (l : List Str) (n : Int) : Bool := allGo n 0 l
theorem allGo_neg {l : List Str} (h : ∀ c ∈ l, c.length = 3) : ∀ {i : Nat}, allGo (-1) i l = true := by
 induction l with
 | nil => intro i; rfl
 | cons c l ih =>
  intro i
  simp only [allGo, h c (List.mem_cons_self ..), decide_true, Bool.or_true, Bool.true_and]
  exact ih fun c hc => h c (List.mem_cons_of_mem _ hc)
theorem sMin9 (s : Str) : s.take (sMin (s.length : Int) 9).toNat = s.take 9 ∧ 0 ≤ sMin (s.length : Int) 9 ∧ sMin (s.length : Int) 9 ≤ (s.length : Int) := by
 unfold sMin
 cases h : decide (9 < (s.length : Int))
 ·have := of_decide_eq_false h
  refine ⟨?_, by show (0 : Int) ≤ s.length; omega, by show (s.length : Int) ≤ s.length; omega⟩
  show s.take ((s.length : Int)).toNat = _
  rw [Int.toNat_natCast, List.take_length, List.take_of_length_le (by omega)]
 ·have := of_decide_eq_true h
  exact ⟨rfl, by show (0 : Int) ≤ 9; omega, by show (9 : Int) ≤ s.length; omega⟩
def usableV (ds : List Dsk) (p : Ptr_) : Bool := stripeV ds && (!noneV p && ptrV (ds.length : Int) p)
def sputV (ds : List Dsk) (p : Ptr_) (t : Str) : List Dsk × Bool :=
 if usableV ds p = true ∧ (t.length : Int) = p.1 ∧ weighV (t.take 9) = p.2.1 then (wrN (stripT t) p.2.2 p.2.2.length ds, true) else ([], false)
theorem sum_len (t : Str) : (t.take 9).length ≤ 9 := by rw [List.length_take]; omega
theorem usable_parts {ds : List Dsk} {p : Ptr_} (h : usableV ds p = true) : stripeV ds = true ∧ poolV (ds.length : Int) = true ∧ 1 ≤ p.1 ∧ p.1 ≤ 9 ∧ (p.2.2.length : Int) = (p.1 + 2) / 3 + 1 ∧ ∀ a ∈ p.2.2, placeV (ds.length : Int) a = true := by
 simp only [usableV, ptrV, Bool.and_eq_true, Bool.not_eq_true', Bool.or_eq_true] at h
 obtain ⟨h1, h2, h3, h4⟩ := h
 rcases h4 with h4 | ⟨h4, h5⟩
 ·rw [h2] at h4; cases h4
 ·have h3' := h3
  simp only [poolV, inV, Bool.and_eq_true, decide_eq_true_eq] at h3'
  simp only [sizeV, inV, mostV, colsV, sMin, Bool.and_eq_true, decide_eq_true_eq] at h4
  obtain ⟨⟨a1, a2⟩, ⟨a3, a4⟩, a5⟩ := h4
  have a2' : p.1 ≤ 9 := by
   replace a2 : p.1 ≤ 3 * (bif decide ((ds.length : Int) - 1 < 3) then (ds.length : Int) - 1 else 3) := of_decide_eq_true a2
   cases hc : decide ((ds.length : Int) - 1 < 3) <;> rw [hc] at a2 <;> simp only [cond_true, cond_false] at a2
   ·omega
   ·have := of_decide_eq_true hc; omega
  replace a5 := of_decide_eq_true a5
  have e : Int.tdiv (p.1 + 3 - 1) 3 = (p.1 + 2) / 3 := by rw [Int.tdiv_eq_ediv_of_nonneg (by omega)]; omega
  refine ⟨h1, h3, a1, a2', by rw [a5, e], fun a ha => ?_⟩
  obtain ⟨i, hi, rfl⟩ := List.getElem_of_mem ha
  have := (chk_iff.1 h5) i hi
  simp only [placeF, Bool.and_eq_true] at this
  exact this.1
theorem usable_S {ds : List Dsk} {p : Ptr_} : usableV ds p = (stripeV ds && (ptrW (ds.length : Int) p && decide (0 < p.1))) := by
 by_cases hs : stripeV ds = true
 ·have hp : poolV (ds.length : Int) = true := by simp only [stripeV, Bool.and_eq_true] at hs; exact hs.1
  unfold usableV
  rw [hs, ptrV_W hp, Bool.true_and, Bool.true_and]
  unfold ptrW noneV
  by_cases h0 : p.1 = 0
  ·simp only [h0, decide_true, Bool.true_and, if_true]
   cases (decide (p.2.1 = 0) && decide (p.2.2.length = 0)) <;> simp
  ·by_cases h1 : 0 < p.1
   ·simp [h0, h1]
   ·have : sizeV (ds.length : Int) p = false := by
     unfold sizeV inV
     have : decide (1 ≤ p.1) = false := by simp; omega
     simp [this]
    simp [h0, this]
 ·have : stripeV ds = false := by simpa using hs
  simp [usableV, this]
theorem strip_places {ds : List Dsk} {p : Ptr_} {t : Str} (h : usableV ds p = true) (ht : (t.length : Int) = p.1) : (stripT t).length = p.2.2.length ∧ 1 ≤ t.length ∧ t.length ≤ 9 := by
 obtain ⟨_, _, h1, h2, h3, _⟩ := usable_parts h
 have h9 : 1 ≤ t.length ∧ t.length ≤ 9 := by omega
 exact ⟨by rw [stripT_len h9]; omega, h9⟩
theorem colsV_nat (n : Nat) : colsV (n : Int) = (((n + 2) / 3 : Nat) : Int) := by
 unfold colsV
 rw [Int.tdiv_eq_ediv_of_nonneg (by omega)]
 omega
theorem pad_cut {s : Str} {m i : Nat} (hm : m = (s.length + 2) / 3) (hi : i < m) (h9 : s.length ≤ 9) : ((s ++ List.replicate (m * 3 - s.length) 0).take ((i + 1) * 3)).drop (i * 3) = secT (s.drop (3 * i)) := by
 refine List.ext_getElem? fun k => ?_
 unfold secT
 simp only [List.getElem?_drop, List.getElem?_take, List.getElem?_append, List.getElem?_replicate, List.length_drop]
 by_cases hk : k < 3
 ·have e1 : i * 3 + k < (i + 1) * 3 := by omega
  by_cases h2 : i * 3 + k < s.length
  ·have e2 : k < s.length - 3 * i := by omega
   simp only [e1, hk, h2, e2, if_true]
   congr 1
   omega
  ·have e2 : ¬ k < s.length - 3 * i := by omega
   have e3 : i * 3 + k - s.length < m * 3 - s.length := by omega
   have e4 : k - (s.length - 3 * i) < 3 - (s.length - 3 * i) := by omega
   simp only [e1, hk, h2, e2, e3, e4, if_true, if_false]
 ·have e1 : ¬ i * 3 + k < (i + 1) * 3 := by omega
  simp only [e1, hk, if_false]
theorem colT_next {s : Str} {m i : Nat} (hm : m = (s.length + 2) / 3) (hi : i < m) (h9 : s.length ≤ 9) : (colT s).take i ++ [((s ++ List.replicate (m * 3 - s.length) 0).take ((i + 1) * 3)).drop (i * 3)] = (colT s).take (i + 1) := by
 have hl : i < (colT s).length := by rw [colT_len]; omega
 rw [List.take_succ_eq_append_getElem hl, pad_cut hm hi h9]
 simp [colT]
theorem rd_small {d : Dsk} (h : rdV d = true) : SmallD d := by
 obtain ⟨h1, h2, h3, h4, h5⟩ := rd_parts h
 obtain ⟨_, x1, x2, x3, x4⟩ := shaped_iff h1
 exact ⟨by omega, by omega, by omega, by omega⟩
theorem wr_step {ds : List Dsk} {pl : List Plc} {cs : List Str} {i : Nat} (hs : stripeV ds = true) (hpl : ∀ a ∈ pl, placeV (ds.length : Int) a = true) (hlen : pl.length = cs.length) (hcs : ∀ c ∈ cs, List.length c = 3) (hlt : i < pl.length) :
  (0 ≤ pl[i].1 ∧ pl[i].1 < ((wrN cs pl i ds).length : Int) ∧ pl[i].1.toNat < (wrN cs pl i ds).length) ∧ (0 ≤ pl[i].2 ∧ pl[i].2 < 12) ∧ putV (false, pl[i].2, cs[i]?.getD []) = true ∧ rdV ((wrN cs pl i ds)[pl[i].1.toNat]?.getD zeroD) = true ∧
   (wrN cs pl i ds).set pl[i].1.toNat (writeD ((wrN cs pl i ds)[pl[i].1.toNat]?.getD zeroD) (false, pl[i].2, cs[i]?.getD [])) = wrN cs pl (i + 1) ds ∧
   (wrN cs pl i ds).set pl[i].1.toNat (putD ((wrN cs pl i ds)[pl[i].1.toNat]?.getD zeroD) (false, pl[i].2, cs[i]?.getD [])) = wrN cs pl (i + 1) ds := by
 have hlc : i < cs.length := by omega
 have ha : 0 ≤ pl[i].1 ∧ pl[i].1 < (ds.length : Int) ∧ 0 ≤ pl[i].2 ∧ pl[i].2 < 12 := by simpa [placeV] using hpl _ (List.getElem_mem hlt)
 have hl := wrN_len cs pl ds i
 have hk : pl[i].1.toNat < (wrN cs pl i ds).length := by omega
 have ec : cs[i]?.getD [] = cs[i] := by rw [gE hlc]; rfl
 have hp : putV (false, pl[i].2, cs[i]?.getD []) = true := by rw [ec]; exact col_put ha.2.2 (hcs _ (List.getElem_mem hlc))
 have hr : rdV ((wrN cs pl i ds)[pl[i].1.toNat]?.getD zeroD) = true := by
  rw [gE hk]
  exact wrN_rd (stripe_all hs) hpl hcs i (by omega) (by omega) _ (List.getElem_mem hk)
 have hw : (wrN cs pl i ds).set pl[i].1.toNat (writeD ((wrN cs pl i ds)[pl[i].1.toNat]?.getD zeroD) (false, pl[i].2, cs[i]?.getD [])) = wrN cs pl (i + 1) ds := by
  simp only [wrN, List.getD_eq_getElem?_getD, gE hlt, Option.getD_some]
 exact ⟨⟨ha.1, by omega, hk⟩, ha.2.2, hp, hr, hw, by rw [put_wr hr hp]; exact hw⟩
theorem bitsX (x y : UInt8) : bitsOp .xor .u8 (x.toNat : Int) (y.toNat : Int) = ((x ^^^ y).toNat : Int) := by
 have h : ∀ z : UInt8, BitVec.ofInt IntKind.u8.bits (z.toNat : Int) = z.toBitVec := by
  intro z
  apply BitVec.eq_of_toNat_eq
  show ((z.toNat : Int) % 256).toNat = z.toNat
  have := z.toNat_lt
  omega
 unfold bitsOp
 simp only [h]
 have h2 := (x ^^^ y).toNat_lt
 show IntKind.u8.wrap (((x ^^^ y).toNat : Nat) : Int) = _
 rw [IntKind.wrap_u8]
 omega
abbrev toI (l : Str) : List Int := l.map fun c => (c.toNat : Int)
theorem ofBytes_toI (l : Str) : ofBytes (toI l) = l := by
 unfold ofBytes toI
 rw [List.map_map]
 exact (List.map_congr_left (fun c _ => by simp)).trans (List.map_id l)
theorem xorV_next {a b : Str} {i : Nat} (h : i < max a.length b.length) : toI ((xorV a b).take i) ++ [((a.getD i 0 ^^^ b.getD i 0).toNat : Int)] = toI ((xorV a b).take (i + 1)) := by
 have hl : i < (xorV a b).length := by rw [xorV_len]; exact h
 rw [List.take_succ_eq_append_getElem hl]
 simp [toI, xorV]
theorem getD_in {a : Str} {i : Nat} (h : i < a.length) : a.getD i 0 = a[i] := by simp [List.getD_eq_getElem?_getD, h]
theorem getD_out {a : Str} {i : Nat} (h : ¬ i < a.length) : a.getD i 0 = 0 := by simp [List.getD_eq_getElem?_getD, List.getElem?_eq_none (by omega : a.length ≤ i)]
theorem sMaxN (m n : Nat) : sMax (m : Int) (n : Int) = ((max m n : Nat) : Int) := by
 unfold sMax
 cases h : decide ((m : Int) < (n : Int))
 ·have := of_decide_eq_false h
  show (m : Int) = _
  omega
 ·have := of_decide_eq_true h
  show (n : Int) = _
  omega
theorem colT_nextS {s : Str} {k : Nat} (h : 3 * k < s.length) : (colT s).take k ++ [secT (s.drop (3 * k))] = (colT s).take (k + 1) := by
 have hl : k < (colT s).length := by rw [colT_len]; omega
 rw [List.take_succ_eq_append_getElem hl]
 simp [colT]
theorem rd_own {d : Dsk} (h : rdV d = true) : (drvOf d).ok ∧ d.2.2.2.2.any badP = false ∧ List.length d.2.2.2.2 ≤ 40 := by
 obtain ⟨h1, h2, h3, h4, h5⟩ := rd_parts h
 obtain ⟨_, x1, x2, x3, x4⟩ := shaped_iff h1
 exact ⟨drv_ok h1, h2, x4⟩
theorem sput_fit {ds : List Dsk} {p : Ptr_} {t : Str} : FitDs (sputV ds p t).1 := by
 unfold sputV
 split
 ·rename_i h
  obtain ⟨hu, h1, h2⟩ := h
  obtain ⟨u1, u2, u3, u4, u5, u6⟩ := usable_parts hu
  obtain ⟨y1, y2, y3⟩ := strip_places hu h1
  refine ⟨by show (wrN _ _ _ _).length ≤ 4; rw [wrN_len]; exact stripe_len u1, fun d hd => ?_⟩
  have := wrN_rd (stripe_all u1) u6 (fun c hc => stripT_3 hc) p.2.2.length (Nat.le_refl _) (by omega) d hd
  obtain ⟨_, x1, x2, x3, x4⟩ := shaped_iff (rd_parts this).1
  exact ⟨by omega, by omega, by omega, by omega⟩
 ·exact ⟨Nat.zero_le _, fun d h => by cases h⟩
theorem sput_mk {ds : List Dsk} {p : Ptr_} {t : Str} {W : List Dsk × Bool} (h : sputV ds p t = W) : 1 ≤ nxLs mDsk 1 W.1 ∧ nxLs mDsk 1 W.1 ≤ 1000 := by
 have hf := sput_fit (ds := ds) (p := p) (t := t)
 rw [h] at hf
 obtain ⟨a, b⟩ := hf
 have h1 := nx_fitDs (k := 1) b
 exact ⟨(mkList_ok mDsk_ok).ge 1 _, by omega⟩
theorem args_mk {ds : List Dsk} {p : Ptr_} (h : 0 ≤ szP p (szDs ds 1048576)) (h0 : 0 ≤ szDs ds 1048576) : 1 ≤ nxLs mDsk 1 ds ∧ nxLs mDsk 1 ds ≤ nxLs mPlc (nxLs mDsk 1 ds) p.2.2 ∧ nxLs mPlc (nxLs mDsk 1 ds) p.2.2 ≤ 8000000 := by
 have x1 : nxLs mDsk 1 ds ≤ 1 + 3 * (1048576 - szDs ds 1048576) + 0 := szDs_mk ds 1048576 1 (by decide) h0
 have x2 := szP_sm p (szDs ds 1048576) h0 (szDs_ok ds 1048576 (by decide)).2 h
 have x3 : p.2.2.length ≤ 1048576 := x2
 refine ⟨(mkList_ok mDsk_ok).ge 1 _, (mkList_ok mPlc_ok).ge _ _, ?_⟩
 rw [nx_plcs]
 omega
end Go.Sx

namespace Go.Proofs
open Go.RowKit Go.Shelf
attribute [local go_sem] Oper.semAt_some
abbrev XX (M : Nat) := { x : Nat × UInt8 // x.1 < max M 1 }
abbrev xorE {M : Nat} (x : XX M) : Array Value := volE x.val
def xorF (s : ByteArray) (j : Nat) : XX s.size := ⟨(min j (s.size - 1), s.data[j]?.getD 0), by show min j (s.size - 1) < max s.size 1; omega⟩
set_option maxRecDepth 100000 in
set_option maxHeartbeats 1000000 in
theorem xorB_in (F : Fence) (n : Nat) (h8 : F.fn 162) (hro : F.round = none) (hn : 1 ≤ n) (l Bs : Nat) (s : ByteArray) (hreach : s.size ≤ 1000000) (J Jx : List (XX s.size) → World → Prop)
  (hY : ∀ pre x W, J pre W → pre.length < s.size → YieldAt F (n - 1) Tryz.prog l (xorE x) W fun e W' =>
   (e = .returned (.bool true) ∧ J (pre ++ [x]) W' ∧ W'.heap[Bs]? = W.heap[Bs]?) ∨ (e = .returned (.bool false) ∧ Jx (pre ++ [x]) W'))
  (W : World) (hBs : W.cell? ⟨Bs, 0, none⟩ = some (.string s)) (h0 : J [] W) :
  CallsIn F n Tryz.prog 162 #[.func (.yield l) #[] #[], .pointer (some ⟨Bs, 0, none⟩)] W fun e W' => (∃ v, e = .returned v) ∧
   ((∃ ys, ys = volUp (xorF s) s.size ∧ J ys W') ∨ (∃ pre, (∃ k, k ≤ s.size ∧ pre = volUp (xorF s) k) ∧ Jx pre W')) := by
 refine callsIn_of_wp Tryz.func162 rfl h8 ?_ hro
 simp only [Tryz.ntmps162, List.size_toArray, List.length_cons, List.length_nil, Nat.reduceAdd, Nat.reduceSub, Array.replicate_succ, Array.replicate_zero, List.push_toArray, List.append_toArray, List.nil_append, List.cons_append]
 gi_wp2
 gi_loopw [6] (fun i wr => ∃ k : Nat, k ≤ s.size ∧ i = .int .i64 k ∧ J (volUp (xorF s) k) wr ∧ wr.heap[Bs]? = W.heap[Bs]?)
  (fun i _ => s.size - (intOf i).toNat)
 case atStart => exact ⟨0, Nat.zero_le _, rfl, h0, rfl⟩
 case round =>
  obtain ⟨k, hk, rfl, hJs, hnx⟩ := hrel
  have hcx : wr.cell? ⟨Bs, 0, none⟩ = some (.string s) := by
   have : wr.cell? ⟨Bs, 0, none⟩ = W.cell? ⟨Bs, 0, none⟩ := by simp only [World.cell?, hnx]
   exact this.trans hBs
  by_cases hlt : k < s.size
  ·obtain ⟨fn, tmps, assign, body, hy, hR⟩ := hY _ (xorF s k) wr hJs (by rw [volUp_length]; exact hlt)
   dsimp only [xorE, volE, xorF] at hy
   rw [show min k (s.size - 1) = k by omega] at hy
   have e : s.data[k]?.getD 0 = s[k]'hlt := by
    have h : k < s.data.size := hlt
    rw [Array.getElem?_eq_getElem h]
    rfl
   rw [e] at hy
   gi_wp2
   refine hR.mono ?_
   rintro e W3 (⟨rfl, hJ3, hk3⟩ | ⟨rfl, hJx3⟩)
   ·gi_wp2
    go_roundw
    case rel => exact ⟨k + 1, by omega, by simp, by rw [volUp_succ]; exact hJ3, hk3.trans hnx⟩
    case measure => simp [intOf]; omega
   ·gi_wp2
    refine bodyPost_ret (results_none rfl _ _ _) rfl ?_
    exact ⟨⟨_, rfl⟩, .inr ⟨_, ⟨k + 1, by omega, (volUp_succ _ _).symm⟩, hJx3⟩⟩
  ·obtain rfl : k = s.size := by omega
   gi_wp2
   go_end0
   exact ⟨⟨_, rfl⟩, .inl ⟨_, rfl, hJs⟩⟩
theorem xor_stops (F : Fence) (n : Nat) (h8 : F.fn 162) (hro : F.round = none) (hn : 1 ≤ n) (Bs : Nat) (s : ByteArray) (hreach : s.size ≤ 1000000) (w : World) (hb : Bs < w.heap.size) (hc : w.cell? ⟨Bs, 0, none⟩ = some (.string s)) :
  SeqStopsK F n Tryz.prog 162 #[.pointer (some ⟨Bs, 0, none⟩)] xorE (fun W W' => W'.heap[Bs]? = W.heap[Bs]?) (fun xs => xs = volUp (xorF s) s.size)
   (fun pre => ∃ k, k ≤ s.size ∧ pre = volUp (xorF s) k) s.size w := fun l J Jx W hW _ _ hY h0 =>
 xorB_in F n h8 hro hn l Bs s hreach J Jx hY W ((hW.cell (p := ⟨Bs, 0, none⟩) hb).trans hc) h0
def depsOn (md : Region.Mode) (o : Oper) : List Nat := (o.after.toList.filter (Region.binds md)).map (·.on)
theorem wpAny_inv {F : Fence} {n : Nat} {P : Program} {md : Region.Mode} {ops : Array Oper} {Q : Exit → Act → World → Prop} (A : List Bool → Act) (W : List Bool → World)
  (hlow : (List.range ops.size).all (fun i => match ops[i]? with | none => true | some o => o.after.all fun e => decide (e.on < i)) = true)
  (hs : ∀ (K : Act → World → Prop) (L : List Bool) (i : Nat) (o : Oper), L.length = ops.size → (∀ (j : Nat) oj, ops[j]? = some oj → L[j]? = some true → (depsOn md oj).all (fun j : Nat => L[j]? == some true) = true) → ops[i]? = some o → L[i]? = some false → (depsOn md o).all (fun j : Nat => L[j]? == some true) = true →
   K (A (L.set i true)) (W (L.set i true)) → wpOpIn F n P ops Q i K (A L) (W L))
  (hend : Q .normal (A (List.replicate ops.size true)) (W (List.replicate ops.size true))) :
  ∀ (fuel : Nat) (L : List Bool), L.length = ops.size → (∀ (j : Nat) oj, ops[j]? = some oj → L[j]? = some true → (depsOn md oj).all (fun j : Nat => L[j]? == some true) = true) → L.count false ≤ fuel → wpAnyIn F n P md ops Q fuel L.toArray (A L) (W L) := by
 have hdone : ∀ L : List Bool, L.length = ops.size → Region.ready md ops L.toArray = [] → L = List.replicate ops.size true := by
  intro L hL hr
  have key : ∀ i, i < L.length → L[i]? = some true := by
   intro i
   induction i using Nat.strongRecOn with
   | ind i ih =>
    intro hi
    cases hb : L[i]? with
    | none => rw [List.getElem?_eq_none_iff] at hb; omega
    | some c =>
     cases c with
     | true => rfl
     | false =>
      exfalso
      have hio : i < ops.size := by omega
      have : i ∈ Region.ready md ops L.toArray := by
       refine mem_ready.2 ⟨by simp [hb], ops[i], by simp [hio], fun e he _ => ?_⟩
       have h1 := List.all_eq_true.1 hlow i (List.mem_range.2 hio)
       simp only [hio, getElem?_pos] at h1
       have h2 := Array.all_eq_true_iff_forall_mem.1 h1 e he
       have h3 : e.on < i := by simpa using h2
       simp [ih e.on h3 (by omega)]
      rw [hr] at this
      cases this
  refine List.ext_getElem? fun i => ?_
  by_cases hi : i < L.length
  ·rw [key i hi]; simp [hL ▸ hi]
  ·rw [List.getElem?_eq_none_iff.2 (by omega), List.getElem?_eq_none_iff.2 (by simp; omega)]
 intro fuel
 induction fuel with
 | zero =>
  intro L hL hcl hc
  have hall : L = List.replicate ops.size true := by
   rw [← hL]
   refine List.eq_replicate_iff.2 ⟨rfl, fun b hb => ?_⟩
   cases b with
   | true => rfl
   | false => exact absurd (List.count_pos_iff.2 hb) (by omega)
  have hr : Region.ready md ops L.toArray = [] := by
   refine List.eq_nil_iff_forall_not_mem.2 fun i hi => ?_
   obtain ⟨h1, o, h2, _⟩ := mem_ready.1 hi
   have : i < ops.size := (Array.getElem?_eq_some_iff.1 h2).1
   rw [hall] at h1
   simp [this] at h1
  exact ⟨hr, by rw [hall]; exact hend⟩
 | succ fuel ih =>
  intro L hL hcl hc
  refine ⟨fun hr => by rw [hdone L hL hr]; exact hend, fun i hi => ?_⟩
  obtain ⟨h1, o, h2, h3⟩ := mem_ready.1 hi
  have hio : i < ops.size := (Array.getElem?_eq_some_iff.1 h2).1
  have hLi : L[i]? = some false := by
   have : i < L.length := by omega
   simp [this] at h1
   rw [List.getElem?_eq_getElem this, h1]
  have hdo : (depsOn md o).all (fun j : Nat => L[j]? == some true) = true := by
   refine List.all_eq_true.2 fun j hj => ?_
   obtain ⟨e, he, rfl⟩ := List.mem_map.1 hj
   obtain ⟨he1, he2⟩ := List.mem_filter.1 he
   have := h3 e (by simpa using he1) he2
   simp only [Array.getD_eq_getD_getElem?, List.getElem?_toArray] at this
   cases hq : L[e.on]? with
   | none => rw [hq] at this; cases this
   | some c => rw [hq] at this; simp at this; simp [this]
  refine hs _ L i o hL hcl h2 hLi hdo ?_
  ·have hset : ∀ j : Nat, L[j]? = some true → (L.set i true)[j]? = some true := fun j hj => by
    rw [List.getElem?_set]
    split
    ·rename_i e; rw [if_pos (by omega)]
    ·exact hj
   have := ih (L.set i true) (by simpa using hL) (fun j oj hj ht => by
    refine List.all_eq_true.2 fun e he => ?_
    have hh : L[e]? = some true := by
     by_cases e1 : i = j
     ·subst e1
      rw [h2] at hj
      cases hj
      simpa using List.all_eq_true.1 hdo e he
     ·rw [List.getElem?_set_ne e1] at ht
      simpa using List.all_eq_true.1 (hcl j oj hj ht) e he
    simp [hset e hh]) (by
    have h4 : (L.set i true).count false + 1 = L.count false := by
     have hi : i < L.length := by omega
     have hg : L[i] = false := by rw [List.getElem?_eq_getElem hi] at hLi; exact Option.some.inj hLi
     have h5 := List.count_set (a := true) (b := false) hi
     have h6 : 0 < L.count false := List.count_pos_iff.2 (hg ▸ List.getElem_mem hi)
     simp [hg] at h5
     omega
    omega)
   simpa using this
def xorA (u0 u1 u2 u3 u4 u5 u6 u7 u8 u9 u10 u11 u12 u13 u14 u15 u16 u17 u18 u19 u20 u21 vs v7 vk vf vp vc v8 v32 : Value) (l : List Bool) : Act := ⟨(u0 :: u1 :: u2 :: u3 :: u4 :: u5 :: u6 :: u7 :: u8 :: u9 :: u10 :: u11 :: u12 :: u13 :: u14 :: u15 :: u16 :: u17 :: u18 :: u19 :: u20 :: u21 ::
 (if l.getD 0 false then vs else undef) :: (if l.getD 1 false then v7 else undef) :: (if l.getD 2 false then vk else undef) :: (if l.getD 3 false then vf else undef) ::
 (if l.getD 4 false then vs else undef) :: (if l.getD 5 false then v7 else undef) :: (if l.getD 6 false then vk else undef) :: (if l.getD 7 false then vp else undef) ::
 (if l.getD 8 false then vc else undef) :: (if l.getD 9 false then v8 else undef) :: (if l.getD 10 false then v32 else undef) :: (if l.getD 11 false then vp else undef) :: undef :: undef :: []).toArray, []⟩
theorem bits_xor (x y : UInt8) : bits .xor .u8 (x.toNat : Int) (y.toNat : Int) = ((x ^^^ y).toNat : Int) := by
 unfold bits
 have hk : IntKind.u8.bits = 8 := rfl
 have h : ∀ z : UInt8, BitVec.ofInt IntKind.u8.bits (z.toNat : Int) = z.toBitVec := by
  intro z
  apply BitVec.eq_of_toNat_eq
  show ((z.toNat : Int) % 256).toNat = z.toNat
  have := z.toNat_lt
  omega
 simp only [h]
 have e : (x.toBitVec ^^^ y.toBitVec) = (x ^^^ y).toBitVec := rfl
 have h2 := (x ^^^ y).toNat_lt
 show IntKind.u8.wrap (((x ^^^ y).toNat : Nat) : Int) = _
 rw [IntKind.wrap_u8]
 omega
theorem either_in (F : Fence) (n : Nat) (h : F.fn 173) (hro : F.round = none) (x y : UInt8) (w : World) :
  CallsIn F n Tryz.prog 173 #[.int .u8 (x.toNat : Int), .int .u8 (y.toNat : Int)] w fun e W' => e = .returned (.int .u8 ((x ^^^ y).toNat : Int)) ∧ W' = w := by
 refine callsIn_of_wp Tryz.func173 rfl h ?_ hro
 simp only [Tryz.ntmps173, List.size_toArray, List.length_cons, List.length_nil, Nat.reduceAdd, Nat.reduceSub, Array.replicate_succ, Array.replicate_zero, List.push_toArray, List.append_toArray, List.nil_append, List.cons_append]
 gi_wp2
 go_ret
 exact ⟨congrArg (fun z => Ending.returned (.int .u8 z)) (bits_xor x y), rfl⟩
def bC (l : List UInt8) : Array Value := (l.map fun c => Value.int .u8 (c.toNat : Int)).toArray
theorem bC_cell {W : World} {g : Nat} {L : List UInt8} {k : Nat} {t : TypeId} {fz : Nat × Nat} (h : W.heap[g]? = some (.cells (bC L) t fz)) (hk : k < L.length) : W.cell? ⟨g, k, none⟩ = some (.int .u8 ((L.getD k 0).toNat : Int)) := by
 rw [World.cell?, h]
 simp [bC, hk]
theorem bC_set {W : World} {g : Nat} {L : List UInt8} {k : Nat} {c : UInt8} {t : TypeId} {fz : Nat × Nat} (h : W.heap[g]? = some (.cells (bC L) t fz)) (hk : k < L.length) : (W.drew.setCell ⟨g, k, none⟩ (.int .u8 (c.toNat : Int))).heap[g]? = some (.cells (bC (L.set k c)) t fz) := by
 show (W.heap.modify g _)[g]? = _
 have hlt : g < W.heap.size := (Array.getElem?_eq_some_iff.1 h).1
 rw [Array.getElem?_eq_getElem (by simpa using hlt), Array.getElem_modify_self]
 have : W.heap[g] = .cells (bC L) t fz := (Array.getElem?_eq_some_iff.1 h).2
 rw [this]
 simp [bC, List.map_set]
theorem bC_rep (m : Nat) : bC (List.replicate m 0) = madeCells #[Value.int .u8 0] m := by
 apply Array.ext
 ·simp [bC, size_madeCells]
 ·intro i h1 h2
  have : i % 1 = 0 := Nat.mod_one i
  simp [bC, madeCells, this]
theorem setRow_al (w : World) (o : Obj) (x y : Array Value) (t : TypeId) (o2 : Obj) : (((w.alloc o).alloc (.cells x t)).alloc o2).setRow (w.heap.size + 1) y = (((w.alloc o).alloc (.cells y t)).alloc o2) := by
 simp only [World.setRow, World.alloc]
 congr 1
 apply Array.ext
 ·simp
 ·intro i h1 h2
  rw [Array.getElem_modify]
  simp only [Array.getElem_push, Array.size_push]
  by_cases e : w.heap.size + 1 = i
  ·subst e
   simp
  ·simp only [e, if_false]
   repeat' split
   all_goals first | rfl | omega
theorem al4 (w : World) (A B C D : Obj) : let W := (((w.alloc A).alloc B).alloc C).alloc D
  W.heap[w.heap.size]? = some A ∧ W.heap[w.heap.size + 1]? = some B ∧ W.heap[w.heap.size + 2]? = some C ∧ W.heap[w.heap.size + 3]? = some D := by
 intro W
 have e : W.heap = (((w.heap.push A).push B).push C).push D := rfl
 rw [e]
 refine ⟨?_, ?_, ?_, ?_⟩
 ·rw [Array.getElem?_push, if_neg (by simp only [Array.size_push]; omega), Array.getElem?_push, if_neg (by simp only [Array.size_push]; omega), Array.getElem?_push, if_neg (by simp only [Array.size_push]; omega), Array.getElem?_push, if_pos (by simp only [Array.size_push])]
 ·rw [Array.getElem?_push, if_neg (by simp only [Array.size_push]; omega), Array.getElem?_push, if_neg (by simp only [Array.size_push]; omega), Array.getElem?_push, if_pos (by simp only [Array.size_push])]
 ·rw [Array.getElem?_push, if_neg (by simp only [Array.size_push]; omega), Array.getElem?_push, if_pos (by simp only [Array.size_push])]
 ·rw [Array.getElem?_push, if_pos (by simp only [Array.size_push])]
theorem al3 (w : World) (A B C : Obj) : (((w.alloc A).alloc B).alloc C).heap[w.heap.size + 1]? = some B := by
 have e : (((w.alloc A).alloc B).alloc C).heap = ((w.heap.push A).push B).push C := rfl
 rw [e]
 rw [Array.getElem?_push, if_neg (by simp only [Array.size_push]; omega), Array.getElem?_push, if_pos (by simp only [Array.size_push])]
theorem cell_of {W : World} {g : Nat} {v : Value} {t : TypeId} {fz : Nat × Nat} (h : W.heap[g]? = some (.cells #[v] t fz)) : W.cell? ⟨g, 0, none⟩ = some v := by
 simp [World.cell?, h]
theorem conv_bC {P : Program} {W : World} {g : Nat} {L : List UInt8} {t : TypeId} {fz : Nat × Nat} (h : W.heap[g]? = some (.cells (bC L) t fz)) :
  (Conv.bytesToString (.slice (some ⟨g, 0, none⟩) L.length L.length)).run P W = .ok (.string ⟨L.toArray⟩) W := by
 have h1 := run_loadCells_list (P := P) W ⟨g, 0, none⟩ (L.map fun c => Value.int .u8 (c.toNat : Int)) (by
  intro j v hv
  obtain ⟨c, hc, rfl⟩ : ∃ c, L[j]? = some c ∧ Value.int .u8 (c.toNat : Int) = v := by simpa using hv
  have hj : j < L.length := (List.getElem?_eq_some_iff.1 hc).1
  have := bC_cell h hj
  rw [List.getD_eq_getElem?_getD, hc] at this
  have ha : (⟨g, 0, none⟩ : Addr).add j = ⟨g, j, none⟩ := by
   unfold Addr.add
   by_cases e : j = 0
   ·subst e; rfl
   ·simp [e]
  rw [ha]
  simpa using this)
 have h2 := run_bytesToString (P := P) W ⟨g, 0, none⟩ L.length L.length (L.map fun c => (c.toNat : Int)) (by rw [List.map_map]; rw [List.length_map] at h1; exact h1)
 rw [h2]
 congr 2
 have : ∀ (l : List UInt8) (r : ByteArray), (l.map fun c => (c.toNat : Int)).foldl (fun r n => r.push (UInt8.ofNat n.toNat)) r = ⟨r.data ++ l.toArray⟩ := by
  intro l
  induction l with
  | nil => intro r; simp
  | cons c l ih =>
   intro r
   simp only [List.map_cons, List.foldl_cons]
   rw [ih]
   simp [ByteArray.push]
 rw [this]
 simp
def xorS {M : Nat} (l : List UInt8) (pre : List (XX M)) : List UInt8 := pre.foldl (fun L x => L.set x.val.1 (L.getD x.val.1 0 ^^^ x.val.2)) l
theorem xorS_add {M : Nat} (l : List UInt8) (pre : List (XX M)) (x : XX M) : xorS l (pre ++ [x]) = (xorS l pre).set x.val.1 ((xorS l pre).getD x.val.1 0 ^^^ x.val.2) := by simp [xorS]
theorem xorS_len {M : Nat} (l : List UInt8) (pre : List (XX M)) : (xorS l pre).length = l.length := by
 unfold xorS
 induction pre generalizing l with
 | nil => rfl
 | cons x r ih => simp only [List.foldl_cons]; rw [ih]; simp
def xor0 (a : ByteArray) (m : Nat) : List UInt8 := a.data.toList ++ List.replicate (m - a.size) 0
def xorO (a b : ByteArray) : ByteArray := ⟨(xorS (xor0 a (max a.size b.size)) (volUp (xorF b) b.size)).toArray⟩
set_option maxRecDepth 100000 in
set_option maxHeartbeats 4000000 in
theorem xor_in (F : Fence) (n : Nat) (h144 : F.fn 144) (h138 : F.fn 138) (h162 : F.fn 162) (h173 : F.fn 173) (hro : F.round = none) (hn : 3 ≤ n) (a b : ByteArray) (ha : a.size ≤ 1000) (hb : b.size ≤ 1000) (w : World) :
  CallsIn F n Tryz.prog 144 #[.string a, .string b] w fun e W' => e = .returned (.string (xorO a b)) ∧ Below w.heap.size w W' := by
 have h1 : 1 ≤ n := by omega
 have hmx : Tryz.prog.follows .mixedOrders = true := by kernel_rfl
 obtain ⟨m, hm⟩ : ∃ m, m = max a.size b.size := ⟨_, rfl⟩
 have hfin : xorO a b = ⟨(xorS (xor0 a m) (volUp (xorF b) b.size)).toArray⟩ := by rw [hm]; rfl
 have hma : a.size ≤ m := by omega
 have hmb : b.size ≤ m := by omega
 have hml : m ≤ 1000 := by omega
 have hmk : ∀ (z : Nat) (W : World), z = m → (Instr.makeSlice 22 (.int .i64 z) (.int .i64 z)).run Tryz.prog W = .ok (.slice (some ⟨W.heap.size, 0, none⟩) m m) (W.alloc (.cells (bC (List.replicate m 0)) 5)) := by
  rintro z W rfl
  have := run_makeSlice (P := Tryz.prog) W 22 5 _ (.int .u8 0) rfl rfl rfl .i64 .i64 (z : Int) (z : Int) (by omega) (by omega) (by show z * 1 ≤ _; omega) (by show ((1 : Nat) : Int) * _ ≤ _; omega) (by omega)
  rw [bC_rep]
  have e : ((z : Int).toNat * Tryz.prog.types[5].size) = z := by show z * 1 = z; omega
  rw [e] at this
  exact this
 have hmk1 := fun W (h : a.size < b.size) => hmk b.size W (by omega)
 have hmk2 := fun W (h : ¬ a.size < b.size) => hmk a.size W (by omega)
 have hmk3 : ∀ W : World, (Instr.makeSlice 22 (.int .i64 (max (a.size : Int) (b.size : Int))) (.int .i64 (max (a.size : Int) (b.size : Int)))).run Tryz.prog W = .ok (.slice (some ⟨W.heap.size, 0, none⟩) m m) (W.alloc (.cells (bC (List.replicate m 0)) 5)) := fun W => by
  rw [show max (a.size : Int) (b.size : Int) = (m : Int) by omega]
  exact hmk m W rfl
 clear hmk hm
 have hW3 : ∀ (c : List UInt8), World.heap (((w.alloc (.cells #[.func (.func 173) #[] #[]] 207)).alloc (.cells (bC c) 5)).alloc (.cells #[.slice (some ⟨w.heap.size + 1, 0, none⟩) m m] 22)) = (((w.heap.push (.cells #[.func (.func 173) #[] #[]] 207)).push (.cells (bC c) 5)).push (.cells #[.slice (some ⟨w.heap.size + 1, 0, none⟩) m m] 22)) := fun c => rfl
 have hcp : (Builtin.copy_ #[22, 9] 3 #[.slice (some ⟨w.heap.size + 1, 0, none⟩) m m, .string a]).run Tryz.prog (((w.alloc (.cells #[.func (.func 173) #[] #[]] 207)).alloc (.cells (bC (List.replicate m 0)) 5)).alloc (.cells #[.slice (some ⟨w.heap.size + 1, 0, none⟩) m m] 22))
   = .ok (goInt a.size) (((w.alloc (.cells #[.func (.func 173) #[] #[]] 207)).alloc (.cells (bC (xor0 a m)) 5)).alloc (.cells #[.slice (some ⟨w.heap.size + 1, 0, none⟩) m m] 22)) := by
  have := Lib.run_copy_row_string (P := Tryz.prog) (((w.alloc (.cells #[.func (.func 173) #[] #[]] 207)).alloc (.cells (bC (List.replicate m 0)) 5)).alloc (.cells #[.slice (some ⟨w.heap.size + 1, 0, none⟩) m m] 22)) 22 9 3 5 (w.heap.size + 1) 0 m m a (bC (List.replicate m 0)) 5 rfl rfl (al3 _ _ _ _) hma (by simp [bC]; omega)
  rw [this, setRow_al]
  have : ((bC (List.replicate m 0)).toList.take 0 ++ Lib.byteCells a.data.toList ++ (bC (List.replicate m 0)).toList.drop (0 + a.size)).toArray = bC (xor0 a m) := by
   simp [bC, xor0, Lib.byteCells]
  rw [this]
 clear hW3
 obtain ⟨W4, hW4⟩ : ∃ W4, W4 = (((w.alloc (.cells #[.func (.func 173) #[] #[]] 207)).alloc (.cells (bC (xor0 a m)) 5)).alloc (.cells #[.slice (some ⟨w.heap.size + 1, 0, none⟩) m m] 22)).alloc (.cells #[.string b] 9) := ⟨_, rfl⟩
 have hs4 : W4.heap.size = w.heap.size + 4 := by rw [hW4]; simp
 have c0 : W4.cell? ⟨w.heap.size, 0, none⟩ = some (.func (.func 173) #[] #[]) := by rw [hW4]; exact cell_of (al4 _ _ _ _ _).1
 have c1 : W4.heap[w.heap.size + 1]? = some (.cells (bC (xor0 a m)) 5 (0, 0)) := by rw [hW4]; exact (al4 _ _ _ _ _).2.1
 have c2 : W4.cell? ⟨w.heap.size + 2, 0, none⟩ = some (.slice (some ⟨w.heap.size + 1, 0, none⟩) m m) := by rw [hW4]; exact cell_of (al4 _ _ _ _ _).2.2.1
 have c3 : W4.cell? ⟨w.heap.size + 3, 0, none⟩ = some (.string b) := by rw [hW4]; exact cell_of (al4 _ _ _ _ _).2.2.2
 have hB0 : Below w.heap.size w W4 := by
  rw [hW4]
  exact (((((Below.refl _ w).alloc (Nat.le_refl _) _).alloc (by simp) _).alloc (by simp; omega) _).alloc (by simp; omega) _)
 refine callsIn_of_wp_marks Tryz.func144 rfl h144 ?_ hro
 simp only [Tryz.ntmps144, List.size_toArray, List.length_cons, List.length_nil, Nat.reduceAdd, Nat.reduceSub, Array.replicate_succ, Array.replicate_zero, List.push_toArray, List.append_toArray, List.nil_append, List.cons_append]
 gi_wp2_with (gi_at_call 138; refine (vol138_in F (n - 1) h138 hro _ _).mono ?_; rintro e w' ⟨rfl, rfl⟩)
 all_goals rw [← hW4]
 all_goals (
  refine' wpIn_rangeFunc_ownF hro h1 (gf := 162) (lb := #[.pointer (some ⟨w.heap.size + 3, 0, none⟩)]) rfl h162 (enters_of Tryz.func162 (by kernel_rfl) rfl)
   (xor_stops F (n - 1) h162 hro (by omega) (w.heap.size + 3) b (by omega) W4 (by omega) c3) (fun h k => k.trans h) (fun W l o o' hl _ _ _ => World.putObj_heap_other (by omega)) (Below.refl _ _) (fun _ => rfl)
   (fun pre W => (W.cell? ⟨w.heap.size, 0, none⟩ = some (.func (.func 173) #[] #[]) ∧ W.heap[w.heap.size + 1]? = some (.cells (bC (xorS (xor0 a m) pre)) 5 (0, 0)) ∧ W.cell? ⟨w.heap.size + 2, 0, none⟩ = some (.slice (some ⟨w.heap.size + 1, 0, none⟩) m m)) ∧ Below w.heap.size w W)
   (fun _ _ _ => False)
   (OwnFrom.and (Own.from (fun s A B row hs hg hr => ⟨cell_kept hs.1 hg hr, (grownBy_keeps_cells hg hr hs.2.1 rfl).trans hs.2.1, cell_kept hs.2.2 hg hr⟩) _) (ownFrom_below (Nat.le_refl _) (by omega)))
   (fun c => Own.from (fun s A B row hs hg hr => hs) _)
   ⟨⟨c0, c1, c2⟩, hB0⟩ _ ?assign ?body ?done ?stop
  case assign =>
   intro l x W K hK
   gi_wp2
   exact hK
  case body =>
   rintro l pre x W ⟨⟨e0, e1, e2⟩, hB⟩ hlt
   have hx : x.val.1 < b.size := by have := x.property; omega
   obtain ⟨L, hL⟩ : ∃ L, xorS (xor0 a m) pre = L := ⟨_, rfl⟩
   rw [hL] at e1
   have hd : 1 ≤ n - 1 - 1 := by omega
   have hLl : L.length = m := by rw [← hL, xorS_len]; simp [xor0]; omega
   have hxm : x.val.1 < L.length := by omega
   have ec : W.cell? ⟨w.heap.size + 1, x.val.1, none⟩ = some (.int .u8 ((L.getD x.val.1 0).toNat : Int)) := bC_cell e1 hxm
   have ef : W.frozen? ⟨w.heap.size + 1, x.val.1, none⟩ = false := by rw [World.frozen?, e1]; simp
   have hxi : (x.val.1 : Int) < (m : Int) := by omega
   have hx6 : x.val.1 < 1000000 := by omega
   have hw1 : IntKind.i64.wrap (x.val.1 : Int) = (x.val.1 : Int) := by rw [IntKind.wrap_i64]; omega
   gi_wp2
   refine wpIn_region_any (by kernel_rfl) ?_
   change wpAnyIn _ _ _ _ _ _ _ _ _ (World.drew _)
   obtain ⟨c0, hc0⟩ : ∃ v, L.getD x.val.1 0 = v := ⟨_, rfl⟩
   rw [hc0] at ec
   obtain ⟨c1, hc1⟩ : ∃ v, c0 ^^^ x.val.2 = v := ⟨_, rfl⟩
   refine' wpAny_inv (xorA _ _ _ _ _ _ _ _ _ _ _ _ _ _ _ _ _ _ _ _ _ _ (Value.slice (some { block := w.heap.size + 1, off := 0 }) m m) (Value.int .i64 (↑x.val.fst + 1)) (Value.int .i64 ↑x.val.fst) (Value.func (.func 173) #[] #[])
     (Value.pointer (some { block := w.heap.size + 1, off := x.val.1 })) (Value.int .u8 ((c0).toNat : Int)) (Value.int .u8 (x.val.2.toNat : Int)) (Value.int .u8 ((c1).toNat : Int)))
     (fun l => if l.getD 12 false then W.drew.setCell ⟨w.heap.size + 1, x.val.1, none⟩ (Value.int .u8 ((c1).toNat : Int)) else W.drew)
    ?_ ?_ ?_ 13 (List.replicate 13 false) ?_ ?_ ?_
   ·kernel_rfl
   ·intro K l i o hl hcl ho hi hd hK
    have hl : l.length = 13 := hl
    have hi13 : i < 13 := by rcases Nat.lt_or_ge i l.length with h | h; omega; rw [List.getElem?_eq_none_iff.2 h] at hi; cases hi
    have h12 := hcl 12 _ rfl
    have h10 := hcl 10 _ rfl
    match l, hl with
    | [b0, b1, b2, b3, b4, b5, b6, b7, b8, b9, b10, b11, b12], _ =>
    clear hcl
    simp [depsOn, Region.binds] at h12 h10
    obtain rfl | rfl | rfl | rfl | rfl | rfl | rfl | rfl | rfl | rfl | rfl | rfl | rfl : i = 0 ∨ i = 1 ∨ i = 2 ∨ i = 3 ∨ i = 4 ∨ i = 5 ∨ i = 6 ∨ i = 7 ∨ i = 8 ∨ i = 9 ∨ i = 10 ∨ i = 11 ∨ i = 12 := by omega
    all_goals (
     simp only [List.getElem?_cons_succ, List.getElem?_cons_zero, Option.some.injEq] at hi
     subst hi
     have ho' := Option.some.inj (show some _ = some o from ho)
     subst ho'
     simp [depsOn, Region.binds] at hd)
    all_goals first | (obtain rfl : b12 = false := by revert h12; cases b12 <;> simp) | skip
    ·refine wpOpIn_step rfl ?_
     intro K' hK'
     dsimp only [xorA, List.getD_cons_zero, List.getD_cons_succ, Bool.false_eq_true, if_false]
     go_simp
     exact hK' _ _ hK
    ·refine wpOpIn_step rfl ?_
     intro K' hK'
     dsimp only [xorA, List.getD_cons_zero, List.getD_cons_succ, Bool.false_eq_true, if_false]
     go_simp
     exact hK' _ _ hK
    ·obtain rfl := hd
     refine wpOpIn_step rfl ?_
     intro K' hK'
     dsimp only [xorA, List.getD_cons_zero, List.getD_cons_succ, Bool.false_eq_true, if_false]
     have hsub : IntKind.i64.wrap ((x.val.1 : Int) + 1 - 1) = (x.val.1 : Int) := by rw [Int.add_sub_cancel]; exact hw1
     go_simp
     exact hK' _ _ hK
    ·refine wpOpIn_step rfl ?_
     intro K' hK'
     dsimp only [xorA, List.getD_cons_zero, List.getD_cons_succ, Bool.false_eq_true, if_false]
     go_simp
     exact hK' _ _ hK
    ·refine wpOpIn_step rfl ?_
     intro K' hK'
     dsimp only [xorA, List.getD_cons_zero, List.getD_cons_succ, Bool.false_eq_true, if_false]
     go_simp
     exact hK' _ _ hK
    ·refine wpOpIn_step rfl ?_
     intro K' hK'
     dsimp only [xorA, List.getD_cons_zero, List.getD_cons_succ, Bool.false_eq_true, if_false]
     go_simp
     exact hK' _ _ hK
    ·obtain rfl := hd
     refine wpOpIn_step rfl ?_
     intro K' hK'
     dsimp only [xorA, List.getD_cons_zero, List.getD_cons_succ, Bool.false_eq_true, if_false]
     have hsub : IntKind.i64.wrap ((x.val.1 : Int) + 1 - 1) = (x.val.1 : Int) := by rw [Int.add_sub_cancel]; exact hw1
     go_simp
     exact hK' _ _ hK
    ·obtain ⟨rfl, rfl⟩ := hd
     refine wpOpIn_step rfl ?_
     intro K' hK'
     dsimp only [xorA, List.getD_cons_zero, List.getD_cons_succ, Bool.false_eq_true, if_false, if_true]
     go_simp
     exact hK' _ _ hK
    ·obtain rfl := hd
     refine wpOpIn_step rfl ?_
     intro K' hK'
     dsimp only [xorA, List.getD_cons_zero, List.getD_cons_succ, Bool.false_eq_true, if_false, if_true]
     go_simp
     exact hK' _ _ hK
    ·refine wpOpIn_step rfl ?_
     intro K' hK'
     dsimp only [xorA, List.getD_cons_zero, List.getD_cons_succ, Bool.false_eq_true, if_false]
     go_simp
     exact hK' _ _ hK
    ·obtain ⟨rfl, rfl, rfl⟩ := hd
     refine wpOpIn_step rfl ?_
     intro K' hK'
     dsimp only [xorA, List.getD_cons_zero, List.getD_cons_succ, Bool.false_eq_true, if_false, if_true]
     go_simp
     refine (CallsIn.inRound _ (either_in F _ h173 hro c0 x.val.2 _)).mono ?_
     rintro e w' ⟨rfl, rfl⟩
     rw [hc1]
     exact hK' _ _ hK
    ·obtain ⟨rfl, rfl, hd⟩ := hd
     clear hd h10 h12
     refine wpOpIn_step rfl ?_
     intro K' hK'
     dsimp only [xorA, List.getD_cons_zero, List.getD_cons_succ, Bool.false_eq_true, if_false, if_true]
     go_simp
     exact hK' _ _ hK
    ·obtain ⟨rfl, rfl, rfl, hd⟩ := hd
     clear hd h10 h12
     refine wpOpIn_step rfl ?_
     intro K' hK'
     dsimp only [xorA, List.getD_cons_zero, List.getD_cons_succ, Bool.false_eq_true, if_false, if_true]
     go_simp
     exact hK' _ _ hK
   ·obtain ⟨X, hX⟩ : ∃ X, X = W.drew.setCell ⟨w.heap.size + 1, x.val.1, none⟩ (Value.int .u8 (c1.toNat : Int)) := ⟨_, rfl⟩
    refine (show KeepsOthers W (W.drew.setCell ⟨w.heap.size + 1, x.val.1, none⟩ (Value.int .u8 (c1.toNat : Int))) ∧ (W.drew.setCell ⟨w.heap.size + 1, x.val.1, none⟩ (Value.int .u8 (c1.toNat : Int))).heap[w.heap.size + 3]? = W.heap[w.heap.size + 3]? ∧
     (World.cell? (W.drew.setCell ⟨w.heap.size + 1, x.val.1, none⟩ (Value.int .u8 (c1.toNat : Int))) ⟨w.heap.size, 0, none⟩ = some (.func (.func 173) #[] #[]) ∧ (W.drew.setCell ⟨w.heap.size + 1, x.val.1, none⟩ (Value.int .u8 (c1.toNat : Int))).heap[w.heap.size + 1]? = some (.cells (bC (xorS (xor0 a m) (pre ++ [x]))) 5 (0, 0)) ∧ World.cell? (W.drew.setCell ⟨w.heap.size + 1, x.val.1, none⟩ (Value.int .u8 (c1.toNat : Int))) ⟨w.heap.size + 2, 0, none⟩ = some (.slice (some ⟨w.heap.size + 1, 0, none⟩) m m)) ∧
     Below w.heap.size w (W.drew.setCell ⟨w.heap.size + 1, x.val.1, none⟩ (Value.int .u8 (c1.toNat : Int))) from ?_)
    refine ⟨(KeepsOthers.setCell _ _ _).trans (KeepsOthers.drew _), ?_, ⟨?_, ?_, ?_⟩, ?_⟩
    ·exact Below.heap_setCell _ _ _ _ (by show w.heap.size + 3 ≠ w.heap.size + 1; omega)
    ·exact (World.cell?_of_block (Below.heap_setCell _ _ _ _ (by show w.heap.size ≠ w.heap.size + 1; omega))).trans e0
    ·rw [xorS_add, hL, hc0, hc1]
     exact bC_set e1 hxm
    ·exact (World.cell?_of_block (Below.heap_setCell _ _ _ _ (by show w.heap.size + 2 ≠ w.heap.size + 1; omega))).trans e2
    ·exact (hB.drew).setCell (p := ⟨w.heap.size + 1, x.val.1, none⟩) (by show w.heap.size ≤ w.heap.size + 1; omega) _
   ·rfl
   ·intro j oj hj ht; rw [List.getElem?_replicate] at ht; split at ht <;> cases ht
   ·decide
  case done =>
   rintro D ys W hD rfl ⟨⟨e0, e1, e2⟩, hB⟩ hK
   have hlen : (xorS (xor0 a m) (volUp (xorF b) b.size)).length = m := by rw [xorS_len]; simp [xor0]; omega
   have hcv := conv_bC (P := Tryz.prog) e1
   rw [hlen, ← hfin] at hcv
   replace hcv := (run_convert_bytes_string (P := Tryz.prog) W 22 9 5 _ m m rfl rfl rfl).trans hcv
   gi_wp2
   refine ⟨by simp, .inl ⟨_, _, rfl, run_takeDeferred hK, ?_⟩⟩
   refine ⟨.string (xorO a b), ?_, rfl, hB.trans (belowK_b (w := w) (Nat.le_refl _) _ D _ _ (by omega) hK rfl rfl)⟩
   simp [results, Tryz.f144, go_sem]
   exact hfin.symm
  case stop =>
   rintro D c pre W hD hpre h hK
   exact h.elim)
end Go.Proofs

namespace Go.Sx
open Go Go.RowKit
def cRep : Ctr := ⟨142, [.val false .str pF, .val false TI pF], fun x => (List.length x.1 = 1 ∧ 0 ≤ x.2.1) ∧ x.2.1 ≤ 2, fun x => (sStr (List.replicate x.2.1.toNat (List.getD x.1 0 0)), [])⟩
theorem cRep_ok : CtrOk Proofs.Tryz.prog cRep := by
 refine ctr_of_below (fn := Proofs.Tryz.f142) Proofs.Tryz.func142 rfl rfl rfl ?_
 rintro G w args ⟨(s : Str), (n : Int), ⟨⟩⟩ _ _ ⟨v, vs, rfl, ⟨_, cs, rfl, _, ⟨rfl, hl⟩⟩, ⟨v2, vs2, rfl, ⟨_, cs2, rfl, _, ⟨rfl, hl2⟩⟩, rfl⟩⟩ ⟨⟨h1, h2⟩, h3⟩
 replace h1 : s.length = 1 := h1
 replace h2 : 0 ≤ n := h2
 replace h3 : n ≤ 2 := h3
 obtain ⟨c, rfl⟩ : ∃ c, s = [c] := by
  match s, h1 with
  | [c], _ => exact ⟨c, rfl⟩
 obtain rfl | rfl | rfl : n = 0 ∨ n = 1 ∨ n = 2 := by omega
 ·refine (Proofs.Tryz.strings_Repeat_zero (mkS [c]) w).mono ?_
  rintro e w' ⟨rfl, rfl⟩
  exact ⟨_, rfl, Below.refl _ _, fun G' => .of1 rfl ⟨rfl, rfl, by show (0 : Nat) ≤ maxL; unfold maxL; omega⟩, rfl⟩
 ·refine (Proofs.Tryz.strings_Repeat_one (mkS [c]) w).mono ?_
  rintro e w' ⟨rfl, rfl⟩
  exact ⟨_, rfl, Below.refl _ _, fun G' => .of1 rfl ⟨rfl, rfl, by show (1 : Nat) ≤ maxL; unfold maxL; omega⟩, rfl⟩
 ·refine (Proofs.Tryz.strings_Repeat_main (mkS [c]) 2 w (by omega) (by omega) (by show 1 * 2 ≤ _; omega) (by show 0 < 1; omega)).mono ?_
  rintro e w' ⟨rfl, hB⟩
  exact ⟨_, rfl, hB, fun G' => .of1 rfl ⟨rfl, rfl, by show (2 : Nat) ≤ maxL; unfold maxL; omega⟩, rfl⟩
theorem xorS_at (a b : Str) (m : Nat) (hm : m = max a.length b.length) : ∀ k, k ≤ b.length → ∀ i, (Proofs.xorS (Proofs.xor0 (mkS a) m) (Proofs.volUp (Proofs.xorF (mkS b)) k)).getD i 0 = (if i < k then a.getD i 0 ^^^ b.getD i 0 else a.getD i 0) := by
 intro k
 induction k with
 | zero =>
  intro _ i
  show (a ++ List.replicate (m - a.length) 0).getD i 0 = _
  rw [if_neg (by omega)]
  simp only [List.getD_eq_getElem?_getD, List.getElem?_append, List.getElem?_replicate]
  by_cases h : i < a.length
  ·rw [if_pos h]
  ·rw [if_neg h, List.getElem?_eq_none (by omega : a.length ≤ i)]
   split <;> rfl
 | succ k ih =>
  intro hk i
  have hlt : k < b.length := by omega
  have hx : (Proofs.xorF (mkS b) k).val = (k, b[k]) := by
   show (min k (b.length - 1), (mkS b).data[k]?.getD 0) = _
   have : (mkS b).data[k]? = some b[k] := by simp [mkS, hlt]
   rw [this]
   simp
   omega
  rw [Proofs.volUp_succ, Proofs.xorS_add, hx]
  have hlen : (Proofs.xorS (Proofs.xor0 (mkS a) m) (Proofs.volUp (Proofs.xorF (mkS b)) k)).length = m := by
   rw [Proofs.xorS_len]
   show (a ++ List.replicate (m - a.length) 0).length = m
   simp
   omega
  have ih' := ih (by omega)
  simp only [List.getD_eq_getElem?_getD] at ih' ⊢
  rw [List.getElem?_set]
  by_cases e : k = i
  ·subst e
   have h0 := ih' k
   rw [if_neg (by omega)] at h0
   rw [if_pos rfl, if_pos (by omega), if_pos (by omega)]
   simp only [Option.getD_some]
   rw [h0, gE hlt]
   rfl
  ·rw [if_neg e, ih' i]
   by_cases h : i < k
   ·rw [if_pos h, if_pos (by omega)]
   ·rw [if_neg h, if_neg (by omega)]
theorem xorO_eq (a b : Str) : Proofs.xorO (mkS a) (mkS b) = mkS (xorV a b) := by
 show (⟨(Proofs.xorS (Proofs.xor0 (mkS a) (max a.length b.length)) (Proofs.volUp (Proofs.xorF (mkS b)) b.length)).toArray⟩ : ByteArray) = mkS (xorV a b)
 refine congrArg (fun l : Str => (⟨l.toArray⟩ : ByteArray)) ?_
 have hlen : (Proofs.xorS (Proofs.xor0 (mkS a) (max a.length b.length)) (Proofs.volUp (Proofs.xorF (mkS b)) b.length)).length = max a.length b.length := by
  rw [Proofs.xorS_len]
  show (a ++ List.replicate (max a.length b.length - a.length) 0).length = _
  simp
  omega
 refine List.ext_getElem (by rw [hlen, xorV_len]) fun i h1 h2 => ?_
 have h := xorS_at a b _ rfl b.length (Nat.le_refl _) i
 rw [List.getD_eq_getElem?_getD, gE h1] at h
 simp only [Option.getD_some] at h
 rw [h]
 simp only [xorV, List.getElem_map, List.getElem_range]
 split
 ·rfl
 ·rename_i hi
  rw [show b.getD i 0 = 0 by simp [List.getD_eq_getElem?_getD, List.getElem?_eq_none (by omega : b.length ≤ i)]]
  simp
def cXor : Ctr := ⟨144, [.val false .str pF, .val false .str pF], fun x => List.length x.1 ≤ 1000 ∧ List.length x.2.1 ≤ 1000, fun x => (sStr (xorV x.1 x.2.1), [])⟩
theorem cXor_ok : CtrOk Proofs.Tryz.prog cXor := by
 refine ctr_of_below (fn := Proofs.Tryz.f144) Proofs.Tryz.func144 rfl rfl rfl ?_
 rintro G w args ⟨(a : Str), (b : Str), ⟨⟩⟩ _ _ ⟨v, vs, rfl, ⟨_, cs, rfl, _, ⟨rfl, hl⟩⟩, ⟨v2, vs2, rfl, ⟨_, cs2, rfl, _, ⟨rfl, hl2⟩⟩, rfl⟩⟩ ⟨h1, h2⟩
 replace h1 : a.length ≤ 1000 := h1
 replace h2 : b.length ≤ 1000 := h2
 have h := Proofs.xor_in Fence.wide 3 trivial trivial trivial trivial rfl (Nat.le_refl _) (mkS a) (mkS b) (by exact h1) (by exact h2) w
 refine (callsIn_wide.1 h).mono ?_
 rintro e w' ⟨rfl, hB⟩
 refine ⟨_, rfl, hB, fun G' => ?_, rfl⟩
 rw [xorO_eq]
 refine .of1 rfl ⟨rfl, rfl, ?_⟩
 show (xorV a b).length ≤ maxL
 rw [xorV_len]
 unfold maxL; omega
end Go.Sx

namespace Go.Sx
open Go
set_option maxRecDepth 100000
set_option linter.unusedVariables false
set_option linter.unusedSimpArgs false
set_option maxHeartbeats 2000000
def cIn : Ctr := ⟨128, [.val false TI pF, .val false TI pF, .val false TI pF], fun x => True, fun x => (sBool (inV x.1 x.2.1 x.2.2.1), [])⟩
theorem cIn_ok : CtrOk Proofs.Tryz.prog cIn := by
 have hP := (Prg.none ttok mtok)
 refine ctr_of_body hP cIn (fn := Proofs.Tryz.f128) (rts := [.tmp 6]) Proofs.Tryz.func128 rfl (by kernel_rfl) rfl rfl ?_
 rintro ⟨(n : Int), (lo : Int), (hi : Int), ⟨⟩⟩ _ _
 try dsimp only [Ty.den, Mode.den, mdens] at _
 refine ⟨rfl, ?_⟩
 refine sw_seq (xr hP 1 rfl (sw_seq ?_))
 refine sw_dec hP 2 [] 3 rfl (fun g1_3 => ?_) (fun g1_3 => ?_)
 ·refine xd hP 2 [(3, true)] rfl (sw_ret ⟨.inl rfl, _, rfl, ?_⟩)
  simp [conj] at *
  simp [inV, *]
  try omega
 ·refine xd hP 2 [(3, false)] rfl (sw_ret ⟨.inl rfl, _, rfl, ?_⟩)
  simp [conj] at *
  simp [inV, *]
  try omega
def cDisks : Ctr := ⟨114, [.val false TI pF], fun x => True, fun x => (sBool (poolV x.1), [])⟩
theorem cDisks_ok : CtrOk Proofs.Tryz.prog cDisks := by
 have hP := ((Prg.none ttok mtok).and cIn_ok)
 refine ctr_of_body hP cDisks (fn := Proofs.Tryz.f114) (rts := [.tmp 2]) Proofs.Tryz.func114 rfl (by kernel_rfl) rfl rfl ?_
 rintro ⟨(n : Int), ⟨⟩⟩ _ _
 try dsimp only [Ty.den, Mode.den, mdens] at _
 refine ⟨rfl, ?_⟩
 refine sw_seq (xr hP 1 rfl (sw_seq (xg hP 2 [] rfl ?_ ?_)))
 ·simp only [cj, cl]
  try dsimp only [Ty.den, Ty.dflt]
  repeat' apply And.intro
  all_goals first | trivial | assumption | omega | exact decide_eq_true ‹_› | exact decide_eq_false ‹_› | (simp [*]; done)
 refine sw_ret ⟨.inl rfl, _, rfl, ?_⟩
 simp [conj, poolV]
def cColsS : Ctr := ⟨36, [.val false TI pF], fun x => 0 ≤ x.1 ∧ x.1 ≤ 1000000, fun x => (sInt .i64 (colsV x.1), [])⟩
theorem cColsS_ok : CtrOk Proofs.Tryz.prog cColsS := by
 have hP := (Prg.none ttok mtok)
 refine ctr_of_body hP cColsS (fn := Proofs.Tryz.f36) (rts := [.tmp 2]) Proofs.Tryz.func36 rfl (by kernel_rfl) rfl rfl ?_
 rintro ⟨(n : Int), ⟨⟩⟩ _ ⟨h0, h1⟩
 try dsimp only [Ty.den, Mode.den, mdens] at h0
 try dsimp only [Ty.den, Mode.den, mdens] at h1
 refine ⟨rfl, ?_⟩
 have hq := colsV_bd h0 h1
 unfold colsV at hq
 refine sw_seq (xr hP 1 rfl (sw_seq (xg hP 2 [] rfl ?_ ?_)))
 ·simp only [cj, cl]
  try dsimp only [Ty.den, Ty.dflt]
  repeat' apply And.intro
  all_goals first | rfl | omega | assumption | trivial
 refine sw_ret ⟨.inl rfl, _, rfl, ?_⟩
 simp [conj, colsV]
def cPtrS : Ctr := ⟨81, [.val false TI pF, .val true T_Ptr (.all .b)], fun x => poolV x.1 = true, fun x => (sBool (ptrW x.1 x.2.1), [])⟩
theorem cPtrS_ok : CtrOk Proofs.Tryz.prog cPtrS := by
 have hP := (((Prg.none ttok mtok).and cIn_ok).and cColsS_ok)
 refine ctr_of_body hP cPtrS (fn := Proofs.Tryz.f81) (rts := [.tmp 4]) Proofs.Tryz.func81 rfl (by kernel_rfl) rfl rfl ?_
 rintro ⟨(d : Int), ⟨(sz : Int), (sm : Int), (pl : List Plc)⟩, ⟨⟩⟩ ⟨_, ⟨_, _, hpl0⟩, _⟩ hpre
 try dsimp only [Ty.den, Mode.den, mdens] at hpre
 refine ⟨rfl, ?_⟩
 replace hpre : poolV d = true := hpre
 have hml : pl.length ≤ 140737488355328 := hpl0.1
 have hb : 3 ≤ d ∧ d ≤ 4 := by simpa [poolV, inV] using hpre
 have hmm := sMin_bd d hb
 have hmv : mostV d = 3 * (d - 1) := by unfold mostV; rw [hmm]
 refine sw_seq (xr hP 1 rfl (sw_seq (sw_seq (xr hP 2 rfl (sw_cond rfl (fun c1 => ?_) (fun c1 => ?_))))))
 ·replace c1 : sz = 0 := of_decide_eq_true c1
  refine sw_seq ?_
  refine sw_dec hP 3 [] 3 rfl (fun g2_3 => ?_) (fun g2_3 => ?_)
  ·replace g2_3 : sm = 0 := of_decide_eq_true g2_3
   refine xg hP 3 [(3, true)] rfl ?_ ?_
   ·simp only [cj, cl]
    try dsimp only [Ty.den, Ty.dflt]
    repeat' apply And.intro
    all_goals first | trivial | assumption | omega | exact decide_eq_true ‹_› | exact decide_eq_false ‹_› | (simp [*]; done)
   refine sw_ret ⟨.inl rfl, _, rfl, ?_⟩
   simp [conj, ptrW, c1, *]
   try omega
  ·replace g2_3 : ¬ sm = 0 := of_decide_eq_false g2_3
   refine xg hP 3 [(3, false)] rfl ?_ ?_
   ·simp only [cj, cl]
    try dsimp only [Ty.den, Ty.dflt]
    repeat' apply And.intro
    all_goals first | trivial | assumption | omega | exact decide_eq_true ‹_› | exact decide_eq_false ‹_› | (simp [*]; done)
   refine sw_ret ⟨.inl rfl, _, rfl, ?_⟩
   simp [conj, ptrW, c1, *]
   try omega
 ·replace c1 : ¬ sz = 0 := of_decide_eq_false c1
  refine sw_skip (sw_seq (sw_seq ?_))
  refine sw_dec hP 3 [] 8 rfl (fun g3_8 => ?_) (fun g3_8 => ?_)
  ·have k8 : inV sz 1 (mostV d) = false := by have h : (!inV sz 1 (mostV d)) = true := g3_8; simpa using h
   have hsz : sizeV d ((sz, sm, pl) : Ptr_) = false := by simp [sizeV, k8]
   refine xg hP 3 [(8, true)] rfl ?_ ?_
   ·simp only [cj, cl]
    try dsimp only [Ty.den, Ty.dflt]
    repeat' apply And.intro
    all_goals first | trivial | assumption | omega | (show 0 ≤ sz; omega) | (show sz ≤ 1000000; omega) | (show _ ≤ mostV d; omega) | (show mostV d ≤ _; omega) | exact g3_8 | exact g3_14
   refine sw_condT rfl (sw_seq (xr hP 4 rfl (sw_ret ⟨.inl rfl, _, rfl, ?_⟩)))
   simp [conj, ptrW, c1, hsz]
  ·have k8 : inV sz 1 (mostV d) = true := by have h : (!inV sz 1 (mostV d)) = false := g3_8; simpa using h
   have hs1 : 1 ≤ sz ∧ sz ≤ mostV d := by simpa [inV] using k8
   have hcb := colsV_bd (n := sz) (by omega) (by omega)
   refine sw_dec hP 3 [(8, false)] 14 rfl (fun g3_14 => ?_) (fun g3_14 => ?_)
   ·have k14 : inV sm 0 1000000000 = false := by have h : (!inV sm 0 1000000000) = true := g3_14; simpa using h
    have hsz : sizeV d ((sz, sm, pl) : Ptr_) = false := by simp [sizeV, k14]
    refine xg hP 3 [(8, false), (14, true)] rfl ?_ ?_
    ·simp only [cj, cl]
     try dsimp only [Ty.den, Ty.dflt]
     repeat' apply And.intro
     all_goals first | trivial | assumption | omega | (show 0 ≤ sz; omega) | (show sz ≤ 1000000; omega) | (show _ ≤ mostV d; omega) | (show mostV d ≤ _; omega) | exact g3_8 | exact g3_14
    refine sw_condT rfl (sw_seq (xr hP 4 rfl (sw_ret ⟨.inl rfl, _, rfl, ?_⟩)))
    simp [conj, ptrW, c1, hsz]
   ·have k14 : inV sm 0 1000000000 = true := by have h : (!inV sm 0 1000000000) = false := g3_14; simpa using h
    refine xg hP 3 [(8, false), (14, false)] rfl ?_ ?_
    ·simp only [cj, cl]
     try dsimp only [Ty.den, Ty.dflt]
     repeat' apply And.intro
     all_goals first | trivial | assumption | omega | (show 0 ≤ sz; omega) | (show sz ≤ 1000000; omega) | (show _ ≤ mostV d; omega) | (show mostV d ≤ _; omega) | exact g3_8 | exact g3_14
    refine sw_cond rfl (fun c3 => ?_) (fun c3 => ?_)
    ·have hsz : sizeV d ((sz, sm, pl) : Ptr_) = false := by
       have h : (!decide ((pl.length : Int) = colsV sz + 1)) = true := c3
       simp [sizeV] at h ⊢; intros; omega
     refine sw_seq (xr hP 4 rfl (sw_ret ⟨.inl rfl, _, rfl, ?_⟩))
     simp [conj, ptrW, c1, hsz]
    ·have hsz : sizeV d ((sz, sm, pl) : Ptr_) = true := by
       have h : (!decide ((pl.length : Int) = colsV sz + 1)) = false := c3
       simp [sizeV, k8, k14] at h ⊢; omega
     refine sw_skip (sw_seq (sw_seq (xr hP 4 rfl (sw_block (sw_loop (ι := Nat) (fun i => ⟨[sInt .i64 d, .j, .j, .v false [.ptr ⟨1, 0, 0⟩ 0], .j, sInt .i64 (i : Int), .j, .j, .j, .j, .j, .j, .j, .j, .j, .j, .j, .j, .j, .j, .j, .j, .j, .j, .j, .j, .j, .j, .j, .j, .j, .j, .j, .j, .j, .j, .j, .j, .j, .j, .j, .j, .j, .j, .j, .j, .j, .j, .j, .j, .j, .j, .j, .j, .j, .j, .j, .j, .j, .j, .j, .j, .j, .j, .j, .j, .j, .j, .j, .j, .j, .j, .j, .j, .j, .j, .j, .j, .j, .j, .j, .j, .j, .j, .j, .j, .j, .j], [(⟨1, 0, 0⟩, .var [.d TI pF sz, .d TI pF sm, .d (.sl T_Place) (.all .b) pl])], 4, []⟩) (fun i => pl.length - i) (fun i => i ≤ pl.length ∧ chkGo (placeF d) (pl.take i) (pl.drop i) = chk (placeF d) pl) 0 ⟨?_, ?_⟩ ?_)))))
     ·exact ⟨Nat.zero_le _, rfl⟩
     ·refine ent_ok rfl ?_
      simp [conj]
     ·rintro i ⟨hi, hgo⟩
      refine sw_seq (sw_seq (xr hP 5 rfl (sw_cond rfl (fun c6 => ?_) (fun c6 => ?_))))
      ·have hlt : i < pl.length := by simpa using c6
       refine sw_skip (sw_seq (sw_block (sw_seq (sw_seq ?_))))
       refine sw_dec hP 6 [] 10 rfl (fun g8_10 => ?_) (fun g8_10 => ?_)
       ·replace g8_10 : inV pl[i].1 0 (d - 1) = false := by simpa [gE hlt] using g8_10
        have hf : placeF d (pl.take i) pl[i] = false := by simp [placeF, placeV_no1 g8_10]
        refine xg hP 6 [(10, true)] rfl ?_ ?_
        ·simp [conj, gE hlt]
         repeat' apply And.intro
         all_goals first | omega | assumption | (simp [*]; done) | trivial
        refine sw_condT rfl (sw_seq (xr hP 7 rfl (sw_ret ⟨.inl rfl, _, rfl, ?_⟩)))
        have hv := chk_hit hlt hgo hf
        simp [conj, ptrW, c1, hsz, hv]
       ·replace g8_10 : inV pl[i].1 0 (d - 1) = true := by simpa [gE hlt] using g8_10
        refine xg hP 6 [(10, false)] rfl ?_ ?_
        ·simp [conj, gE hlt]
         repeat' apply And.intro
         all_goals first | omega | assumption | (simp [*]; done) | trivial
        refine sw_cond rfl (fun c8 => ?_) (fun c8 => ?_)
        ·replace c8 : inV pl[i].2 0 11 = false := by simpa [gE hlt] using c8
         have hf : placeF d (pl.take i) pl[i] = false := by simp [placeF, placeV_no2 c8]
         refine sw_seq (xr hP 7 rfl (sw_ret ⟨.inl rfl, _, rfl, ?_⟩))
         have hv := chk_hit hlt hgo hf
         simp [conj, ptrW, c1, hsz, hv]
        ·replace c8 : inV pl[i].2 0 11 = true := by simpa [gE hlt] using c8
         have hpv : placeV d pl[i] = true := placeV_yes g8_10 c8
         refine sw_skip (sw_seq (xr hP 7 rfl (sw_block (sw_loop (ι := Nat) (fun k => ⟨[sInt .i64 d, .j, .j, .v false [.ptr ⟨1, 0, 0⟩ 0], .j, sInt .i64 (i : Int), sInt .i64 (k : Int), .j, .j, .j, .j, .j, .j, .j, .j, .j, .j, .j, .j, .j, .j, .j, .j, .j, .j, .j, .j, .j, .j, .j, .j, .j, .j, .j, .j, .j, .j, .j, .j, .j, .j, .j, .j, .j, .j, .j, .j, .j, .j, .j, .j, .j, .j, .j, .j, .j, .j, .j, .j, .j, .j, .j, .j, .j, .j, .j, .j, .j, .j, .j, .j, .j, .j, .j, .j, .j, .j, .j, .j, .j, .j, .j, .j, .j, .j, .j, .j, .j], [(⟨1, 0, 0⟩, .var [.d TI pF sz, .d TI pF sm, .d (.sl T_Place) (.all .b) pl])], 7, []⟩) (fun k => i - k) (fun k => k ≤ i ∧ (pl.take k).any (fun q : Plc => decide (q.1 = pl[i].1)) = false) 0 ⟨?_, ?_⟩ ?_))))
         ·exact ⟨Nat.zero_le _, rfl⟩
         ·refine ent_ok rfl ?_
          simp [conj]
         ·rintro k ⟨hk, hgk⟩
          refine sw_seq (sw_seq (xr hP 8 rfl (sw_cond rfl (fun c11 => ?_) (fun c11 => ?_))))
          ·have hki : k < i := by simpa using c11
           have hlk : k < pl.length := by omega
           refine sw_skip (sw_seq (sw_block (sw_seq (xg hP 9 [] rfl ?_ ?_))))
           ·simp [conj, gE hlt, gE hlk]
            repeat' apply And.intro
            all_goals first | omega | trivial
           refine sw_cond rfl (fun c13 => ?_) (fun c13 => ?_)
           ·replace c13 : (fun q : Plc => decide (q.1 = pl[i].1)) pl[k] = true := by simpa [gE hlt, gE hlk] using c13
            have hf : placeF d (pl.take i) pl[i] = false := by unfold placeF; rw [any_hit hki hlk c13]; simp
            refine sw_seq (xr hP 10 rfl (sw_ret ⟨.inl rfl, _, rfl, ?_⟩))
            have hv := chk_hit hlt hgo hf
            simp [conj, ptrW, c1, hsz, hv]
           ·replace c13 : (fun q : Plc => decide (q.1 = pl[i].1)) pl[k] = false := by simpa [gE hlt, gE hlk] using c13
            refine sw_skip (xr hP 10 rfl (⟨k + 1, ?_, ?_, ent_ok rfl ?_⟩))
            ·exact ⟨hki, any_next hlk hgk c13⟩
            ·omega
            ·simp [conj]
          ·obtain rfl : k = i := by simp at c11; omega
           have hf : placeF d (pl.take k) pl[k] = true := by unfold placeF; rw [hpv, hgk]; rfl
           refine sw_exit (xr hP 9 rfl (⟨k + 1, ?_, ?_, ent_ok rfl ?_⟩))
           ·exact ⟨hlt, chk_next hlt hgo hf⟩
           ·omega
           ·simp [conj]
      ·obtain rfl : i = pl.length := by simp at c6; omega
       refine sw_exit (sw_seq (xr hP 6 rfl (sw_ret ⟨.inl rfl, _, rfl, ?_⟩)))
       have hv := chk_end hgo
       simp [conj, ptrW, c1, hsz, hv]
end Go.Sx

namespace Go.Sx
open Go
set_option maxRecDepth 100000
set_option linter.unusedVariables false
set_option linter.unusedSimpArgs false
abbrev drv (st : Int) (t : Drv) (a : At) : List At := [.d TI pF st, .d (.arr 12 .bool) pF t.2.2, .d (.arr 12 .str) pF t.1, .d (.arr 2 .str) pF t.2.1, a]
abbrev putA_ (p : Put) : SV := .v true [.d .bool pF p.1, .d TI pF p.2.1, .d .str pF p.2.2]
def cState : Ctr := ⟨145, [.val false TI pF], fun _ => True, fun x => (sBool (stV x.1), [])⟩
theorem cState_ok : CtrOk Proofs.Tryz.prog cState := by
 have hP := (Prg.none ttok mtok)
 refine ctr_of_body hP cState (fn := Proofs.Tryz.f145) (rts := [.tmp 2]) Proofs.Tryz.func145 rfl (by kernel_rfl) rfl rfl ?_
 rintro ⟨(n : Int), ⟨⟩⟩ _ hpre
 try dsimp only [Ty.den, Mode.den, mdens] at hpre
 refine ⟨rfl, ?_⟩
 refine sw_seq (xr hP 1 rfl (sw_seq ?_))
 refine sw_dec hP 2 [] 2 rfl (fun g1_2 => ?_) (fun g1_2 => ?_)
 ·refine xd hP 2 [(2, true)] rfl (sw_ret ⟨.inl rfl, _, rfl, ?_⟩)
  simp [conj, stV] at *
  try omega
 ·refine xd hP 2 [(2, false)] rfl (sw_ret ⟨.inl rfl, _, rfl, ?_⟩)
  simp [conj, stV] at *
  try omega
def cShaped : Ctr := ⟨92, [.val true T_Disk (.all .b)], fun _ => True, fun x => (sBool (shapedV x.1), [])⟩
theorem cShaped_ok : CtrOk Proofs.Tryz.prog cShaped := by
 have hP := ((Prg.none ttok mtok).and cState_ok)
 refine ctr_of_body hP cShaped (fn := Proofs.Tryz.f92) (rts := [.tmp 2]) Proofs.Tryz.func92 rfl (by kernel_rfl) rfl rfl ?_
 rintro ⟨⟨(st : Int), (sl : List Str), (rg : List Str), (sp : List Bool), (wt : List Put)⟩, ⟨⟩⟩ _ hpre
 try dsimp only [Ty.den, Mode.den, mdens] at hpre
 refine ⟨rfl, ?_⟩
 refine sw_seq (xr hP 1 rfl (sw_seq ?_))
 refine sw_dec hP 2 [] 3 rfl (fun g1_3 => ?_) (fun g1_3 => ?_)
 ·refine sw_dec hP 2 [(3, true)] 9 rfl (fun g1_9 => ?_) (fun g1_9 => ?_)
  ·replace g1_9 : sl.length = 12 := by have h : ((sl.length : Nat) : Int) = 12 := of_decide_eq_true g1_9; omega
   refine sw_dec hP 2 [(3, true), (9, true)] 15 rfl (fun g1_15 => ?_) (fun g1_15 => ?_)
   ·replace g1_15 : rg.length = 2 := by have h : ((rg.length : Nat) : Int) = 2 := of_decide_eq_true g1_15; omega
    refine sw_dec hP 2 [(3, true), (9, true), (15, true)] 21 rfl (fun g1_21 => ?_) (fun g1_21 => ?_)
    ·replace g1_21 : sp.length = 12 := by have h : ((sp.length : Nat) : Int) = 12 := of_decide_eq_true g1_21; omega
     refine xg hP 2 [(3, true), (9, true), (15, true), (21, true)] rfl ?_ ?_
     ·simp [conj, maxL]
      try dsimp only [Ty.den, Ty.dflt]
      try simp only [rd_eta]
      repeat' apply And.intro
      all_goals first | rfl | assumption | omega
     refine sw_ret ⟨.inl rfl, _, rfl, ?_⟩
     simp [conj, shapedV, *]
     try omega
    ·replace g1_21 : ¬ sp.length = 12 := by have h : ¬ ((sp.length : Nat) : Int) = 12 := of_decide_eq_false g1_21; omega
     refine xg hP 2 [(3, true), (9, true), (15, true), (21, false)] rfl ?_ ?_
     ·simp [conj, maxL]
      try dsimp only [Ty.den, Ty.dflt]
      try simp only [rd_eta]
      repeat' apply And.intro
      all_goals first | rfl | assumption | omega
     refine sw_ret ⟨.inl rfl, _, rfl, ?_⟩
     simp [conj, shapedV, *]
     try omega
   ·replace g1_15 : ¬ rg.length = 2 := by have h : ¬ ((rg.length : Nat) : Int) = 2 := of_decide_eq_false g1_15; omega
    refine xg hP 2 [(3, true), (9, true), (15, false)] rfl ?_ ?_
    ·simp [conj, maxL]
     try dsimp only [Ty.den, Ty.dflt]
     try simp only [rd_eta]
     repeat' apply And.intro
     all_goals first | rfl | assumption | omega
    refine sw_ret ⟨.inl rfl, _, rfl, ?_⟩
    simp [conj, shapedV, *]
    try omega
  ·replace g1_9 : ¬ sl.length = 12 := by have h : ¬ ((sl.length : Nat) : Int) = 12 := of_decide_eq_false g1_9; omega
   refine xg hP 2 [(3, true), (9, false)] rfl ?_ ?_
   ·simp [conj, maxL]
    try dsimp only [Ty.den, Ty.dflt]
    try simp only [rd_eta]
    repeat' apply And.intro
    all_goals first | rfl | assumption | omega
   refine sw_ret ⟨.inl rfl, _, rfl, ?_⟩
   simp [conj, shapedV, *]
   try omega
 ·refine xg hP 2 [(3, false)] rfl ?_ ?_
  ·simp [conj, maxL]
   try dsimp only [Ty.den, Ty.dflt]
   try simp only [rd_eta]
   repeat' apply And.intro
   all_goals first | rfl | assumption | omega
  refine sw_ret ⟨.inl rfl, _, rfl, ?_⟩
  simp [conj, shapedV, *]
  try omega
def cCol : Ctr := ⟨96, [.val false .str pF], fun _ => True, fun x => (sBool (decide (List.length x.1 = 3)), [])⟩
theorem cCol_ok : CtrOk Proofs.Tryz.prog cCol := by
 have hP := (Prg.none ttok mtok)
 refine ctr_of_body hP cCol (fn := Proofs.Tryz.f96) (rts := [.tmp 2]) Proofs.Tryz.func96 rfl (by kernel_rfl) rfl rfl ?_
 rintro ⟨(s : Str), ⟨⟩⟩ _ hpre
 try dsimp only [Ty.den, Mode.den, mdens] at hpre
 refine ⟨rfl, ?_⟩
 refine sw_seq (xr hP 1 rfl (sw_seq (xr hP 2 rfl (sw_ret ⟨.inl rfl, _, rfl, ?_⟩))))
 simp [conj]
 omega
def cPutOk : Ctr := ⟨95, [.val true T_Put pF], fun _ => True, fun x => (sBool (putV x.1), [])⟩
theorem cPutOk_ok : CtrOk Proofs.Tryz.prog cPutOk := by
 have hP := ((Prg.none ttok mtok).and cCol_ok)
 refine ctr_of_body hP cPutOk (fn := Proofs.Tryz.f95) (rts := [.tmp 2]) Proofs.Tryz.func95 rfl (by kernel_rfl) rfl rfl ?_
 rintro ⟨⟨(rn : Bool), (at_ : Int), (tx : Str)⟩, ⟨⟩⟩ _ hpre
 try dsimp only [Ty.den, Mode.den, mdens] at hpre
 refine ⟨rfl, ?_⟩
 refine sw_seq (xr hP 1 rfl (sw_seq (sw_seq (xr hP 2 rfl (sw_cond rfl (fun c1 => ?_) (fun c1 => ?_))))))
 ·refine sw_seq ?_
  refine sw_dec hP 3 [] 3 rfl (fun g2_3 => ?_) (fun g2_3 => ?_)
  ·refine sw_dec hP 3 [(3, true)] 8 rfl (fun g2_8 => ?_) (fun g2_8 => ?_)
   ·refine xd hP 3 [(3, true), (8, true)] rfl (sw_ret ⟨.inl rfl, _, rfl, ?_⟩)
    simp [conj, putV] at *
    try (simp [*]; try omega)
   ·refine xd hP 3 [(3, true), (8, false)] rfl (sw_ret ⟨.inl rfl, _, rfl, ?_⟩)
    simp [conj, putV] at *
    try (simp [*]; try omega)
  ·refine xd hP 3 [(3, false)] rfl (sw_ret ⟨.inl rfl, _, rfl, ?_⟩)
   simp [conj, putV] at *
   try (simp [*]; try omega)
 ·refine sw_skip (sw_seq ?_)
  refine sw_dec hP 3 [] 3 rfl (fun g3_3 => ?_) (fun g3_3 => ?_)
  ·refine sw_dec hP 3 [(3, true)] 8 rfl (fun g3_8 => ?_) (fun g3_8 => ?_)
   ·refine xd hP 3 [(3, true), (8, true)] rfl (sw_ret ⟨.inl rfl, _, rfl, ?_⟩)
    simp [conj, putV] at *
    try (simp [*]; try omega)
   ·refine xd hP 3 [(3, true), (8, false)] rfl (sw_ret ⟨.inl rfl, _, rfl, ?_⟩)
    simp [conj, putV] at *
    try (simp [*]; try omega)
  ·refine xd hP 3 [(3, false)] rfl (sw_ret ⟨.inl rfl, _, rfl, ?_⟩)
   simp [conj, putV] at *
   try (simp [*]; try omega)
def cRd1 : Ctr := ⟨94, [.val true T_Put pF], fun _ => True, fun x => (sBool (badP x.1), [])⟩
theorem cRd1_ok : CtrOk Proofs.Tryz.prog cRd1 := by
 have hP := ((Prg.none ttok mtok).and cPutOk_ok)
 refine ctr_of_body hP cRd1 (fn := Proofs.Tryz.f94) (rts := [.tmp 2]) Proofs.Tryz.func94 rfl (by kernel_rfl) rfl rfl ?_
 rintro ⟨⟨(rn : Bool), (at_ : Int), (tx : Str)⟩, ⟨⟩⟩ _ hpre
 try dsimp only [Ty.den, Mode.den, mdens] at hpre
 refine ⟨rfl, ?_⟩
 refine sw_seq (xr hP 1 rfl (sw_seq (xr hP 2 rfl (sw_ret ⟨.inl rfl, _, rfl, ?_⟩))))
 simp [conj, badP]
def cRd2 : Ctr := ⟨98, [.val false .str pF], fun _ => True, fun x => (sBool (longR x.1), [])⟩
theorem cRd2_ok : CtrOk Proofs.Tryz.prog cRd2 := by
 have hP := (Prg.none ttok mtok)
 refine ctr_of_body hP cRd2 (fn := Proofs.Tryz.f98) (rts := [.tmp 2]) Proofs.Tryz.func98 rfl (by kernel_rfl) rfl rfl ?_
 rintro ⟨(s : Str), ⟨⟩⟩ ⟨hds, _⟩ hpre
 try dsimp only [Ty.den, Mode.den, mdens] at hpre
 refine ⟨rfl, ?_⟩
 have hml : s.length ≤ 140737488355328 := hds
 refine sw_seq (xr hP 1 rfl (sw_seq (xr hP 2 rfl (sw_ret ⟨.inl rfl, _, rfl, ?_⟩))))
 simp [conj, longR]
 omega
def cIdxP : Ctr := ⟨146, [.val false (.sl T_Put) (.all .b), .clo 94 []], fun _ => True, fun x => (sInt .i64 (idxF badP x.1), [])⟩
theorem cIdxP_ok : CtrOk Proofs.Tryz.prog cIdxP := by
 have hP := ((Prg.none ttok mtok).and cRd1_ok)
 refine ctr_of_body hP cIdxP (fn := Proofs.Tryz.f146) (rts := [.tmp 4]) Proofs.Tryz.func146 rfl (by kernel_rfl) rfl rfl ?_
 rintro ⟨(l : List Put), ⟨⟩, ⟨⟩⟩ ⟨hdl, _⟩ hpre
 try dsimp only [Ty.den, Mode.den, mdens] at hpre
 refine ⟨rfl, ?_⟩
 have hml : l.length ≤ 140737488355328 := hdl.1
 refine sw_seq (xr hP 1 rfl (sw_seq (sw_seq (xr hP 2 rfl (sw_block (sw_loop (ι := Nat) (fun i => ⟨[.v false [.d (.sl T_Put) (.all .b) l], .fn 94 [], .j, .j, .j, .j, .j, sInt .i64 (l.length : Int), sInt .i64 (i : Int), .j, .j, .j, .j, .j, .j, .j, .j, .j, .j], [], 2, []⟩) (fun i => l.length - i) (fun i => i ≤ l.length ∧ idxFGo badP (l.drop i) i = idxF badP l) 0 ⟨?_, ?_⟩ ?_))))))
 ·exact ⟨Nat.zero_le _, rfl⟩
 ·refine ent_ok rfl ?_
  first | trivial | (simp [conj]; done) | (simp [conj] at *; (try dsimp only [Ty.den, Ty.dflt] at *); omega)
 ·rintro i ⟨hi, hgo⟩
  refine sw_seq (xr hP 3 rfl (sw_seq (sw_cond rfl (fun c2 => ?_) (fun c2 => ?_))))
  ·have hlt : i < l.length := by simpa using c2
   refine sw_skip (sw_seq (sw_block (sw_seq (xr hP 4 rfl (sw_seq (xg hP 5 [] rfl ?_ ?_))))))
   ·simp [conj, maxL]
    try dsimp only [Ty.den, Ty.dflt]
    try simp only [rd_eta]
    repeat' apply And.intro
    all_goals first | assumption | omega | exact trivial
   refine sw_cond rfl (fun c4 => ?_) (fun c4 => ?_)
   ·replace c4 : badP l[i] = true := by simpa [gE hlt] using c4
    refine sw_seq (xr hP 6 rfl (sw_ret ⟨.inl rfl, _, rfl, ?_⟩))
    simp [conj, idxF_hit hlt hgo c4]
   ·replace c4 : badP l[i] = false := by simpa [gE hlt] using c4
    refine sw_skip (xr hP 6 rfl (⟨i + 1, ?_, ?_, ent_ok rfl ?_⟩))
    ·exact ⟨hlt, idxF_next hlt hgo c4⟩
    ·omega
    ·simp [conj, maxL]
     try dsimp only [Ty.den, Ty.dflt]
     try simp only [rd_eta]
     repeat' apply And.intro
     all_goals first | rfl | assumption | omega
  ·obtain rfl : i = l.length := by simp at c2; omega
   refine sw_exit (sw_seq (xr hP 4 rfl (sw_ret ⟨.inl rfl, _, rfl, ?_⟩)))
   simp [conj, idxF_end hgo]
def cContP : Ctr := ⟨93, [.val false (.sl T_Put) (.all .b), .clo 94 []], fun _ => True, fun x => (sBool (List.any x.1 badP), [])⟩
theorem cContP_ok : CtrOk Proofs.Tryz.prog cContP := by
 have hP := ((Prg.none ttok mtok).and cIdxP_ok)
 refine ctr_of_body hP cContP (fn := Proofs.Tryz.f93) (rts := [.tmp 4]) Proofs.Tryz.func93 rfl (by kernel_rfl) rfl rfl ?_
 rintro ⟨(l : List Put), ⟨⟩, ⟨⟩⟩ _ hpre
 try dsimp only [Ty.den, Mode.den, mdens] at hpre
 refine ⟨rfl, ?_⟩
 refine sw_seq (xr hP 1 rfl (sw_seq (xr hP 2 rfl (sw_ret ⟨.inl rfl, _, rfl, ?_⟩))))
 simp [conj]
 exact idxF_any
def cIdxR : Ctr := ⟨147, [.val false (.sl .str) (.all .b), .clo 98 []], fun _ => True, fun x => (sInt .i64 (idxF longR x.1), [])⟩
theorem cIdxR_ok : CtrOk Proofs.Tryz.prog cIdxR := by
 have hP := ((Prg.none ttok mtok).and cRd2_ok)
 refine ctr_of_body hP cIdxR (fn := Proofs.Tryz.f147) (rts := [.tmp 4]) Proofs.Tryz.func147 rfl (by kernel_rfl) rfl rfl ?_
 rintro ⟨(l : List Str), ⟨⟩, ⟨⟩⟩ ⟨hdl, _⟩ hpre
 try dsimp only [Ty.den, Mode.den, mdens] at hpre
 refine ⟨rfl, ?_⟩
 have hml : l.length ≤ 140737488355328 := hdl.1
 refine sw_seq (xr hP 1 rfl (sw_seq (sw_seq (xr hP 2 rfl (sw_block (sw_loop (ι := Nat) (fun i => ⟨[.v false [.d (.sl .str) (.all .b) l], .fn 98 [], .j, .j, .j, .j, .j, sInt .i64 (l.length : Int), sInt .i64 (i : Int), .j, .j, .j, .j, .j, .j, .j, .j, .j, .j], [], 2, []⟩) (fun i => l.length - i) (fun i => i ≤ l.length ∧ idxFGo longR (l.drop i) i = idxF longR l) 0 ⟨?_, ?_⟩ ?_))))))
 ·exact ⟨Nat.zero_le _, rfl⟩
 ·refine ent_ok rfl ?_
  first | trivial | (simp [conj]; done) | (simp [conj] at *; (try dsimp only [Ty.den, Ty.dflt] at *); omega)
 ·rintro i ⟨hi, hgo⟩
  refine sw_seq (xr hP 3 rfl (sw_seq (sw_cond rfl (fun c2 => ?_) (fun c2 => ?_))))
  ·have hlt : i < l.length := by simpa using c2
   refine sw_skip (sw_seq (sw_block (sw_seq (xr hP 4 rfl (sw_seq (xg hP 5 [] rfl ?_ ?_))))))
   ·simp [conj, maxL]
    try dsimp only [Ty.den, Ty.dflt]
    try simp only [rd_eta]
    repeat' apply And.intro
    all_goals first | assumption | omega | exact trivial
   refine sw_cond rfl (fun c4 => ?_) (fun c4 => ?_)
   ·replace c4 : longR l[i] = true := by simpa [gE hlt] using c4
    refine sw_seq (xr hP 6 rfl (sw_ret ⟨.inl rfl, _, rfl, ?_⟩))
    simp [conj, idxF_hit hlt hgo c4]
   ·replace c4 : longR l[i] = false := by simpa [gE hlt] using c4
    refine sw_skip (xr hP 6 rfl (⟨i + 1, ?_, ?_, ent_ok rfl ?_⟩))
    ·exact ⟨hlt, idxF_next hlt hgo c4⟩
    ·omega
    ·simp [conj, maxL]
     try dsimp only [Ty.den, Ty.dflt]
     try simp only [rd_eta]
     repeat' apply And.intro
     all_goals first | rfl | assumption | omega
  ·obtain rfl : i = l.length := by simp at c2; omega
   refine sw_exit (sw_seq (xr hP 4 rfl (sw_ret ⟨.inl rfl, _, rfl, ?_⟩)))
   simp [conj, idxF_end hgo]
def cContR : Ctr := ⟨97, [.val false (.sl .str) (.all .b), .clo 98 []], fun _ => True, fun x => (sBool (List.any x.1 longR), [])⟩
theorem cContR_ok : CtrOk Proofs.Tryz.prog cContR := by
 have hP := ((Prg.none ttok mtok).and cIdxR_ok)
 refine ctr_of_body hP cContR (fn := Proofs.Tryz.f97) (rts := [.tmp 4]) Proofs.Tryz.func97 rfl (by kernel_rfl) rfl rfl ?_
 rintro ⟨(l : List Str), ⟨⟩, ⟨⟩⟩ _ hpre
 try dsimp only [Ty.den, Mode.den, mdens] at hpre
 refine ⟨rfl, ?_⟩
 refine sw_seq (xr hP 1 rfl (sw_seq (xr hP 2 rfl (sw_ret ⟨.inl rfl, _, rfl, ?_⟩))))
 simp [conj]
 exact idxF_any
def cCome (st : Int) (t : Drv) (l : List Put) (i : Nat) (p : Put) (d c : Id) : Xctr := ⟨156, [(d, ⟨0, 0, 0⟩, .var (drv st t (.chp ⟨0, 0, 1⟩ i))), (c, ⟨0, 0, 1⟩, .ch true T_Put l)], [], [.v false [.ptr ⟨0, 0, 0⟩ 0], putA_ p],
  (.tup [], [(⟨0, 0, 0⟩, .var (drv st (come p t) (.chp ⟨1, 0, 0⟩ i))), (⟨1, 0, 0⟩, .ch true T_Put l)])⟩
theorem cCome_ok {st : Int} {t : Drv} {l : List Put} {i : Nat} {p : Put} {d c : Id} (hp : putV p = true) : XOk Proofs.Tryz.prog (cCome st t l i p d c) := by
 have hP := (Prg.none ttok mtok)
 refine xctr_of_body hP (cCome st t l i p d c) (fn := Proofs.Tryz.f156) (rts := []) Proofs.Tryz.func156 rfl (by kernel_rfl) rfl rfl ?_
 refine ⟨rfl, ?_⟩
 refine sw_seq (xr hP 1 rfl (sw_seq (sw_seq (xr hP 2 rfl (sw_cond rfl (fun c1 => ?_) (fun c1 => ?_))))))
 ·replace c1 : p.1 = true := c1
  obtain ⟨h0, h1, h2⟩ := putV_ring hp c1
  have hv := come_ring (t := t) c1
  refine sw_seq (xg hP 3 [] rfl ?_ ?_)
  ·simp [conj, maxL]
   try dsimp only [Ty.den, Ty.dflt]
   try simp only [rd_eta]
   repeat' apply And.intro
   all_goals first | rfl | assumption | omega
  refine sw_ret ⟨.inl rfl, _, rfl, ?_⟩
  simp [conj, hv]
 ·replace c1 : p.1 = false := c1
  obtain ⟨h0, h1, h2⟩ := putV_slot hp c1
  have hv := come_slot (t := t) c1
  refine sw_skip (xg hP 3 [] rfl ?_ ?_)
  ·simp [conj, maxL]
   try dsimp only [Ty.den, Ty.dflt]
   try simp only [rd_eta]
   repeat' apply And.intro
   all_goals first | rfl | assumption | omega
  refine ⟨.inr rfl, _, rfl, ?_⟩
  simp [conj, hv]
def cWaits (st : Int) (t : Drv) (l : List Put) (d c : Id) : Xctr := ⟨99, [], [(d, ⟨0, 0, 0⟩, .lvar (drv st t (.chp ⟨0, 0, 1⟩ 0))), (c, ⟨0, 0, 1⟩, .ch false T_Put l)], [.v false [.ptr ⟨0, 0, 0⟩ 0]],
  (.v false [.own ⟨1, 0, 0⟩], [(⟨1, 0, 0⟩, .sl T_Put (.all .w) l)])⟩
theorem cWaits_ok {st : Int} {t : Drv} {l : List Put} {d c : Id} (hl : l.length ≤ 1000) : XOk Proofs.Tryz.prog (cWaits st t l d c) := by
 have hP := (Prg.none ttok mtok)
 refine xctr_of_body hP (cWaits st t l d c) (fn := Proofs.Tryz.f99) (rts := [.tmp 2]) Proofs.Tryz.func99 rfl (by kernel_rfl) rfl rfl ?_
 refine ⟨rfl, ?_⟩
 refine sw_seq (xr hP 1 rfl (sw_seq (xr hP 2 rfl (sw_seq (sw_seq (xr hP 3 rfl (sw_block (sw_loop (ι := Nat) (fun i => ⟨[.j, .j, .j, .v false [.own ⟨0, 9, 0⟩], .v false [.chp ⟨0, 0, 1⟩ i], .j, .j, .j, .j, .j, .j, .j, .j, .j, .j, .j, .j, .j, .j, .j, .j, .j, .j], [(⟨0, 0, 0⟩, .lvar (drv st t (.chp ⟨0, 0, 1⟩ 0))), (⟨0, 0, 1⟩, .ch false T_Put l), (⟨0, 9, 0⟩, .sl T_Put (.all .w) (l.take i))], 3, [[.v false [.ptr ⟨0, 0, 0⟩ 0]]]⟩) (fun i => l.length - i) (fun i => i ≤ l.length) 0 ⟨?_, ?_⟩ ?_))))))))
 ·exact Nat.zero_le _
 ·refine ent_ok rfl ?_
  first | trivial | (simp [conj]; done) | (simp [conj] at *; (try dsimp only [Ty.den, Ty.dflt] at *); omega)
 ·rintro i hi
  refine sw_seq (sw_seq (xg hP 4 [] rfl ?_ ?_))
  ·simp [conj]
   exact hi
  refine sw_cond rfl (fun c3 => ?_) (fun c3 => ?_)
  ·have hlt : i < l.length := by simp at c3; omega
   refine sw_skip (sw_seq (sw_block (xg hP 5 [] rfl ?_ ?_)))
   ·simp [conj, maxL]
    omega
   refine xg hP 6 [] rfl ?_ ?_
   ·simp [conj, maxL]
    try dsimp only [Ty.den, Ty.dflt]
    try simp only [rd_eta]
    repeat' apply And.intro
    all_goals first | rfl | assumption | omega
   refine ⟨i + 1, ?_, ?_, ent_ok rfl ?_⟩
   ·exact hlt
   ·omega
   ·simp [conj]
    exact take_next hlt
  ·obtain rfl : i = l.length := by simp at c3; omega
   refine sw_exit (sw_seq (xr hP 5 rfl (sw_ret ⟨.inl rfl, _, rfl, ?_⟩)))
   simp [conj]
end Go.Sx

namespace Go.Sx
open Go
set_option maxRecDepth 100000
set_option linter.unusedVariables false
set_option linter.unusedSimpArgs false
def cCloneO : Ctr := ⟨163, [.val false (.sl .str) (.all .b)], fun x => List.length x.1 ≤ 1099511627776, fun x => (.v false [.own ⟨1, 0, 0⟩], [(⟨1, 0, 0⟩, .sl .str (.all .w) x.1)])⟩
theorem cCloneO_ok : CtrOk Proofs.Tryz.prog cCloneO := by
 have hP := (Prg.none ttok mtok)
 refine ctr_of_body hP cCloneO (fn := Proofs.Tryz.f163) (rts := [.tmp 2]) Proofs.Tryz.func163 rfl (by kernel_rfl) rfl rfl ?_
 rintro ⟨(l : List Str), ⟨⟩⟩ ⟨hdl, _⟩ hpre
 try dsimp only [Ty.den, Mode.den, mdens] at hpre
 refine ⟨rfl, ?_⟩
 have hml : l.length ≤ 1099511627776 := hpre
 refine sw_seq (xr hP 1 rfl (sw_seq (sw_seq (xr hP 2 rfl (sw_condA rfl (fun c1 => ?_) ?_)))))
 ·obtain rfl : l = [] := List.eq_nil_of_length_eq_zero c1
  refine sw_seq (xr hP 3 rfl (sw_ret ⟨.inl rfl, _, rfl, ?_⟩))
  first | trivial | (simp [conj]; done) | (simp [conj] at *; (try dsimp only [Ty.den, Ty.dflt] at *); omega)
 ·refine sw_skip (sw_seq (xg hP 3 [] rfl ?_ ?_))
  ·simp [conj, maxL]
   try dsimp only [Ty.den, Ty.dflt]
   try simp only [rd_eta]
   omega
  refine sw_ret ⟨.inl rfl, _, rfl, ?_⟩
  first | trivial | (simp [conj]; done) | (simp [conj] at *; (try dsimp only [Ty.den, Ty.dflt] at *); omega)
def cCloneB : Ctr := ⟨164, [.val false (.sl .bool) (.all .b)], fun x => List.length x.1 ≤ 1099511627776, fun x => (.v false [.own ⟨1, 0, 0⟩], [(⟨1, 0, 0⟩, .sl .bool (.all .w) x.1)])⟩
theorem cCloneB_ok : CtrOk Proofs.Tryz.prog cCloneB := by
 have hP := (Prg.none ttok mtok)
 refine ctr_of_body hP cCloneB (fn := Proofs.Tryz.f164) (rts := [.tmp 2]) Proofs.Tryz.func164 rfl (by kernel_rfl) rfl rfl ?_
 rintro ⟨(l : List Bool), ⟨⟩⟩ ⟨hdl, _⟩ hpre
 try dsimp only [Ty.den, Mode.den, mdens] at hpre
 refine ⟨rfl, ?_⟩
 have hml : l.length ≤ 1099511627776 := hpre
 refine sw_seq (xr hP 1 rfl (sw_seq (sw_seq (xr hP 2 rfl (sw_condA rfl (fun c1 => ?_) ?_)))))
 ·obtain rfl : l = [] := List.eq_nil_of_length_eq_zero c1
  refine sw_seq (xr hP 3 rfl (sw_ret ⟨.inl rfl, _, rfl, ?_⟩))
  first | trivial | (simp [conj]; done) | (simp [conj] at *; (try dsimp only [Ty.den, Ty.dflt] at *); omega)
 ·refine sw_skip (sw_seq (xg hP 3 [] rfl ?_ ?_))
  ·simp [conj, maxL]
   try dsimp only [Ty.den, Ty.dflt]
   try simp only [rd_eta]
   omega
  refine sw_ret ⟨.inl rfl, _, rfl, ?_⟩
  first | trivial | (simp [conj]; done) | (simp [conj] at *; (try dsimp only [Ty.den, Ty.dflt] at *); omega)
def cDisk (st : Int) (t : Drv) (l : List Put) (d c : Id) : Xctr := ⟨155, [], [(d, ⟨0, 0, 0⟩, .lvar (drv st t (.chp ⟨0, 0, 1⟩ 0))), (c, ⟨0, 0, 1⟩, .ch false T_Put l)], [.v false [.ptr ⟨0, 0, 0⟩ 0]],
  (.v true [.d TI pF st, .own ⟨1, 0, 0⟩, .own ⟨1, 1, 0⟩, .own ⟨1, 2, 0⟩, .own ⟨1, 3, 0⟩], [(⟨1, 0, 0⟩, .sl .str (.all .w) t.1), (⟨1, 1, 0⟩, .sl .str (.all .w) t.2.1), (⟨1, 2, 0⟩, .sl .bool (.all .w) t.2.2), (⟨1, 3, 0⟩, .sl T_Put (.all .w) l)])⟩
theorem cDisk_ok {st : Int} {t : Drv} {l : List Put} {d c : Id} (hl : l.length ≤ 1000) (ht : t.ok) : XOk Proofs.Tryz.prog (cDisk st t l d c) := by
 have hP := ((((Prg.none ttok mtok).and cCloneO_ok).and cCloneB_ok).andX (cWaits_ok (st := st) (t := t) (d := ⟨0, 0, 0⟩) (c := ⟨0, 0, 1⟩) hl))
 refine xctr_of_body hP (cDisk st t l d c) (fn := Proofs.Tryz.f155) (rts := [.cell 2 38]) Proofs.Tryz.func155 rfl (by kernel_rfl) rfl rfl ?_
 refine ⟨rfl, ?_⟩
 obtain ⟨h1, h2, h3⟩ := ht
 refine sw_seq (xr hP 1 rfl (sw_seq (xg hP 2 [] rfl ?_ ?_)))
 ·simp only [conj, List.nil_append, List.cons_append, List.append_nil, List.append_assoc, inR_i64, true_and, and_true, Int.toNat_natCast]
  try dsimp only [Ty.den, Ty.dflt]
  repeat' apply And.intro
  all_goals first | rfl | (show List.length t.1 ≤ 1099511627776; omega) | (show List.length t.2.1 ≤ 1099511627776; omega) | (show List.length t.2.2 ≤ 1099511627776; omega) | omega | assumption | trivial
 refine sw_ret ⟨.inl rfl, _, rfl, ?_⟩
 simp [conj]
def cFlush (st : Int) (t : Drv) (l : List Put) (d c : Id) : Xctr := ⟨166, [(d, ⟨0, 0, 0⟩, .var (drv st t (.chp ⟨0, 0, 1⟩ 0))), (c, ⟨0, 0, 1⟩, .ch true T_Put l)], [], [.v false [.ptr ⟨0, 0, 0⟩ 0]],
  (.tup [], [(⟨0, 0, 0⟩, .var (drv st (comes l t) .nilp))])⟩
theorem cFlush_ok {st : Int} {t : Drv} {l : List Put} {d c : Id} (hw : l.any badP = false) : XOk Proofs.Tryz.prog (cFlush st t l d c) := by
 have hP := (Prg.none ttok mtok)
 refine xctr_of_body hP (cFlush st t l d c) (fn := Proofs.Tryz.f166) (rts := []) Proofs.Tryz.func166 rfl (by kernel_rfl) rfl rfl ?_
 refine ⟨rfl, ?_⟩
 refine sw_block (sw_loop (ι := Nat × Drv) (fun ⟨i, u⟩ => ⟨[.v false [.ptr ⟨0, 0, 0⟩ 0], .j, .j, .j, .j, .j, .j, .j, .j, .j, .j, .j, .j, .j, .j, .j, .j, .j, .j, .j, .j, .j, .j, .j, .j, .j], [(⟨0, 0, 0⟩, .var (drv st u (.chp ⟨0, 0, 1⟩ i))), (⟨0, 0, 1⟩, .ch true T_Put l)], 0, [[.v false [.ptr ⟨0, 0, 0⟩ 0]]]⟩) (fun ⟨i, u⟩ => l.length - i) (fun ⟨i, u⟩ => i ≤ l.length ∧ comes (l.drop i) u = comes l t) (0, t) ⟨?_, ?_⟩ ?_)
 ·exact ⟨Nat.zero_le _, rfl⟩
 ·refine ent_ok rfl ?_
  first | trivial | (simp [conj]; done) | (simp [conj] at *; (try dsimp only [Ty.den, Ty.dflt] at *); omega)
 ·rintro ⟨i, u⟩ ⟨hi, hgo⟩
  refine sw_seq (sw_seq (xg hP 1 [] rfl ?_ ?_))
  ·simp [conj]
   exact hi
  refine sw_cond rfl (fun c0 => ?_) (fun c0 => ?_)
  ·have hlt : i < l.length := by simp at c0; omega
   have hg : (List.getD l i T_Put.dflt : Put) = l[i] := by rw [List.getD, gE hlt]; rfl
   have hp := wait_at hw hlt
   rw [← hg] at hp
   replace hP := hP.andX (cCome_ok (st := st) (t := u) (l := l) (i := i) (d := ⟨0, 0, 0⟩) (c := ⟨0, 0, 1⟩) hp)
   refine sw_skip (sw_seq (sw_block (xg hP 2 [] rfl ?_ ?_)))
   ·simp only [conj, List.nil_append, List.cons_append, List.append_nil, List.append_assoc, inR_i64, true_and, and_true, Int.toNat_natCast]
    try dsimp only [Ty.den, Ty.dflt]
    repeat' apply And.intro
    all_goals first | rfl | omega | assumption | trivial
   refine xg hP 3 [] rfl ?_ ?_
   ·simp [conj, maxL]
    try dsimp only [Ty.den, Ty.dflt]
    try simp only [rd_eta]
    repeat' apply And.intro
    all_goals first | rfl | assumption | omega
   refine ⟨(i + 1, come (List.getD l i T_Put.dflt) u), ?_, ?_, ent_ok rfl ?_⟩
   ·exact ⟨hlt, by show comes _ (come (List.getD l i T_Put.dflt) u) = _; rw [hg]; exact comes_next hlt hgo⟩
   ·show l.length - (i + 1) < l.length - i
    omega
   ·simp [conj]
  ·obtain rfl : i = l.length := by simp at c0; omega
   refine sw_exit (⟨.inr rfl, _, rfl, ?_⟩)
   have hv := comes_end hgo
   subst hv
   simp [conj]
def cCrash (st : Int) (t : Drv) (l : List Put) (keep : Int) (d c : Id) : Xctr := ⟨124, [(d, ⟨0, 0, 0⟩, .var (drv st t (.chp ⟨0, 0, 1⟩ 0))), (c, ⟨0, 0, 1⟩, .ch true T_Put l)], [], [.v false [.ptr ⟨0, 0, 0⟩ 0], sInt .i64 keep],
  (.tup [], [(⟨0, 0, 0⟩, .var (drv st (comes (keepB keep.toNat l) t) .nilp))])⟩
theorem cCrash_ok {st : Int} {t : Drv} {l : List Put} {keep : Int} {d c : Id} (hw : l.any badP = false) (hl : l.length ≤ 40) (h0 : 0 ≤ keep) (h1 : keep ≤ 9223372036854775807) : XOk Proofs.Tryz.prog (cCrash st t l keep d c) := by
 have hP := ((Prg.none ttok mtok).andX (cWaits_ok (st := st) (t := t) (d := ⟨0, 0, 0⟩) (c := ⟨0, 0, 1⟩) (Nat.le_trans hl (by decide))))
 refine xctr_of_body hP (cCrash st t l keep d c) (fn := Proofs.Tryz.f124) (rts := []) Proofs.Tryz.func124 rfl (by kernel_rfl) rfl rfl ?_
 refine ⟨rfl, ?_⟩
 have hl : l.length ≤ 40 := hl
 refine sw_seq (sw_seq (xg hP 1 [] rfl ?_ ?_))
 ·simp only [conj, List.nil_append, List.cons_append, List.append_nil, List.append_assoc, inR_i64, true_and, and_true, Int.toNat_natCast]
  try dsimp only [Ty.den, Ty.dflt]
  repeat' apply And.intro
  all_goals first | rfl | omega | assumption | trivial
 refine sw_block (sw_loop (ι := Nat × Drv) (fun ⟨i, u⟩ => ⟨[.v false [.ptr ⟨0, 0, 0⟩ 0], sInt .i64 keep, .j, .j, .j, .j, .j, .v false [.own ⟨0, 9, 0⟩], sInt .i64 (l.length : Int), sInt .i64 (i : Int), .j, .j, .j, .j, .j, .j, .j, .j, .j, .j, .j, .j, .j, .j, .j, .j], [(⟨0, 0, 0⟩, .var (drv st u (.chp ⟨0, 0, 1⟩ 0))), (⟨0, 0, 1⟩, .ch true T_Put l), (⟨0, 9, 0⟩, .sl T_Put (.all .w) l)], 1, [[.v false [.ptr ⟨0, 0, 0⟩ 0], .j]]⟩) (fun ⟨i, u⟩ => l.length - i) (fun ⟨i, u⟩ => i ≤ l.length ∧ comes (keepB (keep.toNat / 2 ^ i) (l.drop i)) u = comes (keepB keep.toNat l) t) (0, t) ⟨?_, ?_⟩ ?_)
 ·exact ⟨Nat.zero_le _, by show comes (keepB (keep.toNat / 2 ^ 0) _) _ = _; rw [Nat.pow_zero, Nat.div_one]; rfl⟩
 ·refine ent_ok rfl ?_
  first | trivial | (simp [conj]; done) | (simp [conj] at *; (try dsimp only [Ty.den, Ty.dflt] at *); omega)
 ·rintro ⟨i, u⟩ ⟨hi, hgo⟩
  refine sw_seq (xg hP 2 [] rfl ?_ ?_)
  ·simp only [conj, List.nil_append, List.cons_append, List.append_nil, List.append_assoc, inR_i64, true_and, and_true, Int.toNat_natCast]
   try dsimp only [Ty.den, Ty.dflt]
   repeat' apply And.intro
   all_goals first | rfl | omega | assumption | trivial
  refine sw_seq (sw_cond rfl (fun c1 => ?_) (fun c1 => ?_))
  ·have hlt : i < l.length := by simpa using c1
   have hg : (List.getD l i T_Put.dflt : Put) = l[i] := by rw [List.getD, gE hlt]; rfl
   have hp := wait_at hw hlt
   rw [← hg] at hp
   have hbit : bitsOp .and .i64 (keep.fdiv (2 ^ (min i 64))) 1 = ((keep.toNat / 2 ^ i % 2 : Nat) : Int) := by rw [shr_bit h0 (by omega), and_one (by have := Nat.div_le_self keep.toNat (2 ^ i); omega)]
   have hdiv : keep.toNat / 2 ^ (i + 1) = keep.toNat / 2 ^ i / 2 := by rw [Nat.pow_succ, Nat.div_div_eq_div_mul]
   refine sw_skip (sw_seq (sw_block (sw_seq (xg hP 3 [] rfl ?_ ?_))))
   ·simp only [conj, List.nil_append, List.cons_append, List.append_nil, List.append_assoc, inR_i64, true_and, and_true, Int.toNat_natCast]
    try dsimp only [Ty.den, Ty.dflt]
    repeat' apply And.intro
    all_goals first | rfl | omega | assumption | trivial
   refine sw_seq (xg hP 4 [] rfl ?_ ?_)
   ·simp only [conj, List.nil_append, List.cons_append, List.append_nil, List.append_assoc, inR_i64, true_and, and_true, Int.toNat_natCast]
    try dsimp only [Ty.den, Ty.dflt]
    repeat' apply And.intro
    all_goals first | rfl | omega | assumption | trivial
   refine sw_cond rfl (fun c3 => ?_) (fun c3 => ?_)
   ·have hb : keep.toNat / 2 ^ i % 2 = 1 := by have h : bitsOp .and .i64 (keep.fdiv (2 ^ (min i 64))) 1 = 1 := of_decide_eq_true c3; omega
    have hnx := keep_hit hlt hb hgo
    rw [← hdiv, ← hg] at hnx
    replace hP := hP.andX (cCome_ok (st := st) (t := u) (l := l) (i := 0) (d := ⟨0, 0, 0⟩) (c := ⟨0, 0, 1⟩) hp)
    refine xg hP 5 [] rfl ?_ ?_
    ·simp only [conj, List.nil_append, List.cons_append, List.append_nil, List.append_assoc, inR_i64, true_and, and_true, Int.toNat_natCast]
     try dsimp only [Ty.den, Ty.dflt]
     repeat' apply And.intro
     all_goals first | rfl | omega | assumption | trivial
    refine xg hP 6 [] rfl ?_ ?_
    ·simp only [conj, List.nil_append, List.cons_append, List.append_nil, List.append_assoc, inR_i64, true_and, and_true, Int.toNat_natCast]
     try dsimp only [Ty.den, Ty.dflt]
     repeat' apply And.intro
     all_goals first | rfl | omega | assumption | trivial
    refine ⟨(i + 1, come (List.getD l i T_Put.dflt) u), ?_, ?_, ent_ok rfl ?_⟩
    ·exact ⟨hlt, hnx⟩
    ·show l.length - (i + 1) < l.length - i
     omega
    ·simp [conj]
   ·have hb : ¬ keep.toNat / 2 ^ i % 2 = 1 := by have h : ¬ bitsOp .and .i64 (keep.fdiv (2 ^ (min i 64))) 1 = 1 := of_decide_eq_false c3; omega
    have hnx := keep_no hlt hb hgo
    rw [← hdiv] at hnx
    refine sw_skip (xg hP 5 [] rfl ?_ ?_)
    ·simp only [conj, List.nil_append, List.cons_append, List.append_nil, List.append_assoc, inR_i64, true_and, and_true, Int.toNat_natCast]
     try dsimp only [Ty.den, Ty.dflt]
     repeat' apply And.intro
     all_goals first | rfl | omega | assumption | trivial
    refine ⟨(i + 1, u), ?_, ?_, ent_ok rfl ?_⟩
    ·exact ⟨hlt, hnx⟩
    ·show l.length - (i + 1) < l.length - i
     omega
    ·simp [conj]
  ·obtain rfl : i = l.length := by simp at c1; omega
   refine sw_exit (xg hP 3 [] rfl ?_ ?_)
   ·simp only [conj, List.nil_append, List.cons_append, List.append_nil, List.append_assoc, inR_i64, true_and, and_true, Int.toNat_natCast]
    try dsimp only [Ty.den, Ty.dflt]
    repeat' apply And.intro
    all_goals first | rfl | omega | assumption | trivial
   refine ⟨.inr rfl, _, rfl, ?_⟩
   have hv := keep_end hgo
   subst hv
   simp [conj]
end Go.Sx

namespace Go.Sx
open Go
set_option maxRecDepth 100000
set_option linter.unusedVariables false
set_option linter.unusedSimpArgs false
def cRead : Ctr := ⟨50, [.val true T_Disk (.all .b)], fun x => rdV x.1 = true, fun x => (.tup [(false, [.ptr ⟨1, 0, 0⟩ 0]), (false, [.kb true])], [(⟨1, 0, 0⟩, .var (drv x.1.1 (drvOf x.1) (.chp ⟨1, 1, 0⟩ 0))), (⟨1, 1, 0⟩, .ch true T_Put x.1.2.2.2.2)])⟩
theorem cRead_ok : CtrOk Proofs.Tryz.prog cRead := by
 have hP := (((((Prg.none ttok mtok).and cShaped_ok).and cContP_ok).and cCol_ok).and cContR_ok)
 refine ctr_of_body hP cRead (fn := Proofs.Tryz.f50) (rts := [.tmp 2, .tmp 3]) Proofs.Tryz.func50 rfl (by kernel_rfl) rfl rfl ?_
 rintro ⟨⟨(st : Int), (sl : List Str), (rg : List Str), (sp : List Bool), (wt : List Put)⟩, ⟨⟩⟩ _ hpre
 try dsimp only [Ty.den, Mode.den, mdens] at hpre
 refine ⟨rfl, ?_⟩
 replace hpre : rdV (st, sl, rg, sp, wt) = true := hpre
 obtain ⟨hsh, hwb, hsb, hrb, hgb⟩ := rd_parts hpre
 dsimp only at hwb hsb hrb
 obtain ⟨hst, h12, h2, h12b, h40⟩ := shaped_iff hsh
 dsimp only at hst h12 h2 h12b h40
 refine sw_seq (xr hP 1 rfl (sw_seq (sw_seq ?_)))
 refine sw_dec hP 2 [] 3 rfl (fun g1_3 => ?_) (fun g1_3 => ?_)
 ·have h : (!shapedV (st, sl, rg, sp, wt)) = true := g1_3
  rw [hsh] at h
  cases h
 ·refine xg hP 2 [(3, false)] rfl ?_ ?_
  ·simp [conj, maxL]
   try dsimp only [Ty.den, Ty.dflt]
   try simp only [rd_eta]
   repeat' apply And.intro
   all_goals first | rfl | assumption | omega | trivial
  refine sw_cond rfl (fun c1 => ?_) (fun c1 => ?_)
  ·have h : List.any wt badP = true := c1
   rw [hwb] at h
   cases h
  ·refine sw_skip (sw_seq (xg hP 3 [] rfl ?_ ?_))
   ·simp only [conj, List.nil_append, List.cons_append, List.append_nil, List.append_assoc, inR_i64, true_and, and_true, Int.toNat_natCast]
    try dsimp only [Ty.den, Ty.dflt]
    repeat' apply And.intro
    all_goals first | rfl | omega | assumption | trivial
   refine sw_seq (sw_seq (xr hP 4 rfl (sw_block (sw_loop (ι := Nat) (fun i => ⟨[.j, .v false [.ptr ⟨1, 0, 0⟩ 0], .j, .j, .v false [.ptr ⟨3, 16, 0⟩ 0], .j, .j, .j, .j, .j, .j, .j, .j, .j, .j, .j, .j, .j, .j, .j, .j, .j, .j, .j, .j, .j, .j, .j, .j, .j, .j, .j, .j, .j, .v false [.ptr ⟨3, 16, 0⟩ 0], .j, .v false [.d (.sl .str) (.all .b) sl], sInt .i64 (sl.length : Int), sInt .i64 (i : Int), .j, .j, .j, .j, .j, .j, .j, .j, .j, .j, .j, .j, .j, .j, .j, .j, .j, .j, .j, .j, .j, .j, .j, .j, .j, .j, .j, .j, .j, .j, .j, .j, .j, .j, .j, .j, .j, .j, .j, .j, .j, .j, .j, .j, .j, .j, .j, .j, .j, .j, .j, .j, .j, .j, .j, .j, .j, .j, .j, .j, .j, .j, .j, .j, .j, .j, .j, .j, .j, .j, .j, .j, .j], [(⟨1, 0, 0⟩, .var [.d TI pF st, .d (.sl .str) (.all .b) sl, .d (.sl .str) (.all .b) rg, .d (.sl .bool) (.all .b) sp, .d (.sl T_Put) (.all .b) wt]), (⟨3, 16, 0⟩, .var (drv st (sl, rg, sp) .nilp))], 4, []⟩) (fun i => sl.length - i) (fun i => i ≤ sl.length ∧ slotsB (sl.drop i) (sp.drop i) = slotsB sl sp) 0 ⟨?_, ?_⟩ ?_))))
   ·exact ⟨Nat.zero_le _, rfl⟩
   ·refine ent_ok rfl ?_
    simp [conj, List.take_of_length_le, h12, h2, h12b]
   ·rintro i ⟨hi, hgo⟩
    refine sw_seq (xr hP 5 rfl (sw_seq (sw_cond rfl (fun c5 => ?_) (fun c5 => ?_))))
    ·have hlt : i < sl.length := by simpa using c5
     have hlt2 : i < sp.length := by omega
     refine sw_skip (sw_seq (sw_block (sw_seq (xr hP 6 rfl (sw_seq ?_)))))
     refine sw_dec hP 7 [] 2 rfl (fun g7_2 => ?_) (fun g7_2 => ?_)
     ·replace g7_2 : sl[i] ≠ [] := by have h := g7_2; simp [gE hlt, gE hlt2] at h; exact h
      refine sw_dec hP 7 [(2, true)] 7 rfl (fun g7_7 => ?_) (fun g7_7 => ?_)
      ·replace g7_7 : ¬ sl[i].length = 3 := by have h := g7_7; simp [gE hlt, gE hlt2] at h; exact h
       have h := slots_hit hlt hlt2 hgo (slotB_col g7_2 g7_7)
       rw [hsb] at h
       cases h
      ·replace g7_7 : sl[i].length = 3 := by have h := g7_7; simp [gE hlt, gE hlt2] at h; exact h
       refine sw_dec hP 7 [(2, true), (7, false)] 10 rfl (fun g7_10 => ?_) (fun g7_10 => ?_)
       ·replace g7_10 : sl[i] = [] := by have h := g7_10; simp [gE hlt, gE hlt2] at h; exact h
        exact absurd g7_10 g7_2
       ·have hn : slotB sl[i] sp[i] = false := slotB_ok g7_2 g7_7
        refine xg hP 7 [(2, true), (7, false), (10, false)] rfl ?_ ?_
        ·simp [conj, gE hlt, gE hlt2]
         repeat' apply And.intro
         all_goals first | assumption | omega | trivial | (simp_all; done) | (simp_all; omega)
        refine sw_condF rfl (sw_skip (xr hP 8 rfl (⟨i + 1, ?_, ?_, ent_ok rfl ?_⟩)))
        ·exact ⟨hlt, slots_next hlt hlt2 hgo hn⟩
        ·omega
        ·simp [conj]
     ·replace g7_2 : sl[i] = [] := by have h := g7_2; simp [gE hlt, gE hlt2] at h; exact h
      refine sw_dec hP 7 [(2, false)] 10 rfl (fun g7_10 => ?_) (fun g7_10 => ?_)
      ·refine xg hP 7 [(2, false), (10, true)] rfl ?_ ?_
       ·simp [conj, gE hlt, gE hlt2]
        repeat' apply And.intro
        all_goals first | assumption | omega | trivial | (simp_all; done) | (simp_all; omega)
       refine sw_cond rfl (fun c7 => ?_) (fun c7 => ?_)
       ·replace c7 : sp[i] = true := by have h := c7; simp [gE hlt, gE hlt2] at h; exact h
        have h := slots_hit hlt hlt2 hgo (by rw [slotB_nil g7_2]; exact c7)
        rw [hsb] at h
        cases h
       ·replace c7 : sp[i] = false := by have h := c7; simp [gE hlt, gE hlt2] at h; exact h
        have hn : slotB sl[i] sp[i] = false := by rw [slotB_nil g7_2]; exact c7
        refine sw_skip (xr hP 8 rfl (⟨i + 1, ?_, ?_, ent_ok rfl ?_⟩))
        ·exact ⟨hlt, slots_next hlt hlt2 hgo hn⟩
        ·omega
        ·simp [conj]
      ·replace g7_10 : ¬ sl[i] = [] := by have h := g7_10; simp [gE hlt, gE hlt2] at h; exact h
       exact absurd g7_2 g7_10
    ·obtain rfl : i = sl.length := by simp at c5; omega
     refine sw_exit (sw_seq (sw_seq (xr hP 6 rfl (sw_cond rfl (fun c10 => ?_) (fun c10 => ?_)))))
     ·have h : List.any rg longR = true := c10
      rw [hrb] at h
      cases h
     ·refine sw_skip (sw_seq (sw_seq ?_))
      refine sw_dec hP 7 [] 3 rfl (fun g12_3 => ?_) (fun g12_3 => ?_)
      ·replace g12_3 : st = 1 := of_decide_eq_true g12_3
       refine sw_dec hP 7 [(3, true)] 10 rfl (fun g12_10 => ?_) (fun g12_10 => ?_)
       ·replace g12_10 : ¬ sl = List.replicate 12 [] := by have h := g12_10; simp [List.take_of_length_le, h12] at h; exact h
        exact absurd (gone_no hgb g12_3).1 g12_10
       ·replace g12_10 : sl = List.replicate 12 [] := by have h := g12_10; simp [List.take_of_length_le, h12] at h; exact h
        refine sw_dec hP 7 [(3, true), (10, false)] 18 rfl (fun g12_18 => ?_) (fun g12_18 => ?_)
        ·replace g12_18 : ¬ rg = List.replicate 2 [] := by have h := g12_18; simp [List.take_of_length_le, h2] at h; exact h
         exact absurd (gone_no hgb g12_3).2.1 g12_18
        ·replace g12_18 : rg = List.replicate 2 [] := by have h := g12_18; simp [List.take_of_length_le, h2] at h; exact h
         refine xg hP 7 [(3, true), (10, false), (18, false)] rfl ?_ ?_
         ·simp [conj, List.take_of_length_le, h12, h2]
          repeat' apply And.intro
          all_goals first | assumption | omega | trivial | (simp_all; done) | (simp_all; omega)
         refine sw_cond rfl (fun c12 => ?_) (fun c12 => ?_)
         ·replace c12 : ¬ wt.length = 0 := by have h : (0 : Int) < (wt.length : Nat) := of_decide_eq_true c12; omega
          exact absurd (gone_no hgb g12_3).2.2 c12
         ·refine sw_skip (sw_seq (xr hP 8 rfl (sw_seq (sw_seq (xr hP 9 rfl (sw_block (sw_loop (ι := Nat) (fun i => ⟨[.j, .v false [.ptr ⟨1, 0, 0⟩ 0], .j, .j, .v false [.ptr ⟨3, 16, 0⟩ 0], .j, .j, .v false [.lnk ⟨3, 16, 0⟩ 27 ⟨0, 9, 0⟩ i 3], .j, .j, .j, .j, .j, .j, .j, .j, .j, .j, .j, .j, .j, .j, .j, .j, .j, .j, .j, .j, .j, .j, .j, .j, .j, .j, .v false [.ptr ⟨3, 16, 0⟩ 0], .j, .j, .j, .j, .j, .j, .j, .j, .j, .j, .j, .j, .j, .j, .j, .j, .j, .j, .j, .j, .j, .j, .j, .j, .j, .j, .j, .j, .j, .j, .j, .j, .j, .j, .j, .j, .j, .j, .j, .j, .j, .j, .j, .j, .j, .j, .j, .j, .j, .j, .j, .j, .j, .j, .j, .j, .j, .j, .j, .v false [.d (.sl T_Put) (.all .b) wt], sInt .i64 (wt.length : Int), sInt .i64 (i : Int), .j, .j, .j, .j, .j, .j, .j, .j, .j, .j, .j, .j, .j, .j, .j], [(⟨3, 16, 0⟩, .var (drv st (sl, rg, sp) (.chp ⟨0, 9, 0⟩ 0))), (⟨0, 9, 0⟩, .ch true T_Put (wt.take i))], 9, []⟩) (fun i => wt.length - i) (fun i => i ≤ wt.length) 0 ⟨?_, ?_⟩ ?_)))))))
          ·exact Nat.zero_le _
          ·refine ent_ok rfl ?_
           simp [conj, List.take_of_length_le, h12, h2, h12b]
          ·rintro i hi
           refine sw_seq (xr hP 10 rfl (sw_seq (sw_cond rfl (fun c16 => ?_) (fun c16 => ?_))))
           ·have hlt : i < wt.length := by simpa using c16
            refine sw_skip (sw_seq (sw_block (sw_seq (xr hP 11 rfl (sw_seq (xg hP 12 [] rfl ?_ ?_))))))
            ·simp [conj]
             omega
            refine xg hP 13 [] rfl ?_ ?_
            ·simp [conj]
             omega
            refine xr hP 14 rfl (⟨i + 1, ?_, ?_, ent_ok rfl ?_⟩)
            ·exact hlt
            ·omega
            ·simp [conj]
             exact take_next hlt
           ·obtain rfl : i = wt.length := by simp at c16; omega
            refine sw_exit (sw_seq (xr hP 11 rfl (sw_ret ⟨.inl rfl, _, rfl, ?_⟩)))
            first | (simp [conj, drvOf]; done) | trivial
      ·replace g12_3 : ¬ st = 1 := of_decide_eq_false g12_3
       refine xg hP 7 [(3, false)] rfl ?_ ?_
       ·simp [conj, List.take_of_length_le, h12, h2]
        repeat' apply And.intro
        all_goals first | assumption | omega | trivial | (simp_all; done) | (simp_all; omega)
       refine sw_condF rfl (sw_skip (sw_seq (xr hP 8 rfl (sw_seq (sw_seq (xr hP 9 rfl (sw_block (sw_loop (ι := Nat) (fun i => ⟨[.j, .v false [.ptr ⟨1, 0, 0⟩ 0], .j, .j, .v false [.ptr ⟨3, 16, 0⟩ 0], .j, .j, .v false [.lnk ⟨3, 16, 0⟩ 27 ⟨0, 9, 0⟩ i 3], .j, .j, .j, .j, .j, .j, .j, .j, .j, .j, .j, .j, .j, .j, .j, .j, .j, .j, .j, .j, .j, .j, .j, .j, .j, .j, .v false [.ptr ⟨3, 16, 0⟩ 0], .j, .j, .j, .j, .j, .j, .j, .j, .j, .j, .j, .j, .j, .j, .j, .j, .j, .j, .j, .j, .j, .j, .j, .j, .j, .j, .j, .j, .j, .j, .j, .j, .j, .j, .j, .j, .j, .j, .j, .j, .j, .j, .j, .j, .j, .j, .j, .j, .j, .j, .j, .j, .j, .j, .j, .j, .j, .j, .j, .v false [.d (.sl T_Put) (.all .b) wt], sInt .i64 (wt.length : Int), sInt .i64 (i : Int), .j, .j, .j, .j, .j, .j, .j, .j, .j, .j, .j, .j, .j, .j, .j], [(⟨3, 16, 0⟩, .var (drv st (sl, rg, sp) (.chp ⟨0, 9, 0⟩ 0))), (⟨0, 9, 0⟩, .ch true T_Put (wt.take i))], 9, []⟩) (fun i => wt.length - i) (fun i => i ≤ wt.length) 0 ⟨?_, ?_⟩ ?_))))))))
       ·exact Nat.zero_le _
       ·refine ent_ok rfl ?_
        simp [conj, List.take_of_length_le, h12, h2, h12b]
       ·rintro i hi
        refine sw_seq (xr hP 10 rfl (sw_seq (sw_cond rfl (fun c16 => ?_) (fun c16 => ?_))))
        ·have hlt : i < wt.length := by simpa using c16
         refine sw_skip (sw_seq (sw_block (sw_seq (xr hP 11 rfl (sw_seq (xg hP 12 [] rfl ?_ ?_))))))
         ·simp [conj]
          omega
         refine xg hP 13 [] rfl ?_ ?_
         ·simp [conj]
          omega
         refine xr hP 14 rfl (⟨i + 1, ?_, ?_, ent_ok rfl ?_⟩)
         ·exact hlt
         ·omega
         ·simp [conj]
          exact take_next hlt
        ·obtain rfl : i = wt.length := by simp at c16; omega
         refine sw_exit (sw_seq (xr hP 11 rfl (sw_ret ⟨.inl rfl, _, rfl, ?_⟩)))
         first | (simp [conj, drvOf]; done) | trivial
def cReadB : Ctr := ⟨50, [.val true T_Disk (.all .b)], fun x => rdV x.1 = false, fun x => (.tup [(false, [.nilp]), (false, [.kb false])], [])⟩
theorem cReadB_ok : CtrOk Proofs.Tryz.prog cReadB := by
 have hP := (((((Prg.none ttok mtok).and cShaped_ok).and cContP_ok).and cCol_ok).and cContR_ok)
 refine ctr_of_body hP cReadB (fn := Proofs.Tryz.f50) (rts := [.tmp 2, .tmp 3]) Proofs.Tryz.func50 rfl (by kernel_rfl) rfl rfl ?_
 rintro ⟨⟨(st : Int), (sl : List Str), (rg : List Str), (sp : List Bool), (wt : List Put)⟩, ⟨⟩⟩ _ hpre
 try dsimp only [Ty.den, Mode.den, mdens] at hpre
 refine ⟨rfl, ?_⟩
 replace hpre : rdV (st, sl, rg, sp, wt) = false := hpre
 refine sw_seq (xr hP 1 rfl (sw_seq (sw_seq ?_)))
 refine sw_dec hP 2 [] 3 rfl (fun g1_3 => ?_) (fun g1_3 => ?_)
 ·have hns : shapedV (st, sl, rg, sp, wt) = false := by have h : (!shapedV (st, sl, rg, sp, wt)) = true := g1_3; simpa using h
  refine xg hP 2 [(3, true)] rfl ?_ ?_
  ·simp [conj, maxL]
   try dsimp only [Ty.den, Ty.dflt]
   try simp only [rd_eta]
   repeat' apply And.intro
   all_goals first | rfl | assumption | omega | trivial
  refine sw_condT rfl (sw_seq (xr hP 3 rfl (sw_ret ⟨.inl rfl, _, rfl, ?_⟩)))
  first | (simp [conj, drvOf]; done) | trivial
 ·have hsh : shapedV (st, sl, rg, sp, wt) = true := by simpa using g1_3
  obtain ⟨hst, h12, h2, h12b, h40⟩ := shaped_iff hsh
  dsimp only at hst h12 h2 h12b h40
  refine xg hP 2 [(3, false)] rfl ?_ ?_
  ·simp [conj, maxL]
   try dsimp only [Ty.den, Ty.dflt]
   try simp only [rd_eta]
   repeat' apply And.intro
   all_goals first | rfl | assumption | omega | trivial
  refine sw_cond rfl (fun c1 => ?_) (fun c1 => ?_)
  ·refine sw_seq (xr hP 3 rfl (sw_ret ⟨.inl rfl, _, rfl, ?_⟩))
   first | (simp [conj, drvOf]; done) | trivial
  ·have hwb : List.any wt badP = false := c1
   refine sw_skip (sw_seq (xg hP 3 [] rfl ?_ ?_))
   ·simp only [conj, List.nil_append, List.cons_append, List.append_nil, List.append_assoc, inR_i64, true_and, and_true, Int.toNat_natCast]
    try dsimp only [Ty.den, Ty.dflt]
    repeat' apply And.intro
    all_goals first | rfl | omega | assumption | trivial
   refine sw_seq (sw_seq (xr hP 4 rfl (sw_block (sw_loop (ι := Nat) (fun i => ⟨[.j, .v false [.ptr ⟨1, 0, 0⟩ 0], .j, .j, .v false [.ptr ⟨3, 16, 0⟩ 0], .j, .j, .j, .j, .j, .j, .j, .j, .j, .j, .j, .j, .j, .j, .j, .j, .j, .j, .j, .j, .j, .j, .j, .j, .j, .j, .j, .j, .j, .v false [.ptr ⟨3, 16, 0⟩ 0], .j, .v false [.d (.sl .str) (.all .b) sl], sInt .i64 (sl.length : Int), sInt .i64 (i : Int), .j, .j, .j, .j, .j, .j, .j, .j, .j, .j, .j, .j, .j, .j, .j, .j, .j, .j, .j, .j, .j, .j, .j, .j, .j, .j, .j, .j, .j, .j, .j, .j, .j, .j, .j, .j, .j, .j, .j, .j, .j, .j, .j, .j, .j, .j, .j, .j, .j, .j, .j, .j, .j, .j, .j, .j, .j, .j, .j, .j, .j, .j, .j, .j, .j, .j, .j, .j, .j, .j, .j, .j, .j], [(⟨1, 0, 0⟩, .var [.d TI pF st, .d (.sl .str) (.all .b) sl, .d (.sl .str) (.all .b) rg, .d (.sl .bool) (.all .b) sp, .d (.sl T_Put) (.all .b) wt]), (⟨3, 16, 0⟩, .var (drv st (sl, rg, sp) .nilp))], 4, []⟩) (fun i => sl.length - i) (fun i => i ≤ sl.length ∧ slotsB (sl.drop i) (sp.drop i) = slotsB sl sp) 0 ⟨?_, ?_⟩ ?_))))
   ·exact ⟨Nat.zero_le _, rfl⟩
   ·refine ent_ok rfl ?_
    simp [conj, List.take_of_length_le, h12, h2, h12b]
   ·rintro i ⟨hi, hgo⟩
    refine sw_seq (xr hP 5 rfl (sw_seq (sw_cond rfl (fun c5 => ?_) (fun c5 => ?_))))
    ·have hlt : i < sl.length := by simpa using c5
     have hlt2 : i < sp.length := by omega
     refine sw_skip (sw_seq (sw_block (sw_seq (xr hP 6 rfl (sw_seq ?_)))))
     refine sw_dec hP 7 [] 2 rfl (fun g7_2 => ?_) (fun g7_2 => ?_)
     ·replace g7_2 : sl[i] ≠ [] := by have h := g7_2; simp [gE hlt, gE hlt2] at h; exact h
      refine sw_dec hP 7 [(2, true)] 7 rfl (fun g7_7 => ?_) (fun g7_7 => ?_)
      ·replace g7_7 : ¬ sl[i].length = 3 := by have h := g7_7; simp [gE hlt, gE hlt2] at h; exact h
       refine xg hP 7 [(2, true), (7, true)] rfl ?_ ?_
       ·simp [conj, gE hlt, gE hlt2]
        repeat' apply And.intro
        all_goals first | assumption | omega | trivial | (simp_all; done) | (simp_all; omega)
       refine sw_condT rfl (sw_seq (xr hP 8 rfl (sw_ret ⟨.inl rfl, _, rfl, ?_⟩)))
       first | (simp [conj, drvOf]; done) | trivial
      ·replace g7_7 : sl[i].length = 3 := by have h := g7_7; simp [gE hlt, gE hlt2] at h; exact h
       refine sw_dec hP 7 [(2, true), (7, false)] 10 rfl (fun g7_10 => ?_) (fun g7_10 => ?_)
       ·replace g7_10 : sl[i] = [] := by have h := g7_10; simp [gE hlt, gE hlt2] at h; exact h
        exact absurd g7_10 g7_2
       ·have hn : slotB sl[i] sp[i] = false := slotB_ok g7_2 g7_7
        refine xg hP 7 [(2, true), (7, false), (10, false)] rfl ?_ ?_
        ·simp [conj, gE hlt, gE hlt2]
         repeat' apply And.intro
         all_goals first | assumption | omega | trivial | (simp_all; done) | (simp_all; omega)
        refine sw_condF rfl (sw_skip (xr hP 8 rfl (⟨i + 1, ?_, ?_, ent_ok rfl ?_⟩)))
        ·exact ⟨hlt, slots_next hlt hlt2 hgo hn⟩
        ·omega
        ·simp [conj]
     ·replace g7_2 : sl[i] = [] := by have h := g7_2; simp [gE hlt, gE hlt2] at h; exact h
      refine sw_dec hP 7 [(2, false)] 10 rfl (fun g7_10 => ?_) (fun g7_10 => ?_)
      ·refine xg hP 7 [(2, false), (10, true)] rfl ?_ ?_
       ·simp [conj, gE hlt, gE hlt2]
        repeat' apply And.intro
        all_goals first | assumption | omega | trivial | (simp_all; done) | (simp_all; omega)
       refine sw_cond rfl (fun c7 => ?_) (fun c7 => ?_)
       ·refine sw_seq (xr hP 8 rfl (sw_ret ⟨.inl rfl, _, rfl, ?_⟩))
        first | (simp [conj, drvOf]; done) | trivial
       ·replace c7 : sp[i] = false := by have h := c7; simp [gE hlt, gE hlt2] at h; exact h
        have hn : slotB sl[i] sp[i] = false := by rw [slotB_nil g7_2]; exact c7
        refine sw_skip (xr hP 8 rfl (⟨i + 1, ?_, ?_, ent_ok rfl ?_⟩))
        ·exact ⟨hlt, slots_next hlt hlt2 hgo hn⟩
        ·omega
        ·simp [conj]
      ·replace g7_10 : ¬ sl[i] = [] := by have h := g7_10; simp [gE hlt, gE hlt2] at h; exact h
       exact absurd g7_2 g7_10
    ·obtain rfl : i = sl.length := by simp at c5; omega
     have hsb : slotsB sl sp = false := slots_end hgo
     refine sw_exit (sw_seq (sw_seq (xr hP 6 rfl (sw_cond rfl (fun c10 => ?_) (fun c10 => ?_)))))
     ·refine sw_seq (xr hP 7 rfl (sw_ret ⟨.inl rfl, _, rfl, ?_⟩))
      first | (simp [conj, drvOf]; done) | trivial
     ·have hrb : List.any rg longR = false := c10
      refine sw_skip (sw_seq (sw_seq ?_))
      refine sw_dec hP 7 [] 3 rfl (fun g12_3 => ?_) (fun g12_3 => ?_)
      ·replace g12_3 : st = 1 := of_decide_eq_true g12_3
       refine sw_dec hP 7 [(3, true)] 10 rfl (fun g12_10 => ?_) (fun g12_10 => ?_)
       ·refine xg hP 7 [(3, true), (10, true)] rfl ?_ ?_
        ·simp [conj, List.take_of_length_le, h12, h2]
         repeat' apply And.intro
         all_goals first | assumption | omega | trivial | (simp_all; done) | (simp_all; omega)
        refine sw_condT rfl (sw_seq (xr hP 8 rfl (sw_ret ⟨.inl rfl, _, rfl, ?_⟩)))
        first | (simp [conj, drvOf]; done) | trivial
       ·replace g12_10 : sl = List.replicate 12 [] := by have h := g12_10; simp [List.take_of_length_le, h12] at h; exact h
        refine sw_dec hP 7 [(3, true), (10, false)] 18 rfl (fun g12_18 => ?_) (fun g12_18 => ?_)
        ·refine xg hP 7 [(3, true), (10, false), (18, true)] rfl ?_ ?_
         ·simp [conj, List.take_of_length_le, h12, h2]
          repeat' apply And.intro
          all_goals first | assumption | omega | trivial | (simp_all; done) | (simp_all; omega)
         refine sw_condT rfl (sw_seq (xr hP 8 rfl (sw_ret ⟨.inl rfl, _, rfl, ?_⟩)))
         first | (simp [conj, drvOf]; done) | trivial
        ·replace g12_18 : rg = List.replicate 2 [] := by have h := g12_18; simp [List.take_of_length_le, h2] at h; exact h
         refine xg hP 7 [(3, true), (10, false), (18, false)] rfl ?_ ?_
         ·simp [conj, List.take_of_length_le, h12, h2]
          repeat' apply And.intro
          all_goals first | assumption | omega | trivial | (simp_all; done) | (simp_all; omega)
         refine sw_cond rfl (fun c12 => ?_) (fun c12 => ?_)
         ·refine sw_seq (xr hP 8 rfl (sw_ret ⟨.inl rfl, _, rfl, ?_⟩))
          first | (simp [conj, drvOf]; done) | trivial
         ·replace c12 : ¬ 0 < wt.length := by have h : ¬ (0 : Int) < (wt.length : Nat) := of_decide_eq_false c12; omega
          have h : rdV (st, sl, rg, sp, wt) = true := rd_mk hsh hwb hsb hrb (gone_yes g12_10 g12_18 (by show wt.length = 0; omega))
          rw [hpre] at h
          cases h
      ·replace g12_3 : ¬ st = 1 := of_decide_eq_false g12_3
       have h : rdV (st, sl, rg, sp, wt) = true := rd_mk hsh hwb hsb hrb (gone_live g12_3)
       rw [hpre] at h
       cases h
end Go.Sx

namespace Go.Sx
open Go
set_option maxRecDepth 100000
set_option linter.unusedVariables false
set_option linter.unusedSimpArgs false
def cPut (st : Int) (t : Drv) (l : List Put) (p : Put) (d c : Id) : Xctr := ⟨141, [(d, ⟨0, 0, 0⟩, .var (drv st t (.chp ⟨0, 0, 1⟩ 0))), (c, ⟨0, 0, 1⟩, .ch true T_Put l)], [], [.v false [.ptr ⟨0, 0, 0⟩ 0], putA_ p], (.tup [], [(⟨0, 0, 0⟩, .var (drv st (putT l t) (.chp ⟨1, 0, 0⟩ 0))), (⟨1, 0, 0⟩, .ch true T_Put (putW l p))])⟩
theorem cPut_ok {st : Int} {t : Drv} {l : List Put} {p : Put} {d c : Id} (hw : l.any badP = false) (hl : l.length ≤ 40) (hs : ¬ st = 1) : XOk Proofs.Tryz.prog (cPut st t l p d c) := by
 have hP := ((Prg.none ttok mtok).andX (cWaits_ok (st := st) (t := t) (d := ⟨0, 0, 0⟩) (c := ⟨0, 0, 1⟩) (Nat.le_trans hl (by decide))))
 refine xctr_of_body hP (cPut st t l p d c) (fn := Proofs.Tryz.f141) (rts := []) Proofs.Tryz.func141 rfl (by kernel_rfl) rfl rfl ?_
 refine ⟨rfl, ?_⟩
 refine sw_seq (xr hP 1 rfl (sw_seq (sw_seq (xr hP 2 rfl (sw_cond rfl (fun c1 => ?_) (fun c1 => ?_))))))
 ·have h : st = 1 := of_decide_eq_true c1
  exact (hs h).elim
 ·refine sw_skip (sw_seq (sw_seq (xg hP 3 [] rfl ?_ ?_)))
  ·simp only [conj, List.nil_append, List.cons_append, List.append_nil, List.append_assoc, inR_i64, true_and, and_true, Int.toNat_natCast]
   try dsimp only [Ty.den, Ty.dflt]
   repeat' apply And.intro
   all_goals first | rfl | omega | assumption | trivial
  refine sw_cond rfl (fun c2 => ?_) (fun c2 => ?_)
  ·replace c2 : l.length = 40 := by have h : ((l.length : Nat) : Int) = 40 := of_decide_eq_true c2; omega
   replace hP := hP.andX (cFlush_ok (st := st) (t := t) (l := l) (d := ⟨0, 0, 0⟩) (c := ⟨0, 0, 1⟩) hw)
   refine xg hP 4 [] rfl ?_ ?_
   ·simp only [conj, List.nil_append, List.cons_append, List.append_nil, List.append_assoc, inR_i64, true_and, and_true, Int.toNat_natCast]
    try dsimp only [Ty.den, Ty.dflt]
    repeat' apply And.intro
    all_goals first | rfl | omega | assumption | trivial
   refine sw_seq (xr hP 5 rfl (sw_seq (sw_block (sw_loop (ι := Nat) (fun i => ⟨[.j, .j, .j, .v false [.ptr ⟨1, 0, 0⟩ 0], .v false [.lnk ⟨0, 0, 0⟩ 27 ⟨0, 9, 0⟩ i 3], .j, .j, .j, .j, .j, .j, .j, .j, .j, .j, .j, .j, .j, .j, .j, .j, .j, .j, .j, .j, .j, .j, .j, .j, .j, .j, .j, .j, .j], [(⟨0, 0, 0⟩, .var (drv st (comes l t) (.chp ⟨0, 9, 0⟩ 0))), (⟨0, 9, 0⟩, .ch true T_Put ([] : List Put)), (⟨1, 0, 0⟩, .var [.d .bool pF p.1, .d TI pF p.2.1, .d .str pF p.2.2])], 5, [[.v false [.ptr ⟨0, 0, 0⟩ 0], .j]]⟩) (fun i => ([] : List Put).length - i) (fun i => i ≤ ([] : List Put).length) 0 ⟨?_, ?_⟩ ?_))))
   ·exact Nat.zero_le _
   ·refine ent_ok rfl ?_
    first | trivial | (simp [conj]; done) | (simp [conj] at *; (try dsimp only [Ty.den, Ty.dflt] at *); omega)
   ·rintro i hi
    refine sw_seq (sw_seq (xg hP 6 [] rfl ?_ ?_))
    ·simp [conj]
     simpa using hi
    refine sw_cond rfl (fun c5 => ?_) (fun c5 => ?_)
    ·have hlt : i < ([] : List Put).length := by simp at c5; exact absurd c5 (by simp at hi; omega)
     refine sw_skip (sw_block (xg hP 7 [] rfl ?_ ?_))
     ·simp [conj]
      first | exact ⟨hi, hlt⟩ | exact hlt | (simpa using hlt)
     refine ⟨i + 1, ?_, ?_, ent_ok rfl ?_⟩
     ·exact hlt
     ·omega
     ·simp [conj]
    ·have hie : i = ([] : List Put).length := by simp at c5 ⊢; omega
     refine sw_exit (xg hP 7 [] rfl ?_ ?_)
     ·simp [conj]
      simpa using hie
     refine ⟨.inr rfl, _, rfl, ?_⟩
     simp [conj, putT_full c2, putW_full c2]
  ·replace c2 : ¬ l.length = 40 := by have h : ¬ ((l.length : Nat) : Int) = 40 := of_decide_eq_false c2; omega
   refine sw_skip (sw_seq (xr hP 4 rfl (sw_seq (sw_block (sw_loop (ι := Nat) (fun i => ⟨[.j, .j, .j, .v false [.ptr ⟨1, 0, 0⟩ 0], .v false [.lnk ⟨0, 0, 0⟩ 27 ⟨0, 9, 0⟩ i 3], .j, .j, .j, .j, .j, .j, .j, .j, .j, .j, .j, .j, .j, .j, .j, .j, .j, .j, .j, .j, .j, .j, .j, .j, .j, .j, .j, .j, .j], [(⟨0, 0, 0⟩, .var (drv st t (.chp ⟨0, 9, 0⟩ 0))), (⟨0, 9, 0⟩, .ch true T_Put l), (⟨1, 0, 0⟩, .var [.d .bool pF p.1, .d TI pF p.2.1, .d .str pF p.2.2])], 4, [[.v false [.ptr ⟨0, 0, 0⟩ 0], .j]]⟩) (fun i => l.length - i) (fun i => i ≤ l.length) 0 ⟨?_, ?_⟩ ?_)))))
   ·exact Nat.zero_le _
   ·refine ent_ok rfl ?_
    first | trivial | (simp [conj]; done) | (simp [conj] at *; (try dsimp only [Ty.den, Ty.dflt] at *); omega)
   ·rintro i hi
    refine sw_seq (sw_seq (xg hP 5 [] rfl ?_ ?_))
    ·simp [conj]
     simpa using hi
    refine sw_cond rfl (fun c5 => ?_) (fun c5 => ?_)
    ·have hlt : i < l.length := by simp at c5; omega
     refine sw_skip (sw_block (xg hP 6 [] rfl ?_ ?_))
     ·simp [conj]
      first | exact ⟨hi, hlt⟩ | exact hlt | (simpa using hlt)
     refine ⟨i + 1, ?_, ?_, ent_ok rfl ?_⟩
     ·exact hlt
     ·omega
     ·simp [conj]
    ·have hie : i = l.length := by simp at c5 ⊢; omega
     refine sw_exit (xg hP 6 [] rfl ?_ ?_)
     ·simp [conj]
      simpa using hie
     refine ⟨.inr rfl, _, rfl, ?_⟩
     simp [conj, putT_room c2, putW_room c2]
def cPutG (st : Int) (t : Drv) (l : List Put) (p : Put) (d c : Id) : Xctr := ⟨141, [(d, ⟨0, 0, 0⟩, .var (drv st t (.chp ⟨0, 0, 1⟩ 0))), (c, ⟨0, 0, 1⟩, .ch true T_Put l)], [], [.v false [.ptr ⟨0, 0, 0⟩ 0], putA_ p], (.tup [], [(⟨0, 0, 0⟩, .var (drv st t (.chp ⟨1, 0, 0⟩ 0))), (⟨1, 0, 0⟩, .ch true T_Put l)])⟩
theorem cPutG_ok {st : Int} {t : Drv} {l : List Put} {p : Put} {d c : Id} (hw : l.any badP = false) (hl : l.length ≤ 40) (hs : st = 1) : XOk Proofs.Tryz.prog (cPutG st t l p d c) := by
 have hP := ((Prg.none ttok mtok).andX (cWaits_ok (st := st) (t := t) (d := ⟨0, 0, 0⟩) (c := ⟨0, 0, 1⟩) (Nat.le_trans hl (by decide))))
 refine xctr_of_body hP (cPutG st t l p d c) (fn := Proofs.Tryz.f141) (rts := []) Proofs.Tryz.func141 rfl (by kernel_rfl) rfl rfl ?_
 refine ⟨rfl, ?_⟩
 refine sw_seq (xr hP 1 rfl (sw_seq (sw_seq (xr hP 2 rfl (sw_cond rfl (fun c1 => ?_) (fun c1 => ?_))))))
 ·refine sw_ret ⟨.inl rfl, _, rfl, ?_⟩
  simp [conj]
 ·have h : ¬ st = 1 := of_decide_eq_false c1
  exact (h hs).elim
def cSeen (st : Int) (t : Drv) (l : List Put) (at_ : Int) (d c : Id) : Xctr := ⟨51, [], [(d, ⟨0, 0, 0⟩, .lvar (drv st t (.chp ⟨0, 0, 1⟩ 0))), (c, ⟨0, 0, 1⟩, .ch false T_Put l)], [.v false [.ptr ⟨0, 0, 0⟩ 0], sInt .i64 at_], (sStr (seenV t l at_), [])⟩
theorem cSeen_ok {st : Int} {t : Drv} {l : List Put} {at_ : Int} {d c : Id} (hl : l.length ≤ 40) (h0 : 0 ≤ at_) (h1 : at_ < 12) : XOk Proofs.Tryz.prog (cSeen st t l at_ d c) := by
 have hP := ((Prg.none ttok mtok).andX (cWaits_ok (st := st) (t := t) (d := ⟨0, 0, 0⟩) (c := ⟨0, 0, 1⟩) (Nat.le_trans hl (by decide))))
 refine xctr_of_body hP (cSeen st t l at_ d c) (fn := Proofs.Tryz.f51) (rts := [.tmp 4]) Proofs.Tryz.func51 rfl (by kernel_rfl) rfl rfl ?_
 refine ⟨rfl, ?_⟩
 refine sw_seq (xr hP 1 rfl (sw_seq (xg hP 2 [] rfl ?_ ?_)))
 ·simp only [conj, List.nil_append, List.cons_append, List.append_nil, List.append_assoc, inR_i64, true_and, and_true, Int.toNat_natCast]
  try dsimp only [Ty.den, Ty.dflt]
  repeat' apply And.intro
  all_goals first | rfl | omega | assumption | trivial
 refine sw_seq (sw_seq (xg hP 3 [] rfl ?_ ?_))
 ·simp only [conj, List.nil_append, List.cons_append, List.append_nil, List.append_assoc, inR_i64, true_and, and_true, Int.toNat_natCast]
  try dsimp only [Ty.den, Ty.dflt]
  repeat' apply And.intro
  all_goals first | rfl | omega | assumption | trivial
 refine sw_block (sw_loop (ι := Nat × Str) (fun ⟨i, s⟩ => ⟨[.v false [.ptr ⟨0, 0, 0⟩ 0], sInt .i64 at_, .j, .j, .j, sStr s, .j, .j, .j, .j, .j, .j, .j, .j, .j, .v false [.own ⟨0, 9, 0⟩], sInt .i64 (l.length : Int), sInt .i64 (i : Int), .j, .j, .j, .j, .j, .j, .j, .j, .j, .j, .j, .j, .j, .j, .j, .j], [(⟨0, 0, 0⟩, .lvar (drv st t (.chp ⟨0, 0, 1⟩ 0))), (⟨0, 0, 1⟩, .ch false T_Put l), (⟨0, 9, 0⟩, .sl T_Put (.all .w) l)], 3, [[.v false [.ptr ⟨0, 0, 0⟩ 0], .j]]⟩) (fun ⟨i, s⟩ => l.length - i) (fun ⟨i, s⟩ => i ≤ l.length ∧ seenGo at_ (l.drop i) s = seenV t l at_) (0, t.1.getD at_.toNat []) ⟨?_, ?_⟩ ?_)
 ·exact ⟨Nat.zero_le _, rfl⟩
 ·refine ent_ok rfl ?_
  first | trivial | (simp [conj]; done) | (simp [conj] at *; (try dsimp only [Ty.den, Ty.dflt] at *); omega)
 ·rintro ⟨i, s⟩ ⟨hi, hgo⟩
  refine sw_seq (xr hP 4 rfl (sw_seq (sw_cond rfl (fun c3 => ?_) (fun c3 => ?_))))
  ·have hlt : i < l.length := by simpa using c3
   refine sw_skip (sw_seq (sw_block (sw_seq (xg hP 5 [] rfl ?_ ?_))))
   ·simp only [conj, List.nil_append, List.cons_append, List.append_nil, List.append_assoc, inR_i64, true_and, and_true, Int.toNat_natCast]
    try dsimp only [Ty.den, Ty.dflt]
    repeat' apply And.intro
    all_goals first | rfl | omega | assumption | trivial
   refine sw_seq ?_
   refine sw_dec hP 6 [] 3 rfl (fun g5_3 => ?_) (fun g5_3 => ?_)
   ·replace g5_3 : l[i].1 = false := by simpa [gE hlt] using g5_3
    refine xg hP 6 [(3, true)] rfl ?_ ?_
    ·simp [conj, gE hlt]
     try assumption
     try (simpa using g5_3)
    refine sw_cond rfl (fun c5 => ?_) (fun c5 => ?_)
    ·replace c5 : l[i].2.1 = at_ := by simpa [gE hlt] using c5
     have hn := seen_next hlt hgo
     rw [if_pos ⟨g5_3, c5⟩] at hn
     refine xr hP 7 rfl (xr hP 8 rfl (⟨(i + 1, l[i].2.2), ?_, ?_, ent_ok rfl ?_⟩))
     ·exact ⟨hlt, hn⟩
     ·show l.length - (i + 1) < l.length - i
      omega
     ·simp [conj, gE hlt]
    ·replace c5 : ¬ l[i].2.1 = at_ := by simpa [gE hlt] using c5
     have hn := seen_next hlt hgo
     rw [if_neg (fun h => c5 h.2)] at hn
     refine sw_skip (xr hP 7 rfl (⟨(i + 1, s), ?_, ?_, ent_ok rfl ?_⟩))
     ·exact ⟨hlt, hn⟩
     ·show l.length - (i + 1) < l.length - i
      omega
     ·simp [conj, gE hlt]
   ·replace g5_3 : ¬ l[i].1 = false := by simpa [gE hlt] using g5_3
    have hn := seen_next hlt hgo
    rw [if_neg (fun h => g5_3 h.1)] at hn
    refine xg hP 6 [(3, false)] rfl ?_ ?_
    ·simp [conj, gE hlt]
     try assumption
     try (simpa using g5_3)
    refine sw_condF rfl (sw_skip (xr hP 7 rfl (⟨(i + 1, s), ?_, ?_, ent_ok rfl ?_⟩)))
    ·exact ⟨hlt, hn⟩
    ·show l.length - (i + 1) < l.length - i
     omega
    ·simp [conj, gE hlt]
  ·obtain rfl : i = l.length := by simp at c3; omega
   refine sw_exit (sw_seq (xr hP 5 rfl (sw_ret ⟨.inl rfl, _, rfl, ?_⟩)))
   have hv := seen_end hgo
   subst hv
   simp [conj]
def cClCrash (st : Int) (t : Drv) (l : List Put) (keep : Int) (d c : Id) : Xctr := ⟨123, [(d, ⟨0, 0, 0⟩, .var (drv st t (.chp ⟨0, 0, 1⟩ 0))), (c, ⟨0, 0, 1⟩, .ch true T_Put l)], [], [.v false [.ptr ⟨0, 0, 0⟩ 0], .v false [.rpt .b TI pF keep]],
  (.v false [.kb true], [(⟨0, 0, 0⟩, .var (drv st (comes (keepB keep.toNat l) t) (.chp ⟨1, 0, 0⟩ 0))), (⟨1, 0, 0⟩, .ch true T_Put [])])⟩
theorem cClCrash_ok {st : Int} {t : Drv} {l : List Put} {keep : Int} {d c : Id} (hw : l.any badP = false) (hl : l.length ≤ 40) (h0 : 0 ≤ keep) (h1 : keep ≤ 9223372036854775807) : XOk Proofs.Tryz.prog (cClCrash st t l keep d c) := by
 have hP := ((Prg.none ttok mtok).andX (cCrash_ok (st := st) (t := t) (d := ⟨0, 0, 0⟩) (c := ⟨0, 0, 1⟩) hw hl h0 h1))
 refine xctr_of_body hP (cClCrash st t l keep d c) (fn := Proofs.Tryz.f123) (rts := [.tmp 3]) Proofs.Tryz.func123 rfl (by kernel_rfl) rfl rfl ?_
 refine ⟨rfl, ?_⟩
 refine sw_seq (xr hP 1 rfl (sw_seq (sw_seq (xr hP 2 rfl (sw_cond rfl (fun c1 => ?_) (fun c1 => ?_))))))
 ·have h : keep < 0 := of_decide_eq_true c1
  omega
 ·refine sw_skip (sw_seq (xg hP 3 [] rfl ?_ ?_))
  ·simp only [conj, List.nil_append, List.cons_append, List.append_nil, List.append_assoc, inR_i64, true_and, and_true, Int.toNat_natCast]
   try dsimp only [Ty.den, Ty.dflt]
   repeat' apply And.intro
   all_goals first | rfl | omega | assumption | trivial
  refine sw_seq (xr hP 4 rfl (sw_ret ⟨.inl rfl, _, rfl, ?_⟩))
  simp [conj]
def cClCrashN (st : Int) (t : Drv) (l : List Put) (keep : Int) (d c : Id) : Xctr := ⟨123, [(d, ⟨0, 0, 0⟩, .var (drv st t (.chp ⟨0, 0, 1⟩ 0))), (c, ⟨0, 0, 1⟩, .ch true T_Put l)], [], [.v false [.ptr ⟨0, 0, 0⟩ 0], .v false [.rpt .b TI pF keep]],
  (.v false [.kb false], [(⟨0, 0, 0⟩, .var (drv st t (.chp ⟨1, 0, 0⟩ 0))), (⟨1, 0, 0⟩, .ch true T_Put l)])⟩
theorem cClCrashN_ok {st : Int} {t : Drv} {l : List Put} {keep : Int} {d c : Id} (hn : ¬ 0 ≤ keep) : XOk Proofs.Tryz.prog (cClCrashN st t l keep d c) := by
 have hP := (Prg.none ttok mtok)
 refine xctr_of_body hP (cClCrashN st t l keep d c) (fn := Proofs.Tryz.f123) (rts := [.tmp 3]) Proofs.Tryz.func123 rfl (by kernel_rfl) rfl rfl ?_
 refine ⟨rfl, ?_⟩
 refine sw_seq (xr hP 1 rfl (sw_seq (sw_seq (xr hP 2 rfl (sw_cond rfl (fun c1 => ?_) (fun c1 => ?_))))))
 ·refine sw_seq (xr hP 3 rfl (sw_ret ⟨.inl rfl, _, rfl, ?_⟩))
  simp [conj]
 ·have h : ¬ keep < 0 := of_decide_eq_false c1
  omega
def cClPut (st : Int) (t : Drv) (l : List Put) (p : Put) (d c : Id) : Xctr := ⟨140, [(d, ⟨0, 0, 0⟩, .var (drv st t (.chp ⟨0, 0, 1⟩ 0))), (c, ⟨0, 0, 1⟩, .ch true T_Put l)], [], [.v false [.ptr ⟨0, 0, 0⟩ 0], .v false [.rpt .b T_Put pF p]],
  (.v false [.kb true], [(⟨0, 0, 0⟩, .var (drv st (putU st l t) (.chp ⟨1, 0, 0⟩ 0))), (⟨1, 0, 0⟩, .ch true T_Put (putM st l p))])⟩
theorem cClPut_ok {st : Int} {t : Drv} {l : List Put} {p : Put} {d c : Id} (hw : l.any badP = false) (hl : l.length ≤ 40) (hp : putV p = true) : XOk Proofs.Tryz.prog (cClPut st t l p d c) := by
 have hP := ((Prg.none ttok mtok).and cPutOk_ok)
 refine xctr_of_body hP (cClPut st t l p d c) (fn := Proofs.Tryz.f140) (rts := [.tmp 3]) Proofs.Tryz.func140 rfl (by kernel_rfl) rfl rfl ?_
 refine ⟨rfl, ?_⟩
 by_cases hs : st = 1
 ·replace hP := hP.andX (cPutG_ok (st := st) (t := t) (p := p) (d := ⟨0, 0, 0⟩) (c := ⟨0, 0, 1⟩) hw hl hs)
  refine sw_seq (xr hP 1 rfl (sw_seq (sw_seq (xg hP 2 [] rfl ?_ ?_))))
  ·simp [conj, maxL]
   try dsimp only [Ty.den, Ty.dflt]
   try simp only [rd_eta]
   repeat' apply And.intro
   all_goals first | rfl | assumption | omega | trivial
  refine sw_cond rfl (fun c1 => ?_) (fun c1 => ?_)
  ·have h : (!putV p) = true := c1
   rw [hp] at h
   cases h
  ·refine sw_skip (sw_seq (xg hP 3 [] rfl ?_ ?_))
   ·simp only [conj, List.nil_append, List.cons_append, List.append_nil, List.append_assoc, inR_i64, true_and, and_true, Int.toNat_natCast]
    try dsimp only [Ty.den, Ty.dflt]
    repeat' apply And.intro
    all_goals first | rfl | omega | assumption | trivial
   refine sw_seq (xr hP 4 rfl (sw_ret ⟨.inl rfl, _, rfl, ?_⟩))
   simp [conj, putU_gone hs, putM_gone hs]
 ·replace hP := hP.andX (cPut_ok (st := st) (t := t) (p := p) (d := ⟨0, 0, 0⟩) (c := ⟨0, 0, 1⟩) hw hl hs)
  refine sw_seq (xr hP 1 rfl (sw_seq (sw_seq (xg hP 2 [] rfl ?_ ?_))))
  ·simp [conj, maxL]
   try dsimp only [Ty.den, Ty.dflt]
   try simp only [rd_eta]
   repeat' apply And.intro
   all_goals first | rfl | assumption | omega | trivial
  refine sw_cond rfl (fun c1 => ?_) (fun c1 => ?_)
  ·have h : (!putV p) = true := c1
   rw [hp] at h
   cases h
  ·refine sw_skip (sw_seq (xg hP 3 [] rfl ?_ ?_))
   ·simp only [conj, List.nil_append, List.cons_append, List.append_nil, List.append_assoc, inR_i64, true_and, and_true, Int.toNat_natCast]
    try dsimp only [Ty.den, Ty.dflt]
    repeat' apply And.intro
    all_goals first | rfl | omega | assumption | trivial
   refine sw_seq (xr hP 4 rfl (sw_ret ⟨.inl rfl, _, rfl, ?_⟩))
   simp [conj, putU_live hs, putM_live hs]
def cClPutN (st : Int) (t : Drv) (l : List Put) (p : Put) (d c : Id) : Xctr := ⟨140, [(d, ⟨0, 0, 0⟩, .var (drv st t (.chp ⟨0, 0, 1⟩ 0))), (c, ⟨0, 0, 1⟩, .ch true T_Put l)], [], [.v false [.ptr ⟨0, 0, 0⟩ 0], .v false [.rpt .b T_Put pF p]],
  (.v false [.kb false], [(⟨0, 0, 0⟩, .var (drv st t (.chp ⟨1, 0, 0⟩ 0))), (⟨1, 0, 0⟩, .ch true T_Put l)])⟩
theorem cClPutN_ok {st : Int} {t : Drv} {l : List Put} {p : Put} {d c : Id} (hn : ¬ putV p = true) : XOk Proofs.Tryz.prog (cClPutN st t l p d c) := by
 have hP := ((Prg.none ttok mtok).and cPutOk_ok)
 refine xctr_of_body hP (cClPutN st t l p d c) (fn := Proofs.Tryz.f140) (rts := [.tmp 3]) Proofs.Tryz.func140 rfl (by kernel_rfl) rfl rfl ?_
 refine ⟨rfl, ?_⟩
 refine sw_seq (xr hP 1 rfl (sw_seq (sw_seq (xg hP 2 [] rfl ?_ ?_))))
 ·simp [conj, maxL]
  try dsimp only [Ty.den, Ty.dflt]
  try simp only [rd_eta]
  repeat' apply And.intro
  all_goals first | rfl | assumption | omega | trivial
 refine sw_cond rfl (fun c1 => ?_) (fun c1 => ?_)
 ·refine sw_seq (xr hP 3 rfl (sw_ret ⟨.inl rfl, _, rfl, ?_⟩))
  simp [conj]
 ·have h : (!putV p) = false := c1
  exact (hn (by simpa using h)).elim
end Go.Sx
