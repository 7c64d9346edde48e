/- What the laws claim of disks: plain law. -/
import Derived.Test.YtbnmeeajooljmaaMPs
set_option linter.all false
namespace Go.Sx
open Go
theorem loopG_rd : ∀ {k : Nat} {d : Dsk} {r : Rd} {m : Int}, ROk r (30 * k + m) → 0 ≤ m → ROk (loopG k d r).2 m := by
  intro k
  induction k with
  | zero => intro d r m h _; exact h.le (by omega)
  | succ k ih => intro d r m h h0; exact ih (stR_ok h (by omega) (by omega)) h0
theorem fillG_rd : ∀ {k : Nat} {l : List Put} {r : Rd} {m : Int}, ROk r (21 * k + 1 + m) → 0 ≤ m → ROk (fillG k l r).2 m := by
  intro k
  induction k with
  | zero => intro l r m h _; exact h.le (by omega)
  | succ k ih =>
    intro l r m h h0
    simp only [fillG]
    split
    · exact ih (putQ_ok (h.nx (m' := 21 * k + 21 + m) (by omega)) (by omega) (by omega)) h0
    · exact h.nx (by omega)
theorem harmG_rd {d : Dsk} {r : Rd} {m : Int} (h : ROk r (1100 + m)) (h0 : 0 ≤ m) : ROk (harmG d r).2 m := by
  have h1 : ROk (nx r) (1099 + m) := h.nx (by omega)
  have h2 : ROk (nx (nx r)) (1098 + m) := h1.nx (by omega)
  unfold harmG
  split
  · exact h2.le (by omega)
  · split
    · exact h2.le (by omega)
    · split
      · exact h2.le (by omega)
      · split
        · exact h1.le (by omega)
        · split
          · exact fillG_rd (h1.le (by omega)) h0
          · split
            · exact h1.le (by omega)
            · exact h1.le (by omega)
theorem drawR_rd {r : Rd} (h : ROk r 3000) : ROk (drawR r) 100 := by
  have h1 : ROk (nx r) 2999 := h.nx (by omega)
  have h2 : ROk (nx (nx r)) 2998 := h1.nx (by omega)
  have hb := pk_bd h1 (by omega) (n := 12) (by omega)
  unfold drawR
  exact harmG_rd (loopG_rd (h2.le (by omega)) (by omega)) (by omega)
def rd0 (code : List Int) : Rd := (code.take 2000, 0)
theorem rd0_ok {code : List Int} (h : Ok (.sl (.int .u8)) code) : ROk (rd0 code) 3000 := by
  refine ⟨fun v hv => ?_, ?_, Int.le_refl _, ?_⟩
  · have := h.2 v (List.mem_of_mem_take hv)
    have : inR .u8 v := this
    rwa [inR_u8] at this
  · simp only [rd0, List.length_take]; omega
  · show (0 : Int) + 3000 ≤ _; omega
def keepG (r : Rd) : Int := pk r 256 * (1 + pk (nx r) 3) - (pk (nx (nx r)) 16).tdiv 15 * 300
def ltG (p : Put) (r : Rd) : Put := if pk r 20 = 0 then (p.1, p.2.1, p.2.2 ++ aT) else if pk r 20 = 1 then (p.1, List.getD [(-1 : Int), 12] (pk (nx r) 2).toNat 0, p.2.2) else p
/-! what stays -/
theorem slots_set {ts : List Str} {bs : List Bool} {x : Str} (hx : x.length = 3) : ∀ {i : Nat}, slotsB ts bs = false → slotsB (ts.set i x) (bs.set i false) = false := by
  induction ts generalizing bs with
  | nil => intro i h; cases i <;> simp [slotsB]
  | cons t r ih =>
    intro i h
    cases bs with
    | nil => cases i <;> simp [slotsB]
    | cons b bs =>
      simp only [slotsB, Bool.or_eq_false_iff] at h
      cases i with
      | zero =>
        simp only [List.set_cons_zero, slotsB, Bool.or_eq_false_iff]
        exact ⟨slotB_ok (by intro e; rw [e] at hx; cases hx) hx, h.2⟩
      | succ i =>
        simp only [List.set_cons_succ, slotsB, Bool.or_eq_false_iff]
        exact ⟨h.1, ih h.2⟩
theorem any_set {p : Str → Bool} {l : List Str} {i : Nat} {x : Str} (h : l.any p = false) (hx : p x = false) : (l.set i x).any p = false := by
  rw [List.any_eq_false] at h ⊢
  intro y hy
  rcases List.mem_or_eq_of_mem_set hy with hy | rfl
  · exact h y hy
  · simp [hx]
theorem come_rd {p : Put} {t : Drv} (hp : putV p = true) (h1 : slotsB t.1 t.2.2 = false) (h2 : t.2.1.any longR = false) : slotsB (come p t).1 (come p t).2.2 = false ∧ (come p t).2.1.any longR = false := by
  unfold come
  split
  · rename_i hr
    have := putV_ring hp hr
    exact ⟨h1, any_set h2 (by simp [longR]; omega)⟩
  · rename_i hr
    have := putV_slot hp (by simpa using hr)
    exact ⟨slots_set this.2.2 h1, h2⟩
theorem comes_rd {l : List Put} : ∀ {t : Drv}, l.any badP = false → slotsB t.1 t.2.2 = false → t.2.1.any longR = false → slotsB (comes l t).1 (comes l t).2.2 = false ∧ (comes l t).2.1.any longR = false := by
  induction l with
  | nil => intro t _ h1 h2; exact ⟨h1, h2⟩
  | cons p r ih =>
    intro t hw h1 h2
    simp only [List.any_cons, Bool.or_eq_false_iff, badP, Bool.not_eq_false'] at hw
    have := come_rd hw.1 h1 h2
    exact ih hw.2 this.1 this.2
theorem keepB_sub {l : List Put} : ∀ {n : Nat} {p : Put}, p ∈ keepB n l → p ∈ l := by
  induction l with
  | nil => intro n p h; cases h
  | cons a r ih =>
    intro n p h
    simp only [keepB] at h
    split at h
    · rcases List.mem_cons.1 h with rfl | h
      · exact List.mem_cons_self
      · exact List.mem_cons_of_mem _ (ih h)
    · exact List.mem_cons_of_mem _ (ih h)
theorem keepB_bad {l : List Put} {n : Nat} (h : l.any badP = false) : (keepB n l).any badP = false := by
  rw [List.any_eq_false] at h ⊢
  exact fun p hp => h p (keepB_sub hp)
theorem keepB_zero {l : List Put} : keepB 0 l = [] := by
  induction l with
  | nil => rfl
  | cons a r ih => simp [keepB, ih]
theorem keepB_all {l : List Put} : ∀ {k : Nat}, l.length ≤ k → keepB (2 ^ k - 1) l = l := by
  induction l with
  | nil => intro k _; rfl
  | cons a r ih =>
    intro k h
    obtain ⟨j, rfl⟩ : ∃ j, k = j + 1 := ⟨k - 1, by simp at h; omega⟩
    have hp : 0 < 2 ^ j := Nat.two_pow_pos j
    have h1 : (2 ^ (j + 1) - 1) % 2 = 1 := by rw [Nat.pow_succ]; omega
    have h2 : (2 ^ (j + 1) - 1) / 2 = 2 ^ j - 1 := by rw [Nat.pow_succ]; omega
    simp only [keepB, h1, if_true, h2]
    rw [ih (by simpa using h)]
/-- drive t with writes l waiting, of a disk that is fine -/
structure LvOk (st : Int) (t : Drv) (l : List Put) : Prop where
  ok : t.ok
  slots : slotsB t.1 t.2.2 = false
  rings : t.2.1.any longR = false
  wait : l.any badP = false
  len : l.length ≤ 40
  sta : stV st = true
  gone : st = 1 → t.1 = List.replicate 12 [] ∧ t.2.1 = List.replicate 2 [] ∧ l = []
theorem lv_of {d : Dsk} (h : rdV d = true) : LvOk d.1 (drvOf d) d.2.2.2.2 := by
  obtain ⟨a, b, c, e, f⟩ := rd_parts h
  obtain ⟨s1, s2, s3, s4, s5⟩ := shaped_iff a
  refine ⟨⟨s2, s3, s4⟩, c, e, b, s5, s1, fun hs => ?_⟩
  obtain ⟨g1, g2, g3⟩ := gone_no f hs
  exact ⟨g1, g2, List.eq_nil_of_length_eq_zero g3⟩
theorem rd_of {st : Int} {t : Drv} {l : List Put} (h : LvOk st t l) : rdV (dskOf st t l) = true := by
  obtain ⟨h1, h2, h3⟩ := h.ok
  refine rd_mk ?_ h.wait h.slots h.rings ?_
  · simp only [shapedV, dskOf, h.sta, h1, h2, h3, h.len, decide_true, Bool.and_self]
  · by_cases hs : st = 1
    · obtain ⟨g1, g2, g3⟩ := h.gone hs
      exact gone_yes g1 g2 (by show l.length = 0; rw [g3]; rfl)
    · exact gone_live hs
theorem LvOk.come {st : Int} {t : Drv} {l m : List Put} (h : LvOk st t l) (hm : m.any badP = false) (hg : st = 1 → m = []) : LvOk st (comes m t) [] := by
  have hr := comes_rd hm h.slots h.rings
  refine ⟨comes_ok h.ok, hr.1, hr.2, rfl, Nat.zero_le _, h.sta, fun hs => ?_⟩
  rw [hg hs]
  exact ⟨(h.gone hs).1, (h.gone hs).2.1, rfl⟩
theorem LvOk.put {st : Int} {t : Drv} {l : List Put} {p : Put} (h : LvOk st t l) (hp : putV p = true) : LvOk st (putU st l t) (putM st l p) := by
  by_cases hs : st = 1
  · rw [putU_gone hs, putM_gone hs]; exact h
  · have hb : badP p = false := by simp [badP, hp]
    rw [putU_live hs, putM_live hs]
    by_cases hf : l.length = 40
    · rw [putT_full hf, putW_full hf]
      have := h.come h.wait (fun e => absurd e hs)
      exact ⟨this.ok, this.slots, this.rings, by simp [hb], by simp, h.sta, fun e => absurd e hs⟩
    · rw [putT_room hf, putW_room hf]
      have := h.len
      exact ⟨h.ok, h.slots, h.rings, by rw [List.any_append, h.wait]; simp [hb], by simp; omega, h.sta, fun e => absurd e hs⟩
/-! FnDiskCrash -/
theorem crash_len {d : Dsk} {k : Int} (h : ¬ (crashV d k).2.1.length = 0) : rdV d = true ∧ 0 ≤ k := by
  unfold crashV at h
  split at h
  · assumption
  · exact absurd rfl h
theorem crash_rd {d : Dsk} {k : Int} (h : rdV d = true) (h0 : 0 ≤ k) : rdV (crashV d k) = true ∧ (crashV d k).2.2.2.2 = [] ∧ (crashV d k).2.1.length = 12 := by
  rw [crashV_ok h h0]
  have hl := lv_of h
  have := hl.come (keepB_bad (n := k.toNat) hl.wait) (fun hs => by rw [(hl.gone hs).2.2]; rfl)
  exact ⟨rd_of this, rfl, this.ok.1⟩
theorem crash_zero {d : Dsk} (h : rdV d = true) : (crashV d 0).2.1 = d.2.1 ∧ (crashV d 0).2.2.1 = d.2.2.1 := by
  rw [crashV_ok h (by decide)]
  show (comes (keepB 0 d.2.2.2.2) (drvOf d)).1 = _ ∧ (comes (keepB 0 d.2.2.2.2) (drvOf d)).2.1 = _
  rw [keepB_zero]
  exact ⟨rfl, rfl⟩
theorem crash_all {d : Dsk} (h : rdV d = true) : crashV d 9223372036854775807 = flushV d := by
  rw [crashV_ok h (by decide), flushV_ok h]
  have hl := (lv_of h).len
  have e : ((9223372036854775807 : Int).toNat) = 2 ^ 63 - 1 := by decide
  rw [e, keepB_all (k := 63) (by omega)]
/-- the wait has the slot's text -/
def hasP (a : Nat) (s : Str) (p : Put) : Bool := !p.1 && decide (p.2.1 = (a : Int)) && decide (p.2.2 = s)
theorem come_slot_at {p : Put} {t : Drv} {a : Nat} (hp : putV p = true) : (come p t).1.getD a [] = t.1.getD a [] ∨ hasP a ((come p t).1.getD a []) p = true := by
  unfold come
  split
  · exact .inl rfl
  · rename_i hr
    have h1 := putV_slot hp (by simpa using hr)
    have hr' : p.1 = false := by simpa using hr
    by_cases ha : p.2.1.toNat = a
    · by_cases hl : a < t.1.length
      · right
        have hg : (t.1.set p.2.1.toNat p.2.2).getD a [] = p.2.2 := by rw [ha, List.getD_eq_getElem?_getD, List.getElem?_set_self hl]; rfl
        show hasP a ((t.1.set p.2.1.toNat p.2.2).getD a []) p = true
        rw [hg]
        simp only [hasP, hr', Bool.not_false, Bool.true_and, Bool.and_eq_true, decide_eq_true_eq, and_true]
        omega
      · left
        show (t.1.set p.2.1.toNat p.2.2).getD a [] = _
        rw [List.getD_eq_getElem?_getD, List.getD_eq_getElem?_getD, List.getElem?_eq_none (by rw [List.length_set]; omega), List.getElem?_eq_none (by omega)]
    · left
      show (t.1.set p.2.1.toNat p.2.2).getD a [] = _
      rw [List.getD_eq_getElem?_getD, List.getD_eq_getElem?_getD, List.getElem?_set_ne ha]
theorem comes_slot_at {l : List Put} {a : Nat} : ∀ {t : Drv}, l.any badP = false → (comes l t).1.getD a [] = t.1.getD a [] ∨ l.any (hasP a ((comes l t).1.getD a [])) = true := by
  induction l with
  | nil => intro t _; exact .inl rfl
  | cons p r ih =>
    intro t hw
    simp only [List.any_cons, Bool.or_eq_false_iff, badP, Bool.not_eq_false'] at hw
    show (comes r (come p t)).1.getD a [] = _ ∨ _
    rcases ih (t := come p t) hw.2 with h | h
    · rcases come_slot_at (t := t) (a := a) hw.1 with h2 | h2
      · exact .inl (h.trans h2)
      · right
        simp only [List.any_cons, Bool.or_eq_true]
        left
        show hasP a ((comes r (come p t)).1.getD a []) p = true
        rw [h]; exact h2
    · right
      simp only [List.any_cons, Bool.or_eq_true]
      exact .inr h
theorem crash_slot {d : Dsk} {k : Int} (h : rdV d = true) (h0 : 0 ≤ k) (a : Nat) : (decide ((crashV d k).2.1.getD a [] = d.2.1.getD a []) || d.2.2.2.2.any (hasP a ((crashV d k).2.1.getD a []))) = true := by
  rw [crashV_ok h h0]
  have hl := lv_of h
  rcases comes_slot_at (a := a) (t := drvOf d) (keepB_bad (n := k.toNat) hl.wait) with h1 | h1
  · rw [Bool.or_eq_true]; left; exact decide_eq_true h1
  · rw [Bool.or_eq_true]; right
    obtain ⟨p, hp, hq⟩ := List.any_eq_true.1 h1
    exact List.any_eq_true.2 ⟨p, keepB_sub hp, hq⟩
theorem take_any {p : Put → Bool} {l : List Put} {i : Nat} (h : i < l.length) : (l.take (i + 1)).any p = ((l.take i).any p || p l[i]) := by
  rw [← List.take_append_getElem h, List.any_append]; simp
theorem found_next {a : Bool} {p : Put → Bool} {l : List Put} {j : Nat} (h : j < l.length) : (a || (l.take (j + 1)).any p) = ((a || (l.take j).any p) || p l[j]) := by rw [take_any h, Bool.or_assoc]
end Go.Sx
