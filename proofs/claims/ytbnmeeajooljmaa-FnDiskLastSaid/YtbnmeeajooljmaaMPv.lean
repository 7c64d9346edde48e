/- What the law of the last write claims: plain law. -/
import Derived.Test.YtbnmeeajooljmaaMPt
set_option linter.all false
namespace Go.Sx
open Go
theorem put_lv {d : Dsk} {p : Put} (h : rdV d = true) (hp : putV p = true) : putD d p = dskOf d.1 (putU d.1 d.2.2.2.2 (drvOf d)) (putM d.1 d.2.2.2.2 p) ∧ LvOk d.1 (putU d.1 d.2.2.2.2 (drvOf d)) (putM d.1 d.2.2.2.2 p) := ⟨putD_ok h hp, (lv_of h).put hp⟩
theorem putV_len {p : Put} (h : putV p = true) : p.2.2.length ≤ 700 := by
  cases hr : p.1 with
  | true => exact (putV_ring h hr).2.2
  | false => have := (putV_slot h hr).2.2; omega
theorem putM_last {l : List Put} {p : Put} : ∃ m, putW l p = m ++ [p] := by
  unfold putW
  split
  · exact ⟨[], rfl⟩
  · exact ⟨l, rfl⟩
theorem comes_app {l m : List Put} {t : Drv} : comes (l ++ m) t = comes m (comes l t) := by simp [comes]
theorem come_get {p : Put} {t : Drv} (hp : putV p = true) (hr : p.1 = false) (ht : t.ok) : (come p t).1.getD p.2.1.toNat [] = p.2.2 := by
  obtain ⟨a, b, _⟩ := putV_slot hp hr
  rw [come_slot hr]
  show (t.1.set p.2.1.toNat p.2.2).getD p.2.1.toNat [] = _
  rw [List.getD_eq_getElem?_getD, List.getElem?_set_self (by rw [ht.1]; omega)]
  rfl
theorem read_dsk {st : Int} {t : Drv} {l : List Put} {a : Int} (h : LvOk st t l) (h0 : 0 ≤ a) (h1 : a < 12) : readV (dskOf st t l) a = seenV t l a := readV_ok (rd_of h) ⟨h0, h1⟩
theorem last_facts {d : Dsk} {p : Put} (hrd : rdV d = true) (hp : putV p = true) (hr : p.1 = false) (hs : ¬ d.1 = 1) :
    readV (putD (putD (flushV (putD d p)) (false, p.2.1, abcT)) (false, p.2.1, xyzT)) p.2.1 = xyzT ∧
    readV (flushV (putD (putD (flushV (putD d p)) (false, p.2.1, abcT)) (false, p.2.1, xyzT))) p.2.1 = xyzT ∧
    readV (crashV (putD (putD (flushV (putD d p)) (false, p.2.1, abcT)) (false, p.2.1, xyzT)) 1) p.2.1 = abcT ∧
    readV (crashV (putD (putD (flushV (putD d p)) (false, p.2.1, abcT)) (false, p.2.1, xyzT)) 0) p.2.1 = p.2.2 ∧
    readV (crashV (putD (putD (flushV (putD d p)) (false, p.2.1, abcT)) (false, p.2.1, xyzT)) 2) p.2.1 = xyzT := by
  obtain ⟨a0, a1, a2⟩ := putV_slot hp hr
  obtain ⟨e1, l1⟩ := put_lv hrd hp
  rw [putU_live hs, putM_live hs] at e1 l1
  obtain ⟨m, hm⟩ := putM_last (l := d.2.2.2.2) (p := p)
  rw [hm] at e1 l1
  generalize hT : putT d.2.2.2.2 (drvOf d) = T at e1 l1
  have e2 : flushV (putD d p) = dskOf d.1 (comes (m ++ [p]) T) [] := by rw [e1, flushV_ok (rd_of l1)]; rfl
  have l2 : LvOk d.1 (comes (m ++ [p]) T) [] := l1.come l1.wait (fun h => absurd h hs)
  have hmw : m.any badP = false := by have := l1.wait; rw [List.any_append, Bool.or_eq_false_iff] at this; exact this.1
  have g2 : (comes (m ++ [p]) T).1.getD p.2.1.toNat [] = p.2.2 := by
    rw [comes_app]
    exact come_get hp hr (comes_ok l1.ok)
  generalize comes (m ++ [p]) T = U at e2 l2 g2
  have hq1 : putV (false, p.2.1, abcT) = true := by simp only [putV, Bool.false_eq_true, if_false]; exact decide_eq_true ⟨a0, a1, rfl⟩
  have hq2 : putV (false, p.2.1, xyzT) = true := by simp only [putV, Bool.false_eq_true, if_false]; exact decide_eq_true ⟨a0, a1, rfl⟩
  have e3 : putD (dskOf d.1 U []) (false, p.2.1, abcT) = dskOf d.1 U [(false, p.2.1, abcT)] := by
    obtain ⟨e, _⟩ := put_lv (rd_of l2) hq1
    rw [e]
    show dskOf d.1 (putU d.1 [] U) (putM d.1 [] (false, p.2.1, abcT)) = _
    rw [putU_live hs, putM_live hs, putT_room (by simp), putW_room (by simp)]; rfl
  have l3 : LvOk d.1 U [(false, p.2.1, abcT)] := by
    have := l2.put hq1
    rw [putU_live hs, putM_live hs, putT_room (by simp), putW_room (by simp)] at this
    exact this
  have e4 : putD (dskOf d.1 U [(false, p.2.1, abcT)]) (false, p.2.1, xyzT) = dskOf d.1 U [(false, p.2.1, abcT), (false, p.2.1, xyzT)] := by
    obtain ⟨e, _⟩ := put_lv (rd_of l3) hq2
    rw [e]
    show dskOf d.1 (putU d.1 [(false, p.2.1, abcT)] U) (putM d.1 [(false, p.2.1, abcT)] (false, p.2.1, xyzT)) = _
    rw [putU_live hs, putM_live hs, putT_room (by simp), putW_room (by simp)]; rfl
  have l4 : LvOk d.1 U [(false, p.2.1, abcT), (false, p.2.1, xyzT)] := by
    have := l3.put hq2
    rw [putU_live hs, putM_live hs, putT_room (by simp), putW_room (by simp)] at this
    exact this
  rw [e2, e3, e4]
  have cr : ∀ {k : Int} {l : List Put}, 0 ≤ k → keepB k.toNat [(false, p.2.1, abcT), (false, p.2.1, xyzT)] = l → l.any badP = false → readV (crashV (dskOf d.1 U [(false, p.2.1, abcT), (false, p.2.1, xyzT)]) k) p.2.1 = (comes l U).1.getD p.2.1.toNat [] := by
    intro k l hk hl hb
    rw [crashV_ok (rd_of l4) hk]
    show readV (dskOf d.1 (comes (keepB k.toNat [(false, p.2.1, abcT), (false, p.2.1, xyzT)]) U) []) p.2.1 = _
    rw [hl, read_dsk (l2.come hb (fun h => absurd h hs)) a0 a1]
    rfl
  have b1 : badP (false, p.2.1, abcT) = false := by simp [badP, hq1]
  have b2 : badP (false, p.2.1, xyzT) = false := by simp [badP, hq2]
  refine ⟨?_, ?_, ?_, ?_, ?_⟩
  · rw [read_dsk l4 a0 a1]
    simp [seenV, seenGo]
  · rw [flushV_ok (rd_of l4)]
    show readV (dskOf d.1 (comes [(false, p.2.1, abcT), (false, p.2.1, xyzT)] U) []) p.2.1 = _
    rw [read_dsk (l2.come l4.wait (fun h => absurd h hs)) a0 a1]
    exact come_get (p := (false, p.2.1, xyzT)) hq2 rfl (come_ok l2.ok)
  · rw [cr (l := [(false, p.2.1, abcT)]) (by decide) (by simp [keepB]) (by simp [b1])]
    exact come_get (p := (false, p.2.1, abcT)) hq1 rfl l2.ok
  · rw [cr (l := []) (by decide) (by simp [keepB]) rfl]
    exact g2
  · rw [cr (l := [(false, p.2.1, xyzT)]) (by decide) (by simp [keepB]) (by simp [b2])]
    exact come_get (p := (false, p.2.1, xyzT)) hq2 rfl l2.ok
theorem put_len {d : Dsk} {p : Put} (h : ¬ (putD d p).2.1.length = 0) : rdV d = true ∧ putV p = true := by
  unfold putD at h
  split at h
  · assumption
  · exact absurd rfl h
theorem c02 {n : Nat} : (((n : Int).tmod 4).tdiv 2) * 2 = 0 ∨ (((n : Int).tmod 4).tdiv 2) * 2 = 2 := by
  have h1 : (n : Int).tmod 4 = ((n % 4 : Nat) : Int) := rfl
  rw [h1]
  have h2 : ((n % 4 : Nat) : Int).tdiv 2 = ((n % 4 / 2 : Nat) : Int) := rfl
  rw [h2]
  omega
end Go.Sx
