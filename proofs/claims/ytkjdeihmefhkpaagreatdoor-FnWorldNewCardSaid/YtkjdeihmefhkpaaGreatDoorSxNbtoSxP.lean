/- Several texts, one behind the other. -/
import Derived.Test.YtkjdeihmefhkpaaGreatDoorSxKtoSxNa
import Derived.ChangeKeysEq
import Derived.Laws.Pointers
import Derived.WideKeyRuns
import Derived.WideLaws
import Derived.Orders
set_option linter.all false
namespace Go.Sx
open Go Go.RowKit
section
variable {P : Program} {tt : TT} (T : TtOk P tt) {old : Id → Prop} {G : Gh} {w : World} {lk : Id → Option Res} (hb : ∀ b, G.g b ≠ .no → b < w.heap.size) (h1 : RhoOk G)
include T in
theorem arT_spec {t : TypeId} {n : Nat} {e : Ty} {el : TypeId} (h : arT tt t = some (n, e, el)) : P.underlying t = some (.array n el) ∧ e.size ≠ 0 ∧ ∃ te, ttOf tt el = some te ∧ te.T = e := by
 unfold arT at h
 split at h
 ·rename_i t' n' e' el' by' hte
  obtain ⟨d, hd, hi⟩ := und_at T hte
  obtain ⟨_, _, c⟩ := T.at hte
  split at h
  ·rename_i t2 T2 a2 n2 el2 by2 f2 hel
   simp only [Option.some.injEq, Prod.mk.injEq] at h
   obtain ⟨rfl, rfl, rfl⟩ := h
   have c' : elChk tt el' e' = true := c
   obtain ⟨te3, h3, h4, h5⟩ := elChk_spec c'
   rw [hel] at h3
   cases h3
   simp only at h4
   subst h4
   refine ⟨?_, h5, _, hel, rfl⟩
   cases d <;> simp [dinfo, TE.di] at hi
   rw [hd, hi.1, hi.2]
  ·cases h
 ·cases h
theorem arr_at {e : Ty} {F : Fl} {C : Array Value} {off n i : Nat} {y : List e.den} (hsz : off + n * e.size ≤ C.size) (m : MtL G w [.d (.arr n e) F y] ((C.toList.drop off).take (n * e.size))) (hi : i < n) :
  off + i * e.size + e.size ≤ C.size ∧ Tr G w e pF default [] (cellsAt C (off + i * e.size) e.size) (List.getD y i e.dflt) := by
 obtain ⟨_, k3, k4, k5⟩ := m.one_inv
 have hmul : (i + 1) * e.size ≤ n * e.size := Nat.mul_le_mul_right _ hi
 rw [Nat.add_mul, Nat.one_mul] at hmul
 have hiy : i < List.length y := by rw [k4]; exact hi
 have := k5 i (List.getD y i e.dflt) (by rw [List.getD, List.getElem?_eq_getElem hiy]; rfl)
 rw [show ((C.toList.drop off).take (n * e.size)) = cellsAt C off (n * e.size) from rfl, ← cellsAt_sub C off (n * e.size) (by omega)] at this
 exact ⟨by omega, this⟩
theorem lnk_at {id0 id : Id} {e : Ty} {l : List e.den} {cs : List At} {off i : Nat} {ps : List Value} (hps : psOf (G.ρ id) = some ps) {o : Bool} (hch : ResOk G w id (.ch o e l)) (hvar : ResOk G w id0 (.var cs)) (htk : takeA cs off 1 = some [.chp id 0]) (hi : i ≤ l.length) {v : Value}
  (m : (i = 0 ∧ ∃ b, G.ρ id0 = .pointer (some ⟨b, 0, none⟩) ∧ v = .pointer (some ⟨b, off, none⟩)) ∨ ∃ k b, i = k + 1 ∧ ps[k]? = some (.pointer (some ⟨b, 0, none⟩)) ∧ v = .pointer (some ⟨b, e.size, none⟩)) :
  ∃ nx b q C t, v = .pointer (some ⟨b, q, none⟩) ∧ w.heap[b]? = some (.cells C t (0, 0)) ∧ q + 1 ≤ C.size ∧ cellsAt C q 1 = [.pointer nx] ∧ ps[i]? = some (.pointer nx) ∧
   ((i = 0 ∧ G.g b = .own id0 [] ∧ q = off ∧ G.ρ id0 = .pointer (some ⟨b, 0, none⟩)) ∨ ∃ k, i = k + 1 ∧ labC G o id k b ∧ q = e.size ∧ ps[k]? = some (.pointer (some ⟨b, 0, none⟩))) := by
 obtain ⟨ps', q1, q2, q3⟩ := hch
 rw [hps] at q1
 cases q1
 rcases m with ⟨rfl, b, m1, rfl⟩ | ⟨k, b, rfl, m1, rfl⟩
 ·obtain ⟨b', C, t, r1, r2, r3, r4⟩ := hvar
  rw [m1] at r1
  cases r1
  obtain ⟨k1, k2⟩ := takeA_sound r4 htk
  obtain ⟨ps2, A, s1, s2, s3⟩ := k2.one_inv
  rw [hps] at s1
  cases s1
  exact ⟨A, b, off, C, t, rfl, r3, by simpa using k1, s3, s2, .inl ⟨rfl, r2, rfl, m1⟩⟩
 ·have hk : k < l.length := hi
  obtain ⟨b', C, t, cs', nx, g1, g2, g3, g4, g5, g6⟩ := q3 k _ (List.getElem?_eq_getElem hk)
  rw [m1] at g1
  cases g1
  have hl := g6.len
  have hsz : C.size = e.size + 1 := by rw [← Array.length_toList, g5, List.length_append, hl]; rfl
  refine ⟨nx, b, e.size, C, t, rfl, g4, by omega, ?_, g2, .inr ⟨k, rfl, g3, rfl, m1⟩⟩
  unfold cellsAt
  rw [g5, ← hl, List.drop_left]
  rfl
include T hb h1 in
theorem does_loadX {t0 : TypeId} {x : SV} {v : Value} {e : Eff} {t : List Id} (hrs : ∀ id R, lk id = some R → ResOk G w id R) (hx : (sLoadX tt t0 x).exec lk = some (e, t)) (hv : ∀ p ∈ e.vc, p) (m : MtS G w x v) :
  Does P old G w (do pure (.value (← Instr.loadAt t0 v))) e := by
 have fin : ∀ {s : SV} {vc : List Prop}, (∃ u, (Instr.loadAt t0 v).run P w = .ok u w ∧ MtS G w s u) → Does P old G w (do pure (.value (← Instr.loadAt t0 v))) ⟨s, [], vc⟩ := by
  rintro s vc ⟨u, h1, h2⟩
  exact .pure hb (v := u) (by simp [h1]) h2
 unfold sLoadX at hx
 split at hx
 ·exact exec_fail hx
 rename_i t1 T0 ag nf el by_ fts hte
 split at hx
 ·rename_i id off i n e1
  replace ⟨hTT, hx⟩ := beqT hx
  subst hTT
  replace ⟨t', hx, _⟩ := exec_need hx
  split at hx
  ·rename_i cs hlk
   obtain ⟨b, C, tt', hρ, hg, hh, hm⟩ := varOf_at hlk (hrs id)
   split at hx
   ·rename_i n' e' F y htk
    replace ⟨hE, hx⟩ := condR hx
    simp only [Bool.and_eq_true] at hE
    have hE1 := Ty.eq_of_beq hE.1
    subst hE1
    have hE2 := Nat.eq_of_beq_eq_true hE.2
    subst hE2
    replace ⟨s, t1', t2', hs, hx, _⟩ := exec_bind hx
    obtain ⟨rfl, rfl⟩ := exec_ok hx
    rw [tcast_self] at hs
    have hi : i < n' := hv _ List.mem_cons_self
    obtain ⟨b', hρ', hv'⟩ := m.at1.2
    rw [hρ] at hρ'
    cases hρ'
    simp only [List.cons.injEq, and_true] at hv'
    subst hv'
    obtain ⟨h3, h4⟩ := takeA_sound hm htk
    obtain ⟨h5, h6⟩ := arr_at (by simpa using h3) h4 hi
    exact fin (load_block T hte hh h5 h1 (atomsOf_sound _ _ _ _ _ _ (noO_p _) h6) hs)
   ·exact exec_fail hx
  ·exact exec_fail hx
 ·rename_i id i off
  replace ⟨t', hx, _⟩ := exec_need hx
  split at hx
  ·rename_i oc e1 l hlk
   obtain ⟨ps, q1, q2, q3⟩ := hrs id _ hlk
   obtain ⟨ps', b, m1, m2, m3⟩ := m.at1.2
   rw [q1] at m1
   cases m1
   simp only [List.cons.injEq, and_true] at m3
   subst m3
   cases hc : (Nat.beq off 0 && Ty.beq e1 T0) with
   | true =>
    rw [hc] at hx
    simp only [Bool.and_eq_true] at hc
    have hc1 := Nat.eq_of_beq_eq_true hc.1
    subst hc1
    have hc2 := Ty.eq_of_beq hc.2
    subst hc2
    replace ⟨s, t1', t2', hs, hx, _⟩ := exec_bind hx
    obtain ⟨rfl, rfl⟩ := exec_ok hx
    have hi : i < l.length := hv _ List.mem_cons_self
    obtain ⟨b', C, t2, cs', nx, g1, g2, g3, g4, g5, g6⟩ := q3 i (l.getD i e1.dflt) (by rw [List.getD, List.getElem?_eq_getElem hi]; rfl)
    rw [m2] at g1
    cases g1
    have hl := g6.len
    have hsz : C.size = e1.size + 1 := by rw [← Array.length_toList, g5, List.length_append, hl]; rfl
    have hcell : cellsAt C 0 e1.size = cs' := by unfold cellsAt; rw [g5, List.drop_zero, ← hl, List.take_left]
    exact fin (load_block T hte g4 (by simp only; omega) h1 (l := atomsOf e1 pF (l.getD i e1.dflt)) (by rw [hcell]; exact atomsOf_sound _ _ _ _ _ _ (noO_p _) g6) hs)
   | false =>
    rw [hc] at hx
    simp only [cond_false] at hx
    replace ⟨hE, hx⟩ := condR hx
    simp only [Bool.and_eq_true, Bool.not_eq_true'] at hE
    have e1' := Nat.eq_of_beq_eq_true hE.1
    subst e1'
    have e2 := Ty.eq_of_beq hE.2.1
    subst e2
    have e3 := hE.2.2
    subst e3
    obtain ⟨rfl, rfl⟩ := exec_ok hx
    have hi : i < l.length := hv _ List.mem_cons_self
    obtain ⟨b', C, t2, cs', nx, g1, g2, g3, g4, g5, g6⟩ := q3 i _ (List.getElem?_eq_getElem hi)
    rw [m2] at g1
    cases g1
    have hl := g6.len
    have hsz : C.size = e1.size + 1 := by rw [← Array.length_toList, g5, List.length_append, hl]; rfl
    have hcell : cellsAt C e1.size 1 = [.pointer nx] := by unfold cellsAt; rw [g5, ← hl, List.drop_left]; rfl
    refine fin ⟨_, run_load_at T hte g4 (by simp only [Ty.size]; omega), .of1 ?_ ?_⟩
    ·simp only [Ty.size, mkV]; rw [hcell]; rfl
    ·simp only [Ty.size, mkV]; rw [hcell]; exact ⟨ps, nx, q1, g2, rfl⟩
  ·exact exec_fail hx
 ·rename_i id0 off id i sz
  replace ⟨hE, hx⟩ := condR hx
  simp only [Bool.and_eq_true, Bool.not_eq_true'] at hE
  have e2 := Ty.eq_of_beq hE.1
  subst e2
  have e3 := hE.2
  subst e3
  have key : ∀ {id2 : Id} {oc : Bool} {e1 : Ty} {l : List e1.den} {cs : List At} {ps : List Value} {vc : List Prop}, psOf (G.ρ id2) = some ps → ResOk G w id2 (.ch oc e1 l) → ResOk G w id0 (.var cs) → takeA cs off 1 = some [.chp id2 0] → i ≤ l.length →
    ((i = 0 ∧ ∃ b, G.ρ id0 = .pointer (some ⟨b, 0, none⟩) ∧ v = .pointer (some ⟨b, off, none⟩)) ∨ ∃ k b, i = k + 1 ∧ ps[k]? = some (.pointer (some ⟨b, 0, none⟩)) ∧ v = .pointer (some ⟨b, e1.size, none⟩)) →
    Does P old G w (do pure (.value (← Instr.loadAt t0 v))) ⟨atom (.chp id2 i), [], vc⟩ := by
   intro id2 oc e1 l cs ps vc hps hch hvar htk hi hm
   obtain ⟨nx, b, o, C, t, rfl, r2, r3, r4, r5, _⟩ := lnk_at hps hch hvar htk hi hm
   refine fin ⟨_, run_load_at T hte r2 r3, .of1 ?_ ?_⟩
   ·simp only [Ty.size, mkV]; rw [r4]; rfl
   ·simp only [Ty.size, mkV]; rw [r4]; exact ⟨ps, nx, hps, r5, rfl⟩
  have hm := m.at1.2
  replace ⟨t', hx, _⟩ := exec_need hx
  split at hx
  ·rename_i oc e1 l hlk
   replace ⟨hz, hx⟩ := condR hx
   have hz := Nat.eq_of_beq_eq_true hz
   subst hz
   replace ⟨t'', hx, _⟩ := exec_need hx
   split at hx
   ·rename_i cs hlk0
    split at hx
    ·rename_i id' htk
     replace ⟨hid, hx⟩ := condR hx
     have hid := Id.eq_of_beq hid
     subst hid
     obtain ⟨rfl, rfl⟩ := exec_ok hx
     have hi : i ≤ l.length := hv _ List.mem_cons_self
     have hch := hrs _ _ hlk
     obtain ⟨ps, q1, _⟩ := hch
     refine key q1 (hrs _ _ hlk) (hrs _ _ hlk0) htk hi ?_
     rcases hm with ⟨a1, b, a2, a3⟩ | ⟨k, ps', b, a1, a2, a3, a4⟩
     ·exact .inl ⟨a1, b, a2, by simpa using a3⟩
     ·rw [q1] at a2
      cases a2
      exact .inr ⟨k, b, a1, a3, by simpa using a4⟩
    ·exact exec_fail hx
   ·exact exec_fail hx
  ·rename_i id2 n hlkp
   replace ⟨t'', hx, _⟩ := exec_need hx
   split at hx
   ·rename_i oc e1 l hlk
    replace ⟨hz, hx⟩ := condR hx
    have hz := Nat.eq_of_beq_eq_true hz
    subst hz
    replace ⟨t3, hx, _⟩ := exec_need hx
    split at hx
    ·rename_i cs hlk0
     split at hx
     ·rename_i id' htk
      replace ⟨hid, hx⟩ := condR hx
      have hid := Id.eq_of_beq hid
      subst hid
      obtain ⟨rfl, rfl⟩ := exec_ok hx
      have hi : i ≤ l.length := hv _ List.mem_cons_self
      have hn : i ≤ n := hv _ (List.mem_cons_of_mem _ List.mem_cons_self)
      obtain ⟨ps0, ps, p1, p2, p3⟩ := hrs _ _ hlkp
      refine key p2 (hrs _ _ hlk) (hrs _ _ hlk0) htk hi ?_
      rcases hm with ⟨a1, b, a2, a3⟩ | ⟨k, ps', b, a1, a2, a3, a4⟩
      ·exact .inl ⟨a1, b, a2, by simpa using a3⟩
      ·rw [p1] at a2
       cases a2
       exact .inr ⟨k, b, a1, by rw [p3 k (by omega)]; exact a3, by simpa using a4⟩
     ·exact exec_fail hx
    ·exact exec_fail hx
   ·exact exec_fail hx
  ·exact exec_fail hx
 ·exact exec_fail hx
theorem slice3 {α : Type} (A : List α) {a N k m : Nat} (u : List α) (hm : m = u.length) (hkN : k + m ≤ N) (h : a + N ≤ A.length) :
  A.take a ++ (((A.drop a).take N).take k ++ u ++ ((A.drop a).take N).drop (k + m)) ++ A.drop (a + N) = A.take (a + k) ++ u ++ A.drop (a + k + m) := by
 have e1 : A.take (a + k) = A.take a ++ ((A.drop a).take N).take k := by rw [List.take_add, List.take_take, Nat.min_eq_left (by omega)]
 have e2 : A.drop (a + k + m) = ((A.drop a).take N).drop (k + m) ++ A.drop (a + N) := by
  have hB : ∀ B : List α, N ≤ B.length → B.drop (k + m) = (B.take N).drop (k + m) ++ B.drop N := fun B hB => by
   conv => lhs; rw [← List.take_append_drop N B]
   rw [List.drop_append_of_le_length (by rw [List.length_take]; omega)]
  rw [Nat.add_assoc, ← List.drop_drop, ← List.drop_drop (i := N)]
  exact hB (A.drop a) (by rw [List.length_drop]; omega)
 rw [e1, e2]
 simp only [List.append_assoc]
include T hb h1 in
theorem does_storeX {t0 : TypeId} {idb : Id} {x y : SV} {v u : Value} {e : Eff} {t : List Id} (hfr : ∀ k, ¬ old (idb.plus k)) (hrs : ∀ id R, lk id = some R → ResOk G w id R ∧ old id ∧ ∀ j ∈ R.ids, old j)
  (hf : fitsT tt t0 y = true) (hx : (sStoreX idb x y).exec lk = some (e, t)) (hv : ∀ p ∈ e.vc, p) (m : MtS G w x v) (my : MtS G w y u) : Does P old G w (do Instr.storeAt t0 v u; pure .skip) e := by
 have hrs' : ∀ id R, lk id = some R → ResOk G w id R := fun i R h => (hrs i R h).1
 have hid : ¬ old idb := by have := hfr 0; rwa [Id.plus_zero] at this
 have fin : ∀ {b o : Nat} {C : Array Value} {t' : TypeId} {ag' : Bool} {l : List At}, y = .v ag' l → v = .pointer (some ⟨b, o, none⟩) → w.heap[b]? = some (.cells C t' (0, 0)) → o + u.cells.toList.length ≤ C.size →
   (Instr.storeAt t0 v u).run P w = .ok () (w.setRow b (over C o u.cells.toList)) := by
  rintro b o C t' ag' l rfl rfl hh hs
  obtain ⟨te, hte, hsz⟩ := fitsT_spec hf
  have hm := MtV.cells my
  have hl := hm.len
  exact run_store_at T hte hh (by omega) (by omega) (hm.one' h1)
 unfold sStoreX at hx
 split at hx
 ·
  rename_i id off i n e1 ag l
  replace ⟨t', hx, _⟩ := exec_need hx
  have hm := MtV.cells my
  split at hx
  ·rename_i cs hlk
   split at hx
   ·rename_i n' e' F z htk
    replace ⟨hE, hx⟩ := condR hx
    simp only [Bool.and_eq_true] at hE
    have hE1 := Ty.eq_of_beq hE.1
    subst hE1
    have hE2 := Nat.eq_of_beq_eq_true hE.2
    subst hE2
    replace ⟨pk, t1', t2', hpk, hx, _⟩ := exec_bind hx
    split at hx
    ·rename_i q
     rw [tcast_self] at hx
     split at hx
     ·rename_i cs' hcs
      obtain ⟨rfl, rfl⟩ := exec_ok hx
      have hi : i < n' := hv _ List.mem_cons_self
      obtain ⟨b, C, tt', hρ, hg, hh, hmc⟩ := hrs' id _ hlk
      obtain ⟨b', hρ', hv'⟩ := m.at1.2
      rw [hρ] at hρ'
      cases hρ'
      simp only [List.cons.injEq, and_true] at hv'
      obtain ⟨h3, h4⟩ := takeA_sound hmc htk
      have h3' : off + n' * e'.size ≤ C.size := by simpa using h3
      obtain ⟨h5, _⟩ := arr_at h3' h4 hi
      obtain ⟨c1, c2, hc12, hc1, hc2, hpks⟩ := pack_sound hrs' _ _ _ _ _ _ _ _ _ hm hpk
      rw [show c2 = [] from hc2, List.append_nil] at hc12
      obtain ⟨mm, hmm, htr⟩ := hpks List.nodup_nil
      have hq := htr G w default [] ⟨.refl G w, fun b i q pos _ hp => absurd ((hmm i).1 (by rw [hp]; simp)) (by simp), fun b i q _ hi => absurd hi (by simp)⟩
      have hul : u.cells.toList.length = e'.size := by rw [hc12]; exact hc1
      have hov : off + i * e'.size + u.cells.toList.length ≤ C.size := by rw [hul]; exact h5
      have hrun := fin rfl hv' hh hov
      have hc : ∀ {old : Id → Prop}, Chg old (fun j => j = id) G G w (w.setRow b (over C (off + i * e'.size) u.cells.toList)) := .setRow (chg := fun j => j = id) hb hg rfl _
      refine ⟨_, undef, _, G, by simp [hrun], .inr ⟨rfl, rfl, rfl⟩, hc.le (fun j hj => by simp [hj]), trivial, fun j R hj => ?_⟩
      simp only [List.mem_singleton, Prod.mk.injEq, Option.some.injEq] at hj
      obtain ⟨rfl, rfl⟩ := hj
      have hmul : (i + 1) * e'.size ≤ n' * e'.size := Nat.mul_le_mul_right _ hi
      rw [Nat.add_mul, Nat.one_mul] at hmul
      obtain ⟨_, k3, k4, k5⟩ := h4.one_inv
      let D := over C (off + i * e'.size) u.cells.toList
      have hDs : D.size = C.size := over_size hov
      have hin : cellsAt D off (n' * e'.size) = (cellsAt C off (n' * e'.size)).take (i * e'.size) ++ u.cells.toList ++ (cellsAt C off (n' * e'.size)).drop (i * e'.size + u.cells.toList.length) :=
       cellsAt_over_in (by rw [hul]; omega) h3'
      have hnew : MtA G w (.d (.arr n' e') pF (z.set i q)) (cellsAt D off (n' * e'.size)) := by
       refine ⟨rfl, cellsAt_len (by omega), by rw [List.length_set]; exact k4, fun j x hx => ?_⟩
       have hj : j < n' := by have := (List.getElem?_eq_some_iff.1 hx).1; rw [List.length_set, k4] at this; exact this
       have hmj : (j + 1) * e'.size ≤ n' * e'.size := Nat.mul_le_mul_right _ hj
       rw [Nat.add_mul, Nat.one_mul] at hmj
       rw [← cellsAt_sub D off (n' * e'.size) (by omega)]
       by_cases hji : j = i
       ·subst hji
        rw [List.getElem?_set_self (by rw [k4]; exact hj)] at hx
        cases hx
        have hself : cellsAt D (off + j * e'.size) e'.size = u.cells.toList := by
         have := cellsAt_over_in (C := C) (o := off + j * e'.size) (off := 0) (n := e'.size) (vs := u.cells.toList) (by omega) (by omega)
         rw [Nat.add_zero] at this
         show cellsAt (over C (off + j * e'.size) u.cells.toList) _ _ = _
         rw [this, hul, Nat.zero_add, List.take_zero, List.nil_append, List.drop_of_length_le (by rw [cellsAt_len (by omega)]; exact Nat.le_refl _), List.append_nil]
        rw [hself, hc12]
        exact hq.keep (.refl G w) (noO_p e')
       ·rw [List.getElem?_set_ne (Ne.symm hji)] at hx
        have hdis : off + j * e'.size + e'.size ≤ off + i * e'.size ∨ off + i * e'.size + u.cells.toList.length ≤ off + j * e'.size := by
         rw [hul]
         rcases Nat.lt_or_gt_of_ne hji with h | h
         ·left
          have : (j + 1) * e'.size ≤ i * e'.size := Nat.mul_le_mul_right _ h
          rw [Nat.add_mul, Nat.one_mul] at this
          omega
         ·right
          have : (i + 1) * e'.size ≤ j * e'.size := Nat.mul_le_mul_right _ h
          rw [Nat.add_mul, Nat.one_mul] at this
          omega
        rw [cellsAt_over_out hov hdis]
        have := k5 j x hx
        rw [show ((C.toList.drop off).take (n' * e'.size)) = cellsAt C off (n' * e'.size) from rfl, ← cellsAt_sub C off (n' * e'.size) (by omega)] at this
        exact this
      obtain ⟨_, hput⟩ := putA_sound hmc (.one hnew) hcs
      have hDl : D.toList = C.toList.take off ++ cellsAt D off (n' * e'.size) ++ C.toList.drop (off + (cellsAt D off (n' * e'.size)).length) := by
       rw [cellsAt_len (by omega : off + n' * e'.size ≤ D.size), hin]
       show (over C (off + i * e'.size) u.cells.toList).toList = _
       rw [over_toList]
       exact (slice3 C.toList u.cells.toList rfl (by rw [hul]; omega) (by simpa using h3')).symm
      refine ⟨b, D, tt', hρ, hg, setRow_heap w b _ _ tt' _ hh, ?_⟩
      rw [hDl]
      exact hput.keep (old := fun _ => True) hc (fun _ _ => trivial)
     ·exact exec_fail hx
    ·exact exec_fail hx
   ·exact exec_fail hx
  ·exact exec_fail hx
 ·
  rename_i id0 off id i sz id2
  replace ⟨t', hx, _⟩ := exec_need hx
  split at hx
  ·rename_i e1 l hlk
   replace ⟨hz, hx⟩ := condR hx
   have hz := Nat.eq_of_beq_eq_true hz
   subst hz
   replace ⟨t'', hx, _⟩ := exec_need hx
   split at hx
   ·rename_i cs hlk0
    split at hx
    ·rename_i id' htk
     replace ⟨hE, hx⟩ := condR hx
     simp only [Bool.and_eq_true] at hE
     have hE1 := Id.eq_of_beq hE.1
     subst hE1
     have hnd := nodupN_iff.1 hE.2
     simp only [List.nodup_cons, List.mem_cons, List.not_mem_nil, or_false, not_or, not_false_eq_true, and_true, List.nodup_nil] at hnd
     obtain ⟨⟨n01, n02⟩, n12⟩ := hnd
     replace ⟨t3, hx, _⟩ := exec_need hx
     split at hx
     ·rename_i cs2 hlk2
      replace ⟨pk, t1', t2', hpk, hx, _⟩ := exec_bind hx
      split at hx
      ·rename_i q
       split at hx
       ·rename_i cs' hcs
        obtain ⟨rfl, rfl⟩ := exec_ok hx
        have hi : i = l.length := hv _ List.mem_cons_self
        subst hi
        have hch := hrs' _ _ hlk
        have hvar := hrs' _ _ hlk0
        obtain ⟨ps, q1, q2, q3⟩ := hch
        have hm := m.at1.2
        obtain ⟨nx, bL, oL, CL, tL, hvL, r2, r3, r4, r5, r6⟩ := lnk_at q1 (hrs' _ _ hlk) hvar htk (Nat.le_refl _) (v := v) (by
         rcases hm with ⟨a1, b, a2, a3⟩ | ⟨k, ps', b, a1, a2, a3, a4⟩
         ·exact .inl ⟨a1, b, a2, by simpa using a3⟩
         ·rw [q1] at a2
          cases a2
          exact .inr ⟨k, b, a1, a3, by simpa using a4⟩)
        rw [q2] at r5
        cases r5
        simp only [labC] at q3 r6
        obtain ⟨b2, C2, tt2, s1, s2, s3, s4⟩ := hrs' _ _ hlk2
        obtain ⟨b2', s1', s5⟩ := my.at1.2
        rw [s1] at s1'
        cases s1'
        simp only [List.cons.injEq, and_true] at s5
        have hu : u = .pointer (some ⟨b2, 0, none⟩) := s5
        have huc : u.cells.toList = [u] := by rw [hu]; rfl
        obtain ⟨b0, C0, tt0, v1, v2, v3, v4⟩ := hvar
        have h0old := (hrs _ _ hlk0).2
        have hidold := (hrs _ _ hlk).2.1
        have h2old := (hrs _ _ hlk2).2.1
        have hrun := fin rfl hvL r2 (by rw [huc]; exact r3)
        rw [huc] at hrun
        let n := l.length
        let ps' : List Value := ps.take n ++ [u, .pointer none]
        let R : Id → List Nat → Option (List Nat) := fun j p => if j = id' then some p else if j = id2 ∧ p = [] then some [n] else none
        let G1 : Gh := ⟨fun j => if j = idb then .func (.func 0) #[] ps'.toArray else G.ρ j, turned G R idb⟩
        have hpn : n < ps.length := (List.getElem?_eq_some_iff.1 q2).1
        have htl : (ps.take n).length = n := by rw [List.length_take]; omega
        have hp1 : ∀ k, k < n → ps'[k]? = ps[k]? := fun k hk => by
         show (ps.take n ++ [u, .pointer none])[k]? = _
         rw [List.getElem?_append_left (by omega), List.getElem?_take_of_lt hk]
        have hp2 : ps'[n]? = some u := by
         show (ps.take n ++ [u, .pointer none])[n]? = _
         rw [List.getElem?_append_right (by omega), htl, Nat.sub_self]; rfl
        have hp3 : ps'[n + 1]? = some (.pointer none) := by
         show (ps.take n ++ [u, .pointer none])[n + 1]? = _
         rw [List.getElem?_append_right (by omega), htl, Nat.add_sub_cancel_left]; rfl
        have hρb : psOf (G1.ρ idb) = some ps' := by simp [G1, psOf]
        have hρo : ∀ j, old j → G1.ρ j = G.ρ j := fun j hj => by simp only [G1]; rw [if_neg (fun (e : j = idb) => hid (e ▸ hj))]
        have hR : ∀ j p r, R j p = some r → j ∈ [id0, id2, id', idb] := fun j p r h => by
         simp only [R] at h
         split at h
         ·rename_i e'; simp [e']
         ·split at h
          ·rename_i e'; simp [e'.1]
          ·cases h
        have hc1 : Chg old (fun j => j ∈ [id0, id2, id', idb]) G G1 w w := Chg.turn hb hR hid rfl
        have g0 : ∀ b, G.g b = .own id0 [] → G1.g b = .own id0 [] := fun b hg => by
         simp only [G1, turned, hg, R]
         rw [if_neg n01, if_neg (fun h => n02 h.1)]
        have gid : ∀ b p, G.g b = .own id' p → G1.g b = .own idb p := fun b p hg => turned_own hg (by simp [R])
        have g2 : G1.g b2 = .own idb [n] := turned_own s2 (by simp only [R]; rw [if_neg (Ne.symm n12)]; simp)
        have hLlab : ∃ j p, G1.g bL = .own j p ∧ (j = id0 ∨ j = idb) := by
         rcases r6 with ⟨_, a, _⟩ | ⟨k, _, a, _⟩
         ·exact ⟨_, _, g0 _ a, .inl rfl⟩
         ·exact ⟨_, _, gid _ _ a, .inr rfl⟩
        obtain ⟨jL, pL, hL, hjL⟩ := hLlab
        have hc2 : ∀ {old : Id → Prop}, Chg old (fun j => j ∈ [id0, id2, id', idb]) G1 G1 w (w.setRow bL (over CL oL [u])) := .setRow (chg := fun j => j ∈ [id0, id2, id', idb]) hc1.bnd hL (by rcases hjL with h | h <;> simp [h]) _
        have hother : ∀ b, b ≠ bL → (w.setRow bL (over CL oL [u])).heap[b]? = w.heap[b]? := fun b hb => setRow_other w bL b _ hb
        have hself : (w.setRow bL (over CL oL [u])).heap[bL]? = some (.cells (over CL oL [u]) tL (0, 0)) := setRow_heap w bL _ _ tL _ r2
        have hCL : (over CL oL [u]).toList = CL.toList.take oL ++ [u] ++ CL.toList.drop (oL + 1) := over_toList
        refine ⟨_, undef, _, G1, by simp [hrun], .inr ⟨rfl, rfl, rfl⟩, (hc1.trans hc2).le (fun j hj => by simpa using hj), trivial, fun j S hj => ?_⟩
        simp only [List.mem_cons, Prod.mk.injEq, Option.some.injEq, reduceCtorEq, and_false, List.not_mem_nil, or_false, false_or] at hj
        rcases hj with ⟨rfl, rfl⟩ | ⟨rfl, rfl⟩ | ⟨rfl, rfl⟩
        ·
         have hmc : MtL G1 w cs C0.toList := v4.keepR hc1.pb hρo (fun i hi => h0old.2 i hi)
         rcases r6 with ⟨a1, a2, a3, a4⟩ | ⟨k, a1, a2, a3, a4⟩
         ·rw [v1] at a4
          cases a4
          rw [v3] at r2
          cases r2
          subst a3
          have hn0 : n = 0 := a1
          have hat : MtA G1 w (.chp idb 0) [u] := ⟨ps', some ⟨b2, 0, none⟩, hρb, by rw [← hu, ← hn0]; exact hp2, by rw [hu]⟩
          obtain ⟨_, h4⟩ := putA_sound hmc (.one hat) hcs
          exact ⟨_, _, _, (hρo _ h0old.1).trans v1, g0 _ v2, hself, by rw [hCL]; exact h4.keep (old := fun _ => True) hc2 (fun _ _ => trivial)⟩
         ·have hne : b0 ≠ bL := fun e => by
           rw [e, a2] at v2
           cases v2
          obtain ⟨k1, k2⟩ := takeA_sound v4 htk
          obtain ⟨ps2, A, w1, w2, w3⟩ := k2.one_inv
          rw [q1] at w1
          cases w1
          have hn0 : 0 < n := by show 0 < l.length; omega
          have hat : MtA G1 w (.chp idb 0) [.pointer A] := ⟨ps', A, hρb, by rw [hp1 0 hn0]; exact w2, rfl⟩
          obtain ⟨_, h4⟩ := putA_sound hmc (.one hat) hcs
          rw [← w3] at h4
          have hsame : C0.toList.take off ++ (C0.toList.drop off).take 1 ++ C0.toList.drop (off + ((C0.toList.drop off).take 1).length) = C0.toList := by
           have hl1 : ((C0.toList.drop off).take 1).length = 1 := by rw [w3]; rfl
           rw [hl1, ← List.drop_drop, List.append_assoc, List.take_append_drop, List.take_append_drop]
          rw [hsame] at h4
          exact ⟨b0, C0, tt0, (hρo _ h0old.1).trans v1, g0 _ v2, (hother b0 hne).trans v3, h4.keep (old := fun _ => True) hc2 (fun _ _ => trivial)⟩
        ·exact ⟨ps, ps', by rw [hρo _ hidold]; exact q1, hρb, hp1⟩
        ·refine ⟨ps', hρb, by rw [List.length_append]; exact hp3, fun k y hk => ?_⟩
         have hb2L : b2 ≠ bL := fun e => by
          rcases r6 with ⟨_, a, _⟩ | ⟨k, _, a, _⟩
          ·rw [e, a] at s2; cases s2; exact n02 rfl
          ·rw [e, a] at s2; cases s2
         have hkp : KeepPB G G1 w (w.setRow bL (over CL oL [u])) := hc1.pb.trans (hc2 (old := fun _ => True)).pb
         rcases Nat.lt_trichotomy k n with hkn | rfl | hkn
         ·rw [List.getElem?_append_left hkn] at hk
          obtain ⟨b, C, t, c1, nx, a1, a2, a3, a4, a5, a6⟩ := q3 k y hk
          by_cases hlast : k + 1 = n
          ·
           rcases r6 with ⟨z1, _⟩ | ⟨k', z1, z2, z3, z4⟩
           ·exfalso; have : n = 0 := z1; omega
           ·have hkk : k' = k := by have : n = k' + 1 := z1; omega
            subst hkk
            rw [z4] at a1
            cases a1
            rw [r2] at a4
            cases a4
            subst z3
            have hl := a6.len
            refine ⟨bL, _, tL, c1, some ⟨b2, 0, none⟩, by rw [hp1 _ hkn]; exact z4, by rw [hlast, hp2, hu], gid _ _ z2, hself, ?_, a6.keep hkp (noO_p e1)⟩
            rw [hCL, a5, ← hl, List.take_left, List.drop_of_length_le (by simp), List.append_nil, hu]
          ·have hbL : b ≠ bL := fun e => by
            rcases r6 with ⟨_, z2, _⟩ | ⟨k', z1, z2, _⟩
            ·rw [e, z2] at a3; cases a3
            ·rw [e, z2] at a3; cases a3; exact hlast z1.symm
           exact ⟨b, C, t, c1, nx, by rw [hp1 _ hkn]; exact a1, by rw [hp1 _ (by omega)]; exact a2, gid _ _ a3, (hother b hbL).trans a4, a5, a6.keep hkp (noO_p e1)⟩
         ·rw [List.getElem?_append_right (Nat.le_refl _), Nat.sub_self] at hk
          cases hk
          obtain ⟨c1, c2, hc12, hc1', hc2', hpks⟩ := pack_sound hrs' _ _ _ _ _ _ _ _ _ s4 hpk
          obtain ⟨mm, hmm, htr⟩ := hpks List.nodup_nil
          have hq := htr G w default [] ⟨.refl G w, fun b i q pos _ hp => absurd ((hmm i).1 (by rw [hp]; simp)) (by simp), fun b i q _ hi => absurd hi (by simp)⟩
          have hc2n : c2 = [.pointer none] := hc2'.one_inv
          exact ⟨b2, C2, tt2, c1, none, by rw [hp2, hu], hp3, g2, (hother b2 hb2L).trans s3, by rw [hc12, hc2n], hq.keep hkp (noO_p e1)⟩
         ·have := (List.getElem?_eq_some_iff.1 hk).1
          rw [List.length_append] at this
          exfalso
          have h5 : k < l.length + 1 := this
          omega
       ·exact exec_fail hx
      ·exact exec_fail hx
     ·exact exec_fail hx
    ·exact exec_fail hx
   ·exact exec_fail hx
  ·exact exec_fail hx
 ·exact exec_fail hx
include hb in
theorem does_nilCheckX {x : SV} {v : Value} {e : Eff} {t : List Id} (hrs : ∀ id R, lk id = some R → ResOk G w id R) (hx : (sNilCheckX x).exec lk = some (e, t)) (hv : ∀ p ∈ e.vc, p) (m : MtS G w x v) : ∃ b, v = .pointer (some b) ∧ Does P old G w (pure (.value v)) e := by
 unfold sNilCheckX at hx
 split at hx
 ·rename_i id i
  replace ⟨t', hx, _⟩ := exec_need hx
  split at hx
  ·rename_i oc e1 l hlk
   obtain ⟨rfl, _⟩ := exec_ok hx
   have hi : i < l.length := hv _ List.mem_cons_self
   obtain ⟨ps, A, m1, m2, m3⟩ := m.at1.2
   obtain ⟨ps', q1, q2, q3⟩ := hrs _ _ hlk
   rw [m1] at q1
   cases q1
   obtain ⟨b, C, t2, cs, nx, g1, _⟩ := q3 i _ (List.getElem?_eq_getElem hi)
   have hA : A = some ⟨b, 0, none⟩ := by rw [m2] at g1; simpa using g1
   subst hA
   have hvv : v = .pointer (some ⟨b, 0, none⟩) := by simpa using m3
   exact ⟨_, hvv, .pure hb (v := v) (by simp) (.of1 (by rw [hvv]; rfl) ⟨ps, b, m1, m2, by rw [hvv]⟩)⟩
  ·exact exec_fail hx
 ·rename_i id0 off id i sz
  obtain ⟨rfl, _⟩ := exec_ok hx
  rcases m.at1.2 with ⟨_, b, _, a⟩ | ⟨k, ps, b, _, _, _, a⟩
  ·exact ⟨_, by simpa using a, .pure hb (v := v) (by simp) m⟩
  ·exact ⟨_, by simpa using a, .pure hb (v := v) (by simp) m⟩
 ·exact exec_fail hx
include T hb in
theorem does_fieldAddrX {t0 : TypeId} {f : Nat} {x : SV} {v : Value} {e : Eff} {t : List Id} (hx : (sFieldAddrX tt t0 f x).exec lk = some (e, t)) (m : MtS G w x v) :
  Does P old G w (do pure (.value (← Instr.fieldAt t0 v f))) e := by
 unfold sFieldAddrX at hx
 split at hx
 ·exact exec_fail hx
 ·rename_i t' T0 ag nf el by_ fts hte
  replace ⟨hlt, hx⟩ := condR hx
  have hf : f < nf := by simpa [Nat.blt_eq] using hlt
  have hrun := run_fieldAt T hte (f := f) hf w
  simp only at hrun
  split at hx
  ·rename_i id i off
   obtain ⟨rfl, _⟩ := exec_ok hx
   obtain ⟨ps, b, m1, m2, m3⟩ := m.at1.2
   have hv : v = .pointer (some ⟨b, off, none⟩) := by simpa using m3
   subst hv
   exact .pure hb (v := .pointer (some ⟨b, off + fieldOff T0 nf f, none⟩)) (by simp [hrun]) (.of1 rfl ⟨ps, b, m1, m2, rfl⟩)
  ·exact exec_fail hx
include T hb in
theorem does_indexAddrX {t0 : TypeId} {x i : SV} {vx vi : Value} {e : Eff} {t : List Id} (hx : (sIndexAddrX tt t0 x i).exec lk = some (e, t)) (hv : ∀ p ∈ e.vc, p) (mx : MtS G w x vx) (mi : MtS G w i vi) :
  Does P old G w (do pure (.value (← Instr.indexAt t0 vx vi))) e := by
 unfold sIndexAddrX at hx
 split at hx
 ·exact exec_fail hx
 ·rename_i n e1 el hT
  split at hx
  ·rename_i id off k F z
   obtain ⟨rfl, _⟩ := exec_ok hx
   obtain ⟨h0, h1⟩ : 0 ≤ z ∧ z < (n : Int) := hv _ List.mem_cons_self
   obtain ⟨rfl, _⟩ := mi.int
   obtain ⟨b, m1, m2⟩ := mx.at1.2
   have hvx : vx = .pointer (some ⟨b, off, none⟩) := by simpa using m2
   subst hvx
   obtain ⟨hu, _, te, hte, rfl⟩ := arT_spec T hT
   exact .pure hb (v := .pointer (some ⟨b, off + z.toNat * te.T.size, none⟩)) (by simp [Instr.indexAt, run_underlying hu, asIntOf, Instr.sureAddr, h0, h1, run_size_at T hte, addr_add]) (.of1 rfl ⟨b, m1, rfl⟩)
  ·exact exec_fail hx
include T hb in
theorem does_sliceX {t0 : TypeId} {x : SV} {v : Value} {e : Eff} {t : List Id} (hx : (sSliceX tt t0 x).exec lk = some (e, t)) (m : MtS G w x v) :
  Does P old G w (do pure (.value (← Instr.sliceAt t0 v none none none))) e := by
 unfold sSliceX at hx
 split at hx
 ·exact exec_fail hx
 ·rename_i n e1 el hT
  split at hx
  ·rename_i id off
   obtain ⟨rfl, _⟩ := exec_ok hx
   obtain ⟨b, m1, m2⟩ := m.at1.2
   have hv : v = .pointer (some ⟨b, off, none⟩) := by simpa using m2
   subst hv
   obtain ⟨hu, _, te, hte, rfl⟩ := arT_spec T hT
   have ha : (⟨b, off, none⟩ : Addr).add 0 = ⟨b, off, none⟩ := by rw [addr_add]; rfl
   exact .pure hb (v := .slice (some ⟨b, off, none⟩) n n) (by simp [Instr.sliceAt, run_underlying hu, Instr.sureAddr, Instr.sliceBounds, Instr.sliceBound, run_size_at T hte, ha]) (.of1 rfl ⟨b, m1, rfl⟩)
  ·exact exec_fail hx
include T hb in
theorem does_toArr {t0 : TypeId} {x : SV} {v : Value} {e : Eff} {t : List Id} (hx : (sToArr tt t0 x).exec lk = some (e, t)) (hv : ∀ p ∈ e.vc, p) (m : MtS G w x v) :
  Does P old G w (do pure (.value (← Instr.arrayAt t0 v))) e := by
 unfold sToArr at hx
 split at hx
 ·exact exec_fail hx
 ·rename_i n e1 el hT
  split at hx
  ·split at hx
   ·rename_i F e' l
    replace ⟨hE, hx⟩ := condR hx
    simp only [Bool.and_eq_true, Nat.blt_eq] at hE
    obtain ⟨hE1, hn0, hE2, hE3⟩ := hE
    have hE1 := Ty.eq_of_beq hE1
    subst hE1
    obtain ⟨rfl, _⟩ := exec_ok hx
    rw [tcast_self]
    have hn : n ≤ List.length l := hv _ List.mem_cons_self
    obtain ⟨hno, A, k, c, rfl, htr⟩ := m.slice
    obtain ⟨hk, hc, _⟩ := htr.sl_len
    subst hk
    obtain ⟨hu, _, te, hte, rfl⟩ := arT_spec T hT
    obtain ⟨A', n', c', hcs, _, _, _, _, hblk⟩ := htr
    simp only [List.cons.injEq, Value.slice.injEq, and_true] at hcs
    obtain ⟨rfl, rfl, rfl⟩ := hcs
    simp only [Ty.noO, Bool.and_eq_true, Bool.not_eq_true'] at hno
    rcases hblk with ⟨_, hz⟩ | ⟨b, off, C, tb, fz, rfl, hl, hh, hs, _, hj⟩
    ·omega
    ·have hmul : n * te.T.size ≤ List.length l * te.T.size := Nat.mul_le_mul_right _ hn
     refine .pure hb (v := .pointer (some ⟨b, off, none⟩)) (by simp [Instr.arrayAt, run_underlying hu, show ¬ List.length l < n by omega]) (.of1 rfl ⟨rfl, hno.1, b, off, C, tb, fz, rfl, (labOk_keep (.refl G w) hno.1 hl).1, hh, by show off + n * te.T.size ≤ C.size; omega, cellsAt_len (by show off + n * te.T.size ≤ C.size; omega), by rw [List.length_take]; exact Nat.min_eq_left hn, fun j y hy => ?_⟩)
     have hjn : j < n := by have := (List.getElem?_eq_some_iff.1 hy).1; rw [List.length_take] at this; omega
     rw [List.getElem?_take_of_lt hjn] at hy
     have hmj : (j + 1) * te.T.size ≤ n * te.T.size := Nat.mul_le_mul_right _ hjn
     rw [Nat.add_mul, Nat.one_mul] at hmj
     show Tr G w te.T pF default [] (((cellsAt C off (n * te.T.size)).drop (j * te.T.size)).take te.T.size) y
     rw [← cellsAt_sub C off (n * te.T.size) (by omega)]
     exact Tr.le hE3 ((hj j y hy).keep (.refl G w) hno.2)
   ·exact exec_fail hx
  ·exact exec_fail hx
include T in
theorem ptT {t : TypeId} (h : isPtT tt t = true) : ∃ el, P.underlying t = some (.pointer el) := by
 unfold isPtT at h
 split at h
 ·rename_i t' nf el by_ fts hte
  obtain ⟨d, hd, hi⟩ := und_at T hte
  have hf := di_plain T hte rfl
  simp only at hf
  subst hf
  cases d <;> simp [dinfo, TE.di] at hi
  exact ⟨_, hd⟩
 ·cases h
include T hb in
theorem does_ptrNil {op : BinOp} {xT : TypeId} {ox oy : Operand} {x : SV} {v : Value} {e : Eff} {t : List Id} (hrs : ∀ id R, lk id = some R → ResOk G w id R) (hx : (sPtrNil tt xT op x).exec lk = some (e, t)) (hv : ∀ p ∈ e.vc, p) (m : MtS G w x v) :
  Does P old G w (do pure (.value (← (do eqGuard op xT ox oy v (.pointer none); binOp op xT v (.pointer none))))) e := by
 have hg : ∀ a, eqGuard op xT ox oy (.pointer a) (.pointer none) = pure () := fun a => by cases op <;> rfl
 unfold sPtrNil at hx
 cases hpt : isPtT tt xT with
 | false => rw [hpt] at hx; exact exec_fail hx
 | true =>
 rw [hpt] at hx
 simp only [Bool.not_true, cond_false] at hx
 obtain ⟨el, hu⟩ := ptT T hpt
 have heq : ∀ a, (Op.equal xT (.pointer a) (.pointer none)).run P w = .ok a.isNone w := fun a => run_equal_pointer_nil w xT a (by rw [hu]; simp [Program.pointee, hu])
 split at hx
 ·rename_i id i
  replace ⟨t', hx, _⟩ := exec_need hx
  split at hx
  ·rename_i oc e1 l hlk
   obtain ⟨ps, A, m1, m2, m3⟩ := m.at1.2
   have hvv : v = .pointer A := by simpa using m3
   subst hvv
   obtain ⟨ps', q1, q2, q3⟩ := hrs _ _ hlk
   rw [m1] at q1
   cases q1
   have hA : i ≤ l.length → A.isNone = decide (i = l.length) := fun hle => by
    by_cases hi : i < l.length
    ·obtain ⟨b, C, t2, cs, nx, g1, _⟩ := q3 i _ (List.getElem?_eq_getElem hi)
     rw [m2] at g1
     simp only [Option.some.injEq, Value.pointer.injEq] at g1
     rw [g1]
     simp [Nat.ne_of_lt hi]
    ·have hi2 : i = l.length := by omega
     rw [hi2] at m2
     rw [q2] at m2
     simp only [Option.some.injEq, Value.pointer.injEq] at m2
     rw [← m2]
     simp [hi2]
   split at hx
   ·obtain ⟨rfl, _⟩ := exec_ok hx
    have hA := hA (hv _ List.mem_cons_self)
    exact .pure hb (v := .bool (decide (i = l.length))) (by simp [hg, binOp, heq, hA]) .ofBool
   ·obtain ⟨rfl, _⟩ := exec_ok hx
    have hA := hA (hv _ List.mem_cons_self)
    exact .pure hb (v := .bool (!decide (i = l.length))) (by simp [hg, binOp, heq, hA]) .ofBool
   ·exact exec_fail hx
  ·exact exec_fail hx
 ·have hvv : v = .pointer none := by simpa using (show [v] = [Value.pointer none] from m.at1.2)
  subst hvv
  split at hx
  ·obtain ⟨rfl, _⟩ := exec_ok hx
   exact .pure hb (v := .bool true) (by simp [hg, binOp, heq]) .ofKb
  ·obtain ⟨rfl, _⟩ := exec_ok hx
   exact .pure hb (v := .bool false) (by simp [hg, binOp, heq]) .ofKb
  ·exact exec_fail hx
 ·exact exec_fail hx
end
end Go.Sx

namespace Go.Sx
open Go Go.RowKit
section
variable {P : Program} {tt : TT} (T : TtOk P tt) {old : Id → Prop} {G : Gh} {w : World} {lk : Id → Option Res} (hb : ∀ b, G.g b ≠ .no → b < w.heap.size)
theorem arr_cells {n : Nat} {F : Fl} {a : List Str} {v : Value} (m : MtV G w true [.d (.arr n .str) F a] v) : ∃ cs : List Value, v = .agg cs.toArray ∧ a.length = n ∧ ∀ j, j < n → cs[j]? = some (.string (mkS (a.getD j []))) := by
 obtain ⟨cs, rfl, h⟩ := m
 obtain ⟨_, h1, h2, h3⟩ := h.one_inv
 refine ⟨cs, rfl, h2, fun j hj => ?_⟩
 have hja : j < List.length a := by rw [h2]; exact hj
 have := (h3 j (a.getD j []) (by rw [List.getD, List.getElem?_eq_getElem hja]; rfl)).1
 have h4 : ((cs.drop (j * 1)).take 1)[0]? = some (.string (mkS (a.getD j []))) := by
  rw [show (Ty.str).size = 1 from rfl] at this
  rw [this]; rfl
 rw [List.getElem?_take_of_lt (by omega), List.getElem?_drop, Nat.mul_one, Nat.add_zero] at h4
 exact h4
include T in
theorem eqItems_str {el : TypeId} (hs : isStrT tt el = true) (d : Nat) {xs ys : List Value} {a b : List Str} : ∀ (is : List Nat), (∀ j ∈ is, xs[j]? = some (.string (mkS (a.getD j []))) ∧ ys[j]? = some (.string (mkS (b.getD j [])))) →
  (Op.eqItems (d + 1) el 1 xs.toArray ys.toArray is).run P w = .ok (is.all fun j => decide (a.getD j [] = b.getD j [])) w := by
 have hag : (isAgg el).run P w = .ok false w := by
  unfold isStrT at hs
  split at hs
  ·rename_i hte; exact run_agg_at T hte w
  ·cases hs
 intro is
 induction is with
 | nil => intro _; simp [Op.eqItems]
 | cons j is ih =>
  intro h
  obtain ⟨h1, h2⟩ := h j List.mem_cons_self
  have p1 : (part el xs.toArray (j * 1)).run P w = .ok (.string (mkS (a.getD j []))) w := by
   simp [part, hag, h1]
  have p2 : (part el ys.toArray (j * 1)).run P w = .ok (.string (mkS (b.getD j []))) w := by
   simp [part, hag, h2]
  simp only [Op.eqItems, Sem.run_bind, p1, p2, Result.andThen_ok, run_equalIn_string w d el _ _ (strT T hs), str_eq]
  cases hd : decide (a.getD j [] = b.getD j []) with
  | false => simp only [Bool.not_false, if_true, Sem.run_pure, List.all_cons, hd, Bool.false_and]
  | true =>
   have := ih fun k hk => h k (List.mem_cons_of_mem _ hk)
   simp only [Bool.not_true, Bool.false_eq_true, if_false, List.all_cons, hd, Bool.true_and]
   exact this
theorem all_getD {n : Nat} {a b : List Str} (ha : a.length = n) (hb : b.length = n) : ((List.range n).all fun j => decide (a.getD j [] = b.getD j [])) = decide (a = b) := by
 refine Bool.eq_iff_iff.2 ?_
 simp only [List.all_eq_true, List.mem_range, decide_eq_true_eq]
 constructor
 ·intro h
  refine List.ext_getElem (by omega) fun i h1 h2 => ?_
  have := h i (by omega)
  rw [List.getD, List.getD, List.getElem?_eq_getElem h1, List.getElem?_eq_getElem h2] at this
  exact this
 ·rintro rfl j _
  rfl
include T hb in
theorem does_binArr {op : BinOp} {xT : TypeId} {ox oy : Operand} {x y : SV} {vx vy : Value} {e : Eff} {t : List Id} (hx : (sBinArr tt xT op x y).exec lk = some (e, t)) (mx : MtS G w x vx) (my : MtS G w y vy) :
  Does P old G w (do pure (.value (← (do eqGuard op xT ox oy vx vy; binOp op xT vx vy)))) e := by
 unfold sBinArr at hx
 split at hx
 ·rename_i n el hT
  replace ⟨hs, hx⟩ := condR hx
  split at hx
  ·split at hx
   ·rename_i F1 F2 T1 a0 T2 b0 m a m' b
    replace ⟨hE, hx⟩ := condR hx
    simp only [Bool.and_eq_true] at hE
    have h1 := Nat.eq_of_beq_eq_true hE.1
    have h2 := Nat.eq_of_beq_eq_true hE.2
    subst h1
    subst h2
    obtain ⟨xs, rfl, la, ga⟩ := arr_cells mx
    obtain ⟨ys, rfl, lb, gb⟩ := arr_cells my
    obtain ⟨hu, _, te, hte, hteT⟩ := arT_spec T hT
    obtain ⟨i, hi, _, hsz, _⟩ := info_at T hte
    have hguard : P.eqGuardType P.depth xT = false := by
     have hd : P.depth = (2 * (P.types.size + Made.depth)) + 1 + 1 := rfl
     rw [hd]
     simp only [Program.eqGuardType, hu, strT T hs]
    have hcell : P.cellsOf el = 1 := by simp [Program.cellsOf, hi, hsz, hteT, Ty.size]
    have heq : (Op.equal xT (.agg xs.toArray) (.agg ys.toArray)).run P w = .ok (decide ((a : List Str) = b)) w := by
     show (Op.equalIn (9998 + 1 + 1) xT _ _).run P w = _
     rw [run_equalIn_array w (9998 + 1) xs.toArray ys.toArray hu hi, hcell, eqItems_str T hs 9998 (a := a) (b := b) _ (fun j hj => ⟨ga j (List.mem_range.1 hj), gb j (List.mem_range.1 hj)⟩), all_getD la lb]
    have hgd := run_eqGuard_agg w op xT ox oy xs.toArray ys.toArray hguard
    split at hx
    ·obtain ⟨rfl, _⟩ := exec_ok hx
     exact .pure hb (v := .bool (decide ((a : List Str) = b))) (by simp [hgd, binOp, heq]) .ofBool
    ·obtain ⟨rfl, _⟩ := exec_ok hx
     exact .pure hb (v := .bool (!decide ((a : List Str) = b))) (by simp [hgd, binOp, heq]) .ofBool
    ·exact exec_fail hx
   ·exact exec_fail hx
  ·exact exec_fail hx
 ·exact exec_fail hx
omit hb in
include T in
theorem eqFields_flat (d : Nat) (xs ys : Array Value) : ∀ (ts : List TypeId) (l l' : List At) (cs cs' : List Value) (k : Nat) (fs : List Field) (r : Bool), eqFl tt ts l l' = some r → MtL G w l cs → MtL G w l' cs' →
  (∀ i, i < ts.length → xs[k + i]? = cs[i]?) → (∀ i, i < ts.length → ys[k + i]? = cs'[i]?) → fs.map (fun f => f.type) = ts → (∀ i f, fs[i]? = some f → f.offset = k + i) → (∀ f ∈ fs, f.name ≠ "_") → (Op.eqFields (d + 1) xs ys fs).run P w = .ok r w := by
 intro ts
 induction ts with
 | nil =>
  intro l l' cs cs' k fs r h _ _ _ _ hf _ _
  have : fs = [] := by simpa using hf
  subst this
  cases l <;> cases l' <;> simp [eqFl] at h
  subst h
  simp [Op.eqFields]
 | cons t ts ih =>
  intro l l' cs cs' k fs r h m m' hx hy hf ho hn
  unfold eqFl at h
  split at h
  ·cases ‹t :: ts = []›
  ·rename_i t1 ts1 T1 F1 a1 r1 T2 F2 b1 r2 e1
   cases e1
   split at h
   ·rename_i tq Tf nf el by_ fts hte
    split at h
    ·rename_i v hv'
     cases fs with
     | nil => cases hf
     | cons f fs =>
     simp only [List.map_cons, List.cons.injEq] at hf
     obtain ⟨hft, hfs⟩ := hf
     have hfo : f.offset = k := by simpa using ho 0 f rfl
     have hag : (isAgg f.type).run P w = .ok false w := by rw [hft]; exact run_agg_at T hte w
     obtain ⟨dd, hdd, hdi⟩ := und_at T hte
     have hpl := di_plain T hte rfl
     simp only at hpl
     subst hpl
     obtain ⟨c1, c2, rfl, ma, mr⟩ := m
     obtain ⟨c1', c2', rfl, mb, mr'⟩ := m'
     have key : ∀ {va vb : Value} {q : Bool}, c1 = [va] → c1' = [vb] → (Op.equalIn (d + 1) f.type va vb).run P w = .ok q w → r = (q && v) → (Op.eqFields (d + 1) xs ys (f :: fs)).run P w = .ok r w := by
      rintro va vb q rfl rfl hq rfl
      have p1 : (part f.type xs f.offset).run P w = .ok va w := by
       have := hx 0 (by simp)
       simp only [Nat.add_zero, List.cons_append, List.getElem?_cons_zero] at this
       simp [part, hag, hfo, this]
      have p2 : (part f.type ys f.offset).run P w = .ok vb w := by
       have := hy 0 (by simp)
       simp only [Nat.add_zero, List.cons_append, List.getElem?_cons_zero] at this
       simp [part, hag, hfo, this]
      have hnm : f.name ≠ "_" := hn f List.mem_cons_self
      simp only [Op.eqFields, hnm, ne_eq, not_false_eq_true, if_true, Sem.run_bind, p1, p2, Result.andThen_ok, hq]
      cases q with
      | false => simp
      | true =>
       simp only [Bool.not_true, Bool.false_eq_true, if_false, Bool.true_and]
       refine ih r1 r2 c2 c2' (k + 1) fs v hv' mr mr' (fun i hi => ?_) (fun i hi => ?_) hfs (fun i g hg => ?_) (fun g hg => hn g (List.mem_cons_of_mem _ hg))
       ·have := hx (i + 1) (by simp; omega)
        rw [show k + 1 + i = k + (i + 1) by omega, this]; rfl
       ·have := hy (i + 1) (by simp; omega)
        rw [show k + 1 + i = k + (i + 1) by omega, this]; rfl
       ·have := ho (i + 1) g (by simpa using hg)
        rw [this]; omega
     split at h
     ·rename_i kf na nb
      cases h
      have hu : P.underlying f.type = some (.int kf) := by
       rw [hft, hdd]; cases dd <;> simp [dinfo, TE.di] at hdi; rw [hdi]
      obtain ⟨_, g1, _⟩ := ma
      obtain ⟨_, g2, _⟩ := mb
      refine key g1 g2 (run_equalIn_int w d _ _ _ _ _ hu) (by congr 1)
     ·cases h
      have hu : P.underlying f.type = some .bool := by
       rw [hft, hdd]; cases dd <;> simp [dinfo, TE.di] at hdi; rfl
      obtain ⟨_, g1⟩ := ma
      obtain ⟨_, g2⟩ := mb
      exact key g1 g2 (run_equalIn_bool' w d _ _ _ hu) (by congr 1)
     ·cases h
      have hu : P.underlying f.type = some .string := by
       rw [hft, hdd]; cases dd <;> simp [dinfo, TE.di] at hdi; rfl
      obtain ⟨_, g1, _⟩ := ma
      obtain ⟨_, g2, _⟩ := mb
      exact key g1 g2 (run_equalIn_string w d _ _ _ hu) (by rw [str_eq])
     ·cases h
    ·cases h
   ·cases h
  ·cases h
omit hb in
theorem consec_at {T0 : Ty} {nf : Nat} : ∀ {l : List TypeId} {i j : Nat}, consec T0 nf i l = true → j < l.length → fieldOff T0 nf (i + j) = i + j := by
 intro l
 induction l with
 | nil => intro i j _ h; cases h
 | cons t r ih =>
  intro i j h hj
  simp only [consec, Bool.and_eq_true] at h
  cases j with
  | zero => exact Nat.eq_of_beq_eq_true h.1
  | succ j => have := ih (i := i + 1) (j := j) h.2 (by simpa using hj); rw [show i + (j + 1) = i + 1 + j by omega]; exact this
include T hb in
theorem does_binSt {mt : MT} (TM : MtOk P mt) {op : BinOp} {xT : TypeId} (hq : eqT mt xT = true) {ox oy : Operand} {x y : SV} {vx vy : Value} {e : Eff} {t : List Id} (hx : (sBinSt tt xT op x y).exec lk = some (e, t)) (mx : MtS G w x vx) (my : MtS G w y vy) :
  Does P old G w (do pure (.value (← (do eqGuard op xT ox oy vx vy; binOp op xT vx vy)))) e := by
 have hc := TM.2 xT hq
 unfold sBinSt at hx
 split at hx
 ·rename_i t1 T1 nf el by_ fts l l' hte
  replace ⟨hcc, hx⟩ := condR hx
  simp only [Bool.and_eq_true] at hcc
  split at hx
  ·rename_i r hr
   obtain ⟨cs, rfl, m⟩ := mx
   obtain ⟨cs', rfl, m'⟩ := my
   obtain ⟨dd, hdd, hdi⟩ := und_at T hte
   have hlen : 0 < fts.length := by simpa [Nat.blt_eq] using hcc.2
   unfold eqChk at hc
   simp only [Bool.and_eq_true, Bool.not_eq_true'] at hc
   obtain ⟨hc1, hc2, hc3⟩ := hc
   rw [hdd] at hc3
   cases dd with
   | struct fs =>
    simp only [List.all_eq_true, bne_iff_ne, ne_eq] at hc3
    have hfo : P.fieldsOf xT = fs := by simp [Program.fieldsOf, hdd]
    have hmap : fs.toList.map (fun f => (f.offset, f.type)) = offsFrom T1 nf 0 fts := by
     unfold TE.di at hdi
     cases fts with
     | nil => simp at hlen
     | cons a r => simpa [dinfo] using hdi
    have hty : fs.toList.map (fun f => f.type) = fts := by
     have : (fs.toList.map (fun f => (f.offset, f.type))).map Prod.snd = (offsFrom T1 nf 0 fts).map Prod.snd := by rw [hmap]
     rw [List.map_map] at this
     have h2 : ∀ (q : List TypeId) (i : Nat), (offsFrom T1 nf i q).map Prod.snd = q := by
      intro q
      induction q with
      | nil => intro i; rfl
      | cons a b ihq => intro i; simp [offsFrom, ihq]
     rw [h2] at this
     exact this
    have hoff : ∀ i f, fs.toList[i]? = some f → f.offset = 0 + i := by
     intro i f hf
     have h3 : (fs.toList.map (fun f => (f.offset, f.type)))[i]? = some (f.offset, f.type) := by rw [List.getElem?_map, hf]; rfl
     rw [hmap, offsFrom_get] at h3
     rw [Option.map_eq_some_iff] at h3
     obtain ⟨q, hq1, hq2⟩ := h3
     have := consec_at (i := 0) (j := i) hcc.1 (List.getElem?_eq_some_iff.1 hq1).1
     simp only [Prod.mk.injEq] at hq2
     rw [← hq2.1, this]
    have heq : (Op.equalIn 10000 xT (.agg cs.toArray) (.agg cs'.toArray)).run P w = .ok r w := by
     show (Op.equalIn (9999 + 1) xT _ _).run P w = _
     rw [run_equalIn_struct w 9999 xT cs.toArray cs'.toArray (by rw [hfo]; exact hdd) hc1, hfo]
     exact eqFields_flat T 9998 cs.toArray cs'.toArray fts l l' cs cs' 0 fs.toList r hr m m' (fun i _ => by simp) (fun i _ => by simp) hty hoff (fun f hf => hc3 f hf)
    have hgd := run_eqGuard_agg w op xT ox oy cs.toArray cs'.toArray hc2
    split at hx
    ·obtain ⟨rfl, _⟩ := exec_ok hx
     exact .pure hb (v := .bool r) (by rw [Sem.run_bind, Sem.run_bind, hgd, Result.andThen_ok, run_eql_struct, heq]; rfl) .ofBool
    ·obtain ⟨rfl, _⟩ := exec_ok hx
     exact .pure hb (v := .bool (!r)) (by rw [Sem.run_bind, Sem.run_bind, hgd, Result.andThen_ok, run_neq_struct, heq]; rfl) .ofBool
    ·exact exec_fail hx
   | _ => cases hc3
  ·exact exec_fail hx
 ·exact exec_fail hx
include T hb in
theorem does_cut {t0 : TypeId} {idb : Id} (hid : ¬ old idb) {x i : SV} {v vi : Value} {e : Eff} {t : List Id} (hrs : ∀ id R, lk id = some R → ResOk G w id R) (hx : (sCut tt t0 idb x i).exec lk = some (e, t)) (hv : ∀ p ∈ e.vc, p) (mx : MtS G w x v) (mi : MtS G w i vi) :
  Does P old G w (do pure (.value (← Instr.sliceAt t0 v (some vi) none none))) e := by
 unfold sCut at hx
 split at hx
 ·rename_i e0 el by_ id k F n hsl
  replace ⟨t', hx, _⟩ := exec_need hx
  have hv1 := mx.own
  obtain ⟨rfl, _⟩ := mi.int
  split at hx
  ·rename_i e1 f l hlk
   replace ⟨hc, hx⟩ := condR hx
   simp only [Bool.and_eq_true] at hc
   have := Ty.eq_of_beq hc.1
   subst this
   obtain ⟨rfl, _⟩ := exec_ok hx
   obtain ⟨h0, h1⟩ : 0 ≤ n ∧ n < (l.length : Int) := hv _ (by simp)
   obtain ⟨h2, h3, te, h4, h5, _⟩ := slT_spec T hsl
   obtain ⟨A, m, c, hcs, hm, hcl, hml, hwf, hblk⟩ := hrs _ _ hlk
   have hm' : m = l.length := hm
   subst hm'
   have h7 : n.toNat < l.length := idx_lt (β := e1.den) h0 h1
   have hcl' : l.length ≤ c := hcl
   have hρ : G.ρ id = .slice A l.length c := by simpa using hcs
   rcases hblk with ⟨_, hz⟩ | ⟨b, off, C, tb, fz, rfl, hl, hh, hs, hw, hj⟩
   ·exact absurd (Nat.lt_of_lt_of_le h7 hcl') (by rw [hz]; exact Nat.not_lt_zero _)
   ·have hl' : G.g b = .own id [] := hl
    obtain ⟨rfl, hsz⟩ := hw rfl
    have hch := Chg.turn (old := old) (chg := fun j => j = id) (G := G) (w := w) hb (R := fun i q => if i = id then some q else none) (fun i q r h => by
     by_cases hi : i = id
     ·exact hi
     ·simp [hi] at h) hid (v := .slice (some ⟨b, off + n.toNat * e1.size, none⟩) (l.length - n.toNat) (c - n.toNat)) rfl
    have hne : ¬ c = n.toNat := by omega
    have hmul : (l.length - n.toNat) * e1.size + n.toNat * e1.size = l.length * e1.size := by rw [← Nat.add_mul]; congr 1; omega
    have hmulc : (c - n.toNat) * e1.size + n.toNat * e1.size = c * e1.size := by rw [← Nat.add_mul]; congr 1; omega
    refine ⟨_, .slice (some ⟨b, off + n.toNat * e1.size, none⟩) (l.length - n.toNat) (c - n.toNat), w, _, ?_, .inl rfl, hch.le (fun j hj => by simp [hj]), .of1 rfl (by simp [MtA]), fun j R' hj' => ?_⟩
    ·obtain ⟨hr, _, _⟩ := run_sliceBounds (P := P) (isS := true) (len := l.length) (lo := some n) (hi := none) (vlo := some (.int k n)) (vhi := none) hcl (fun v h => by cases h; exact ⟨_, _, rfl, rfl⟩) (fun h => by cases h) (fun v h => by cases h) (fun _ => rfl) ⟨h0, Int.le_of_lt h1⟩ w
     simp only [loOf, hiOf] at hr
     rw [hv1, hρ]
     simp [Instr.sliceAt, Instr.slice, run_underlying h2, hr, run_size_at T h4, h5, hne, Addr.add]
    ·simp only [List.mem_cons, Prod.mk.injEq, Option.some.injEq, List.not_mem_nil, or_false, reduceCtorEq, and_false, false_or] at hj'
     obtain ⟨rfl, rfl⟩ := hj'
     refine ⟨some ⟨b, off + n.toNat * e1.size, none⟩, l.length - n.toNat, c - n.toNat, by simp, by simp, by omega, by omega, hwf, .inr ⟨b, off + n.toNat * e1.size, C, tb, (0, 0), rfl, by show turned G _ _ b = _; simp [turned, hl'], hh, by omega, fun _ => ⟨rfl, by omega⟩, fun q y hq => ?_⟩⟩
     have hq' : (l.drop n.toNat)[q]? = some y := hq
     rw [List.getElem?_drop] at hq'
     have h6 := hj (n.toNat + q) y hq'
     rw [show off + (n.toNat + q) * e1.size = off + n.toNat * e1.size + q * e1.size by rw [Nat.add_mul]; omega] at h6
     exact h6.keep hch.pb hc.2
  ·exact exec_fail hx
 ·exact exec_fail hx
end
end Go.Sx

namespace Go.Sx
open Go Go.RowKit Go.MapKept
def flat1 : Ty → Bool
 | .str => true
 | .int .i64 => true
 | _ => false
def flatK : Ty → Bool
 | .pr a b => flat1 a && flatK b
 | T => flat1 T
def keyCells : (K : Ty) → K.den → List Value
 | .pr a b, x => keyCells a x.1 ++ keyCells b x.2
 | .str, x => [.string (mkS x)]
 | .int k, x => [.int k x]
 | _, _ => []
def keyW (K : Ty) (x : K.den) : Value := .agg (keyCells K x).toArray
theorem wideF_flat {tt : TT} {t : TypeId} {a : Ty} (h : wideF tt t a = true) : flat1 a = true ∧ ∃ t1 nf el by_ fts, ttOf tt t = some ⟨t1, a, false, nf, el, by_, fts⟩ := by
 unfold wideF at h
 split at h
 ·rename_i t1 T nf el by_ fts hte
  simp only [Bool.and_eq_true] at h
  have := Ty.eq_of_beq h.1
  subst this
  refine ⟨?_, _, _, _, _, _, hte⟩
  unfold flat1
  have h2 := h.2
  split at h2 <;> first | rfl | cases h2
 ·cases h
theorem flat1_K {a : Ty} (h : flat1 a = true) : flatK a = true := by
 cases a <;> first | exact h | (simp [flat1] at h)
theorem wideK_flat {tt : TT} : ∀ {ts : List TypeId} {K : Ty}, wideK tt ts K = true → flatK K = true := by
 intro ts
 induction ts with
 | nil => intro K h; cases h
 | cons t ts ih =>
  intro K h
  cases ts with
  | nil => exact flat1_K (wideF_flat h).1
  | cons t2 ts =>
   cases K with
   | pr a b =>
    simp only [wideK, Bool.and_eq_true] at h
    simp only [flatK, Bool.and_eq_true]
    exact ⟨(wideF_flat h.1).1, ih h.2⟩
   | _ => cases h
section
variable {G : Gh} {w : World}
theorem flatW1_cells {a : Ty} (h : flat1 a = true) {x : a.den} {cs : List Value} (m : MtL G w (atomsOf a pF x) cs) : cs = keyCells a x := by
 cases a with
 | str =>
  obtain ⟨_, h1⟩ := m.one_inv
  exact h1.1
 | int k =>
  obtain ⟨_, h1⟩ := m.one_inv
  exact h1.1
 | _ => simp [flat1] at h
theorem MtL.split : ∀ {l m : List At} {cs : List Value}, MtL G w (l ++ m) cs → ∃ c1 c2, cs = c1 ++ c2 ∧ MtL G w l c1 ∧ MtL G w m c2 := by
 intro l
 induction l with
 | nil => intro m cs h; exact ⟨[], cs, rfl, rfl, h⟩
 | cons a r ih =>
  intro m cs h
  obtain ⟨c1, c2, rfl, h1, h2⟩ := h
  obtain ⟨d1, d2, rfl, h3, h4⟩ := ih h2
  exact ⟨c1 ++ d1, d2, by simp, ⟨c1, d1, rfl, h1, h3⟩, h4⟩
theorem flatW_cells : ∀ {K : Ty}, flatK K = true → ∀ {x : K.den} {cs : List Value}, MtL G w (atomsOf K pF x) cs → cs = keyCells K x := by
 intro K
 induction K with
 | pr a b iha ihb =>
  intro h x cs m
  simp only [flatK, Bool.and_eq_true] at h
  obtain ⟨c1, c2, rfl, h1, h2⟩ := MtL.split (show MtL G w (atomsOf a pF x.1 ++ atomsOf b pF x.2) cs from m)
  rw [flatW1_cells h.1 h1, ihb h.2 h2]
  rfl
 | str => intro h x cs m; exact flatW1_cells (a := .str) h m
 | int k => intro h x cs m; exact flatW1_cells (a := .int k) h m
 | _ => intro h; simp [flatK, flat1] at h
end
theorem flat1_eq {a : Ty} (h : flat1 a = true) {x y : a.den} (e : keyEq a x y = true) : x = y := by
 cases a with
 | str => simpa only [keyEq, decide_eq_true_eq] using e
 | int k => simpa only [keyEq, decide_eq_true_eq] using e
 | _ => simp [flat1] at h
theorem flat_eq : ∀ {K : Ty}, flatK K = true → ∀ {x y : K.den}, keyEq K x y = true → x = y := by
 intro K
 induction K with
 | pr a b iha ihb =>
  intro h x y e
  simp only [flatK, Bool.and_eq_true] at h
  simp only [keyEq, Bool.and_eq_true] at e
  exact Prod.ext (flat1_eq h.1 e.1) (ihb h.2 e.2)
 | str => intro h x y e; exact flat1_eq (a := .str) h e
 | int k => intro h x y e; exact flat1_eq (a := .int k) h e
 | _ => intro h; simp [flatK, flat1] at h
theorem flat_bits1 : ∀ {K : Ty} {x : K.den} {v : Value}, v ∈ keyCells K x → ∀ n, Instr.sameBits n v v = true := by
 intro K
 induction K with
 | pr a b iha ihb =>
  intro x v h n
  simp only [keyCells, List.mem_append] at h
  rcases h with h | h
  ·exact iha h n
  ·exact ihb h n
 | str =>
  intro x v h n
  simp only [keyCells, List.mem_singleton] at h
  subst h
  cases n <;> simp only [Instr.sameBits] <;> exact (bytes_beq _ _).2 rfl
 | int k =>
  intro x v h n
  simp only [keyCells, List.mem_singleton] at h
  subst h
  cases n <;> simp [Instr.sameBits]
 | _ => intro x v h; simp [keyCells] at h
theorem flat_bits {K : Ty} (x : K.den) : Instr.sameBits 10000 (keyW K x) (keyW K x) = true := by
 show Instr.sameBits (9999 + 1) (.agg _) (.agg _) = true
 simp only [Instr.sameBits, beq_self_eq_true, Bool.true_and, List.all_eq_true]
 intro p hp
 obtain ⟨i, hi, e⟩ := List.getElem_of_mem hp
 rw [List.getElem_zip] at e
 rw [← e]
 exact flat_bits1 (by simpa using List.getElem_mem _) 9999
theorem eqFl_flat {tt : TT} : ∀ {ts : List TypeId} {K : Ty}, wideK tt ts K = true → ∀ {x y : K.den}, eqFl tt ts (atomsOf K pF x) (atomsOf K pF y) = some (keyEq K x y) := by
 intro ts
 induction ts with
 | nil => intro K h; cases h
 | cons t ts ih =>
  intro K h x y
  cases ts with
  | nil =>
   obtain ⟨h1, t1, nf, el, by_, fts, hte⟩ := wideF_flat h
   cases K with
   | str => simp [eqFl, atomsOf, hte, keyEq]
   | int k => cases k <;> simp [flat1] at h1; simp [eqFl, atomsOf, hte, keyEq]
   | _ => simp [flat1] at h1
  | cons t2 ts =>
   cases K with
   | pr a b =>
    simp only [wideK, Bool.and_eq_true] at h
    obtain ⟨h1, t1, nf, el, by_, fts, hte⟩ := wideF_flat h.1
    have hr := ih h.2 (x := x.2) (y := y.2)
    cases a with
    | str =>
     show eqFl tt (t :: t2 :: ts) (.d .str pF x.1 :: atomsOf b pF x.2) (.d .str pF y.1 :: atomsOf b pF y.2) = _
     rw [eqFl, hte]; simp only [hr]; rfl
    | int k =>
     cases k <;> simp [flat1] at h1
     show eqFl tt (t :: t2 :: ts) (.d (.int .i64) pF x.1 :: atomsOf b pF x.2) (.d (.int .i64) pF y.1 :: atomsOf b pF y.2) = _
     rw [eqFl, hte]; simp only [hr]; rfl
    | _ => simp [flat1] at h1
   | _ => cases h
section
variable {P : Program} {tt : TT} {mt : MT} (T : TtOk P tt) (TM : MtOk P mt)
include T in
theorem check_flat (em : Bool) (n : Nat) (w : World) (xs : Array Value) {t : TypeId} {fa : Array Field} (hu : P.underlying t = some (.struct fa)) (h : ∀ f ∈ fa.toList, ∃ te v, ttOf tt f.type = some te ∧ te.ag = false ∧ (te.T = .str ∨ te.T = .int .i64) ∧ xs[f.offset]? = some v) :
  (Instr.checkKey em (n + 2) t (.agg xs)).run P w = .ok () w := by
 rw [show n + 2 = (n + 1) + 1 from rfl, Instr.checkKey]
 simp only [Sem.run_bind, run_underlying hu, Result.andThen_ok]
 rw [← Array.forIn_toList]
 generalize fa.toList = fs at h
 clear hu
 induction fs with
 | nil => simp
 | cons f fs ih =>
  obtain ⟨te, v, hte, hag, hT, hv⟩ := h f List.mem_cons_self
  obtain ⟨t1, K, ka, nf, el, by_, fts⟩ := te
  simp only at hag hT
  subst hag
  have hk : keyPlain K = true := by rcases hT with rfl | rfl <;> rfl
  have hagr : (isAgg f.type).run P w = .ok false w := run_agg_at T hte w
  have p1 : (part f.type xs f.offset).run P w = .ok v w := by simp [part, hagr, hv]
  have c1 : (Instr.checkKey em (n + 1) f.type v).run P w = .ok () w := by
   rcases key_und T hte hk with ⟨_, hd⟩ | ⟨k, _, hd⟩
   ·simp [Instr.checkKey, run_underlying hd]
   ·simp [Instr.checkKey, run_underlying hd]
  have hr := ih fun g hg => h g (List.mem_cons_of_mem _ hg)
  simp only [List.forIn_cons, Sem.run_bind, Sem.run_ite]
  split
  ·simp only [p1, c1, Result.andThen_ok, Sem.run_pure]
   exact hr
  ·simp only [Sem.run_pure, Result.andThen_ok]
   exact hr
include T TM in
theorem key_wide {t t1 : TypeId} {K : Ty} {nf el by_ : Nat} {fts : List TypeId} (h : ttOf tt t = some ⟨t1, K, true, nf, el, by_, fts⟩) (hq : eqT mt t = true) (hw : wideK tt fts K = true) (hc : consec K nf 0 fts = true) : KeyOk P t true K (keyW K) := by
 have hfl := wideK_flat hw
 have hcq := TM.2 t hq
 obtain ⟨dd, hdd, hdi⟩ := und_at T h
 unfold eqChk at hcq
 simp only [Bool.and_eq_true, Bool.not_eq_true'] at hcq
 obtain ⟨hc1, hc2, hc3⟩ := hcq
 rw [hdd] at hc3
 cases dd with
 | struct fs =>
  simp only [List.all_eq_true, bne_iff_ne, ne_eq] at hc3
  have hne : fts ≠ [] := by rintro rfl; cases hw
  have hmap : fs.toList.map (fun f => (f.offset, f.type)) = offsFrom K nf 0 fts := by
   unfold TE.di at hdi
   cases fts with
   | nil => exact absurd rfl hne
   | cons a r => simpa [dinfo] using hdi
  have hty : fs.toList.map (fun f => f.type) = fts := by
   have : (fs.toList.map (fun f => (f.offset, f.type))).map Prod.snd = (offsFrom K nf 0 fts).map Prod.snd := by rw [hmap]
   rw [List.map_map] at this
   have h2 : ∀ (q : List TypeId) (i : Nat), (offsFrom K nf i q).map Prod.snd = q := by
    intro q
    induction q with
    | nil => intro i; rfl
    | cons a b ihq => intro i; simp [offsFrom, ihq]
   rw [h2] at this
   exact this
  have hoff : ∀ i f, fs.toList[i]? = some f → f.offset = 0 + i := by
   intro i f hf
   have h3 : (fs.toList.map (fun f => (f.offset, f.type)))[i]? = some (f.offset, f.type) := by rw [List.getElem?_map, hf]; rfl
   rw [hmap, offsFrom_get] at h3
   rw [Option.map_eq_some_iff] at h3
   obtain ⟨q, hq1, hq2⟩ := h3
   have := consec_at (i := 0) (j := i) hc (List.getElem?_eq_some_iff.1 hq1).1
   simp only [Prod.mk.injEq] at hq2
   rw [← hq2.1, this]
  have hfo : P.fieldsOf t = fs := by simp [Program.fieldsOf, hdd]
  have val : ∀ {G : Gh} {w : World} {x : K.den} {v : Value}, MtV G w true (atomsOf K pF x) v → v = keyW K x := fun {G w x v} m => by
   obtain ⟨cs, rfl, m⟩ := m
   rw [flatW_cells hfl m]; rfl
  have hcells : ∀ {ts : List TypeId} {K' : Ty}, wideK tt ts K' = true → ∀ (x : K'.den) (i : Nat) (u : TypeId), ts[i]? = some u → ∃ te v, ttOf tt u = some te ∧ te.ag = false ∧ (te.T = .str ∨ te.T = .int .i64) ∧ (keyCells K' x)[i]? = some v := by
   intro ts
   induction ts with
   | nil => intro K' h; cases h
   | cons a ts ih =>
    intro K' hK x i u hu
    cases ts with
    | nil =>
     obtain ⟨h1, t1, nf, el, by_, fts, hte⟩ := wideF_flat hK
     cases i with
     | zero =>
      simp only [List.getElem?_cons_zero, Option.some.injEq] at hu
      subst hu
      refine ⟨_, (keyCells K' x).headD undef, hte, rfl, ?_, ?_⟩
      ·cases K' with
       | str => exact .inl rfl
       | int k => cases k <;> simp [flat1] at h1; exact .inr rfl
       | _ => simp [flat1] at h1
      ·cases K' with
       | str => rfl
       | int k => rfl
       | _ => simp [flat1] at h1
     | succ i => simp at hu
    | cons t2 ts =>
     cases K' with
     | pr a' b' =>
      simp only [wideK, Bool.and_eq_true] at hK
      obtain ⟨h1, t1, nf, el, by_, fts, hte⟩ := wideF_flat hK.1
      have hl : (keyCells a' x.1).length = 1 := by
       cases a' with
       | str => rfl
       | int k => rfl
       | _ => simp [flat1] at h1
      cases i with
      | zero =>
       simp only [List.getElem?_cons_zero, Option.some.injEq] at hu
       subst hu
       refine ⟨_, (keyCells a' x.1).headD undef, hte, rfl, ?_, ?_⟩
       ·cases a' with
        | str => exact .inl rfl
        | int k => cases k <;> simp [flat1] at h1; exact .inr rfl
        | _ => simp [flat1] at h1
       ·cases a' with
        | str => rfl
        | int k => rfl
        | _ => simp [flat1] at h1
      | succ i =>
       obtain ⟨te, v, q1, q2, q3, q4⟩ := ih hK.2 x.2 i u (by simpa using hu)
       refine ⟨te, v, q1, q2, q3, ?_⟩
       simp only [keyCells]
       rw [List.getElem?_append_right (by rw [hl]; omega), hl]
       simpa using q4
     | _ => cases hK
  have chk : ∀ (em : Bool) (x : K.den) (w : World), (Instr.checkKey em 10000 t (keyW K x)).run P w = .ok () w := fun em x w => by
   show (Instr.checkKey em (9998 + 2) t (.agg (keyCells K x).toArray)).run P w = _
   refine check_flat T em 9998 w _ hdd fun f hf => ?_
   obtain ⟨i, hi, e⟩ := List.getElem_of_mem hf
   have hf' : fs.toList[i]? = some f := by rw [List.getElem?_eq_getElem hi, e]
   have hu : fts[i]? = some f.type := by rw [← hty, List.getElem?_map, hf']; rfl
   obtain ⟨te, v, q1, q2, q3, q4⟩ := hcells hw x i f.type hu
   exact ⟨te, v, q1, q2, q3, by rw [hoff i f hf', Nat.zero_add]; simpa using q4⟩
  have heq : ∀ {G : Gh} {w : World} {x y : K.den} {v u : Value}, MtV G w true (atomsOf K pF x) v → MtV G w true (atomsOf K pF y) u → (Op.equal t v u).run P w = .ok (keyEq K x y) w := fun {G w x y v u} m m' => by
   obtain ⟨cs, rfl, m⟩ := m
   obtain ⟨cs', rfl, m'⟩ := m'
   show (Op.equalIn (9999 + 1) t _ _).run P w = _
   rw [run_equalIn_struct w 9999 t cs.toArray cs'.toArray (by rw [hfo]; exact hdd) hc1, hfo]
   exact eqFields_flat T 9998 cs.toArray cs'.toArray fts _ _ cs cs' 0 fs.toList _ (eqFl_flat hw) m m' (fun i _ => by simp) (fun i _ => by simp) hty hoff (fun f hf => hc3 f hf)
  have ask : ∀ {G : Gh} {w : World} {V : Ty} {av : Bool} {F : Fl} {x : K.den} {v : Value}, MtV G w true (atomsOf K pF x) v → ∀ {l : List (K.den × V.den)} {es : List MapEntry} {i : Nat}, MpOk G w true av K V F l es → (Instr.findAsking t v es i).run P w = .ok (fnd K x l es i) w := by
   intro G w V av F x v mv l
   induction l with
   | nil => intro es i m; rw [show es = [] from m]; simp [Instr.findAsking, fnd]
   | cons p l ih =>
    intro es i m
    obtain ⟨e, es', rfl, h1, h2, h3⟩ := m
    simp only [Instr.findAsking, fnd, Sem.run_bind, heq mv h1, Result.andThen_ok]
    cases keyEq K x p.1 with
    | true => simp
    | false =>
     simp only [Bool.false_eq_true, if_false, cond_false]
     exact ih h3
  exact ⟨val, flat_eq hfl, chk, fun {G w V av F x l es} hm v mv => by
   rw [run_findKey_eq w (by rw [hdd]) v es]
   exact ask mv hm, flat_bits⟩
 | _ => cases hc3
include T TM in
theorem keys_ok : KeysOk P tt mt := by
 intro t te hte hk
 obtain ⟨_, ht, _⟩ := T.at hte
 obtain ⟨t1, K, ka, nf, el, by_, fts⟩ := te
 simp only at ht
 subst ht
 cases ka with
 | false => exact ⟨_, key_plain T hte hk⟩
 | true =>
  simp only [keyTy, Bool.and_eq_true] at hk
  exact ⟨_, key_wide T TM hte hk.1 hk.2.1 hk.2.2⟩
end
end Go.Sx

namespace Go.Sx
open Go Go.RowKit
section
variable {G : Gh} {w : World}
theorem MtSs.len : ∀ {vals : List SV} {vs : List Value}, MtSs G w vals vs → vals.length = vs.length := by
 intro vals
 induction vals with
 | nil => intro vs h; cases vs with
  | nil => rfl
  | cons _ _ => exact h.elim
 | cons s ss ih => intro vs h; cases vs with
  | nil => exact h.elim
  | cons v vs => rw [List.length_cons, List.length_cons, ih h.2]
theorem MtSs.nil' {vals : List SV} (h : MtSs G w vals []) : vals = [] := by cases vals with
 | nil => rfl
 | cons _ _ => exact h.elim
theorem MtSs.one' {vals : List SV} {v : Value} (h : MtSs G w vals [v]) : ∃ s, vals = [s] ∧ MtS G w s v := by cases vals with
 | nil => exact h.elim
 | cons s ss => have := h.2.nil'; subst this; exact ⟨s, rfl, h.1⟩
theorem MtSs.two' {vals : List SV} {v u : Value} (h : MtSs G w vals [v, u]) : ∃ s r, vals = [s, r] ∧ MtS G w s v ∧ MtS G w r u := by cases vals with
 | nil => exact h.elim
 | cons s ss => obtain ⟨r, rfl, hr⟩ := h.2.one'; exact ⟨s, r, rfl, h.1, hr⟩
theorem MtSs.three' {vals : List SV} {v u x : Value} (h : MtSs G w vals [v, u, x]) : ∃ s r q, vals = [s, r, q] ∧ MtS G w s v ∧ MtS G w r u ∧ MtS G w q x := by cases vals with
 | nil => exact h.elim
 | cons s ss => obtain ⟨r, q, rfl, hr, hq⟩ := h.2.two'; exact ⟨s, r, q, rfl, h.1, hr, hq⟩
theorem asAts_sound : ∀ {vals : List SV} {l : List At} {vs : List Value}, asAts vals = some l → MtSs G w vals vs → MtC G w l vs := by
 intro vals
 induction vals with
 | nil =>
  intro l vs h m
  simp only [asAts, Option.some.injEq] at h
  subst h
  cases vs with
  | nil => rfl
  | cons _ _ => exact m.elim
 | cons s ss ih =>
  intro l vs h m
  cases vs with
  | nil => exact m.elim
  | cons v vs =>
   unfold asAts at h
   split at h
   ·rename_i heq; cases heq
   ·rename_i a r heq
    cases heq
    split at h
    ·rename_i l' hl'
     cases h
     exact ⟨v, vs, rfl, m.1.at1.1, m.1.at1.2, ih hl' m.2⟩
    ·cases h
   ·cases h
end
section
variable {P : Program} {C : Ctx} (T : TtOk P C.tt) (TM : MtOk P C.mt) {old : Id → Prop} {G : Gh} {w : World} {lk : Id → Option Res} (hb : ∀ b, G.g b ≠ .no → b < w.heap.size) (h1 : RhoOk G)
include T hb in
theorem does_bin {op : BinOp} {xT : TypeId} {ox oy : Operand} {x y : SV} {vx vy : Value} {e : Eff} {t : List Id} (hx : (sBin C.tt xT op x y).exec lk = some (e, t)) (hv : ∀ p ∈ e.vc, p) (mx : MtS G w x vx) (my : MtS G w y vy) :
  Does P old G w (do pure (.value (← (do eqGuard op xT ox oy vx vy; binOp op xT vx vy)))) e := by
 unfold sBin at hx
 split at hx
 ·split at hx
  ·obtain ⟨rfl, ha⟩ := mx.int
   obtain ⟨rfl, hb'⟩ := my.int
   have := does_binI (P := P) (old := old) (xT := xT) hb ha hb' hx hv
   simpa [eqGuard_at_int] using this
  ·obtain ⟨rfl, ha⟩ := mx.str
   obtain ⟨rfl, hb'⟩ := my.str
   have := does_binS (P := P) (old := old) (xT := xT) hb hx hv
   have he : ∀ a b, eqGuard op xT ox oy (.string a) (.string b) = pure () := fun a b => by cases op <;> rfl
   simpa [he] using this
  ·replace ⟨hB, hx⟩ := condR hx
   have ha := mx.boolV
   have hb' := my.boolV
   subst ha
   subst hb'
   have := does_binB (P := P) (old := old) (xT := xT) T hB hb hx
   simpa [eqGuard_at_bool] using this
  ·exact exec_fail hx
 ·exact exec_fail hx
include T in
theorem erT {t : TypeId} (h : isErT C.tt t = true) : P.underlying t = some (.interface (P.methodsAt t)) := by
 unfold isErT at h
 split at h
 ·rename_i t' ag nf el by_ hte
  obtain ⟨d, hd, hi⟩ := und_at T hte
  cases d <;> simp [dinfo, TE.di] at hi
  simp only [Program.methodsAt, hd]
 ·cases h
include T hb in
theorem does_erNil {op : BinOp} {xT : TypeId} {ox oy : Operand} {x y : SV} {vx vy : Value} {e : Eff} {t : List Id} (hn : isNilC oy = true) (hy : isErV y = true) (hx : (sErNil C.tt xT op x).exec lk = some (e, t)) (mx : MtS G w x vx) (my : MtS G w y vy) :
  Does P old G w (do pure (.value (← (do eqGuard op xT ox oy vx vy; binOp op xT vx vy)))) e := by
 have hoy : oy = .const .nilIface := by
  unfold isNilC at hn
  split at hn
  ·rfl
  ·cases hn
 subst hoy
 have hvy : vy = .nilIface := by
  unfold isErV at hy
  split at hy
  ·rename_i F z
   obtain ⟨u, hu, h⟩ := (show ErC G w [vy] z from my.at1.2.2)
   obtain rfl : vy = u := by simpa using hu
   have hz : z = 0 := Nat.eq_of_beq_eq_true hy
   rcases h with h | h | h
   ·exact h.2
   ·rw [hz] at h; exact absurd h.1 (by decide)
   ·rw [hz] at h; exact absurd h.1 (by decide)
  ·cases hy
 subst hvy
 unfold sErNil at hx
 cases hq : isErT C.tt xT with
 | false => rw [hq] at hx; exact exec_fail hx
 | true =>
 have hu := erT T hq
 rw [hq] at hx
 simp only [Bool.not_true, cond_false] at hx
 split at hx
 ·rename_i F z
  obtain ⟨u, huv, h⟩ := (show ErC G w [vx] z from mx.at1.2.2)
  obtain rfl : vx = u := by simpa using huv
  have hcase : (Nat.beq z 0 = true ∧ vx = .nilIface) ∨ (Nat.beq z 0 = false ∧ ∃ ty r, vx = .iface ty r) := by
   rcases h with ⟨h1, h2⟩ | ⟨h1, _, _, _, _, A, _, _, h2⟩ | ⟨h1, ty, r, h2⟩
   ·exact .inl ⟨by rw [h1]; rfl, h2⟩
   ·exact .inr ⟨by rw [h1]; rfl, _, _, h2⟩
   ·exact .inr ⟨by rw [h1]; rfl, _, _, h2⟩
  have hg1 : eqGuard op xT ox (.const .nilIface) .nilIface .nilIface = pure () := by cases op <;> simp [eqGuard] <;> rfl
  have hg2 : ∀ ty r, eqGuard op xT ox (.const .nilIface) (.iface ty r) .nilIface = pure () := fun ty r => by cases op <;> simp [eqGuard] <;> rfl
  split at hx
  ·obtain ⟨rfl, _⟩ := exec_ok hx
   rcases hcase with ⟨h1, rfl⟩ | ⟨h1, ty, r, rfl⟩
   ·rw [h1]
    exact .pure hb (v := .bool true) (by simp [hg1, run_eql_nil_nil (w := w) xT hu]) .ofBool
   ·rw [h1]
    exact .pure hb (v := .bool false) (by simp [hg2, run_eql_held_nil (w := w) xT ty r hu]) .ofBool
  ·obtain ⟨rfl, _⟩ := exec_ok hx
   rcases hcase with ⟨h1, rfl⟩ | ⟨h1, ty, r, rfl⟩
   ·rw [h1]
    exact .pure hb (v := .bool false) (by simp [hg1, run_neq_nil_nil (w := w) xT hu]) .ofBool
   ·rw [h1]
    exact .pure hb (v := .bool true) (by simp [hg2, run_neq_held_nil (w := w) xT ty r hu]) .ofBool
  ·exact exec_fail hx
 ·exact exec_fail hx
def isCall : Op → Bool
 | .call c => (match c.callee with | .value _ => true | _ => false)
 | _ => false
include T TM hb h1 in
theorem does_op {o : Oper} {idb : Id} {vals : List SV} {e : Eff} {t : List Id} {ρ : Operand → Value} (mv : MtSs G w vals (o.op.operands.toList.map ρ)) (hids : ∀ s ∈ vals, ∀ j ∈ s.ids, old j) (hfr : ∀ k, ¬ old (idb.plus k))
  (hrs : ∀ id R, lk id = some R → ResOk G w id R ∧ old id ∧ ∀ j ∈ R.ids, old j) (hx : (opEff C o.op idb vals).exec lk = some (e, t)) (hv : ∀ p ∈ e.vc, p) (hc : isCall o.op = false) : Does P old G w (execOp ρ o) e := by
 have hid : ¬ old idb := by have := hfr 0; rwa [Id.plus_zero] at this
 have hrs' : ∀ id R, lk id = some R → ResOk G w id R := fun i R h => (hrs i R h).1
 obtain ⟨dst, op, type, pos, after, guard⟩ := o
 simp only at mv hx hc
 cases op
 case move x =>
  obtain ⟨s, rfl, m⟩ := MtSs.one' (v := ρ x) mv
  exact does_val hb hx m
 case assign x =>
  obtain ⟨s, rfl, m⟩ := MtSs.one' (v := ρ x) mv
  exact does_val hb hx m
 case pick c a b =>
  obtain ⟨s, r, q, rfl, m1, m2, m3⟩ := MtSs.three' (v := ρ c) (u := ρ a) (x := ρ b) mv
  exact does_pick hb hx m1 m2 m3
 case alloc te =>
  simp only [opEff] at hx
  split at hx
  ·rename_i hte
   obtain ⟨rfl, _⟩ := exec_ok hx
   exact does_alloc hb T hid hte
  ·exact exec_fail hx
 case box te x =>
  obtain ⟨s, rfl, m⟩ := MtSs.one' (v := ρ x) mv
  simp only [opEff] at hx
  split at hx
  ·rename_i ag l heq
   cases heq
   obtain ⟨rfl, _⟩ := exec_ok hx
   exact does_box hb hid (hids _ List.mem_cons_self) m
  ·exact exec_fail hx
 case build te ps =>
  have : (ps.toList.map fun p => (p.1, ρ p.2)).map (·.1) = ps.toList.map (·.1) := by simp [Function.comp_def]
  have h2 : (ps.map fun (i, x) => (i, ρ x)) = (ps.toList.map fun p => (p.1, ρ p.2)).toArray := by
   apply Array.ext'
   simp
  simp only [execOp]
  rw [h2]
  exact does_build (vals := vals) T hb (by rw [this]; exact hx) (by simpa [Op.operands, Function.comp_def] using mv)
 case buildSlice te n ps =>
  simp only [opEff] at hx
  split at hx
  ·rename_i Te el by_ hT
   have : (ps.toList.map fun p => (p.1, ρ p.2)).map (·.1) = ps.toList.map (·.1) := by simp [Function.comp_def]
   have h2 : (ps.map fun (i, x) => (i, ρ x)) = (ps.toList.map fun p => (p.1, ρ p.2)).toArray := by
    apply Array.ext'
    simp
   simp only [execOp]
   rw [h2]
   exact does_buildSlice (vals := vals) T hb hT hid hids (by rw [this]; exact hx) (by simpa [Op.operands, Function.comp_def] using mv)
  ·exact exec_fail hx
 case load te x =>
  obtain ⟨s, rfl, m⟩ := MtSs.one' (v := ρ x) mv
  simp only [opEff] at hx
  cases hX : isX s with
  | true => rw [hX] at hx; exact does_loadX T hb h1 hrs' hx hv m
  | false => rw [hX] at hx; exact does_load T hb h1 hfr hrs hx hv m
 case store te x y =>
  obtain ⟨s, r, rfl, m1, m2⟩ := MtSs.two' (v := ρ x) (u := ρ y) mv
  simp only [opEff] at hx
  replace ⟨hf, hx⟩ := condR hx
  cases hX : isX s with
  | true => rw [hX] at hx; exact does_storeX T hb h1 hfr hrs hf hx hv m1 m2
  | false => rw [hX] at hx; exact does_store T hb h1 hfr hrs (hids r (by simp)) hf hx hv m1 m2
 case nilCheck x =>
  obtain ⟨s, rfl, m⟩ := MtSs.one' (v := ρ x) mv
  simp only [opEff] at hx
  obtain ⟨b, h2, h3⟩ : ∃ b, ρ x = .pointer (some b) ∧ Does P old G w (pure (.value (ρ x))) e := by
   cases hX : isX s with
   | true => rw [hX] at hx; exact does_nilCheckX (P := P) (old := old) hb hrs' hx hv m
   | false => rw [hX] at hx; exact does_nilCheck (P := P) (old := old) hb hx m
  show Does P old G w (match ρ x with
   | .pointer none | .nilIface | .nilFunc => _
   | .func (.method name) first captured => _
   | x => pure (.value x)) e
  rw [h2] at h3 ⊢
  exact h3
 case binOp b xT x y yT =>
  obtain ⟨s, r, rfl, m1, m2⟩ := MtSs.two' (v := ρ x) (u := ρ y) mv
  simp only [opEff] at hx
  cases hni : (isNilC y && isErV r) with
  | true =>
   rw [hni] at hx
   simp only [Bool.and_eq_true] at hni
   exact does_erNil T hb hni.1 hni.2 hx m1 m2
  | false =>
  rw [hni] at hx
  simp only [cond_false] at hx
  cases hq : eqT C.mt xT with
  | true => rw [hq] at hx; exact does_binSt T hb TM hq hx m1 m2
  | false =>
  rw [hq] at hx
  simp only [cond_false] at hx
  cases hn : isNilpV r with
  | true =>
   rw [hn] at hx
   have hy : ρ y = .pointer none := by
    unfold isNilpV at hn
    split at hn
    ·simpa using (show [ρ y] = [Value.pointer none] from m2.at1.2)
    ·cases hn
   have := does_ptrNil (old := old) (ox := x) (oy := y) T hb hrs' hx hv m1
   show Does P old G w (do pure (.value (← (do eqGuard b xT x y (ρ x) (ρ y); binOp b xT (ρ x) (ρ y))))) e
   rw [hy]
   exact this
  | false =>
  rw [hn] at hx
  cases ha : isArrV s with
  | true => rw [ha] at hx; exact does_binArr T hb hx m1 m2
  | false =>
  rw [ha] at hx
  simp only [cond_false] at hx
  split at hx
  ·rename_i hnil
   have hy : ρ y = .slice none 0 0 := by
    unfold isNilsV at hnil
    split at hnil
    ·simpa using (show [ρ y] = [Value.slice none 0 0] from m2.at1.2)
    ·cases hnil
   have := does_eqNil (old := old) (ox := x) (oy := y) T hb hrs' hx m1
   show Does P old G w (do pure (.value (← (do eqGuard .eql xT x y (ρ x) (ρ y); binOp .eql xT (ρ x) (ρ y))))) e
   rw [hy]
   exact this
  ·exact does_bin T hb hx hv m1 m2
 case unOp op ty x =>
  obtain ⟨s, rfl, m⟩ := MtSs.one' (v := ρ x) mv
  cases op <;> first
   | exact does_not hb hx m
   | exact does_neg hb hx hv m
   | exact exec_fail hx
 case convert src dst x =>
  obtain ⟨s, rfl, m⟩ := MtSs.one' (v := ρ x) mv
  exact does_convert T hb hid hrs' hx hv m
 case makeFunc fn first caps =>
  cases fn with
  | func f =>
   simp only [opEff] at hx
   split at hx
   ·rename_i l hf hl
    obtain ⟨rfl, _⟩ := exec_ok hx
    have hf' : first = #[] := by apply Array.ext'; simpa using hf
    subst hf'
    have h2 := asAts_sound hl mv
    exact .pure hb (v := .func (.func f) #[] (caps.map ρ)) (by simp [execOp, Instr.makeFunc]) ⟨(caps.map ρ).toList, by rw [Array.toArray_toList], by simpa [Op.operands] using h2⟩
   ·exact exec_fail hx
  | _ => exact exec_fail hx
 case makeSlice te l c =>
  obtain ⟨s, r, rfl, m1, m2⟩ := MtSs.two' (v := ρ l) (u := ρ c) mv
  exact does_makeSlice T hb hid hx hv m1 m2
 case slice te x lo hi mx =>
  cases mx with
  | some q =>
   cases lo with
   | none => cases hi <;> exact exec_fail hx
   | some a =>
    cases hi with
    | none => exact exec_fail hx
    | some b =>
     simp only [opEff] at hx
     split at hx
     ·rename_i x' a' b' m'
      obtain ⟨mx', ma', mb', mm', _⟩ := (show MtSs G w [x', a', b', m'] [ρ x, ρ a, ρ b, ρ q] by simpa [Op.operands] using mv)
      exact does_slice3 T hb hrs' hx hv mx' ma' mb' mm'
     ·exact exec_fail hx
  | none =>
   cases lo with
   | none =>
    cases hi with
    | none =>
     obtain ⟨s, rfl, m⟩ := MtSs.one' (v := ρ x) (by simpa [Op.operands] using mv)
     simp only [opEff] at hx
     cases hX : isPtrV s with
     | true => rw [hX] at hx; exact does_sliceX T hb hx m
     | false => rw [hX] at hx; exact does_slice (lo := none) (hi := none) (vlo := none) (vhi := none) T hb hrs' hx hv m (by simp) (by simp) (by simp) (by simp)
    | some b =>
     obtain ⟨s, r, rfl, m, m2⟩ := MtSs.two' (v := ρ x) (u := ρ b) (by simpa [Op.operands] using mv)
     exact does_slice (lo := none) (hi := some r) (vlo := none) (vhi := some (ρ b)) T hb hrs' hx hv m (by simp) (by simp) (by simpa using m2) (by simp)
   | some a =>
    cases hi with
    | none =>
     obtain ⟨s, r, rfl, m, m2⟩ := MtSs.two' (v := ρ x) (u := ρ a) (by simpa [Op.operands] using mv)
     simp only [opEff] at hx
     cases hX : (dupT C.tt te && isOwnV s) with
     | true => rw [hX] at hx; exact does_cut T hb hid hrs' hx hv m m2
     | false =>
     rw [hX] at hx
     exact does_slice (lo := some r) (hi := none) (vlo := some (ρ a)) (vhi := none) T hb hrs' hx hv m (by simpa using m2) (by simp) (by simp) (by simp)
    | some b =>
     obtain ⟨s, r, q, rfl, m, m2, m3⟩ := MtSs.three' (v := ρ x) (u := ρ a) (x := ρ b) (by simpa [Op.operands] using mv)
     exact does_slice (lo := some r) (hi := some q) (vlo := some (ρ a)) (vhi := some (ρ b)) T hb hrs' hx hv m (by simpa using m2) (by simp) (by simpa using m3) (by simp)
 case fieldAddr s x f =>
  obtain ⟨s, rfl, m⟩ := MtSs.one' (v := ρ x) mv
  simp only [opEff] at hx
  cases hX : isX s with
  | true => rw [hX] at hx; exact does_fieldAddrX T hb hx m
  | false => rw [hX] at hx; exact does_fieldAddr T hb hx m
 case field s x f =>
  obtain ⟨s, rfl, m⟩ := MtSs.one' (v := ρ x) mv
  exact does_field T hb h1 hx m
 case indexAddr te x i =>
  obtain ⟨s, r, rfl, m1, m2⟩ := MtSs.two' (v := ρ x) (u := ρ i) mv
  simp only [opEff] at hx
  cases hX : isPtrV s with
  | true => rw [hX] at hx; exact does_indexAddrX T hb hx hv m1 m2
  | false => rw [hX] at hx; exact does_indexAddr T hb hrs' hx hv m1 m2
 case sliceToArrayPointer te x =>
  obtain ⟨s, rfl, m⟩ := MtSs.one' (v := ρ x) mv
  exact does_toArr T hb hx hv m
 case index te x i =>
  obtain ⟨s, r, rfl, m1, m2⟩ := MtSs.two' (v := ρ x) (u := ρ i) mv
  exact does_index hb T hx hv m1 m2
 case makeMap te r =>
  cases r with
  | some _ => exact exec_fail hx
  | none => exact does_makeMap hb hid hx
 case mapUpdate te m k x =>
  obtain ⟨s, r, q, rfl, m1, m2, m3⟩ := MtSs.three' (v := ρ m) (u := ρ k) (x := ρ x) mv
  exact does_mapUpdate T TM hb (keys_ok T TM) hrs' hx m1 m2 m3
 case lookup te m k ok =>
  obtain ⟨s, r, rfl, m1, m2⟩ := MtSs.two' (v := ρ m) (u := ρ k) mv
  exact does_lookup T TM hb (keys_ok T TM) hrs' hx m1 m2
 case extract x i =>
  obtain ⟨s, rfl, m⟩ := MtSs.one' (v := ρ x) mv
  exact does_extract hb hx m
 case call c =>
  obtain ⟨callee, args, argTypes⟩ := c
  cases callee with
  | value f => cases hc
  | invoke _ _ => exact exec_fail hx
  | builtin b =>
   cases b <;> first
    | exact exec_fail hx
    | skip
   case append =>
    simp only [opEff] at hx
    split at hx
    ·rename_i x y t1 t2 hat
     have hat' : argTypes = #[t1, t2] := by apply Array.ext'; simpa using hat
     subst hat'
     have hal : ∃ a b, args = #[a, b] := by
      have := mv.len
      simp [Op.operands, Call.operands] at this
      match args, this with
      | ⟨[a, b]⟩, _ => exact ⟨a, b, rfl⟩
     obtain ⟨a, b, rfl⟩ := hal
     obtain ⟨s, r, heq, m1, m2⟩ := MtSs.two' (v := ρ a) (u := ρ b) (by simpa [Op.operands, Call.operands] using mv)
     cases heq
     have := does_append (ty := type) T hb hid h1 hrs hx hv m1 m2
     simpa [execOp, resolve, invoke, builtin] using this
    ·exact exec_fail hx
   case len =>
    simp only [opEff] at hx
    split at hx
    ·rename_i x t1 hat
     have hat' : argTypes = #[t1] := by apply Array.ext'; simpa using hat
     subst hat'
     have hal : ∃ a, args = #[a] := by
      have := mv.len
      simp [Op.operands, Call.operands] at this
      match args, this with
      | ⟨[a]⟩, _ => exact ⟨a, rfl⟩
     obtain ⟨a, rfl⟩ := hal
     obtain ⟨s, heq, m1⟩ := MtSs.one' (v := ρ a) (by simpa [Op.operands, Call.operands] using mv)
     cases heq
     split at hx
     ·have := does_lenMap (old := old) (ty := type) T hb TM hrs' hx hv m1
      simpa [execOp, resolve, invoke, builtin] using this
     ·have := does_len (old := old) (ty := type) hb T hrs' hx m1
      simpa [execOp, resolve, invoke, builtin] using this
    ·exact exec_fail hx
   case clear =>
    simp only [opEff] at hx
    split at hx
    ·rename_i x t1 hat
     have hat' : argTypes = #[t1] := by apply Array.ext'; simpa using hat
     subst hat'
     have hal : ∃ a, args = #[a] := by
      have := mv.len
      simp [Op.operands, Call.operands] at this
      match args, this with
      | ⟨[a]⟩, _ => exact ⟨a, rfl⟩
     obtain ⟨a, rfl⟩ := hal
     obtain ⟨s, heq, m1⟩ := MtSs.one' (v := ρ a) (by simpa [Op.operands, Call.operands] using mv)
     cases heq
     have := does_clear (P := P) (old := old) (ty := type) T hb hrs' hx hv m1
     simpa [execOp, resolve, invoke, builtin] using this
    ·exact exec_fail hx
   case min =>
    simp only [opEff] at hx
    split at hx
    ·rename_i x y
     have hal : ∃ a b, args = #[a, b] := by
      have := mv.len
      simp [Op.operands, Call.operands] at this
      match args, this with
      | ⟨[a, b]⟩, _ => exact ⟨a, b, rfl⟩
     obtain ⟨a, b, rfl⟩ := hal
     obtain ⟨s, r, heq, m1, m2⟩ := MtSs.two' (v := ρ a) (u := ρ b) (by simpa [Op.operands, Call.operands] using mv)
     cases heq
     have := does_minMax (P := P) (old := old) (at0 := argTypes) (ty := type) hb hx m1 m2
     simpa [execOp, resolve, invoke, builtin] using this
    ·exact exec_fail hx
   case max =>
    simp only [opEff] at hx
    split at hx
    ·rename_i x y
     have hal : ∃ a b, args = #[a, b] := by
      have := mv.len
      simp [Op.operands, Call.operands] at this
      match args, this with
      | ⟨[a, b]⟩, _ => exact ⟨a, b, rfl⟩
     obtain ⟨a, b, rfl⟩ := hal
     obtain ⟨s, r, heq, m1, m2⟩ := MtSs.two' (v := ρ a) (u := ρ b) (by simpa [Op.operands, Call.operands] using mv)
     cases heq
     have := does_minMax (P := P) (old := old) (at0 := argTypes) (ty := type) hb hx m1 m2
     simpa [execOp, resolve, invoke, builtin] using this
    ·exact exec_fail hx
 all_goals exact exec_fail hx
end
end Go.Sx

namespace Go.Sx
open Go Go.RowKit
abbrev Vw := Nat → Prop
def Vw.cut (V : Vw) (w : World) : Vw := fun b => b < w.heap.size ∧ V b
def Vw.add (V : Vw) (w w1 w2 : World) : Vw := fun b => (b < w.heap.size ∧ V b) ∨ (w1.heap.size ≤ b ∧ b < w2.heap.size)
structure RelOk (V : Vw) (w w1 : World) : Prop where
 os : w1.os = w.os
 tape : w1.tape = w.tape
 output : w1.output = w.output
 size : w.heap.size ≤ w1.heap.size
 keep : ∀ b, b < w.heap.size → V b → w1.heap[b]? = w.heap[b]?
abbrev Kt := Vw → Act → World → Prop
abbrev Qt := Exit → Kt
def thenQ (N : Kt) (Q : Qt) : Qt
 | .normal => N
 | e => Q e
def inBQ (id : Nat) (Q : Qt) : Qt
 | .exit i => if i = id then Q .normal else Q (.exit i)
 | e => Q e
section
variable (rel : Vw → World → World → Prop) (op : Oper → Vw → Act → World → Kt → Prop) (ops : Array Oper)
def jOp (i : Nat) (K : Kt) (V : Vw) (a : Act) (w : World) : Prop :=
 match ops[i]? with
 | none => K V a w
 | some o => if Region.wanted o (yielded ops a.tmps) then op o V a w K else K V (a.put o.dst undef) w
def jOps (Q : Kt) : List Nat → Kt
 | [], V, a, w => ∀ w1, rel V w w1 → Q (V.cut w) a w1
 | i :: r, V, a, w => jOp op ops i (jOps Q r) V a w
def jAny (Q : Kt) : Nat → Array Bool → Kt
 | 0, l, V, a, w => Region.ready .any ops l = [] ∧ ∀ w1, rel V w w1 → Q (V.cut w) a w1
 | n + 1, l, V, a, w => (Region.ready .any ops l = [] → ∀ w1, rel V w w1 → Q (V.cut w) a w1) ∧ ∀ i ∈ Region.ready .any ops l, jOp op ops i (jAny Q n (l.setIfInBounds i true)) V a w
end
class Jg (P : Program) where
 rel : Vw → World → World → Prop
 rel_ok : ∀ {V w w1}, rel V w w1 → RelOk V w w1
 op : Oper → Vw → Act → World → Kt → Prop
 called : FuncId → Array Value → Vw → World → (Value → Vw → World → Prop) → Prop
 wp : Code → Qt → Kt
 op_val : ∀ {o V a w} {K : Kt}, (∀ w1, rel V w w1 → ∃ n v w', (execOp a.eval o).run P w1 = .ok n w' ∧ (n = .value v ∨ (n = .skip ∧ v = undef)) ∧ K (V.add w w1 w') (a.put o.dst v) w') → op o V a w K
 op_called : ∀ {o V a w f args} {K : Kt}, execOp a.eval o = callFunc f args → called f args V w (fun v V' w' => K V' (a.put o.dst v) w') → op o V a w K
 called_mono : ∀ {f args V w} {R R' : Value → Vw → World → Prop}, called f args V w R → (∀ v V' w', R v V' w' → R' v V' w') → called f args V w R'
 called_body : ∀ {f fn c args V w} {R : Value → Vw → World → Prop}, P.funcs[f]? = some fn → fn.body = some c → (fn.name == "runtime.NumGoroutine") = false →
  wp c (fun e V a w => (e = .normal ∨ e = .ret) ∧ a.defers = [] ∧ ∀ w1, rel V w w1 → ∃ v, (results fn a.tmps).run P w1 = .ok v w1 ∧ R v (V.cut w) w1) V { tmps := args ++ Array.replicate (fn.ntmps - args.size) undef, defers := [] } w → called f args V w R
 wp_mono : ∀ {c} {Q Q' : Qt} {V a w}, wp c Q V a w → (∀ e V a w, Q e V a w → Q' e V a w) → wp c Q' V a w
 wp_skip : ∀ {Q : Qt} {V a w}, (∀ w1, rel V w w1 → Q .normal (V.cut w) a w1) → wp .skip Q V a w
 wp_label : ∀ {l} {Q : Qt} {V a w}, (∀ w1, rel V w w1 → Q .normal (V.cut w) a w1) → wp (.label l) Q V a w
 wp_ret : ∀ {Q : Qt} {V a w}, (∀ w1, rel V w w1 → Q .ret (V.cut w) a w1) → wp .ret Q V a w
 wp_exit : ∀ {i} {Q : Qt} {V a w}, (∀ w1, rel V w w1 → Q (.exit i) (V.cut w) a w1) → wp (.exit i) Q V a w
 wp_seq : ∀ {x y} {Q : Qt} {V a w}, wp x (thenQ (wp y Q) Q) V a w → wp (.seq x y) Q V a w
 wp_block : ∀ {i c} {Q : Qt} {V a w}, wp c (inBQ i Q) V a w → wp (.block i c) Q V a w
 wp_cond : ∀ {c x y t} {Q : Qt} {V} {a : Act} {w}, a.eval c = .bool t → wp (if t then x else y) Q V a w → wp (.cond c x y) Q V a w
 wp_loop : ∀ {c} {Q : Qt} {V a w n} (I : Nat → Kt), I n V a w → (∀ n V a w, I n V a w → wp c (thenQ (fun V' a' w' => ∃ m, m < n ∧ I m V' a' w') Q) V a w) → wp (.loop c) Q V a w
 wp_region : ∀ {i ops} {Q : Qt} {V a w}, jOps rel op ops (Q .normal) (List.range ops.size) V a w → wp (.region i ops false) Q V a w
 wp_region_any : ∀ {i ops} {Q : Qt} {V a w}, P.follows .mixedOrders = true → (∀ w1, rel V w w1 → jAny rel op ops (Q .normal) ops.size (Array.replicate ops.size false) (V.cut w) a w1.drew) → wp (.region i ops true) Q V a w
def Called (P : Program) (f : FuncId) (args : Array Value) (w : World) (R : Value → World → Prop) : Prop :=
 ∃ n w', (callFunc f args).run P w = .ok n w' ∧ ((∃ v, n = .value v ∧ R v w') ∨ (n = .enter f args ∧ Calls P f args w' fun e w'' => match e with | .returned v => R v w'' | _ => False) ∨ ∃ row as, n = .row row as ∧ Rows P row as w' R)
section
variable {P : Program}
theorem Called.mono {f : FuncId} {args : Array Value} {w : World} {R R' : Value → World → Prop} (h : Called P f args w R) (hr : ∀ v w', R v w' → R' v w') : Called P f args w R' := by
 obtain ⟨n, w', h1, h2⟩ := h
 refine ⟨n, w', h1, ?_⟩
 rcases h2 with ⟨v, h2, h3⟩ | ⟨h2, h3⟩ | ⟨row, as, h2, h3⟩
 ·exact .inl ⟨v, h2, hr v w' h3⟩
 ·refine .inr (.inl ⟨h2, h3.mono fun e w'' he => ?_⟩)
  cases e with
  | returned v => exact hr v w'' he
  | _ => exact he
 ·exact .inr (.inr ⟨row, as, h2, h3.mono hr⟩)
theorem exists_min (p : Nat → Prop) (h : ∃ n, p n) : ∃ n, p n ∧ ∀ m, p m → n ≤ m := by
 obtain ⟨n, hn⟩ := h
 induction n using Nat.strongRecOn with
 | ind n ih =>
  by_cases h : ∃ m, m < n ∧ p m
  ·obtain ⟨m, hm, hp⟩ := h
   exact ih m hm hp
  ·exact ⟨n, hn, fun m hm => Nat.le_of_not_lt fun hlt => h ⟨m, hlt, hm⟩⟩
def exV (K : Kt) (a : Act) (w : World) : Prop := ∃ V, K V a w
def exQ (Q : Qt) (e : Exit) (a : Act) (w : World) : Prop := ∃ V, Q e V a w
def loneOp (P : Program) (o : Oper) (_ : Vw) (a : Act) (w : World) (K : Kt) : Prop := o.wp P a w (exV K) fun _ _ _ => False
def loneRel (_ : Vw) (w w1 : World) : Prop := w1 = w
theorem Oper.wp_Q {o : Oper} {a : Act} {w : World} {K : Act → World → Prop} {Q Q' : Exit → Act → World → Prop} (hq : ∀ e a w, Q e a w → Q' e a w) (h : o.wp P a w K Q) : o.wp P a w K Q' := by
 unfold Oper.wp at *
 generalize (execOp a.eval o).run P w = r at *
 cases r with
 | ok n w' =>
  cases n <;> simp only [Oper.upon] at h ⊢ <;> first | exact h | exact Calls.mono h (fun e w'' he => by cases e <;> first | exact he | exact hq _ _ _ he | (obtain ⟨a, w, hh⟩ := he; exact ⟨a, w, hq _ _ _ hh⟩))
 | halt x w' => cases x <;> simp only [Oper.upon] at h ⊢ <;> first | exact hq _ _ _ h | exact h
theorem loneOp_wp {ops : Array Oper} {Q : Qt} {i : Nat} {K : Kt} {K' : Act → World → Prop} {V : Vw} {a : Act} {w : World} (hk : ∀ V a w, K V a w → K' a w) (h : jOp (loneOp P) ops i K V a w) : wpOp P ops (exQ Q) i K' a w := by
 unfold jOp at h
 unfold wpOp
 cases ho : ops[i]? with
 | none => rw [ho] at h; exact hk _ _ _ h
 | some o =>
  rw [ho] at h
  simp only at h ⊢
  split
  ·rename_i hw
   rw [if_pos hw] at h
   exact .inl (Oper.wp_mono (fun a w ⟨V, hv⟩ => hk V a w hv) (Oper.wp_Q (fun _ _ _ h => h.elim) h))
  ·rename_i hw
   rw [if_neg hw] at h
   exact hk _ _ _ h
theorem loneOps_wp {ops : Array Oper} {Q : Qt} : ∀ (l : List Nat) (V : Vw) (a : Act) (w : World), jOps loneRel (loneOp P) ops (Q .normal) l V a w → wpOps P ops (exQ Q) l a w := by
 intro l
 induction l with
 | nil => intro V a w h; exact ⟨_, h w rfl⟩
 | cons i r ih => intro V a w h; rw [wpOps_cons]; exact loneOp_wp (fun V a w h => ih V a w h) h
theorem loneAny_wp {ops : Array Oper} {Q : Qt} : ∀ (n : Nat) (l : Array Bool) (V : Vw) (a : Act) (w : World), jAny loneRel (loneOp P) ops (Q .normal) n l V a w → wpAny P .any ops (exQ Q) n l a w := by
 intro n
 induction n with
 | zero => intro l V a w h; exact ⟨h.1, _, h.2 w rfl⟩
 | succ n ih => intro l V a w h; exact ⟨fun hr => ⟨_, h.1 hr w rfl⟩, fun i hi => loneOp_wp (fun V a w h => ih _ V a w h) (h.2 i hi)⟩
theorem exQ_then {N : Kt} {Q : Qt} {c : Code} {a : Act} {w : World} {N' : Act → World → Prop} (hn : ∀ V a w, N V a w → N' a w) (h : c.wp P (exQ (thenQ N Q)) a w) : c.wp P (Exit.then N' (exQ Q)) a w := wp_mono h fun e a w ⟨V, hv⟩ => by
 cases e <;> first | exact hn V a w hv | exact ⟨V, hv⟩
variable (P) in
@[reducible] def loneJ : Jg P where
 rel := loneRel
 rel_ok := by rintro V w w1 rfl; exact ⟨rfl, rfl, rfl, Nat.le_refl _, fun _ _ _ => rfl⟩
 op := loneOp P
 called f args _ w R := Called P f args w fun v w' => ∃ V', R v V' w'
 wp c Q _ a w := c.wp P (exQ Q) a w
 op_val := by
  intro o V a w K h
  obtain ⟨n, v, w', hrun, hn, hk⟩ := h w rfl
  unfold loneOp Oper.wp
  rw [hrun]
  rcases hn with rfl | ⟨rfl, rfl⟩
  ·exact ⟨_, hk⟩
  ·exact ⟨_, hk⟩
 op_called := by
  intro o V a w f args K he hc
  obtain ⟨n, w', hrun, h⟩ := hc
  unfold loneOp Oper.wp
  rw [he, hrun]
  rcases h with ⟨v, rfl, h⟩ | ⟨rfl, h⟩ | ⟨row, as, rfl, h⟩
  ·exact h
  ·rw [Oper.upon_enter]
   refine h.mono fun e w'' he => ?_
   cases e with
   | returned v => exact he
   | _ => exact he.elim
  ·exact h
 called_mono := fun h k => h.mono fun v w' ⟨V', hr⟩ => ⟨V', k v V' w' hr⟩
 called_body := by
  intro f fn c args V w R hf hb hn h
  have hrun : (callFunc f args).run P w = .ok (.enter f args) w := by
   have hn' : ¬ fn.name = "runtime.NumGoroutine" := by simpa using hn
   simp [callFunc, hf, hn', hb]
  refine ⟨_, _, hrun, .inr (.inl ⟨rfl, calls_of_wp hf hb (wp_mono h fun e a' w' hq => ?_)⟩)⟩
  obtain ⟨V', he, hd, hr⟩ := hq
  obtain ⟨v, h1, h2⟩ := hr w' rfl
  rcases he with rfl | rfl
  ·exact ⟨hd, v, h1, _, h2⟩
  ·exact ⟨hd, v, h1, _, h2⟩
 wp_mono := fun h k => wp_mono h fun e a w ⟨V, hv⟩ => ⟨V, k e V a w hv⟩
 wp_skip := fun h => wp_skip ⟨_, h _ rfl⟩
 wp_label := fun h => wp_label ⟨_, h _ rfl⟩
 wp_ret := fun h => wp_ret ⟨_, h _ rfl⟩
 wp_exit := fun h => wp_exit ⟨_, h _ rfl⟩
 wp_seq := fun h => wp_seq (exQ_then (fun _ _ _ h => h) h)
 wp_block := by
  intro i c Q V a w h
  refine wp_block (wp_mono h fun e a' w' ⟨V, hv⟩ => ?_)
  cases e with
  | exit j =>
   simp only [inBQ] at hv
   simp only [Exit.inBlock]
   split at hv
   ·rename_i e; rw [if_pos e]; exact ⟨V, hv⟩
   ·rename_i e; rw [if_neg e]; exact ⟨V, hv⟩
  | _ => exact ⟨V, hv⟩
 wp_cond := fun he h => wp_cond he h
 wp_loop := by
  classical
  intro c Q V a w n I h0 round
  let J : Act → World → Nat → Prop := fun a w n => ∃ V, I n V a w
  let μ : Act → World → Nat := fun a w => if h : ∃ n, J a w n then (exists_min _ h).choose else 0
  refine wp_loop (fun a w => ∃ n, J a w n) μ ⟨_, _, h0⟩ fun a w hI => ?_
  have hm : μ a w = (exists_min _ hI).choose := by simp only [μ]; rw [dif_pos hI]
  obtain ⟨V, hi⟩ := (exists_min _ hI).choose_spec.1
  refine exQ_then (fun V' a' w' ⟨m, hlt, hm'⟩ => ?_) (round _ V a w hi)
  have hJ : ∃ n, J a' w' n := ⟨m, V', hm'⟩
  refine ⟨hJ, ?_⟩
  have h2 : μ a' w' = (exists_min _ hJ).choose := by simp only [μ]; rw [dif_pos hJ]
  rw [hm, h2]
  exact Nat.lt_of_le_of_lt ((exists_min _ hJ).choose_spec.2 _ ⟨V', hm'⟩) hlt
 wp_region := fun h => wp_region (loneOps_wp _ _ _ _ h)
 wp_region_any := fun hm h => wp_region_any hm (loneAny_wp _ _ _ _ _ (h _ rfl))
end
end Go.Sx

namespace Go.Sx
open Go Go.RowKit
def Lv (G : Gh) (w : World) (V : Vw) : Prop := ∀ b, b < w.heap.size → G.g b ≠ .out → V b
def relG (G : Gh) (w w1 : World) : Gh := ⟨G.ρ, fun b => if b < w.heap.size then G.g b else if b < w1.heap.size then .out else .no⟩
theorem relG_chg {old chg : Id → Prop} {G : Gh} {w w1 : World} {V : Vw} (hb : ∀ b, G.g b ≠ .no → b < w.heap.size) (hV : Lv G w V) (h : RelOk V w w1) : Chg old chg G (relG G w w1) w w1 := by
 have hg : ∀ b, b < w.heap.size → (relG G w w1).g b = G.g b := fun b hlt => if_pos hlt
 have hgn : ∀ b, G.g b ≠ .no → (relG G w w1).g b = G.g b := fun b hn => hg b (hb b hn)
 have hk : ∀ b, G.g b ≠ .no → G.g b ≠ .out → w1.heap[b]? = w.heap[b]? := fun b hn ho => h.keep b (hb b hn) (hV b (hb b hn) ho)
 refine ⟨fun _ _ => rfl, ⟨fun b e => ⟨(hgn b (by rw [e]; simp)).trans e, hk b (by rw [e]; simp) (by rw [e]; simp)⟩, fun b e => ⟨(hgn b (by rw [e]; simp)).trans e, hk b (by rw [e]; simp) (by rw [e]; simp)⟩⟩,
  fun b i p e _ => ⟨(hgn b (by rw [e]; simp)).trans e, hk b (by rw [e]; simp) (by rw [e]; simp)⟩, fun b hlt e => ⟨h.keep b hlt (hV b hlt (by rw [e]; simp)), (hg b hlt).trans e⟩, fun b e => ?_, fun h1 => h1, h.os, h.tape, h.output, h.size, fun b hlt e => (hg b hlt).trans e⟩
 have hs := h.size
 rcases Nat.lt_or_ge b w.heap.size with h1 | h1
 ·omega
 ·rcases Nat.lt_or_ge b w1.heap.size with h2 | h2
  ·exact h2
  ·exact absurd (show (relG G w w1).g b = .no by simp only [relG]; rw [if_neg (by omega), if_neg (by omega)]) e
theorem relG_lv {G : Gh} {w w1 : World} {V : Vw} (hV : Lv G w V) : Lv (relG G w w1) w1 (V.cut w) := by
 intro b hb ho
 simp only [relG] at ho
 split at ho
 ·rename_i hlt; exact ⟨hlt, hV b hlt ho⟩
 ·exact absurd rfl ho
theorem SatF.rel {E : Env} {tm : Nat → SV} {len : Nat} {lk : Id → Option Res} {stk : List (List SV)} {old : Id → Prop} {G : Gh} {a : Act} {w w1 : World} {V : Vw} (s : SatF E tm len lk stk old G a w) (hV : Lv G w V) (h : RelOk V w w1) : SatF E tm len lk stk old (relG G w w1) a w1 := by
 have h := s.step (dst := none) (sv := .junk) (v := undef) (us := []) (old' := old) (relG_chg s.bnd hV h) (fun h => absurd rfl h) (fun _ _ h => by cases h) (fun _ h => h) (by simp [SV.ids, idsU])
 have e : updT tm none len .junk = tm := by funext i; simp [updT]
 rw [e] at h
 exact h
section
variable (G : Gh) (w : World)
def RefOk (n : Id) (T : Ty) (F : Fl) (x : T.den) (v : Value) : Prop :=
 ∃ b C t, v = .pointer (some ⟨b, 0, none⟩) ∧ G.g b = .own n [] ∧ w.heap[b]? = some (.cells C t (0, 0)) ∧ Tr G w T F (n.plus 1) [] C.toList x
def CapOk (n : Id) (b : Bool) (T : Ty) (F : Fl) (x : T.den) (v : Value) : Prop := match b with
 | true => RefOk G w n T F x v
 | false => MtA G w (.rpt .b T F x) [v]
def CapsOk (k : Nat) : (l : List (Bool × Ty × Fl)) → Nat → dens l → List Value → Prop
 | [], _, _, vs => vs = []
 | (b, T, F) :: r, c, x, vs => ∃ v vs', vs = v :: vs' ∧ CapOk G w ⟨0, k, 64 * (c + 1)⟩ b T F x.1 v ∧ CapsOk k r (c + 1) x.2 vs'
def ValOk (ag : Bool) (T : Ty) (F : Fl) (id : Id) (x : T.den) (v : Value) (cs : List Value) : Prop := v = mkV ag cs ∧ (ag = false → cs.length = 1) ∧ Tr G w T F id [] cs x
def ArgOk (k : Nat) : (m : Mode) → m.den → Value → Prop
 | .val ag T F, x, v => T.noO F = true ∧ ∃ cs, ValOk G w ag T F default x v cs
 | .own ag T F, x, v => ∃ cs, ValOk G w ag T F ⟨0, k, 0⟩ x v cs
 | .rp T F, x, v => MtA G w (.rpt .b T F x) [v]
 | .ref T F, x, v => RefOk G w ⟨0, k, 0⟩ T F x v
 | .clo f l, x, v => ∃ vs : List Value, v = .func (.func f) #[] vs.toArray ∧ CapsOk G w k l 0 x vs
 | .mu ag e f, x, v => ∃ cs, ValOk G w ag (.sl e) (.sl .w f) ⟨0, k, 0⟩ x v cs
def ArgsOk : (k : Nat) → (ms : List Mode) → mdens ms → List Value → Prop
 | _, [], _, vs => vs = []
 | k, m :: ms, x, vs => ∃ v vs', vs = v :: vs' ∧ ArgOk G w k m x.1 v ∧ ArgsOk (k + 1) ms x.2 vs'
end
def capsPtr (k : Nat) : List (Bool × Ty × Fl) → Nat → List Value → List (Id × Value)
 | (true, _, _) :: r, c, v :: vs => (⟨0, k, 64 * (c + 1)⟩, v) :: capsPtr k r (c + 1) vs
 | (false, _, _) :: r, c, _ :: vs => capsPtr k r (c + 1) vs
 | _, _, _ => []
def capsV : Value → List Value
 | .func _ _ vs => vs.toList
 | _ => []
def argPtr (k : Nat) : Mode → Value → List (Id × Value)
 | .ref _ _, v => [(⟨0, k, 0⟩, v)]
 | .clo _ l, v => capsPtr k l 0 (capsV v)
 | .mu _ _ _, v => [(⟨0, k, 0⟩, v.cells.toList.headD undef)]
 | _, _ => []
def argsPtr : Nat → List Mode → List Value → List (Id × Value)
 | k, m :: ms, v :: vs => argPtr k m v ++ argsPtr (k + 1) ms vs
 | _, _, _ => []
def ambTab : List (String × (List Value → Prop)) :=
 [("internal/strconv.uint64pow10", fun cs => cs = [1, 10, 100, 1000, 10000, 100000, 1000000, 10000000, 100000000, 1000000000, 10000000000, 100000000000, 1000000000000, 10000000000000, 100000000000000, 1000000000000000, 10000000000000000, 100000000000000000, 1000000000000000000, 10000000000000000000].map fun z : Int => Value.int .u64 z),
  ("internal/bytealg.MaxLen", fun cs => ∃ m, cs = [.int .i64 m]),
  ("strconv.ErrSyntax", fun cs => ∃ t p, cs = [.iface t p]),
  ("strconv.ErrRange", fun cs => ∃ t p, cs = [.iface t p]),
  ("loop.example/paling/impl.errRoot", fun cs => ∃ t A, cs = [.iface t (.pointer (some A))])]
def ErrOk (g : Nat → Lab) (w : World) : Prop := errOn = true → g errB = .per ∧ ∃ C t fz A, w.heap[errB]? = some (.cells C t fz) ∧ C.toList = [.iface errT (.pointer (some A))]
def AmbT (P : Program) (g : Nat → Lab) (w : World) : Prop :=
 ∀ nm Q, (nm, Q) ∈ ambTab → ∀ b, P.globalNamed nm = some b → (g b = .no ∨ g b = .per) ∧ ∃ C t fz, w.heap[b]? = some (.cells C t fz) ∧ Q C.toList
def Amb (P : Program) (g : Nat → Lab) (w : World) : Prop := AmbT P g w ∧ ErrOk g w
def EnvOk (P : Program) (E : Env) : Prop := (∀ b, b < E.w0.heap.size → E.lab b ≠ .out → (∀ id p, E.lab b ≠ .own id p) → E.prot b) ∧ Amb P E.lab E.w0
theorem Amb.mono {P : Program} {g g' : Nat → Lab} {w w' : World} (h : Amb P g w) (k : ∀ b, b < w.heap.size → (g b = .no ∨ g b = .per) → g' b = g b ∧ w'.heap[b]? = w.heap[b]?) : Amb P g' w' := by
 refine ⟨?_, ?_⟩
 rotate_left
 ·intro he
  obtain ⟨h1, C, t, fz, A, h2, h3⟩ := h.2 he
  have hlt : errB < w.heap.size := by
   rcases Nat.lt_or_ge errB w.heap.size with h | h
   ·exact h
   ·rw [Array.getElem?_eq_none h] at h2; cases h2
  obtain ⟨k1, k2⟩ := k errB hlt (.inr h1)
  exact ⟨k1.trans h1, C, t, fz, A, by rw [k2]; exact h2, h3⟩
 intro nm Q hm b hb
 obtain ⟨h1, C, t, fz, h2, h3⟩ := h.1 nm Q hm b hb
 have hlt : b < w.heap.size := by
  rcases Nat.lt_or_ge b w.heap.size with h | h
  ·exact h
  ·rw [Array.getElem?_eq_none h] at h2; cases h2
 obtain ⟨k1, k2⟩ := k b hlt h1
 exact ⟨by rw [k1]; exact h1, C, t, fz, by rw [k2]; exact h2, h3⟩
theorem EnvOk.amb {P : Program} {E : Env} (h : EnvOk P E) {tm : Nat → SV} {len : Nat} {lk : Id → Option Res} {stk : List (List SV)} {old : Id → Prop} {G : Gh} {a : Act} {w : World} (s : SatF E tm len lk stk old G a w) : Amb P G.g w := by
 refine h.2.mono fun b hlt hb => ?_
 obtain ⟨_, h2, h3, _⟩ := s.prot b (h.1 b hlt (fun e => by rw [e] at hb; rcases hb with hb | hb <;> cases hb) fun id p e => by rw [e] at hb; rcases hb with hb | hb <;> cases hb)
 exact ⟨h3, h2⟩
def CtrOk (P : Program) [Jg P] (c : Ctr) : Prop :=
 ∀ (G : Gh) (V : Vw) (w : World) (args : List Value) (x : mdens c.ins), (∀ b, G.g b ≠ .no → b < w.heap.size) → Lv G w V → Amb P G.g w → ArgsOk G w 0 c.ins x args → c.pre x →
  Jg.called P c.f args.toArray V w fun v V' w' => ∃ G', Lv G' w' V' ∧ Chg (fun _ => False) (fun _ => True) G G' w w' ∧ RhoOk G' ∧ (∀ p ∈ argsPtr 0 c.ins args, G'.ρ p.1 = p.2) ∧ MtS G' w' (c.post x).1 v ∧ ∀ i R, (i, R) ∈ (c.post x).2 → ResOk G' w' i R
def XOk (P : Program) [Jg P] (c : Xctr) : Prop :=
 ∀ (G : Gh) (V : Vw) (w : World) (args : List Value), (∀ b, G.g b ≠ .no → b < w.heap.size) → Lv G w V → Amb P G.g w → RhoOk G → MtSs G w c.args args → (∀ i R, (i, R) ∈ resOf c.rs ++ resOf c.ls → ResOk G w i R) →
  Jg.called P c.f args.toArray V w fun v V' w' => ∃ G', Lv G' w' V' ∧ Chg (fun _ => False) (fun _ => True) G G' w w' ∧ RhoOk G' ∧ (∀ i ∈ ptrsOf c.args, G'.ρ i = G.ρ i) ∧ MtS G' w' c.post.1 v ∧ ∀ i R, (i, R) ∈ c.post.2 → ResOk G' w' i R
structure TakesC (G Gc : Gh) (w : World) (mp : Id → Option (Id × List Nat)) (bw : List Id) : Prop where
 pb : KeepPB G Gc w w
 own : ∀ b i q j pos, G.g b = .own i q → mp i = some (j, pos) → Gc.g b = .own j (pos ++ q)
 lend : ∀ b i q, G.g b = .own i q → i ∈ bw → Gc.g b = .bor
section
variable {G : Gh} {w : World} {lk : Id → Option Res}
theorem TakesC.takes {Gc : Gh} {mp : Id → Option (Id × List Nat)} {bw bw' : List Id} {m : Id → Option (List Nat)} {j : Id} (h : TakesC G Gc w mp bw) (hm : ∀ i pos, m i = some pos → mp i = some (j, pos)) (hb : ∀ i ∈ bw', i ∈ bw) :
  Takes G Gc w w m bw' j [] :=
 ⟨h.pb, fun b i q pos hg hp => ⟨by simpa using h.own b i q j pos hg (hm i pos hp), rfl⟩, fun b i q hg hi => ⟨h.lend b i q hg (hb i hi), rfl⟩⟩
theorem lendAt_sound (hrs : ∀ id R, lk id = some R → ResOk G w id R) {T : Ty} {F : Fl} {a : At} {v : Value} {x : T.den} {bw : List Id} {t : List Id} (hx : (lendAt T F a).exec lk = some ((x, bw), t)) (m : MtA G w a [v]) :
  ∀ (Gc : Gh) (mp : Id → Option (Id × List Nat)) (bw' : List Id), TakesC G Gc w mp bw' → (∀ i ∈ bw, i ∈ bw') → MtA Gc w (.rpt .b T F x) [v] := by
 intro Gc mp bw' h hb
 unfold lendAt at hx
 cases hO : T.noO F with
 | false => rw [hO] at hx; exact exec_fail hx
 | true =>
  rw [hO] at hx
  simp only [Bool.not_true, cond_false] at hx
  split at hx
  ·rename_i o T' F' y
   replace ⟨hE, hx⟩ := condR hx
   simp only [Bool.and_eq_true] at hE
   have hT := Ty.eq_of_beq hE.1
   subst hT
   obtain ⟨hp, _⟩ := exec_ok hx
   rw [tcast_self] at hp
   cases hp
   obtain ⟨h0, ho, b, off, C, t', fz, h1, h2, h3, h4, h5⟩ := m
   have hl := labOk_keep h.pb (id' := default) (p' := []) ho h2
   refine ⟨hO, rfl, b, off, C, t', fz, h1, ?_, h3, h4, Tr.le hE.2 (h5.keep h.pb h0)⟩
   cases o with
   | p => exact .inl hl.1
   | b => exact hl.1
   | w => cases ho
  ·rename_i id off
   replace ⟨t', hx, _⟩ := exec_need hx
   split at hx
   ·rename_i cs hlk
    split at hx
    ·rename_i l hl
     replace ⟨pk, t1, t2, hpk, hx, _⟩ := exec_bind hx
     split at hx
     ·rename_i y lent
      obtain ⟨hp, _⟩ := exec_ok hx
      cases hp
      obtain ⟨b, C, tt', hρ, hg, hh, hm⟩ := hrs id _ hlk
      obtain ⟨b', hρ', hv'⟩ := m
      rw [hρ] at hρ'
      cases hρ'
      obtain ⟨h3, h4⟩ := takeA_sound hm hl
      obtain ⟨c1, c2, hcs, hc1, hc2, hpacks⟩ := pack_sound hrs _ _ _ _ _ _ _ _ _ h4 hpk
      rw [show c2 = [] from hc2, List.append_nil] at hcs
      obtain ⟨mm, hmm, htr⟩ := hpacks List.nodup_nil
      refine ⟨hO, rfl, b, off, C, tt', (0, 0), hv', .inr (h.lend b id [] hg (hb id (by simp))), hh, by simpa using h3, ?_⟩
      have : cellsAt C off T.size = c1 := hcs
      rw [this]
      exact htr Gc w default [] ⟨h.pb, fun b i q pos _ hp => absurd ((hmm i).1 (by rw [hp]; simp)) (by simp), fun b i q hg hi => ⟨h.lend b i q hg (hb i (by simp [hi])), rfl⟩⟩
     ·exact exec_fail hx
    ·exact exec_fail hx
   ·exact exec_fail hx
  ·exact exec_fail hx
theorem MtV.mk {ag : Bool} {l : List At} {v : Value} (h : MtV G w ag l v) : v = mkV ag v.cells.toList ∧ (ag = false → v.cells.toList.length = 1) ∧ MtL G w l v.cells.toList := by
 have hc := MtV.cells h
 cases ag with
 | true => obtain ⟨cs, rfl, _⟩ := h; exact ⟨by simp [mkV, Value.cells], by simp, hc⟩
 | false =>
  have hv : v.cells = #[v] := by cases v <;> first | rfl | (simp [MtV, Value.oneCell'] at h)
  exact ⟨by simp [mkV, hv], by simp [hv], hc⟩
theorem eqB_eq {a b : Bool} (h : eqB a b = true) : a = b := by cases a <;> cases b <;> simp [eqB] at h <;> rfl
def mpU (a b : Id → Option (Id × List Nat)) : Id → Option (Id × List Nat) := fun i => match a i with | some y => some y | none => b i
theorem mpU_l {a b : Id → Option (Id × List Nat)} {i : Id} {y : Id × List Nat} (h : a i = some y) : mpU a b i = some y := by simp [mpU, h]
theorem mpU_r {a b : Id → Option (Id × List Nat)} {i : Id} {y : Id × List Nat} (h : b i = some y) (ha : a i = none) : mpU a b i = some y := by simp [mpU, h, ha]
theorem mpU_iff {a b : Id → Option (Id × List Nat)} {l m : List Id} (ha : ∀ i, a i ≠ none ↔ i ∈ l) (hb : ∀ i, b i ≠ none ↔ i ∈ m) : ∀ i, mpU a b i ≠ none ↔ i ∈ l ++ m := by
 intro i
 rw [List.mem_append, ← ha, ← hb]
 unfold mpU
 cases a i <;> simp
theorem TakesC.sub {Gc : Gh} {mp mp' : Id → Option (Id × List Nat)} {bw : List Id} (h : TakesC G Gc w mp bw) (hm : ∀ i y, mp' i = some y → mp i = some y) : TakesC G Gc w mp' bw :=
 ⟨h.pb, fun b i q j pos hg hp => h.own b i q j pos hg (hm i _ hp), h.lend⟩
theorem not_mem_none {α : Type} {f : Id → Option α} {l : List Id} (h : ∀ i, f i ≠ none ↔ i ∈ l) {i : Id} (hi : i ∉ l) : f i = none := by
 cases hf : f i with
 | none => rfl
 | some y => exact absurd ((h i).1 (by rw [hf]; simp)) hi
def Took (G : Gh) (w : World) (ids bw : List Id) (refs : List (Id × Id)) (Q : Gh → Prop) : Prop :=
 (ids ++ refs.map (·.1)).Nodup → ∃ mp : Id → Option (Id × List Nat), (∀ i, mp i ≠ none ↔ i ∈ ids ++ refs.map (·.1)) ∧ ∀ (Gc : Gh) (bw' : List Id), TakesC G Gc w mp bw' → (∀ i ∈ bw, i ∈ bw') → Q Gc
theorem Took.none {Q : Gh → Prop} (h : ∀ Gc, Q Gc) : Took G w [] [] [] Q := fun _ => ⟨fun _ => .none, by simp, fun Gc _ _ _ => h Gc⟩
theorem Took.mono {ids bw : List Id} {refs : List (Id × Id)} {Q Q' : Gh → Prop} (h : Took G w ids bw refs Q) (k : ∀ Gc, Q Gc → Q' Gc) : Took G w ids bw refs Q' := fun hn => by
 obtain ⟨mp, h1, h2⟩ := h hn
 exact ⟨mp, h1, fun Gc bw' a b => k Gc (h2 Gc bw' a b)⟩
theorem Took.app {ids bw ids' bw' : List Id} {refs refs' : List (Id × Id)} {Q Q' : Gh → Prop} (h : Took G w ids bw refs Q) (h' : Took G w ids' bw' refs' Q') : Took G w (ids ++ ids') (bw ++ bw') (refs ++ refs') fun Gc => Q Gc ∧ Q' Gc := by
 intro hn
 rw [List.map_append, List.nodup_append] at hn
 obtain ⟨n1, n2, n3⟩ := hn
 rw [List.nodup_append] at n1 n2
 obtain ⟨a1, a2, a3⟩ := n1
 obtain ⟨b1, b2, b3⟩ := n2
 obtain ⟨mp, m1, m2⟩ := h (List.nodup_append.2 ⟨a1, b1, fun x hx y hy => n3 x (List.mem_append_left _ hx) y (List.mem_append_left _ hy)⟩)
 obtain ⟨mp', k1, k2⟩ := h' (List.nodup_append.2 ⟨a2, b2, fun x hx y hy => n3 x (List.mem_append_right _ hx) y (List.mem_append_right _ hy)⟩)
 refine ⟨mpU mp mp', fun i => ?_, fun Gc bw2 hT hb => ⟨m2 Gc bw2 (hT.sub fun i y hy => mpU_l hy) fun i hi => hb i (List.mem_append_left _ hi), k2 Gc bw2 (hT.sub fun i y hy => mpU_r hy (not_mem_none m1 fun hi => ?_)) fun i hi => hb i (List.mem_append_right _ hi)⟩⟩
 ·rw [mpU_iff m1 k1 i]
  simp only [List.mem_append, List.map_append]
  constructor
  ·rintro ((h | h) | (h | h))
   ·exact .inl (.inl h)
   ·exact .inr (.inl h)
   ·exact .inl (.inr h)
   ·exact .inr (.inr h)
  ·rintro ((h | h) | (h | h))
   ·exact .inl (.inl h)
   ·exact .inr (.inl h)
   ·exact .inl (.inr h)
   ·exact .inr (.inr h)
 ·have hj := (k1 i).1 (by rw [hy]; simp)
  rcases List.mem_append.1 hi with p | p <;> rcases List.mem_append.1 hj with q | q
  ·exact a3 i p i q rfl
  ·exact n3 i (List.mem_append_left _ p) i (List.mem_append_right _ q) rfl
  ·exact n3 i (List.mem_append_right _ q) i (List.mem_append_left _ p) rfl
  ·exact b3 i p i q rfl
theorem took_pack (hrs : ∀ id R, lk id = some R → ResOk G w id R) {T : Ty} {F : Fl} {l : List At} {cs : List Value} {x : T.den} {ids bw t : List Id} (hm : MtL G w l cs) (hx : (pack T F l).exec lk = some (⟨x, [], ids, bw⟩, t)) (j : Id) :
  Took G w ids bw [] fun Gc => Tr Gc w T F j [] cs x := by
 intro hn
 rw [List.map_nil, List.append_nil] at hn ⊢
 obtain ⟨c1, c2, hcs, hc1, hc2, hpacks⟩ := pack_sound hrs _ _ _ _ _ _ _ _ _ hm hx
 rw [show c2 = [] from hc2, List.append_nil] at hcs
 obtain ⟨mm, hmm, htr⟩ := hpacks hn
 refine ⟨fun i => (mm i).map fun pos => (j, pos), fun i => by rw [← hmm i]; simp, fun Gc bw' hT hb => ?_⟩
 rw [hcs]
 exact htr Gc w _ _ (hT.takes (fun i pos hp => by simp [hp]) hb)
theorem took_lend (hrs : ∀ id R, lk id = some R → ResOk G w id R) {T : Ty} {F : Fl} {a : At} {v : Value} {x : T.den} {bw : List Id} {t : List Id} (hx : (lendAt T F a).exec lk = some ((x, bw), t)) (m : MtA G w a [v]) :
  Took G w [] bw [] fun Gc => MtA Gc w (.rpt .b T F x) [v] := fun _ => ⟨fun _ => .none, by simp, fun Gc bw' hT hb => lendAt_sound hrs hx m Gc _ bw' hT hb⟩
theorem took_ref (hrs : ∀ id R, lk id = some R → ResOk G w id R) {T : Ty} {F : Fl} {a : At} {v : Value} {n : Id} {x : T.den} {ids bw : List Id} {refs : List (Id × Id)} {t : List Id} (hx : (refAt T F a n).exec lk = some ((x, ⟨ids, bw, refs⟩), t)) (m : MtA G w a [v]) :
  (∃ i, refs = [(i, n)] ∧ G.ρ i = v ∧ lk i ≠ none) ∧ Took G w ids bw refs fun Gc => RefOk Gc w n T F x v := by
 unfold refAt at hx
 split at hx
 ·rename_i id off
  split at hx
  ·replace ⟨t', hx, _⟩ := exec_need hx
   split at hx
   ·rename_i cs hlk
    replace ⟨pk, t1, t2, hpk, hx, _⟩ := exec_bind hx
    split at hx
    ·rename_i y idsH lent
     obtain ⟨hp, _⟩ := exec_ok hx
     cases hp
     obtain ⟨b, C, tt', hρ, hg, hh, hm⟩ := hrs id _ hlk
     obtain ⟨b', hρ', hv'⟩ := m
     rw [hρ] at hρ'
     cases hρ'
     simp only [List.cons.injEq, and_true] at hv'
     subst hv'
     refine ⟨⟨id, rfl, hρ, by rw [hlk]; simp⟩, fun hn => ?_⟩
     have hn' := List.nodup_append.1 hn
     obtain ⟨mp, m1, m2⟩ := took_pack hrs hm hpk (n.plus 1) (by simpa using hn'.1)
     simp only [List.map_nil, List.append_nil] at m1
     have hni : id ∉ ids := fun h => hn'.2.2 id h id (by simp) rfl
     refine ⟨fun i => if i = id then some (n, []) else mp i, fun i => ?_, fun Gc bw' hT hb => ⟨b, C, tt', rfl, ?_, hh, m2 Gc bw' (hT.sub fun i y hy => ?_) hb⟩⟩
     ·simp only [List.mem_append, List.map_cons, List.map_nil, List.mem_cons, List.not_mem_nil, or_false]
      split
      ·rename_i e; simp [e]
      ·rename_i e; rw [m1]; simp [e]
     ·simpa using hT.own b id [] n [] hg (by simp)
     ·rw [if_neg]
      ·exact hy
      ·rintro rfl
       exact hni ((m1 i).1 (by rw [hy]; simp))
    ·exact exec_fail hx
   ·exact exec_fail hx
  ·exact exec_fail hx
 ·exact exec_fail hx
theorem took_caps (hrs : ∀ id R, lk id = some R → ResOk G w id R) {k : Nat} : ∀ {l : List (Bool × Ty × Fl)} {c : Nat} {as : List At} {vs : List Value} {x : dens l} {ids bw : List Id} {refs : List (Id × Id)} {t : List Id}, (capAll k l c as).exec lk = some ((x, ⟨ids, bw, refs⟩), t) → MtC G w as vs →
  (capsPtr k l c vs = refs.map (fun p => (p.2, G.ρ p.1)) ∧ ∀ p ∈ refs, lk p.1 ≠ none) ∧ Took G w ids bw refs fun Gc => CapsOk Gc w k l c x vs := by
 intro l
 induction l with
 | nil =>
  intro c as vs x ids bw refs t hx m
  cases as with
  | nil =>
   obtain ⟨hp, _⟩ := exec_ok hx
   cases hp
   rw [show vs = [] from m]
   exact ⟨⟨rfl, by simp⟩, Took.none fun _ => rfl⟩
  | cons a as => exact exec_fail hx
 | cons p r ih =>
  intro c as vs x ids bw refs t hx m
  obtain ⟨b, T, F⟩ := p
  cases as with
  | nil => exact exec_fail hx
  | cons a as =>
   simp only [capAll] at hx
   replace ⟨z, t1, t2, hz, hx, _⟩ := exec_bind hx
   obtain ⟨y, ⟨i1, w1, rf1⟩⟩ := z
   replace ⟨z', t3, t4, hz', hx, _⟩ := exec_bind hx
   obtain ⟨ys, ⟨i2, w2, rf2⟩⟩ := z'
   obtain ⟨hp, _⟩ := exec_ok hx
   cases hp
   obtain ⟨v, vs', rfl, h1, h2, h3⟩ := m
   obtain ⟨⟨k1, k2⟩, k3⟩ := ih hz' h3
   cases b with
   | true =>
    obtain ⟨⟨i, rfl, r1, r2⟩, r3⟩ := took_ref hrs hz h2
    exact ⟨⟨by simp [capsPtr, k1, r1], by simpa using ⟨r2, fun a b => k2 (a, b)⟩⟩, (r3.app k3).mono fun Gc h => ⟨v, vs', rfl, h.1, h.2⟩⟩
   | false =>
    simp only at hz
    replace ⟨z2, t5, t6, hz2, hz, _⟩ := exec_bind hz
    obtain ⟨hp, _⟩ := exec_ok hz
    cases hp
    obtain ⟨y2, w3⟩ := z2
    exact ⟨⟨by simpa [capsPtr] using k1, by simpa using fun a b => k2 (a, b)⟩, ((took_lend hrs hz2 h2).app k3).mono fun Gc h => ⟨v, vs', rfl, h.1, h.2⟩⟩
theorem took_1 (hrs : ∀ id R, lk id = some R → ResOk G w id R) {k : Nat} {md : Mode} {s : SV} {v : Value} {x : md.den} {ids bw : List Id} {refs : List (Id × Id)} {t : List Id} (hx : (match1 k md s).exec lk = some ((x, ⟨ids, bw, refs⟩), t)) (m : MtS G w s v) :
  (argPtr k md v = refs.map (fun p => (p.2, G.ρ p.1)) ∧ ∀ p ∈ refs, lk p.1 ≠ none) ∧ Took G w ids bw refs fun Gc => ArgOk Gc w k md x v := by
 cases md with
 | val ag T F =>
  simp only [match1] at hx
  split at hx
  ·rename_i ag' l
   replace ⟨hE, hx⟩ := condR hx
   simp only [Bool.and_eq_true] at hE
   have hag := eqB_eq hE.1
   subst hag
   replace ⟨pk, t1, t2, hpk, hx, _⟩ := exec_bind hx
   split at hx
   ·rename_i y lent
    obtain ⟨hp, _⟩ := exec_ok hx
    cases hp
    obtain ⟨hv1, hv2, hv3⟩ := MtV.mk m
    exact ⟨⟨rfl, by simp⟩, (took_pack hrs hv3 hpk default).mono fun Gc h => ⟨hE.2, _, hv1, hv2, h⟩⟩
   ·exact exec_fail hx
  ·exact exec_fail hx
 | own ag T F =>
  simp only [match1] at hx
  split at hx
  ·rename_i ag' l
   replace ⟨hE, hx⟩ := condR hx
   have hag := eqB_eq hE
   subst hag
   replace ⟨pk, t1, t2, hpk, hx, _⟩ := exec_bind hx
   split at hx
   ·rename_i y idsH lent
    obtain ⟨hp, _⟩ := exec_ok hx
    cases hp
    obtain ⟨hv1, hv2, hv3⟩ := MtV.mk m
    exact ⟨⟨rfl, by simp⟩, (took_pack hrs hv3 hpk ⟨0, k, 0⟩).mono fun Gc h => ⟨_, hv1, hv2, h⟩⟩
   ·exact exec_fail hx
  ·exact exec_fail hx
 | rp T F =>
  simp only [match1] at hx
  split at hx
  ·rename_i a
   replace ⟨pk, t1, t2, hpk, hx, _⟩ := exec_bind hx
   obtain ⟨hp, _⟩ := exec_ok hx
   cases hp
   obtain ⟨y, lent⟩ := pk
   exact ⟨⟨rfl, by simp⟩, took_lend hrs hpk m.at1.2⟩
  ·exact exec_fail hx
 | ref T F =>
  simp only [match1] at hx
  split at hx
  ·rename_i a
   obtain ⟨⟨i, rfl, r1, r2⟩, r3⟩ := took_ref hrs hx m.at1.2
   exact ⟨⟨by simp [argPtr, r1], by simpa using r2⟩, r3⟩
  ·exact exec_fail hx
 | clo f l =>
  simp only [match1] at hx
  split at hx
  ·rename_i f' caps
   replace ⟨hE, hx⟩ := condR hx
   have hf := Nat.eq_of_beq_eq_true hE
   subst hf
   obtain ⟨us, rfl, hm⟩ := m
   obtain ⟨k1, k2⟩ := took_caps hrs hx hm
   exact ⟨by simpa [argPtr, capsV] using k1, k2.mono fun Gc h => ⟨us, rfl, h⟩⟩
  ·exact exec_fail hx
 | mu ag e f =>
  simp only [match1] at hx
  split at hx
  ·rename_i ag' id
   replace ⟨hE, hx⟩ := condR hx
   have hag := eqB_eq hE
   subst hag
   replace ⟨t', hx, _⟩ := exec_need hx
   split at hx
   ·rename_i e0 f0 x0 hlk
    replace ⟨pk, t1, t2, hpk, hx, _⟩ := exec_bind hx
    split at hx
    ·rename_i y idsH lent
     split at hx
     ·rename_i i
      replace ⟨hi, hx⟩ := condR hx
      have hi := Id.eq_of_beq hi
      subst hi
      obtain ⟨hp, _⟩ := exec_ok hx
      cases hp
      obtain ⟨hv1, hv2, hv3⟩ := MtV.mk m
      have hc : v.cells.toList = [G.ρ i] := hv3.one_inv
      have hk := took_pack hrs hv3 hpk ⟨0, k, 0⟩
      refine ⟨⟨by simp [argPtr, hc], by simpa using by rw [hlk]; simp⟩, Took.mono (Q := fun Gc => Tr Gc w (.sl e) (.sl .w f) ⟨0, k, 0⟩ [] v.cells.toList x) (fun hn => hk hn) fun Gc h => ⟨_, hv1, hv2, h⟩⟩
     ·exact exec_fail hx
    ·exact exec_fail hx
   ·exact exec_fail hx
  ·exact exec_fail hx
theorem matchArgs_sound (hrs : ∀ id R, lk id = some R → ResOk G w id R) : ∀ {ms : List Mode} {k : Nat} {vals : List SV} {args : List Value} {x : mdens ms} {ids bw : List Id} {refs : List (Id × Id)} {t : List Id},
  (matchArgs k ms vals).exec lk = some ((x, ⟨ids, bw, refs⟩), t) → MtSs G w vals args → (argsPtr k ms args = refs.map (fun p => (p.2, G.ρ p.1)) ∧ ∀ p ∈ refs, lk p.1 ≠ none) ∧ Took G w ids bw refs fun Gc => ArgsOk Gc w k ms x args := by
 intro ms
 induction ms with
 | nil =>
  intro k vals args x ids bw refs t hx m
  cases vals with
  | nil =>
   obtain ⟨hp, _⟩ := exec_ok hx
   cases hp
   cases args with
   | nil => exact ⟨⟨rfl, by simp⟩, Took.none fun _ => rfl⟩
   | cons _ _ => exact m.elim
  | cons s ss => exact exec_fail hx
 | cons md ms ih =>
  intro k vals args x ids bw refs t hx m
  cases vals with
  | nil => exact exec_fail hx
  | cons s ss =>
   cases args with
   | nil => exact m.elim
   | cons v vs =>
    obtain ⟨mv, ms'⟩ := m
    simp only [matchArgs] at hx
    replace ⟨z, t1, t2, hz, hx, _⟩ := exec_bind hx
    obtain ⟨y, ⟨i1, w1, rf1⟩⟩ := z
    replace ⟨z', t3, t4, hz', hx, _⟩ := exec_bind hx
    obtain ⟨ys, ⟨i2, w2, rf2⟩⟩ := z'
    obtain ⟨hp, _⟩ := exec_ok hx
    cases hp
    obtain ⟨⟨a1, a2⟩, a3⟩ := took_1 hrs hz mv
    obtain ⟨⟨b1, b2⟩, b3⟩ := ih hz' ms'
    exact ⟨⟨by simp [argsPtr, a1, b1], fun p hp => (List.mem_append.1 hp).elim (a2 p) (b2 p)⟩, (a3.app b3).mono fun Gc h => ⟨v, vs, rfl, h.1, h.2⟩⟩
end
end Go.Sx
