/- Symbolic execution, part Nb: pointers into arrays that lie in variables; chains (linked lists). -/
import Derived.Test.YtbnmeeajooljmaaSxNa
import Derived.ChangeKeysEq
import Derived.Laws.Pointers
set_option linter.all false
namespace Go.Sx
open Go Go.RowKit

section
variable {P : Program} {tt : TT} (T : TtOk P tt) {old : Id → Prop} {G : Gh} {w : World} {lk : Id → Option Res} (hb : ∀ b, G.g b ≠ .no → b < w.heap.size) (h1 : RhoOk G)
include T in
theorem arT_spec {t : TypeId} {n : Nat} {e : Ty} {el : TypeId} (h : arT tt t = some (n, e, el)) : P.underlying t = some (.array n el) ∧ e.size ≠ 0 ∧ ∃ te, ttOf tt el = some te ∧ te.T = e := by
  unfold arT at h
  split at h
  · rename_i t' n' e' el' by' hte
    obtain ⟨d, hd, hi⟩ := und_at T hte
    obtain ⟨_, _, c⟩ := T.at hte
    split at h
    · rename_i t2 T2 a2 n2 el2 by2 f2 hel
      simp only [Option.some.injEq, Prod.mk.injEq] at h
      obtain ⟨rfl, rfl, rfl⟩ := h
      have c' : elChk tt el' e' = true := c
      obtain ⟨te3, h3, h4, h5⟩ := elChk_spec c'
      rw [hel] at h3
      cases h3
      simp only at h4
      subst h4
      refine ⟨?_, h5, _, hel, rfl⟩
      cases d <;> simp [dinfo, TE.di] at hi
      rw [hd, hi.1, hi.2]
    · cases h
  · cases h
/-- an element of an array that lies in a variable -/
theorem arr_at {e : Ty} {F : Fl} {C : Array Value} {off n i : Nat} {y : List e.den} (hsz : off + n * e.size ≤ C.size) (m : MtL G w [.d (.arr n e) F y] ((C.toList.drop off).take (n * e.size))) (hi : i < n) :
    off + i * e.size + e.size ≤ C.size ∧ Tr G w e pF default [] (cellsAt C (off + i * e.size) e.size) (List.getD y i e.dflt) := by
  obtain ⟨_, k3, k4, k5⟩ := m.one_inv
  have hmul : (i + 1) * e.size ≤ n * e.size := Nat.mul_le_mul_right _ hi
  rw [Nat.add_mul, Nat.one_mul] at hmul
  have hiy : i < List.length y := by rw [k4]; exact hi
  have := k5 i (List.getD y i e.dflt) (by rw [List.getD, List.getElem?_eq_getElem hiy]; rfl)
  rw [show ((C.toList.drop off).take (n * e.size)) = cellsAt C off (n * e.size) from rfl, ← cellsAt_sub C off (n * e.size) (by omega)] at this
  exact ⟨by omega, this⟩
/-- what the link number i of a chain holds -/
theorem lnk_at {id0 id : Id} {e : Ty} {l : List e.den} {cs : List At} {off i : Nat} {ps : List Value} (hps : psOf (G.ρ id) = some ps) {o : Bool} (hch : ResOk G w id (.ch o e l)) (hvar : ResOk G w id0 (.var cs)) (htk : takeA cs off 1 = some [.chp id 0]) (hi : i ≤ l.length) {v : Value}
    (m : (i = 0 ∧ ∃ b, G.ρ id0 = .pointer (some ⟨b, 0, none⟩) ∧ v = .pointer (some ⟨b, off, none⟩)) ∨ ∃ k b, i = k + 1 ∧ ps[k]? = some (.pointer (some ⟨b, 0, none⟩)) ∧ v = .pointer (some ⟨b, e.size, none⟩)) :
    ∃ nx b q C t, v = .pointer (some ⟨b, q, none⟩) ∧ w.heap[b]? = some (.cells C t (0, 0)) ∧ q + 1 ≤ C.size ∧ cellsAt C q 1 = [.pointer nx] ∧ ps[i]? = some (.pointer nx) ∧
      ((i = 0 ∧ G.g b = .own id0 [] ∧ q = off ∧ G.ρ id0 = .pointer (some ⟨b, 0, none⟩)) ∨ ∃ k, i = k + 1 ∧ labC G o id k b ∧ q = e.size ∧ ps[k]? = some (.pointer (some ⟨b, 0, none⟩))) := by
  obtain ⟨ps', q1, q2, q3⟩ := hch
  rw [hps] at q1
  cases q1
  rcases m with ⟨rfl, b, m1, rfl⟩ | ⟨k, b, rfl, m1, rfl⟩
  · obtain ⟨b', C, t, r1, r2, r3, r4⟩ := hvar
    rw [m1] at r1
    cases r1
    obtain ⟨k1, k2⟩ := takeA_sound r4 htk
    obtain ⟨ps2, A, s1, s2, s3⟩ := k2.one_inv
    rw [hps] at s1
    cases s1
    exact ⟨A, b, off, C, t, rfl, r3, by simpa using k1, s3, s2, .inl ⟨rfl, r2, rfl, m1⟩⟩
  · have hk : k < l.length := hi
    obtain ⟨b', C, t, cs', nx, g1, g2, g3, g4, g5, g6⟩ := q3 k _ (List.getElem?_eq_getElem hk)
    rw [m1] at g1
    cases g1
    have hl := g6.len
    have hsz : C.size = e.size + 1 := by rw [← Array.length_toList, g5, List.length_append, hl]; rfl
    refine ⟨nx, b, e.size, C, t, rfl, g4, by omega, ?_, g2, .inr ⟨k, rfl, g3, rfl, m1⟩⟩
    unfold cellsAt
    rw [g5, ← hl, List.drop_left]
    rfl
theorem exec_fail' {α : Type} {p : Prop} {lk : Id → Option Res} {r : α × List Id} (h : (Req.fail : Req α).exec lk = some r) : p := by cases h
include T hb h1 in
theorem does_loadX {t0 : TypeId} {x : SV} {v : Value} {e : Eff} {t : List Id} (hrs : ∀ id R, lk id = some R → ResOk G w id R) (hx : (sLoadX tt t0 x).exec lk = some (e, t)) (hv : ∀ p ∈ e.vc, p) (m : MtS G w x v) :
    Does P old G w (do pure (.value (← Instr.loadAt t0 v))) e := by
  have fin : ∀ {s : SV} {vc : List Prop}, (∃ u, (Instr.loadAt t0 v).run P w = .ok u w ∧ MtS G w s u) → Does P old G w (do pure (.value (← Instr.loadAt t0 v))) ⟨s, [], vc⟩ := by
    rintro s vc ⟨u, h1, h2⟩
    exact .pure hb (v := u) (by simp [h1]) h2
  unfold sLoadX at hx
  split at hx
  · exact exec_fail hx
  rename_i t1 T0 ag nf el by_ fts hte
  split at hx
  · rename_i id off i n e1
    replace ⟨hTT, hx⟩ := beqT hx
    subst hTT
    replace ⟨t', hx, _⟩ := exec_need hx
    split at hx
    · rename_i cs hlk
      obtain ⟨b, C, tt', hρ, hg, hh, hm⟩ := varOf_at hlk (hrs id)
      split at hx
      · rename_i n' e' F y htk
        replace ⟨hE, hx⟩ := condR hx
        simp only [Bool.and_eq_true] at hE
        have hE1 := Ty.eq_of_beq hE.1
        subst hE1
        have hE2 := Nat.eq_of_beq_eq_true hE.2
        subst hE2
        replace ⟨s, t1', t2', hs, hx, _⟩ := exec_bind hx
        obtain ⟨rfl, rfl⟩ := exec_ok hx
        rw [tcast_self] at hs
        have hi : i < n' := hv _ List.mem_cons_self
        obtain ⟨b', hρ', hv'⟩ := m.at1.2
        rw [hρ] at hρ'
        cases hρ'
        simp only [List.cons.injEq, and_true] at hv'
        subst hv'
        obtain ⟨h3, h4⟩ := takeA_sound hm htk
        obtain ⟨h5, h6⟩ := arr_at (by simpa using h3) h4 hi
        exact fin (load_block T hte hh h5 h1 (atomsOf_sound _ _ _ _ _ _ (noO_p _) h6) hs)
      · exact exec_fail hx
    · exact exec_fail hx
  · rename_i id i off
    replace ⟨t', hx, _⟩ := exec_need hx
    split at hx
    · rename_i oc e1 l hlk
      obtain ⟨ps, q1, q2, q3⟩ := hrs id _ hlk
      obtain ⟨ps', b, m1, m2, m3⟩ := m.at1.2
      rw [q1] at m1
      cases m1
      simp only [List.cons.injEq, and_true] at m3
      subst m3
      cases hc : (Nat.beq off 0 && Ty.beq e1 T0) with
      | true =>
        rw [hc] at hx
        simp only [Bool.and_eq_true] at hc
        have hc1 := Nat.eq_of_beq_eq_true hc.1
        subst hc1
        have hc2 := Ty.eq_of_beq hc.2
        subst hc2
        replace ⟨s, t1', t2', hs, hx, _⟩ := exec_bind hx
        obtain ⟨rfl, rfl⟩ := exec_ok hx
        have hi : i < l.length := hv _ List.mem_cons_self
        obtain ⟨b', C, t2, cs', nx, g1, g2, g3, g4, g5, g6⟩ := q3 i (l.getD i e1.dflt) (by rw [List.getD, List.getElem?_eq_getElem hi]; rfl)
        rw [m2] at g1
        cases g1
        have hl := g6.len
        have hsz : C.size = e1.size + 1 := by rw [← Array.length_toList, g5, List.length_append, hl]; rfl
        have hcell : cellsAt C 0 e1.size = cs' := by unfold cellsAt; rw [g5, List.drop_zero, ← hl, List.take_left]
        exact fin (load_block T hte g4 (by simp only; omega) h1 (l := atomsOf e1 pF (l.getD i e1.dflt)) (by rw [hcell]; exact atomsOf_sound _ _ _ _ _ _ (noO_p _) g6) hs)
      | false =>
        rw [hc] at hx
        simp only [cond_false] at hx
        replace ⟨hE, hx⟩ := condR hx
        simp only [Bool.and_eq_true, Bool.not_eq_true'] at hE
        have e1' := Nat.eq_of_beq_eq_true hE.1
        subst e1'
        have e2 := Ty.eq_of_beq hE.2.1
        subst e2
        have e3 := hE.2.2
        subst e3
        obtain ⟨rfl, rfl⟩ := exec_ok hx
        have hi : i < l.length := hv _ List.mem_cons_self
        obtain ⟨b', C, t2, cs', nx, g1, g2, g3, g4, g5, g6⟩ := q3 i _ (List.getElem?_eq_getElem hi)
        rw [m2] at g1
        cases g1
        have hl := g6.len
        have hsz : C.size = e1.size + 1 := by rw [← Array.length_toList, g5, List.length_append, hl]; rfl
        have hcell : cellsAt C e1.size 1 = [.pointer nx] := by unfold cellsAt; rw [g5, ← hl, List.drop_left]; rfl
        refine fin ⟨_, run_load_at T hte g4 (by simp only [Ty.size]; omega), .of1 ?_ ?_⟩
        · simp only [Ty.size, mkV]; rw [hcell]; rfl
        · simp only [Ty.size, mkV]; rw [hcell]; exact ⟨ps, nx, q1, g2, rfl⟩
    · exact exec_fail hx
  · rename_i id0 off id i sz
    replace ⟨hE, hx⟩ := condR hx
    simp only [Bool.and_eq_true, Bool.not_eq_true'] at hE
    have e2 := Ty.eq_of_beq hE.1
    subst e2
    have e3 := hE.2
    subst e3
    have key : ∀ {id2 : Id} {oc : Bool} {e1 : Ty} {l : List e1.den} {cs : List At} {ps : List Value} {vc : List Prop}, psOf (G.ρ id2) = some ps → ResOk G w id2 (.ch oc e1 l) → ResOk G w id0 (.var cs) → takeA cs off 1 = some [.chp id2 0] → i ≤ l.length →
        ((i = 0 ∧ ∃ b, G.ρ id0 = .pointer (some ⟨b, 0, none⟩) ∧ v = .pointer (some ⟨b, off, none⟩)) ∨ ∃ k b, i = k + 1 ∧ ps[k]? = some (.pointer (some ⟨b, 0, none⟩)) ∧ v = .pointer (some ⟨b, e1.size, none⟩)) →
        Does P old G w (do pure (.value (← Instr.loadAt t0 v))) ⟨atom (.chp id2 i), [], vc⟩ := by
      intro id2 oc e1 l cs ps vc hps hch hvar htk hi hm
      obtain ⟨nx, b, o, C, t, rfl, r2, r3, r4, r5, _⟩ := lnk_at hps hch hvar htk hi hm
      refine fin ⟨_, run_load_at T hte r2 r3, .of1 ?_ ?_⟩
      · simp only [Ty.size, mkV]; rw [r4]; rfl
      · simp only [Ty.size, mkV]; rw [r4]; exact ⟨ps, nx, hps, r5, rfl⟩
    have hm := m.at1.2
    replace ⟨t', hx, _⟩ := exec_need hx
    split at hx
    · rename_i oc e1 l hlk
      replace ⟨hz, hx⟩ := condR hx
      have hz := Nat.eq_of_beq_eq_true hz
      subst hz
      replace ⟨t'', hx, _⟩ := exec_need hx
      split at hx
      · rename_i cs hlk0
        split at hx
        · rename_i id' htk
          replace ⟨hid, hx⟩ := condR hx
          have hid := Id.eq_of_beq hid
          subst hid
          obtain ⟨rfl, rfl⟩ := exec_ok hx
          have hi : i ≤ l.length := hv _ List.mem_cons_self
          have hch := hrs _ _ hlk
          obtain ⟨ps, q1, _⟩ := hch
          refine key q1 (hrs _ _ hlk) (hrs _ _ hlk0) htk hi ?_
          rcases hm with ⟨a1, b, a2, a3⟩ | ⟨k, ps', b, a1, a2, a3, a4⟩
          · exact .inl ⟨a1, b, a2, by simpa using a3⟩
          · rw [q1] at a2
            cases a2
            exact .inr ⟨k, b, a1, a3, by simpa using a4⟩
        · exact exec_fail hx
      · exact exec_fail hx
    · rename_i id2 n hlkp
      replace ⟨t'', hx, _⟩ := exec_need hx
      split at hx
      · rename_i oc e1 l hlk
        replace ⟨hz, hx⟩ := condR hx
        have hz := Nat.eq_of_beq_eq_true hz
        subst hz
        replace ⟨t3, hx, _⟩ := exec_need hx
        split at hx
        · rename_i cs hlk0
          split at hx
          · rename_i id' htk
            replace ⟨hid, hx⟩ := condR hx
            have hid := Id.eq_of_beq hid
            subst hid
            obtain ⟨rfl, rfl⟩ := exec_ok hx
            have hi : i ≤ l.length := hv _ List.mem_cons_self
            have hn : i ≤ n := hv _ (List.mem_cons_of_mem _ List.mem_cons_self)
            obtain ⟨ps0, ps, p1, p2, p3⟩ := hrs _ _ hlkp
            refine key p2 (hrs _ _ hlk) (hrs _ _ hlk0) htk hi ?_
            rcases hm with ⟨a1, b, a2, a3⟩ | ⟨k, ps', b, a1, a2, a3, a4⟩
            · exact .inl ⟨a1, b, a2, by simpa using a3⟩
            · rw [p1] at a2
              cases a2
              exact .inr ⟨k, b, a1, by rw [p3 k (by omega)]; exact a3, by simpa using a4⟩
          · exact exec_fail hx
        · exact exec_fail hx
      · exact exec_fail hx
    · exact exec_fail hx
  · exact exec_fail hx
theorem slice3 {α : Type} (A : List α) {a N k m : Nat} (u : List α) (hm : m = u.length) (hkN : k + m ≤ N) (h : a + N ≤ A.length) :
    A.take a ++ (((A.drop a).take N).take k ++ u ++ ((A.drop a).take N).drop (k + m)) ++ A.drop (a + N) = A.take (a + k) ++ u ++ A.drop (a + k + m) := by
  have e1 : A.take (a + k) = A.take a ++ ((A.drop a).take N).take k := by rw [List.take_add, List.take_take, Nat.min_eq_left (by omega)]
  have e2 : A.drop (a + k + m) = ((A.drop a).take N).drop (k + m) ++ A.drop (a + N) := by
    have hB : ∀ B : List α, N ≤ B.length → B.drop (k + m) = (B.take N).drop (k + m) ++ B.drop N := fun B hB => by
      conv => lhs; rw [← List.take_append_drop N B]
      rw [List.drop_append_of_le_length (by rw [List.length_take]; omega)]
    rw [Nat.add_assoc, ← List.drop_drop, ← List.drop_drop (i := N)]
    exact hB (A.drop a) (by rw [List.length_drop]; omega)
  rw [e1, e2]
  simp only [List.append_assoc]
include T hb h1 in
theorem does_storeX {t0 : TypeId} {idb : Id} {x y : SV} {v u : Value} {e : Eff} {t : List Id} (hfr : ∀ k, ¬ old (idb.plus k)) (hrs : ∀ id R, lk id = some R → ResOk G w id R ∧ old id ∧ ∀ j ∈ R.ids, old j)
    (hf : fitsT tt t0 y = true) (hx : (sStoreX idb x y).exec lk = some (e, t)) (hv : ∀ p ∈ e.vc, p) (m : MtS G w x v) (my : MtS G w y u) : Does P old G w (do Instr.storeAt t0 v u; pure .skip) e := by
  have hrs' : ∀ id R, lk id = some R → ResOk G w id R := fun i R h => (hrs i R h).1
  have hid : ¬ old idb := by have := hfr 0; rwa [Id.plus_zero] at this
  have fin : ∀ {b o : Nat} {C : Array Value} {t' : TypeId} {ag' : Bool} {l : List At}, y = .v ag' l → v = .pointer (some ⟨b, o, none⟩) → w.heap[b]? = some (.cells C t' (0, 0)) → o + u.cells.toList.length ≤ C.size →
      (Instr.storeAt t0 v u).run P w = .ok () (w.setRow b (over C o u.cells.toList)) := by
    rintro b o C t' ag' l rfl rfl hh hs
    obtain ⟨te, hte, hsz⟩ := fitsT_spec hf
    have hm := MtV.cells my
    have hl := hm.len
    exact run_store_at T hte hh (by omega) (by omega) (hm.one' h1)
  unfold sStoreX at hx
  split at hx
  · -- an element of a variable's array
    rename_i id off i n e1 ag l
    replace ⟨t', hx, _⟩ := exec_need hx
    have hm := MtV.cells my
    split at hx
    · rename_i cs hlk
      split at hx
      · rename_i n' e' F z htk
        replace ⟨hE, hx⟩ := condR hx
        simp only [Bool.and_eq_true] at hE
        have hE1 := Ty.eq_of_beq hE.1
        subst hE1
        have hE2 := Nat.eq_of_beq_eq_true hE.2
        subst hE2
        replace ⟨pk, t1', t2', hpk, hx, _⟩ := exec_bind hx
        split at hx
        · rename_i q
          rw [tcast_self] at hx
          split at hx
          · rename_i cs' hcs
            obtain ⟨rfl, rfl⟩ := exec_ok hx
            have hi : i < n' := hv _ List.mem_cons_self
            obtain ⟨b, C, tt', hρ, hg, hh, hmc⟩ := hrs' id _ hlk
            obtain ⟨b', hρ', hv'⟩ := m.at1.2
            rw [hρ] at hρ'
            cases hρ'
            simp only [List.cons.injEq, and_true] at hv'
            obtain ⟨h3, h4⟩ := takeA_sound hmc htk
            have h3' : off + n' * e'.size ≤ C.size := by simpa using h3
            obtain ⟨h5, _⟩ := arr_at h3' h4 hi
            obtain ⟨c1, c2, hc12, hc1, hc2, hpks⟩ := pack_sound hrs' _ _ _ _ _ _ _ _ _ hm hpk
            rw [show c2 = [] from hc2, List.append_nil] at hc12
            obtain ⟨mm, hmm, htr⟩ := hpks List.nodup_nil
            have hq := htr G w default [] ⟨.refl G w, fun b i q pos _ hp => absurd ((hmm i).1 (by rw [hp]; simp)) (by simp), fun b i q _ hi => absurd hi (by simp)⟩
            have hul : u.cells.toList.length = e'.size := by rw [hc12]; exact hc1
            have hov : off + i * e'.size + u.cells.toList.length ≤ C.size := by rw [hul]; exact h5
            have hrun := fin rfl hv' hh hov
            have hc : ∀ {old : Id → Prop}, Chg old (fun j => j = id) G G w (w.setRow b (over C (off + i * e'.size) u.cells.toList)) := .setRow (chg := fun j => j = id) hb hg rfl _
            refine ⟨_, undef, _, G, by simp [hrun], .inr ⟨rfl, rfl, rfl⟩, hc.le (fun j hj => by simp [hj]), trivial, fun j R hj => ?_⟩
            simp only [List.mem_singleton, Prod.mk.injEq, Option.some.injEq] at hj
            obtain ⟨rfl, rfl⟩ := hj
            have hmul : (i + 1) * e'.size ≤ n' * e'.size := Nat.mul_le_mul_right _ hi
            rw [Nat.add_mul, Nat.one_mul] at hmul
            obtain ⟨_, k3, k4, k5⟩ := h4.one_inv
            let D := over C (off + i * e'.size) u.cells.toList
            have hDs : D.size = C.size := over_size hov
            have hin : cellsAt D off (n' * e'.size) = (cellsAt C off (n' * e'.size)).take (i * e'.size) ++ u.cells.toList ++ (cellsAt C off (n' * e'.size)).drop (i * e'.size + u.cells.toList.length) :=
              cellsAt_over_in (by rw [hul]; omega) h3'
            have hnew : MtA G w (.d (.arr n' e') pF (z.set i q)) (cellsAt D off (n' * e'.size)) := by
              refine ⟨rfl, cellsAt_len (by omega), by rw [List.length_set]; exact k4, fun j x hx => ?_⟩
              have hj : j < n' := by have := (List.getElem?_eq_some_iff.1 hx).1; rw [List.length_set, k4] at this; exact this
              have hmj : (j + 1) * e'.size ≤ n' * e'.size := Nat.mul_le_mul_right _ hj
              rw [Nat.add_mul, Nat.one_mul] at hmj
              rw [← cellsAt_sub D off (n' * e'.size) (by omega)]
              by_cases hji : j = i
              · subst hji
                rw [List.getElem?_set_self (by rw [k4]; exact hj)] at hx
                cases hx
                have hself : cellsAt D (off + j * e'.size) e'.size = u.cells.toList := by
                  have := cellsAt_over_in (C := C) (o := off + j * e'.size) (off := 0) (n := e'.size) (vs := u.cells.toList) (by omega) (by omega)
                  rw [Nat.add_zero] at this
                  show cellsAt (over C (off + j * e'.size) u.cells.toList) _ _ = _
                  rw [this, hul, Nat.zero_add, List.take_zero, List.nil_append, List.drop_of_length_le (by rw [cellsAt_len (by omega)]; exact Nat.le_refl _), List.append_nil]
                rw [hself, hc12]
                exact hq.keep (.refl G w) (noO_p e')
              · rw [List.getElem?_set_ne (Ne.symm hji)] at hx
                have hdis : off + j * e'.size + e'.size ≤ off + i * e'.size ∨ off + i * e'.size + u.cells.toList.length ≤ off + j * e'.size := by
                  rw [hul]
                  rcases Nat.lt_or_gt_of_ne hji with h | h
                  · left
                    have : (j + 1) * e'.size ≤ i * e'.size := Nat.mul_le_mul_right _ h
                    rw [Nat.add_mul, Nat.one_mul] at this
                    omega
                  · right
                    have : (i + 1) * e'.size ≤ j * e'.size := Nat.mul_le_mul_right _ h
                    rw [Nat.add_mul, Nat.one_mul] at this
                    omega
                rw [cellsAt_over_out hov hdis]
                have := k5 j x hx
                rw [show ((C.toList.drop off).take (n' * e'.size)) = cellsAt C off (n' * e'.size) from rfl, ← cellsAt_sub C off (n' * e'.size) (by omega)] at this
                exact this
            obtain ⟨_, hput⟩ := putA_sound hmc (.one hnew) hcs
            have hDl : D.toList = C.toList.take off ++ cellsAt D off (n' * e'.size) ++ C.toList.drop (off + (cellsAt D off (n' * e'.size)).length) := by
              rw [cellsAt_len (by omega : off + n' * e'.size ≤ D.size), hin]
              show (over C (off + i * e'.size) u.cells.toList).toList = _
              rw [over_toList]
              exact (slice3 C.toList u.cells.toList rfl (by rw [hul]; omega) (by simpa using h3')).symm
            refine ⟨b, D, tt', hρ, hg, setRow_heap w b _ _ tt' _ hh, ?_⟩
            rw [hDl]
            exact hput.keep (old := fun _ => True) hc (fun _ _ => trivial)
          · exact exec_fail hx
        · exact exec_fail hx
      · exact exec_fail hx
    · exact exec_fail hx
  · -- the link at the end of a chain
    rename_i id0 off id i sz id2
    replace ⟨t', hx, _⟩ := exec_need hx
    split at hx
    · rename_i e1 l hlk
      replace ⟨hz, hx⟩ := condR hx
      have hz := Nat.eq_of_beq_eq_true hz
      subst hz
      replace ⟨t'', hx, _⟩ := exec_need hx
      split at hx
      · rename_i cs hlk0
        split at hx
        · rename_i id' htk
          replace ⟨hE, hx⟩ := condR hx
          simp only [Bool.and_eq_true] at hE
          have hE1 := Id.eq_of_beq hE.1
          subst hE1
          have hnd := nodupN_iff.1 hE.2
          simp only [List.nodup_cons, List.mem_cons, List.not_mem_nil, or_false, not_or, not_false_eq_true, and_true, List.nodup_nil] at hnd
          obtain ⟨⟨n01, n02⟩, n12⟩ := hnd
          replace ⟨t3, hx, _⟩ := exec_need hx
          split at hx
          · rename_i cs2 hlk2
            replace ⟨pk, t1', t2', hpk, hx, _⟩ := exec_bind hx
            split at hx
            · rename_i q
              split at hx
              · rename_i cs' hcs
                obtain ⟨rfl, rfl⟩ := exec_ok hx
                have hi : i = l.length := hv _ List.mem_cons_self
                subst hi
                have hch := hrs' _ _ hlk
                have hvar := hrs' _ _ hlk0
                obtain ⟨ps, q1, q2, q3⟩ := hch
                have hm := m.at1.2
                obtain ⟨nx, bL, oL, CL, tL, hvL, r2, r3, r4, r5, r6⟩ := lnk_at q1 (hrs' _ _ hlk) hvar htk (Nat.le_refl _) (v := v) (by
                  rcases hm with ⟨a1, b, a2, a3⟩ | ⟨k, ps', b, a1, a2, a3, a4⟩
                  · exact .inl ⟨a1, b, a2, by simpa using a3⟩
                  · rw [q1] at a2
                    cases a2
                    exact .inr ⟨k, b, a1, a3, by simpa using a4⟩)
                rw [q2] at r5
                cases r5
                simp only [labC] at q3 r6
                obtain ⟨b2, C2, tt2, s1, s2, s3, s4⟩ := hrs' _ _ hlk2
                obtain ⟨b2', s1', s5⟩ := my.at1.2
                rw [s1] at s1'
                cases s1'
                simp only [List.cons.injEq, and_true] at s5
                have hu : u = .pointer (some ⟨b2, 0, none⟩) := s5
                have huc : u.cells.toList = [u] := by rw [hu]; rfl
                obtain ⟨b0, C0, tt0, v1, v2, v3, v4⟩ := hvar
                have h0old := (hrs _ _ hlk0).2
                have hidold := (hrs _ _ hlk).2.1
                have h2old := (hrs _ _ hlk2).2.1
                have hrun := fin rfl hvL r2 (by rw [huc]; exact r3)
                rw [huc] at hrun
                -- the labels and the names afterwards
                let n := l.length
                let ps' : List Value := ps.take n ++ [u, .pointer none]
                let R : Id → List Nat → Option (List Nat) := fun j p => if j = id' then some p else if j = id2 ∧ p = [] then some [n] else none
                let G1 : Gh := ⟨fun j => if j = idb then .func (.func 0) #[] ps'.toArray else G.ρ j, turned G R idb⟩
                have hpn : n < ps.length := (List.getElem?_eq_some_iff.1 q2).1
                have htl : (ps.take n).length = n := by rw [List.length_take]; omega
                have hp1 : ∀ k, k < n → ps'[k]? = ps[k]? := fun k hk => by
                  show (ps.take n ++ [u, .pointer none])[k]? = _
                  rw [List.getElem?_append_left (by omega), List.getElem?_take_of_lt hk]
                have hp2 : ps'[n]? = some u := by
                  show (ps.take n ++ [u, .pointer none])[n]? = _
                  rw [List.getElem?_append_right (by omega), htl, Nat.sub_self]; rfl
                have hp3 : ps'[n + 1]? = some (.pointer none) := by
                  show (ps.take n ++ [u, .pointer none])[n + 1]? = _
                  rw [List.getElem?_append_right (by omega), htl, Nat.add_sub_cancel_left]; rfl
                have hρb : psOf (G1.ρ idb) = some ps' := by simp [G1, psOf]
                have hρo : ∀ j, old j → G1.ρ j = G.ρ j := fun j hj => by simp only [G1]; rw [if_neg (fun (e : j = idb) => hid (e ▸ hj))]
                have hR : ∀ j p r, R j p = some r → j ∈ [id0, id2, id', idb] := fun j p r h => by
                  simp only [R] at h
                  split at h
                  · rename_i e'; simp [e']
                  · split at h
                    · rename_i e'; simp [e'.1]
                    · cases h
                have hc1 : Chg old (fun j => j ∈ [id0, id2, id', idb]) G G1 w w := Chg.turn hb hR hid rfl
                have g0 : ∀ b, G.g b = .own id0 [] → G1.g b = .own id0 [] := fun b hg => by
                  simp only [G1, turned, hg, R]
                  rw [if_neg n01, if_neg (fun h => n02 h.1)]
                have gid : ∀ b p, G.g b = .own id' p → G1.g b = .own idb p := fun b p hg => turned_own hg (by simp [R])
                have g2 : G1.g b2 = .own idb [n] := turned_own s2 (by simp only [R]; rw [if_neg (Ne.symm n12)]; simp)
                have hLlab : ∃ j p, G1.g bL = .own j p ∧ (j = id0 ∨ j = idb) := by
                  rcases r6 with ⟨_, a, _⟩ | ⟨k, _, a, _⟩
                  · exact ⟨_, _, g0 _ a, .inl rfl⟩
                  · exact ⟨_, _, gid _ _ a, .inr rfl⟩
                obtain ⟨jL, pL, hL, hjL⟩ := hLlab
                have hc2 : ∀ {old : Id → Prop}, Chg old (fun j => j ∈ [id0, id2, id', idb]) G1 G1 w (w.setRow bL (over CL oL [u])) := .setRow (chg := fun j => j ∈ [id0, id2, id', idb]) hc1.bnd hL (by rcases hjL with h | h <;> simp [h]) _
                have hother : ∀ b, b ≠ bL → (w.setRow bL (over CL oL [u])).heap[b]? = w.heap[b]? := fun b hb => setRow_other w bL b _ hb
                have hself : (w.setRow bL (over CL oL [u])).heap[bL]? = some (.cells (over CL oL [u]) tL (0, 0)) := setRow_heap w bL _ _ tL _ r2
                have hCL : (over CL oL [u]).toList = CL.toList.take oL ++ [u] ++ CL.toList.drop (oL + 1) := over_toList
                refine ⟨_, undef, _, G1, by simp [hrun], .inr ⟨rfl, rfl, rfl⟩, (hc1.trans hc2).le (fun j hj => by simpa using hj), trivial, fun j S hj => ?_⟩
                simp only [List.mem_cons, Prod.mk.injEq, Option.some.injEq, reduceCtorEq, and_false, List.not_mem_nil, or_false, false_or] at hj
                rcases hj with ⟨rfl, rfl⟩ | ⟨rfl, rfl⟩ | ⟨rfl, rfl⟩
                · -- the variable
                  have hmc : MtL G1 w cs C0.toList := v4.keepR hc1.pb hρo (fun i hi => h0old.2 i hi)
                  rcases r6 with ⟨a1, a2, a3, a4⟩ | ⟨k, a1, a2, a3, a4⟩
                  · rw [v1] at a4
                    cases a4
                    rw [v3] at r2
                    cases r2
                    subst a3
                    have hn0 : n = 0 := a1
                    have hat : MtA G1 w (.chp idb 0) [u] := ⟨ps', some ⟨b2, 0, none⟩, hρb, by rw [← hu, ← hn0]; exact hp2, by rw [hu]⟩
                    obtain ⟨_, h4⟩ := putA_sound hmc (.one hat) hcs
                    exact ⟨_, _, _, (hρo _ h0old.1).trans v1, g0 _ v2, hself, by rw [hCL]; exact h4.keep (old := fun _ => True) hc2 (fun _ _ => trivial)⟩
                  · have hne : b0 ≠ bL := fun e => by
                      rw [e, a2] at v2
                      cases v2
                    obtain ⟨k1, k2⟩ := takeA_sound v4 htk
                    obtain ⟨ps2, A, w1, w2, w3⟩ := k2.one_inv
                    rw [q1] at w1
                    cases w1
                    have hn0 : 0 < n := by show 0 < l.length; omega
                    have hat : MtA G1 w (.chp idb 0) [.pointer A] := ⟨ps', A, hρb, by rw [hp1 0 hn0]; exact w2, rfl⟩
                    obtain ⟨_, h4⟩ := putA_sound hmc (.one hat) hcs
                    rw [← w3] at h4
                    have hsame : C0.toList.take off ++ (C0.toList.drop off).take 1 ++ C0.toList.drop (off + ((C0.toList.drop off).take 1).length) = C0.toList := by
                      have hl1 : ((C0.toList.drop off).take 1).length = 1 := by rw [w3]; rfl
                      rw [hl1, ← List.drop_drop, List.append_assoc, List.take_append_drop, List.take_append_drop]
                    rw [hsame] at h4
                    exact ⟨b0, C0, tt0, (hρo _ h0old.1).trans v1, g0 _ v2, (hother b0 hne).trans v3, h4.keep (old := fun _ => True) hc2 (fun _ _ => trivial)⟩
                · exact ⟨ps, ps', by rw [hρo _ hidold]; exact q1, hρb, hp1⟩
                · refine ⟨ps', hρb, by rw [List.length_append]; exact hp3, fun k y hk => ?_⟩
                  have hb2L : b2 ≠ bL := fun e => by
                    rcases r6 with ⟨_, a, _⟩ | ⟨k, _, a, _⟩
                    · rw [e, a] at s2; cases s2; exact n02 rfl
                    · rw [e, a] at s2; cases s2
                  have hkp : KeepPB G G1 w (w.setRow bL (over CL oL [u])) := hc1.pb.trans (hc2 (old := fun _ => True)).pb
                  rcases Nat.lt_trichotomy k n with hkn | rfl | hkn
                  · rw [List.getElem?_append_left hkn] at hk
                    obtain ⟨b, C, t, c1, nx, a1, a2, a3, a4, a5, a6⟩ := q3 k y hk
                    by_cases hlast : k + 1 = n
                    · -- its next is the new one
                      rcases r6 with ⟨z1, _⟩ | ⟨k', z1, z2, z3, z4⟩
                      · exfalso; have : n = 0 := z1; omega
                      · have hkk : k' = k := by have : n = k' + 1 := z1; omega
                        subst hkk
                        rw [z4] at a1
                        cases a1
                        rw [r2] at a4
                        cases a4
                        subst z3
                        have hl := a6.len
                        refine ⟨bL, _, tL, c1, some ⟨b2, 0, none⟩, by rw [hp1 _ hkn]; exact z4, by rw [hlast, hp2, hu], gid _ _ z2, hself, ?_, a6.keep hkp (noO_p e1)⟩
                        rw [hCL, a5, ← hl, List.take_left, List.drop_of_length_le (by simp), List.append_nil, hu]
                    · have hbL : b ≠ bL := fun e => by
                        rcases r6 with ⟨_, z2, _⟩ | ⟨k', z1, z2, _⟩
                        · rw [e, z2] at a3; cases a3
                        · rw [e, z2] at a3; cases a3; exact hlast z1.symm
                      exact ⟨b, C, t, c1, nx, by rw [hp1 _ hkn]; exact a1, by rw [hp1 _ (by omega)]; exact a2, gid _ _ a3, (hother b hbL).trans a4, a5, a6.keep hkp (noO_p e1)⟩
                  · rw [List.getElem?_append_right (Nat.le_refl _), Nat.sub_self] at hk
                    cases hk
                    obtain ⟨c1, c2, hc12, hc1', hc2', hpks⟩ := pack_sound hrs' _ _ _ _ _ _ _ _ _ s4 hpk
                    obtain ⟨mm, hmm, htr⟩ := hpks List.nodup_nil
                    have hq := htr G w default [] ⟨.refl G w, fun b i q pos _ hp => absurd ((hmm i).1 (by rw [hp]; simp)) (by simp), fun b i q _ hi => absurd hi (by simp)⟩
                    have hc2n : c2 = [.pointer none] := hc2'.one_inv
                    exact ⟨b2, C2, tt2, c1, none, by rw [hp2, hu], hp3, g2, (hother b2 hb2L).trans s3, by rw [hc12, hc2n], hq.keep hkp (noO_p e1)⟩
                  · have := (List.getElem?_eq_some_iff.1 hk).1
                    rw [List.length_append] at this
                    exfalso
                    have h5 : k < l.length + 1 := this
                    omega
              · exact exec_fail hx
            · exact exec_fail hx
          · exact exec_fail hx
        · exact exec_fail hx
      · exact exec_fail hx
    · exact exec_fail hx
  · exact exec_fail hx
include hb in
theorem does_nilCheckX {x : SV} {v : Value} {e : Eff} {t : List Id} (hrs : ∀ id R, lk id = some R → ResOk G w id R) (hx : (sNilCheckX x).exec lk = some (e, t)) (hv : ∀ p ∈ e.vc, p) (m : MtS G w x v) : ∃ b, v = .pointer (some b) ∧ Does P old G w (pure (.value v)) e := by
  unfold sNilCheckX at hx
  split at hx
  · rename_i id i
    replace ⟨t', hx, _⟩ := exec_need hx
    split at hx
    · rename_i oc e1 l hlk
      obtain ⟨rfl, _⟩ := exec_ok hx
      have hi : i < l.length := hv _ List.mem_cons_self
      obtain ⟨ps, A, m1, m2, m3⟩ := m.at1.2
      obtain ⟨ps', q1, q2, q3⟩ := hrs _ _ hlk
      rw [m1] at q1
      cases q1
      obtain ⟨b, C, t2, cs, nx, g1, _⟩ := q3 i _ (List.getElem?_eq_getElem hi)
      have hA : A = some ⟨b, 0, none⟩ := by rw [m2] at g1; simpa using g1
      subst hA
      have hvv : v = .pointer (some ⟨b, 0, none⟩) := by simpa using m3
      exact ⟨_, hvv, .pure hb (v := v) (by simp) (.of1 (by rw [hvv]; rfl) ⟨ps, b, m1, m2, by rw [hvv]⟩)⟩
    · exact exec_fail hx
  · rename_i id0 off id i sz
    obtain ⟨rfl, _⟩ := exec_ok hx
    rcases m.at1.2 with ⟨_, b, _, a⟩ | ⟨k, ps, b, _, _, _, a⟩
    · exact ⟨_, by simpa using a, .pure hb (v := v) (by simp) m⟩
    · exact ⟨_, by simpa using a, .pure hb (v := v) (by simp) m⟩
  · exact exec_fail hx
include T hb in
theorem does_fieldAddrX {t0 : TypeId} {f : Nat} {x : SV} {v : Value} {e : Eff} {t : List Id} (hx : (sFieldAddrX tt t0 f x).exec lk = some (e, t)) (m : MtS G w x v) :
    Does P old G w (do pure (.value (← Instr.fieldAt t0 v f))) e := by
  unfold sFieldAddrX at hx
  split at hx
  · exact exec_fail hx
  · rename_i t' T0 ag nf el by_ fts hte
    replace ⟨hlt, hx⟩ := condR hx
    have hf : f < nf := by simpa [Nat.blt_eq] using hlt
    have hrun := run_fieldAt T hte (f := f) hf w
    simp only at hrun
    split at hx
    · rename_i id i off
      obtain ⟨rfl, _⟩ := exec_ok hx
      obtain ⟨ps, b, m1, m2, m3⟩ := m.at1.2
      have hv : v = .pointer (some ⟨b, off, none⟩) := by simpa using m3
      subst hv
      exact .pure hb (v := .pointer (some ⟨b, off + fieldOff T0 nf f, none⟩)) (by simp [hrun]) (.of1 rfl ⟨ps, b, m1, m2, rfl⟩)
    · exact exec_fail hx
include T hb in
theorem does_indexAddrX {t0 : TypeId} {x i : SV} {vx vi : Value} {e : Eff} {t : List Id} (hx : (sIndexAddrX tt t0 x i).exec lk = some (e, t)) (hv : ∀ p ∈ e.vc, p) (mx : MtS G w x vx) (mi : MtS G w i vi) :
    Does P old G w (do pure (.value (← Instr.indexAt t0 vx vi))) e := by
  unfold sIndexAddrX at hx
  split at hx
  · exact exec_fail hx
  · rename_i n e1 el hT
    split at hx
    · rename_i id off k F z
      obtain ⟨rfl, _⟩ := exec_ok hx
      obtain ⟨h0, h1⟩ : 0 ≤ z ∧ z < (n : Int) := hv _ List.mem_cons_self
      obtain ⟨rfl, _⟩ := mi.int
      obtain ⟨b, m1, m2⟩ := mx.at1.2
      have hvx : vx = .pointer (some ⟨b, off, none⟩) := by simpa using m2
      subst hvx
      obtain ⟨hu, _, te, hte, rfl⟩ := arT_spec T hT
      exact .pure hb (v := .pointer (some ⟨b, off + z.toNat * te.T.size, none⟩)) (by simp [Instr.indexAt, run_underlying hu, asIntOf, Instr.sureAddr, h0, h1, run_size_at T hte, addr_add]) (.of1 rfl ⟨b, m1, rfl⟩)
    · exact exec_fail hx
include T hb in
theorem does_sliceX {t0 : TypeId} {x : SV} {v : Value} {e : Eff} {t : List Id} (hx : (sSliceX tt t0 x).exec lk = some (e, t)) (m : MtS G w x v) :
    Does P old G w (do pure (.value (← Instr.sliceAt t0 v none none none))) e := by
  unfold sSliceX at hx
  split at hx
  · exact exec_fail hx
  · rename_i n e1 el hT
    split at hx
    · rename_i id off
      obtain ⟨rfl, _⟩ := exec_ok hx
      obtain ⟨b, m1, m2⟩ := m.at1.2
      have hv : v = .pointer (some ⟨b, off, none⟩) := by simpa using m2
      subst hv
      obtain ⟨hu, _, te, hte, rfl⟩ := arT_spec T hT
      have ha : (⟨b, off, none⟩ : Addr).add 0 = ⟨b, off, none⟩ := by rw [addr_add]; rfl
      exact .pure hb (v := .slice (some ⟨b, off, none⟩) n n) (by simp [Instr.sliceAt, run_underlying hu, Instr.sureAddr, Instr.sliceBounds, Instr.sliceBound, run_size_at T hte, ha]) (.of1 rfl ⟨b, m1, rfl⟩)
    · exact exec_fail hx
include T hb in
theorem does_toArr {t0 : TypeId} {x : SV} {v : Value} {e : Eff} {t : List Id} (hx : (sToArr tt t0 x).exec lk = some (e, t)) (hv : ∀ p ∈ e.vc, p) (m : MtS G w x v) :
    Does P old G w (do pure (.value (← Instr.arrayAt t0 v))) e := by
  unfold sToArr at hx
  split at hx
  · exact exec_fail hx
  · rename_i n e1 el hT
    split at hx
    · split at hx
      · rename_i F e' l
        replace ⟨hE, hx⟩ := condR hx
        simp only [Bool.and_eq_true, Nat.blt_eq] at hE
        obtain ⟨hE1, hn0, hE2, hE3⟩ := hE
        have hE1 := Ty.eq_of_beq hE1
        subst hE1
        obtain ⟨rfl, _⟩ := exec_ok hx
        rw [tcast_self]
        have hn : n ≤ List.length l := hv _ List.mem_cons_self
        obtain ⟨hno, A, k, c, rfl, htr⟩ := m.slice
        obtain ⟨hk, hc, _⟩ := htr.sl_len
        subst hk
        obtain ⟨hu, _, te, hte, rfl⟩ := arT_spec T hT
        obtain ⟨A', n', c', hcs, _, _, _, _, hblk⟩ := htr
        simp only [List.cons.injEq, Value.slice.injEq, and_true] at hcs
        obtain ⟨rfl, rfl, rfl⟩ := hcs
        simp only [Ty.noO, Bool.and_eq_true, Bool.not_eq_true'] at hno
        rcases hblk with ⟨_, hz⟩ | ⟨b, off, C, tb, fz, rfl, hl, hh, hs, _, hj⟩
        · omega
        · have hmul : n * te.T.size ≤ List.length l * te.T.size := Nat.mul_le_mul_right _ hn
          refine .pure hb (v := .pointer (some ⟨b, off, none⟩)) (by simp [Instr.arrayAt, run_underlying hu, show ¬ List.length l < n by omega]) (.of1 rfl ⟨rfl, hno.1, b, off, C, tb, fz, rfl, (labOk_keep (.refl G w) hno.1 hl).1, hh, by show off + n * te.T.size ≤ C.size; omega, cellsAt_len (by show off + n * te.T.size ≤ C.size; omega), by rw [List.length_take]; exact Nat.min_eq_left hn, fun j y hy => ?_⟩)
          have hjn : j < n := by have := (List.getElem?_eq_some_iff.1 hy).1; rw [List.length_take] at this; omega
          rw [List.getElem?_take_of_lt hjn] at hy
          have hmj : (j + 1) * te.T.size ≤ n * te.T.size := Nat.mul_le_mul_right _ hjn
          rw [Nat.add_mul, Nat.one_mul] at hmj
          show Tr G w te.T pF default [] (((cellsAt C off (n * te.T.size)).drop (j * te.T.size)).take te.T.size) y
          rw [← cellsAt_sub C off (n * te.T.size) (by omega)]
          exact Tr.le hE3 ((hj j y hy).keep (.refl G w) hno.2)
      · exact exec_fail hx
    · exact exec_fail hx
include T in
theorem ptT {t : TypeId} (h : isPtT tt t = true) : ∃ el, P.underlying t = some (.pointer el) := by
  unfold isPtT at h
  split at h
  · rename_i t' nf el by_ fts hte
    obtain ⟨d, hd, hi⟩ := und_at T hte
    have hf := di_plain T hte rfl
    simp only at hf
    subst hf
    cases d <;> simp [dinfo, TE.di] at hi
    exact ⟨_, hd⟩
  · cases h
include T hb in
theorem does_ptrNil {op : BinOp} {xT : TypeId} {ox oy : Operand} {x : SV} {v : Value} {e : Eff} {t : List Id} (hrs : ∀ id R, lk id = some R → ResOk G w id R) (hx : (sPtrNil tt xT op x).exec lk = some (e, t)) (hv : ∀ p ∈ e.vc, p) (m : MtS G w x v) :
    Does P old G w (do pure (.value (← (do eqGuard op xT ox oy v (.pointer none); binOp op xT v (.pointer none))))) e := by
  have hg : ∀ a, eqGuard op xT ox oy (.pointer a) (.pointer none) = pure () := fun a => by cases op <;> rfl
  unfold sPtrNil at hx
  cases hpt : isPtT tt xT with
  | false => rw [hpt] at hx; exact exec_fail hx
  | true =>
  rw [hpt] at hx
  simp only [Bool.not_true, cond_false] at hx
  obtain ⟨el, hu⟩ := ptT T hpt
  have heq : ∀ a, (Op.equal xT (.pointer a) (.pointer none)).run P w = .ok a.isNone w := fun a => run_equal_pointer_nil w xT a (by rw [hu]; simp [Program.pointee, hu])
  split at hx
  · rename_i id i
    replace ⟨t', hx, _⟩ := exec_need hx
    split at hx
    · rename_i oc e1 l hlk
      obtain ⟨ps, A, m1, m2, m3⟩ := m.at1.2
      have hvv : v = .pointer A := by simpa using m3
      subst hvv
      obtain ⟨ps', q1, q2, q3⟩ := hrs _ _ hlk
      rw [m1] at q1
      cases q1
      have hA : i ≤ l.length → A.isNone = decide (i = l.length) := fun hle => by
        by_cases hi : i < l.length
        · obtain ⟨b, C, t2, cs, nx, g1, _⟩ := q3 i _ (List.getElem?_eq_getElem hi)
          rw [m2] at g1
          simp only [Option.some.injEq, Value.pointer.injEq] at g1
          rw [g1]
          simp [Nat.ne_of_lt hi]
        · have hi2 : i = l.length := by omega
          rw [hi2] at m2
          rw [q2] at m2
          simp only [Option.some.injEq, Value.pointer.injEq] at m2
          rw [← m2]
          simp [hi2]
      split at hx
      · obtain ⟨rfl, _⟩ := exec_ok hx
        have hA := hA (hv _ List.mem_cons_self)
        exact .pure hb (v := .bool (decide (i = l.length))) (by simp [hg, binOp, heq, hA]) .ofBool
      · obtain ⟨rfl, _⟩ := exec_ok hx
        have hA := hA (hv _ List.mem_cons_self)
        exact .pure hb (v := .bool (!decide (i = l.length))) (by simp [hg, binOp, heq, hA]) .ofBool
      · exact exec_fail hx
    · exact exec_fail hx
  · have hvv : v = .pointer none := by simpa using (show [v] = [Value.pointer none] from m.at1.2)
    subst hvv
    split at hx
    · obtain ⟨rfl, _⟩ := exec_ok hx
      exact .pure hb (v := .bool true) (by simp [hg, binOp, heq]) .ofKb
    · obtain ⟨rfl, _⟩ := exec_ok hx
      exact .pure hb (v := .bool false) (by simp [hg, binOp, heq]) .ofKb
    · exact exec_fail hx
  · exact exec_fail hx
end
end Go.Sx
