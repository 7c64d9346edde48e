/- Symbolic execution, part L: append. -/
import Derived.Test.YtbnmeeajooljmaaSxK
import Derived.Laws.AppendOwn
set_option linter.all false
namespace Go.Sx
open Go Go.RowKit

section
variable {P : Program} {tt : TT} (T : TtOk P tt) {old : Id → Prop} {G : Gh} {w : World} {lk : Id → Option Res} (hb : ∀ b, G.g b ≠ .no → b < w.heap.size) (h1 : RhoOk G)
theorem isSlT_spec (T : TtOk P tt) {t : TypeId} (h : isSlT tt t = true) : ∃ el, P.underlying t = some (.slice el) := by
  unfold isSlT at h
  split at h
  · rename_i x hx
    exact ⟨_, (slT_spec T hx).1⟩
  · cases h
include T in
/-- in place -/
theorem run_app_room {t0 t2 ty el : TypeId} {Te : Ty} {by_ : Nat} (hT : slT tt t0 = some (Te, el, by_)) (hT2 : isSlT tt t2 = true) {b o n c m : Nat} {C : Array Value} {t' : TypeId} (hh : w.heap[b]? = some (.cells C t' (0, 0)))
    (hs : o + c * Te.size ≤ C.size) {A2 : Option Addr} {c2 : Nat} {news : List Value} (hf : (Builtin.firstCells Te.size m (.slice A2 m c2)).run P w = .ok news.toArray w) (hl : news.length = m * Te.size)
    (h1 : ∀ u ∈ news, u.oneCell' = true) (hroom : n + m ≤ c) :
    (Builtin.append_ #[t0, t2] ty #[.slice (some ⟨b, o, none⟩) n c, .slice A2 m c2]).run P w = .ok (.slice (some ⟨b, o, none⟩) (n + m) c) (w.setRow b (over C (o + n * Te.size) news)) := by
  obtain ⟨hu, hsz, te, hte, hTe, hby⟩ := slT_spec T hT
  subst hTe
  obtain ⟨el2, hu2⟩ := isSlT_spec T hT2
  have hle : (n + m) * te.T.size ≤ c * te.T.size := Nat.mul_le_mul_right _ hroom
  rw [Nat.add_mul] at hle
  have hst := run_storeCells_at P b (o + n * te.T.size) t' news 0 C w hh (by omega) h1
  simp only [Nat.add_zero] at hst
  simp [Builtin.append_, run_underlying hu, run_underlying hu2, run_size_at T hte, Builtin.lenOf, hroom, hf, addr_add, hst, over]
include T in
/-- grown -/
theorem run_app_grow {t0 t2 ty el : TypeId} {Te : Ty} {by_ : Nat} (hT : slT tt t0 = some (Te, el, by_)) (hT2 : isSlT tt t2 = true) {n c m : Nat} {A A2 : Option Addr} {c2 : Nat} {olds news : List Value}
    (hfo : (Builtin.firstCells Te.size n (.slice A n c)).run P w.drew = .ok olds.toArray w.drew) (hf : (Builtin.firstCells Te.size m (.slice A2 m c2)).run P w.drew = .ok news.toArray w.drew)
    (hg : c < n + m) (hby : (n + m) * by_ ≤ maxL) (hb0 : 0 < by_) (hl : olds.length + news.length = (n + m) * Te.size) :
    ∃ c' Z, (Builtin.append_ #[t0, t2] ty #[.slice A n c, .slice A2 m c2]).run P w = .ok (.slice (some ⟨w.heap.size, 0, none⟩) (n + m) c') (w.drew.alloc (.cells (olds ++ news ++ Z).toArray el)) ∧ n + m ≤ c' ∧ (olds ++ news ++ Z).length = c' * Te.size := by
  obtain ⟨hu, hsz, te, hte, hTe, hby'⟩ := slT_spec T hT
  subst hTe
  obtain ⟨el2, hu2⟩ := isSlT_spec T hT2
  obtain ⟨i, hi, hz, hs, hbi⟩ := info_at T hte
  have hbb : i.bytes = by_ := hbi.trans hby'
  have hnm : n + m ≤ (n + m) * by_ := Nat.le_mul_of_pos_right _ hb0
  have h63' : ¬ (9223372036854775807 < ((n : Int) + (m : Int))) := by simp only [maxL] at hby; omega
  have h48' : ¬ (281474976710656 < Builtin.nextslicecap (n + m) c * i.bytes) := by
    have := growslice_fits (bytes := i.bytes) hg (by rw [hbb]; exact hby)
    omega
  have hge := grownCap_ge w (n + m) c el
  have hzc : (Builtin.zeroCells (mkV te.ag (zeroCells te.T)).cells (grownCap w (n + m) c el - (n + m))).size = (grownCap w (n + m) c el - (n + m)) * te.T.size := by
    rw [size_zeroCells, mkV_cells T hte]
    congr 1
    simpa using (Tr.zero (G := ⟨fun _ => undef, fun _ => .no⟩) (w := w) te.T (F := pF) (id := default) (p := []) (noO_p _)).len
  refine ⟨grownCap w (n + m) c el, (Builtin.zeroCells (mkV te.ag (zeroCells te.T)).cells (grownCap w (n + m) c el - (n + m))).toList, ?_, hge, ?_⟩
  · rw [← hs] at hfo hf
    have hng : ¬ (n + m ≤ c) := by omega
    simp [Builtin.append_, run_underlying hu, run_underlying hu2, sizeOf, typeInfo, zeroValue, hi, hz, Builtin.lenOf, hng, h63', h48', Question.forced, hf, hfo, newRow, grownCap]
    congr 2
    apply Array.ext'
    simp [List.append_assoc]
  · rw [List.length_append, List.length_append, hl, Array.length_toList, hzc, ← Nat.add_mul]
    congr 1
    omega

/-- labels turned: what ids own goes over to idb -/
def turned (G : Gh) (R : Id → List Nat → Option (List Nat)) (idb : Id) : Nat → Lab := fun b => match G.g b with
  | .own i q => match R i q with
    | some r => .own idb r
    | none => .own i q
  | l => l
theorem turned_own {R : Id → List Nat → Option (List Nat)} {idb : Id} {b : Nat} {i : Id} {q r : List Nat} (h : G.g b = .own i q) (hr : R i q = some r) : turned G R idb b = .own idb r := by simp [turned, h, hr]
theorem Chg.turn {chg : Id → Prop} (hb : ∀ b, G.g b ≠ .no → b < w.heap.size) {R : Id → List Nat → Option (List Nat)} (hR : ∀ i q r, R i q = some r → chg i) {idb : Id} (hid : ¬ old idb) {v : Value} (hv : v.oneCell' = true) :
    Chg old chg G ⟨fun i => if i = idb then v else G.ρ i, turned G R idb⟩ w w := by
  refine ⟨fun i hi => by simp only; rw [if_neg (fun (e : i = idb) => hid (e ▸ hi))], ⟨fun b h => ⟨by simp [turned, h], rfl⟩, fun b h => ⟨by simp [turned, h], rfl⟩⟩, fun b i q h hn => ⟨?_, rfl⟩, fun b _ h => ⟨rfl, by simp [turned, h]⟩, fun b h => ?_, fun h1 i => ?_, rfl, rfl, rfl, Nat.le_refl _⟩
  · simp only [turned, h]
    cases hr : R i q with
    | none => rfl
    | some r => exact absurd (hR i q r hr) hn
  · refine hb b fun h2 => h ?_
    simp [turned, h2]
  · simp only
    split
    · exact hv
    · exact h1 i
theorem Chg.drew {chg : Id → Prop} {G' : Gh} {w' : World} (h : Chg old chg G G' w w') : Chg old chg G G' w w'.drew :=
  ⟨h.rho, ⟨h.pb.per, h.pb.bor⟩, h.own, h.no, h.bnd, h.one, h.os, h.tape, h.output, h.size⟩
/-- what holds of an element stays, when nothing of its own turns -/
def Stab (old : Id → Prop) (idb : Id) (Pel : Gh → World → Nat → List Value → Prop) : Prop :=
  ∀ (G1 G2 : Gh) (w1 w2 : World) (k : Nat) (cs : List Value), KeepPB G1 G2 w1 w2 → (∀ i, old i → G2.ρ i = G1.ρ i) →
    (∀ b j q, G1.g b = .own idb (j :: q) → G2.g b = .own idb (j :: q) ∧ w2.heap[b]? = w1.heap[b]?) → Pel G1 w1 k cs → Pel G2 w2 k cs
structure Turns (old : Id → Prop) (G G' : Gh) (w : World) (R : Id → List Nat → Option (List Nat)) (idb : Id) : Prop where
  pb : KeepPB G G' w w
  rho : ∀ i, old i → G'.ρ i = G.ρ i
  own : ∀ b i q r, G.g b = .own i q → R i q = some r → G'.g b = .own idb r
include T hb in
theorem app_core {chg : Id → Prop} {t0 t2 ty el : TypeId} {Te : Ty} {by_ : Nat} (hT : slT tt t0 = some (Te, el, by_)) (hT2 : isSlT tt t2 = true) (hb0 : 0 < by_) {idb : Id} (hid : ¬ old idb) {R : Id → List Nat → Option (List Nat)} (hR : ∀ i q r, R i q = some r → chg i)
    {Pel : Gh → World → Nat → List Value → Prop} (hst : Stab old idb Pel) {A A2 : Option Addr} {n c m c2 : Nat} {news : List Value} (hnc : n ≤ c)
    (hA : (A = none ∧ c = 0) ∨ ∃ b o C t', A = some ⟨b, o, none⟩ ∧ w.heap[b]? = some (.cells C t' (0, 0)) ∧ o + c * Te.size ≤ C.size ∧ (∃ i0 q0, G.g b = .own i0 q0 ∧ R i0 q0 = some []) ∧
      ∀ G', Turns old G G' w R idb → ∀ k, k < n → Pel G' w k (cellsAt C (o + k * Te.size) Te.size))
    (hf : ∀ w' : World, w'.heap = w.heap → (Builtin.firstCells Te.size m (.slice A2 m c2)).run P w' = .ok news.toArray w') (hl : news.length = m * Te.size) (h1 : ∀ u ∈ news, u.oneCell' = true)
    (hnew : ∀ G', Turns old G G' w R idb → ∀ k, k < m → Pel G' w (n + k) ((news.drop (k * Te.size)).take Te.size)) (hn0 : n ≤ maxL) (hby : m ≠ 0 → (n + m) * by_ ≤ maxL ∨ (n + m ≤ c ∧ n + m ≤ maxL)) :
    ∃ A' c' w' G', (Builtin.append_ #[t0, t2] ty #[.slice A n c, .slice A2 m c2]).run P w = .ok (.slice A' (n + m) c') w' ∧ Chg old chg G G' w w' ∧ G'.ρ idb = .slice A' (n + m) c' ∧ n + m ≤ c' ∧ n + m ≤ maxL ∧ (n + m ≤ c → c' = c) ∧
      ((A' = none ∧ c' = 0) ∨ ∃ b o C t, A' = some ⟨b, o, none⟩ ∧ G'.g b = .own idb [] ∧ w'.heap[b]? = some (.cells C t (0, 0)) ∧ o + c' * Te.size ≤ C.size ∧ ∀ k, k < n + m → Pel G' w' k (cellsAt C (o + k * Te.size) Te.size)) := by
  have hnm : n + m ≤ maxL := by
    by_cases hm : m = 0
    · omega
    · rcases hby hm with h | h
      · exact Nat.le_trans (Nat.le_mul_of_pos_right _ hb0) h
      · exact h.2
  have hturn : ∀ v, v.oneCell' = true → Turns old G ⟨fun i => if i = idb then v else G.ρ i, turned G R idb⟩ w R idb := fun v hv =>
    ⟨(Chg.turn (old := old) (chg := chg) hb hR hid hv).pb, (Chg.turn (old := old) (chg := chg) (w := w) hb hR hid hv).rho, fun b i q r h hr => turned_own h hr⟩
  by_cases hroom : n + m ≤ c
  · rcases hA with ⟨rfl, rfl⟩ | ⟨b, o, C, t', rfl, hh, hs, ⟨i0, q0, hg0, hr0⟩, hel⟩
    · have hn00 : n = 0 := by omega
      have hm0 : m = 0 := by omega
      subst hn00
      subst hm0
      obtain ⟨hu, hsz, te, hte, hTe, hby'⟩ := slT_spec T hT
      obtain ⟨el2, hu2⟩ := isSlT_spec T hT2
      subst hTe
      have hn : news = [] := List.eq_nil_of_length_eq_zero (by simpa using hl)
      subst hn
      refine ⟨none, 0, w, _, ?_, Chg.turn (v := .slice none 0 0) hb hR hid rfl, by simp, Nat.le_refl _, hnm, fun _ => rfl, .inl ⟨rfl, rfl⟩⟩
      simp [Builtin.append_, run_underlying hu, run_underlying hu2, run_size_at T hte, Builtin.lenOf, hf w rfl]
    · have hrun := run_app_room (ty := ty) T hT hT2 hh hs (hf w rfl) hl h1 hroom
      have hle : (n + m) * Te.size ≤ c * Te.size := Nat.mul_le_mul_right _ hroom
      rw [Nat.add_mul] at hle
      have hv : (Value.slice (some ⟨b, o, none⟩) (n + m) c).oneCell' = true := rfl
      have hT1 := hturn _ hv
      have hc1 := Chg.turn (old := old) (chg := chg) (w := w) hb hR hid hv
      have hgb : turned G R idb b = .own idb [] := turned_own hg0 hr0
      have hc2 : Chg old (fun j => j = idb) ⟨fun i => if i = idb then .slice (some ⟨b, o, none⟩) (n + m) c else G.ρ i, turned G R idb⟩ ⟨fun i => if i = idb then .slice (some ⟨b, o, none⟩) (n + m) c else G.ρ i, turned G R idb⟩ w (w.setRow b (over C (o + n * Te.size) news)) :=
        Chg.setRow (chg := fun j => j = idb) hc1.bnd hgb rfl _
      have hov : o + n * Te.size + news.length ≤ C.size := by omega
      refine ⟨_, c, _, ⟨fun i => if i = idb then .slice (some ⟨b, o, none⟩) (n + m) c else G.ρ i, turned G R idb⟩, hrun, ?_, by simp, hroom, hnm, fun _ => rfl, .inr ⟨b, o, _, t', rfl, hgb, setRow_heap w b C _ t' _ hh, by rw [over_size hov]; exact hs, fun k hk => ?_⟩⟩
      · refine ⟨fun i hi => hc1.rho i hi, hc1.pb.trans hc2.pb, fun b' i q h hn => ?_, fun b' hb' h => ?_, hc2.bnd, fun h => hc1.one h, rfl, rfl, rfl, hc2.size⟩
        · obtain ⟨h3, h4⟩ := hc1.own b' i q h hn
          refine ⟨h3, setRow_other w b b' _ fun e => ?_⟩
          subst e
          rw [hg0] at h
          cases h
          exact hn (hR _ _ _ hr0)
        · obtain ⟨h3, h4⟩ := hc1.no b' hb' h
          refine ⟨setRow_other w b b' _ fun e => ?_, h4⟩
          subst e
          rw [hg0] at h
          cases h
      · refine hst _ _ _ _ _ _ hc2.pb (fun _ _ => rfl) (fun b' j q hq => ⟨hq, setRow_other w b b' _ fun e => ?_⟩) (?_ : Pel ⟨fun i => if i = idb then .slice (some ⟨b, o, none⟩) (n + m) c else G.ρ i, turned G R idb⟩ w k _)
        · subst e
          have hq' : turned G R idb b' = .own idb (j :: q) := hq
          rw [hgb] at hq'
          cases hq'
        · by_cases hkn : k < n
          · have : (k + 1) * Te.size ≤ n * Te.size := Nat.mul_le_mul_right _ (by omega)
            rw [Nat.succ_mul] at this
            rw [cellsAt_over_out hov (by omega)]
            exact hel _ hT1 k hkn
          · obtain ⟨j, rfl⟩ : ∃ j, k = n + j := ⟨k - n, by omega⟩
            have hj : j < m := by omega
            have h3 := hnew _ hT1 j hj
            have : (j + 1) * Te.size ≤ m * Te.size := Nat.mul_le_mul_right _ (by omega)
            rw [Nat.succ_mul] at this
            have e1 : cellsAt (over C (o + n * Te.size) news) (o + (n + j) * Te.size) Te.size = (news.drop (j * Te.size)).take Te.size := by
              refine List.ext_getElem? fun x => ?_
              rw [cellsAt_get?, List.getElem?_take]
              split
              · rw [over_get hov, if_neg (by rw [Nat.add_mul]; omega), if_pos (by rw [Nat.add_mul]; omega), List.getElem?_drop]
                congr 1
                rw [Nat.add_mul]
                omega
              · rfl
            rw [e1]
            exact h3
  · -- grown
    have hold : ∃ olds : List Value, olds.length = n * Te.size ∧ (Builtin.firstCells Te.size n (.slice A n c)).run P w.drew = .ok olds.toArray w.drew ∧
        ∀ G', Turns old G G' w R idb → ∀ k, k < n → Pel G' w k ((olds.drop (k * Te.size)).take Te.size) := by
      rcases hA with ⟨rfl, rfl⟩ | ⟨b, o, C, t', rfl, hh, hs, _, hel⟩
      · have hn00 : n = 0 := by omega
        subst hn00
        exact ⟨[], by simp, by simp [run_firstCells_none], fun _ _ k hk => by omega⟩
      · have hle : n * Te.size ≤ c * Te.size := Nat.mul_le_mul_right _ hnc
        have hlen : (cellsAt C o (n * Te.size)).length = n * Te.size := cellsAt_len (by omega)
        refine ⟨cellsAt C o (n * Te.size), hlen, run_firstCells_some (P := P) w.drew Te.size n ⟨b, o, none⟩ n c _ hlen (cellsAt_rows (w := w.drew) (fz := (0, 0)) hh), fun G' hT' k hk => ?_⟩
        have h3 := hel G' hT' k hk
        have : (k + 1) * Te.size ≤ n * Te.size := Nat.mul_le_mul_right _ (by omega)
        rw [Nat.succ_mul] at this
        rw [cellsAt_part (by omega)]
        exact h3
    obtain ⟨olds, hlo, hfo, hel⟩ := hold
    obtain ⟨c', Z, hrun, hc', hZ⟩ := run_app_grow (ty := ty) T hT hT2 hfo (hf w.drew rfl) (by omega) ((hby (by omega)).resolve_right fun h => hroom h.1) hb0 (by rw [hlo, hl, Nat.add_mul])
    have hv : (Value.slice (some ⟨w.heap.size, 0, none⟩) (n + m) c').oneCell' = true := rfl
    have hT1 := hturn _ hv
    have hc1 := (Chg.turn (old := old) (chg := chg) (w := w) hb hR hid hv).drew
    have hc2 : Chg old chg _ ⟨fun i => if i = idb then .slice (some ⟨w.heap.size, 0, none⟩) (n + m) c' else G.ρ i, fun b => if b = w.drew.heap.size then .own idb [] else turned G R idb b⟩ w.drew (w.drew.alloc (.cells (olds ++ news ++ Z).toArray el)) :=
      Chg.alloc (G := ⟨fun i => if i = idb then .slice (some ⟨w.heap.size, 0, none⟩) (n + m) c' else G.ρ i, turned G R idb⟩) hc1.bnd _ (fun _ _ => rfl) (fun h i => h i)
    refine ⟨_, c', _, _, hrun, hc1.trans hc2, by simp, hc', hnm, fun h => absurd h hroom, .inr ⟨w.heap.size, 0, _, el, rfl, by simp, heap_alloc_new' w.drew _, by simp only [List.size_toArray]; omega, fun k hk => ?_⟩⟩
    refine hst _ _ _ _ _ _ hc2.pb (fun _ _ => rfl) (fun b' j q hq => ?_) (?_ : Pel ⟨fun i => if i = idb then .slice (some ⟨w.heap.size, 0, none⟩) (n + m) c' else G.ρ i, turned G R idb⟩ w.drew k _)
    · have hlt := hc1.bnd b' (by rw [hq]; simp)
      refine ⟨?_, heap_alloc_get w.drew _ hlt⟩
      simp only
      rw [if_neg (by omega)]
      exact hq
    · have hle2 : (n + m) * Te.size ≤ c' * Te.size := Nat.mul_le_mul_right _ hc'
      rw [Nat.add_mul] at hle2
      have hfin : ∀ cs, Pel ⟨fun i => if i = idb then .slice (some ⟨w.heap.size, 0, none⟩) (n + m) c' else G.ρ i, turned G R idb⟩ w k cs → Pel ⟨fun i => if i = idb then .slice (some ⟨w.heap.size, 0, none⟩) (n + m) c' else G.ρ i, turned G R idb⟩ w.drew k cs := fun cs h =>
        hst _ _ w w.drew _ _ ⟨fun _ h => ⟨h, rfl⟩, fun _ h => ⟨h, rfl⟩⟩ (fun _ _ => rfl) (fun b' j q hq => ⟨hq, rfl⟩) h
      refine hfin _ ?_
      by_cases hkn : k < n
      · have : (k + 1) * Te.size ≤ n * Te.size := Nat.mul_le_mul_right _ (by omega)
        rw [Nat.succ_mul] at this
        have e1 : cellsAt (olds ++ news ++ Z).toArray (0 + k * Te.size) Te.size = (olds.drop (k * Te.size)).take Te.size := by
          refine List.ext_getElem? fun x => ?_
          rw [cellsAt_get?, List.getElem?_take]
          split
          · rw [List.getElem?_toArray, List.append_assoc, List.getElem?_append_left (by omega), List.getElem?_drop, Nat.zero_add]
          · rfl
        rw [e1]
        exact hel _ hT1 k hkn
      · obtain ⟨j, rfl⟩ : ∃ j, k = n + j := ⟨k - n, by omega⟩
        have hj : j < m := by omega
        have : (j + 1) * Te.size ≤ m * Te.size := Nat.mul_le_mul_right _ (by omega)
        rw [Nat.succ_mul] at this
        have e1 : cellsAt (olds ++ news ++ Z).toArray (0 + (n + j) * Te.size) Te.size = (news.drop (j * Te.size)).take Te.size := by
          refine List.ext_getElem? fun x => ?_
          rw [cellsAt_get?, List.getElem?_take]
          split
          · rw [List.getElem?_toArray, List.append_assoc, List.getElem?_append_right (by rw [hlo, Nat.add_mul]; omega), List.getElem?_append_left (by rw [hlo, Nat.add_mul]; omega), List.getElem?_drop, hlo]
            congr 1
            rw [Nat.add_mul]
            omega
          · rfl
        rw [e1]
        exact hnew _ hT1 j hj

abbrev Rel := Id → List Nat → Option (List Nat)
abbrev PelT := Gh → World → Nat → List Value → Prop
/-- what is appended to -/
def OldOk (old : Id → Prop) (G : Gh) (w : World) (R : Rel) (idb : Id) (s : Nat) (Pel : PelT) (A : Option Addr) (n c : Nat) : Prop :=
  n ≤ c ∧ ((A = none ∧ c = 0) ∨ ∃ b o C t', A = some ⟨b, o, none⟩ ∧ w.heap[b]? = some (.cells C t' (0, 0)) ∧ o + c * s ≤ C.size ∧ (∃ i0 q0, G.g b = .own i0 q0 ∧ R i0 q0 = some []) ∧
      ∀ G', Turns old G G' w R idb → ∀ k, k < n → Pel G' w k (cellsAt C (o + k * s) s))
/-- what is appended -/
def NewOk (P : Program) (old : Id → Prop) (G : Gh) (w : World) (R : Rel) (idb : Id) (s : Nat) (Pel : PelT) (n : Nat) (v2 : Value) (m : Nat) : Prop :=
  ∃ A2 c2 news, v2 = .slice A2 m c2 ∧ (∀ w' : World, w'.heap = w.heap → (Builtin.firstCells s m (.slice A2 m c2)).run P w' = .ok (List.toArray news) w') ∧ news.length = m * s ∧ (∀ u ∈ news, u.oneCell' = true) ∧
    ∀ G', Turns old G G' w R idb → ∀ k, k < m → Pel G' w (n + k) ((news.drop (k * s)).take s)
theorem OldOk.nil {R : Rel} {idb : Id} {s : Nat} {Pel : PelT} : OldOk old G w R idb s Pel none 0 0 := ⟨Nat.le_refl _, .inl ⟨rfl, rfl⟩⟩
theorem NewOk.nil {R : Rel} {idb : Id} {s n : Nat} {Pel : PelT} {A : Option Addr} {c : Nat} : NewOk P old G w R idb s Pel n (.slice A 0 c) 0 := by
  cases A with
  | none => exact ⟨none, c, [], rfl, fun w' _ => run_firstCells_none _ _ _ _ _, by simp, by simp, fun _ _ k hk => by omega⟩
  | some a => exact ⟨some a, c, [], rfl, fun w' _ => by simp only [Builtin.firstCells, loadCells, Nat.zero_mul]; rfl, by simp, by simp, fun _ _ k hk => by omega⟩
theorem NewOk.block {R : Rel} {idb : Id} {s n : Nat} {Pel : PelT} {b o m c : Nat} {C : Array Value} {t' : TypeId} {fz : Nat × Nat} (hs : 0 < s) (hh : w.heap[b]? = some (.cells C t' fz)) (hsz : o + m * s ≤ C.size)
    (h1 : ∀ k, k < m → ∀ v ∈ cellsAt C (o + k * s) s, v.oneCell' = true) (h : ∀ G', Turns old G G' w R idb → ∀ k, k < m → Pel G' w (n + k) (cellsAt C (o + k * s) s)) :
    NewOk P old G w R idb s Pel n (.slice (some ⟨b, o, none⟩) m c) m := by
  have hl : (cellsAt C o (m * s)).length = m * s := cellsAt_len hsz
  have hch : ∀ k, k < m → ((cellsAt C o (m * s)).drop (k * s)).take s = cellsAt C (o + k * s) s := fun k hk => by
    have : (k + 1) * s ≤ m * s := Nat.mul_le_mul_right _ (by omega)
    rw [Nat.succ_mul] at this
    exact cellsAt_part (by omega)
  refine ⟨_, c, cellsAt C o (m * s), rfl, fun w' hw => run_firstCells_some w' s m ⟨b, o, none⟩ m c _ hl (cellsAt_rows (by rw [hw]; exact hh)), hl, fun u hu => ?_, fun G' hT k hk => ?_⟩
  · obtain ⟨i, hi, rfl⟩ := List.getElem_of_mem hu
    rw [hl] at hi
    have hk : i / s < m := by rw [Nat.div_lt_iff_lt_mul hs]; exact hi
    refine h1 (i / s) hk _ ?_
    rw [← hch _ hk]
    refine List.mem_iff_getElem?.2 ⟨i % s, ?_⟩
    rw [List.getElem?_take_of_lt (Nat.mod_lt i hs), List.getElem?_drop]
    have := Nat.div_add_mod i s
    rw [Nat.mul_comm] at this
    rw [this]
    exact List.getElem?_eq_getElem _
  · rw [hch k hk]
    exact h G' hT k hk

/-- an element as a value -/
def PTr (e : Ty) (f : Fl) (idb : Id) (l : List e.den) : PelT := fun G' w' k cs => ∀ y, l[k]? = some y → Tr G' w' e f idb [k] cs y
/-- an element as atoms -/
def PEls (l : List (List At)) : PelT := fun G' w' k cs => ∀ a, l[k]? = some a → MtL G' w' a cs
theorem PTr.stab {e : Ty} {f : Fl} {idb : Id} {l : List e.den} : Stab old idb (PTr e f idb l) := fun G1 G2 w1 w2 k cs hp _ ho h y hy =>
  Tr.mono hp (fun b q hq => ho b k q hq) (h y hy)
theorem MtA.keepR {G' : Gh} {w' : World} (hp : KeepPB G G' w w') (hr : ∀ i, old i → G'.ρ i = G.ρ i) {a : At} {cs : List Value} (ho : ∀ id ∈ a.ids, old id) (m : MtA G w a cs) : MtA G' w' a cs := by
  cases a with
  | d T F x => exact ⟨m.1, m.2.keep hp m.1⟩
  | kb b => exact m
  | nils => exact m
  | own id => have := hr id (ho id (by simp [At.ids])); rw [show cs = _ from m, ← this]; rfl
  | ptr id off =>
    have := hr id (ho id (by simp [At.ids]))
    obtain ⟨b, h1, h2⟩ := m
    exact ⟨b, this.trans h1, h2⟩
  | opt id i sz off T =>
    have := hr id (ho id (by simp [At.ids]))
    obtain ⟨b, o, n, c, h1, h2⟩ := m
    exact ⟨b, o, n, c, this.trans h1, h2⟩
  | rpt o T F x =>
    obtain ⟨h0, ho', b, off, C, t, fz, h1, h2, h3, h4, h5⟩ := m
    have hl := labOk_keep hp (id' := default) (p' := []) ho' h2
    exact ⟨h0, ho', b, off, C, t, fz, h1, hl.1, by rw [hl.2]; exact h3, h4, h5.keep hp h0⟩
  | nilp => exact m
  | junk => exact m
  | anyb P => exact m
  | sub id lo hi sz inn =>
    have := hr id (ho id (by simp [At.ids]))
    obtain ⟨A, n, c, h1, h2⟩ := m
    exact ⟨A, n, c, this.trans h1, h2⟩
  | chp id i =>
    have := hr id (ho id (by simp [At.ids]))
    obtain ⟨ps, A, h1, h2⟩ := m
    exact ⟨ps, A, by rw [this]; exact h1, h2⟩
  | chf id i off =>
    have := hr id (ho id (by simp [At.ids]))
    obtain ⟨ps, b, h1, h2⟩ := m
    exact ⟨ps, b, by rw [this]; exact h1, h2⟩
  | lnk id0 off id i sz =>
    have t0 := hr id0 (ho id0 (by simp [At.ids]))
    have t1 := hr id (ho id (by simp [At.ids]))
    rcases m with ⟨h1, b, h2, h3⟩ | ⟨k, ps, b, h1, h2, h3⟩
    · exact .inl ⟨h1, b, t0.trans h2, h3⟩
    · exact .inr ⟨k, ps, b, h1, by rw [t1]; exact h2, h3⟩
  | vp id off i n e =>
    have := hr id (ho id (by simp [At.ids]))
    obtain ⟨b, h1, h2⟩ := m
    exact ⟨b, this.trans h1, h2⟩
  | vsl id off n sz =>
    have := hr id (ho id (by simp [At.ids]))
    obtain ⟨b, h1, h2⟩ := m
    exact ⟨b, this.trans h1, h2⟩
theorem MtL.keepR {G' : Gh} {w' : World} (hp : KeepPB G G' w w') (hr : ∀ i, old i → G'.ρ i = G.ρ i) : ∀ {l : List At} {cs : List Value}, (∀ id ∈ idsL l, old id) → MtL G w l cs → MtL G' w' l cs := by
  intro l
  induction l with
  | nil => intro cs _ m; exact m
  | cons a r ih =>
    intro cs ho m
    obtain ⟨c1, c2, rfl, h1, h2⟩ := m
    exact ⟨c1, c2, rfl, h1.keepR hp hr fun id hi => ho id (by simp [idsL, hi]), ih (fun id hi => ho id (by simp [idsL, hi])) h2⟩
theorem PEls.stab {idb : Id} {l : List (List At)} (ho : ∀ (k : Nat) (a : List At), l[k]? = some a → ∀ j ∈ idsL a, old j) : Stab old idb (PEls l) := fun G1 G2 w1 w2 k cs hp hr _ h a ha =>
  (h a ha).keepR hp hr (ho k a ha)
theorem idsLL_get {l : List (List At)} (h : ∀ j ∈ idsLL l, old j) : ∀ (k : Nat) (a : List At), l[k]? = some a → ∀ j ∈ idsL a, old j := by
  induction l with
  | nil => intro k a hk; simp at hk
  | cons x xs ih =>
    intro k a hk j hj
    cases k with
    | zero => simp only [List.getElem?_cons_zero, Option.some.injEq] at hk; subst hk; exact h j (by simp [idsLL, hj])
    | succ k => exact ih (fun j hj => h j (by simp [idsLL, hj])) k a (by simpa using hk) j hj

/-! the two sides -/
theorem ResOk.sl_at {id : Id} {e : Ty} {f : Fl} {x : List e.den} (h : ResOk G w id (.sl e f x)) : ∃ A c, G.ρ id = .slice A x.length c ∧ x.length ≤ c ∧ x.length ≤ maxL ∧
    ((A = none ∧ c = 0) ∨ ∃ b off C t, A = some ⟨b, off, none⟩ ∧ G.g b = .own id [] ∧ w.heap[b]? = some (.cells C t (0, 0)) ∧ off + c * e.size ≤ C.size ∧
      ∀ (j : Nat) (y : e.den), x[j]? = some y → Tr G w e f id [j] (cellsAt C (off + j * e.size) e.size) y) := by
  obtain ⟨A, n, c, hcs, h1, h2, h3, _, h4⟩ := h
  simp only [List.cons.injEq, and_true] at hcs
  subst h1
  refine ⟨A, c, hcs, h2, h3, ?_⟩
  rcases h4 with h4 | ⟨b, off, C, t, fz, h5, h6, h7, h8, h9, h10⟩
  · exact .inl ⟨h4.1 rfl, h4.2⟩
  · obtain ⟨rfl, h11⟩ := h9 rfl
    exact .inr ⟨b, off, C, t, h5, h6, h7, h11, h10⟩
theorem old_sl {R : Rel} {idb id : Id} {e : Ty} {f : Fl} {l mm : List e.den} (h : ResOk G w id (.sl e f l)) (hR : ∀ q, R id q = some q) : ∃ A c, G.ρ id = .slice A l.length c ∧ OldOk old G w R idb e.size (PTr e f idb (l ++ mm)) A l.length c := by
  obtain ⟨A, c, h1, h2, _, h3⟩ := h.sl_at
  refine ⟨A, c, h1, h2, ?_⟩
  rcases h3 with h3 | ⟨b, off, C, t, h4, h5, h6, h7, h8⟩
  · exact .inl h3
  · refine .inr ⟨b, off, C, t, h4, h6, h7, ⟨id, [], h5, hR []⟩, fun G' hT k hk y hy => ?_⟩
    rw [List.getElem?_append_left hk] at hy
    exact Tr.mono hT.pb (fun b' q hq => ⟨hT.own b' id _ _ hq (hR _), rfl⟩) (h8 k y hy)
theorem new_sl {e : Ty} (hs : 0 < e.size) {R : Rel} {idb id : Id} {f f' : Fl} {l mm : List e.den} (h : ResOk G w id (.sl e f' mm)) (hf : flR Fo.le e f' f = true) (hR : ∀ k q, R id (k :: q) = some ((l.length + k) :: q)) :
    NewOk P old G w R idb e.size (PTr e f idb (l ++ mm)) l.length (G.ρ id) mm.length := by
  obtain ⟨A, c, h1, h2, _, h3⟩ := h.sl_at
  rw [h1]
  rcases h3 with ⟨rfl, rfl⟩ | ⟨b, off, C, t, rfl, h5, h6, h7, h8⟩
  · have : mm = [] := List.eq_nil_of_length_eq_zero (by omega)
    subst this
    exact .nil
  · have hle : mm.length * e.size ≤ c * e.size := Nat.mul_le_mul_right _ h2
    refine .block hs h6 (by omega) (fun k hk v hv => (h8 k _ (List.getElem?_eq_getElem hk)).one v hv) fun G' hT k hk y hy => ?_
    rw [List.getElem?_append_right (by omega), show l.length + k - l.length = k by omega] at hy
    exact Tr.mono hT.pb (fun b' q hq => ⟨hT.own b' id _ _ hq (hR k q), rfl⟩) (Tr.le hf (h8 k y hy))
theorem new_d {e : Ty} (hs : 0 < e.size) {R : Rel} {idb : Id} {f F : Fl} {l mm : List e.den} {A : Option Addr} {n c : Nat} (h : Tr G w (.sl e) F default [] [.slice A n c] mm) (ho : e.noO F.el = true) (hf : flR Fo.le e F.el f = true) :
    NewOk P old G w R idb e.size (PTr e f idb (l ++ mm)) l.length (.slice A n c) mm.length := by
  obtain ⟨A', n', c', hcs, h1, h2, h3, _, h4⟩ := h
  simp only [List.cons.injEq, Value.slice.injEq, and_true] at hcs
  obtain ⟨rfl, rfl, rfl⟩ := hcs
  subst h1
  rcases h4 with ⟨_, rfl⟩ | ⟨b, off, C, t, fz, rfl, h5, h6, h7, h8, h9⟩
  · have : mm = [] := List.eq_nil_of_length_eq_zero (by omega)
    subst this
    exact .nil
  · refine .block hs h6 (by omega) (fun k hk v hv => (h9 k _ (List.getElem?_eq_getElem hk)).one v hv) fun G' hT k hk y hy => ?_
    rw [List.getElem?_append_right (by omega), show l.length + k - l.length = k by omega] at hy
    exact Tr.le hf (Tr.keep hT.pb ho (h9 k y hy))
theorem els_len {sz : Nat} {id : Id} {css : List (List At)} (h : ResOk G w id (.els sz css)) : css.length ≤ maxL := by
  obtain ⟨A, n, c, h1, h2, h3, h4, h5⟩ := h
  omega
/-- packed elements -/
theorem packed (hrs : ∀ id R, lk id = some R → ResOk G w id R) {e : Ty} {f : Fl} {css : List (List At)} {ys : List e.den} {ids : List Id} {t : List Id} (hx : (packEach (pack e f) css).exec lk = some ((ys, ids, []), t)) (hn : ids.Nodup)
    (n0 : Nat) (cells : Nat → List Value) (hm : ∀ (k : Nat) (l : List At), css[k]? = some l → MtL G w l (cells k)) :
    ys.length = css.length ∧ ∃ mp : Id → Option (List Nat), (∀ i, mp i ≠ none ↔ i ∈ ids) ∧ ∀ (R : Rel) (idb : Id), (∀ i pos q, mp i = some pos → R i q = some (pos ++ q)) →
      ∀ G', Turns old G G' w R idb → ∀ (k : Nat) (y : e.den), ys[k]? = some y → Tr G' w e f idb [n0 + k] (cells k) y := by
  obtain ⟨h1, h2⟩ := packEach_sound (pack_sound hrs e f) css (fun j => cells (j - n0)) n0 ys ids [] t (fun k l hk => by simpa using hm k l hk) hx
  obtain ⟨mp, h3, h4⟩ := h2 hn
  refine ⟨h1, mp, h3, fun R idb hR G' hT k y hy => ?_⟩
  have := h4 G' w idb [] ⟨hT.pb, fun b i q pos hg hp => ⟨by simpa using hT.own b i q _ hg (hR i pos q hp), rfl⟩, fun b i q _ hl => by cases hl⟩ k y hy
  simpa using this
theorem packed_ids (hrs : ∀ id R, lk id = some R → ResOk G w id R) {e : Ty} {f : Fl} {css : List (List At)} {ys : List e.den} {ids : List Id} {t : List Id} (hx : (packEach (pack e f) css).exec lk = some ((ys, ids, []), t)) 
    (cells : Nat → List Value) (hm : ∀ (k : Nat) (l : List At), css[k]? = some l → MtL G w l (cells k)) : ys.length = css.length :=
  (packEach_sound (pack_sound hrs e f) css (fun j => cells (j - 0)) 0 ys ids [] t (fun k l hk => by simpa using hm k l hk) hx).1
theorem ResOk.els_at {id : Id} {sz : Nat} {css : List (List At)} (h : ResOk G w id (.els sz css)) : ∃ A c, G.ρ id = .slice A css.length c ∧ css.length ≤ c ∧ css.length ≤ maxL ∧
    ((A = none ∧ c = 0) ∨ ∃ b off C t, A = some ⟨b, off, none⟩ ∧ G.g b = .own id [] ∧ w.heap[b]? = some (.cells C t (0, 0)) ∧ off + c * sz ≤ C.size ∧
      ∀ (j : Nat) (a : List At), css[j]? = some a → MtL G w a (cellsAt C (off + j * sz) sz)) := by
  obtain ⟨A, n, c, h1, h2, h3, h4, h5⟩ := h
  subst h2
  refine ⟨A, c, h1, h3, h4, ?_⟩
  rcases h5 with h5 | ⟨b, off, C, t, h6, h7, h8, h9, h10⟩
  · exact .inl h5
  · exact .inr ⟨b, off, C, t, h6, h7, h8, h9, fun j a ha => h10.get ha⟩
/-- the relation that packing asks for -/
def relOf (mp : Id → Option (List Nat)) : Rel := fun i q => (mp i).map (· ++ q)
theorem old_els {R : Rel} {idb id : Id} {sz : Nat} {l mm : List (List At)} (h : ResOk G w id (.els sz l)) (ho : ∀ (k : Nat) (a : List At), l[k]? = some a → ∀ j ∈ idsL a, old j) (hR : R id [] = some []) :
    ∃ A c, G.ρ id = .slice A l.length c ∧ OldOk old G w R idb sz (PEls (l ++ mm)) A l.length c := by
  obtain ⟨A, c, h1, h2, _, h3⟩ := h.els_at
  refine ⟨A, c, h1, h2, ?_⟩
  rcases h3 with h3 | ⟨b, off, C, t, h4, h5, h6, h7, h8⟩
  · exact .inl h3
  · refine .inr ⟨b, off, C, t, h4, h6, h7, ⟨id, [], h5, hR⟩, fun G' hT k hk a ha => ?_⟩
    rw [List.getElem?_append_left hk] at ha
    exact (h8 k a ha).keepR hT.pb hT.rho (ho k a ha)
theorem new_els (h1 : RhoOk G) {R : Rel} {idb id : Id} {sz : Nat} (hs : 0 < sz) {l mm : List (List At)} (h : ResOk G w id (.els sz mm)) (ho : ∀ (k : Nat) (a : List At), mm[k]? = some a → ∀ j ∈ idsL a, old j) :
    NewOk P old G w R idb sz (PEls (l ++ mm)) l.length (G.ρ id) mm.length := by
  obtain ⟨A, c, h2, h3, _, h4⟩ := h.els_at
  rw [h2]
  rcases h4 with ⟨rfl, rfl⟩ | ⟨b, off, C, t, rfl, h5, h6, h7, h8⟩
  · have : mm = [] := List.eq_nil_of_length_eq_zero (by omega)
    subst this
    exact .nil
  · have hle : mm.length * sz ≤ c * sz := Nat.mul_le_mul_right _ h3
    refine .block hs h6 (by omega) (fun k hk v hv => (h8 k _ (List.getElem?_eq_getElem hk)).one' h1 v hv) fun G' hT k hk a ha => ?_
    rw [List.getElem?_append_right (by omega), show l.length + k - l.length = k by omega] at ha
    exact (h8 k a ha).keepR hT.pb hT.rho (ho k a ha)
theorem old_els_packed (hrs : ∀ id R, lk id = some R → ResOk G w id R) {e : Ty} {f : Fl} {idb id : Id} {css : List (List At)} {ys mm : List e.den} {ids : List Id} {t : List Id} (h : ResOk G w id (.els e.size css))
    (hx : (packEach (pack e f) css).exec lk = some ((ys, ids, []), t)) (hn : ids.Nodup) :
    ys.length = css.length ∧ ∃ mp : Id → Option (List Nat), (∀ i, mp i ≠ none ↔ i ∈ ids) ∧ ∀ R : Rel, (∀ i pos q, mp i = some pos → R i q = some (pos ++ q)) → R id [] = some [] →
      ∃ A c, G.ρ id = .slice A ys.length c ∧ OldOk old G w R idb e.size (PTr e f idb (ys ++ mm)) A ys.length c := by
  obtain ⟨A, c, h1, h2, _, h3⟩ := h.els_at
  rcases h3 with ⟨rfl, rfl⟩ | ⟨b, off, C, t', rfl, h5, h6, h7, h8⟩
  · have : css = [] := List.eq_nil_of_length_eq_zero (by omega)
    subst this
    obtain ⟨hp, _⟩ := exec_ok hx
    cases hp
    exact ⟨rfl, fun _ => none, by simp, fun R _ _ => ⟨none, 0, h1, .nil⟩⟩
  · obtain ⟨h9, mp, h10, h11⟩ := packed (old := old) hrs hx hn 0 (fun k => cellsAt C (off + k * e.size) e.size) h8
    refine ⟨h9, mp, h10, fun R hR hid => ⟨_, c, by rw [h9]; exact h1, by rw [h9]; exact h2, .inr ⟨b, off, C, t', rfl, h6, h7, ⟨id, [], h5, hid⟩, fun G' hT k hk y hy => ?_⟩⟩⟩
    rw [List.getElem?_append_left hk] at hy
    have := h11 R idb hR G' hT k y hy
    rwa [Nat.zero_add] at this
theorem new_els_packed (hrs : ∀ id R, lk id = some R → ResOk G w id R) (h1 : RhoOk G) {e : Ty} (hs : 0 < e.size) {f : Fl} {idb id : Id} {css : List (List At)} {ys l : List e.den} {ids : List Id} {t : List Id} (h : ResOk G w id (.els e.size css))
    (hx : (packEach (pack e f) css).exec lk = some ((ys, ids, []), t)) (hn : ids.Nodup) :
    ys.length = css.length ∧ ∃ mp : Id → Option (List Nat), (∀ i, mp i ≠ none ↔ i ∈ ids) ∧ ∀ R : Rel, (∀ i pos q, mp i = some pos → R i q = some (pos ++ q)) →
      NewOk P old G w R idb e.size (PTr e f idb (l ++ ys)) l.length (G.ρ id) ys.length := by
  obtain ⟨A, c, h2, h3, _, h4⟩ := h.els_at
  rcases h4 with ⟨rfl, rfl⟩ | ⟨b, off, C, t', rfl, h5, h6, h7, h8⟩
  · have : css = [] := List.eq_nil_of_length_eq_zero (by omega)
    subst this
    obtain ⟨hp, _⟩ := exec_ok hx
    cases hp
    exact ⟨rfl, fun _ => none, by simp, fun R _ => by rw [h2]; exact .nil⟩
  · obtain ⟨h9, mp, h10, h11⟩ := packed (old := old) hrs hx hn l.length (fun k => cellsAt C (off + k * e.size) e.size) h8
    have hle : css.length * e.size ≤ c * e.size := Nat.mul_le_mul_right _ h3
    refine ⟨h9, mp, h10, fun R hR => ?_⟩
    rw [h2, h9]
    refine .block hs h6 (by omega) (fun k hk v hv => (h8 k _ (List.getElem?_eq_getElem hk)).one' h1 v hv) fun G' hT k hk y hy => ?_
    rw [List.getElem?_append_right (by omega), show l.length + k - l.length = k by omega] at hy
    exact h11 R idb hR G' hT k y hy
theorem old_slo_packed (hrs : ∀ id R, lk id = some R → ResOk G w id R) {e : Ty} {f : Fl} {idb id : Id} {l mm : List e.den} {j : Nat} {cs : List At} {z : e.den} {ids : List Id} {t : List Id} (h : ResOk G w id (.slo e f l j cs))
    (hx : (pack e f cs).exec lk = some (⟨z, [], ids, []⟩, t)) (hn : ids.Nodup) :
    ∃ mp : Id → Option (List Nat), (∀ i, mp i ≠ none ↔ i ∈ ids) ∧ ∀ R : Rel, (∀ i pos q, mp i = some pos → R i q = some (j :: (pos ++ q))) → (∀ q, R id q = some q) →
      ∃ A c, G.ρ id = .slice A (l.set j z).length c ∧ OldOk old G w R idb e.size (PTr e f idb (l.set j z ++ mm)) A (l.set j z).length c := by
  obtain ⟨b, off, C, t', n, c, h1, h2, h3, h4, h5, h6, h7, h8, h9, h10⟩ := h
  subst h2
  obtain ⟨c1, c2, hcs, hc1, hc2, hpacks⟩ := pack_sound hrs _ _ _ _ _ _ _ _ _ h10 hx
  rw [show c2 = [] from hc2, List.append_nil] at hcs
  obtain ⟨mp, hmp, htr⟩ := hpacks hn
  have hlen : (l.set j z).length = l.length := List.length_set
  refine ⟨mp, hmp, fun R hR hid => ⟨_, c, by rw [hlen]; exact h1, by rw [hlen]; exact h3, .inr ⟨b, off, C, t', rfl, h7, h8, ⟨id, [], h6, hid []⟩, fun G' hT k hk y hy => ?_⟩⟩⟩
  rw [List.getElem?_append_left hk] at hy
  by_cases hkj : k = j
  · subst hkj
    rw [List.getElem?_set_self h5] at hy
    cases hy
    rw [hcs]
    exact htr G' w idb [k] ⟨hT.pb, fun b i q pos hg hp => ⟨by simpa using hT.own b i q _ hg (hR i pos q hp), rfl⟩, fun b i q _ hl => by cases hl⟩
  · rw [List.getElem?_set_ne (Ne.symm hkj)] at hy
    exact Tr.mono hT.pb (fun b' q hq => ⟨hT.own b' id _ _ hq (hid _), rfl⟩) (h9 k y hkj hy)
end
section
variable {P : Program} {tt : TT} (T : TtOk P tt) {old : Id → Prop} {G : Gh} {w : World} {lk : Id → Option Res} (hb : ∀ b, G.g b ≠ .no → b < w.heap.size) (h1 : RhoOk G)
include T hb
/-- both sides are there: a slice of values -/
theorem app_sl {t0 t2 ty el : TypeId} {e : Ty} {by_ : Nat} (hT : slT tt t0 = some (e, el, by_)) (hT2 : isSlT tt t2 = true) (hb0 : 0 < by_) {idb : Id} (hid : ¬ old idb) {f : Fl} {l mm : List e.den} {R : Rel} {upd : List (Id × Option Res)} {vc : List Prop}
    (hR : ∀ i q r, R i q = some r → i ∈ upd.map (·.1)) (hu : ∀ i S, (i, some S) ∈ upd → i = idb ∧ S = .sl e f (l ++ mm)) {v1 v2 : Value} {A : Option Addr} {c : Nat} (hv1 : v1 = .slice A l.length c)
    (ho : OldOk old G w R idb e.size (PTr e f idb (l ++ mm)) A l.length c) (hn : NewOk P old G w R idb e.size (PTr e f idb (l ++ mm)) l.length v2 mm.length) (hn0 : l.length ≤ maxL) (hby : mm.length ≠ 0 → (l.length + mm.length) * by_ ≤ maxL) :
    Does P old G w (do pure (.value (← Builtin.append_ #[t0, t2] ty #[v1, v2]))) ⟨atom (.own idb), upd, vc⟩ := by
  subst hv1
  obtain ⟨A2, c2, news, rfl, hf, hl, h1, hnew⟩ := hn
  obtain ⟨A', c', w', G', hrun, hch, hρ, hc', hm, _, hfin⟩ := app_core (ty := ty) (chg := fun i => i ∈ upd.map (·.1)) T hb hT hT2 hb0 hid hR PTr.stab ho.1 ho.2 hf hl h1 hnew hn0 (fun h => .inl (hby h))
  refine ⟨_, .slice A' (l.length + mm.length) c', w', G', by rw [Sem.run_bind, hrun]; rfl, .inl rfl, hch, .of1 rfl (by simp [MtA, hρ]), fun i S hi => ?_⟩
  obtain ⟨rfl, rfl⟩ := hu i S hi
  refine ⟨A', l.length + mm.length, c', by rw [hρ], by rw [List.length_append], hc', hm, (fun h => by cases h), ?_⟩
  rcases hfin with h | ⟨b, o, C, t, h3, h4, h5, h6, h7⟩
  · exact .inl ⟨fun _ => h.1, h.2⟩
  · refine .inr ⟨b, o, C, t, (0, 0), h3, h4, h5, ?_, fun _ => ⟨rfl, h6⟩, fun j x hx => ?_⟩
    · have : (l.length + mm.length) * e.size ≤ c' * e.size := Nat.mul_le_mul_right _ hc'
      omega
    · exact h7 j (by have := (List.getElem?_eq_some_iff.1 hx).1; rw [List.length_append] at this; exact this) x hx
/-- a slice of atoms -/
theorem app_els {t0 t2 ty el : TypeId} {e : Ty} {by_ : Nat} (hT : slT tt t0 = some (e, el, by_)) (hT2 : isSlT tt t2 = true) (hb0 : 0 < by_) {idb : Id} (hid : ¬ old idb) {l mm : List (List At)} {R : Rel} {upd : List (Id × Option Res)} {vc : List Prop}
    (hR : ∀ i q r, R i q = some r → i ∈ upd.map (·.1)) (hu : ∀ i S, (i, some S) ∈ upd → i = idb ∧ S = .els e.size (l ++ mm)) {v1 v2 : Value} {A : Option Addr} {c : Nat} (hv1 : v1 = .slice A l.length c)
    (hold : ∀ (k : Nat) (a : List At), (l ++ mm)[k]? = some a → ∀ j ∈ idsL a, old j)
    (ho : OldOk old G w R idb e.size (PEls (l ++ mm)) A l.length c) (hn : NewOk P old G w R idb e.size (PEls (l ++ mm)) l.length v2 mm.length) (hn0 : l.length ≤ maxL) (hby : mm.length ≠ 0 → (l.length + mm.length) * by_ ≤ maxL) :
    Does P old G w (do pure (.value (← Builtin.append_ #[t0, t2] ty #[v1, v2]))) ⟨atom (.own idb), upd, vc⟩ := by
  subst hv1
  obtain ⟨A2, c2, news, rfl, hf, hl, h1, hnew⟩ := hn
  obtain ⟨A', c', w', G', hrun, hch, hρ, hc', hm, _, hfin⟩ := app_core (ty := ty) (chg := fun i => i ∈ upd.map (·.1)) T hb hT hT2 hb0 hid hR (PEls.stab hold) ho.1 ho.2 hf hl h1 hnew hn0 (fun h => .inl (hby h))
  refine ⟨_, .slice A' (l.length + mm.length) c', w', G', by rw [Sem.run_bind, hrun]; rfl, .inl rfl, hch, .of1 rfl (by simp [MtA, hρ]), fun i S hi => ?_⟩
  obtain ⟨rfl, rfl⟩ := hu i S hi
  refine ⟨A', l.length + mm.length, c', hρ, by rw [List.length_append], hc', hm, ?_⟩
  rcases hfin with h | ⟨b, o, C, t, h3, h4, h5, h6, h7⟩
  · exact .inl h
  · exact .inr ⟨b, o, C, t, h3, h4, h5, h6, MtEls.of fun k a hk => h7 k (by have := (List.getElem?_eq_some_iff.1 hk).1; rw [List.length_append] at this; exact this) a hk⟩

omit T hb in
theorem mem_drops {ids : List Id} {i : Id} {S : Option Res} (h : (i, S) ∈ drops ids) : i ∈ ids ∧ S = none := by
  simp only [drops, List.mem_map, Prod.mk.injEq] at h
  obtain ⟨j, hj, rfl, rfl⟩ := h
  exact ⟨hj, rfl⟩
omit T hb in
theorem map_drops (ids : List Id) : (drops ids).map (·.1) = ids := by simp [drops, Function.comp_def]
/-- onto a slice of values -/
theorem does_appendTo {t0 t2 ty el : TypeId} {e : Ty} {by_ : Nat} (hT : slT tt t0 = some (e, el, by_)) (hT2 : isSlT tt t2 = true) (hb0 : 0 < by_) {idb : Id} (hid : ¬ old idb) (h1 : RhoOk G) (hrs : ∀ id R, lk id = some R → ResOk G w id R ∧ old id ∧ ∀ j ∈ R.ids, old j)
    {f : Fl} {l : List e.den} {id : Id} (hR : ResOk G w id (.sl e f l)) {y : SV} {vy : Value} {ef : Eff} {t : List Id} (hx : (sAppendTo by_ idb e f l id y).exec lk = some (ef, t)) (hv : ∀ p ∈ ef.vc, p) (my : MtS G w y vy) :
    Does P old G w (do pure (.value (← Builtin.append_ #[t0, t2] ty #[G.ρ id, vy]))) ef := by
  have hrs' : ∀ id R, lk id = some R → ResOk G w id R := fun i R h => (hrs i R h).1
  have hsz : 0 < e.size := by have := (slT_spec T hT).2.1; omega
  have hn0 : l.length ≤ maxL := by obtain ⟨_, _, _, _, h, _⟩ := hR.sl_at; exact h
  unfold sAppendTo at hx
  split at hx
  · -- nothing
    obtain ⟨rfl, _⟩ := exec_ok hx
    have hvy : vy = .slice none 0 0 := by simpa using (show [vy] = [Value.slice none 0 0] from my.at1.2)
    obtain ⟨A, c, h2, h3⟩ := old_sl (old := old) (mm := []) (idb := idb) (R := fun i q => if i = id then some q else none) hR (fun q => by simp)
    refine app_sl T hb hT hT2 hb0 hid (f := f) (l := l) (mm := []) (fun i q r h => ?_) (fun i S h => ?_) h2 h3 (by rw [hvy]; exact .nil) hn0 (fun h => by simp at h)
    · split at h
      · rename_i e'; simp [e']
      · cases h
    · simp at h; simpa using h
  · -- what stays
    rename_i T' F m
    split at hx
    · rename_i e' m
      replace ⟨hE, hx⟩ := condR hx
      simp only [Bool.and_eq_true] at hE
      have hE1 := Ty.eq_of_beq hE.1
      subst hE1
      obtain ⟨rfl, _⟩ := exec_ok hx
      obtain ⟨hO, A2, n2, c2, rfl, htr⟩ := my.slice
      obtain ⟨hn2, _, _⟩ := htr.sl_len
      subst hn2
      simp only [Ty.noO, Bool.and_eq_true] at hO
      have h2 := hv _ List.mem_cons_self
      rw [tcast_self]
      obtain ⟨A, c, h3, h4⟩ := old_sl (old := old) (mm := m) (idb := idb) (R := fun i q => if i = id then some q else none) hR (fun q => by simp)
      refine app_sl T hb hT hT2 hb0 hid (f := f) (l := l) (mm := m) (fun i q r h => ?_) (fun i S h => ?_) h3 h4 (new_d hsz htr hO.2 hE.2.2) hn0 (fun _ => h2)
      · split at h
        · rename_i e'; simp [e']
        · cases h
      · simp at h; exact h
    · exact exec_fail hx
  · -- an owned one
    rename_i id2
    replace ⟨t', hx, _⟩ := exec_need hx
    have hvy := my.own
    subst hvy
    split at hx
    · rename_i e' f' m hlk
      replace ⟨hE, hx⟩ := condR hx
      simp only [Bool.and_eq_true, Bool.not_eq_true'] at hE
      have hE1 := Ty.eq_of_beq hE.1
      subst hE1
      have hne : id ≠ id2 := Id.beq_ne hE.2.2
      obtain ⟨rfl, _⟩ := exec_ok hx
      have h2 := hv _ List.mem_cons_self
      rw [tcast_self]
      obtain ⟨A, c, h3, h4⟩ := old_sl (old := old) (mm := m) (idb := idb) (R := fun i q => if i = id then some q else if i = id2 then (match q with | [] => none | k :: q' => some ((l.length + k) :: q')) else none) hR (fun q => by simp)
      refine app_sl T hb hT hT2 hb0 hid (f := f) (l := l) (mm := m) (fun i q r h => ?_) (fun i S h => ?_) h3 h4 (new_sl hsz (hrs' id2 _ hlk) hE.2.1 (fun k q => by simp [Ne.symm hne])) hn0 (fun _ => h2)
      · split at h
        · rename_i e'; simp [e']
        · split at h
          · rename_i e'; simp [e']
          · cases h
      · simp at h; exact h
    · rename_i sz2 cs hlk
      replace ⟨hE, hx⟩ := condR hx
      have hE := Nat.eq_of_beq_eq_true hE
      subst hE
      replace ⟨pk, t1, t2', hpk, hx, _⟩ := exec_bind hx
      split at hx
      · rename_i m ids
        replace ⟨hnd, hx⟩ := condR hx
        obtain ⟨rfl, _⟩ := exec_ok hx
        rw [nodupN_iff] at hnd
        simp only [List.nodup_cons, List.mem_cons, not_or] at hnd
        have h2 := hv _ List.mem_cons_self
        obtain ⟨hlen, mp, hmp, hnew⟩ := new_els_packed (P := P) (old := old) (idb := idb) (l := l) hrs' h1 hsz (hrs' id2 _ hlk) hpk hnd.2.2
        have hmid : mp id = none := by
          cases h : mp id with
          | none => rfl
          | some p => exact absurd ((hmp id).1 (by rw [h]; simp)) hnd.1.2
        obtain ⟨A, c, h3, h4⟩ := old_sl (old := old) (mm := m) (idb := idb) (R := fun i q => if i = id then some q else (mp i).map (· ++ q)) hR (fun q => by simp)
        refine app_sl T hb hT hT2 hb0 hid (f := f) (l := l) (mm := m) (fun i q r h => ?_) (fun i S h => ?_) h3 h4 (hnew _ fun i pos q hp => ?_) hn0 (fun _ => h2)
        · split at h
          · rename_i e'; simp [e']
          · have : i ∈ ids := (hmp i).1 (by intro h'; rw [h'] at h; cases h)
            simp [map_drops, this]
        · simp only [List.cons_append, List.mem_cons, List.mem_append, Prod.mk.injEq, reduceCtorEq, and_false, false_or, List.not_mem_nil, or_false] at h
          rcases h with h | h
          · have := (mem_drops h).2; cases this
          · simpa using h
        · rw [if_neg (fun e' => by rw [e', hmid] at hp; cases hp), hp]
          rfl
      · exact exec_fail hx
    · exact exec_fail hx
  · exact exec_fail hx
/-- onto a slice of which one element is laid open -/
theorem does_appendSlo {t0 t2 ty el : TypeId} {e : Ty} {by_ : Nat} (hT : slT tt t0 = some (e, el, by_)) (hT2 : isSlT tt t2 = true) (hb0 : 0 < by_) {idb : Id} (hid : ¬ old idb) (h1 : RhoOk G) (hrs : ∀ id R, lk id = some R → ResOk G w id R ∧ old id ∧ ∀ j ∈ R.ids, old j)
    {f : Fl} {l : List e.den} {j : Nat} {cs : List At} {id : Id} (hR : ResOk G w id (.slo e f l j cs)) {y : SV} {vy : Value} {ef : Eff} {t : List Id} (hx : (sAppendSlo by_ idb e f l j cs id y).exec lk = some (ef, t)) (hv : ∀ p ∈ ef.vc, p) (my : MtS G w y vy) :
    Does P old G w (do pure (.value (← Builtin.append_ #[t0, t2] ty #[G.ρ id, vy]))) ef := by
  have hrs' : ∀ id R, lk id = some R → ResOk G w id R := fun i R h => (hrs i R h).1
  have hsz : 0 < e.size := by have := (slT_spec T hT).2.1; omega
  have hn0 : l.length ≤ maxL := by obtain ⟨_, _, _, _, n, c, _, h2, h3, h4, _⟩ := hR; omega
  unfold sAppendSlo at hx
  split at hx
  · rename_i id2
    replace ⟨t', hx, _⟩ := exec_need hx
    have hvy := my.own
    subst hvy
    split at hx
    · rename_i sz2 css hlk
      replace ⟨hE, hx⟩ := condR hx
      have hE := Nat.eq_of_beq_eq_true hE
      subst hE
      replace ⟨pq, u1, u2, hpq, hx, _⟩ := exec_bind hx
      split at hx
      · rename_i z ids1
        replace ⟨pk, t1, t2', hpk, hx, _⟩ := exec_bind hx
        split at hx
        · rename_i m ids
          replace ⟨hnd, hx⟩ := condR hx
          obtain ⟨rfl, _⟩ := exec_ok hx
          rw [nodupN_iff] at hnd
          simp only [List.nodup_cons, List.mem_cons, List.mem_append, not_or, List.nodup_append] at hnd
          obtain ⟨⟨n1, n2, n3⟩, ⟨n4, n5⟩, n6, n7, n8⟩ := hnd
          have h2 := hv _ List.mem_cons_self
          obtain ⟨mp1, hmp1, hold⟩ := old_slo_packed (old := old) (idb := idb) (mm := m) hrs' hR hpq n6
          obtain ⟨hlen, mp, hmp, hnew⟩ := new_els_packed (P := P) (old := old) (idb := idb) (l := l.set j z) hrs' h1 hsz (hrs' id2 _ hlk) hpk n7
          have hm1 : ∀ i, mp1 i ≠ none → i ≠ id := fun i h e' => n2 (e' ▸ (hmp1 i).1 h)
          have hm2 : ∀ i, mp i ≠ none → i ≠ id ∧ mp1 i = none := fun i h => by
            refine ⟨fun e' => n3 (e' ▸ (hmp i).1 h), ?_⟩
            cases h' : mp1 i with
            | none => rfl
            | some p => exact absurd rfl (n8 i ((hmp1 i).1 (by rw [h']; simp)) i ((hmp i).1 h))
          let R : Rel := fun i q => if i = id then some q else match mp1 i with
            | some pos => some (j :: (pos ++ q))
            | none => (mp i).map (· ++ q)
          obtain ⟨A, c, h3, h4⟩ := hold R (fun i pos q hp => by simp only [R]; rw [if_neg (hm1 i (by rw [hp]; simp)), hp]) (fun q => by simp [R])
          refine app_sl T hb hT hT2 hb0 hid (f := f) (l := l.set j z) (mm := m) (fun i q r h => ?_) (fun i S h => ?_) h3 h4 (hnew R fun i pos q hp => ?_) (by simpa using hn0) (fun _ => by rw [List.length_set]; exact h2)
          · simp only [R] at h
            split at h
            · rename_i e'; simp [e']
            · split at h
              · rename_i p hp
                have : i ∈ ids1 := (hmp1 i).1 (by rw [hp]; simp)
                simp [map_drops, this]
              · have : i ∈ ids := (hmp i).1 (by intro h'; rw [h'] at h; cases h)
                simp [map_drops, this]
          · simp only [List.cons_append, List.mem_cons, List.mem_append, Prod.mk.injEq, reduceCtorEq, and_false, false_or, List.not_mem_nil, or_false] at h
            rcases h with (h | h) | h
            · have := (mem_drops h).2; cases this
            · have := (mem_drops h).2; cases this
            · simpa using h
          · obtain ⟨k1, k2⟩ := hm2 i (by rw [hp]; simp)
            simp only [R]
            rw [if_neg k1, k2, hp]
            rfl
        · exact exec_fail hx
      · exact exec_fail hx
    · exact exec_fail hx
  · exact exec_fail hx
end
end Go.Sx
