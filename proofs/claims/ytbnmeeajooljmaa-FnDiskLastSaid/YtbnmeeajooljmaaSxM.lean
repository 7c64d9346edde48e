/- Symbolic execution, part M: append onto elements, as atoms; the operation. -/
import Derived.Test.YtbnmeeajooljmaaSxL
set_option linter.all false
namespace Go.Sx
open Go Go.RowKit
section
variable {P : Program} {tt : TT} (T : TtOk P tt) {old : Id → Prop} {G : Gh} {w : World} {lk : Id → Option Res} (hb : ∀ b, G.g b ≠ .no → b < w.heap.size) (h1 : RhoOk G)
theorem flR_le_refl : ∀ (T : Ty) (F : Fl), flR Fo.le T F F = true := by
  intro T
  induction T with
  | sl e ih => intro F; simp only [flR, Bool.and_eq_true]; exact ⟨by cases F.hd <;> rfl, ih _⟩
  | pr a b iha ihb => intro F; simp only [flR, Bool.and_eq_true]; exact ⟨iha _, ihb _⟩
  | _ => intro F; rfl
theorem flR_le_self {T : Ty} {F : Fl} (_h : T.noO F = true) : flR Fo.le T F F = true := flR_le_refl T F
/-- what elements as atoms are appended to: nothing yet, or what an id stands for -/
def SideEls (G : Gh) (w : World) (old : Id → Prop) (sz : Nat) (l : List (List At)) (ids : List Id) (vx : Value) : Prop :=
  (ids = [] ∧ l = [] ∧ vx = .slice none 0 0) ∨ ∃ id, ids = [id] ∧ vx = G.ρ id ∧ ResOk G w id (.els sz l) ∧ ∀ (k : Nat) (a : List At), l[k]? = some a → ∀ j ∈ idsL a, old j
theorem SideEls.len {sz : Nat} {l : List (List At)} {ids : List Id} {vx : Value} (h : SideEls G w old sz l ids vx) : l.length ≤ maxL := by
  rcases h with ⟨_, rfl, _⟩ | ⟨id, _, _, h, _⟩
  · exact Nat.zero_le _
  · exact els_len h
theorem SideEls.ids {sz : Nat} {l : List (List At)} {ids : List Id} {vx : Value} (h : SideEls G w old sz l ids vx) : ∀ (k : Nat) (a : List At), l[k]? = some a → ∀ j ∈ idsL a, old j := by
  rcases h with ⟨_, rfl, _⟩ | ⟨id, _, _, _, h⟩
  · intro k a hk; simp at hk
  · exact h
theorem SideEls.els {R : Rel} {idb : Id} {sz : Nat} {l mm : List (List At)} {ids : List Id} {vx : Value} (h : SideEls G w old sz l ids vx) (hR : ∀ id ∈ ids, R id [] = some []) :
    ∃ A c, vx = .slice A l.length c ∧ OldOk old G w R idb sz (PEls (l ++ mm)) A l.length c := by
  rcases h with ⟨rfl, rfl, rfl⟩ | ⟨id, rfl, rfl, h, ho⟩
  · exact ⟨none, 0, rfl, .nil⟩
  · exact old_els h ho (hR id (by simp))
theorem SideEls.packed (hrs : ∀ id R, lk id = some R → ResOk G w id R) {e : Ty} {f : Fl} {idb : Id} {l : List (List At)} {ids ids' : List Id} {vx : Value} (h : SideEls G w old e.size l ids vx) {ys mm : List e.den} {t : List Id}
    (hx : (packEach (pack e f) l).exec lk = some ((ys, ids', []), t)) (hn : ids'.Nodup) :
    ys.length = l.length ∧ ∃ mp : Id → Option (List Nat), (∀ i, mp i ≠ none ↔ i ∈ ids') ∧ ∀ R : Rel, (∀ i pos q, mp i = some pos → R i q = some (pos ++ q)) → (∀ id ∈ ids, R id [] = some []) →
      ∃ A c, vx = .slice A ys.length c ∧ OldOk old G w R idb e.size (PTr e f idb (ys ++ mm)) A ys.length c := by
  rcases h with ⟨rfl, rfl, rfl⟩ | ⟨id, rfl, rfl, h, ho⟩
  · obtain ⟨hp, _⟩ := exec_ok hx
    cases hp
    exact ⟨rfl, fun _ => none, by simp, fun R _ _ => ⟨none, 0, rfl, .nil⟩⟩
  · obtain ⟨h2, mp, h3, h4⟩ := old_els_packed (old := old) (idb := idb) (mm := mm) hrs h hx hn
    exact ⟨h2, mp, h3, fun R hR hid => h4 R hR (hid id (by simp))⟩
include T hb in
theorem does_appendEls {t0 t2 ty el : TypeId} {e0 : Ty} {by_ : Nat} (hT : slT tt t0 = some (e0, el, by_)) (hT2 : isSlT tt t2 = true) (hb0 : 0 < by_) {idb : Id} (hid : ¬ old idb) (h1 : RhoOk G) (hrs : ∀ id R, lk id = some R → ResOk G w id R ∧ old id ∧ ∀ j ∈ R.ids, old j)
    {l : List (List At)} {ids : List Id} {vx : Value} (hS : SideEls G w old e0.size l ids vx) {y : SV} {vy : Value} {ef : Eff} {t : List Id} (hx : (sAppendEls by_ e0 idb l ids y).exec lk = some (ef, t)) (hv : ∀ p ∈ ef.vc, p) (my : MtS G w y vy) :
    Does P old G w (do pure (.value (← Builtin.append_ #[t0, t2] ty #[vx, vy]))) ef := by
  have hrs' : ∀ id R, lk id = some R → ResOk G w id R := fun i R h => (hrs i R h).1
  have hsz : 0 < e0.size := by have := (slT_spec T hT).2.1; omega
  have hn0 := hS.len
  unfold sAppendEls at hx
  split at hx
  · -- nothing
    obtain ⟨rfl, _⟩ := exec_ok hx
    have hvy : vy = .slice none 0 0 := by simpa using (show [vy] = [Value.slice none 0 0] from my.at1.2)
    obtain ⟨A, c, h2, h3⟩ := hS.els (mm := []) (idb := idb) (R := fun i q => if i ∈ ids ∧ q = [] then some [] else none) (fun id h => by simp [h])
    refine app_els T hb hT hT2 hb0 hid (l := l) (mm := []) (fun i q r h => ?_) (fun i S h => ?_) h2 (by rw [List.append_nil]; exact hS.ids) h3 (by rw [hvy]; exact .nil) hn0 (fun h => by simp at h)
    · split at h
      · rename_i e'; simp [map_drops, e'.1]
      · cases h
    · rw [List.mem_append] at h
      rcases h with h | h
      · have := (mem_drops h).2; cases this
      · simpa using h
  · -- what stays
    rename_i T' F m
    split at hx
    · rename_i e' m
      replace ⟨hE, hx⟩ := condR hx
      simp only [Bool.and_eq_true] at hE
      have hE1 := Ty.eq_of_beq hE.1
      subst hE1
      replace ⟨pk, t1, t2', hpk, hx, _⟩ := exec_bind hx
      split at hx
      · rename_i l' ids'
        replace ⟨hnd, hx⟩ := condR hx
        obtain ⟨rfl, _⟩ := exec_ok hx
        rw [nodupN_iff, List.nodup_append] at hnd
        obtain ⟨hO, A2, n2, c2, rfl, htr⟩ := my.slice
        obtain ⟨hn2, _, _⟩ := htr.sl_len
        subst hn2
        simp only [Ty.noO, Bool.and_eq_true] at hO
        have h2 := hv _ List.mem_cons_self
        obtain ⟨hlen, mp, hmp, hold⟩ := hS.packed hrs' (idb := idb) (mm := m) hpk hnd.2.1
        have hdis : ∀ id ∈ ids, mp id = none := fun id hi => by
          cases h : mp id with
          | none => rfl
          | some p => exact absurd rfl (hnd.2.2 id hi id ((hmp id).1 (by rw [h]; simp)))
        obtain ⟨A, c, h3, h4⟩ := hold (fun i q => if i ∈ ids then (match q with | [] => some [] | _ => none) else (mp i).map (· ++ q)) (fun i pos q hp => by
          rw [if_neg (fun hi => by rw [hdis i hi] at hp; cases hp), hp]
          rfl) (fun id h => by simp [h])
        refine app_sl T hb hT hT2 hb0 hid (f := F.el) (l := l') (mm := m) (fun i q r h => ?_) (fun i S h => ?_) h3 h4 (new_d hsz htr hO.2 (flR_le_self hO.2)) (by rw [hlen]; exact hn0) (fun _ => h2)
        · split at h
          · rename_i e'; simp [map_drops, e']
          · have : i ∈ ids' := (hmp i).1 (by intro h'; rw [h'] at h; cases h)
            simp [map_drops, this]
        · rw [List.mem_append, List.mem_append] at h
          rcases h with (h | h) | h
          · have := (mem_drops h).2; cases this
          · have := (mem_drops h).2; cases this
          · simpa using h
      · exact exec_fail hx
    · exact exec_fail hx
  · -- an owned one
    rename_i id2
    replace ⟨t', hx, _⟩ := exec_need hx
    have hvy := my.own
    subst hvy
    split at hx
    · rename_i e' f' m hlk
      replace ⟨hE, hx⟩ := condR hx
      have hE1 := Ty.eq_of_beq hE
      subst hE1
      replace ⟨pk, t1, t2', hpk, hx, _⟩ := exec_bind hx
      split at hx
      · rename_i l' ids'
        replace ⟨hnd, hx⟩ := condR hx
        obtain ⟨rfl, _⟩ := exec_ok hx
        rw [nodupN_iff, List.cons_append, List.nodup_cons, List.nodup_append] at hnd
        have h2 := hv _ List.mem_cons_self
        obtain ⟨hlen, mp, hmp, hold⟩ := hS.packed hrs' (idb := idb) (mm := m) hpk hnd.2.2.1
        have hdis : ∀ id ∈ ids, mp id = none := fun id hi => by
          cases h : mp id with
          | none => rfl
          | some p => exact absurd rfl (hnd.2.2.2 id hi id ((hmp id).1 (by rw [h]; simp)))
        have h2n : mp id2 = none := by
          cases h : mp id2 with
          | none => rfl
          | some p => exact absurd (List.mem_append_right _ ((hmp id2).1 (by rw [h]; simp))) hnd.1
        have h2i : id2 ∉ ids := fun h => hnd.1 (List.mem_append_left _ h)
        obtain ⟨A, c, h3, h4⟩ := hold (fun i q => if i ∈ ids then (match q with | [] => some [] | _ => none) else if i = id2 then (match q with | [] => none | k :: q' => some ((l'.length + k) :: q')) else (mp i).map (· ++ q)) (fun i pos q hp => by
          rw [if_neg (fun hi => by rw [hdis i hi] at hp; cases hp), if_neg (fun hi => by rw [hi, h2n] at hp; cases hp), hp]
          rfl) (fun id h => by simp [h])
        refine app_sl T hb hT hT2 hb0 hid (f := f') (l := l') (mm := m) (fun i q r h => ?_) (fun i S h => ?_) h3 h4 (new_sl hsz (hrs' id2 _ hlk) (flR_le_refl _ _) (fun k q => by simp [h2i])) (by rw [hlen]; exact hn0) (fun _ => h2)
        · split at h
          · rename_i e'; simp [map_drops, e']
          · split at h
            · rename_i e'; simp [e']
            · have : i ∈ ids' := (hmp i).1 (by intro h'; rw [h'] at h; cases h)
              simp [map_drops, this]
        · simp only [List.mem_append, List.mem_cons, Prod.mk.injEq, reduceCtorEq, and_false, false_or, List.not_mem_nil, or_false] at h
          rcases h with (h | h) | h
          · have := (mem_drops h).2; cases this
          · have := (mem_drops h).2; cases this
          · simpa using h
      · exact exec_fail hx
    · rename_i sz2 cs hlk
      replace ⟨hE, hx⟩ := condR hx
      simp only [Bool.and_eq_true] at hE
      have hE2 := Nat.eq_of_beq_eq_true hE.2
      subst hE2
      obtain ⟨rfl, _⟩ := exec_ok hx
      have hnd := hE.1
      rw [nodupN_iff, List.nodup_cons] at hnd
      have h2 := hv _ List.mem_cons_self
      obtain ⟨A, c, h3, h4⟩ := hS.els (mm := cs) (idb := idb) (R := fun i q => if i ∈ ids ∧ q = [] then some [] else none) (fun id h => by simp [h])
      have hcs := idsLL_get (old := old) (l := cs) (hrs id2 _ hlk).2.2
      refine app_els T hb hT hT2 hb0 hid (l := l) (mm := cs) (fun i q r h => ?_) (fun i S h => ?_) h3 (fun k a hk => ?_) h4 (new_els h1 hsz (hrs' id2 _ hlk) hcs) hn0 (fun _ => h2)
      · split at h
        · rename_i e'; simp [map_drops, e'.1]
        · cases h
      · simp only [List.mem_append, List.mem_cons, Prod.mk.injEq, reduceCtorEq, and_false, false_or, List.not_mem_nil, or_false] at h
        rcases h with h | h
        · have := (mem_drops h).2; cases this
        · simpa using h
      · by_cases hkl : k < l.length
        · rw [List.getElem?_append_left hkl] at hk
          exact hS.ids k a hk
        · rw [List.getElem?_append_right (by omega)] at hk
          exact hcs _ a hk
    · exact exec_fail hx
  · exact exec_fail hx
include T hb in
/-- a part at the begin, and what stands behind it further on -/
theorem does_appendSub {t0 t2 ty el : TypeId} {e : Ty} {by_ : Nat} (hT : slT tt t0 = some (e, el, by_)) (hT2 : isSlT tt t2 = true) (hb0 : 0 < by_) {idb : Id} (hid : ¬ old idb) {f : Fl} {l : List e.den} {id : Id} (hR : ResOk G w id (.sl e f l)) (hold : old id)
    {hi lo2 hi2 : Nat} (h1 : hi ≤ lo2) {vx vy : Value} (mx : MtA G w (.sub id 0 hi e.size true) [vx]) (my : MtA G w (.sub id lo2 hi2 e.size true) [vy]) {vc : List Prop} :
    Does P old G w (do pure (.value (← Builtin.append_ #[t0, t2] ty #[vx, vy]))) ⟨atom (.own idb), [(id, none), (idb, some (.sl e f (l.take hi ++ (l.take hi2).drop lo2))), (idb.plus 1, some (.room idb l.length))], vc⟩ := by
  have hsz : 0 < e.size := by have := (slT_spec T hT).2.1; omega
  obtain ⟨A, c, hρ, hlc, hlm, hblk⟩ := hR.sl_at
  obtain ⟨A1, n1, c1, hρ1, _, hhc, hhn, hvx⟩ := mx
  obtain ⟨A2, n2, c2, hρ2, hlh2, hhc2, hhn2, hvy⟩ := my
  rw [hρ] at hρ1 hρ2
  cases hρ1
  cases hρ2
  have hhn := hhn rfl
  have hhn2 := hhn2 rfl
  have hvx' : vx = .slice A hi c := by
    simp only [List.cons.injEq, and_true] at hvx
    rw [hvx]
    cases A with
    | none => simp
    | some a => simp [Addr.add]
  let R : Rel := fun i q => if i = id then (match q with | [] => some [] | k :: r => if k < hi then some (k :: r) else if lo2 ≤ k then some ((k - lo2 + hi) :: r) else none) else none
  have hRid : ∀ i q r, R i q = some r → i = id := fun i q r h => by
    simp only [R] at h
    split at h
    · assumption
    · cases h
  have hmm : ((l.take hi2).drop lo2).length = hi2 - lo2 := by rw [List.length_drop, List.length_take]; omega
  have hll : (l.take hi).length = hi := by rw [List.length_take]; omega
  -- what stays
  have hA : (A = none ∧ c = 0) ∨ ∃ b o C t', A = some ⟨b, o, none⟩ ∧ w.heap[b]? = some (.cells C t' (0, 0)) ∧ o + c * e.size ≤ C.size ∧ (∃ i0 q0, G.g b = .own i0 q0 ∧ R i0 q0 = some []) ∧
      ∀ G', Turns old G G' w R idb → ∀ k, k < hi → PTr e f idb (l.take hi ++ (l.take hi2).drop lo2) G' w k (cellsAt C (o + k * e.size) e.size) := by
    rcases hblk with h | ⟨b, off, C, t, h4, h5, h6, h7, h8⟩
    · exact .inl h
    · refine .inr ⟨b, off, C, t, h4, h6, h7, ⟨id, [], h5, by simp [R]⟩, fun G' hTn k hk y hy => ?_⟩
      rw [List.getElem?_append_left (by omega), List.getElem?_take_of_lt hk] at hy
      exact Tr.mono hTn.pb (fun b' q hq => ⟨hTn.own b' id _ _ hq (by simp [R, hk]), rfl⟩) (h8 k y hy)
  -- what is appended
  have hN : NewOk P old G w R idb e.size (PTr e f idb (l.take hi ++ (l.take hi2).drop lo2)) hi vy (hi2 - lo2) := by
    simp only [List.cons.injEq, and_true] at hvy
    rw [hvy]
    rcases hblk with ⟨rfl, rfl⟩ | ⟨b, off, C, t, rfl, h5, h6, h7, h8⟩
    · have : hi2 - lo2 = 0 := by omega
      rw [this]
      simp only [Option.map_none, ite_self]
      exact .nil
    · have key : ∀ o', (hi2 - lo2 = 0 ∧ o' = off ∨ o' = off + lo2 * e.size) → NewOk P old G w R idb e.size (PTr e f idb (l.take hi ++ (l.take hi2).drop lo2)) hi (.slice (some ⟨b, o', none⟩) (hi2 - lo2) (c - lo2)) (hi2 - lo2) := by
        intro o' ho'
        have hle : hi2 * e.size ≤ c * e.size := Nat.mul_le_mul_right _ hhc2
        have hspl : lo2 * e.size + (hi2 - lo2) * e.size = hi2 * e.size := by rw [← Nat.add_mul, Nat.add_sub_cancel' hlh2]
        refine .block hsz h6 ?_ (fun k hk v hv => ?_) fun G' hTn k hk y hy => ?_
        · rcases ho' with ⟨h0, rfl⟩ | rfl
          · rw [h0, Nat.zero_mul]; omega
          · omega
        · rcases ho' with ⟨h0, rfl⟩ | rfl
          · omega
          · have hlt : lo2 + k < l.length := by omega
            have h9 := h8 (lo2 + k) _ (List.getElem?_eq_getElem hlt)
            rw [Nat.add_mul, ← Nat.add_assoc] at h9
            exact h9.one v hv
        · rcases ho' with ⟨h0, rfl⟩ | rfl
          · omega
          · rw [List.getElem?_append_right (by omega), hll, show hi + k - hi = k by omega, List.getElem?_drop, List.getElem?_take_of_lt (by omega)] at hy
            have h9 := h8 (lo2 + k) y hy
            rw [Nat.add_mul, ← Nat.add_assoc] at h9
            refine Tr.mono hTn.pb (fun b' q hq => ⟨hTn.own b' id _ _ hq ?_, rfl⟩) h9
            have a1 : ¬ lo2 + k < hi := fun h => absurd (Nat.le_trans h1 (Nat.le_add_right lo2 k)) (Nat.not_le_of_gt h)
            have a2 : lo2 + k - lo2 + hi = hi + k := by rw [Nat.add_sub_cancel_left, Nat.add_comm]
            simp only [R, if_true, List.nil_append, List.singleton_append, List.cons_append, a1, if_false, Nat.le_add_right, a2]
      by_cases hcl : c = lo2
      · rw [if_pos hcl]
        exact key off (.inl ⟨by omega, rfl⟩)
      · rw [if_neg hcl]
        simp only [Option.map_some, addr_add]
        exact key _ (.inr rfl)
  obtain ⟨A2, c2, news, rfl, hf, hl, h1', hnew⟩ := hN
  obtain ⟨A', c', w', G', hrun, hch, hρ', hc', hm, hcc, hfin⟩ := app_core (ty := ty) (chg := fun i => i ∈ ([(id, none), (idb, some (.sl e f (l.take hi ++ (l.take hi2).drop lo2))), (idb.plus 1, some (.room idb l.length))] : List (Id × Option Res)).map (·.1)) T hb hT hT2 hb0 hid
    (fun i q r h => by rw [hRid i q r h]; simp) PTr.stab (by omega : hi ≤ c) hA hf hl h1' hnew (by omega) (fun _ => .inr ⟨by omega, by omega⟩)
  subst hvx'
  refine ⟨_, .slice A' (hi + (hi2 - lo2)) c', w', G', by rw [Sem.run_bind, hrun]; rfl, .inl rfl, hch, .of1 rfl (by simp [MtA, hρ']), fun i S hi' => ?_⟩
  simp only [List.mem_cons, Prod.mk.injEq, reduceCtorEq, and_false, false_or, Option.some.injEq, List.not_mem_nil, or_false] at hi'
  rcases hi' with ⟨rfl, rfl⟩ | ⟨rfl, rfl⟩
  · refine ⟨A', hi + (hi2 - lo2), c', by rw [hρ'], by rw [List.length_append, hll, hmm], hc', hm, (fun h => by cases h), ?_⟩
    rcases hfin with h | ⟨b, o, C, t, h3, h4, h5, h6, h7⟩
    · exact .inl ⟨fun _ => h.1, h.2⟩
    · refine .inr ⟨b, o, C, t, (0, 0), h3, h4, h5, ?_, fun _ => ⟨rfl, h6⟩, fun j x hx => ?_⟩
      · have : (hi + (hi2 - lo2)) * e.size ≤ c' * e.size := Nat.mul_le_mul_right _ hc'
        omega
      · exact h7 j (by have := (List.getElem?_eq_some_iff.1 hx).1; rw [List.length_append, hll, hmm] at this; exact this) x hx
  · exact ⟨A', _, c', hρ', by rw [hcc (by omega)]; exact hlc⟩
include T hb in
theorem does_clear {t0 ty : TypeId} {x : SV} {v : Value} {e : Eff} {t : List Id} (hrs : ∀ id R, lk id = some R → ResOk G w id R) (hx : (sClear tt t0 x).exec lk = some (e, t)) (hv : ∀ p ∈ e.vc, p) (m : MtS G w x v) :
    Does P old G w (do pure (.value (← Builtin.clear_ #[t0] ty #[v]))) e := by
  unfold sClear at hx
  split at hx
  · exact exec_fail hx
  rename_i e0 el by_ hT
  obtain ⟨hu, hsz, te, hte, hTe, _⟩ := slT_spec T hT
  split at hx
  · rename_i id lo hi sz inn
    replace ⟨t', hx, _⟩ := exec_need hx
    split at hx
    · rename_i e' f l hlk
      replace ⟨hE, hx⟩ := condR hx
      simp only [Bool.and_eq_true] at hE
      have hE1 := Ty.eq_of_beq hE.1
      have hE2 := Nat.eq_of_beq_eq_true hE.2
      subst hE1
      subst hE2
      obtain ⟨rfl, _⟩ := exec_ok hx
      have hlo : l.length ≤ lo := hv _ List.mem_cons_self
      have hR := hrs id _ hlk
      obtain ⟨A, c, hρ, hlc, hlm, hblk⟩ := hR.sl_at
      obtain ⟨A1, n1, c1, hρ1, hlh, hhc, _, hvx⟩ := m.at1.2
      rw [hρ] at hρ1
      cases hρ1
      simp only [List.cons.injEq, and_true] at hvx
      subst hvx
      have same : (Builtin.clear_ #[t0] ty #[.slice (if c = lo then A else A.map (·.add (lo * e'.size))) (hi - lo) (c - lo)]).run P w = .ok (.tuple #[]) w →
          Does P old G w (do pure (.value (← Builtin.clear_ #[t0] ty #[.slice (if c = lo then A else A.map (·.add (lo * e'.size))) (hi - lo) (c - lo)]))) ⟨.junk, [(id, some (.sl e' f l))], [l.length ≤ lo]⟩ := fun hrun =>
        ⟨_, .tuple #[], w, G, by rw [Sem.run_bind, hrun]; rfl, .inl rfl, .refl hb, trivial, fun i S hi' => by
          simp only [List.mem_singleton, Prod.mk.injEq, Option.some.injEq] at hi'
          obtain ⟨rfl, rfl⟩ := hi'
          exact hR⟩
      rcases hblk with ⟨rfl, rfl⟩ | ⟨b, off, C, tb, rfl, h5, h6, h7, h8⟩
      · refine same ?_
        simp [Builtin.clear_, run_underlying hu]
      · by_cases h0 : hi - lo = 0
        · refine same ?_
          rw [h0]
          split <;> simp [Builtin.clear_, run_underlying hu]
        · have hcl : ¬ c = lo := by omega
          rw [if_neg hcl]
          simp only [Option.map_some, addr_add]
          have hz := run_zero_at T hte w
          have hcells := mkV_cells T hte
          have htz : Tr G w te.T pF default [] (zeroCells te.T) te.T.dflt := Tr.zero te.T (noO_p _)
          have hzl := htz.len
          have hone := htz.one
          subst hTe
          let zs := (Builtin.zeroCells (mkV te.ag (zeroCells te.T)).cells (hi - lo)).toList
          have hzsl : zs.length = (hi - lo) * te.T.size := by
            simp only [zs]
            rw [hcells]
            simp [Builtin.zeroCells, hzl]
          have hzs1 : ∀ v ∈ zs, v.oneCell' = true := by
            intro v hv
            simp only [zs] at hv
            rw [hcells] at hv
            simp only [Builtin.zeroCells, Array.toList_map, List.mem_map] at hv
            obtain ⟨k, _, rfl⟩ := hv
            have hlt : k % (zeroCells te.T).toArray.size < (zeroCells te.T).toArray.size := Nat.mod_lt _ (by simp only [List.size_toArray]; omega)
            rw [getElem!_pos (zeroCells te.T).toArray (k % (zeroCells te.T).toArray.size) hlt]
            exact hone _ (by simp)
          have hle1 : hi * te.T.size ≤ c * te.T.size := Nat.mul_le_mul_right _ hhc
          have hspl : lo * te.T.size + (hi - lo) * te.T.size = hi * te.T.size := by rw [← Nat.add_mul, Nat.add_sub_cancel' hlh]
          have hst := run_storeCells_at P b (off + lo * te.T.size) tb zs 0 C w h6 (by rw [hzsl]; omega) hzs1
          simp only [Nat.add_zero] at hst
          have hrun : (Builtin.clear_ #[t0] ty #[.slice (some ⟨b, off + lo * te.T.size, none⟩) (hi - lo) (c - lo)]).run P w = .ok (.tuple #[]) (w.setRow b (over C (off + lo * te.T.size) zs)) := by
            have hn0 : ∃ k, hi - lo = k + 1 := ⟨hi - lo - 1, by omega⟩
            obtain ⟨k, hk⟩ := hn0
            have hst' := hst
            simp only [zs, hk] at hst' ⊢
            unfold Builtin.clear_
            simp [run_underlying hu, hz, hst', over]
          have hcc : ∀ {old : Id → Prop}, Chg old (fun j => j = id) G G w (w.setRow b (over C (off + lo * te.T.size) zs)) := .setRow (chg := fun j => j = id) hb h5 rfl _
          refine ⟨_, .tuple #[], _, G, by rw [Sem.run_bind, hrun]; rfl, .inl rfl, hcc.le (fun j hj => by simp [hj]), trivial, fun i S hi' => ?_⟩
          simp only [List.mem_singleton, Prod.mk.injEq, Option.some.injEq] at hi'
          obtain ⟨rfl, rfl⟩ := hi'
          have hosz := over_size (C := C) (o := off + lo * te.T.size) (vs := zs) (by rw [hzsl]; omega)
          have hle2 : l.length * te.T.size ≤ lo * te.T.size := Nat.mul_le_mul_right _ hlo
          have hle3 : l.length * te.T.size ≤ c * te.T.size := Nat.mul_le_mul_right _ hlc
          refine ⟨some ⟨b, off, none⟩, l.length, c, by rw [hρ], rfl, hlc, hlm, (fun h => by cases h), .inr ⟨b, off, _, tb, (0, 0), rfl, h5, setRow_heap w b _ _ tb _ h6, by rw [hosz]; omega, fun _ => ⟨rfl, by rw [hosz]; exact h7⟩, fun k y hy => ?_⟩⟩
          have hkl : k < l.length := (List.getElem?_eq_some_iff.1 hy).1
          have hle4 : (k + 1) * te.T.size ≤ l.length * te.T.size := Nat.mul_le_mul_right _ hkl
          rw [Nat.succ_mul] at hle4
          have h9 := h8 k y hy
          rw [cellsAt_over_out (by rw [hzsl]; omega) (.inl (by omega))]
          refine Tr.mono (hcc (old := old)).pb (fun b' q hq => ⟨hq, setRow_other w b b' _ (fun e' => ?_)⟩) h9
          rw [e', h5] at hq
          cases hq
    · exact exec_fail hx
  · exact exec_fail hx
include T hb in
theorem does_append {t0 t2 ty : TypeId} {idb : Id} (hid : ¬ old idb) (h1 : RhoOk G) (hrs : ∀ id R, lk id = some R → ResOk G w id R ∧ old id ∧ ∀ j ∈ R.ids, old j) {x y : SV} {vx vy : Value} {ef : Eff} {t : List Id}
    (hx : (sAppend tt t0 t2 idb x y).exec lk = some (ef, t)) (hv : ∀ p ∈ ef.vc, p) (mx : MtS G w x vx) (my : MtS G w y vy) :
    Does P old G w (do pure (.value (← Builtin.append_ #[t0, t2] ty #[vx, vy]))) ef := by
  unfold sAppend at hx
  split at hx
  · exact exec_fail hx
  rename_i e0 el by_ hT
  cases hc : (isSlT tt t2 && Nat.blt 0 by_) with
  | false => rw [hc] at hx; exact exec_fail hx
  | true =>
  rw [hc] at hx
  simp only [Bool.and_eq_true, Nat.blt_eq] at hc
  simp only [Bool.not_true, cond_false] at hx
  split at hx
  · have hvx : vx = .slice none 0 0 := by simpa using (show [vx] = [Value.slice none 0 0] from mx.at1.2)
    exact does_appendEls T hb hT hc.1 hc.2 hid h1 hrs (.inl ⟨rfl, rfl, hvx⟩) hx hv my
  · rename_i id
    replace ⟨t', hx, _⟩ := exec_need hx
    have hvx := mx.own
    subst hvx
    split at hx
    · rename_i e f l hlk
      replace ⟨hE, hx⟩ := condR hx
      have hE := Ty.eq_of_beq hE
      subst hE
      exact does_appendTo T hb hT hc.1 hc.2 hid h1 hrs (hrs id _ hlk).1 hx hv my
    · rename_i sz l hlk
      replace ⟨hE, hx⟩ := condR hx
      have hE := Nat.eq_of_beq_eq_true hE
      subst hE
      exact does_appendEls T hb hT hc.1 hc.2 hid h1 hrs (.inr ⟨id, rfl, rfl, (hrs id _ hlk).1, idsLL_get (hrs id _ hlk).2.2⟩) hx hv my
    · rename_i e f l j cs hlk
      replace ⟨hE, hx⟩ := condR hx
      have hE := Ty.eq_of_beq hE
      subst hE
      exact does_appendSlo T hb hT hc.1 hc.2 hid h1 hrs (hrs id _ hlk).1 hx hv my
    · exact exec_fail hx
  · rename_i id lo hi sz inn
    split at hx
    · rename_i id2 lo2 hi2 sz2 inn2
      replace ⟨hE, hx⟩ := condR hx
      simp only [Bool.and_eq_true] at hE
      obtain ⟨g1, g2, g3, g4⟩ := hE
      have g1 := Id.eq_of_beq g1
      have g2 := Nat.eq_of_beq_eq_true g2
      subst g1
      subst g2
      subst g3
      subst g4
      replace ⟨t', hx, _⟩ := exec_need hx
      split at hx
      · rename_i e f l hlk
        replace ⟨hE, hx⟩ := condR hx
        simp only [Bool.and_eq_true] at hE
        have k1 := Ty.eq_of_beq hE.1
        have k2 := Nat.eq_of_beq_eq_true hE.2.1
        have k3 := Nat.eq_of_beq_eq_true hE.2.2
        subst k1
        subst k2
        subst k3
        obtain ⟨rfl, _⟩ := exec_ok hx
        have h9 := hv _ List.mem_cons_self
        exact does_appendSub T hb hT hc.1 hc.2 hid (hrs id _ hlk).1 (hrs id _ hlk).2.1 h9 mx.at1.2 my.at1.2
      · exact exec_fail hx
    · exact exec_fail hx
  · exact exec_fail hx
end
end Go.Sx
