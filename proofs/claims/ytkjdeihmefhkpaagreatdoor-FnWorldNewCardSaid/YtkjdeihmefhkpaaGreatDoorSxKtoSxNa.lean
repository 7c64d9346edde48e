/- Several texts, one behind the other. -/
import Derived.Test.YtkjdeihmefhkpaaGreatDoorSxFtoSxJ
import Derived.Great.BuildSlice
import Derived.Laws.MakeOwn
import Derived.Laws.AppendOwn
import Derived.Laws.BytesString
import Derived.MapKept
import Derived.Lib.SliceRun
set_option linter.all false
namespace Go.Sx
open Go Go.RowKit
def MtSs (G : Gh) (w : World) : List SV → List Value → Prop
 | [], [] => True
 | s :: ss, v :: vs => MtS G w s v ∧ MtSs G w ss vs
 | _, _ => False
section
variable {P : Program} {tt : TT} (T : TtOk P tt) {old : Id → Prop} {G : Gh} {w : World} {lk : Id → Option Res} (hb : ∀ b, G.g b ≠ .no → b < w.heap.size) (h1 : RhoOk G)
theorem ftAt_eq : ∀ (l : List TypeId) (n : Nat), ftAt l n = l[n]? := by
 intro l
 induction l with
 | nil => intro n; rfl
 | cons x xs ih => intro n; cases n with
  | zero => rfl
  | succ n => simp only [ftAt, List.getElem?_cons_succ]; exact ih n
theorem field_at' (T : TtOk P tt) {t : TypeId} {te : TE} (h : ttOf tt t = some te) {f : Nat} (hf : f < te.nf) : ∃ (fs : Array Field) (fd : Field) (ft : TypeId), P.underlying t = some (.struct fs) ∧ fs[f]? = some fd ∧ te.fts[f]? = some ft ∧ fd.type = ft ∧
  fd.offset = fieldOff te.T te.nf f ∧ ∃ te', ttOf tt fd.type = some te' ∧ te'.T = (fieldTy te.T pF te.nf f 0).1 ∧ te'.T.size ≠ 0 := by
 obtain ⟨fs, fd, h1, h2, h3, h4⟩ := field_at T h hf
 obtain ⟨r, rfl, c⟩ := T.at h
 have hi := r.di
 have hn := r.nf
 rw [h1] at hi
 unfold TE.di at hi
 cases hfs : te.fts with
 | nil => rw [hfs] at hn; simp at hn; omega
 | cons x xs =>
  rw [hfs] at hi hn
  simp only [dinfo, DI.st.injEq] at hi
  obtain ⟨ft, hft⟩ : ∃ ft, (x :: xs)[f]? = some ft := ⟨_, List.getElem?_eq_getElem (by omega)⟩
  have hg := offsFrom_get te.T te.nf (x :: xs) 0 f
  rw [← hi, hft, List.getElem?_map] at hg
  rw [Array.getElem?_toList, h2] at hg
  simp only [Option.map_some, Option.some.injEq, Prod.mk.injEq] at hg
  exact ⟨fs, fd, ft, h1, h2, hft, hg.2, h3, h4⟩
include T hb h1 in
theorem does_field {t0 : TypeId} {f : Nat} {x : SV} {v : Value} {e : Eff} {t : List Id} (hx : (sField tt t0 f x).exec lk = some (e, t)) (m : MtS G w x v) : Does P old G w (do pure (.value (← Instr.field t0 v f))) e := by
 unfold sField at hx
 split at hx
 ·exact exec_fail hx
 rename_i t1 T0 ag nf el by_ fts hte
 cases hlt : Nat.blt f nf with
 | false => rw [hlt] at hx; exact exec_fail hx
 | true =>
  rw [hlt] at hx
  have hf : f < nf := by rw [Nat.blt_eq] at hlt; exact hlt
  simp only [cond_true] at hx
  split at hx
  ·rename_i l ft hft
   split at hx
   ·rename_i te2 T2 ag2 nf2 el2 by2 fts2 mm hte2 htk
    replace ⟨s, t1', t2', hs, hx, _⟩ := exec_bind hx
    obtain ⟨rfl, rfl⟩ := exec_ok hx
    obtain ⟨fs, fd, ft', h2, h3, h4, h5, h6, te', h7, h8, h9⟩ := field_at' T hte hf
    rw [ftAt_eq] at hft
    simp only at h4
    rw [hft] at h4
    cases h4
    subst h5
    rw [hte2] at h7
    cases h7
    obtain ⟨cs, rfl, hm⟩ := m
    obtain ⟨h10, h11⟩ := takeA_sound hm htk
    simp only at h8 h9
    have h12 : T2.size ≠ 0 := h9
    have hl : ((cs.drop (fieldOff T0 nf f)).take (fieldTy T0 pF nf f 0).1.size).length = T2.size := by
     rw [List.length_take, List.length_drop, h8]
     omega
    refine .pure hb (v := mkV ag2 ((cs.drop (fieldOff T0 nf f)).take (fieldTy T0 pF nf f 0).1.size)) ?_ (ofTy_sound h1 h11 (fun ha => ?_) hs)
    ·have hs2 := run_size_at T hte2 w
     have ha2 := run_agg_at T hte2 w
     simp only at hs2 ha2
     unfold Instr.field part
     cases hag : ag2 with
     | true =>
      rw [hag] at ha2
      simp [run_underlying h2, h3, asAgg, ha2, hs2, mkV, h6, h8]
     | false =>
      rw [hag] at ha2
      have hT1 : (fieldTy T0 pF nf f 0).1.size = 1 := by rw [← h8]; exact size_one T hte2 hag
      have hlt : fieldOff T0 nf f < cs.length := by omega
      have hv : (cs.drop (fieldOff T0 nf f)).take (fieldTy T0 pF nf f 0).1.size = [cs[fieldOff T0 nf f]] := by
       rw [hT1, List.drop_eq_getElem_cons hlt]
       rfl
      rw [hv]
      simp [run_underlying h2, h3, asAgg, ha2, mkV, h6, hlt]
    ·rw [hl]
     subst ha
     exact size_one T hte2 rfl
   ·exact exec_fail hx
  ·exact exec_fail hx
theorem fill_step {place : Nat → Option (Nat × Nat)} {cells : Array Value} {i off : Nat} {v : Value} {rest : List (Nat × Value)} (hp : place i = some (off, v.cells.size)) (hs : off + v.cells.size ≤ cells.size) :
  Instr.fill place cells ((i, v) :: rest) = Instr.fill place (over cells off v.cells.toList) rest := by
 have hs' : ¬ (off + v.cells.size > cells.size) := by omega
 rw [Instr.fill]
 simp only [hp]
 rw [if_neg (by simp; omega), ← Array.foldl_toList, Array.toList_zipIdx]
 congr 1
 have hf := (Great.foldl_set off v.cells.toList 0 cells).2
 apply Array.ext_getElem?
 intro k
 rw [over_get (by simpa using hs), hf k]
 simp only [Nat.add_zero, Array.length_toList]
 by_cases h1 : k < off
 ·rw [if_pos h1, if_neg (by omega)]
 ·rw [if_neg h1]
  by_cases h2 : k < off + v.cells.size
  ·rw [if_pos h2, if_pos (by omega)]
  ·rw [if_neg h2, if_neg (by omega)]
theorem mapM_places {F : Field → Option (Nat × Nat)} : ∀ {l : List Field} {g : Nat → Nat × Nat}, (∀ k fd, l[k]? = some fd → F fd = some (g k)) → ∃ ps, l.mapM F = some ps ∧ ∀ k, k < l.length → ps[k]? = some (g k) := by
 intro l
 induction l with
 | nil => intro g _; exact ⟨[], rfl, fun k h => by simp at h⟩
 | cons x xs ih =>
  intro g h
  obtain ⟨ps, h1, h2⟩ := ih (g := fun k => g (k + 1)) (fun k fd hk => h (k + 1) fd (by simpa using hk))
  refine ⟨g 0 :: ps, by simp [List.mapM_cons, h 0 x rfl, h1], fun k hk => ?_⟩
  cases k with
  | zero => rfl
  | succ k => simpa using h2 k (by simpa using hk)
theorem build_fill {T : Ty} {nf : Nat} {place : Nat → Option (Nat × Nat)} (hp : ∀ f, f < nf → place f = some (fieldOff T nf f, (fieldTy T pF nf f 0).1.size)) : ∀ {parts : List (Nat × Value)} {vals : List SV} {l m : List At} {cells : Array Value},
  MtSs G w vals (parts.map (·.2)) → buildFrom T nf ((parts.map (·.1)).zip vals) l = some m → MtL G w l cells.toList → ∃ cells', Instr.fill place cells parts = some cells' ∧ MtL G w m cells'.toList := by
 intro parts
 induction parts with
 | nil =>
  intro vals l m cells _ hx hm
  simp only [List.map_nil, List.zip_nil_left, buildFrom, Option.some.injEq] at hx
  subst hx
  exact ⟨cells, rfl, hm⟩
 | cons pt parts ih =>
  intro vals l m cells hms hx hm
  obtain ⟨f, v⟩ := pt
  cases vals with
  | nil => exact hms.elim
  | cons s vals =>
   obtain ⟨hv, hms⟩ := hms
   simp only [List.map_cons, List.zip_cons_cons] at hx
   cases s with
   | v ag la =>
    simp only [buildFrom] at hx
    cases hc : (Nat.blt f nf && Nat.beq (sizeL la) (fieldTy T pF nf f 0).1.size) with
    | false => rw [hc] at hx; cases hx
    | true =>
     rw [hc] at hx
     simp only [Bool.and_eq_true, Nat.blt_eq] at hc
     simp only [cond_true] at hx
     split at hx
     ·rename_i l' hl'
      have hcv := MtV.cells hv
      have hlen := hcv.len
      rw [Array.length_toList] at hlen
      obtain ⟨h3, h4⟩ := putA_sound hm hcv hl'
      have hpp := hp f hc.1
      rw [← Nat.eq_of_beq_eq_true hc.2, ← hlen] at hpp
      obtain ⟨cells', h5, h6⟩ := ih hms hx (cells := over cells (fieldOff T nf f) v.cells.toList) (by rw [over_toList]; exact h4)
      exact ⟨cells', by rw [fill_step hpp (by simpa using h3)]; exact h5, h6⟩
     ·cases hx
   | fn _ _ => simp [buildFrom] at hx
   | tup _ => simp [buildFrom] at hx
   | junk => simp [buildFrom] at hx
include T hb in
theorem does_build {t0 : TypeId} {parts : List (Nat × Value)} {vals : List SV} {e : Eff} {t : List Id} (hx : (sBuild tt t0 (parts.map (·.1)) vals).exec lk = some (e, t)) (m : MtSs G w vals (parts.map (·.2))) :
  Does P old G w (do pure (.value (← Instr.build t0 parts.toArray))) e := by
 unfold sBuild at hx
 split at hx
 ·rename_i t1 T0 nf el by_ fts hte
  split at hx
  ·rename_i l hl
   obtain ⟨rfl, rfl⟩ := exec_ok hx
   obtain ⟨i, hi, hz, hsz, _⟩ := info_at T hte
   obtain ⟨d, hd, hdi⟩ := und_at T hte
   obtain ⟨r, _, c⟩ := T.at hte
   have hag := r.ag
   have hnf := r.nf
   rw [← hdi] at hag
   have hfin : ∀ cells, P.built t0 parts = some cells → MtL G w l cells.toList → Does P old G w (do pure (.value (← Instr.build t0 parts.toArray))) ⟨.v true l, [], []⟩ := fun cells h5 h6 =>
    .pure hb (v := .agg cells) (by rw [Sem.run_bind, run_build w t0 parts.toArray cells (by simpa using h5)]; rfl) ⟨cells.toList, by simp, h6⟩
   cases d with
   | struct fs =>
    have hlen : fs.toList.length = nf := by
     unfold TE.di at hdi
     cases hfs : fts with
     | nil => rw [hfs] at hdi; cases T0 <;> simp [dinfo] at hdi
     | cons x xs =>
      rw [hfs] at hdi hnf
      simp only [dinfo, DI.st.injEq] at hdi
      have h2 := congrArg List.length hdi
      rw [List.length_map] at h2
      rw [h2]
      have : ∀ (l : List TypeId) (f : Nat), (offsFrom T0 nf f l).length = l.length := by
       intro l
       induction l with
       | nil => intro f; rfl
       | cons a r ih => intro f; simp [offsFrom, ih]
      rw [this]
      exact hnf.symm
    obtain ⟨ps, hps, hpg⟩ := mapM_places (l := fs.toList) (F := fun f => (P.info? f.type).map fun i => (f.offset, i.size)) (g := fun k => (fieldOff T0 nf k, (fieldTy T0 pF nf k 0).1.size)) (fun k fd hk => by
     have hkn : k < nf := by have := (List.getElem?_eq_some_iff.1 hk).1; omega
     obtain ⟨fs', fd', h2, h3, h4, te', h5, h6, _⟩ := field_at T hte hkn
     rw [hd] at h2
     cases h2
     rw [Array.getElem?_toList, h3] at hk
     cases hk
     obtain ⟨i', hi', _, hs', _⟩ := info_at T h5
     simp [hi', h4, hs', h6])
    obtain ⟨cells', h5, h6⟩ := build_fill (place := fun k => ps.toArray[k]?) (fun f hf => by simpa using hpg f (by omega)) m hl (cells := (zeroCells T0).toArray) (by simpa using zeroOf_sound T0)
    refine hfin cells' ?_ h6
    simp [Program.built, hi, hd, hz, hps, mkV, Value.cells] at h5 ⊢
    exact h5
   | array n el' =>
    have hnf0 : nf = 0 := by
     unfold TE.di at hdi
     cases hfs : fts with
     | nil => rw [hfs] at hnf; exact hnf
     | cons x xs => rw [hfs] at hdi; simp [dinfo] at hdi
    subst hnf0
    cases parts with
    | nil =>
     simp only [List.map_nil, List.zip_nil_left, buildFrom, Option.some.injEq] at hl
     subst hl
     have hel : ∃ ie, P.info? el' = some ie := by
      unfold TE.di at hdi
      unfold teChk at c
      cases hfs : fts with
      | cons x xs => rw [hfs] at hdi; simp [dinfo] at hdi
      | nil =>
       rw [hfs] at hdi c
       cases T0 with
       | arr n' e' =>
        simp only [dinfo, DI.arr.injEq] at hdi
        obtain ⟨te', h2, h3, _⟩ := elChk_spec c
        obtain ⟨ie, h4, _⟩ := info_at T h2
        exact ⟨ie, by rw [hdi.2]; exact h4⟩
       | _ => simp [dinfo] at hdi
     obtain ⟨ie, hie⟩ := hel
     refine hfin (zeroCells T0).toArray ?_ (by simpa using zeroOf_sound T0)
     simp [Program.built, hi, hd, hz, hie, mkV, Value.cells, Instr.fill]
    | cons pt parts =>
     cases vals with
     | nil => exact m.elim
     | cons s vals => cases s <;> simp [buildFrom, show ∀ x, Nat.blt x 0 = false from fun x => rfl] at hl
   | _ => simp [dinfo, DI.agg] at hag
  ·exact exec_fail hx
 ·exact exec_fail hx
theorem buildEls_sound {sz : Nat} : ∀ {parts : List (Nat × Value)} {vals : List SV} {l : List (List At)} {j : Nat}, MtSs G w vals (parts.map (·.2)) → buildEls sz ((parts.map (·.1)).zip vals) j = some l →
  parts = ((parts.map (·.2)).zipIdx j).map (fun x => (x.2, x.1)) ∧ l.length = parts.length ∧ (∀ v ∈ parts.map (·.2), (Value.cells v).size = sz) ∧
  ∀ (k : Nat) (c : List At), l[k]? = some c → ∃ v : Value, (parts.map (·.2))[k]? = some v ∧ MtL G w c v.cells.toList := by
 intro parts
 induction parts with
 | nil =>
  intro vals l j _ hx
  simp only [List.map_nil, List.zip_nil_left, buildEls, Option.some.injEq] at hx
  subst hx
  exact ⟨rfl, rfl, by simp, fun k c h => by simp at h⟩
 | cons pt parts ih =>
  intro vals l j hms hx
  obtain ⟨f, v⟩ := pt
  cases vals with
  | nil => exact hms.elim
  | cons s vals =>
   obtain ⟨hv, hms⟩ := hms
   simp only [List.map_cons, List.zip_cons_cons] at hx
   cases s with
   | v ag la =>
    simp only [buildEls] at hx
    cases hc : (Nat.beq f j && Nat.beq (sizeL la) sz) with
    | false => rw [hc] at hx; cases hx
    | true =>
     rw [hc] at hx
     simp only [Bool.and_eq_true] at hc
     simp only [cond_true] at hx
     split at hx
     ·rename_i r hr
      cases hx
      obtain ⟨h1, h2, h3, h4⟩ := ih hms hr
      have hcv := MtV.cells hv
      have hlen := hcv.len
      rw [Array.length_toList] at hlen
      have hf := Nat.eq_of_beq_eq_true hc.1
      subst hf
      refine ⟨?_, by simp [h2], ?_, fun k c hk => ?_⟩
      ·simp only [List.map_cons, List.zipIdx_cons]
       rw [← h1]
      ·simp only [List.map_cons, List.mem_cons, forall_eq_or_imp]
       exact ⟨by rw [hlen]; exact Nat.eq_of_beq_eq_true hc.2, h3⟩
      ·cases k with
       | zero => simp only [List.getElem?_cons_zero, Option.some.injEq] at hk; subst hk; exact ⟨v, rfl, hcv⟩
       | succ k => simpa using h4 k c (by simpa using hk)
     ·cases hx
   | fn _ _ => simp [buildEls] at hx
   | tup _ => simp [buildEls] at hx
   | junk => simp [buildEls] at hx
theorem MtEls.of {sz : Nat} {C : Array Value} : ∀ {css : List (List At)} {off : Nat}, (∀ (k : Nat) (l : List At), css[k]? = some l → MtL G w l (cellsAt C (off + k * sz) sz)) → MtEls G w sz C off css := by
 intro css
 induction css with
 | nil => intro off _; trivial
 | cons a r ih =>
  intro off h
  refine ⟨by simpa using h 0 a rfl, ih fun k l hk => ?_⟩
  have := h (k + 1) l (by simpa using hk)
  rwa [show off + (k + 1) * sz = off + sz + k * sz by rw [Nat.add_mul]; omega] at this
theorem flat_cells {s : Nat} (hs : 0 < s) {vs : List Value} (h : ∀ v ∈ vs, v.cells.size = s) {k : Nat} {v : Value} (hk : vs[k]? = some v) : cellsAt (vs.flatMap fun v => v.cells.toList).toArray (0 + k * s) s = v.cells.toList := by
 have hv : v.cells.toList.length = s := by rw [Array.length_toList]; exact h v (List.mem_of_getElem? hk)
 refine List.ext_getElem? fun i => ?_
 rw [cellsAt_get?]
 split
 ·rename_i hi
  rw [List.getElem?_toArray, Great.flat_get hs vs h, Nat.zero_add, Nat.add_comm, Nat.add_mul_div_right _ _ hs, Nat.div_eq_of_lt hi, Nat.zero_add, hk, Nat.add_mul_mod_self_right, Nat.mod_eq_of_lt hi]
  simp
 ·rw [List.getElem?_eq_none (by omega)]
theorem Chg.made {id : Id} (hid : ¬ old id) (hb : ∀ b, G.g b ≠ .no → b < w.heap.size) (o : Obj) (n c : Nat) :
  Chg old (fun j => j = id) G ⟨fun i => if i = id then .slice (some ⟨w.heap.size, 0, none⟩) n c else G.ρ i, fun b => if b = w.heap.size then .own id [] else G.g b⟩ w (w.alloc o) :=
 .alloc hb _ (fun i hi => by rw [if_neg (fun (e : i = id) => hid (e ▸ hi))]) (fun h1 i => by split <;> first | rfl | exact h1 i)
include T hb in
theorem does_buildSlice {t0 : TypeId} {Te : Ty} {el : TypeId} {by_ : Nat} (hT : slT tt t0 = some (Te, el, by_)) {idb : Id} (hid : ¬ old idb) {len : Nat} {parts : List (Nat × Value)} {vals : List SV} {e : Eff} {t : List Id}
  (hids : ∀ s ∈ vals, ∀ j ∈ s.ids, old j) (hx : (sBuildSlice idb Te.size len (parts.map (·.1)) vals).exec lk = some (e, t)) (m : MtSs G w vals (parts.map (·.2))) :
  Does P old G w (do pure (.value (← Instr.buildSlice t0 len parts.toArray))) e := by
 unfold sBuildSlice at hx
 replace ⟨hc, hx⟩ := condR hx
 split at hx
 ·rename_i l hl
  obtain ⟨rfl, rfl⟩ := exec_ok hx
  simp only [Bool.and_eq_true, List.length_map] at hc
  have hlen := Nat.eq_of_beq_eq_true hc.1
  have hle := Nat.le_of_ble_eq_true hc.2
  subst hlen
  obtain ⟨hu, hsz, te, hte, hTe, hby⟩ := slT_spec T hT
  subst hTe
  obtain ⟨i, hi, hz, hs, _⟩ := info_at T hte
  have hpos : 0 < te.T.size := by omega
  obtain ⟨g1, g2, g3, g4⟩ := buildEls_sound m hl
  have hzs : (mkV te.ag (zeroCells te.T)).cells.size = te.T.size := by
   rw [mkV_cells T hte]
   simpa using (zeroOf_sound (G := G) (w := w) te.T).len.trans ((Tr.zero (G := G) (w := w) te.T (F := pF) (id := default) (p := []) (noO_p _)).len ▸ ((zeroOf_sound (G := G) (w := w) te.T).len.symm))
  have hrun : (Instr.buildSlice t0 parts.length parts.toArray).run P w = .ok (.slice (some ⟨w.heap.size, 0, none⟩) parts.length parts.length) (w.alloc (.cells (((parts.map (·.2)).flatMap fun v => v.cells.toList).toArray) el)) := by
   have hfw := Great.fill_whole hpos (parts.map (·.2)) ((Array.range (parts.length * te.T.size)).map ((mkV te.ag (zeroCells te.T)).cells[· % (mkV te.ag (zeroCells te.T)).cells.size]!)) g3 (by simp)
   rw [← g1] at hfw
   by_cases h0 : parts.length * te.T.size = 0
   ·have hp0 : parts = [] := by
     rcases Nat.mul_eq_zero.1 h0 with h | h
     ·exact List.eq_nil_of_length_eq_zero h
     ·omega
    subst hp0
    simp [Instr.buildSlice, run_underlying hu, sizeOf, typeInfo, hi, newRow, Instr.fill, show Array.range 0 = #[] from rfl]
   ·exact run_buildSlice w t0 el _ _ _ i _ hu hi hz (by rw [hs]; omega) (by rw [hs]; exact h0) (by rw [hs]; exact hfw)
  have hch := Chg.made (G := G) (w := w) hid hb (.cells (((parts.map (·.2)).flatMap fun v => v.cells.toList).toArray) el) parts.length parts.length
  have hll : ∀ (ls : List (List At)), (∀ (k : Nat) (c : List At), ls[k]? = some c → ∀ j ∈ idsL c, old j) → ∀ j ∈ idsLL ls, old j := by
   intro ls
   induction ls with
   | nil => intro _ j hj; cases hj
   | cons a r ih =>
    intro h j hj
    simp only [idsLL, List.mem_append] at hj
    rcases hj with hj | hj
    ·exact h 0 a rfl j hj
    ·exact ih (fun k c hk => h (k + 1) c (by simpa using hk)) j hj
  have hbe : ∀ {parts : List (Nat × Value)} {vals : List SV} {l : List (List At)} {j : Nat}, buildEls te.T.size ((parts.map (·.1)).zip vals) j = some l → (∀ s ∈ vals, ∀ j ∈ s.ids, old j) → ∀ (k : Nat) (c : List At), l[k]? = some c → ∀ j ∈ idsL c, old j := by
   intro parts
   induction parts with
   | nil =>
    intro vals l j hx _ k c hk
    simp only [List.map_nil, List.zip_nil_left, buildEls, Option.some.injEq] at hx
    subst hx
    simp at hk
   | cons pt parts ih =>
    intro vals l j hx hs k c hk
    cases vals with
    | nil =>
     simp only [List.zip_nil_right, buildEls, Option.some.injEq] at hx
     subst hx
     simp at hk
    | cons s vals =>
     simp only [List.map_cons, List.zip_cons_cons] at hx
     cases s with
     | v ag la =>
      simp only [buildEls] at hx
      cases hc : (Nat.beq pt.1 j && Nat.beq (sizeL la) te.T.size) with
      | false => rw [hc] at hx; cases hx
      | true =>
       rw [hc] at hx
       simp only [cond_true] at hx
       split at hx
       ·rename_i r hr
        cases hx
        cases k with
        | zero => simp only [List.getElem?_cons_zero, Option.some.injEq] at hk; subst hk; exact hs (.v ag la) List.mem_cons_self
        | succ k => exact ih hr (fun s h => hs s (List.mem_cons_of_mem _ h)) k c (by simpa using hk)
       ·cases hx
     | fn _ _ => simp [buildEls] at hx
     | tup _ => simp [buildEls] at hx
     | junk => simp [buildEls] at hx
  refine ⟨_, .slice (some ⟨w.heap.size, 0, none⟩) parts.length parts.length, _, _, by rw [Sem.run_bind, hrun]; rfl, .inl rfl, hch.le (fun j hj => by simp [hj]), .of1 rfl (by simp [MtA]), fun j R hj => ?_⟩
  simp only [List.mem_singleton, Prod.mk.injEq, Option.some.injEq] at hj
  obtain ⟨rfl, rfl⟩ := hj
  refine ⟨some ⟨w.heap.size, 0, none⟩, parts.length, parts.length, by simp, g2.symm, Nat.le_refl _, ?_, .inr ⟨w.heap.size, 0, _, el, rfl, by simp, heap_alloc_new' w _, ?_, ?_⟩⟩
  ·have := Nat.le_mul_of_pos_right parts.length hpos
   simp only [maxL]
   omega
  ·have : ((parts.map (·.2)).flatMap fun v => v.cells.toList).length = parts.length * te.T.size := by
    have : ∀ (vs : List Value), (∀ v ∈ vs, v.cells.size = te.T.size) → (vs.flatMap fun v => v.cells.toList).length = vs.length * te.T.size := by
     intro vs
     induction vs with
     | nil => intro _; simp
     | cons v vs ih =>
      intro h
      rw [List.flatMap_cons, List.length_append, ih (fun u hu => h u (List.mem_cons_of_mem _ hu)), Array.length_toList, h v List.mem_cons_self, List.length_cons, Nat.succ_mul]
      omega
    rw [this _ g3, List.length_map]
   simp [this]
  ·refine MtEls.of fun k c hk => ?_
   obtain ⟨v, h5, h6⟩ := g4 k c hk
   rw [flat_cells hpos g3 h5]
   exact h6.keep hch (hbe hl hids k c hk)
 ·exact exec_fail hx
theorem Tr.zeroW : ∀ (T : Ty) {id : Id} {p : List Nat}, Tr G w T (.all .w) id p (zeroCells T) T.dflt := by
 intro T
 induction T with
 | int k => intro id p; exact Tr.zero (.int k) rfl
 | bool => intro id p; exact Tr.zero .bool rfl
 | pt => intro id p; exact Tr.zero .pt rfl
 | er => intro id p; exact Tr.zero .er rfl
 | str => intro id p; exact Tr.zero .str rfl
 | sl e ih => intro id p; exact ⟨none, 0, 0, rfl, rfl, Nat.le_refl _, Nat.zero_le _, (fun h => by cases h), .inl ⟨fun _ => rfl, rfl⟩⟩
 | pr a b iha ihb => intro id p; exact ⟨_, _, rfl, iha, ihb⟩
 | arr n e ih => intro id p; exact Tr.zero (.arr n e) rfl
theorem madeCells_at {z : List Value} {s : Nat} (hz : z.length = s) (hs : 0 < s) {n k : Nat} (hk : k < n) : cellsAt (madeCells z.toArray (n * s)) (0 + k * s) s = z := by
 have hle : (k + 1) * s ≤ n * s := Nat.mul_le_mul_right _ (by omega)
 rw [Nat.succ_mul] at hle
 refine List.ext_getElem? fun i => ?_
 rw [cellsAt_get?]
 split
 ·rename_i hi
  have h1 : (k * s + i) % s = i := by rw [Nat.add_comm, Nat.add_mul_mod_self_right, Nat.mod_eq_of_lt hi]
  simp only [madeCells, Array.getElem?_map, Nat.zero_add]
  rw [Array.getElem?_range, if_pos (by omega)]
  simp [hz, h1, List.getElem!_eq_getElem?_getD, List.getElem?_eq_getElem (show i < z.length by omega)]
 ·rw [List.getElem?_eq_none (by omega)]
include T hb in
theorem make_core {t0 el : TypeId} {Te : Ty} {by_ : Nat} (hT : slT tt t0 = some (Te, el, by_)) {idb : Id} (hid : ¬ old idb) {len : Option Nat} {ka kb : IntKind} {a b : Int} {e : Eff} {t : List Id}
  (hx : (sMakeI Te by_ idb len a b).exec lk = some (e, t)) (hv : ∀ p ∈ e.vc, p) :
  Does P old G w (do pure (.value (← Instr.makeSlice t0 (.int ka a) (.int kb b)))) e := by
 obtain ⟨hu, hsz, te, hte, hTe, hby⟩ := slT_spec T hT
 subst hTe
 obtain ⟨i, hi, hz, hs, hbi⟩ := info_at T hte
 have hpos : 0 < te.T.size := by omega
 have hzl : (zeroCells te.T).length = te.T.size := (Tr.zero (G := G) (w := w) te.T (F := pF) (id := default) (p := []) (noO_p _)).len
 have core : 0 ≤ a → a ≤ b → b * by_ ≤ (maxL : Int) → 0 < by_ → (Instr.makeSlice t0 (.int ka a) (.int kb b)).run P w = .ok (.slice (some ⟨w.heap.size, 0, none⟩) a.toNat b.toNat) (w.alloc (.cells (madeCells (zeroCells te.T).toArray (b.toNat * te.T.size)) el)) ∧ b ≤ (maxL : Int) := by
  intro h0 h1 h2 h3
  have hb1 : b ≤ b * (by_ : Int) := by
   have := Int.mul_le_mul_of_nonneg_left (show (1 : Int) ≤ (by_ : Int) by omega) (show 0 ≤ b by omega)
   omega
  have hr := run_make (P := P) w t0 el i (mkV te.ag (zeroCells te.T)) hu hi hz ka kb a b h0 h1 (by rw [hbi, hby, Int.mul_comm]; simp only [maxL] at h2; omega) (by simp only [maxL] at h2; omega)
  rw [mkV_cells T hte, hs] at hr
  exact ⟨hr, by omega⟩
 have fin : ∀ {R : Res} {vc : List Prop}, 0 ≤ a → a ≤ b → b * by_ ≤ (maxL : Int) → 0 < by_ → (∀ G' w', G'.ρ idb = .slice (some ⟨w.heap.size, 0, none⟩) a.toNat b.toNat → G'.g w.heap.size = .own idb [] →
   w'.heap[w.heap.size]? = some (.cells (madeCells (zeroCells te.T).toArray (b.toNat * te.T.size)) el) → b ≤ (maxL : Int) → ResOk G' w' idb R) →
   Does P old G w (do pure (.value (← Instr.makeSlice t0 (.int ka a) (.int kb b)))) ⟨atom (.own idb), [(idb, some R)], vc⟩ := by
  intro R vc h0 h1 h2 h3 h4
  obtain ⟨hrun, hbm⟩ := core h0 h1 h2 h3
  have hch := Chg.made (G := G) (w := w) hid hb (.cells (madeCells (zeroCells te.T).toArray (b.toNat * te.T.size)) el) a.toNat b.toNat
  refine ⟨_, .slice (some ⟨w.heap.size, 0, none⟩) a.toNat b.toNat, _, _, by rw [Sem.run_bind, hrun]; rfl, .inl rfl, hch.le (fun j hj => by simp [hj]), .of1 rfl (by simp [MtA]), fun j R' hj => ?_⟩
  simp only [List.mem_singleton, Prod.mk.injEq, Option.some.injEq] at hj
  obtain ⟨rfl, rfl⟩ := hj
  exact h4 _ _ (by simp) (by simp) (heap_alloc_new' w _) hbm
 have hcell : ∀ k, k < b.toNat → cellsAt (madeCells (zeroCells te.T).toArray (b.toNat * te.T.size)) (0 + k * te.T.size) te.T.size = zeroCells te.T := fun k hk => madeCells_at hzl hpos hk
 have hszC : (madeCells (zeroCells te.T).toArray (b.toNat * te.T.size)).size = b.toNat * te.T.size := size_madeCells _ _
 unfold sMakeI at hx
 split at hx
 ·rename_i m
  replace ⟨hb3, hx⟩ := condR hx
  obtain ⟨rfl, rfl⟩ := exec_ok hx
  have h0 : a = (m : Int) := hv _ (by simp)
  have h1 : a ≤ b := hv _ (by simp)
  have h2 : b * by_ ≤ (maxL : Int) := hv _ (by simp)
  refine fin (by omega) h1 h2 (by simpa using hb3) fun G' w' hρ hg hh hbm => ?_
  refine ⟨_, _, _, hρ, by simp; omega, by omega, by omega, .inr ⟨_, 0, _, el, rfl, hg, hh, by rw [hszC]; omega, MtEls.of fun k l hl => ?_⟩⟩
  rw [List.getElem?_replicate] at hl
  split at hl
  ·rename_i hkm
   cases hl
   rw [hcell k (by omega)]
   exact zeroOf_sound te.T
  ·cases hl
 ·replace ⟨hb3, hx⟩ := condR hx
  obtain ⟨rfl, rfl⟩ := exec_ok hx
  have h0 : 0 ≤ a := hv _ (by simp)
  have h1 : a ≤ b := hv _ (by simp)
  have h2 : b * by_ ≤ (maxL : Int) := hv _ (by simp)
  refine fin h0 h1 h2 (by simpa using hb3) fun G' w' hρ hg hh hbm => ?_
  have hle : a.toNat * te.T.size ≤ b.toNat * te.T.size := Nat.mul_le_mul_right _ (by omega)
  refine ⟨_, _, _, by rw [hρ], by simp, by omega, by omega, (fun h => by cases h), .inr ⟨_, 0, _, el, _, rfl, hg, hh, by rw [hszC]; omega, fun _ => ⟨rfl, by rw [hszC]; omega⟩, fun k y hy => ?_⟩⟩
  have hy' : (List.replicate a.toNat te.T.dflt)[k]? = some y := hy
  rw [List.getElem?_replicate] at hy'
  split at hy'
  ·rename_i hkm
   cases hy'
   rw [hcell k (by omega)]
   exact Tr.zeroW te.T
  ·cases hy'
include T hb in
theorem does_makeSlice {t0 : TypeId} {idb : Id} (hid : ¬ old idb) {len : Option Nat} {x y : SV} {vx vy : Value} {e : Eff} {t : List Id}
  (hx : (sMake tt t0 idb len x y).exec lk = some (e, t)) (hv : ∀ p ∈ e.vc, p) (mx : MtS G w x vx) (my : MtS G w y vy) :
  Does P old G w (do pure (.value (← Instr.makeSlice t0 vx vy))) e := by
 unfold sMake at hx
 split at hx
 ·exact exec_fail hx
 rename_i Te el by_ hT
 split at hx
 ·obtain ⟨rfl, _⟩ := mx.int
  obtain ⟨rfl, _⟩ := my.int
  exact make_core T hb hT hid hx hv
 ·exact exec_fail hx
end
end Go.Sx

namespace Go.Sx
open Go Go.RowKit
section
variable {P : Program} {tt : TT} (T : TtOk P tt) {old : Id → Prop} {G : Gh} {w : World} {lk : Id → Option Res} (hb : ∀ b, G.g b ≠ .no → b < w.heap.size) (h1 : RhoOk G)
theorem isSlT_spec (T : TtOk P tt) {t : TypeId} (h : isSlT tt t = true) : ∃ el, P.underlying t = some (.slice el) := by
 unfold isSlT at h
 split at h
 ·rename_i x hx
  exact ⟨_, (slT_spec T hx).1⟩
 ·cases h
include T in
theorem run_app_room {t0 t2 ty el : TypeId} {Te : Ty} {by_ : Nat} (hT : slT tt t0 = some (Te, el, by_)) (hT2 : isSlT tt t2 = true) {b o n c m : Nat} {C : Array Value} {t' : TypeId} (hh : w.heap[b]? = some (.cells C t' (0, 0)))
  (hs : o + c * Te.size ≤ C.size) {A2 : Option Addr} {c2 : Nat} {news : List Value} (hf : (Builtin.firstCells Te.size m (.slice A2 m c2)).run P w = .ok news.toArray w) (hl : news.length = m * Te.size)
  (h1 : ∀ u ∈ news, u.oneCell' = true) (hroom : n + m ≤ c) :
  (Builtin.append_ #[t0, t2] ty #[.slice (some ⟨b, o, none⟩) n c, .slice A2 m c2]).run P w = .ok (.slice (some ⟨b, o, none⟩) (n + m) c) (w.setRow b (over C (o + n * Te.size) news)) := by
 obtain ⟨hu, hsz, te, hte, hTe, hby⟩ := slT_spec T hT
 subst hTe
 obtain ⟨el2, hu2⟩ := isSlT_spec T hT2
 have hle : (n + m) * te.T.size ≤ c * te.T.size := Nat.mul_le_mul_right _ hroom
 rw [Nat.add_mul] at hle
 have hst := run_storeCells_at P b (o + n * te.T.size) t' news 0 C w hh (by omega) h1
 simp only [Nat.add_zero] at hst
 simp [Builtin.append_, run_underlying hu, run_underlying hu2, run_size_at T hte, Builtin.lenOf, hroom, hf, addr_add, hst, over]
include T in
theorem run_app_grow {t0 t2 ty el : TypeId} {Te : Ty} {by_ : Nat} (hT : slT tt t0 = some (Te, el, by_)) (hT2 : isSlT tt t2 = true) {n c m : Nat} {A A2 : Option Addr} {c2 : Nat} {olds news : List Value}
  (hfo : (Builtin.firstCells Te.size n (.slice A n c)).run P w.drew = .ok olds.toArray w.drew) (hf : (Builtin.firstCells Te.size m (.slice A2 m c2)).run P w.drew = .ok news.toArray w.drew)
  (hg : c < n + m) (hby : (n + m) * by_ ≤ maxL) (hb0 : 0 < by_) (hl : olds.length + news.length = (n + m) * Te.size) :
  ∃ c' Z, (Builtin.append_ #[t0, t2] ty #[.slice A n c, .slice A2 m c2]).run P w = .ok (.slice (some ⟨w.heap.size, 0, none⟩) (n + m) c') (w.drew.alloc (.cells (olds ++ news ++ Z).toArray el)) ∧ n + m ≤ c' ∧ (olds ++ news ++ Z).length = c' * Te.size := by
 obtain ⟨hu, hsz, te, hte, hTe, hby'⟩ := slT_spec T hT
 subst hTe
 obtain ⟨el2, hu2⟩ := isSlT_spec T hT2
 obtain ⟨i, hi, hz, hs, hbi⟩ := info_at T hte
 have hbb : i.bytes = by_ := hbi.trans hby'
 have hnm : n + m ≤ (n + m) * by_ := Nat.le_mul_of_pos_right _ hb0
 have h63' : ¬ (9223372036854775807 < ((n : Int) + (m : Int))) := by simp only [maxL] at hby; omega
 have h48' : ¬ (281474976710656 < Builtin.nextslicecap (n + m) c * i.bytes) := by
  have := growslice_fits (bytes := i.bytes) hg (by rw [hbb]; exact hby)
  omega
 have hge := grownCap_ge w (n + m) c el
 have hzc : (Builtin.zeroCells (mkV te.ag (zeroCells te.T)).cells (grownCap w (n + m) c el - (n + m))).size = (grownCap w (n + m) c el - (n + m)) * te.T.size := by
  rw [size_zeroCells, mkV_cells T hte]
  congr 1
  simpa using (Tr.zero (G := ⟨fun _ => undef, fun _ => .no⟩) (w := w) te.T (F := pF) (id := default) (p := []) (noO_p _)).len
 refine ⟨grownCap w (n + m) c el, (Builtin.zeroCells (mkV te.ag (zeroCells te.T)).cells (grownCap w (n + m) c el - (n + m))).toList, ?_, hge, ?_⟩
 ·rw [← hs] at hfo hf
  have hng : ¬ (n + m ≤ c) := by omega
  simp [Builtin.append_, run_underlying hu, run_underlying hu2, sizeOf, typeInfo, zeroValue, hi, hz, Builtin.lenOf, hng, h63', h48', Question.forced, hf, hfo, newRow, grownCap]
  congr 2
  apply Array.ext'
  simp [List.append_assoc]
 ·rw [List.length_append, List.length_append, hl, Array.length_toList, hzc, ← Nat.add_mul]
  congr 1
  omega
def turned (G : Gh) (R : Id → List Nat → Option (List Nat)) (idb : Id) : Nat → Lab := fun b => match G.g b with
 | .own i q => match R i q with
  | some r => .own idb r
  | none => .own i q
 | l => l
theorem turned_own {R : Id → List Nat → Option (List Nat)} {idb : Id} {b : Nat} {i : Id} {q r : List Nat} (h : G.g b = .own i q) (hr : R i q = some r) : turned G R idb b = .own idb r := by simp [turned, h, hr]
theorem Chg.turn {chg : Id → Prop} (hb : ∀ b, G.g b ≠ .no → b < w.heap.size) {R : Id → List Nat → Option (List Nat)} (hR : ∀ i q r, R i q = some r → chg i) {idb : Id} (hid : ¬ old idb) {v : Value} (hv : v.oneCell' = true) :
  Chg old chg G ⟨fun i => if i = idb then v else G.ρ i, turned G R idb⟩ w w := by
 refine ⟨fun i hi => by simp only; rw [if_neg (fun (e : i = idb) => hid (e ▸ hi))], ⟨fun b h => ⟨by simp [turned, h], rfl⟩, fun b h => ⟨by simp [turned, h], rfl⟩⟩, fun b i q h hn => ⟨?_, rfl⟩, fun b _ h => ⟨rfl, by simp [turned, h]⟩, fun b h => ?_, fun h1 i => ?_, rfl, rfl, rfl, Nat.le_refl _, fun b _ h => by simp [turned, h]⟩
 ·simp only [turned, h]
  cases hr : R i q with
  | none => rfl
  | some r => exact absurd (hR i q r hr) hn
 ·refine hb b fun h2 => h ?_
  simp [turned, h2]
 ·simp only
  split
  ·exact hv
  ·exact h1 i
theorem Chg.drew {chg : Id → Prop} {G' : Gh} {w' : World} (h : Chg old chg G G' w w') : Chg old chg G G' w w'.drew :=
 ⟨h.rho, ⟨h.pb.per, h.pb.bor⟩, h.own, h.no, h.bnd, h.one, h.os, h.tape, h.output, h.size, h.out⟩
def Stab (old : Id → Prop) (idb : Id) (Pel : Gh → World → Nat → List Value → Prop) : Prop :=
 ∀ (G1 G2 : Gh) (w1 w2 : World) (k : Nat) (cs : List Value), KeepPB G1 G2 w1 w2 → (∀ i, old i → G2.ρ i = G1.ρ i) →
  (∀ b j q, G1.g b = .own idb (j :: q) → G2.g b = .own idb (j :: q) ∧ w2.heap[b]? = w1.heap[b]?) → Pel G1 w1 k cs → Pel G2 w2 k cs
structure Turns (old : Id → Prop) (G G' : Gh) (w : World) (R : Id → List Nat → Option (List Nat)) (idb : Id) : Prop where
 pb : KeepPB G G' w w
 rho : ∀ i, old i → G'.ρ i = G.ρ i
 own : ∀ b i q r, G.g b = .own i q → R i q = some r → G'.g b = .own idb r
include T hb in
theorem app_core {chg : Id → Prop} {t0 t2 ty el : TypeId} {Te : Ty} {by_ : Nat} (hT : slT tt t0 = some (Te, el, by_)) (hT2 : isSlT tt t2 = true) (hb0 : 0 < by_) {idb : Id} (hid : ¬ old idb) {R : Id → List Nat → Option (List Nat)} (hR : ∀ i q r, R i q = some r → chg i)
  {Pel : Gh → World → Nat → List Value → Prop} (hst : Stab old idb Pel) {A A2 : Option Addr} {n c m c2 : Nat} {news : List Value} (hnc : n ≤ c)
  (hA : (A = none ∧ c = 0) ∨ ∃ b o C t', A = some ⟨b, o, none⟩ ∧ w.heap[b]? = some (.cells C t' (0, 0)) ∧ o + c * Te.size ≤ C.size ∧ (∃ i0 q0, G.g b = .own i0 q0 ∧ R i0 q0 = some []) ∧
   ∀ G', Turns old G G' w R idb → ∀ k, k < n → Pel G' w k (cellsAt C (o + k * Te.size) Te.size))
  (hf : ∀ w' : World, w'.heap = w.heap → (Builtin.firstCells Te.size m (.slice A2 m c2)).run P w' = .ok news.toArray w') (hl : news.length = m * Te.size) (h1 : ∀ u ∈ news, u.oneCell' = true)
  (hnew : ∀ G', Turns old G G' w R idb → ∀ k, k < m → Pel G' w (n + k) ((news.drop (k * Te.size)).take Te.size)) (hn0 : n ≤ maxL) (hby : m ≠ 0 → (n + m) * by_ ≤ maxL ∨ (n + m ≤ c ∧ n + m ≤ maxL)) :
  ∃ A' c' w' G', (Builtin.append_ #[t0, t2] ty #[.slice A n c, .slice A2 m c2]).run P w = .ok (.slice A' (n + m) c') w' ∧ Chg old chg G G' w w' ∧ G'.ρ idb = .slice A' (n + m) c' ∧ n + m ≤ c' ∧ n + m ≤ maxL ∧ (n + m ≤ c → c' = c) ∧
   ((A' = none ∧ c' = 0) ∨ ∃ b o C t, A' = some ⟨b, o, none⟩ ∧ G'.g b = .own idb [] ∧ w'.heap[b]? = some (.cells C t (0, 0)) ∧ o + c' * Te.size ≤ C.size ∧ ∀ k, k < n + m → Pel G' w' k (cellsAt C (o + k * Te.size) Te.size)) := by
 have hnm : n + m ≤ maxL := by
  by_cases hm : m = 0
  ·omega
  ·rcases hby hm with h | h
   ·exact Nat.le_trans (Nat.le_mul_of_pos_right _ hb0) h
   ·exact h.2
 have hturn : ∀ v, v.oneCell' = true → Turns old G ⟨fun i => if i = idb then v else G.ρ i, turned G R idb⟩ w R idb := fun v hv =>
  ⟨(Chg.turn (old := old) (chg := chg) hb hR hid hv).pb, (Chg.turn (old := old) (chg := chg) (w := w) hb hR hid hv).rho, fun b i q r h hr => turned_own h hr⟩
 by_cases hroom : n + m ≤ c
 ·rcases hA with ⟨rfl, rfl⟩ | ⟨b, o, C, t', rfl, hh, hs, ⟨i0, q0, hg0, hr0⟩, hel⟩
  ·have hn00 : n = 0 := by omega
   have hm0 : m = 0 := by omega
   subst hn00
   subst hm0
   obtain ⟨hu, hsz, te, hte, hTe, hby'⟩ := slT_spec T hT
   obtain ⟨el2, hu2⟩ := isSlT_spec T hT2
   subst hTe
   have hn : news = [] := List.eq_nil_of_length_eq_zero (by simpa using hl)
   subst hn
   refine ⟨none, 0, w, _, ?_, Chg.turn (v := .slice none 0 0) hb hR hid rfl, by simp, Nat.le_refl _, hnm, fun _ => rfl, .inl ⟨rfl, rfl⟩⟩
   simp [Builtin.append_, run_underlying hu, run_underlying hu2, run_size_at T hte, Builtin.lenOf, hf w rfl]
  ·have hrun := run_app_room (ty := ty) T hT hT2 hh hs (hf w rfl) hl h1 hroom
   have hle : (n + m) * Te.size ≤ c * Te.size := Nat.mul_le_mul_right _ hroom
   rw [Nat.add_mul] at hle
   have hv : (Value.slice (some ⟨b, o, none⟩) (n + m) c).oneCell' = true := rfl
   have hT1 := hturn _ hv
   have hc1 := Chg.turn (old := old) (chg := chg) (w := w) hb hR hid hv
   have hgb : turned G R idb b = .own idb [] := turned_own hg0 hr0
   have hc2 : Chg old (fun j => j = idb) ⟨fun i => if i = idb then .slice (some ⟨b, o, none⟩) (n + m) c else G.ρ i, turned G R idb⟩ ⟨fun i => if i = idb then .slice (some ⟨b, o, none⟩) (n + m) c else G.ρ i, turned G R idb⟩ w (w.setRow b (over C (o + n * Te.size) news)) :=
    Chg.setRow (chg := fun j => j = idb) hc1.bnd hgb rfl _
   have hov : o + n * Te.size + news.length ≤ C.size := by omega
   refine ⟨_, c, _, ⟨fun i => if i = idb then .slice (some ⟨b, o, none⟩) (n + m) c else G.ρ i, turned G R idb⟩, hrun, ?_, by simp, hroom, hnm, fun _ => rfl, .inr ⟨b, o, _, t', rfl, hgb, setRow_heap w b C _ t' _ hh, by rw [over_size hov]; exact hs, fun k hk => ?_⟩⟩
   ·refine ⟨fun i hi => hc1.rho i hi, hc1.pb.trans hc2.pb, fun b' i q h hn => ?_, fun b' hb' h => ?_, hc2.bnd, fun h => hc1.one h, rfl, rfl, rfl, hc2.size, fun b' hb' h => hc2.out b' hb' (hc1.out b' hb' h)⟩
    ·obtain ⟨h3, h4⟩ := hc1.own b' i q h hn
     refine ⟨h3, setRow_other w b b' _ fun e => ?_⟩
     subst e
     rw [hg0] at h
     cases h
     exact hn (hR _ _ _ hr0)
    ·obtain ⟨h3, h4⟩ := hc1.no b' hb' h
     refine ⟨setRow_other w b b' _ fun e => ?_, h4⟩
     subst e
     rw [hg0] at h
     cases h
   ·refine hst _ _ _ _ _ _ hc2.pb (fun _ _ => rfl) (fun b' j q hq => ⟨hq, setRow_other w b b' _ fun e => ?_⟩) (?_ : Pel ⟨fun i => if i = idb then .slice (some ⟨b, o, none⟩) (n + m) c else G.ρ i, turned G R idb⟩ w k _)
    ·subst e
     have hq' : turned G R idb b' = .own idb (j :: q) := hq
     rw [hgb] at hq'
     cases hq'
    ·by_cases hkn : k < n
     ·have : (k + 1) * Te.size ≤ n * Te.size := Nat.mul_le_mul_right _ (by omega)
      rw [Nat.succ_mul] at this
      rw [cellsAt_over_out hov (by omega)]
      exact hel _ hT1 k hkn
     ·obtain ⟨j, rfl⟩ : ∃ j, k = n + j := ⟨k - n, by omega⟩
      have hj : j < m := by omega
      have h3 := hnew _ hT1 j hj
      have : (j + 1) * Te.size ≤ m * Te.size := Nat.mul_le_mul_right _ (by omega)
      rw [Nat.succ_mul] at this
      have e1 : cellsAt (over C (o + n * Te.size) news) (o + (n + j) * Te.size) Te.size = (news.drop (j * Te.size)).take Te.size := by
       refine List.ext_getElem? fun x => ?_
       rw [cellsAt_get?, List.getElem?_take]
       split
       ·rw [over_get hov, if_neg (by rw [Nat.add_mul]; omega), if_pos (by rw [Nat.add_mul]; omega), List.getElem?_drop]
        congr 1
        rw [Nat.add_mul]
        omega
       ·rfl
      rw [e1]
      exact h3
 ·
  have hold : ∃ olds : List Value, olds.length = n * Te.size ∧ (Builtin.firstCells Te.size n (.slice A n c)).run P w.drew = .ok olds.toArray w.drew ∧
    ∀ G', Turns old G G' w R idb → ∀ k, k < n → Pel G' w k ((olds.drop (k * Te.size)).take Te.size) := by
   rcases hA with ⟨rfl, rfl⟩ | ⟨b, o, C, t', rfl, hh, hs, _, hel⟩
   ·have hn00 : n = 0 := by omega
    subst hn00
    exact ⟨[], by simp, by simp [run_firstCells_none], fun _ _ k hk => by omega⟩
   ·have hle : n * Te.size ≤ c * Te.size := Nat.mul_le_mul_right _ hnc
    have hlen : (cellsAt C o (n * Te.size)).length = n * Te.size := cellsAt_len (by omega)
    refine ⟨cellsAt C o (n * Te.size), hlen, run_firstCells_some (P := P) w.drew Te.size n ⟨b, o, none⟩ n c _ hlen (cellsAt_rows (w := w.drew) (fz := (0, 0)) hh), fun G' hT' k hk => ?_⟩
    have h3 := hel G' hT' k hk
    have : (k + 1) * Te.size ≤ n * Te.size := Nat.mul_le_mul_right _ (by omega)
    rw [Nat.succ_mul] at this
    rw [cellsAt_part (by omega)]
    exact h3
  obtain ⟨olds, hlo, hfo, hel⟩ := hold
  obtain ⟨c', Z, hrun, hc', hZ⟩ := run_app_grow (ty := ty) T hT hT2 hfo (hf w.drew rfl) (by omega) ((hby (by omega)).resolve_right fun h => hroom h.1) hb0 (by rw [hlo, hl, Nat.add_mul])
  have hv : (Value.slice (some ⟨w.heap.size, 0, none⟩) (n + m) c').oneCell' = true := rfl
  have hT1 := hturn _ hv
  have hc1 := (Chg.turn (old := old) (chg := chg) (w := w) hb hR hid hv).drew
  have hc2 : Chg old chg _ ⟨fun i => if i = idb then .slice (some ⟨w.heap.size, 0, none⟩) (n + m) c' else G.ρ i, fun b => if b = w.drew.heap.size then .own idb [] else turned G R idb b⟩ w.drew (w.drew.alloc (.cells (olds ++ news ++ Z).toArray el)) :=
   Chg.alloc (G := ⟨fun i => if i = idb then .slice (some ⟨w.heap.size, 0, none⟩) (n + m) c' else G.ρ i, turned G R idb⟩) hc1.bnd _ (fun _ _ => rfl) (fun h i => h i)
  refine ⟨_, c', _, _, hrun, hc1.trans hc2, by simp, hc', hnm, fun h => absurd h hroom, .inr ⟨w.heap.size, 0, _, el, rfl, by simp, heap_alloc_new' w.drew _, by simp only [List.size_toArray]; omega, fun k hk => ?_⟩⟩
  refine hst _ _ _ _ _ _ hc2.pb (fun _ _ => rfl) (fun b' j q hq => ?_) (?_ : Pel ⟨fun i => if i = idb then .slice (some ⟨w.heap.size, 0, none⟩) (n + m) c' else G.ρ i, turned G R idb⟩ w.drew k _)
  ·have hlt := hc1.bnd b' (by rw [hq]; simp)
   refine ⟨?_, heap_alloc_get w.drew _ hlt⟩
   simp only
   rw [if_neg (by omega)]
   exact hq
  ·have hle2 : (n + m) * Te.size ≤ c' * Te.size := Nat.mul_le_mul_right _ hc'
   rw [Nat.add_mul] at hle2
   have hfin : ∀ cs, Pel ⟨fun i => if i = idb then .slice (some ⟨w.heap.size, 0, none⟩) (n + m) c' else G.ρ i, turned G R idb⟩ w k cs → Pel ⟨fun i => if i = idb then .slice (some ⟨w.heap.size, 0, none⟩) (n + m) c' else G.ρ i, turned G R idb⟩ w.drew k cs := fun cs h =>
    hst _ _ w w.drew _ _ ⟨fun _ h => ⟨h, rfl⟩, fun _ h => ⟨h, rfl⟩⟩ (fun _ _ => rfl) (fun b' j q hq => ⟨hq, rfl⟩) h
   refine hfin _ ?_
   by_cases hkn : k < n
   ·have : (k + 1) * Te.size ≤ n * Te.size := Nat.mul_le_mul_right _ (by omega)
    rw [Nat.succ_mul] at this
    have e1 : cellsAt (olds ++ news ++ Z).toArray (0 + k * Te.size) Te.size = (olds.drop (k * Te.size)).take Te.size := by
     refine List.ext_getElem? fun x => ?_
     rw [cellsAt_get?, List.getElem?_take]
     split
     ·rw [List.getElem?_toArray, List.append_assoc, List.getElem?_append_left (by omega), List.getElem?_drop, Nat.zero_add]
     ·rfl
    rw [e1]
    exact hel _ hT1 k hkn
   ·obtain ⟨j, rfl⟩ : ∃ j, k = n + j := ⟨k - n, by omega⟩
    have hj : j < m := by omega
    have : (j + 1) * Te.size ≤ m * Te.size := Nat.mul_le_mul_right _ (by omega)
    rw [Nat.succ_mul] at this
    have e1 : cellsAt (olds ++ news ++ Z).toArray (0 + (n + j) * Te.size) Te.size = (news.drop (j * Te.size)).take Te.size := by
     refine List.ext_getElem? fun x => ?_
     rw [cellsAt_get?, List.getElem?_take]
     split
     ·rw [List.getElem?_toArray, List.append_assoc, List.getElem?_append_right (by rw [hlo, Nat.add_mul]; omega), List.getElem?_append_left (by rw [hlo, Nat.add_mul]; omega), List.getElem?_drop, hlo]
      congr 1
      rw [Nat.add_mul]
      omega
     ·rfl
    rw [e1]
    exact hnew _ hT1 j hj
abbrev Rel := Id → List Nat → Option (List Nat)
abbrev PelT := Gh → World → Nat → List Value → Prop
def OldOk (old : Id → Prop) (G : Gh) (w : World) (R : Rel) (idb : Id) (s : Nat) (Pel : PelT) (A : Option Addr) (n c : Nat) : Prop :=
 n ≤ c ∧ ((A = none ∧ c = 0) ∨ ∃ b o C t', A = some ⟨b, o, none⟩ ∧ w.heap[b]? = some (.cells C t' (0, 0)) ∧ o + c * s ≤ C.size ∧ (∃ i0 q0, G.g b = .own i0 q0 ∧ R i0 q0 = some []) ∧
   ∀ G', Turns old G G' w R idb → ∀ k, k < n → Pel G' w k (cellsAt C (o + k * s) s))
def NewOk (P : Program) (old : Id → Prop) (G : Gh) (w : World) (R : Rel) (idb : Id) (s : Nat) (Pel : PelT) (n : Nat) (v2 : Value) (m : Nat) : Prop :=
 ∃ A2 c2 news, v2 = .slice A2 m c2 ∧ (∀ w' : World, w'.heap = w.heap → (Builtin.firstCells s m (.slice A2 m c2)).run P w' = .ok (List.toArray news) w') ∧ news.length = m * s ∧ (∀ u ∈ news, u.oneCell' = true) ∧
  ∀ G', Turns old G G' w R idb → ∀ k, k < m → Pel G' w (n + k) ((news.drop (k * s)).take s)
theorem OldOk.nil {R : Rel} {idb : Id} {s : Nat} {Pel : PelT} : OldOk old G w R idb s Pel none 0 0 := ⟨Nat.le_refl _, .inl ⟨rfl, rfl⟩⟩
theorem NewOk.nil {R : Rel} {idb : Id} {s n : Nat} {Pel : PelT} {A : Option Addr} {c : Nat} : NewOk P old G w R idb s Pel n (.slice A 0 c) 0 := by
 cases A with
 | none => exact ⟨none, c, [], rfl, fun w' _ => run_firstCells_none _ _ _ _ _, by simp, by simp, fun _ _ k hk => by omega⟩
 | some a => exact ⟨some a, c, [], rfl, fun w' _ => by simp only [Builtin.firstCells, loadCells, Nat.zero_mul]; rfl, by simp, by simp, fun _ _ k hk => by omega⟩
theorem NewOk.block {R : Rel} {idb : Id} {s n : Nat} {Pel : PelT} {b o m c : Nat} {C : Array Value} {t' : TypeId} {fz : Nat × Nat} (hs : 0 < s) (hh : w.heap[b]? = some (.cells C t' fz)) (hsz : o + m * s ≤ C.size)
  (h1 : ∀ k, k < m → ∀ v ∈ cellsAt C (o + k * s) s, v.oneCell' = true) (h : ∀ G', Turns old G G' w R idb → ∀ k, k < m → Pel G' w (n + k) (cellsAt C (o + k * s) s)) :
  NewOk P old G w R idb s Pel n (.slice (some ⟨b, o, none⟩) m c) m := by
 have hl : (cellsAt C o (m * s)).length = m * s := cellsAt_len hsz
 have hch : ∀ k, k < m → ((cellsAt C o (m * s)).drop (k * s)).take s = cellsAt C (o + k * s) s := fun k hk => by
  have : (k + 1) * s ≤ m * s := Nat.mul_le_mul_right _ (by omega)
  rw [Nat.succ_mul] at this
  exact cellsAt_part (by omega)
 refine ⟨_, c, cellsAt C o (m * s), rfl, fun w' hw => run_firstCells_some w' s m ⟨b, o, none⟩ m c _ hl (cellsAt_rows (by rw [hw]; exact hh)), hl, fun u hu => ?_, fun G' hT k hk => ?_⟩
 ·obtain ⟨i, hi, rfl⟩ := List.getElem_of_mem hu
  rw [hl] at hi
  have hk : i / s < m := by rw [Nat.div_lt_iff_lt_mul hs]; exact hi
  refine h1 (i / s) hk _ ?_
  rw [← hch _ hk]
  refine List.mem_iff_getElem?.2 ⟨i % s, ?_⟩
  rw [List.getElem?_take_of_lt (Nat.mod_lt i hs), List.getElem?_drop]
  have := Nat.div_add_mod i s
  rw [Nat.mul_comm] at this
  rw [this]
  exact List.getElem?_eq_getElem _
 ·rw [hch k hk]
  exact h G' hT k hk
def PTr (e : Ty) (f : Fl) (idb : Id) (l : List e.den) : PelT := fun G' w' k cs => ∀ y, l[k]? = some y → Tr G' w' e f idb [k] cs y
def PEls (l : List (List At)) : PelT := fun G' w' k cs => ∀ a, l[k]? = some a → MtL G' w' a cs
theorem PTr.stab {e : Ty} {f : Fl} {idb : Id} {l : List e.den} : Stab old idb (PTr e f idb l) := fun G1 G2 w1 w2 k cs hp _ ho h y hy =>
 Tr.mono hp (fun b q hq => ho b k q hq) (h y hy)
theorem MtA.keepR {G' : Gh} {w' : World} (hp : KeepPB G G' w w') (hr : ∀ i, old i → G'.ρ i = G.ρ i) {a : At} {cs : List Value} (ho : ∀ id ∈ a.ids, old id) (m : MtA G w a cs) : MtA G' w' a cs := by
 cases a with
 | d T F x => exact ⟨m.1, m.2.keep hp m.1⟩
 | kb b => exact m
 | nils => exact m
 | own id => have := hr id (ho id (by simp [At.ids])); rw [show cs = _ from m, ← this]; rfl
 | ptr id off =>
  have := hr id (ho id (by simp [At.ids]))
  obtain ⟨b, h1, h2⟩ := m
  exact ⟨b, this.trans h1, h2⟩
 | opt id i sz off T =>
  have := hr id (ho id (by simp [At.ids]))
  obtain ⟨b, o, n, c, h1, h2⟩ := m
  exact ⟨b, o, n, c, this.trans h1, h2⟩
 | rpt o T F x =>
  obtain ⟨h0, ho', b, off, C, t, fz, h1, h2, h3, h4, h5⟩ := m
  have hl := labOk_keep hp (id' := default) (p' := []) ho' h2
  exact ⟨h0, ho', b, off, C, t, fz, h1, hl.1, by rw [hl.2]; exact h3, h4, h5.keep hp h0⟩
 | nilp => exact m
 | junk => exact m
 | anyb P => exact m
 | sub id lo hi sz inn =>
  have := hr id (ho id (by simp [At.ids]))
  obtain ⟨A, n, c, h1, h2⟩ := m
  exact ⟨A, n, c, this.trans h1, h2⟩
 | chp id i =>
  have := hr id (ho id (by simp [At.ids]))
  obtain ⟨ps, A, h1, h2⟩ := m
  exact ⟨ps, A, by rw [this]; exact h1, h2⟩
 | chf id i off =>
  have := hr id (ho id (by simp [At.ids]))
  obtain ⟨ps, b, h1, h2⟩ := m
  exact ⟨ps, b, by rw [this]; exact h1, h2⟩
 | lnk id0 off id i sz =>
  have t0 := hr id0 (ho id0 (by simp [At.ids]))
  have t1 := hr id (ho id (by simp [At.ids]))
  rcases m with ⟨h1, b, h2, h3⟩ | ⟨k, ps, b, h1, h2, h3⟩
  ·exact .inl ⟨h1, b, t0.trans h2, h3⟩
  ·exact .inr ⟨k, ps, b, h1, by rw [t1]; exact h2, h3⟩
 | vp id off i n e =>
  have := hr id (ho id (by simp [At.ids]))
  obtain ⟨b, h1, h2⟩ := m
  exact ⟨b, this.trans h1, h2⟩
 | vsl id off n sz =>
  have := hr id (ho id (by simp [At.ids]))
  obtain ⟨b, h1, h2⟩ := m
  exact ⟨b, this.trans h1, h2⟩
theorem MtL.keepR {G' : Gh} {w' : World} (hp : KeepPB G G' w w') (hr : ∀ i, old i → G'.ρ i = G.ρ i) : ∀ {l : List At} {cs : List Value}, (∀ id ∈ idsL l, old id) → MtL G w l cs → MtL G' w' l cs := by
 intro l
 induction l with
 | nil => intro cs _ m; exact m
 | cons a r ih =>
  intro cs ho m
  obtain ⟨c1, c2, rfl, h1, h2⟩ := m
  exact ⟨c1, c2, rfl, h1.keepR hp hr fun id hi => ho id (by simp [idsL, hi]), ih (fun id hi => ho id (by simp [idsL, hi])) h2⟩
theorem PEls.stab {idb : Id} {l : List (List At)} (ho : ∀ (k : Nat) (a : List At), l[k]? = some a → ∀ j ∈ idsL a, old j) : Stab old idb (PEls l) := fun G1 G2 w1 w2 k cs hp hr _ h a ha =>
 (h a ha).keepR hp hr (ho k a ha)
theorem idsLL_get {l : List (List At)} (h : ∀ j ∈ idsLL l, old j) : ∀ (k : Nat) (a : List At), l[k]? = some a → ∀ j ∈ idsL a, old j := by
 induction l with
 | nil => intro k a hk; simp at hk
 | cons x xs ih =>
  intro k a hk j hj
  cases k with
  | zero => simp only [List.getElem?_cons_zero, Option.some.injEq] at hk; subst hk; exact h j (by simp [idsLL, hj])
  | succ k => exact ih (fun j hj => h j (by simp [idsLL, hj])) k a (by simpa using hk) j hj
theorem ResOk.sl_at {id : Id} {e : Ty} {f : Fl} {x : List e.den} (h : ResOk G w id (.sl e f x)) : ∃ A c, G.ρ id = .slice A x.length c ∧ x.length ≤ c ∧ x.length ≤ maxL ∧
  ((A = none ∧ c = 0) ∨ ∃ b off C t, A = some ⟨b, off, none⟩ ∧ G.g b = .own id [] ∧ w.heap[b]? = some (.cells C t (0, 0)) ∧ off + c * e.size ≤ C.size ∧
   ∀ (j : Nat) (y : e.den), x[j]? = some y → Tr G w e f id [j] (cellsAt C (off + j * e.size) e.size) y) := by
 obtain ⟨A, n, c, hcs, h1, h2, h3, _, h4⟩ := h
 simp only [List.cons.injEq, and_true] at hcs
 subst h1
 refine ⟨A, c, hcs, h2, h3, ?_⟩
 rcases h4 with h4 | ⟨b, off, C, t, fz, h5, h6, h7, h8, h9, h10⟩
 ·exact .inl ⟨h4.1 rfl, h4.2⟩
 ·obtain ⟨rfl, h11⟩ := h9 rfl
  exact .inr ⟨b, off, C, t, h5, h6, h7, h11, h10⟩
theorem old_sl {R : Rel} {idb id : Id} {e : Ty} {f : Fl} {l mm : List e.den} (h : ResOk G w id (.sl e f l)) (hR : ∀ q, R id q = some q) : ∃ A c, G.ρ id = .slice A l.length c ∧ OldOk old G w R idb e.size (PTr e f idb (l ++ mm)) A l.length c := by
 obtain ⟨A, c, h1, h2, _, h3⟩ := h.sl_at
 refine ⟨A, c, h1, h2, ?_⟩
 rcases h3 with h3 | ⟨b, off, C, t, h4, h5, h6, h7, h8⟩
 ·exact .inl h3
 ·refine .inr ⟨b, off, C, t, h4, h6, h7, ⟨id, [], h5, hR []⟩, fun G' hT k hk y hy => ?_⟩
  rw [List.getElem?_append_left hk] at hy
  exact Tr.mono hT.pb (fun b' q hq => ⟨hT.own b' id _ _ hq (hR _), rfl⟩) (h8 k y hy)
theorem new_sl {e : Ty} (hs : 0 < e.size) {R : Rel} {idb id : Id} {f f' : Fl} {l mm : List e.den} (h : ResOk G w id (.sl e f' mm)) (hf : flR Fo.le e f' f = true) (hR : ∀ k q, R id (k :: q) = some ((l.length + k) :: q)) :
  NewOk P old G w R idb e.size (PTr e f idb (l ++ mm)) l.length (G.ρ id) mm.length := by
 obtain ⟨A, c, h1, h2, _, h3⟩ := h.sl_at
 rw [h1]
 rcases h3 with ⟨rfl, rfl⟩ | ⟨b, off, C, t, rfl, h5, h6, h7, h8⟩
 ·have : mm = [] := List.eq_nil_of_length_eq_zero (by omega)
  subst this
  exact .nil
 ·have hle : mm.length * e.size ≤ c * e.size := Nat.mul_le_mul_right _ h2
  refine .block hs h6 (by omega) (fun k hk v hv => (h8 k _ (List.getElem?_eq_getElem hk)).one v hv) fun G' hT k hk y hy => ?_
  rw [List.getElem?_append_right (by omega), show l.length + k - l.length = k by omega] at hy
  exact Tr.mono hT.pb (fun b' q hq => ⟨hT.own b' id _ _ hq (hR k q), rfl⟩) (Tr.le hf (h8 k y hy))
theorem new_d {e : Ty} (hs : 0 < e.size) {R : Rel} {idb : Id} {f F : Fl} {l mm : List e.den} {A : Option Addr} {n c : Nat} (h : Tr G w (.sl e) F default [] [.slice A n c] mm) (ho : e.noO F.el = true) (hf : flR Fo.le e F.el f = true) :
  NewOk P old G w R idb e.size (PTr e f idb (l ++ mm)) l.length (.slice A n c) mm.length := by
 obtain ⟨A', n', c', hcs, h1, h2, h3, _, h4⟩ := h
 simp only [List.cons.injEq, Value.slice.injEq, and_true] at hcs
 obtain ⟨rfl, rfl, rfl⟩ := hcs
 subst h1
 rcases h4 with ⟨_, rfl⟩ | ⟨b, off, C, t, fz, rfl, h5, h6, h7, h8, h9⟩
 ·have : mm = [] := List.eq_nil_of_length_eq_zero (by omega)
  subst this
  exact .nil
 ·refine .block hs h6 (by omega) (fun k hk v hv => (h9 k _ (List.getElem?_eq_getElem hk)).one v hv) fun G' hT k hk y hy => ?_
  rw [List.getElem?_append_right (by omega), show l.length + k - l.length = k by omega] at hy
  exact Tr.le hf (Tr.keep hT.pb ho (h9 k y hy))
theorem els_len {sz : Nat} {id : Id} {css : List (List At)} (h : ResOk G w id (.els sz css)) : css.length ≤ maxL := by
 obtain ⟨A, n, c, h1, h2, h3, h4, h5⟩ := h
 omega
theorem packed (hrs : ∀ id R, lk id = some R → ResOk G w id R) {e : Ty} {f : Fl} {css : List (List At)} {ys : List e.den} {ids : List Id} {t : List Id} (hx : (packEach (pack e f) css).exec lk = some ((ys, ids, []), t)) (hn : ids.Nodup)
  (n0 : Nat) (cells : Nat → List Value) (hm : ∀ (k : Nat) (l : List At), css[k]? = some l → MtL G w l (cells k)) :
  ys.length = css.length ∧ ∃ mp : Id → Option (List Nat), (∀ i, mp i ≠ none ↔ i ∈ ids) ∧ ∀ (R : Rel) (idb : Id), (∀ i pos q, mp i = some pos → R i q = some (pos ++ q)) →
   ∀ G', Turns old G G' w R idb → ∀ (k : Nat) (y : e.den), ys[k]? = some y → Tr G' w e f idb [n0 + k] (cells k) y := by
 obtain ⟨h1, h2⟩ := packEach_sound (pack_sound hrs e f) css (fun j => cells (j - n0)) n0 ys ids [] t (fun k l hk => by simpa using hm k l hk) hx
 obtain ⟨mp, h3, h4⟩ := h2 hn
 refine ⟨h1, mp, h3, fun R idb hR G' hT k y hy => ?_⟩
 have := h4 G' w idb [] ⟨hT.pb, fun b i q pos hg hp => ⟨by simpa using hT.own b i q _ hg (hR i pos q hp), rfl⟩, fun b i q _ hl => by cases hl⟩ k y hy
 simpa using this
theorem ResOk.els_at {id : Id} {sz : Nat} {css : List (List At)} (h : ResOk G w id (.els sz css)) : ∃ A c, G.ρ id = .slice A css.length c ∧ css.length ≤ c ∧ css.length ≤ maxL ∧
  ((A = none ∧ c = 0) ∨ ∃ b off C t, A = some ⟨b, off, none⟩ ∧ G.g b = .own id [] ∧ w.heap[b]? = some (.cells C t (0, 0)) ∧ off + c * sz ≤ C.size ∧
   ∀ (j : Nat) (a : List At), css[j]? = some a → MtL G w a (cellsAt C (off + j * sz) sz)) := by
 obtain ⟨A, n, c, h1, h2, h3, h4, h5⟩ := h
 subst h2
 refine ⟨A, c, h1, h3, h4, ?_⟩
 rcases h5 with h5 | ⟨b, off, C, t, h6, h7, h8, h9, h10⟩
 ·exact .inl h5
 ·exact .inr ⟨b, off, C, t, h6, h7, h8, h9, fun j a ha => h10.get ha⟩
theorem old_els {R : Rel} {idb id : Id} {sz : Nat} {l mm : List (List At)} (h : ResOk G w id (.els sz l)) (ho : ∀ (k : Nat) (a : List At), l[k]? = some a → ∀ j ∈ idsL a, old j) (hR : R id [] = some []) :
  ∃ A c, G.ρ id = .slice A l.length c ∧ OldOk old G w R idb sz (PEls (l ++ mm)) A l.length c := by
 obtain ⟨A, c, h1, h2, _, h3⟩ := h.els_at
 refine ⟨A, c, h1, h2, ?_⟩
 rcases h3 with h3 | ⟨b, off, C, t, h4, h5, h6, h7, h8⟩
 ·exact .inl h3
 ·refine .inr ⟨b, off, C, t, h4, h6, h7, ⟨id, [], h5, hR⟩, fun G' hT k hk a ha => ?_⟩
  rw [List.getElem?_append_left hk] at ha
  exact (h8 k a ha).keepR hT.pb hT.rho (ho k a ha)
theorem new_els (h1 : RhoOk G) {R : Rel} {idb id : Id} {sz : Nat} (hs : 0 < sz) {l mm : List (List At)} (h : ResOk G w id (.els sz mm)) (ho : ∀ (k : Nat) (a : List At), mm[k]? = some a → ∀ j ∈ idsL a, old j) :
  NewOk P old G w R idb sz (PEls (l ++ mm)) l.length (G.ρ id) mm.length := by
 obtain ⟨A, c, h2, h3, _, h4⟩ := h.els_at
 rw [h2]
 rcases h4 with ⟨rfl, rfl⟩ | ⟨b, off, C, t, rfl, h5, h6, h7, h8⟩
 ·have : mm = [] := List.eq_nil_of_length_eq_zero (by omega)
  subst this
  exact .nil
 ·have hle : mm.length * sz ≤ c * sz := Nat.mul_le_mul_right _ h3
  refine .block hs h6 (by omega) (fun k hk v hv => (h8 k _ (List.getElem?_eq_getElem hk)).one' h1 v hv) fun G' hT k hk a ha => ?_
  rw [List.getElem?_append_right (by omega), show l.length + k - l.length = k by omega] at ha
  exact (h8 k a ha).keepR hT.pb hT.rho (ho k a ha)
theorem old_els_packed (hrs : ∀ id R, lk id = some R → ResOk G w id R) {e : Ty} {f : Fl} {idb id : Id} {css : List (List At)} {ys mm : List e.den} {ids : List Id} {t : List Id} (h : ResOk G w id (.els e.size css))
  (hx : (packEach (pack e f) css).exec lk = some ((ys, ids, []), t)) (hn : ids.Nodup) :
  ys.length = css.length ∧ ∃ mp : Id → Option (List Nat), (∀ i, mp i ≠ none ↔ i ∈ ids) ∧ ∀ R : Rel, (∀ i pos q, mp i = some pos → R i q = some (pos ++ q)) → R id [] = some [] →
   ∃ A c, G.ρ id = .slice A ys.length c ∧ OldOk old G w R idb e.size (PTr e f idb (ys ++ mm)) A ys.length c := by
 obtain ⟨A, c, h1, h2, _, h3⟩ := h.els_at
 rcases h3 with ⟨rfl, rfl⟩ | ⟨b, off, C, t', rfl, h5, h6, h7, h8⟩
 ·have : css = [] := List.eq_nil_of_length_eq_zero (by omega)
  subst this
  obtain ⟨hp, _⟩ := exec_ok hx
  cases hp
  exact ⟨rfl, fun _ => none, by simp, fun R _ _ => ⟨none, 0, h1, .nil⟩⟩
 ·obtain ⟨h9, mp, h10, h11⟩ := packed (old := old) hrs hx hn 0 (fun k => cellsAt C (off + k * e.size) e.size) h8
  refine ⟨h9, mp, h10, fun R hR hid => ⟨_, c, by rw [h9]; exact h1, by rw [h9]; exact h2, .inr ⟨b, off, C, t', rfl, h6, h7, ⟨id, [], h5, hid⟩, fun G' hT k hk y hy => ?_⟩⟩⟩
  rw [List.getElem?_append_left hk] at hy
  have := h11 R idb hR G' hT k y hy
  rwa [Nat.zero_add] at this
theorem new_els_packed (hrs : ∀ id R, lk id = some R → ResOk G w id R) (h1 : RhoOk G) {e : Ty} (hs : 0 < e.size) {f : Fl} {idb id : Id} {css : List (List At)} {ys l : List e.den} {ids : List Id} {t : List Id} (h : ResOk G w id (.els e.size css))
  (hx : (packEach (pack e f) css).exec lk = some ((ys, ids, []), t)) (hn : ids.Nodup) :
  ys.length = css.length ∧ ∃ mp : Id → Option (List Nat), (∀ i, mp i ≠ none ↔ i ∈ ids) ∧ ∀ R : Rel, (∀ i pos q, mp i = some pos → R i q = some (pos ++ q)) →
   NewOk P old G w R idb e.size (PTr e f idb (l ++ ys)) l.length (G.ρ id) ys.length := by
 obtain ⟨A, c, h2, h3, _, h4⟩ := h.els_at
 rcases h4 with ⟨rfl, rfl⟩ | ⟨b, off, C, t', rfl, h5, h6, h7, h8⟩
 ·have : css = [] := List.eq_nil_of_length_eq_zero (by omega)
  subst this
  obtain ⟨hp, _⟩ := exec_ok hx
  cases hp
  exact ⟨rfl, fun _ => none, by simp, fun R _ => by rw [h2]; exact .nil⟩
 ·obtain ⟨h9, mp, h10, h11⟩ := packed (old := old) hrs hx hn l.length (fun k => cellsAt C (off + k * e.size) e.size) h8
  have hle : css.length * e.size ≤ c * e.size := Nat.mul_le_mul_right _ h3
  refine ⟨h9, mp, h10, fun R hR => ?_⟩
  rw [h2, h9]
  refine .block hs h6 (by omega) (fun k hk v hv => (h8 k _ (List.getElem?_eq_getElem hk)).one' h1 v hv) fun G' hT k hk y hy => ?_
  rw [List.getElem?_append_right (by omega), show l.length + k - l.length = k by omega] at hy
  exact h11 R idb hR G' hT k y hy
theorem old_slo_packed (hrs : ∀ id R, lk id = some R → ResOk G w id R) {e : Ty} {f : Fl} {idb id : Id} {l mm : List e.den} {j : Nat} {cs : List At} {z : e.den} {ids : List Id} {t : List Id} (h : ResOk G w id (.slo e f l j cs))
  (hx : (pack e f cs).exec lk = some (⟨z, [], ids, []⟩, t)) (hn : ids.Nodup) :
  ∃ mp : Id → Option (List Nat), (∀ i, mp i ≠ none ↔ i ∈ ids) ∧ ∀ R : Rel, (∀ i pos q, mp i = some pos → R i q = some (j :: (pos ++ q))) → (∀ q, R id q = some q) →
   ∃ A c, G.ρ id = .slice A (l.set j z).length c ∧ OldOk old G w R idb e.size (PTr e f idb (l.set j z ++ mm)) A (l.set j z).length c := by
 obtain ⟨b, off, C, t', n, c, h1, h2, h3, h4, h5, h6, h7, h8, h9, h10⟩ := h
 subst h2
 obtain ⟨c1, c2, hcs, hc1, hc2, hpacks⟩ := pack_sound hrs _ _ _ _ _ _ _ _ _ h10 hx
 rw [show c2 = [] from hc2, List.append_nil] at hcs
 obtain ⟨mp, hmp, htr⟩ := hpacks hn
 have hlen : (l.set j z).length = l.length := List.length_set
 refine ⟨mp, hmp, fun R hR hid => ⟨_, c, by rw [hlen]; exact h1, by rw [hlen]; exact h3, .inr ⟨b, off, C, t', rfl, h7, h8, ⟨id, [], h6, hid []⟩, fun G' hT k hk y hy => ?_⟩⟩⟩
 rw [List.getElem?_append_left hk] at hy
 by_cases hkj : k = j
 ·subst hkj
  rw [List.getElem?_set_self h5] at hy
  cases hy
  rw [hcs]
  exact htr G' w idb [k] ⟨hT.pb, fun b i q pos hg hp => ⟨by simpa using hT.own b i q _ hg (hR i pos q hp), rfl⟩, fun b i q _ hl => by cases hl⟩
 ·rw [List.getElem?_set_ne (Ne.symm hkj)] at hy
  exact Tr.mono hT.pb (fun b' q hq => ⟨hT.own b' id _ _ hq (hid _), rfl⟩) (h9 k y hkj hy)
end
section
variable {P : Program} {tt : TT} (T : TtOk P tt) {old : Id → Prop} {G : Gh} {w : World} {lk : Id → Option Res} (hb : ∀ b, G.g b ≠ .no → b < w.heap.size) (h1 : RhoOk G)
include T hb
theorem app_sl {t0 t2 ty el : TypeId} {e : Ty} {by_ : Nat} (hT : slT tt t0 = some (e, el, by_)) (hT2 : isSlT tt t2 = true) (hb0 : 0 < by_) {idb : Id} (hid : ¬ old idb) {f : Fl} {l mm : List e.den} {R : Rel} {upd : List (Id × Option Res)} {vc : List Prop}
  (hR : ∀ i q r, R i q = some r → i ∈ upd.map (·.1)) (hu : ∀ i S, (i, some S) ∈ upd → i = idb ∧ S = .sl e f (l ++ mm)) {v1 v2 : Value} {A : Option Addr} {c : Nat} (hv1 : v1 = .slice A l.length c)
  (ho : OldOk old G w R idb e.size (PTr e f idb (l ++ mm)) A l.length c) (hn : NewOk P old G w R idb e.size (PTr e f idb (l ++ mm)) l.length v2 mm.length) (hn0 : l.length ≤ maxL) (hby : mm.length ≠ 0 → (l.length + mm.length) * by_ ≤ maxL) :
  Does P old G w (do pure (.value (← Builtin.append_ #[t0, t2] ty #[v1, v2]))) ⟨atom (.own idb), upd, vc⟩ := by
 subst hv1
 obtain ⟨A2, c2, news, rfl, hf, hl, h1, hnew⟩ := hn
 obtain ⟨A', c', w', G', hrun, hch, hρ, hc', hm, _, hfin⟩ := app_core (ty := ty) (chg := fun i => i ∈ upd.map (·.1)) T hb hT hT2 hb0 hid hR PTr.stab ho.1 ho.2 hf hl h1 hnew hn0 (fun h => .inl (hby h))
 refine ⟨_, .slice A' (l.length + mm.length) c', w', G', by rw [Sem.run_bind, hrun]; rfl, .inl rfl, hch, .of1 rfl (by simp [MtA, hρ]), fun i S hi => ?_⟩
 obtain ⟨rfl, rfl⟩ := hu i S hi
 refine ⟨A', l.length + mm.length, c', by rw [hρ], by rw [List.length_append], hc', hm, (fun h => by cases h), ?_⟩
 rcases hfin with h | ⟨b, o, C, t, h3, h4, h5, h6, h7⟩
 ·exact .inl ⟨fun _ => h.1, h.2⟩
 ·refine .inr ⟨b, o, C, t, (0, 0), h3, h4, h5, ?_, fun _ => ⟨rfl, h6⟩, fun j x hx => ?_⟩
  ·have : (l.length + mm.length) * e.size ≤ c' * e.size := Nat.mul_le_mul_right _ hc'
   omega
  ·exact h7 j (by have := (List.getElem?_eq_some_iff.1 hx).1; rw [List.length_append] at this; exact this) x hx
theorem app_els {t0 t2 ty el : TypeId} {e : Ty} {by_ : Nat} (hT : slT tt t0 = some (e, el, by_)) (hT2 : isSlT tt t2 = true) (hb0 : 0 < by_) {idb : Id} (hid : ¬ old idb) {l mm : List (List At)} {R : Rel} {upd : List (Id × Option Res)} {vc : List Prop}
  (hR : ∀ i q r, R i q = some r → i ∈ upd.map (·.1)) (hu : ∀ i S, (i, some S) ∈ upd → i = idb ∧ S = .els e.size (l ++ mm)) {v1 v2 : Value} {A : Option Addr} {c : Nat} (hv1 : v1 = .slice A l.length c)
  (hold : ∀ (k : Nat) (a : List At), (l ++ mm)[k]? = some a → ∀ j ∈ idsL a, old j)
  (ho : OldOk old G w R idb e.size (PEls (l ++ mm)) A l.length c) (hn : NewOk P old G w R idb e.size (PEls (l ++ mm)) l.length v2 mm.length) (hn0 : l.length ≤ maxL) (hby : mm.length ≠ 0 → (l.length + mm.length) * by_ ≤ maxL) :
  Does P old G w (do pure (.value (← Builtin.append_ #[t0, t2] ty #[v1, v2]))) ⟨atom (.own idb), upd, vc⟩ := by
 subst hv1
 obtain ⟨A2, c2, news, rfl, hf, hl, h1, hnew⟩ := hn
 obtain ⟨A', c', w', G', hrun, hch, hρ, hc', hm, _, hfin⟩ := app_core (ty := ty) (chg := fun i => i ∈ upd.map (·.1)) T hb hT hT2 hb0 hid hR (PEls.stab hold) ho.1 ho.2 hf hl h1 hnew hn0 (fun h => .inl (hby h))
 refine ⟨_, .slice A' (l.length + mm.length) c', w', G', by rw [Sem.run_bind, hrun]; rfl, .inl rfl, hch, .of1 rfl (by simp [MtA, hρ]), fun i S hi => ?_⟩
 obtain ⟨rfl, rfl⟩ := hu i S hi
 refine ⟨A', l.length + mm.length, c', hρ, by rw [List.length_append], hc', hm, ?_⟩
 rcases hfin with h | ⟨b, o, C, t, h3, h4, h5, h6, h7⟩
 ·exact .inl h
 ·exact .inr ⟨b, o, C, t, h3, h4, h5, h6, MtEls.of fun k a hk => h7 k (by have := (List.getElem?_eq_some_iff.1 hk).1; rw [List.length_append] at this; exact this) a hk⟩
omit T hb in
theorem mem_drops {ids : List Id} {i : Id} {S : Option Res} (h : (i, S) ∈ drops ids) : i ∈ ids ∧ S = none := by
 simp only [drops, List.mem_map, Prod.mk.injEq] at h
 obtain ⟨j, hj, rfl, rfl⟩ := h
 exact ⟨hj, rfl⟩
omit T hb in
theorem map_drops (ids : List Id) : (drops ids).map (·.1) = ids := by simp [drops, Function.comp_def]
theorem does_appendTo {t0 t2 ty el : TypeId} {e : Ty} {by_ : Nat} (hT : slT tt t0 = some (e, el, by_)) (hT2 : isSlT tt t2 = true) (hb0 : 0 < by_) {idb : Id} (hid : ¬ old idb) (h1 : RhoOk G) (hrs : ∀ id R, lk id = some R → ResOk G w id R ∧ old id ∧ ∀ j ∈ R.ids, old j)
  {f : Fl} {l : List e.den} {id : Id} (hR : ResOk G w id (.sl e f l)) {y : SV} {vy : Value} {ef : Eff} {t : List Id} (hx : (sAppendTo by_ idb e f l id y).exec lk = some (ef, t)) (hv : ∀ p ∈ ef.vc, p) (my : MtS G w y vy) :
  Does P old G w (do pure (.value (← Builtin.append_ #[t0, t2] ty #[G.ρ id, vy]))) ef := by
 have hrs' : ∀ id R, lk id = some R → ResOk G w id R := fun i R h => (hrs i R h).1
 have hsz : 0 < e.size := by have := (slT_spec T hT).2.1; omega
 have hn0 : l.length ≤ maxL := by obtain ⟨_, _, _, _, h, _⟩ := hR.sl_at; exact h
 unfold sAppendTo at hx
 split at hx
 ·
  obtain ⟨rfl, _⟩ := exec_ok hx
  have hvy : vy = .slice none 0 0 := by simpa using (show [vy] = [Value.slice none 0 0] from my.at1.2)
  obtain ⟨A, c, h2, h3⟩ := old_sl (old := old) (mm := []) (idb := idb) (R := fun i q => if i = id then some q else none) hR (fun q => by simp)
  refine app_sl T hb hT hT2 hb0 hid (f := f) (l := l) (mm := []) (fun i q r h => ?_) (fun i S h => ?_) h2 h3 (by rw [hvy]; exact .nil) hn0 (fun h => by simp at h)
  ·split at h
   ·rename_i e'; simp [e']
   ·cases h
  ·simp at h; simpa using h
 ·
  rename_i T' F m
  split at hx
  ·rename_i e' m
   replace ⟨hE, hx⟩ := condR hx
   simp only [Bool.and_eq_true] at hE
   have hE1 := Ty.eq_of_beq hE.1
   subst hE1
   obtain ⟨rfl, _⟩ := exec_ok hx
   obtain ⟨hO, A2, n2, c2, rfl, htr⟩ := my.slice
   obtain ⟨hn2, _, _⟩ := htr.sl_len
   subst hn2
   simp only [Ty.noO, Bool.and_eq_true] at hO
   have h2 := hv _ List.mem_cons_self
   rw [tcast_self]
   obtain ⟨A, c, h3, h4⟩ := old_sl (old := old) (mm := m) (idb := idb) (R := fun i q => if i = id then some q else none) hR (fun q => by simp)
   refine app_sl T hb hT hT2 hb0 hid (f := f) (l := l) (mm := m) (fun i q r h => ?_) (fun i S h => ?_) h3 h4 (new_d hsz htr hO.2 hE.2.2) hn0 (fun _ => h2)
   ·split at h
    ·rename_i e'; simp [e']
    ·cases h
   ·simp at h; exact h
  ·exact exec_fail hx
 ·
  rename_i id2
  replace ⟨t', hx, _⟩ := exec_need hx
  have hvy := my.own
  subst hvy
  split at hx
  ·rename_i e' f' m hlk
   replace ⟨hE, hx⟩ := condR hx
   simp only [Bool.and_eq_true, Bool.not_eq_true'] at hE
   have hE1 := Ty.eq_of_beq hE.1
   subst hE1
   have hne : id ≠ id2 := Id.beq_ne hE.2.2
   obtain ⟨rfl, _⟩ := exec_ok hx
   have h2 := hv _ List.mem_cons_self
   rw [tcast_self]
   obtain ⟨A, c, h3, h4⟩ := old_sl (old := old) (mm := m) (idb := idb) (R := fun i q => if i = id then some q else if i = id2 then (match q with | [] => none | k :: q' => some ((l.length + k) :: q')) else none) hR (fun q => by simp)
   refine app_sl T hb hT hT2 hb0 hid (f := f) (l := l) (mm := m) (fun i q r h => ?_) (fun i S h => ?_) h3 h4 (new_sl hsz (hrs' id2 _ hlk) hE.2.1 (fun k q => by simp [Ne.symm hne])) hn0 (fun _ => h2)
   ·split at h
    ·rename_i e'; simp [e']
    ·split at h
     ·rename_i e'; simp [e']
     ·cases h
   ·simp at h; exact h
  ·rename_i sz2 cs hlk
   replace ⟨hE, hx⟩ := condR hx
   have hE := Nat.eq_of_beq_eq_true hE
   subst hE
   replace ⟨pk, t1, t2', hpk, hx, _⟩ := exec_bind hx
   split at hx
   ·rename_i m ids
    replace ⟨hnd, hx⟩ := condR hx
    obtain ⟨rfl, _⟩ := exec_ok hx
    rw [nodupN_iff] at hnd
    simp only [List.nodup_cons, List.mem_cons, not_or] at hnd
    have h2 := hv _ List.mem_cons_self
    obtain ⟨hlen, mp, hmp, hnew⟩ := new_els_packed (P := P) (old := old) (idb := idb) (l := l) hrs' h1 hsz (hrs' id2 _ hlk) hpk hnd.2.2
    have hmid : mp id = none := by
     cases h : mp id with
     | none => rfl
     | some p => exact absurd ((hmp id).1 (by rw [h]; simp)) hnd.1.2
    obtain ⟨A, c, h3, h4⟩ := old_sl (old := old) (mm := m) (idb := idb) (R := fun i q => if i = id then some q else (mp i).map (· ++ q)) hR (fun q => by simp)
    refine app_sl T hb hT hT2 hb0 hid (f := f) (l := l) (mm := m) (fun i q r h => ?_) (fun i S h => ?_) h3 h4 (hnew _ fun i pos q hp => ?_) hn0 (fun _ => h2)
    ·split at h
     ·rename_i e'; simp [e']
     ·have : i ∈ ids := (hmp i).1 (by intro h'; rw [h'] at h; cases h)
      simp [map_drops, this]
    ·simp only [List.cons_append, List.mem_cons, List.mem_append, Prod.mk.injEq, reduceCtorEq, and_false, false_or, List.not_mem_nil, or_false] at h
     rcases h with h | h
     ·have := (mem_drops h).2; cases this
     ·simpa using h
    ·rw [if_neg (fun e' => by rw [e', hmid] at hp; cases hp), hp]
     rfl
   ·exact exec_fail hx
  ·exact exec_fail hx
 ·exact exec_fail hx
theorem does_appendSlo {t0 t2 ty el : TypeId} {e : Ty} {by_ : Nat} (hT : slT tt t0 = some (e, el, by_)) (hT2 : isSlT tt t2 = true) (hb0 : 0 < by_) {idb : Id} (hid : ¬ old idb) (h1 : RhoOk G) (hrs : ∀ id R, lk id = some R → ResOk G w id R ∧ old id ∧ ∀ j ∈ R.ids, old j)
  {f : Fl} {l : List e.den} {j : Nat} {cs : List At} {id : Id} (hR : ResOk G w id (.slo e f l j cs)) {y : SV} {vy : Value} {ef : Eff} {t : List Id} (hx : (sAppendSlo by_ idb e f l j cs id y).exec lk = some (ef, t)) (hv : ∀ p ∈ ef.vc, p) (my : MtS G w y vy) :
  Does P old G w (do pure (.value (← Builtin.append_ #[t0, t2] ty #[G.ρ id, vy]))) ef := by
 have hrs' : ∀ id R, lk id = some R → ResOk G w id R := fun i R h => (hrs i R h).1
 have hsz : 0 < e.size := by have := (slT_spec T hT).2.1; omega
 have hn0 : l.length ≤ maxL := by obtain ⟨_, _, _, _, n, c, _, h2, h3, h4, _⟩ := hR; omega
 unfold sAppendSlo at hx
 split at hx
 ·rename_i id2
  replace ⟨t', hx, _⟩ := exec_need hx
  have hvy := my.own
  subst hvy
  split at hx
  ·rename_i sz2 css hlk
   replace ⟨hE, hx⟩ := condR hx
   have hE := Nat.eq_of_beq_eq_true hE
   subst hE
   replace ⟨pq, u1, u2, hpq, hx, _⟩ := exec_bind hx
   split at hx
   ·rename_i z ids1
    replace ⟨pk, t1, t2', hpk, hx, _⟩ := exec_bind hx
    split at hx
    ·rename_i m ids
     replace ⟨hnd, hx⟩ := condR hx
     obtain ⟨rfl, _⟩ := exec_ok hx
     rw [nodupN_iff] at hnd
     simp only [List.nodup_cons, List.mem_cons, List.mem_append, not_or, List.nodup_append] at hnd
     obtain ⟨⟨n1, n2, n3⟩, ⟨n4, n5⟩, n6, n7, n8⟩ := hnd
     have h2 := hv _ List.mem_cons_self
     obtain ⟨mp1, hmp1, hold⟩ := old_slo_packed (old := old) (idb := idb) (mm := m) hrs' hR hpq n6
     obtain ⟨hlen, mp, hmp, hnew⟩ := new_els_packed (P := P) (old := old) (idb := idb) (l := l.set j z) hrs' h1 hsz (hrs' id2 _ hlk) hpk n7
     have hm1 : ∀ i, mp1 i ≠ none → i ≠ id := fun i h e' => n2 (e' ▸ (hmp1 i).1 h)
     have hm2 : ∀ i, mp i ≠ none → i ≠ id ∧ mp1 i = none := fun i h => by
      refine ⟨fun e' => n3 (e' ▸ (hmp i).1 h), ?_⟩
      cases h' : mp1 i with
      | none => rfl
      | some p => exact absurd rfl (n8 i ((hmp1 i).1 (by rw [h']; simp)) i ((hmp i).1 h))
     let R : Rel := fun i q => if i = id then some q else match mp1 i with
      | some pos => some (j :: (pos ++ q))
      | none => (mp i).map (· ++ q)
     obtain ⟨A, c, h3, h4⟩ := hold R (fun i pos q hp => by simp only [R]; rw [if_neg (hm1 i (by rw [hp]; simp)), hp]) (fun q => by simp [R])
     refine app_sl T hb hT hT2 hb0 hid (f := f) (l := l.set j z) (mm := m) (fun i q r h => ?_) (fun i S h => ?_) h3 h4 (hnew R fun i pos q hp => ?_) (by simpa using hn0) (fun _ => by rw [List.length_set]; exact h2)
     ·simp only [R] at h
      split at h
      ·rename_i e'; simp [e']
      ·split at h
       ·rename_i p hp
        have : i ∈ ids1 := (hmp1 i).1 (by rw [hp]; simp)
        simp [map_drops, this]
       ·have : i ∈ ids := (hmp i).1 (by intro h'; rw [h'] at h; cases h)
        simp [map_drops, this]
     ·simp only [List.cons_append, List.mem_cons, List.mem_append, Prod.mk.injEq, reduceCtorEq, and_false, false_or, List.not_mem_nil, or_false] at h
      rcases h with (h | h) | h
      ·have := (mem_drops h).2; cases this
      ·have := (mem_drops h).2; cases this
      ·simpa using h
     ·obtain ⟨k1, k2⟩ := hm2 i (by rw [hp]; simp)
      simp only [R]
      rw [if_neg k1, k2, hp]
      rfl
    ·exact exec_fail hx
   ·exact exec_fail hx
  ·exact exec_fail hx
 ·exact exec_fail hx
end
end Go.Sx

namespace Go.Sx
open Go Go.RowKit
section
variable {P : Program} {tt : TT} (T : TtOk P tt) {old : Id → Prop} {G : Gh} {w : World} {lk : Id → Option Res} (hb : ∀ b, G.g b ≠ .no → b < w.heap.size) (h1 : RhoOk G)
theorem flR_le_refl : ∀ (T : Ty) (F : Fl), flR Fo.le T F F = true := by
 intro T
 induction T with
 | sl e ih => intro F; simp only [flR, Bool.and_eq_true]; exact ⟨by cases F.hd <;> rfl, ih _⟩
 | pr a b iha ihb => intro F; simp only [flR, Bool.and_eq_true]; exact ⟨iha _, ihb _⟩
 | _ => intro F; rfl
theorem flR_le_self {T : Ty} {F : Fl} (_h : T.noO F = true) : flR Fo.le T F F = true := flR_le_refl T F
def SideEls (G : Gh) (w : World) (old : Id → Prop) (sz : Nat) (l : List (List At)) (ids : List Id) (vx : Value) : Prop :=
 (ids = [] ∧ l = [] ∧ vx = .slice none 0 0) ∨ ∃ id, ids = [id] ∧ vx = G.ρ id ∧ ResOk G w id (.els sz l) ∧ ∀ (k : Nat) (a : List At), l[k]? = some a → ∀ j ∈ idsL a, old j
theorem SideEls.len {sz : Nat} {l : List (List At)} {ids : List Id} {vx : Value} (h : SideEls G w old sz l ids vx) : l.length ≤ maxL := by
 rcases h with ⟨_, rfl, _⟩ | ⟨id, _, _, h, _⟩
 ·exact Nat.zero_le _
 ·exact els_len h
theorem SideEls.ids {sz : Nat} {l : List (List At)} {ids : List Id} {vx : Value} (h : SideEls G w old sz l ids vx) : ∀ (k : Nat) (a : List At), l[k]? = some a → ∀ j ∈ idsL a, old j := by
 rcases h with ⟨_, rfl, _⟩ | ⟨id, _, _, _, h⟩
 ·intro k a hk; simp at hk
 ·exact h
theorem SideEls.els {R : Rel} {idb : Id} {sz : Nat} {l mm : List (List At)} {ids : List Id} {vx : Value} (h : SideEls G w old sz l ids vx) (hR : ∀ id ∈ ids, R id [] = some []) :
  ∃ A c, vx = .slice A l.length c ∧ OldOk old G w R idb sz (PEls (l ++ mm)) A l.length c := by
 rcases h with ⟨rfl, rfl, rfl⟩ | ⟨id, rfl, rfl, h, ho⟩
 ·exact ⟨none, 0, rfl, .nil⟩
 ·exact old_els h ho (hR id (by simp))
theorem SideEls.packed (hrs : ∀ id R, lk id = some R → ResOk G w id R) {e : Ty} {f : Fl} {idb : Id} {l : List (List At)} {ids ids' : List Id} {vx : Value} (h : SideEls G w old e.size l ids vx) {ys mm : List e.den} {t : List Id}
  (hx : (packEach (pack e f) l).exec lk = some ((ys, ids', []), t)) (hn : ids'.Nodup) :
  ys.length = l.length ∧ ∃ mp : Id → Option (List Nat), (∀ i, mp i ≠ none ↔ i ∈ ids') ∧ ∀ R : Rel, (∀ i pos q, mp i = some pos → R i q = some (pos ++ q)) → (∀ id ∈ ids, R id [] = some []) →
   ∃ A c, vx = .slice A ys.length c ∧ OldOk old G w R idb e.size (PTr e f idb (ys ++ mm)) A ys.length c := by
 rcases h with ⟨rfl, rfl, rfl⟩ | ⟨id, rfl, rfl, h, ho⟩
 ·obtain ⟨hp, _⟩ := exec_ok hx
  cases hp
  exact ⟨rfl, fun _ => none, by simp, fun R _ _ => ⟨none, 0, rfl, .nil⟩⟩
 ·obtain ⟨h2, mp, h3, h4⟩ := old_els_packed (old := old) (idb := idb) (mm := mm) hrs h hx hn
  exact ⟨h2, mp, h3, fun R hR hid => h4 R hR (hid id (by simp))⟩
include T hb in
theorem does_appendEls {t0 t2 ty el : TypeId} {e0 : Ty} {by_ : Nat} (hT : slT tt t0 = some (e0, el, by_)) (hT2 : isSlT tt t2 = true) (hb0 : 0 < by_) {idb : Id} (hid : ¬ old idb) (h1 : RhoOk G) (hrs : ∀ id R, lk id = some R → ResOk G w id R ∧ old id ∧ ∀ j ∈ R.ids, old j)
  {l : List (List At)} {ids : List Id} {vx : Value} (hS : SideEls G w old e0.size l ids vx) {y : SV} {vy : Value} {ef : Eff} {t : List Id} (hx : (sAppendEls by_ e0 idb l ids y).exec lk = some (ef, t)) (hv : ∀ p ∈ ef.vc, p) (my : MtS G w y vy) :
  Does P old G w (do pure (.value (← Builtin.append_ #[t0, t2] ty #[vx, vy]))) ef := by
 have hrs' : ∀ id R, lk id = some R → ResOk G w id R := fun i R h => (hrs i R h).1
 have hsz : 0 < e0.size := by have := (slT_spec T hT).2.1; omega
 have hn0 := hS.len
 unfold sAppendEls at hx
 split at hx
 ·
  obtain ⟨rfl, _⟩ := exec_ok hx
  have hvy : vy = .slice none 0 0 := by simpa using (show [vy] = [Value.slice none 0 0] from my.at1.2)
  obtain ⟨A, c, h2, h3⟩ := hS.els (mm := []) (idb := idb) (R := fun i q => if i ∈ ids ∧ q = [] then some [] else none) (fun id h => by simp [h])
  refine app_els T hb hT hT2 hb0 hid (l := l) (mm := []) (fun i q r h => ?_) (fun i S h => ?_) h2 (by rw [List.append_nil]; exact hS.ids) h3 (by rw [hvy]; exact .nil) hn0 (fun h => by simp at h)
  ·split at h
   ·rename_i e'; simp [map_drops, e'.1]
   ·cases h
  ·rw [List.mem_append] at h
   rcases h with h | h
   ·have := (mem_drops h).2; cases this
   ·simpa using h
 ·
  rename_i T' F m
  split at hx
  ·rename_i e' m
   replace ⟨hE, hx⟩ := condR hx
   simp only [Bool.and_eq_true] at hE
   have hE1 := Ty.eq_of_beq hE.1
   subst hE1
   replace ⟨pk, t1, t2', hpk, hx, _⟩ := exec_bind hx
   split at hx
   ·rename_i l' ids'
    replace ⟨hnd, hx⟩ := condR hx
    obtain ⟨rfl, _⟩ := exec_ok hx
    rw [nodupN_iff, List.nodup_append] at hnd
    obtain ⟨hO, A2, n2, c2, rfl, htr⟩ := my.slice
    obtain ⟨hn2, _, _⟩ := htr.sl_len
    subst hn2
    simp only [Ty.noO, Bool.and_eq_true] at hO
    have h2 := hv _ List.mem_cons_self
    obtain ⟨hlen, mp, hmp, hold⟩ := hS.packed hrs' (idb := idb) (mm := m) hpk hnd.2.1
    have hdis : ∀ id ∈ ids, mp id = none := fun id hi => by
     cases h : mp id with
     | none => rfl
     | some p => exact absurd rfl (hnd.2.2 id hi id ((hmp id).1 (by rw [h]; simp)))
    obtain ⟨A, c, h3, h4⟩ := hold (fun i q => if i ∈ ids then (match q with | [] => some [] | _ => none) else (mp i).map (· ++ q)) (fun i pos q hp => by
     rw [if_neg (fun hi => by rw [hdis i hi] at hp; cases hp), hp]
     rfl) (fun id h => by simp [h])
    refine app_sl T hb hT hT2 hb0 hid (f := F.el) (l := l') (mm := m) (fun i q r h => ?_) (fun i S h => ?_) h3 h4 (new_d hsz htr hO.2 (flR_le_self hO.2)) (by rw [hlen]; exact hn0) (fun _ => h2)
    ·split at h
     ·rename_i e'; simp [map_drops, e']
     ·have : i ∈ ids' := (hmp i).1 (by intro h'; rw [h'] at h; cases h)
      simp [map_drops, this]
    ·rw [List.mem_append, List.mem_append] at h
     rcases h with (h | h) | h
     ·have := (mem_drops h).2; cases this
     ·have := (mem_drops h).2; cases this
     ·simpa using h
   ·exact exec_fail hx
  ·exact exec_fail hx
 ·
  rename_i id2
  replace ⟨t', hx, _⟩ := exec_need hx
  have hvy := my.own
  subst hvy
  split at hx
  ·rename_i e' f' m hlk
   replace ⟨hE, hx⟩ := condR hx
   have hE1 := Ty.eq_of_beq hE
   subst hE1
   replace ⟨pk, t1, t2', hpk, hx, _⟩ := exec_bind hx
   split at hx
   ·rename_i l' ids'
    replace ⟨hnd, hx⟩ := condR hx
    obtain ⟨rfl, _⟩ := exec_ok hx
    rw [nodupN_iff, List.cons_append, List.nodup_cons, List.nodup_append] at hnd
    have h2 := hv _ List.mem_cons_self
    obtain ⟨hlen, mp, hmp, hold⟩ := hS.packed hrs' (idb := idb) (mm := m) hpk hnd.2.2.1
    have hdis : ∀ id ∈ ids, mp id = none := fun id hi => by
     cases h : mp id with
     | none => rfl
     | some p => exact absurd rfl (hnd.2.2.2 id hi id ((hmp id).1 (by rw [h]; simp)))
    have h2n : mp id2 = none := by
     cases h : mp id2 with
     | none => rfl
     | some p => exact absurd (List.mem_append_right _ ((hmp id2).1 (by rw [h]; simp))) hnd.1
    have h2i : id2 ∉ ids := fun h => hnd.1 (List.mem_append_left _ h)
    obtain ⟨A, c, h3, h4⟩ := hold (fun i q => if i ∈ ids then (match q with | [] => some [] | _ => none) else if i = id2 then (match q with | [] => none | k :: q' => some ((l'.length + k) :: q')) else (mp i).map (· ++ q)) (fun i pos q hp => by
     rw [if_neg (fun hi => by rw [hdis i hi] at hp; cases hp), if_neg (fun hi => by rw [hi, h2n] at hp; cases hp), hp]
     rfl) (fun id h => by simp [h])
    refine app_sl T hb hT hT2 hb0 hid (f := f') (l := l') (mm := m) (fun i q r h => ?_) (fun i S h => ?_) h3 h4 (new_sl hsz (hrs' id2 _ hlk) (flR_le_refl _ _) (fun k q => by simp [h2i])) (by rw [hlen]; exact hn0) (fun _ => h2)
    ·split at h
     ·rename_i e'; simp [map_drops, e']
     ·split at h
      ·rename_i e'; simp [e']
      ·have : i ∈ ids' := (hmp i).1 (by intro h'; rw [h'] at h; cases h)
       simp [map_drops, this]
    ·simp only [List.mem_append, List.mem_cons, Prod.mk.injEq, reduceCtorEq, and_false, false_or, List.not_mem_nil, or_false] at h
     rcases h with (h | h) | h
     ·have := (mem_drops h).2; cases this
     ·have := (mem_drops h).2; cases this
     ·simpa using h
   ·exact exec_fail hx
  ·rename_i sz2 cs hlk
   replace ⟨hE, hx⟩ := condR hx
   simp only [Bool.and_eq_true] at hE
   have hE2 := Nat.eq_of_beq_eq_true hE.2
   subst hE2
   obtain ⟨rfl, _⟩ := exec_ok hx
   have hnd := hE.1
   rw [nodupN_iff, List.nodup_cons] at hnd
   have h2 := hv _ List.mem_cons_self
   obtain ⟨A, c, h3, h4⟩ := hS.els (mm := cs) (idb := idb) (R := fun i q => if i ∈ ids ∧ q = [] then some [] else none) (fun id h => by simp [h])
   have hcs := idsLL_get (old := old) (l := cs) (hrs id2 _ hlk).2.2
   refine app_els T hb hT hT2 hb0 hid (l := l) (mm := cs) (fun i q r h => ?_) (fun i S h => ?_) h3 (fun k a hk => ?_) h4 (new_els h1 hsz (hrs' id2 _ hlk) hcs) hn0 (fun _ => h2)
   ·split at h
    ·rename_i e'; simp [map_drops, e'.1]
    ·cases h
   ·simp only [List.mem_append, List.mem_cons, Prod.mk.injEq, reduceCtorEq, and_false, false_or, List.not_mem_nil, or_false] at h
    rcases h with h | h
    ·have := (mem_drops h).2; cases this
    ·simpa using h
   ·by_cases hkl : k < l.length
    ·rw [List.getElem?_append_left hkl] at hk
     exact hS.ids k a hk
    ·rw [List.getElem?_append_right (by omega)] at hk
     exact hcs _ a hk
  ·exact exec_fail hx
 ·exact exec_fail hx
include T hb in
theorem does_appendSub {t0 t2 ty el : TypeId} {e : Ty} {by_ : Nat} (hT : slT tt t0 = some (e, el, by_)) (hT2 : isSlT tt t2 = true) (hb0 : 0 < by_) {idb : Id} (hid : ¬ old idb) {f : Fl} {l : List e.den} {id : Id} (hR : ResOk G w id (.sl e f l)) (hold : old id)
  {hi lo2 hi2 : Nat} (h1 : hi ≤ lo2) {vx vy : Value} (mx : MtA G w (.sub id 0 hi e.size true) [vx]) (my : MtA G w (.sub id lo2 hi2 e.size true) [vy]) {vc : List Prop} :
  Does P old G w (do pure (.value (← Builtin.append_ #[t0, t2] ty #[vx, vy]))) ⟨atom (.own idb), [(id, none), (idb, some (.sl e f (l.take hi ++ (l.take hi2).drop lo2))), (idb.plus 1, some (.room idb l.length))], vc⟩ := by
 have hsz : 0 < e.size := by have := (slT_spec T hT).2.1; omega
 obtain ⟨A, c, hρ, hlc, hlm, hblk⟩ := hR.sl_at
 obtain ⟨A1, n1, c1, hρ1, _, hhc, hhn, hvx⟩ := mx
 obtain ⟨A2, n2, c2, hρ2, hlh2, hhc2, hhn2, hvy⟩ := my
 rw [hρ] at hρ1 hρ2
 cases hρ1
 cases hρ2
 have hhn := hhn rfl
 have hhn2 := hhn2 rfl
 have hvx' : vx = .slice A hi c := by
  simp only [List.cons.injEq, and_true] at hvx
  rw [hvx]
  cases A with
  | none => simp
  | some a => simp [Addr.add]
 let R : Rel := fun i q => if i = id then (match q with | [] => some [] | k :: r => if k < hi then some (k :: r) else if lo2 ≤ k then some ((k - lo2 + hi) :: r) else none) else none
 have hRid : ∀ i q r, R i q = some r → i = id := fun i q r h => by
  simp only [R] at h
  split at h
  ·assumption
  ·cases h
 have hmm : ((l.take hi2).drop lo2).length = hi2 - lo2 := by rw [List.length_drop, List.length_take]; omega
 have hll : (l.take hi).length = hi := by rw [List.length_take]; omega
 have hA : (A = none ∧ c = 0) ∨ ∃ b o C t', A = some ⟨b, o, none⟩ ∧ w.heap[b]? = some (.cells C t' (0, 0)) ∧ o + c * e.size ≤ C.size ∧ (∃ i0 q0, G.g b = .own i0 q0 ∧ R i0 q0 = some []) ∧
   ∀ G', Turns old G G' w R idb → ∀ k, k < hi → PTr e f idb (l.take hi ++ (l.take hi2).drop lo2) G' w k (cellsAt C (o + k * e.size) e.size) := by
  rcases hblk with h | ⟨b, off, C, t, h4, h5, h6, h7, h8⟩
  ·exact .inl h
  ·refine .inr ⟨b, off, C, t, h4, h6, h7, ⟨id, [], h5, by simp [R]⟩, fun G' hTn k hk y hy => ?_⟩
   rw [List.getElem?_append_left (by omega), List.getElem?_take_of_lt hk] at hy
   exact Tr.mono hTn.pb (fun b' q hq => ⟨hTn.own b' id _ _ hq (by simp [R, hk]), rfl⟩) (h8 k y hy)
 have hN : NewOk P old G w R idb e.size (PTr e f idb (l.take hi ++ (l.take hi2).drop lo2)) hi vy (hi2 - lo2) := by
  simp only [List.cons.injEq, and_true] at hvy
  rw [hvy]
  rcases hblk with ⟨rfl, rfl⟩ | ⟨b, off, C, t, rfl, h5, h6, h7, h8⟩
  ·have : hi2 - lo2 = 0 := by omega
   rw [this]
   simp only [Option.map_none, ite_self]
   exact .nil
  ·have key : ∀ o', (hi2 - lo2 = 0 ∧ o' = off ∨ o' = off + lo2 * e.size) → NewOk P old G w R idb e.size (PTr e f idb (l.take hi ++ (l.take hi2).drop lo2)) hi (.slice (some ⟨b, o', none⟩) (hi2 - lo2) (c - lo2)) (hi2 - lo2) := by
    intro o' ho'
    have hle : hi2 * e.size ≤ c * e.size := Nat.mul_le_mul_right _ hhc2
    have hspl : lo2 * e.size + (hi2 - lo2) * e.size = hi2 * e.size := by rw [← Nat.add_mul, Nat.add_sub_cancel' hlh2]
    refine .block hsz h6 ?_ (fun k hk v hv => ?_) fun G' hTn k hk y hy => ?_
    ·rcases ho' with ⟨h0, rfl⟩ | rfl
     ·rw [h0, Nat.zero_mul]; omega
     ·omega
    ·rcases ho' with ⟨h0, rfl⟩ | rfl
     ·omega
     ·have hlt : lo2 + k < l.length := by omega
      have h9 := h8 (lo2 + k) _ (List.getElem?_eq_getElem hlt)
      rw [Nat.add_mul, ← Nat.add_assoc] at h9
      exact h9.one v hv
    ·rcases ho' with ⟨h0, rfl⟩ | rfl
     ·omega
     ·rw [List.getElem?_append_right (by omega), hll, show hi + k - hi = k by omega, List.getElem?_drop, List.getElem?_take_of_lt (by omega)] at hy
      have h9 := h8 (lo2 + k) y hy
      rw [Nat.add_mul, ← Nat.add_assoc] at h9
      refine Tr.mono hTn.pb (fun b' q hq => ⟨hTn.own b' id _ _ hq ?_, rfl⟩) h9
      have a1 : ¬ lo2 + k < hi := fun h => absurd (Nat.le_trans h1 (Nat.le_add_right lo2 k)) (Nat.not_le_of_gt h)
      have a2 : lo2 + k - lo2 + hi = hi + k := by rw [Nat.add_sub_cancel_left, Nat.add_comm]
      simp only [R, if_true, List.nil_append, List.singleton_append, List.cons_append, a1, if_false, Nat.le_add_right, a2]
   by_cases hcl : c = lo2
   ·rw [if_pos hcl]
    exact key off (.inl ⟨by omega, rfl⟩)
   ·rw [if_neg hcl]
    simp only [Option.map_some, addr_add]
    exact key _ (.inr rfl)
 obtain ⟨A2, c2, news, rfl, hf, hl, h1', hnew⟩ := hN
 obtain ⟨A', c', w', G', hrun, hch, hρ', hc', hm, hcc, hfin⟩ := app_core (ty := ty) (chg := fun i => i ∈ ([(id, none), (idb, some (.sl e f (l.take hi ++ (l.take hi2).drop lo2))), (idb.plus 1, some (.room idb l.length))] : List (Id × Option Res)).map (·.1)) T hb hT hT2 hb0 hid
  (fun i q r h => by rw [hRid i q r h]; simp) PTr.stab (by omega : hi ≤ c) hA hf hl h1' hnew (by omega) (fun _ => .inr ⟨by omega, by omega⟩)
 subst hvx'
 refine ⟨_, .slice A' (hi + (hi2 - lo2)) c', w', G', by rw [Sem.run_bind, hrun]; rfl, .inl rfl, hch, .of1 rfl (by simp [MtA, hρ']), fun i S hi' => ?_⟩
 simp only [List.mem_cons, Prod.mk.injEq, reduceCtorEq, and_false, false_or, Option.some.injEq, List.not_mem_nil, or_false] at hi'
 rcases hi' with ⟨rfl, rfl⟩ | ⟨rfl, rfl⟩
 ·refine ⟨A', hi + (hi2 - lo2), c', by rw [hρ'], by rw [List.length_append, hll, hmm], hc', hm, (fun h => by cases h), ?_⟩
  rcases hfin with h | ⟨b, o, C, t, h3, h4, h5, h6, h7⟩
  ·exact .inl ⟨fun _ => h.1, h.2⟩
  ·refine .inr ⟨b, o, C, t, (0, 0), h3, h4, h5, ?_, fun _ => ⟨rfl, h6⟩, fun j x hx => ?_⟩
   ·have : (hi + (hi2 - lo2)) * e.size ≤ c' * e.size := Nat.mul_le_mul_right _ hc'
    omega
   ·exact h7 j (by have := (List.getElem?_eq_some_iff.1 hx).1; rw [List.length_append, hll, hmm] at this; exact this) x hx
 ·exact ⟨A', _, c', hρ', by rw [hcc (by omega)]; exact hlc⟩
include T hb in
theorem does_clear {t0 ty : TypeId} {x : SV} {v : Value} {e : Eff} {t : List Id} (hrs : ∀ id R, lk id = some R → ResOk G w id R) (hx : (sClear tt t0 x).exec lk = some (e, t)) (hv : ∀ p ∈ e.vc, p) (m : MtS G w x v) :
  Does P old G w (do pure (.value (← Builtin.clear_ #[t0] ty #[v]))) e := by
 unfold sClear at hx
 split at hx
 ·exact exec_fail hx
 rename_i e0 el by_ hT
 obtain ⟨hu, hsz, te, hte, hTe, _⟩ := slT_spec T hT
 split at hx
 ·rename_i id lo hi sz inn
  replace ⟨t', hx, _⟩ := exec_need hx
  split at hx
  ·rename_i e' f l hlk
   replace ⟨hE, hx⟩ := condR hx
   simp only [Bool.and_eq_true] at hE
   have hE1 := Ty.eq_of_beq hE.1
   have hE2 := Nat.eq_of_beq_eq_true hE.2
   subst hE1
   subst hE2
   obtain ⟨rfl, _⟩ := exec_ok hx
   have hlo : l.length ≤ lo := hv _ List.mem_cons_self
   have hR := hrs id _ hlk
   obtain ⟨A, c, hρ, hlc, hlm, hblk⟩ := hR.sl_at
   obtain ⟨A1, n1, c1, hρ1, hlh, hhc, _, hvx⟩ := m.at1.2
   rw [hρ] at hρ1
   cases hρ1
   simp only [List.cons.injEq, and_true] at hvx
   subst hvx
   have same : (Builtin.clear_ #[t0] ty #[.slice (if c = lo then A else A.map (·.add (lo * e'.size))) (hi - lo) (c - lo)]).run P w = .ok (.tuple #[]) w →
     Does P old G w (do pure (.value (← Builtin.clear_ #[t0] ty #[.slice (if c = lo then A else A.map (·.add (lo * e'.size))) (hi - lo) (c - lo)]))) ⟨.junk, [(id, some (.sl e' f l))], [l.length ≤ lo]⟩ := fun hrun =>
    ⟨_, .tuple #[], w, G, by rw [Sem.run_bind, hrun]; rfl, .inl rfl, .refl hb, trivial, fun i S hi' => by
     simp only [List.mem_singleton, Prod.mk.injEq, Option.some.injEq] at hi'
     obtain ⟨rfl, rfl⟩ := hi'
     exact hR⟩
   rcases hblk with ⟨rfl, rfl⟩ | ⟨b, off, C, tb, rfl, h5, h6, h7, h8⟩
   ·refine same ?_
    simp [Builtin.clear_, run_underlying hu]
   ·by_cases h0 : hi - lo = 0
    ·refine same ?_
     rw [h0]
     split <;> simp [Builtin.clear_, run_underlying hu]
    ·have hcl : ¬ c = lo := by omega
     rw [if_neg hcl]
     simp only [Option.map_some, addr_add]
     have hz := run_zero_at T hte w
     have hcells := mkV_cells T hte
     have htz : Tr G w te.T pF default [] (zeroCells te.T) te.T.dflt := Tr.zero te.T (noO_p _)
     have hzl := htz.len
     have hone := htz.one
     subst hTe
     let zs := (Builtin.zeroCells (mkV te.ag (zeroCells te.T)).cells (hi - lo)).toList
     have hzsl : zs.length = (hi - lo) * te.T.size := by
      simp only [zs]
      rw [hcells]
      simp [Builtin.zeroCells, hzl]
     have hzs1 : ∀ v ∈ zs, v.oneCell' = true := by
      intro v hv
      simp only [zs] at hv
      rw [hcells] at hv
      simp only [Builtin.zeroCells, Array.toList_map, List.mem_map] at hv
      obtain ⟨k, _, rfl⟩ := hv
      have hlt : k % (zeroCells te.T).toArray.size < (zeroCells te.T).toArray.size := Nat.mod_lt _ (by simp only [List.size_toArray]; omega)
      rw [getElem!_pos (zeroCells te.T).toArray (k % (zeroCells te.T).toArray.size) hlt]
      exact hone _ (by simp)
     have hle1 : hi * te.T.size ≤ c * te.T.size := Nat.mul_le_mul_right _ hhc
     have hspl : lo * te.T.size + (hi - lo) * te.T.size = hi * te.T.size := by rw [← Nat.add_mul, Nat.add_sub_cancel' hlh]
     have hst := run_storeCells_at P b (off + lo * te.T.size) tb zs 0 C w h6 (by rw [hzsl]; omega) hzs1
     simp only [Nat.add_zero] at hst
     have hrun : (Builtin.clear_ #[t0] ty #[.slice (some ⟨b, off + lo * te.T.size, none⟩) (hi - lo) (c - lo)]).run P w = .ok (.tuple #[]) (w.setRow b (over C (off + lo * te.T.size) zs)) := by
      have hn0 : ∃ k, hi - lo = k + 1 := ⟨hi - lo - 1, by omega⟩
      obtain ⟨k, hk⟩ := hn0
      have hst' := hst
      simp only [zs, hk] at hst' ⊢
      unfold Builtin.clear_
      simp [run_underlying hu, hz, hst', over]
     have hcc : ∀ {old : Id → Prop}, Chg old (fun j => j = id) G G w (w.setRow b (over C (off + lo * te.T.size) zs)) := .setRow (chg := fun j => j = id) hb h5 rfl _
     refine ⟨_, .tuple #[], _, G, by rw [Sem.run_bind, hrun]; rfl, .inl rfl, hcc.le (fun j hj => by simp [hj]), trivial, fun i S hi' => ?_⟩
     simp only [List.mem_singleton, Prod.mk.injEq, Option.some.injEq] at hi'
     obtain ⟨rfl, rfl⟩ := hi'
     have hosz := over_size (C := C) (o := off + lo * te.T.size) (vs := zs) (by rw [hzsl]; omega)
     have hle2 : l.length * te.T.size ≤ lo * te.T.size := Nat.mul_le_mul_right _ hlo
     have hle3 : l.length * te.T.size ≤ c * te.T.size := Nat.mul_le_mul_right _ hlc
     refine ⟨some ⟨b, off, none⟩, l.length, c, by rw [hρ], rfl, hlc, hlm, (fun h => by cases h), .inr ⟨b, off, _, tb, (0, 0), rfl, h5, setRow_heap w b _ _ tb _ h6, by rw [hosz]; omega, fun _ => ⟨rfl, by rw [hosz]; exact h7⟩, fun k y hy => ?_⟩⟩
     have hkl : k < l.length := (List.getElem?_eq_some_iff.1 hy).1
     have hle4 : (k + 1) * te.T.size ≤ l.length * te.T.size := Nat.mul_le_mul_right _ hkl
     rw [Nat.succ_mul] at hle4
     have h9 := h8 k y hy
     rw [cellsAt_over_out (by rw [hzsl]; omega) (.inl (by omega))]
     refine Tr.mono (hcc (old := old)).pb (fun b' q hq => ⟨hq, setRow_other w b b' _ (fun e' => ?_)⟩) h9
     rw [e', h5] at hq
     cases hq
  ·exact exec_fail hx
 ·exact exec_fail hx
include T hb in
theorem does_append {t0 t2 ty : TypeId} {idb : Id} (hid : ¬ old idb) (h1 : RhoOk G) (hrs : ∀ id R, lk id = some R → ResOk G w id R ∧ old id ∧ ∀ j ∈ R.ids, old j) {x y : SV} {vx vy : Value} {ef : Eff} {t : List Id}
  (hx : (sAppend tt t0 t2 idb x y).exec lk = some (ef, t)) (hv : ∀ p ∈ ef.vc, p) (mx : MtS G w x vx) (my : MtS G w y vy) :
  Does P old G w (do pure (.value (← Builtin.append_ #[t0, t2] ty #[vx, vy]))) ef := by
 unfold sAppend at hx
 split at hx
 ·exact exec_fail hx
 rename_i e0 el by_ hT
 cases hc : (isSlT tt t2 && Nat.blt 0 by_) with
 | false => rw [hc] at hx; exact exec_fail hx
 | true =>
 rw [hc] at hx
 simp only [Bool.and_eq_true, Nat.blt_eq] at hc
 simp only [Bool.not_true, cond_false] at hx
 split at hx
 ·have hvx : vx = .slice none 0 0 := by simpa using (show [vx] = [Value.slice none 0 0] from mx.at1.2)
  exact does_appendEls T hb hT hc.1 hc.2 hid h1 hrs (.inl ⟨rfl, rfl, hvx⟩) hx hv my
 ·rename_i id
  replace ⟨t', hx, _⟩ := exec_need hx
  have hvx := mx.own
  subst hvx
  split at hx
  ·rename_i e f l hlk
   replace ⟨hE, hx⟩ := condR hx
   have hE := Ty.eq_of_beq hE
   subst hE
   exact does_appendTo T hb hT hc.1 hc.2 hid h1 hrs (hrs id _ hlk).1 hx hv my
  ·rename_i sz l hlk
   replace ⟨hE, hx⟩ := condR hx
   have hE := Nat.eq_of_beq_eq_true hE
   subst hE
   exact does_appendEls T hb hT hc.1 hc.2 hid h1 hrs (.inr ⟨id, rfl, rfl, (hrs id _ hlk).1, idsLL_get (hrs id _ hlk).2.2⟩) hx hv my
  ·rename_i e f l j cs hlk
   replace ⟨hE, hx⟩ := condR hx
   have hE := Ty.eq_of_beq hE
   subst hE
   exact does_appendSlo T hb hT hc.1 hc.2 hid h1 hrs (hrs id _ hlk).1 hx hv my
  ·exact exec_fail hx
 ·rename_i id lo hi sz inn
  split at hx
  ·rename_i id2 lo2 hi2 sz2 inn2
   replace ⟨hE, hx⟩ := condR hx
   simp only [Bool.and_eq_true] at hE
   obtain ⟨g1, g2, g3, g4⟩ := hE
   have g1 := Id.eq_of_beq g1
   have g2 := Nat.eq_of_beq_eq_true g2
   subst g1
   subst g2
   subst g3
   subst g4
   replace ⟨t', hx, _⟩ := exec_need hx
   split at hx
   ·rename_i e f l hlk
    replace ⟨hE, hx⟩ := condR hx
    simp only [Bool.and_eq_true] at hE
    have k1 := Ty.eq_of_beq hE.1
    have k2 := Nat.eq_of_beq_eq_true hE.2.1
    have k3 := Nat.eq_of_beq_eq_true hE.2.2
    subst k1
    subst k2
    subst k3
    obtain ⟨rfl, _⟩ := exec_ok hx
    have h9 := hv _ List.mem_cons_self
    exact does_appendSub T hb hT hc.1 hc.2 hid (hrs id _ hlk).1 (hrs id _ hlk).2.1 h9 mx.at1.2 my.at1.2
   ·exact exec_fail hx
  ·exact exec_fail hx
 ·exact exec_fail hx
end
end Go.Sx

namespace Go.Sx
open Go Go.RowKit
section
variable {P : Program} {tt : TT} (T : TtOk P tt) {old : Id → Prop} {G : Gh} {w : World} {lk : Id → Option Res} (hb : ∀ b, G.g b ≠ .no → b < w.heap.size) (h1 : RhoOk G)
theorem isBytesT_spec (T : TtOk P tt) {t : TypeId} (h : isBytesT tt t = true) : ∃ el, P.underlying t = some (.slice el) ∧ P.underlying el = some (.int .u8) ∧ ∃ by_, slT tt t = some (.int .u8, el, by_) := by
 unfold isBytesT at h
 split at h
 ·rename_i el by_ hT
  obtain ⟨hu, hsz, te, hte, hTe, _⟩ := slT_spec T hT
  obtain ⟨d, hd, hdi⟩ := und_at T hte
  refine ⟨el, hu, ?_, by_, hT⟩
  rw [hte] at h
  obtain ⟨te0, te1, te2, te3, te4, te5, te6⟩ := te
  simp only at hTe
  subst hTe
  cases te2 with
  | true => simp at h
  | false =>
   have hf := di_plain T hte rfl
   simp only at hf
   subst hf
   rw [hd]
   cases d <;> simp [dinfo, TE.di] at hdi
   rw [hdi]
 ·cases h
theorem Chg.fresh {chg : Id → Prop} (hb : ∀ b, G.g b ≠ .no → b < w.heap.size) {w' : World} (hh : ∀ b, b < w.heap.size → w'.heap[b]? = w.heap[b]?) (hs : w'.heap.size = w.heap.size + 1) (ho : w'.os = w.os) (ht : w'.tape = w.tape) (hout : w'.output = w.output) {lab : Lab} :
  Chg old chg G ⟨G.ρ, fun b => if b = w.heap.size then lab else G.g b⟩ w w' := by
 refine ⟨fun _ _ => rfl, ⟨fun b h => ?_, fun b h => ?_⟩, fun b id p h _ => ?_, fun b hlt h => ?_, fun b h => ?_, fun h1 => h1, ho, ht, hout, by omega, fun b hlt h => by simp only; rw [if_neg (by omega)]; exact h⟩
 ·have hn := hb b (by rw [h]; simp)
  exact ⟨by simp only; rw [if_neg (by omega)]; exact h, hh b hn⟩
 ·have hn := hb b (by rw [h]; simp)
  exact ⟨by simp only; rw [if_neg (by omega)]; exact h, hh b hn⟩
 ·have hn := hb b (by rw [h]; simp)
  exact ⟨by simp only; rw [if_neg (by omega)]; exact h, hh b hn⟩
 ·exact ⟨hh b hlt, by simp only; rw [if_neg (by omega), h]⟩
 ·simp only at h
  rw [hs]
  split at h
  ·omega
  ·have := hb b h; omega
theorem foldl_push (l : List Int) : ∀ (r : ByteArray), l.foldl (fun r n => r.push (UInt8.ofNat n.toNat)) r = ⟨r.data ++ (ofBytes l).toArray⟩ := by
 induction l with
 | nil => intro r; simp [ofBytes]
 | cons x xs ih =>
  intro r
  rw [List.foldl_cons, ih]
  simp [ofBytes, ByteArray.push]
theorem bytes_cells {F : Fl} {id : Id} {p : List Nat} {A : Option Addr} {n c : Nat} {l : List Int} (h : Tr G w (.sl (.int .u8)) F id p [.slice A n c] l) :
  n = l.length ∧ (Conv.bytesToString (.slice A n c)).run P w = .ok (.string (mkS (ofBytes l))) w ∧ (ofBytes l).length ≤ maxL := by
 obtain ⟨A', n', c', hcs, h2, h3, h4, _, h5⟩ := h
 simp only [List.cons.injEq, Value.slice.injEq, and_true] at hcs
 obtain ⟨rfl, rfl, rfl⟩ := hcs
 subst h2
 refine ⟨rfl, ?_, by simpa [ofBytes] using h4⟩
 rcases h5 with ⟨_, rfl⟩ | ⟨b, off, C, t, fz, rfl, h6, h7, h8, h9, h10⟩
 ·have : l = [] := List.eq_nil_of_length_eq_zero (by have := h3; omega)
  subst this
  cases A with
  | none => rfl
  | some a =>
   have hl : (loadCells a (([] : List Int).map (Value.int .u8)).length).run P w = .ok (([] : List Int).map (Value.int .u8)).toArray w := run_loadCells_list w a _ fun j v hv => by simp at hv
   simp only [List.length_nil]
   rw [run_bytesToString w a 0 0 [] hl]; rfl
 ·have hl : (loadCells ⟨b, off, none⟩ (l.map (Value.int .u8)).length).run P w = .ok (l.map (Value.int .u8)).toArray w := run_loadCells_list w ⟨b, off, none⟩ _ fun j v hv => by
   rw [List.getElem?_map, Option.map_eq_some_iff] at hv
   obtain ⟨x, hx, rfl⟩ := hv
   have := h10 j x hx
   have hc : (cellsAt C (off + j) 1)[0]? = some (.int .u8 x) := by
    have h11 : cellsAt C (off + j * 1) 1 = [.int .u8 x] := this.1
    rw [Nat.mul_one] at h11
    rw [h11]
    rfl
   rw [addr_add, cell_of_heap h7]
   simpa using cellsAt_get hc
  rw [List.length_map] at hl
  rw [show List.length l = l.length from rfl, run_bytesToString w ⟨b, off, none⟩ l.length c l hl, foldl_push]
  simp [mkS]
include T hb in
theorem does_convert {idb : Id} (hid : ¬ old idb) {src dst : TypeId} {x : SV} {v : Value} {e : Eff} {t : List Id} (hrs : ∀ id R, lk id = some R → ResOk G w id R) (hx : (sConvert tt idb src dst x).exec lk = some (e, t)) (hv : ∀ p ∈ e.vc, p) (m : MtS G w x v) :
  Does P old G w (do pure (.value (← convert src dst v))) e := by
 unfold sConvert at hx
 split at hx
 ·rename_i ts t1 T0 nf el by_ fts hts htd
  obtain ⟨ds, hds, _⟩ := und_at T hts
  obtain ⟨dd, hdd, hdi⟩ := und_at T htd
  have hf := di_plain T htd rfl
  simp only at hf
  subst hf
  split at hx
  ·
   rename_i k
   have hu : P.underlying dst = some (.int k) := by
    rw [hdd]
    cases dd <;> simp [dinfo, TE.di] at hdi
    rw [hdi]
   split at hx
   ·obtain ⟨rfl, _⟩ := exec_ok hx
    obtain ⟨rfl, hin⟩ := m.int
    have h2 : inR k _ := hv _ List.mem_cons_self
    refine .pure hb ?_ (.ofInt h2)
    unfold convert
    simp [run_underlying hds, run_underlying hu, Conv.intToInt, wrap_in h2]
   ·exact exec_fail hx
  ·
   have hu : P.underlying dst = some .string := by
    rw [hdd]
    cases dd <;> simp [dinfo, TE.di] at hdi
    rfl
   have hbs : ∀ {G' : Gh} {A : Option Addr} {n c : Nat} {F : Fl} {id : Id} {p : List Nat} {l : List Int}, isBytesT tt src = true → v = .slice A n c → Tr G' w (.sl (.int .u8)) F id p [.slice A n c] l →
     Does P old G w (do pure (.value (← convert src dst v))) ⟨sStr (ofBytes l), [], []⟩ := by
    rintro G' A n c F id p l hB rfl htr
    obtain ⟨_, hrun, hlen⟩ := bytes_cells (P := P) htr
    obtain ⟨el', h3, h4, _⟩ := isBytesT_spec T hB
    refine .pure hb ?_ (.ofStr hlen)
    unfold convert
    cases A with
    | none => simp [run_underlying h3, run_underlying hu, run_underlying h4, hrun]
    | some a => simp [run_underlying h3, run_underlying hu, run_underlying h4, hrun]
   split at hx
   ·split at hx
    ·obtain ⟨rfl, _⟩ := exec_ok hx
     obtain ⟨rfl, hlen⟩ := m.str
     refine .pure hb ?_ (.ofStr hlen)
     unfold convert
     simp [run_underlying hds, run_underlying hu]
    ·rename_i l
     replace ⟨hB, hx⟩ := condR hx
     obtain ⟨rfl, _⟩ := exec_ok hx
     obtain ⟨_, A, n, c, rfl, htr⟩ := m.slice
     exact hbs hB rfl htr
    ·exact exec_fail hx
   ·replace ⟨hB, hx⟩ := condR hx
    obtain ⟨rfl, _⟩ := exec_ok hx
    have hvx : v = .slice none 0 0 := by simpa using (show [v] = [Value.slice none 0 0] from m.at1.2)
    exact hbs (G' := G) (l := []) (F := pF) (id := default) (p := []) hB hvx ⟨none, 0, 0, rfl, rfl, Nat.le_refl _, Nat.zero_le _, fun _ => rfl, .inl ⟨fun _ => rfl, rfl⟩⟩
   ·rename_i id
    replace ⟨hB, hx⟩ := condR hx
    have hvx := m.own
    replace ⟨t0, hx, _⟩ := exec_need hx
    split at hx
    ·rename_i l hlk
     obtain ⟨rfl, _⟩ := exec_ok hx
     obtain ⟨b, C, tc, fz, c, h1, h2, h3, h4, h5, h6, h7, h8⟩ := hrs id _ hlk
     classical
     have htr : Tr ⟨G.ρ, fun b' => if b' = b then .per else G.g b'⟩ w (.sl (.int .u8)) pF default [] [.slice (some ⟨b, 0, none⟩) l.length c] l :=
      ⟨_, _, _, rfl, rfl, h2, h3, fun _ => rfl, .inr ⟨b, 0, C, tc, fz, rfl, by simp [labOk, pF, Fl.hd], h5, by simpa [Ty.size] using h7, (fun h => by cases h), fun j x hj => by
       obtain ⟨h9, h10⟩ := h8 j x hj
       refine ⟨?_, h10⟩
       have h11 : j < C.toList.length := by rw [Array.length_toList]; have := (List.getElem?_eq_some_iff.1 hj).1; exact Nat.lt_of_lt_of_le this h7
       unfold cellsAt
       rw [show 0 + j * (Ty.int .u8).size = j by simp [Ty.size], List.drop_eq_getElem_cons h11]
       have h12 : C.toList[j]? = some (.int .u8 x) := by rw [Array.getElem?_toList]; exact h9
       rw [List.getElem?_eq_getElem h11] at h12
       rw [Option.some.inj h12]
       rfl⟩⟩
     exact hbs hB (by rw [hvx, h1]) htr
    replace ⟨pk, t1, t2, hpk, hx, _⟩ := exec_bind hx
    split at hx
    ·rename_i l lent
     obtain ⟨rfl, _⟩ := exec_ok hx
     obtain ⟨c1, c2, hcs, hc1, hc2, hpacks⟩ := pack_sound hrs (.sl (.int .u8)) (.all .b) [.own id] [G.ρ id] _ _ _ _ _ ⟨[G.ρ id], [], rfl, rfl, rfl⟩ hpk
     rw [show c2 = [] from hc2, List.append_nil] at hcs
     obtain ⟨mm, hmm, htr⟩ := hpacks List.nodup_nil
     classical
     have h5 := htr ⟨G.ρ, fun b => match G.g b with | .own i q => if i ∈ lent then .bor else .own i q | l => l⟩ w default [] ⟨⟨fun b hb => ⟨by simp [hb], rfl⟩, fun b hb => ⟨by simp [hb], rfl⟩⟩, fun b i q pos _ hp => absurd ((hmm i).1 (by rw [hp]; simp)) (by simp), fun b i q hg hi => ⟨by simp [hg, hi], rfl⟩⟩
     rw [← hcs, ← hvx] at h5
     have h55 := h5
     obtain ⟨A, n, c, h6, _⟩ := h55
     simp only [List.cons.injEq, and_true] at h6
     rw [h6] at h5
     exact hbs hB h6 h5
    ·exact exec_fail hx
   ·exact exec_fail hx
  ·
   split at hx
   ·rename_i s
    replace ⟨hB, hx⟩ := condR hx
    obtain ⟨rfl, hlen⟩ := m.str
    obtain ⟨el', h3, h4, _⟩ := isBytesT_spec T hB
    have hge := grownCap_ge w s.length 0 el'
    let C : Array Value := (mkS s).data.map (fun b : UInt8 => Value.int .u8 (b.toNat : Int)) ++ Array.replicate (grownCap w s.length 0 el' - s.length) (.int .u8 0)
    have hsz : (mkS s).size = s.length := mkS_size s
    have hCs : C.size = grownCap w s.length 0 el' := by
     simp [C, mkS]
     omega
    have hrun : (convert src dst (.string (mkS s))).run P w = .ok (.slice (some ⟨w.heap.size, 0, none⟩) s.length (grownCap w s.length 0 el')) ((w.drew.alloc (.cells C el')).freeze ⟨w.heap.size, C.size, none⟩ 1) := by
     have hsh : ∀ C : Array Value, (w.drew.alloc (.cells C el')).shape? w.heap.size = some (el', C.size) := fun C => by
      have : (w.drew.alloc (.cells C el')).heap[w.heap.size]? = some (.cells C el') := heap_alloc_new' w.drew (.cells C el')
      unfold World.shape?
      rw [this]
     unfold convert Conv.stringToBytes markStringish
     simp [run_underlying hds, run_underlying h3, run_underlying h4, Question.forced, newRow, hsz, hsh]
     refine ⟨rfl, ?_⟩
     rw [show C.size = s.length + (grownCap w s.length 0 el' - s.length) by omega]
     rfl
    have hfz : ∀ b, b ≠ w.heap.size → ((w.drew.alloc (.cells C el')).freeze ⟨w.heap.size, C.size, none⟩ 1).heap[b]? = (w.drew.alloc (.cells C el')).heap[b]? := fun b hbn => by
     simp [World.freeze, Array.getElem?_modify, Ne.symm hbn]
    have hfs : ((w.drew.alloc (.cells C el')).freeze ⟨w.heap.size, C.size, none⟩ 1).heap[w.heap.size]? = some (.cells C el' (C.size, C.size + 1)) := by
     have : (w.drew.alloc (.cells C el')).heap[w.heap.size]? = some (.cells C el') := heap_alloc_new' w.drew (.cells C el')
     simp only [World.freeze, Nat.succ_ne_zero, if_false]
     rw [Array.getElem?_modify, if_pos rfl, this]
     rfl
    cases hO : dupT tt dst with
    | true =>
     rw [hO] at hx
     simp only [cond_true] at hx
     obtain ⟨rfl, _⟩ := exec_ok hx
     have hch : Chg old (fun _ => False) G ⟨fun i => if i = idb then .slice (some ⟨w.heap.size, 0, none⟩) s.length (grownCap w s.length 0 el') else G.ρ i, fun b => if b = w.heap.size then .own idb [] else G.g b⟩ w ((w.drew.alloc (.cells C el')).freeze ⟨w.heap.size, C.size, none⟩ 1) := by
      have h0 : Chg old (fun _ => False) G ⟨G.ρ, fun b => if b = w.heap.size then .own idb [] else G.g b⟩ w ((w.drew.alloc (.cells C el')).freeze ⟨w.heap.size, C.size, none⟩ 1) := by
       refine Chg.fresh hb (fun b hb' => ?_) ?_ ?_ ?_ ?_
       ·rw [hfz b (by omega)]
        exact heap_alloc_get w.drew _ hb'
       ·unfold World.freeze
        simp
       all_goals (unfold World.freeze; split <;> rfl)
      exact ⟨fun i hi => by show (if i = idb then _ else G.ρ i) = _; rw [if_neg (fun (e : i = idb) => hid (e ▸ hi))], ⟨h0.pb.per, h0.pb.bor⟩, h0.own, h0.no, h0.bnd, fun h1 i => by (show (if i = idb then _ else G.ρ i).oneCell' = true); split <;> first | rfl | exact h1 i, h0.os, h0.tape, h0.output, h0.size, h0.out⟩
     refine ⟨_, .slice (some ⟨w.heap.size, 0, none⟩) s.length (grownCap w s.length 0 el'), _, _, by rw [Sem.run_bind, hrun]; rfl, .inl rfl, hch.le (fun j hj => by cases hj), .of1 rfl (by simp [MtA]), fun j R' hj => ?_⟩
     simp only [List.mem_singleton, Prod.mk.injEq, Option.some.injEq] at hj
     obtain ⟨rfl, rfl⟩ := hj
     refine ⟨w.heap.size, C, el', (C.size, C.size + 1), grownCap w s.length 0 el', by simp [toBytes], by simp [toBytes]; omega, by simpa [toBytes] using hlen, by simp, hfs, by simp [toBytes]; omega, by simp [toBytes]; omega, fun k x hk => ?_⟩
     simp only [toBytes, List.getElem?_map, Option.map_eq_some_iff] at hk
     obtain ⟨c, hc, rfl⟩ := hk
     refine ⟨?_, u8_in c⟩
     have hjs : k < s.length := (List.getElem?_eq_some_iff.1 hc).1
     simp only [C]
     rw [Array.getElem?_append_left (by simpa [mkS] using hjs)]
     simp [mkS, hc]
    | false =>
     rw [hO] at hx
     simp only [cond_false] at hx
     obtain ⟨rfl, _⟩ := exec_ok hx
     refine ⟨_, .slice (some ⟨w.heap.size, 0, none⟩) s.length (grownCap w s.length 0 el'), _, ⟨G.ρ, fun b => if b = w.heap.size then .per else G.g b⟩, by rw [Sem.run_bind, hrun]; rfl, .inl rfl, ?_, ?_, fun _ _ h => by cases h⟩
     ·refine Chg.fresh hb (fun b hb' => ?_) ?_ ?_ ?_ ?_
      ·rw [hfz b (by omega)]
       exact heap_alloc_get w.drew _ hb'
      ·unfold World.freeze
       simp
      all_goals (unfold World.freeze; split <;> rfl)
     ·refine .ofSlice (e := .int .u8) (F := pF) (l := toBytes s) rfl ⟨_, _, _, rfl, by simp [toBytes], by omega, hlen, fun _ => rfl, .inr ⟨w.heap.size, 0, C, el', (C.size, C.size + 1), rfl, by simp [labOk, pF, Fl.hd], ?_, by rw [hCs]; simpa [Ty.size] using hge, (fun h => by cases h), fun j x hj => ?_⟩⟩
      ·exact hfs
      ·have hj' : (toBytes s)[j]? = some x := hj
       simp only [toBytes, List.getElem?_map, Option.map_eq_some_iff] at hj'
       obtain ⟨c, hc, rfl⟩ := hj'
       refine ⟨?_, u8_in c⟩
       have hjs : j < s.length := (List.getElem?_eq_some_iff.1 hc).1
       refine List.ext_getElem? fun i => ?_
       rw [cellsAt_get?]
       cases i with
       | zero =>
        simp only [Ty.size, Nat.zero_add, Nat.mul_one, Nat.add_zero, Nat.lt_one_iff, if_true, List.getElem?_cons_zero]
        simp only [C]
        rw [Array.getElem?_append_left (by simpa [mkS] using hjs)]
        simp [mkS, hc]
       | succ i => simp [Ty.size]
   ·exact exec_fail hx
  ·exact exec_fail hx
 ·exact exec_fail hx
end
end Go.Sx

namespace Go.Sx
open Go Go.RowKit Go.MapKept
def eqChk (P : Program) (t : TypeId) : Bool := !P.stoodInHeld t && (!P.eqGuardType P.depth t && (match P.underlying t with
 | some (.struct fs) => fs.toList.all fun f => f.name != "_"
 | _ => false))
def MtOk (P : Program) (mt : MT) : Prop := (∀ t k e, mtOf mt t = some (k, e) → P.underlying t = some (.map k e)) ∧ ∀ t, eqT mt t = true → eqChk P t = true
theorem MtV.cells' {G : Gh} {w : World} {ag : Bool} {l : List At} {v : Value} (h : MtV G w ag l v) : v = mkV ag v.cells.toList ∧ (ag = false → v.cells.toList.length = 1) ∧ MtL G w l v.cells.toList := by
 have hc := MtV.cells h
 cases ag with
 | true => obtain ⟨cs, rfl, _⟩ := h; exact ⟨by simp [mkV, Value.cells], by simp, hc⟩
 | false =>
  have hv : v.cells = #[v] := by cases v <;> first | rfl | (simp [MtV, Value.oneCell'] at h)
  exact ⟨by simp [mkV, hv], by simp [hv], hc⟩
theorem boolEq_eq {a b : Bool} (h : boolEq a b = true) : a = b := by cases a <;> cases b <;> simp [boolEq] at h <;> rfl
section
variable {P : Program} {tt : TT} {mt : MT} (T : TtOk P tt) (TM : MtOk P mt) {old : Id → Prop} {G : Gh} {w : World} {lk : Id → Option Res} (hb : ∀ b, G.g b ≠ .no → b < w.heap.size)
theorem key_und (T : TtOk P tt) {t t1 : TypeId} {K : Ty} {nf el by_ : Nat} {fts : List TypeId} (h : ttOf tt t = some ⟨t1, K, false, nf, el, by_, fts⟩) (hK : keyPlain K = true) :
  (K = .str ∧ P.underlying t = some .string) ∨ ∃ k, K = .int k ∧ P.underlying t = some (.int k) := by
 obtain ⟨d, hd, hdi⟩ := und_at T h
 have hf := di_plain T h rfl
 simp only at hf
 subst hf
 cases K with
 | str => exact .inl ⟨rfl, by rw [hd]; cases d <;> simp [dinfo, TE.di] at hdi; rfl⟩
 | int k => exact .inr ⟨k, rfl, by rw [hd]; cases d <;> simp [dinfo, TE.di] at hdi; rw [hdi]⟩
 | _ => cases hK
def keyV : (K : Ty) → K.den → Value
 | .str, x => .string (mkS x)
 | .int k, x => .int k x
 | _, _ => undef
theorem key_val {K : Ty} (hK : keyPlain K = true) {x : K.den} {v : Value} (m : MtV G w false (atomsOf K pF x) v) : v = keyV K x := by
 cases K with
 | str => exact (MtS.str (F := pF) (show MtS G w (.v false [.d .str pF x]) v from m)).1
 | int k => exact (MtS.int (F := pF) (show MtS G w (.v false [.d (.int k) pF x]) v from m)).1
 | _ => cases hK
def fnd (K : Ty) {V : Type} (x : K.den) : List (K.den × V) → List MapEntry → Nat → Option (Nat × Value)
 | p :: l, e :: es, i => bif keyEq K x p.1 then some (i, e.val) else fnd K x l es (i + 1)
 | _, _, _ => none
theorem findNow_mp {d : TypeDesc} {K V : Ty} {av : Bool} {F : Fl} (hd : (K = .str ∧ d = .string) ∨ ∃ k, K = .int k ∧ d = .int k) (hK : keyPlain K = true) {x : K.den} : ∀ {l : List (K.den × V.den)} {es : List MapEntry} {i : Nat}, MpOk G w false av K V F l es →
  Instr.findNow d (keyV K x) es i = some (fnd K x l es i) := by
 intro l
 induction l with
 | nil => intro es i m; rw [show es = [] from m]; rfl
 | cons p l ih =>
  intro es i m
  obtain ⟨e, es', rfl, h1, h2, h3⟩ := m
  have hk := key_val hK h1
  have hs : Instr.sameNow d (keyV K x) e.key = some (keyEq K x p.1) := by
   rw [hk]
   rcases hd with ⟨rfl, rfl⟩ | ⟨k, rfl, rfl⟩
   ·simp only [keyV, Instr.sameNow, keyEq, Option.some.injEq]
    refine Bool.eq_iff_iff.2 ((bytes_beq _ _).trans ⟨fun h => ?_, fun h => ?_⟩)
    ·have := congrArg (fun s : ByteArray => s.data.toList) h
     simpa [mkS] using this
    ·rw [decide_eq_true_eq] at h; rw [h]
   ·simp only [keyV, Instr.sameNow, keyEq, if_true, Option.some.injEq]
    exact Bool.eq_iff_iff.2 (by simp)
  simp only [Instr.findNow, hs, fnd]
  cases keyEq K x p.1 with
  | true => rfl
  | false => exact ih h3
theorem fnd_get {K V : Ty} {ak av : Bool} {F : Fl} {x : K.den} : ∀ {l : List (K.den × V.den)} {es : List MapEntry} {i : Nat}, MpOk G w ak av K V F l es →
  (match fnd K x l es i, mget K l x with | none, none => True | some (_, v), some y => MtV G w av (atomsOf V F y) v | _, _ => False) := by
 intro l
 induction l with
 | nil => intro es i m; rw [show es = [] from m]; trivial
 | cons p l ih =>
  intro es i m
  obtain ⟨e, es', rfl, h1, h2, h3⟩ := m
  simp only [fnd, mget]
  cases keyEq K x p.1 with
  | true => exact h2
  | false => exact ih h3
theorem MpOk.len {ak av : Bool} {K V : Ty} {F : Fl} : ∀ {l : List (K.den × V.den)} {es : List MapEntry}, MpOk G w ak av K V F l es → es.length = l.length := by
 intro l
 induction l with
 | nil => intro es m; rw [show es = [] from m]; rfl
 | cons p l ih => intro es m; obtain ⟨e, es', rfl, h1, h2, h3⟩ := m; simp [ih h3]
theorem fnd_set {K V : Ty} {ak av : Bool} {F : Fl} {x : K.den} {y : V.den} {kv vv : Value} (mk : MtV G w ak (atomsOf K pF x) kv) (mv : MtV G w av (atomsOf V F y) vv) {clk : Nat} : ∀ {l : List (K.den × V.den)} {es : List MapEntry} {i : Nat}, MpOk G w ak av K V F l es →
  (match fnd K x l es i with
   | none => MpOk G w ak av K V F (mset K l x y) (es ++ [{ key := kv, val := vv, born := clk }])
   | some (j, _) => ∃ k, j = i + k ∧ k < es.length ∧ MpOk G w ak av K V F (mset K l x y) (es.modify k fun e => { e with key := kv, val := vv })) := by
 intro l
 induction l with
 | nil => intro es i m; rw [show es = [] from m]; exact ⟨_, [], rfl, mk, mv, rfl⟩
 | cons p l ih =>
  intro es i m
  obtain ⟨e, es', rfl, h1, h2, h3⟩ := m
  simp only [fnd, mset]
  cases hq : keyEq K x p.1 with
  | true => exact ⟨0, rfl, by simp, { e with key := kv, val := vv }, es', rfl, mk, mv, h3⟩
  | false =>
   simp only [cond_false]
   have := ih (i := i + 1) h3
   cases hf : fnd K x l es' (i + 1) with
   | none => rw [hf] at this; exact ⟨e, _, rfl, h1, h2, this⟩
   | some q =>
    obtain ⟨j, v⟩ := q
    rw [hf] at this
    obtain ⟨k, hj, hk, hm⟩ := this
    exact ⟨k + 1, by omega, by simpa using hk, e, _, by simp [List.modify_succ_cons], h1, h2, hm⟩
structure KeyOk (P : Program) (kt : TypeId) (ak : Bool) (K : Ty) (kv : K.den → Value) : Prop where
 val : ∀ {G : Gh} {w : World} {x : K.den} {v : Value}, MtV G w ak (atomsOf K pF x) v → v = kv x
 eq : ∀ {x y : K.den}, keyEq K x y = true → x = y
 chk : ∀ (em : Bool) (x : K.den) (w : World), (Instr.checkKey em 10000 kt (kv x)).run P w = .ok () w
 find : ∀ {G : Gh} {w : World} {V : Ty} {av : Bool} {F : Fl} {x : K.den} {l : List (K.den × V.den)} {es : List MapEntry}, MpOk G w ak av K V F l es → ∀ {v : Value}, MtV G w ak (atomsOf K pF x) v → (Instr.findKey kt v es).run P w = .ok (fnd K x l es 0) w
 bits : ∀ x : K.den, Instr.sameBits 10000 (kv x) (kv x) = true
theorem fnd_key {kt : TypeId} {K V : Ty} {ak av : Bool} {kv : K.den → Value} {F : Fl} (hK : KeyOk P kt ak K kv) {x : K.den} : ∀ {l : List (K.den × V.den)} {es : List MapEntry} {i j : Nat} {v : Value}, MpOk G w ak av K V F l es → fnd K x l es i = some (j, v) → ∃ k e, j = i + k ∧ es[k]? = some e ∧ e.key = kv x := by
 intro l
 induction l with
 | nil => intro es i j v m h; rw [show es = [] from m] at h; cases h
 | cons p l ih =>
  intro es i j v m h
  obtain ⟨e, es', rfl, h1, h2, h3⟩ := m
  simp only [fnd] at h
  cases hq : keyEq K x p.1 with
  | true =>
   rw [hq] at h
   cases h
   exact ⟨0, e, rfl, rfl, by rw [hK.val h1, hK.eq hq]⟩
  | false =>
   rw [hq] at h
   obtain ⟨k, e', h4, h5, h6⟩ := ih h3 h
   exact ⟨k + 1, e', by omega, by simpa using h5, h6⟩
theorem same_keyV {K : Ty} (hK : keyPlain K = true) (x : K.den) : Instr.sameBits 10000 (keyV K x) (keyV K x) = true := by
 cases K with
 | str => simp only [keyV, Instr.sameBits]; exact (bytes_beq _ _).2 rfl
 | int k => simp [keyV, Instr.sameBits]
 | _ => cases hK
omit T in
theorem key_plain (T : TtOk P tt) {t t1 : TypeId} {K : Ty} {nf el by_ : Nat} {fts : List TypeId} (h : ttOf tt t = some ⟨t1, K, false, nf, el, by_, fts⟩) (hK : keyPlain K = true) : KeyOk P t false K (keyV K) where
 val := key_val hK
 eq := fun {x y} hq => by
  cases K with
  | str => simpa only [keyEq, decide_eq_true_eq] using hq
  | int k => simpa only [keyEq, decide_eq_true_eq] using hq
  | _ => cases hK
 chk := fun em x w => by
  rcases key_und T h hK with ⟨rfl, hd⟩ | ⟨k, rfl, hd⟩
  ·exact run_checkKey (d := .string) hd (by simp [keyV, IsKey]) em 9999
  ·exact run_checkKey (d := .int k) hd (by simp [keyV, IsKey]) em 9999
 find := fun {G w V av F x l es} hm v mv => by
  rw [key_val hK mv]
  rcases key_und T h hK with ⟨rfl, hd⟩ | ⟨k, rfl, hd⟩
  ·exact run_findKey hd (findNow_mp (.inl ⟨rfl, rfl⟩) rfl hm)
  ·exact run_findKey hd (findNow_mp (.inr ⟨k, rfl, rfl⟩) rfl hm)
 bits := same_keyV hK
def KeysOk (P : Program) (tt : TT) (mt : MT) : Prop := ∀ t te, ttOf tt t = some te → keyTy tt mt te = true → ∃ kv, KeyOk P t te.ag te.T kv
include hb in
theorem does_makeMap {t0 : TypeId} {idb : Id} (hid : ¬ old idb) {e : Eff} {t : List Id} (hx : (sMakeMap tt mt t0 idb).exec lk = some (e, t)) : Does P old G w (do pure (.value (← Instr.makeMap t0 none))) e := by
 classical
 unfold sMakeMap at hx
 split at hx
 ·exact exec_fail hx
 ·split at hx
  ·rename_i te _ V av _ _ _ _ _ _ _
   replace ⟨hE, hx⟩ := condR hx
   simp only [Bool.and_eq_true] at hE
   obtain ⟨rfl, _⟩ := exec_ok hx
   refine ⟨_, .map (some w.heap.size), w.alloc (.map #[] 0), ⟨fun i => if i = idb then .map (some w.heap.size) else G.ρ i, fun b => if b = w.heap.size then .own idb [] else G.g b⟩, by simp [Instr.makeMap], .inl rfl,
    .alloc hb _ (fun i hi => if_neg (fun q : i = idb => hid (q ▸ hi))) (fun h1 i => by show (if i = idb then Value.map (some w.heap.size) else G.ρ i).oneCell' = true; split <;> first | rfl | exact h1 i), .of1 rfl (by simp [MtA]), fun i R hi => ?_⟩
   simp only [List.mem_singleton, Prod.mk.injEq, Option.some.injEq] at hi
   obtain ⟨rfl, rfl⟩ := hi
   exact ⟨hE.2, w.heap.size, #[], 0, by simp, by simp, heap_alloc_new' w _, rfl⟩
  ·exact exec_fail hx
theorem packed_val (hrs : ∀ id R, lk id = some R → ResOk G w id R) {K0 : Ty} {ag : Bool} {F : Fl} {l : List At} {v : Value} {x : K0.den} {t : List Id} (hO : K0.noO F = true) (m : MtV G w ag l v) (hp : (pack K0 F l).exec lk = some (⟨x, [], [], []⟩, t)) : MtV G w ag (atomsOf K0 F x) v := by
 obtain ⟨hv1, hv2, hv3⟩ := MtV.cells' m
 obtain ⟨c1, c2, hcs, hc1, hc2, hpacks⟩ := pack_sound hrs _ _ _ _ _ _ _ _ _ hv3 hp
 rw [show c2 = [] from hc2, List.append_nil] at hcs
 obtain ⟨mm', hmm', htr⟩ := hpacks List.nodup_nil
 have h5 := htr G w default [] ⟨.refl G w, fun b i q pos _ hp => absurd ((hmm' i).1 (by rw [hp]; simp)) (by simp), fun b i q _ hi => absurd hi (by simp)⟩
 rw [← hcs] at h5
 have h6 := atomsOf_sound _ _ _ _ _ _ hO h5
 cases ag with
 | true => exact ⟨_, by rw [hv1]; simp [mkV, Value.cells], h6⟩
 | false =>
  have h8 : v.cells.toList = [v] := by
   have := m.1
   cases v <;> first | rfl | (simp [Value.oneCell'] at this)
  rw [h8] at h6
  exact ⟨m.1, h6⟩
theorem Chg.setObj {chg : Id → Prop} (hb : ∀ b, G.g b ≠ .no → b < w.heap.size) {blk : Nat} {id0 : Id} {p0 : List Nat} (hl : G.g blk = .own id0 p0) (hc : chg id0) (o : Obj) : Chg old chg G G w { w with heap := w.heap.setIfInBounds blk o } := by
 have hg : ∀ b, b ≠ blk → (w.heap.setIfInBounds blk o)[b]? = w.heap[b]? := fun b h => Array.getElem?_setIfInBounds_ne (Ne.symm h)
 refine ⟨fun _ _ => rfl, ⟨fun b h => ⟨h, hg b (fun e => by rw [e, hl] at h; cases h)⟩, fun b h => ⟨h, hg b (fun e => by rw [e, hl] at h; cases h)⟩⟩, fun b id p h hn => ⟨h, hg b (fun e => ?_)⟩,
  fun b _ h => ⟨hg b (fun e => by rw [e, hl] at h; cases h), h⟩, fun b h => by simpa using hb b h, fun h => h, rfl, rfl, rfl, by simp, fun _ _ h => h⟩
 rw [e, hl] at h
 cases h
 exact hn hc
include T TM hb in
theorem does_mapUpdate (KO : KeysOk P tt mt) {t0 : TypeId} {m k x : SV} {vm vk vx : Value} {e : Eff} {t : List Id} (hrs : ∀ id R, lk id = some R → ResOk G w id R) (hx : (sMapUpdate tt mt t0 m k x).exec lk = some (e, t)) (mm : MtS G w m vm) (mk : MtS G w k vk) (mx : MtS G w x vx) :
  Does P old G w (do Instr.mapUpdate t0 vm vk vx; pure .skip) e := by
 unfold sMapUpdate at hx
 split at hx
 ·exact exec_fail hx
 rename_i kt et hmt
 have hu := TM.1 _ _ _ hmt
 split at hx
 ·rename_i te hkt
  split at hx
  ·rename_i id
   replace ⟨t', hx, _⟩ := exec_need hx
   split at hx
   ·rename_i ak av K V F l hlk
    replace ⟨hE, hx⟩ := condR hx
    simp only [Bool.and_eq_true] at hE
    have hK0 := Ty.eq_of_beq hE.2.1
    have hka := boolEq_eq hE.2.2
    obtain ⟨t1, K0, ka, nf, el, by_, fts⟩ := te
    simp only at hK0 hka
    subst hK0
    subst hka
    obtain ⟨kv, hKO⟩ := KO _ _ hkt hE.1
    split at hx
    ·rename_i ak' lk' av' lv
     replace ⟨hE2, hx⟩ := condR hx
     simp only [Bool.and_eq_true] at hE2
     have e2 := boolEq_eq hE2.1
     have e3 := boolEq_eq hE2.2
     subst e2
     subst e3
     replace ⟨pk, t2, t3, hpk, hx, _⟩ := exec_bind hx
     split at hx
     ·rename_i x
      replace ⟨qk, t4, t5, hqk, hx, _⟩ := exec_bind hx
      split at hx
      ·rename_i y
       obtain ⟨rfl, _⟩ := exec_ok hx
       obtain ⟨h0, r, es, clk, hρ, hg, hh, hm⟩ := hrs id _ hlk
       have hvm := mm.own
       rw [hρ] at hvm
       subst hvm
       have mk' := packed_val hrs (noO_p _) (show MtV G w ak' lk' vk from mk) hpk
       have mx' := packed_val hrs h0 (show MtV G w av' lv vx from mx) hqk
       have hkv := hKO.val mk'
       have hset := fnd_set (clk := clk) mk' mx' hm (i := 0)
       have hchk : ∀ w : World, (Instr.checkKey false 10000 kt vk).run P w = .ok () w := fun w => by
        rw [hkv]; exact hKO.chk false x w
       have hfind : (Instr.findKey kt vk es.toList).run P w = .ok (fnd K0 x l es.toList 0) w := hKO.find hm mk'
       have fin : ∀ (o : Obj) (es' : Array MapEntry) (clk' : Nat), o = .map es' clk' → MpOk G w ak' av' K0 V F (mset K0 l x y) es'.toList → (Instr.mapUpdate t0 (.map (some r)) vk vx).run P w = .ok () { w with heap := w.heap.setIfInBounds r o } →
         Does P old G w (do Instr.mapUpdate t0 (.map (some r)) vk vx; pure .skip) ⟨.junk, [(id, some (.mp ak' av' K0 V F (mset K0 l x y)))], []⟩ := by
        rintro o es' clk' rfl hm' hrun
        have hc : ∀ {old : Id → Prop}, Chg old (fun j => j = id) G G w { w with heap := w.heap.setIfInBounds r (.map es' clk') } := .setObj (chg := fun j => j = id) hb hg rfl _
        refine ⟨_, undef, _, G, by simp [hrun], .inr ⟨rfl, rfl, rfl⟩, hc.le (fun j hj => by simp [hj]), trivial, fun j R hj => ?_⟩
        simp only [List.mem_singleton, Prod.mk.injEq, Option.some.injEq] at hj
        obtain ⟨rfl, rfl⟩ := hj
        have hlt : r < w.heap.size := by
         rcases Nat.lt_or_ge r w.heap.size with h | h
         ·exact h
         ·rw [Array.getElem?_eq_none h] at hh; cases hh
        exact ⟨h0, r, es', clk', hρ, hg, by simp [hlt], hm'.keep (old := fun _ => True) hc⟩
       cases hf : fnd K0 x l es.toList 0 with
       | none =>
        rw [hf] at hset
        refine fin _ (es.push { key := vk, val := vx, born := clk }) (clk + 1) rfl (by simpa using hset) ?_
        unfold Instr.mapUpdate
        simp [run_underlying hu, MapKept.run_getObj_map hh, hchk, hfind, hf, MapKept.run_setObj_map _ hh]
       | some q =>
        obtain ⟨j, v⟩ := q
        rw [hf] at hset
        obtain ⟨k, hj, hk, hmm⟩ := hset
        obtain ⟨k', e', hj', he', hek⟩ := fnd_key hKO hm hf
        have : k' = k := by omega
        subst this
        have hj0 : j = k' := by omega
        subst hj0
        refine fin _ (es.modify j fun e => { e with key := vk, val := vx }) clk rfl (by simpa using hmm) ?_
        have hes : es[j]? = some e' := by simpa using he'
        unfold Instr.mapUpdate Instr.keyThatStays
        have hsb : Instr.sameBits 10000 e'.key vk = true := by rw [hek, hkv]; exact hKO.bits x
        simp [run_underlying hu, MapKept.run_getObj_map hh, hchk, hfind, hf, hes, hsb, MapKept.run_setObj_map _ hh]
      ·exact exec_fail hx
     ·exact exec_fail hx
    ·exact exec_fail hx
   ·exact exec_fail hx
  ·exact exec_fail hx
 ·exact exec_fail hx
include T TM hb in
theorem does_lookup (KO : KeysOk P tt mt) {t0 : TypeId} {ok : Bool} {m k : SV} {vm vk : Value} {e : Eff} {t : List Id} (hrs : ∀ id R, lk id = some R → ResOk G w id R) (hx : (sLookup tt mt t0 ok m k).exec lk = some (e, t)) (mm : MtS G w m vm) (mk : MtS G w k vk) :
  Does P old G w (do pure (.value (← Instr.lookup t0 vm vk ok))) e := by
 unfold sLookup at hx
 split at hx
 ·exact exec_fail hx
 rename_i kt et hmt
 have hu := TM.1 _ _ _ hmt
 split at hx
 ·rename_i te t1' V0 av0 nf' el' by_' fts' hkt het
  split at hx
  ·rename_i id
   replace ⟨t', hx, _⟩ := exec_need hx
   split at hx
   ·rename_i ak av K V F l hlk
    replace ⟨hE, hx⟩ := condR hx
    simp only [Bool.and_eq_true] at hE
    have hK0 := Ty.eq_of_beq hE.1.2.1
    have hka := boolEq_eq hE.1.2.2
    have hV0 := Ty.eq_of_beq hE.2.1
    have e2 := boolEq_eq hE.2.2
    obtain ⟨t1, K0, ka, nf, el, by_, fts⟩ := te
    simp only at hK0 hka
    subst hK0
    subst hka
    subst hV0
    subst e2
    obtain ⟨kv, hKO⟩ := KO _ _ hkt hE.1.1
    split at hx
    ·rename_i ak' lk'
     replace ⟨hE3, hx⟩ := condR hx
     have e3 := boolEq_eq hE3
     subst e3
     replace ⟨pk, t2, t3, hpk, hx, _⟩ := exec_bind hx
     split at hx
     ·rename_i x
      obtain ⟨h0, r, es, clk, hρ, hg, hh, hm⟩ := hrs id _ hlk
      have hvm := mm.own
      rw [hρ] at hvm
      subst hvm
      have mk' := packed_val hrs (noO_p _) (show MtV G w ak' lk' vk from mk) hpk
      have hkv := hKO.val mk'
      have hget := fnd_get (i := 0) (x := x) hm
      have hchk : ∀ (b : Bool) (w : World), (Instr.checkKey b 10000 kt vk).run P w = .ok () w := fun b w => by
       rw [hkv]; exact hKO.chk b x w
      have hfind : (Instr.findKey kt vk es.toList).run P w = .ok (fnd K0 x l es.toList 0) w := hKO.find hm mk'
      have hzero := run_zero_at T het w
      simp only at hzero
      have hz : MtV G w av0 (atomsOf V0 F V0.dflt) (mkV av0 (zeroCells V0)) := by
       have h5 : MtL G w (atomsOf V0 F V0.dflt) (zeroCells V0) := atomsOf_sound V0 F default [] (zeroCells V0) V0.dflt h0 (Tr.zero V0 h0)
       cases av0 with
       | true => exact ⟨_, rfl, h5⟩
       | false =>
        obtain ⟨rr, _, hchk⟩ := T.at het
        have hf := di_plain T het rfl
        simp only at hf
        subst hf
        have hag := rr.ag
        cases V0 with
        | int k => exact ⟨rfl, h5⟩
        | bool => exact ⟨rfl, h5⟩
        | pt => exact ⟨rfl, h5⟩
        | er => exact ⟨rfl, h5⟩
        | str => exact ⟨rfl, h5⟩
        | sl e => exact ⟨rfl, h5⟩
        | arr n e => simp [TE.di, DI.agg] at hag
        | pr a b => simp [teChk] at hchk
      have key : ∃ v, (∀ b : Bool, (Instr.lookup t0 (.map (some r)) vk b).run P w = .ok (if b then .tuple #[v, .bool (mget K0 l x).isSome] else v) w) ∧ MtV G w av0 (atomsOf V0 F ((mget K0 l x).getD V0.dflt)) v := by
       cases hf : fnd K0 x l es.toList 0 with
       | none =>
        rw [hf] at hget
        cases hq : mget K0 l x with
        | some y => rw [hq] at hget; exact hget.elim
        | none =>
         refine ⟨_, fun b => ?_, hz⟩
         unfold Instr.lookup
         cases b <;> simp [run_underlying hu, MapKept.run_getObj_map hh, hchk, hfind, hf, hzero]
       | some q =>
        obtain ⟨j, v⟩ := q
        rw [hf] at hget
        cases hq : mget K0 l x with
        | none => rw [hq] at hget; exact hget.elim
        | some y =>
         rw [hq] at hget
         refine ⟨v, fun b => ?_, hget⟩
         unfold Instr.lookup
         cases b <;> simp [run_underlying hu, MapKept.run_getObj_map hh, hchk, hfind, hf]
      obtain ⟨v, hrun, hmv⟩ := key
      cases ok with
      | true =>
       obtain ⟨rfl, _⟩ := exec_ok hx
       exact .pure hb (v := .tuple #[v, .bool (mget K0 l x).isSome]) (by simp [hrun]) ⟨[v, .bool (mget K0 l x).isSome], rfl, v, _, rfl, hmv, _, [], rfl, MtS.ofBool, rfl⟩
      | false =>
       obtain ⟨rfl, _⟩ := exec_ok hx
       exact .pure hb (v := v) (by simp [hrun]) hmv
     ·exact exec_fail hx
    ·exact exec_fail hx
   ·exact exec_fail hx
  ·exact exec_fail hx
 ·exact exec_fail hx
include T hb in
theorem does_lenMap (TM : MtOk P mt) {t0 ty : TypeId} {x : SV} {v : Value} {e : Eff} {t : List Id} (hrs : ∀ id R, lk id = some R → ResOk G w id R) (hx : (sLenMap mt t0 x).exec lk = some (e, t)) (hv : ∀ p ∈ e.vc, p) (m : MtS G w x v) : Does P old G w (do pure (.value (← Builtin.len_ #[t0] ty #[v]))) e := by
 unfold sLenMap at hx
 split at hx
 ·exact exec_fail hx
 rename_i kt hmt
 have hu := TM.1 t0 kt.1 kt.2 hmt
 split at hx
 ·rename_i id
  replace ⟨t', hx, _⟩ := exec_need hx
  split at hx
  ·rename_i av K V F l q hlk
   obtain ⟨rfl, _⟩ := exec_ok hx
   obtain ⟨h0, r, es, clk, hρ, hg, hh, hm⟩ := hrs id _ hlk
   have hvm := m.own
   rw [hρ] at hvm
   subst hvm
   have hl := MpOk.len hm
   refine .pure hb (v := .int .i64 (q.length : Int)) ?_ (.ofInt ?_)
   ·unfold Builtin.len_
    have : es.size = q.length := by simpa using hl
    simp [run_underlying hu, MapKept.run_getObj_map hh, this, goInt]
   ·have h9 : q.length ≤ maxL := hv _ List.mem_cons_self
    simp only [maxL] at h9
    simp only [inR, IntKind.min, IntKind.max, IntKind.signed, IntKind.bits]
    simp
    omega
  ·exact exec_fail hx
 ·exact exec_fail hx
include T hb in
theorem does_eqNil {t0 : TypeId} {ox oy : Operand} {x : SV} {vx : Value} {e : Eff} {t : List Id} (hrs : ∀ id R, lk id = some R → ResOk G w id R) (hx : (sEqNil tt t0 x).exec lk = some (e, t)) (m : MtS G w x vx) :
  Does P old G w (do pure (.value (← (do eqGuard .eql t0 ox oy vx (.slice none 0 0); binOp .eql t0 vx (.slice none 0 0))))) e := by
 unfold sEqNil at hx
 cases hs : isSlT tt t0 with
 | false => rw [hs] at hx; exact exec_fail hx
 | true =>
  rw [hs] at hx
  simp only [Bool.not_true, cond_false] at hx
  obtain ⟨el, hu⟩ := isSlT_spec T hs
  have hrun : ∀ A n c, (do pure (Next.value (← (do eqGuard .eql t0 ox oy (.slice A n c) (.slice none 0 0); binOp .eql t0 (.slice A n c) (.slice none 0 0)))) : Sem Next).run P w = .ok (.value (.bool A.isNone)) w := by
   intro A n c
   have hg : eqGuard .eql t0 ox oy (.slice A n c) (.slice none 0 0) = pure () := by cases A <;> rfl
   have := Lib.run_eql_slice_nil (P := P) w t0 el A n c 0 0 hu
   simp [hg, this]
  have fin : ∀ {A n c P'}, (A.isNone = true → P') → vx = .slice A n c → Does P old G w (do pure (.value (← (do eqGuard .eql t0 ox oy vx (.slice none 0 0); binOp .eql t0 vx (.slice none 0 0))))) ⟨.v false [.anyb P'], [], []⟩ := by
   rintro A n c P' hp rfl
   exact .pure hb (v := .bool A.isNone) (hrun A n c) (.of1 rfl ⟨_, rfl, hp⟩)
  split at hx
  ·obtain ⟨rfl, _⟩ := exec_ok hx
   have hvx : vx = .slice none 0 0 := by simpa using (show [vx] = [Value.slice none 0 0] from m.at1.2)
   subst hvx
   exact .pure hb (v := .bool true) (hrun none 0 0) (.of1 rfl rfl)
  ·split at hx
   ·obtain ⟨rfl, _⟩ := exec_ok hx
    obtain ⟨hno, A, n, c, rfl, htr⟩ := m.slice
    obtain ⟨hn, hc, _⟩ := htr.sl_len
    refine fin (fun hA => ?_) rfl
    obtain ⟨A', n', c', hcs, _, _, _, _, hblk⟩ := htr
    simp only [List.cons.injEq, Value.slice.injEq, and_true] at hcs
    obtain ⟨rfl, rfl, rfl⟩ := hcs
    rcases hblk with ⟨_, hz⟩ | ⟨b, off, C, tb, fz, rfl, _⟩
    ·omega
    ·cases hA
   ·exact exec_fail hx
  ·rename_i id
   replace ⟨t', hx, _⟩ := exec_need hx
   have hvx := m.own
   split at hx
   ·rename_i e' f l hlk
    obtain ⟨rfl, _⟩ := exec_ok hx
    obtain ⟨A, n, c, hρ, htr⟩ := (hrs id _ hlk).slice
    obtain ⟨hn, hc, _⟩ := htr.sl_len
    refine fin (fun hA => ?_) (hvx.trans hρ)
    obtain ⟨A', n', c', hcs, _, _, _, _, hblk⟩ := htr
    simp only [List.cons.injEq, Value.slice.injEq, and_true] at hcs
    obtain ⟨rfl, rfl, rfl⟩ := hcs
    rcases hblk with ⟨_, hz⟩ | ⟨b, off, C, tb, fz, rfl, _⟩
    ·omega
    ·cases hA
   ·rename_i sz l hlk
    obtain ⟨rfl, _⟩ := exec_ok hx
    obtain ⟨A, n, c, hρ, hn, hc, _, hblk⟩ := hrs id _ hlk
    refine fin (fun hA => ?_) (hvx.trans hρ)
    rcases hblk with ⟨_, hz⟩ | ⟨b, off, C, tb, rfl, _⟩
    ·omega
    ·cases hA
   ·exact exec_fail hx
  ·exact exec_fail hx
include hb in
theorem does_minMax {mn : Bool} {at0 : Array TypeId} {ty : TypeId} {x y : SV} {vx vy : Value} {e : Eff} {t : List Id} (hx : (sMinMax mn x y).exec lk = some (e, t)) (mx : MtS G w x vx) (my : MtS G w y vy) :
  Does P old G w (do pure (.value (← (match mn with | true => Builtin.min_ at0 ty #[vx, vy] | false => Builtin.max_ at0 ty #[vx, vy])))) e := by
 unfold sMinMax at hx
 split at hx
 ·rename_i k F a k' F' b
  replace ⟨hk, hx⟩ := condR hx
  have hkk := kindNo_inj (Nat.eq_of_beq_eq_true hk)
  subst hkk
  obtain ⟨rfl, _⟩ := exec_ok hx
  obtain ⟨rfl, ha⟩ := mx.int
  obtain ⟨rfl, hb'⟩ := my.int
  cases mn with
  | true =>
   refine .pure hb (v := .int k (sMin a b)) ?_ (.ofInt ?_)
   ·simp [Builtin.min_, Builtin.min2, sMin, List.foldlM]
   ·simp only [sMin]; cases decide (b < a) <;> first | exact ha | exact hb'
  | false =>
   refine .pure hb (v := .int k (sMax a b)) ?_ (.ofInt ?_)
   ·simp [Builtin.max_, Builtin.max2, sMax, List.foldlM]
   ·simp only [sMax]; cases decide (a < b) <;> first | exact ha | exact hb'
 ·exact exec_fail hx
end
end Go.Sx
