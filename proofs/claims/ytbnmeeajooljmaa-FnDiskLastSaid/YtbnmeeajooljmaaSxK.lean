/- Symbolic execution, part K: fields, values and slices made at once. -/
import Derived.Test.YtbnmeeajooljmaaSxJ
import Derived.Great.BuildSlice
import Derived.Laws.MakeOwn
set_option linter.all false
namespace Go.Sx
open Go Go.RowKit

/-- values in slots, one by one -/
def MtSs (G : Gh) (w : World) : List SV → List Value → Prop
  | [], [] => True
  | s :: ss, v :: vs => MtS G w s v ∧ MtSs G w ss vs
  | _, _ => False

section
variable {P : Program} {tt : TT} (T : TtOk P tt) {old : Id → Prop} {G : Gh} {w : World} {lk : Id → Option Res} (hb : ∀ b, G.g b ≠ .no → b < w.heap.size) (h1 : RhoOk G)
theorem ftAt_eq : ∀ (l : List TypeId) (n : Nat), ftAt l n = l[n]? := by
  intro l
  induction l with
  | nil => intro n; rfl
  | cons x xs ih => intro n; cases n with
    | zero => rfl
    | succ n => simp only [ftAt, List.getElem?_cons_succ]; exact ih n
/-- a struct's field, with its type's row -/
theorem field_at' (T : TtOk P tt) {t : TypeId} {te : TE} (h : ttOf tt t = some te) {f : Nat} (hf : f < te.nf) : ∃ (fs : Array Field) (fd : Field) (ft : TypeId), P.underlying t = some (.struct fs) ∧ fs[f]? = some fd ∧ te.fts[f]? = some ft ∧ fd.type = ft ∧
    fd.offset = fieldOff te.T te.nf f ∧ ∃ te', ttOf tt fd.type = some te' ∧ te'.T = (fieldTy te.T pF te.nf f 0).1 ∧ te'.T.size ≠ 0 := by
  obtain ⟨fs, fd, h1, h2, h3, h4⟩ := field_at T h hf
  obtain ⟨r, rfl, c⟩ := T.at h
  have hi := r.di
  have hn := r.nf
  rw [h1] at hi
  unfold TE.di at hi
  cases hfs : te.fts with
  | nil => rw [hfs] at hn; simp at hn; omega
  | cons x xs =>
    rw [hfs] at hi hn
    simp only [dinfo, DI.st.injEq] at hi
    obtain ⟨ft, hft⟩ : ∃ ft, (x :: xs)[f]? = some ft := ⟨_, List.getElem?_eq_getElem (by omega)⟩
    have hg := offsFrom_get te.T te.nf (x :: xs) 0 f
    rw [← hi, hft, List.getElem?_map] at hg
    rw [Array.getElem?_toList, h2] at hg
    simp only [Option.map_some, Option.some.injEq, Prod.mk.injEq] at hg
    exact ⟨fs, fd, ft, h1, h2, hft, hg.2, h3, h4⟩
include T hb h1 in
theorem does_field {t0 : TypeId} {f : Nat} {x : SV} {v : Value} {e : Eff} {t : List Id} (hx : (sField tt t0 f x).exec lk = some (e, t)) (m : MtS G w x v) : Does P old G w (do pure (.value (← Instr.field t0 v f))) e := by
  unfold sField at hx
  split at hx
  · exact exec_fail hx
  rename_i t1 T0 ag nf el by_ fts hte
  cases hlt : Nat.blt f nf with
  | false => rw [hlt] at hx; exact exec_fail hx
  | true =>
    rw [hlt] at hx
    have hf : f < nf := by rw [Nat.blt_eq] at hlt; exact hlt
    simp only [cond_true] at hx
    split at hx
    · rename_i l ft hft
      split at hx
      · rename_i te2 T2 ag2 nf2 el2 by2 fts2 mm hte2 htk
        replace ⟨s, t1', t2', hs, hx, _⟩ := exec_bind hx
        obtain ⟨rfl, rfl⟩ := exec_ok hx
        obtain ⟨fs, fd, ft', h2, h3, h4, h5, h6, te', h7, h8, h9⟩ := field_at' T hte hf
        rw [ftAt_eq] at hft
        simp only at h4
        rw [hft] at h4
        cases h4
        subst h5
        rw [hte2] at h7
        cases h7
        obtain ⟨cs, rfl, hm⟩ := m
        obtain ⟨h10, h11⟩ := takeA_sound hm htk
        simp only at h8 h9
        have h12 : T2.size ≠ 0 := h9
        have hl : ((cs.drop (fieldOff T0 nf f)).take (fieldTy T0 pF nf f 0).1.size).length = T2.size := by
          rw [List.length_take, List.length_drop, h8]
          omega
        refine .pure hb (v := mkV ag2 ((cs.drop (fieldOff T0 nf f)).take (fieldTy T0 pF nf f 0).1.size)) ?_ (ofTy_sound h1 h11 (fun ha => ?_) hs)
        · have hs2 := run_size_at T hte2 w
          have ha2 := run_agg_at T hte2 w
          simp only at hs2 ha2
          unfold Instr.field part
          cases hag : ag2 with
          | true =>
            rw [hag] at ha2
            simp [run_underlying h2, h3, asAgg, ha2, hs2, mkV, h6, h8]
          | false =>
            rw [hag] at ha2
            have hT1 : (fieldTy T0 pF nf f 0).1.size = 1 := by rw [← h8]; exact size_one T hte2 hag
            have hlt : fieldOff T0 nf f < cs.length := by omega
            have hv : (cs.drop (fieldOff T0 nf f)).take (fieldTy T0 pF nf f 0).1.size = [cs[fieldOff T0 nf f]] := by
              rw [hT1, List.drop_eq_getElem_cons hlt]
              rfl
            rw [hv]
            simp [run_underlying h2, h3, asAgg, ha2, mkV, h6, hlt]
        · rw [hl]
          subst ha
          exact size_one T hte2 rfl
      · exact exec_fail hx
    · exact exec_fail hx

theorem fill_step {place : Nat → Option (Nat × Nat)} {cells : Array Value} {i off : Nat} {v : Value} {rest : List (Nat × Value)} (hp : place i = some (off, v.cells.size)) (hs : off + v.cells.size ≤ cells.size) :
    Instr.fill place cells ((i, v) :: rest) = Instr.fill place (over cells off v.cells.toList) rest := by
  have hs' : ¬ (off + v.cells.size > cells.size) := by omega
  rw [Instr.fill]
  simp only [hp]
  rw [if_neg (by simp; omega), ← Array.foldl_toList, Array.toList_zipIdx]
  congr 1
  have hf := (Great.foldl_set off v.cells.toList 0 cells).2
  apply Array.ext_getElem?
  intro k
  rw [over_get (by simpa using hs), hf k]
  simp only [Nat.add_zero, Array.length_toList]
  by_cases h1 : k < off
  · rw [if_pos h1, if_neg (by omega)]
  · rw [if_neg h1]
    by_cases h2 : k < off + v.cells.size
    · rw [if_pos h2, if_pos (by omega)]
    · rw [if_neg h2, if_neg (by omega)]
theorem mapM_places {F : Field → Option (Nat × Nat)} : ∀ {l : List Field} {g : Nat → Nat × Nat}, (∀ k fd, l[k]? = some fd → F fd = some (g k)) → ∃ ps, l.mapM F = some ps ∧ ∀ k, k < l.length → ps[k]? = some (g k) := by
  intro l
  induction l with
  | nil => intro g _; exact ⟨[], rfl, fun k h => by simp at h⟩
  | cons x xs ih =>
    intro g h
    obtain ⟨ps, h1, h2⟩ := ih (g := fun k => g (k + 1)) (fun k fd hk => h (k + 1) fd (by simpa using hk))
    refine ⟨g 0 :: ps, by simp [List.mapM_cons, h 0 x rfl, h1], fun k hk => ?_⟩
    cases k with
    | zero => rfl
    | succ k => simpa using h2 k (by simpa using hk)
theorem build_fill {T : Ty} {nf : Nat} {place : Nat → Option (Nat × Nat)} (hp : ∀ f, f < nf → place f = some (fieldOff T nf f, (fieldTy T pF nf f 0).1.size)) : ∀ {parts : List (Nat × Value)} {vals : List SV} {l m : List At} {cells : Array Value},
    MtSs G w vals (parts.map (·.2)) → buildFrom T nf ((parts.map (·.1)).zip vals) l = some m → MtL G w l cells.toList → ∃ cells', Instr.fill place cells parts = some cells' ∧ MtL G w m cells'.toList := by
  intro parts
  induction parts with
  | nil =>
    intro vals l m cells _ hx hm
    simp only [List.map_nil, List.zip_nil_left, buildFrom, Option.some.injEq] at hx
    subst hx
    exact ⟨cells, rfl, hm⟩
  | cons pt parts ih =>
    intro vals l m cells hms hx hm
    obtain ⟨f, v⟩ := pt
    cases vals with
    | nil => exact hms.elim
    | cons s vals =>
      obtain ⟨hv, hms⟩ := hms
      simp only [List.map_cons, List.zip_cons_cons] at hx
      cases s with
      | v ag la =>
        simp only [buildFrom] at hx
        cases hc : (Nat.blt f nf && Nat.beq (sizeL la) (fieldTy T pF nf f 0).1.size) with
        | false => rw [hc] at hx; cases hx
        | true =>
          rw [hc] at hx
          simp only [Bool.and_eq_true, Nat.blt_eq] at hc
          simp only [cond_true] at hx
          split at hx
          · rename_i l' hl'
            have hcv := MtV.cells hv
            have hlen := hcv.len
            rw [Array.length_toList] at hlen
            obtain ⟨h3, h4⟩ := putA_sound hm hcv hl'
            have hpp := hp f hc.1
            rw [← Nat.eq_of_beq_eq_true hc.2, ← hlen] at hpp
            obtain ⟨cells', h5, h6⟩ := ih hms hx (cells := over cells (fieldOff T nf f) v.cells.toList) (by rw [over_toList]; exact h4)
            exact ⟨cells', by rw [fill_step hpp (by simpa using h3)]; exact h5, h6⟩
          · cases hx
      | fn _ _ => simp [buildFrom] at hx
      | tup _ => simp [buildFrom] at hx
      | junk => simp [buildFrom] at hx
include T hb in
theorem does_build {t0 : TypeId} {parts : List (Nat × Value)} {vals : List SV} {e : Eff} {t : List Id} (hx : (sBuild tt t0 (parts.map (·.1)) vals).exec lk = some (e, t)) (m : MtSs G w vals (parts.map (·.2))) :
    Does P old G w (do pure (.value (← Instr.build t0 parts.toArray))) e := by
  unfold sBuild at hx
  split at hx
  · rename_i t1 T0 nf el by_ fts hte
    split at hx
    · rename_i l hl
      obtain ⟨rfl, rfl⟩ := exec_ok hx
      obtain ⟨i, hi, hz, hsz, _⟩ := info_at T hte
      obtain ⟨d, hd, hdi⟩ := und_at T hte
      obtain ⟨r, _, c⟩ := T.at hte
      have hag := r.ag
      have hnf := r.nf
      rw [← hdi] at hag
      have hfin : ∀ cells, P.built t0 parts = some cells → MtL G w l cells.toList → Does P old G w (do pure (.value (← Instr.build t0 parts.toArray))) ⟨.v true l, [], []⟩ := fun cells h5 h6 =>
        .pure hb (v := .agg cells) (by rw [Sem.run_bind, run_build w t0 parts.toArray cells (by simpa using h5)]; rfl) ⟨cells.toList, by simp, h6⟩
      cases d with
      | struct fs =>
        have hlen : fs.toList.length = nf := by
          unfold TE.di at hdi
          cases hfs : fts with
          | nil => rw [hfs] at hdi; cases T0 <;> simp [dinfo] at hdi
          | cons x xs =>
            rw [hfs] at hdi hnf
            simp only [dinfo, DI.st.injEq] at hdi
            have h2 := congrArg List.length hdi
            rw [List.length_map] at h2
            rw [h2]
            have : ∀ (l : List TypeId) (f : Nat), (offsFrom T0 nf f l).length = l.length := by
              intro l
              induction l with
              | nil => intro f; rfl
              | cons a r ih => intro f; simp [offsFrom, ih]
            rw [this]
            exact hnf.symm
        obtain ⟨ps, hps, hpg⟩ := mapM_places (l := fs.toList) (F := fun f => (P.info? f.type).map fun i => (f.offset, i.size)) (g := fun k => (fieldOff T0 nf k, (fieldTy T0 pF nf k 0).1.size)) (fun k fd hk => by
          have hkn : k < nf := by have := (List.getElem?_eq_some_iff.1 hk).1; omega
          obtain ⟨fs', fd', h2, h3, h4, te', h5, h6, _⟩ := field_at T hte hkn
          rw [hd] at h2
          cases h2
          rw [Array.getElem?_toList, h3] at hk
          cases hk
          obtain ⟨i', hi', _, hs', _⟩ := info_at T h5
          simp [hi', h4, hs', h6])
        obtain ⟨cells', h5, h6⟩ := build_fill (place := fun k => ps.toArray[k]?) (fun f hf => by simpa using hpg f (by omega)) m hl (cells := (zeroCells T0).toArray) (by simpa using zeroOf_sound T0)
        refine hfin cells' ?_ h6
        simp [Program.built, hi, hd, hz, hps, mkV, Value.cells] at h5 ⊢
        exact h5
      | array n el' =>
        have hnf0 : nf = 0 := by
          unfold TE.di at hdi
          cases hfs : fts with
          | nil => rw [hfs] at hnf; exact hnf
          | cons x xs => rw [hfs] at hdi; simp [dinfo] at hdi
        subst hnf0
        cases parts with
        | nil =>
          simp only [List.map_nil, List.zip_nil_left, buildFrom, Option.some.injEq] at hl
          subst hl
          have hel : ∃ ie, P.info? el' = some ie := by
            unfold TE.di at hdi
            unfold teChk at c
            cases hfs : fts with
            | cons x xs => rw [hfs] at hdi; simp [dinfo] at hdi
            | nil =>
              rw [hfs] at hdi c
              cases T0 with
              | arr n' e' =>
                simp only [dinfo, DI.arr.injEq] at hdi
                obtain ⟨te', h2, h3, _⟩ := elChk_spec c
                obtain ⟨ie, h4, _⟩ := info_at T h2
                exact ⟨ie, by rw [hdi.2]; exact h4⟩
              | _ => simp [dinfo] at hdi
          obtain ⟨ie, hie⟩ := hel
          refine hfin (zeroCells T0).toArray ?_ (by simpa using zeroOf_sound T0)
          simp [Program.built, hi, hd, hz, hie, mkV, Value.cells, Instr.fill]
        | cons pt parts =>
          cases vals with
          | nil => exact m.elim
          | cons s vals => cases s <;> simp [buildFrom, show ∀ x, Nat.blt x 0 = false from fun x => rfl] at hl
      | _ => simp [dinfo, DI.agg] at hag
    · exact exec_fail hx
  · exact exec_fail hx

theorem buildEls_sound {sz : Nat} : ∀ {parts : List (Nat × Value)} {vals : List SV} {l : List (List At)} {j : Nat}, MtSs G w vals (parts.map (·.2)) → buildEls sz ((parts.map (·.1)).zip vals) j = some l →
    parts = ((parts.map (·.2)).zipIdx j).map (fun x => (x.2, x.1)) ∧ l.length = parts.length ∧ (∀ v ∈ parts.map (·.2), (Value.cells v).size = sz) ∧
    ∀ (k : Nat) (c : List At), l[k]? = some c → ∃ v : Value, (parts.map (·.2))[k]? = some v ∧ MtL G w c v.cells.toList := by
  intro parts
  induction parts with
  | nil =>
    intro vals l j _ hx
    simp only [List.map_nil, List.zip_nil_left, buildEls, Option.some.injEq] at hx
    subst hx
    exact ⟨rfl, rfl, by simp, fun k c h => by simp at h⟩
  | cons pt parts ih =>
    intro vals l j hms hx
    obtain ⟨f, v⟩ := pt
    cases vals with
    | nil => exact hms.elim
    | cons s vals =>
      obtain ⟨hv, hms⟩ := hms
      simp only [List.map_cons, List.zip_cons_cons] at hx
      cases s with
      | v ag la =>
        simp only [buildEls] at hx
        cases hc : (Nat.beq f j && Nat.beq (sizeL la) sz) with
        | false => rw [hc] at hx; cases hx
        | true =>
          rw [hc] at hx
          simp only [Bool.and_eq_true] at hc
          simp only [cond_true] at hx
          split at hx
          · rename_i r hr
            cases hx
            obtain ⟨h1, h2, h3, h4⟩ := ih hms hr
            have hcv := MtV.cells hv
            have hlen := hcv.len
            rw [Array.length_toList] at hlen
            have hf := Nat.eq_of_beq_eq_true hc.1
            subst hf
            refine ⟨?_, by simp [h2], ?_, fun k c hk => ?_⟩
            · simp only [List.map_cons, List.zipIdx_cons]
              rw [← h1]
            · simp only [List.map_cons, List.mem_cons, forall_eq_or_imp]
              exact ⟨by rw [hlen]; exact Nat.eq_of_beq_eq_true hc.2, h3⟩
            · cases k with
              | zero => simp only [List.getElem?_cons_zero, Option.some.injEq] at hk; subst hk; exact ⟨v, rfl, hcv⟩
              | succ k => simpa using h4 k c (by simpa using hk)
          · cases hx
      | fn _ _ => simp [buildEls] at hx
      | tup _ => simp [buildEls] at hx
      | junk => simp [buildEls] at hx
theorem MtEls.of {sz : Nat} {C : Array Value} : ∀ {css : List (List At)} {off : Nat}, (∀ (k : Nat) (l : List At), css[k]? = some l → MtL G w l (cellsAt C (off + k * sz) sz)) → MtEls G w sz C off css := by
  intro css
  induction css with
  | nil => intro off _; trivial
  | cons a r ih =>
    intro off h
    refine ⟨by simpa using h 0 a rfl, ih fun k l hk => ?_⟩
    have := h (k + 1) l (by simpa using hk)
    rwa [show off + (k + 1) * sz = off + sz + k * sz by rw [Nat.add_mul]; omega] at this
theorem flat_cells {s : Nat} (hs : 0 < s) {vs : List Value} (h : ∀ v ∈ vs, v.cells.size = s) {k : Nat} {v : Value} (hk : vs[k]? = some v) : cellsAt (vs.flatMap fun v => v.cells.toList).toArray (0 + k * s) s = v.cells.toList := by
  have hv : v.cells.toList.length = s := by rw [Array.length_toList]; exact h v (List.mem_of_getElem? hk)
  refine List.ext_getElem? fun i => ?_
  rw [cellsAt_get?]
  split
  · rename_i hi
    rw [List.getElem?_toArray, Great.flat_get hs vs h, Nat.zero_add, Nat.add_comm, Nat.add_mul_div_right _ _ hs, Nat.div_eq_of_lt hi, Nat.zero_add, hk, Nat.add_mul_mod_self_right, Nat.mod_eq_of_lt hi]
    simp
  · rw [List.getElem?_eq_none (by omega)]
/-- a new block for a slice -/
theorem Chg.made {id : Id} (hid : ¬ old id) (hb : ∀ b, G.g b ≠ .no → b < w.heap.size) (o : Obj) (n c : Nat) :
    Chg old (fun j => j = id) G ⟨fun i => if i = id then .slice (some ⟨w.heap.size, 0, none⟩) n c else G.ρ i, fun b => if b = w.heap.size then .own id [] else G.g b⟩ w (w.alloc o) :=
  .alloc hb _ (fun i hi => by rw [if_neg (fun (e : i = id) => hid (e ▸ hi))]) (fun h1 i => by split <;> first | rfl | exact h1 i)
include T hb in
theorem does_buildSlice {t0 : TypeId} {Te : Ty} {el : TypeId} {by_ : Nat} (hT : slT tt t0 = some (Te, el, by_)) {idb : Id} (hid : ¬ old idb) {len : Nat} {parts : List (Nat × Value)} {vals : List SV} {e : Eff} {t : List Id}
    (hids : ∀ s ∈ vals, ∀ j ∈ s.ids, old j) (hx : (sBuildSlice idb Te.size len (parts.map (·.1)) vals).exec lk = some (e, t)) (m : MtSs G w vals (parts.map (·.2))) :
    Does P old G w (do pure (.value (← Instr.buildSlice t0 len parts.toArray))) e := by
  unfold sBuildSlice at hx
  replace ⟨hc, hx⟩ := condR hx
  split at hx
  · rename_i l hl
    obtain ⟨rfl, rfl⟩ := exec_ok hx
    simp only [Bool.and_eq_true, List.length_map] at hc
    have hlen := Nat.eq_of_beq_eq_true hc.1
    have hle := Nat.le_of_ble_eq_true hc.2
    subst hlen
    obtain ⟨hu, hsz, te, hte, hTe, hby⟩ := slT_spec T hT
    subst hTe
    obtain ⟨i, hi, hz, hs, _⟩ := info_at T hte
    have hpos : 0 < te.T.size := by omega
    obtain ⟨g1, g2, g3, g4⟩ := buildEls_sound m hl
    have hzs : (mkV te.ag (zeroCells te.T)).cells.size = te.T.size := by
      rw [mkV_cells T hte]
      simpa using (zeroOf_sound (G := G) (w := w) te.T).len.trans ((Tr.zero (G := G) (w := w) te.T (F := pF) (id := default) (p := []) (noO_p _)).len ▸ ((zeroOf_sound (G := G) (w := w) te.T).len.symm))
    have hrun : (Instr.buildSlice t0 parts.length parts.toArray).run P w = .ok (.slice (some ⟨w.heap.size, 0, none⟩) parts.length parts.length) (w.alloc (.cells (((parts.map (·.2)).flatMap fun v => v.cells.toList).toArray) el)) := by
      have hfw := Great.fill_whole hpos (parts.map (·.2)) ((Array.range (parts.length * te.T.size)).map ((mkV te.ag (zeroCells te.T)).cells[· % (mkV te.ag (zeroCells te.T)).cells.size]!)) g3 (by simp)
      rw [← g1] at hfw
      by_cases h0 : parts.length * te.T.size = 0
      · have hp0 : parts = [] := by
          rcases Nat.mul_eq_zero.1 h0 with h | h
          · exact List.eq_nil_of_length_eq_zero h
          · omega
        subst hp0
        simp [Instr.buildSlice, run_underlying hu, sizeOf, typeInfo, hi, newRow, Instr.fill, show Array.range 0 = #[] from rfl]
      · exact run_buildSlice w t0 el _ _ _ i _ hu hi hz (by rw [hs]; omega) (by rw [hs]; exact h0) (by rw [hs]; exact hfw)
    have hch := Chg.made (G := G) (w := w) hid hb (.cells (((parts.map (·.2)).flatMap fun v => v.cells.toList).toArray) el) parts.length parts.length
    have hll : ∀ (ls : List (List At)), (∀ (k : Nat) (c : List At), ls[k]? = some c → ∀ j ∈ idsL c, old j) → ∀ j ∈ idsLL ls, old j := by
      intro ls
      induction ls with
      | nil => intro _ j hj; cases hj
      | cons a r ih =>
        intro h j hj
        simp only [idsLL, List.mem_append] at hj
        rcases hj with hj | hj
        · exact h 0 a rfl j hj
        · exact ih (fun k c hk => h (k + 1) c (by simpa using hk)) j hj
    have hbe : ∀ {parts : List (Nat × Value)} {vals : List SV} {l : List (List At)} {j : Nat}, buildEls te.T.size ((parts.map (·.1)).zip vals) j = some l → (∀ s ∈ vals, ∀ j ∈ s.ids, old j) → ∀ (k : Nat) (c : List At), l[k]? = some c → ∀ j ∈ idsL c, old j := by
      intro parts
      induction parts with
      | nil =>
        intro vals l j hx _ k c hk
        simp only [List.map_nil, List.zip_nil_left, buildEls, Option.some.injEq] at hx
        subst hx
        simp at hk
      | cons pt parts ih =>
        intro vals l j hx hs k c hk
        cases vals with
        | nil => 
          simp only [List.zip_nil_right, buildEls, Option.some.injEq] at hx
          subst hx
          simp at hk
        | cons s vals =>
          simp only [List.map_cons, List.zip_cons_cons] at hx
          cases s with
          | v ag la =>
            simp only [buildEls] at hx
            cases hc : (Nat.beq pt.1 j && Nat.beq (sizeL la) te.T.size) with
            | false => rw [hc] at hx; cases hx
            | true =>
              rw [hc] at hx
              simp only [cond_true] at hx
              split at hx
              · rename_i r hr
                cases hx
                cases k with
                | zero => simp only [List.getElem?_cons_zero, Option.some.injEq] at hk; subst hk; exact hs (.v ag la) List.mem_cons_self
                | succ k => exact ih hr (fun s h => hs s (List.mem_cons_of_mem _ h)) k c (by simpa using hk)
              · cases hx
          | fn _ _ => simp [buildEls] at hx
          | tup _ => simp [buildEls] at hx
          | junk => simp [buildEls] at hx
    refine ⟨_, .slice (some ⟨w.heap.size, 0, none⟩) parts.length parts.length, _, _, by rw [Sem.run_bind, hrun]; rfl, .inl rfl, hch.le (fun j hj => by simp [hj]), .of1 rfl (by simp [MtA]), fun j R hj => ?_⟩
    simp only [List.mem_singleton, Prod.mk.injEq, Option.some.injEq] at hj
    obtain ⟨rfl, rfl⟩ := hj
    refine ⟨some ⟨w.heap.size, 0, none⟩, parts.length, parts.length, by simp, g2.symm, Nat.le_refl _, ?_, .inr ⟨w.heap.size, 0, _, el, rfl, by simp, heap_alloc_new' w _, ?_, ?_⟩⟩
    · have := Nat.le_mul_of_pos_right parts.length hpos
      simp only [maxL]
      omega
    · have : ((parts.map (·.2)).flatMap fun v => v.cells.toList).length = parts.length * te.T.size := by
        have : ∀ (vs : List Value), (∀ v ∈ vs, v.cells.size = te.T.size) → (vs.flatMap fun v => v.cells.toList).length = vs.length * te.T.size := by
          intro vs
          induction vs with
          | nil => intro _; simp
          | cons v vs ih =>
            intro h
            rw [List.flatMap_cons, List.length_append, ih (fun u hu => h u (List.mem_cons_of_mem _ hu)), Array.length_toList, h v List.mem_cons_self, List.length_cons, Nat.succ_mul]
            omega
        rw [this _ g3, List.length_map]
      simp [this]
    · refine MtEls.of fun k c hk => ?_
      obtain ⟨v, h5, h6⟩ := g4 k c hk
      rw [flat_cells hpos g3 h5]
      exact h6.keep hch (hbe hl hids k c hk)
  · exact exec_fail hx

/-- the zero value of any shape, as one that owns -/
theorem Tr.zeroW : ∀ (T : Ty) {id : Id} {p : List Nat}, Tr G w T (.all .w) id p (zeroCells T) T.dflt := by
  intro T
  induction T with
  | int k => intro id p; exact Tr.zero (.int k) rfl
  | bool => intro id p; exact Tr.zero .bool rfl
  | pt => intro id p; exact Tr.zero .pt rfl
  | str => intro id p; exact Tr.zero .str rfl
  | sl e ih => intro id p; exact ⟨none, 0, 0, rfl, rfl, Nat.le_refl _, Nat.zero_le _, (fun h => by cases h), .inl ⟨fun _ => rfl, rfl⟩⟩
  | pr a b iha ihb => intro id p; exact ⟨_, _, rfl, iha, ihb⟩
  | arr n e ih => intro id p; exact Tr.zero (.arr n e) rfl
theorem madeCells_at {z : List Value} {s : Nat} (hz : z.length = s) (hs : 0 < s) {n k : Nat} (hk : k < n) : cellsAt (madeCells z.toArray (n * s)) (0 + k * s) s = z := by
  have hle : (k + 1) * s ≤ n * s := Nat.mul_le_mul_right _ (by omega)
  rw [Nat.succ_mul] at hle
  refine List.ext_getElem? fun i => ?_
  rw [cellsAt_get?]
  split
  · rename_i hi
    have h1 : (k * s + i) % s = i := by rw [Nat.add_comm, Nat.add_mul_mod_self_right, Nat.mod_eq_of_lt hi]
    simp only [madeCells, Array.getElem?_map, Nat.zero_add]
    rw [Array.getElem?_range, if_pos (by omega)]
    simp [hz, h1, List.getElem!_eq_getElem?_getD, List.getElem?_eq_getElem (show i < z.length by omega)]
  · rw [List.getElem?_eq_none (by omega)]
theorem litNat_val {o : Operand} {m : Nat} (h : litNat o = some m) : ∃ k, o = .const (.int k (m : Int)) := by
  unfold litNat at h
  split at h
  · cases h; exact ⟨_, rfl⟩
  · cases h
include T hb in
theorem make_core {t0 el : TypeId} {Te : Ty} {by_ : Nat} (hT : slT tt t0 = some (Te, el, by_)) {idb : Id} (hid : ¬ old idb) {len : Option Nat} {ka kb : IntKind} {a b : Int} {e : Eff} {t : List Id}
    (hx : (sMakeI Te by_ idb len a b).exec lk = some (e, t)) (hv : ∀ p ∈ e.vc, p) :
    Does P old G w (do pure (.value (← Instr.makeSlice t0 (.int ka a) (.int kb b)))) e := by
  obtain ⟨hu, hsz, te, hte, hTe, hby⟩ := slT_spec T hT
  subst hTe
  obtain ⟨i, hi, hz, hs, hbi⟩ := info_at T hte
  have hpos : 0 < te.T.size := by omega
  have hzl : (zeroCells te.T).length = te.T.size := (Tr.zero (G := G) (w := w) te.T (F := pF) (id := default) (p := []) (noO_p _)).len
  have core : 0 ≤ a → a ≤ b → b * by_ ≤ (maxL : Int) → 0 < by_ → (Instr.makeSlice t0 (.int ka a) (.int kb b)).run P w = .ok (.slice (some ⟨w.heap.size, 0, none⟩) a.toNat b.toNat) (w.alloc (.cells (madeCells (zeroCells te.T).toArray (b.toNat * te.T.size)) el)) ∧ b ≤ (maxL : Int) := by
    intro h0 h1 h2 h3
    have hb1 : b ≤ b * (by_ : Int) := by
      have := Int.mul_le_mul_of_nonneg_left (show (1 : Int) ≤ (by_ : Int) by omega) (show 0 ≤ b by omega)
      omega
    have hr := run_make (P := P) w t0 el i (mkV te.ag (zeroCells te.T)) hu hi hz ka kb a b h0 h1 (by rw [hbi, hby, Int.mul_comm]; simp only [maxL] at h2; omega) (by simp only [maxL] at h2; omega)
    rw [mkV_cells T hte, hs] at hr
    exact ⟨hr, by omega⟩
  have fin : ∀ {R : Res} {vc : List Prop}, 0 ≤ a → a ≤ b → b * by_ ≤ (maxL : Int) → 0 < by_ → (∀ G' w', G'.ρ idb = .slice (some ⟨w.heap.size, 0, none⟩) a.toNat b.toNat → G'.g w.heap.size = .own idb [] →
      w'.heap[w.heap.size]? = some (.cells (madeCells (zeroCells te.T).toArray (b.toNat * te.T.size)) el) → b ≤ (maxL : Int) → ResOk G' w' idb R) →
      Does P old G w (do pure (.value (← Instr.makeSlice t0 (.int ka a) (.int kb b)))) ⟨atom (.own idb), [(idb, some R)], vc⟩ := by
    intro R vc h0 h1 h2 h3 h4
    obtain ⟨hrun, hbm⟩ := core h0 h1 h2 h3
    have hch := Chg.made (G := G) (w := w) hid hb (.cells (madeCells (zeroCells te.T).toArray (b.toNat * te.T.size)) el) a.toNat b.toNat
    refine ⟨_, .slice (some ⟨w.heap.size, 0, none⟩) a.toNat b.toNat, _, _, by rw [Sem.run_bind, hrun]; rfl, .inl rfl, hch.le (fun j hj => by simp [hj]), .of1 rfl (by simp [MtA]), fun j R' hj => ?_⟩
    simp only [List.mem_singleton, Prod.mk.injEq, Option.some.injEq] at hj
    obtain ⟨rfl, rfl⟩ := hj
    exact h4 _ _ (by simp) (by simp) (heap_alloc_new' w _) hbm
  have hcell : ∀ k, k < b.toNat → cellsAt (madeCells (zeroCells te.T).toArray (b.toNat * te.T.size)) (0 + k * te.T.size) te.T.size = zeroCells te.T := fun k hk => madeCells_at hzl hpos hk
  have hszC : (madeCells (zeroCells te.T).toArray (b.toNat * te.T.size)).size = b.toNat * te.T.size := size_madeCells _ _
  unfold sMakeI at hx
  split at hx
  · rename_i m
    replace ⟨hb3, hx⟩ := condR hx
    obtain ⟨rfl, rfl⟩ := exec_ok hx
    have h0 : a = (m : Int) := hv _ (by simp)
    have h1 : a ≤ b := hv _ (by simp)
    have h2 : b * by_ ≤ (maxL : Int) := hv _ (by simp)
    refine fin (by omega) h1 h2 (by simpa using hb3) fun G' w' hρ hg hh hbm => ?_
    refine ⟨_, _, _, hρ, by simp; omega, by omega, by omega, .inr ⟨_, 0, _, el, rfl, hg, hh, by rw [hszC]; omega, MtEls.of fun k l hl => ?_⟩⟩
    rw [List.getElem?_replicate] at hl
    split at hl
    · rename_i hkm
      cases hl
      rw [hcell k (by omega)]
      exact zeroOf_sound te.T
    · cases hl
  · replace ⟨hb3, hx⟩ := condR hx
    obtain ⟨rfl, rfl⟩ := exec_ok hx
    have h0 : 0 ≤ a := hv _ (by simp)
    have h1 : a ≤ b := hv _ (by simp)
    have h2 : b * by_ ≤ (maxL : Int) := hv _ (by simp)
    refine fin h0 h1 h2 (by simpa using hb3) fun G' w' hρ hg hh hbm => ?_
    have hle : a.toNat * te.T.size ≤ b.toNat * te.T.size := Nat.mul_le_mul_right _ (by omega)
    refine ⟨_, _, _, by rw [hρ], by simp, by omega, by omega, (fun h => by cases h), .inr ⟨_, 0, _, el, _, rfl, hg, hh, by rw [hszC]; omega, fun _ => ⟨rfl, by rw [hszC]; omega⟩, fun k y hy => ?_⟩⟩
    have hy' : (List.replicate a.toNat te.T.dflt)[k]? = some y := hy
    rw [List.getElem?_replicate] at hy'
    split at hy'
    · rename_i hkm
      cases hy'
      rw [hcell k (by omega)]
      exact Tr.zeroW te.T
    · cases hy'
include T hb in
theorem does_makeSlice {t0 : TypeId} {idb : Id} (hid : ¬ old idb) {len : Option Nat} {x y : SV} {vx vy : Value} {e : Eff} {t : List Id}
    (hx : (sMake tt t0 idb len x y).exec lk = some (e, t)) (hv : ∀ p ∈ e.vc, p) (mx : MtS G w x vx) (my : MtS G w y vy) :
    Does P old G w (do pure (.value (← Instr.makeSlice t0 vx vy))) e := by
  unfold sMake at hx
  split at hx
  · exact exec_fail hx
  rename_i Te el by_ hT
  split at hx
  · obtain ⟨rfl, _⟩ := mx.int
    obtain ⟨rfl, _⟩ := my.int
    exact make_core T hb hT hid hx hv
  · exact exec_fail hx
end
end Go.Sx
