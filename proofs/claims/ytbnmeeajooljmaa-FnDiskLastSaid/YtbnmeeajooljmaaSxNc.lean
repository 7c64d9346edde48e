/- Symbolic execution, part Nc: arrays of texts, compared. -/
import Derived.Test.YtbnmeeajooljmaaSxNb
set_option linter.all false
namespace Go.Sx
open Go Go.RowKit

section
variable {P : Program} {tt : TT} (T : TtOk P tt) {old : Id → Prop} {G : Gh} {w : World} {lk : Id → Option Res} (hb : ∀ b, G.g b ≠ .no → b < w.heap.size)
theorem arr_cells {n : Nat} {F : Fl} {a : List Str} {v : Value} (m : MtV G w true [.d (.arr n .str) F a] v) : ∃ cs : List Value, v = .agg cs.toArray ∧ a.length = n ∧ ∀ j, j < n → cs[j]? = some (.string (mkS (a.getD j []))) := by
  obtain ⟨cs, rfl, h⟩ := m
  obtain ⟨_, h1, h2, h3⟩ := h.one_inv
  refine ⟨cs, rfl, h2, fun j hj => ?_⟩
  have hja : j < List.length a := by rw [h2]; exact hj
  have := (h3 j (a.getD j []) (by rw [List.getD, List.getElem?_eq_getElem hja]; rfl)).1
  have h4 : ((cs.drop (j * 1)).take 1)[0]? = some (.string (mkS (a.getD j []))) := by
    rw [show (Ty.str).size = 1 from rfl] at this
    rw [this]; rfl
  rw [List.getElem?_take_of_lt (by omega), List.getElem?_drop, Nat.mul_one, Nat.add_zero] at h4
  exact h4
include T in
theorem eqItems_str {el : TypeId} (hs : isStrT tt el = true) (d : Nat) {xs ys : List Value} {a b : List Str} : ∀ (is : List Nat), (∀ j ∈ is, xs[j]? = some (.string (mkS (a.getD j []))) ∧ ys[j]? = some (.string (mkS (b.getD j [])))) →
    (Op.eqItems (d + 1) el 1 xs.toArray ys.toArray is).run P w = .ok (is.all fun j => decide (a.getD j [] = b.getD j [])) w := by
  have hag : (isAgg el).run P w = .ok false w := by
    unfold isStrT at hs
    split at hs
    · rename_i hte; exact run_agg_at T hte w
    · cases hs
  intro is
  induction is with
  | nil => intro _; simp [Op.eqItems]
  | cons j is ih =>
    intro h
    obtain ⟨h1, h2⟩ := h j List.mem_cons_self
    have p1 : (part el xs.toArray (j * 1)).run P w = .ok (.string (mkS (a.getD j []))) w := by
      simp [part, hag, h1]
    have p2 : (part el ys.toArray (j * 1)).run P w = .ok (.string (mkS (b.getD j []))) w := by
      simp [part, hag, h2]
    simp only [Op.eqItems, Sem.run_bind, p1, p2, Result.andThen_ok, run_equalIn_string w d el _ _ (strT T hs), str_eq]
    cases hd : decide (a.getD j [] = b.getD j []) with
    | false => simp only [Bool.not_false, if_true, Sem.run_pure, List.all_cons, hd, Bool.false_and]
    | true =>
      have := ih fun k hk => h k (List.mem_cons_of_mem _ hk)
      simp only [Bool.not_true, Bool.false_eq_true, if_false, List.all_cons, hd, Bool.true_and]
      exact this
theorem all_getD {n : Nat} {a b : List Str} (ha : a.length = n) (hb : b.length = n) : ((List.range n).all fun j => decide (a.getD j [] = b.getD j [])) = decide (a = b) := by
  refine Bool.eq_iff_iff.2 ?_
  simp only [List.all_eq_true, List.mem_range, decide_eq_true_eq]
  constructor
  · intro h
    refine List.ext_getElem (by omega) fun i h1 h2 => ?_
    have := h i (by omega)
    rw [List.getD, List.getD, List.getElem?_eq_getElem h1, List.getElem?_eq_getElem h2] at this
    exact this
  · rintro rfl j _
    rfl
include T hb in
theorem does_binArr {op : BinOp} {xT : TypeId} {ox oy : Operand} {x y : SV} {vx vy : Value} {e : Eff} {t : List Id} (hx : (sBinArr tt xT op x y).exec lk = some (e, t)) (mx : MtS G w x vx) (my : MtS G w y vy) :
    Does P old G w (do pure (.value (← (do eqGuard op xT ox oy vx vy; binOp op xT vx vy)))) e := by
  unfold sBinArr at hx
  split at hx
  · rename_i n el hT
    replace ⟨hs, hx⟩ := condR hx
    split at hx
    · split at hx
      · rename_i F1 F2 T1 a0 T2 b0 m a m' b
        replace ⟨hE, hx⟩ := condR hx
        simp only [Bool.and_eq_true] at hE
        have h1 := Nat.eq_of_beq_eq_true hE.1
        have h2 := Nat.eq_of_beq_eq_true hE.2
        subst h1
        subst h2
        obtain ⟨xs, rfl, la, ga⟩ := arr_cells mx
        obtain ⟨ys, rfl, lb, gb⟩ := arr_cells my
        obtain ⟨hu, _, te, hte, hteT⟩ := arT_spec T hT
        obtain ⟨i, hi, _, hsz, _⟩ := info_at T hte
        have hguard : P.eqGuardType P.depth xT = false := by
          have hd : P.depth = (2 * (P.types.size + Made.depth)) + 1 + 1 := rfl
          rw [hd]
          simp only [Program.eqGuardType, hu, strT T hs]
        have hcell : P.cellsOf el = 1 := by simp [Program.cellsOf, hi, hsz, hteT, Ty.size]
        have heq : (Op.equal xT (.agg xs.toArray) (.agg ys.toArray)).run P w = .ok (decide ((a : List Str) = b)) w := by
          show (Op.equalIn (9998 + 1 + 1) xT _ _).run P w = _
          rw [run_equalIn_array w (9998 + 1) xs.toArray ys.toArray hu hi, hcell, eqItems_str T hs 9998 (a := a) (b := b) _ (fun j hj => ⟨ga j (List.mem_range.1 hj), gb j (List.mem_range.1 hj)⟩), all_getD la lb]
        have hgd := run_eqGuard_agg w op xT ox oy xs.toArray ys.toArray hguard
        split at hx
        · obtain ⟨rfl, _⟩ := exec_ok hx
          exact .pure hb (v := .bool (decide ((a : List Str) = b))) (by simp [hgd, binOp, heq]) .ofBool
        · obtain ⟨rfl, _⟩ := exec_ok hx
          exact .pure hb (v := .bool (!decide ((a : List Str) = b))) (by simp [hgd, binOp, heq]) .ofBool
        · exact exec_fail hx
      · exact exec_fail hx
    · exact exec_fail hx
  · exact exec_fail hx
omit hb in
include T in
theorem eqFields_flat (d : Nat) (xs ys : Array Value) : ∀ (ts : List TypeId) (l l' : List At) (cs cs' : List Value) (k : Nat) (fs : List Field) (r : Bool), eqFl tt ts l l' = some r → MtL G w l cs → MtL G w l' cs' →
    (∀ i, i < ts.length → xs[k + i]? = cs[i]?) → (∀ i, i < ts.length → ys[k + i]? = cs'[i]?) → fs.map (fun f => f.type) = ts → (∀ i f, fs[i]? = some f → f.offset = k + i) → (∀ f ∈ fs, f.name ≠ "_") → (Op.eqFields (d + 1) xs ys fs).run P w = .ok r w := by
  intro ts
  induction ts with
  | nil =>
    intro l l' cs cs' k fs r h _ _ _ _ hf _ _
    have : fs = [] := by simpa using hf
    subst this
    cases l <;> cases l' <;> simp [eqFl] at h
    subst h
    simp [Op.eqFields]
  | cons t ts ih =>
    intro l l' cs cs' k fs r h m m' hx hy hf ho hn
    unfold eqFl at h
    split at h
    · cases ‹t :: ts = []›
    · rename_i t1 ts1 T1 F1 a1 r1 T2 F2 b1 r2 e1
      cases e1
      split at h
      · rename_i tq Tf nf el by_ fts hte
        split at h
        · rename_i v hv'
          cases fs with
          | nil => cases hf
          | cons f fs =>
          simp only [List.map_cons, List.cons.injEq] at hf
          obtain ⟨hft, hfs⟩ := hf
          have hfo : f.offset = k := by simpa using ho 0 f rfl
          have hag : (isAgg f.type).run P w = .ok false w := by rw [hft]; exact run_agg_at T hte w
          obtain ⟨dd, hdd, hdi⟩ := und_at T hte
          have hpl := di_plain T hte rfl
          simp only at hpl
          subst hpl
          obtain ⟨c1, c2, rfl, ma, mr⟩ := m
          obtain ⟨c1', c2', rfl, mb, mr'⟩ := m'
          have key : ∀ {va vb : Value} {q : Bool}, c1 = [va] → c1' = [vb] → (Op.equalIn (d + 1) f.type va vb).run P w = .ok q w → r = (q && v) → (Op.eqFields (d + 1) xs ys (f :: fs)).run P w = .ok r w := by
            rintro va vb q rfl rfl hq rfl
            have p1 : (part f.type xs f.offset).run P w = .ok va w := by
              have := hx 0 (by simp)
              simp only [Nat.add_zero, List.cons_append, List.getElem?_cons_zero] at this
              simp [part, hag, hfo, this]
            have p2 : (part f.type ys f.offset).run P w = .ok vb w := by
              have := hy 0 (by simp)
              simp only [Nat.add_zero, List.cons_append, List.getElem?_cons_zero] at this
              simp [part, hag, hfo, this]
            have hnm : f.name ≠ "_" := hn f List.mem_cons_self
            simp only [Op.eqFields, hnm, ne_eq, not_false_eq_true, if_true, Sem.run_bind, p1, p2, Result.andThen_ok, hq]
            cases q with
            | false => simp
            | true =>
              simp only [Bool.not_true, Bool.false_eq_true, if_false, Bool.true_and]
              refine ih r1 r2 c2 c2' (k + 1) fs v hv' mr mr' (fun i hi => ?_) (fun i hi => ?_) hfs (fun i g hg => ?_) (fun g hg => hn g (List.mem_cons_of_mem _ hg))
              · have := hx (i + 1) (by simp; omega)
                rw [show k + 1 + i = k + (i + 1) by omega, this]; rfl
              · have := hy (i + 1) (by simp; omega)
                rw [show k + 1 + i = k + (i + 1) by omega, this]; rfl
              · have := ho (i + 1) g (by simpa using hg)
                rw [this]; omega
          split at h
          · rename_i kf na nb
            cases h
            have hu : P.underlying f.type = some (.int kf) := by
              rw [hft, hdd]; cases dd <;> simp [dinfo, TE.di] at hdi; rw [hdi]
            obtain ⟨_, g1, _⟩ := ma
            obtain ⟨_, g2, _⟩ := mb
            refine key g1 g2 (run_equalIn_int w d _ _ _ _ _ hu) (by congr 1)
          · cases h
            have hu : P.underlying f.type = some .bool := by
              rw [hft, hdd]; cases dd <;> simp [dinfo, TE.di] at hdi; rfl
            obtain ⟨_, g1⟩ := ma
            obtain ⟨_, g2⟩ := mb
            exact key g1 g2 (run_equalIn_bool' w d _ _ _ hu) (by congr 1)
          · cases h
            have hu : P.underlying f.type = some .string := by
              rw [hft, hdd]; cases dd <;> simp [dinfo, TE.di] at hdi; rfl
            obtain ⟨_, g1, _⟩ := ma
            obtain ⟨_, g2, _⟩ := mb
            exact key g1 g2 (run_equalIn_string w d _ _ _ hu) (by rw [str_eq])
          · cases h
        · cases h
      · cases h
    · cases h
omit hb in
theorem consec_at {T0 : Ty} {nf : Nat} : ∀ {l : List TypeId} {i j : Nat}, consec T0 nf i l = true → j < l.length → fieldOff T0 nf (i + j) = i + j := by
  intro l
  induction l with
  | nil => intro i j _ h; cases h
  | cons t r ih =>
    intro i j h hj
    simp only [consec, Bool.and_eq_true] at h
    cases j with
    | zero => exact Nat.eq_of_beq_eq_true h.1
    | succ j => have := ih (i := i + 1) (j := j) h.2 (by simpa using hj); rw [show i + (j + 1) = i + 1 + j by omega]; exact this
include T hb in
theorem does_binSt {mt : MT} (TM : MtOk P mt) {op : BinOp} {xT : TypeId} (hq : eqT mt xT = true) {ox oy : Operand} {x y : SV} {vx vy : Value} {e : Eff} {t : List Id} (hx : (sBinSt tt xT op x y).exec lk = some (e, t)) (mx : MtS G w x vx) (my : MtS G w y vy) :
    Does P old G w (do pure (.value (← (do eqGuard op xT ox oy vx vy; binOp op xT vx vy)))) e := by
  have hc := TM.2 xT hq
  unfold sBinSt at hx
  split at hx
  · rename_i t1 T1 nf el by_ fts l l' hte
    replace ⟨hcc, hx⟩ := condR hx
    simp only [Bool.and_eq_true] at hcc
    split at hx
    · rename_i r hr
      obtain ⟨cs, rfl, m⟩ := mx
      obtain ⟨cs', rfl, m'⟩ := my
      obtain ⟨dd, hdd, hdi⟩ := und_at T hte
      have hlen : 0 < fts.length := by simpa [Nat.blt_eq] using hcc.2
      unfold eqChk at hc
      simp only [Bool.and_eq_true, Bool.not_eq_true'] at hc
      obtain ⟨hc1, hc2, hc3⟩ := hc
      rw [hdd] at hc3
      cases dd with
      | struct fs =>
        simp only [List.all_eq_true, bne_iff_ne, ne_eq] at hc3
        have hfo : P.fieldsOf xT = fs := by simp [Program.fieldsOf, hdd]
        have hmap : fs.toList.map (fun f => (f.offset, f.type)) = offsFrom T1 nf 0 fts := by
          unfold TE.di at hdi
          cases fts with
          | nil => simp at hlen
          | cons a r => simpa [dinfo] using hdi
        have hty : fs.toList.map (fun f => f.type) = fts := by
          have : (fs.toList.map (fun f => (f.offset, f.type))).map Prod.snd = (offsFrom T1 nf 0 fts).map Prod.snd := by rw [hmap]
          rw [List.map_map] at this
          have h2 : ∀ (q : List TypeId) (i : Nat), (offsFrom T1 nf i q).map Prod.snd = q := by
            intro q
            induction q with
            | nil => intro i; rfl
            | cons a b ihq => intro i; simp [offsFrom, ihq]
          rw [h2] at this
          exact this
        have hoff : ∀ i f, fs.toList[i]? = some f → f.offset = 0 + i := by
          intro i f hf
          have h3 : (fs.toList.map (fun f => (f.offset, f.type)))[i]? = some (f.offset, f.type) := by rw [List.getElem?_map, hf]; rfl
          rw [hmap, offsFrom_get] at h3
          rw [Option.map_eq_some_iff] at h3
          obtain ⟨q, hq1, hq2⟩ := h3
          have := consec_at (i := 0) (j := i) hcc.1 (List.getElem?_eq_some_iff.1 hq1).1
          simp only [Prod.mk.injEq] at hq2
          rw [← hq2.1, this]
        have heq : (Op.equalIn 10000 xT (.agg cs.toArray) (.agg cs'.toArray)).run P w = .ok r w := by
          show (Op.equalIn (9999 + 1) xT _ _).run P w = _
          rw [run_equalIn_struct w 9999 xT cs.toArray cs'.toArray (by rw [hfo]; exact hdd) hc1, hfo]
          exact eqFields_flat T 9998 cs.toArray cs'.toArray fts l l' cs cs' 0 fs.toList r hr m m' (fun i _ => by simp) (fun i _ => by simp) hty hoff (fun f hf => hc3 f hf)
        have hgd := run_eqGuard_agg w op xT ox oy cs.toArray cs'.toArray hc2
        split at hx
        · obtain ⟨rfl, _⟩ := exec_ok hx
          exact .pure hb (v := .bool r) (by rw [Sem.run_bind, Sem.run_bind, hgd, Result.andThen_ok, run_eql_struct, heq]; rfl) .ofBool
        · obtain ⟨rfl, _⟩ := exec_ok hx
          exact .pure hb (v := .bool (!r)) (by rw [Sem.run_bind, Sem.run_bind, hgd, Result.andThen_ok, run_neq_struct, heq]; rfl) .ofBool
        · exact exec_fail hx
      | _ => cases hc3
    · exact exec_fail hx
  · exact exec_fail hx
include T hb in
theorem does_cut {t0 : TypeId} {idb : Id} (hid : ¬ old idb) {x i : SV} {v vi : Value} {e : Eff} {t : List Id} (hrs : ∀ id R, lk id = some R → ResOk G w id R) (hx : (sCut tt t0 idb x i).exec lk = some (e, t)) (hv : ∀ p ∈ e.vc, p) (mx : MtS G w x v) (mi : MtS G w i vi) :
    Does P old G w (do pure (.value (← Instr.sliceAt t0 v (some vi) none none))) e := by
  unfold sCut at hx
  split at hx
  · rename_i e0 el by_ id k F n hsl
    replace ⟨t', hx, _⟩ := exec_need hx
    have hv1 := mx.own
    obtain ⟨rfl, _⟩ := mi.int
    split at hx
    · rename_i e1 f l hlk
      replace ⟨hc, hx⟩ := condR hx
      simp only [Bool.and_eq_true] at hc
      have := Ty.eq_of_beq hc.1
      subst this
      obtain ⟨rfl, _⟩ := exec_ok hx
      obtain ⟨h0, h1⟩ : 0 ≤ n ∧ n < (l.length : Int) := hv _ (by simp)
      obtain ⟨h2, h3, te, h4, h5, _⟩ := slT_spec T hsl
      obtain ⟨A, m, c, hcs, hm, hcl, hml, hwf, hblk⟩ := hrs _ _ hlk
      have hm' : m = l.length := hm
      subst hm'
      have h7 : n.toNat < l.length := idx_lt (β := e1.den) h0 h1
      have hcl' : l.length ≤ c := hcl
      have hρ : G.ρ id = .slice A l.length c := by simpa using hcs
      rcases hblk with ⟨_, hz⟩ | ⟨b, off, C, tb, fz, rfl, hl, hh, hs, hw, hj⟩
      · exact absurd (Nat.lt_of_lt_of_le h7 hcl') (by rw [hz]; exact Nat.not_lt_zero _)
      · have hl' : G.g b = .own id [] := hl
        obtain ⟨rfl, hsz⟩ := hw rfl
        have hch := Chg.turn (old := old) (chg := fun j => j = id) (G := G) (w := w) hb (R := fun i q => if i = id then some q else none) (fun i q r h => by
          by_cases hi : i = id
          · exact hi
          · simp [hi] at h) hid (v := .slice (some ⟨b, off + n.toNat * e1.size, none⟩) (l.length - n.toNat) (c - n.toNat)) rfl
        have hne : ¬ c = n.toNat := by omega
        have hmul : (l.length - n.toNat) * e1.size + n.toNat * e1.size = l.length * e1.size := by rw [← Nat.add_mul]; congr 1; omega
        have hmulc : (c - n.toNat) * e1.size + n.toNat * e1.size = c * e1.size := by rw [← Nat.add_mul]; congr 1; omega
        refine ⟨_, .slice (some ⟨b, off + n.toNat * e1.size, none⟩) (l.length - n.toNat) (c - n.toNat), w, _, ?_, .inl rfl, hch.le (fun j hj => by simp [hj]), .of1 rfl (by simp [MtA]), fun j R' hj' => ?_⟩
        · obtain ⟨hr, _, _⟩ := run_sliceBounds (P := P) (isS := true) (len := l.length) (lo := some n) (hi := none) (vlo := some (.int k n)) (vhi := none) hcl (fun v h => by cases h; exact ⟨_, _, rfl, rfl⟩) (fun h => by cases h) (fun v h => by cases h) (fun _ => rfl) ⟨h0, Int.le_of_lt h1⟩ w
          simp only [loOf, hiOf] at hr
          rw [hv1, hρ]
          simp [Instr.sliceAt, Instr.slice, run_underlying h2, hr, run_size_at T h4, h5, hne, Addr.add]
        · simp only [List.mem_cons, Prod.mk.injEq, Option.some.injEq, List.not_mem_nil, or_false, reduceCtorEq, and_false, false_or] at hj'
          obtain ⟨rfl, rfl⟩ := hj'
          refine ⟨some ⟨b, off + n.toNat * e1.size, none⟩, l.length - n.toNat, c - n.toNat, by simp, by simp, by omega, by omega, hwf, .inr ⟨b, off + n.toNat * e1.size, C, tb, (0, 0), rfl, by show turned G _ _ b = _; simp [turned, hl'], hh, by omega, fun _ => ⟨rfl, by omega⟩, fun q y hq => ?_⟩⟩
          have hq' : (l.drop n.toNat)[q]? = some y := hq
          rw [List.getElem?_drop] at hq'
          have h6 := hj (n.toNat + q) y hq'
          rw [show off + (n.toNat + q) * e1.size = off + n.toNat * e1.size + q * e1.size by rw [Nat.add_mul]; omega] at h6
          exact h6.keep hch.pb hc.2
    · exact exec_fail hx
  · exact exec_fail hx
end
end Go.Sx
