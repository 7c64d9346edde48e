/- An argument, as the form reads it, in the shapes of Sx. -/
import Derived.Test.YtbnmeeajooljmaaSxZ
import Derived.SizedLaws
import Derived.OpenShut
set_option linter.all false
namespace Go.Sx
open Go Go.RowKit
section
variable {P : Program} {tt : TT} {G : Gh} {w : World}
theorem fldChk_pr {a b : Ty} {n : Nat} : ∀ {r : List TypeId} {f : Nat}, fldChk tt (.pr a b) (n + 2) (f + 1) r = fldChk tt b (n + 1) f r := by
  intro r
  induction r with
  | nil => intro f; rfl
  | cons t r ih =>
    intro f
    simp only [fldChk, ih]
    rw [show (fieldTy (.pr a b) pF (n + 2) (f + 1) 0).1 = (fieldTy b pF (n + 1) f 0).1 from fieldTy_ty b pF.r pF (n + 1) f _ 0]
theorem st_tr : ∀ (n : Nat) (T : Ty) (fts : List TypeId) (cs : List Value), fts.length = n + 1 → fldChk tt T (n + 1) 0 fts = true → cs.length = T.size →
    (∀ (f : Nat) (t : TypeId) (te : TE), fts[f]? = some t → ttOf tt t = some te → ∃ y, ∀ id p, Tr G w te.T pF id p ((cs.drop (fieldOff T (n + 1) f)).take te.T.size) y) → ∃ y, ∀ id p, Tr G w T pF id p cs y := by
  have base : ∀ (n : Nat) (T : Ty) (fts : List TypeId) (cs : List Value), fts.length = n + 1 → fldChk tt T (n + 1) 0 fts = true → cs.length = T.size → (fieldTy T pF (n + 1) 0 0).1 = T → fieldOff T (n + 1) 0 = 0 →
      (∀ (f : Nat) (t : TypeId) (te : TE), fts[f]? = some t → ttOf tt t = some te → ∃ y, ∀ id p, Tr G w te.T pF id p ((cs.drop (fieldOff T (n + 1) f)).take te.T.size) y) → ∃ y, ∀ id p, Tr G w T pF id p cs y := by
    intro n T fts cs hlen hchk hcs hT hoff h
    cases fts with
    | nil => cases hlen
    | cons t r =>
      simp only [fldChk, Bool.and_eq_true, hT] at hchk
      obtain ⟨te, hte, hteT, _⟩ := elChk_spec hchk.1
      obtain ⟨y, hy⟩ := h 0 t te rfl hte
      subst hteT
      refine ⟨y, fun id p => ?_⟩
      have := hy id p
      rw [hoff, List.drop_zero, List.take_of_length_le (Nat.le_of_eq hcs)] at this
      exact this
  intro n
  induction n with
  | zero => intro T fts cs h1 h2 h3 h4; exact base 0 T fts cs h1 h2 h3 (by cases T <;> rfl) (by cases T <;> rfl) h4
  | succ n ih =>
    intro T fts cs h1 h2 h3 h4
    cases T with
    | pr a b =>
      cases fts with
      | nil => cases h1
      | cons t r =>
        simp only [fldChk, Bool.and_eq_true] at h2
        obtain ⟨te, hte, hteT, _⟩ := elChk_spec h2.1
        obtain ⟨y, hy⟩ := h4 0 t te rfl hte
        have ha : te.T = a := hteT
        obtain ⟨z, hz⟩ := ih b r (cs.drop a.size) (by simpa using h1) (by rw [← fldChk_pr (a := a)]; exact h2.2) (by rw [List.length_drop, h3]; simp [Ty.size]) fun f t' te' hf hte' => by
          obtain ⟨u, hu⟩ := h4 (f + 1) t' te' (by simpa using hf) hte'
          refine ⟨u, fun id p => ?_⟩
          have := hu id p
          rw [show fieldOff (.pr a b) (n + 1 + 1) (f + 1) = a.size + fieldOff b (n + 1) f by
            show (fieldTy b pF (n + 1) f (0 + a.size)).2.2 = _
            rw [fieldTy_off, Nat.zero_add]] at this
          rwa [List.drop_drop]
        subst ha
        refine ⟨(y, z), fun id p => ⟨cs.take te.T.size, cs.drop te.T.size, (List.take_append_drop _ _).symm, ?_, hz id (p ++ [1])⟩⟩
        have := hy id (p ++ [0])
        rwa [show fieldOff (.pr te.T b) (n + 1 + 1) 0 = 0 from rfl, List.drop_zero] at this
    | _ => exact base (n + 1) _ fts cs h1 h2 h3 rfl rfl h4
theorem cellsAt_of {C : Array Value} {o n : Nat} {cs : List Value} (hl : cs.length = n) (h : ∀ i, i < n → C[o + i]? = cs[i]?) : cellsAt C o n = cs := by
  apply List.ext_getElem?
  intro i
  unfold cellsAt
  by_cases hi : i < n
  · rw [List.getElem?_take_of_lt hi, List.getElem?_drop, Array.getElem?_toList]
    exact h i hi
  · rw [List.getElem?_eq_none (by rw [List.length_take]; omega), List.getElem?_eq_none (by omega)]
theorem weightsAll_mem {H : Type} {e : TypeId} : ∀ {ds : List (DataW H)} {d : DataW H}, d ∈ ds → ∀ n ∈ d.weights P e, n ∈ DataW.weightsAll P e ds := by
  intro ds
  induction ds with
  | nil => intro d h; cases h
  | cons a r ih =>
    intro d h n hn
    simp only [DataW.weightsAll, List.mem_append]
    rcases List.mem_cons.1 h with rfl | h
    · exact .inl hn
    · exact .inr (ih h n hn)
theorem cellsOf_at (T : TtOk P tt) {t : TypeId} {te : TE} (h : ttOf tt t = some te) : P.cellsOf t = te.T.size := by
  obtain ⟨i, hi, _, hs, _⟩ := info_at T h
  simp [Program.cellsOf, hi, hs]
theorem bytesOf_at (T : TtOk P tt) {t : TypeId} {te : TE} (h : ttOf tt t = some te) : P.bytesOf t = te.by_ := by
  obtain ⟨i, hi, _, _, hb⟩ := info_at T h
  simp [Program.bytesOf, hi, hb]
/-- no pointer is reached from a value of the type -/
def noPtT (tt : TT) : Nat → TypeId → Bool
  | 0, _ => false
  | m + 1, t => match ttOf tt t with
    | none => false
    | some te => (match te.fts with
      | [] => (match te.T with
        | .sl _ | .arr _ _ => noPtT tt m te.el
        | .pt => false
        | _ => true)
      | a :: r => (a :: r).all (noPtT tt m))
theorem tr_of_trod {H : Type} {enc : TypeId × Value → H} (T : TtOk P tt) (hby : (tt.all fun te => Nat.blt 0 te.by_) = true) (hper : ∀ b, b < w.heap.size → G.g b = .per) :
    ∀ (fuel : Nat) (m : Nat) (t : TypeId) (te : TE) (cs : List Value) (x : DataW H × List MemPlace), noPtT tt m t = true → ttOf tt t = some te → DataW.trod enc P w 0 (fun _ => true) true fuel t cs = some x → (∀ n ∈ x.1.weights P t, n ≤ reachBytes) →
      ∃ y, ∀ id p, Tr G w te.T pF id p cs y := by
  intro fuel
  induction fuel with
  | zero => intro m t te cs x _ _ h; simp [DataW.trod] at h
  | succ fuel ih =>
    intro m t te cs x hnp ht h hwt
    cases m with
    | zero => cases hnp
    | succ m =>
    unfold noPtT at hnp
    rw [ht] at hnp
    simp only at hnp
    obtain ⟨d, hd, hdi⟩ := und_at T ht
    obtain ⟨hok, _, hchk⟩ := T.at ht
    have hrl := reachBytes_lt
    unfold teChk at hchk
    unfold TE.di at hdi
    cases hf : te.fts with
    | nil =>
      rw [hf] at hchk hdi hnp
      simp only at hchk hdi hnp
      cases hT : te.T with
      | int k =>
        rw [hT] at hdi
        have hu : P.underlying t = some (.int k) := by rw [hd]; cases d <;> simp [dinfo] at hdi; rw [hdi]
        obtain ⟨n, rfl, _, hwf⟩ := DataW.trod_int hu h
        exact ⟨n, fun _ _ => ⟨rfl, by simp only [Lit.wf, Bool.and_eq_true, decide_eq_true_eq] at hwf; exact hwf⟩⟩
      | bool =>
        rw [hT] at hdi
        have hu : P.underlying t = some .bool := by rw [hd]; cases d <;> simp [dinfo] at hdi; rfl
        obtain ⟨b, rfl, _⟩ := DataW.trod_bool hu h
        exact ⟨b, fun _ _ => rfl⟩
      | str =>
        rw [hT] at hdi
        have hu : P.underlying t = some .string := by rw [hd]; cases d <;> simp [dinfo] at hdi; rfl
        obtain ⟨b, rfl, rfl, _⟩ := DataW.trod_string hu h
        have := hwt b.data.toList.length (by simp [DataW.weights])
        exact ⟨b.data.toList, fun _ _ => ⟨rfl, by show _ ≤ 140737488355328; omega⟩⟩
      | sl e =>
        rw [hT] at hdi hchk hnp
        have hu : P.underlying t = some (.slice te.el) := by rw [hd]; cases d <;> simp [dinfo] at hdi; rw [hdi]
        obtain ⟨te', hte', he', hsz⟩ := elChk_spec hchk
        subst he'
        have hco := cellsOf_at T hte'
        have hbo := bytesOf_at T hte'
        have hb1 : 0 < te'.by_ := by have := List.all_eq_true.1 hby te' (ttOf_mem hte').1; simpa [Nat.blt_eq] using this
        rcases DataW.trod_slice hu h with ⟨rfl, _⟩ | ⟨a, len, cap, elems, rest, n, hn, rfl, rfl, _, hlc, _, hlen, hel, hsp, _⟩
        · exact ⟨[], fun _ _ => ⟨none, 0, 0, rfl, rfl, Nat.le_refl _, Nat.zero_le _, fun _ => noO_p _, .inl ⟨fun _ => rfl, rfl⟩⟩⟩
        · cases hn
          obtain ⟨hrl2, hrest⟩ := hsp rfl
          have hw0 := hwt ((elems.length + rest.length) * P.bytesOf te.el) (by simp [DataW.weights, hu])
          have hcap : cap ≤ maxL := by
            show cap ≤ 140737488355328
            rw [hlen, hrl2, hbo] at hw0
            have : cap * 1 ≤ cap * te'.by_ := Nat.mul_le_mul_left _ hb1
            have : len + (cap - len) = cap := by omega
            rw [this] at hw0
            omega
          -- every place's cells
          have hall : ∀ i, i < cap → ∃ cs', w.cells? 0 (a.add (i * te'.T.size)) te'.T.size = some cs' := by
            intro i hi
            by_cases hil : i < len
            · have := hel i hil
              rw [hco, List.getElem?_eq_getElem (by omega)] at this
              obtain ⟨cs', h1, _⟩ := Option.bind_eq_some_iff.1 this
              exact ⟨cs', h1⟩
            · have := hrest (i - len) (by omega)
              rw [hco, List.getElem?_eq_getElem (by omega), show len + (i - len) = i by omega] at this
              obtain ⟨cs', h1, _⟩ := Option.bind_eq_some_iff.1 this
              exact ⟨cs', h1⟩
          have hels : ∀ i, i < len → ∃ y, ∃ cs', w.cells? 0 (a.add (i * te'.T.size)) te'.T.size = some cs' ∧ ∀ id p, Tr G w te'.T pF id p cs' y := by
            intro i hi
            have := hel i hi
            rw [hco, List.getElem?_eq_getElem (by omega)] at this
            obtain ⟨cs', h1, h2⟩ := Option.bind_eq_some_iff.1 this
            obtain ⟨y, hy⟩ := ih m te.el te' cs' _ hnp hte' h2 fun m hm => hwt m (by
              simp only [DataW.weights, hu, List.mem_cons, List.mem_append]
              exact .inr (.inl (weightsAll_mem (List.mem_map.2 ⟨_, List.getElem_mem (by omega), rfl⟩) m hm)))
            exact ⟨y, cs', h1, hy⟩
          by_cases hc0 : cap = 0
          · subst hc0
            have : len = 0 := by omega
            subst this
            exact ⟨[], fun _ _ => ⟨some a, 0, 0, rfl, rfl, Nat.le_refl _, Nat.zero_le _, fun _ => noO_p _, .inl ⟨(fun e => by cases e), rfl⟩⟩⟩
          · have hpos : 0 < te'.T.size := Nat.pos_of_ne_zero hsz
            obtain ⟨b, off, sp⟩ := a
            obtain ⟨c0, hc0'⟩ := hall 0 (by omega)
            obtain ⟨_, hl0, hcell0⟩ := World.cells?_some hc0'
            have h00 := hcell0 0 hpos
            rw [Nat.zero_mul, show (({ block := b, off := off, spot := sp } : Addr).add 0).add 0 = ⟨b, off, sp⟩ by simp [Addr.add], List.getElem?_eq_getElem (by omega)] at h00
            have hheap : ∃ C tt' fz, w.heap[b]? = some (.cells C tt' fz) ∧ sp = none := by
              unfold World.cell? at h00
              split at h00
              · rename_i C tt' fz hh
                refine ⟨C, tt', fz, hh, ?_⟩
                cases sp with
                | none => rfl
                | some _ => simp at h00
              · cases h00
            obtain ⟨C, tt', fz, hh, rfl⟩ := hheap
            have hC : ∀ i cs', w.cells? 0 ((⟨b, off, none⟩ : Addr).add (i * te'.T.size)) te'.T.size = some cs' → cs'.length = te'.T.size ∧ ∀ k, k < te'.T.size → C[off + i * te'.T.size + k]? = cs'[k]? := by
              intro i cs' hcs
              obtain ⟨_, hl1, hc1⟩ := World.cells?_some hcs
              refine ⟨hl1, fun k hk => ?_⟩
              have := hc1 k hk
              rw [addr_add, addr_add] at this
              rw [← this, World.cell?, hh]
              rfl
            have hsize : off + cap * te'.T.size ≤ C.size := by
              obtain ⟨c1, hc1⟩ := hall (cap - 1) (by omega)
              obtain ⟨hl1, hg⟩ := hC _ _ hc1
              have := hg (te'.T.size - 1) (by omega)
              rw [List.getElem?_eq_getElem (by omega)] at this
              have h3 := (Array.getElem?_eq_some_iff.1 this).1
              have h4 : cap * te'.T.size = (cap - 1) * te'.T.size + te'.T.size := by
                rw [← Nat.succ_mul]; congr 1; omega
              omega
            have hlsz : off + len * te'.T.size ≤ C.size := by
              have := Nat.mul_le_mul_right te'.T.size hlc
              omega
            refine ⟨(List.range len).map fun i => if h : i < len then Classical.choose (hels i h) else te'.T.dflt, fun id p => ⟨some ⟨b, off, none⟩, len, cap, rfl, by simp, hlc, Nat.le_trans hlc hcap, fun _ => noO_p _, .inr ⟨b, off, C, tt', fz, rfl, hper b (Array.getElem?_eq_some_iff.1 hh).1, hh, hlsz, (fun e => by cases e), fun j y hy => ?_⟩⟩⟩
            rw [List.getElem?_map, Option.map_eq_some_iff] at hy
            obtain ⟨i, hi, rfl⟩ := hy
            have hil := (List.getElem?_eq_some_iff.1 hi).1
            rw [List.length_range] at hil
            rw [List.getElem?_range hil] at hi
            cases hi
            rw [dif_pos hil]
            obtain ⟨cs', h1, h2⟩ := Classical.choose_spec (hels j hil)
            obtain ⟨hl1, hg⟩ := hC _ _ h1
            rw [cellsAt_of hl1 hg]
            exact h2 id _
      | arr n e =>
        rw [hT] at hdi hchk hnp
        have hu : P.underlying t = some (.array n te.el) := by rw [hd]; cases d <;> simp [dinfo] at hdi; obtain ⟨rfl, rfl⟩ := hdi; rfl
        obtain ⟨te', hte', he', hsz⟩ := elChk_spec hchk
        subst he'
        have hco := cellsOf_at T hte'
        have hct := cellsOf_at T ht
        rw [hT] at hct
        obtain ⟨xs, m, hn, rfl, hlen, hxl, hel⟩ := DataW.trod_array hu h
        cases hn
        have hels : ∀ i, i < n → ∃ y, ∀ id p, Tr G w te'.T pF id p ((cs.drop (i * te'.T.size)).take te'.T.size) y := by
          intro i hi
          have := hel i hi
          rw [hco, List.getElem?_eq_getElem (by omega)] at this
          exact ih m te.el te' _ _ hnp hte' this fun k hk => hwt k (by
            simp only [DataW.weights, hu]
            exact weightsAll_mem (List.mem_map.2 ⟨_, List.getElem_mem (by omega), rfl⟩) k hk)
        refine ⟨(List.range n).map fun i => if h : i < n then Classical.choose (hels i h) else te'.T.dflt, fun id p => ⟨by rw [hlen, hct]; rfl, by simp, fun j y hy => ?_⟩⟩
        rw [List.getElem?_map, Option.map_eq_some_iff] at hy
        obtain ⟨i, hi, rfl⟩ := hy
        have hil := (List.getElem?_eq_some_iff.1 hi).1
        rw [List.length_range] at hil
        rw [List.getElem?_range hil] at hi
        cases hi
        rw [dif_pos hil]
        exact Classical.choose_spec (hels j hil) default []
      | pr a b => rw [hT] at hchk; cases hchk
      | pt => rw [hT] at hnp; cases hnp
    | cons t0 r =>
      rw [hf] at hchk hdi hnp
      simp only at hchk hdi hnp
      have hu : ∃ fs : Array Field, P.underlying t = some (.struct fs) ∧ fs.toList.map (fun f => (f.offset, f.type)) = offsFrom te.T te.nf 0 (t0 :: r) := by
        rw [hd]; cases d <;> simp [dinfo] at hdi; exact ⟨_, rfl, hdi⟩
      obtain ⟨fs, hu, hfs⟩ := hu
      have hnf := hok.nf
      rw [hf] at hnf
      have hct := cellsOf_at T ht
      obtain ⟨xs, n, hn, rfl, hlen, hxl, hel⟩ := DataW.trod_struct hu h
      cases hn
      have hoffs : ∀ (l : List TypeId) (k j : Nat) (t' : TypeId), l[j]? = some t' → (offsFrom te.T te.nf k l)[j]? = some (fieldOff te.T te.nf (k + j), t') := by
        intro l
        induction l with
        | nil => intro k j t' h; cases h
        | cons a l ihl =>
          intro k j t' h
          cases j with
          | zero => simp only [List.getElem?_cons_zero, Option.some.injEq] at h; subst h; simp [offsFrom]
          | succ j =>
            simp only [List.getElem?_cons_succ] at h
            simp only [offsFrom, List.getElem?_cons_succ]
            rw [ihl (k + 1) j t' h]
            congr 3; omega
      refine st_tr r.length te.T (t0 :: r) cs (by simp) (by rw [← (by simpa using hnf : te.nf = r.length + 1)]; exact hchk) (by rw [hlen, hct]) fun f t' te' hft hte' => ?_
      have h1 := hoffs (t0 :: r) 0 f t' hft
      rw [← hfs, List.getElem?_map, Option.map_eq_some_iff] at h1
      obtain ⟨fd, hfd, hfe⟩ := h1
      simp only [Prod.mk.injEq, Nat.zero_add] at hfe
      have hfd' : fs[f]? = some fd := by rwa [Array.getElem?_toList] at hfd
      have := hel f fd hfd'
      have hfl : f < xs.length := by rw [hxl]; exact (Array.getElem?_eq_some_iff.1 hfd').1
      rw [hfe.1, hfe.2, cellsOf_at T hte', List.getElem?_eq_getElem hfl] at this
      rw [(by simpa using hnf : te.nf = r.length + 1)] at this
      exact ih m t' te' _ _ (List.all_eq_true.1 hnp t' (List.mem_of_getElem? hft)) hte' this fun k hk => hwt k (by
        simp only [DataW.weights, hu]
        refine DataW.weights_mem_each (j := f) (t := t') (d := (xs[f]).1) ?_ ?_ k hk
        · rw [List.getElem?_map, hfd]; simp [hfe.2]
        · rw [List.getElem?_map, List.getElem?_eq_getElem hfl]; rfl)
end
end Go.Sx
