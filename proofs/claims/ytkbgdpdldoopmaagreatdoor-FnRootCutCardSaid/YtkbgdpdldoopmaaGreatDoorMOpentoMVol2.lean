/- Several texts, one behind the other. -/
import Derived.Test.YtkbgdpdldoopmaaGreatDoorSxZ
import Derived.SizedLaws
import Derived.OpenShut
import Derived.Test.YtkbgdpdldoopmaaGreatDoorSxTtoSxY
import GoSem.ClaimWide
import Derived.WideShapes
import Derived.Handed
import Derived.Shelf.Vars
import Derived.RowKitTokens
import Derived.ChangeVars
import Derived.RangeFuncBox
import Derived.RangeFuncFrom
import Derived.RangeFuncNested
import Derived.RangeFuncBound
import Derived.RangeFuncCalls
import Derived.RangeFuncLeaves
import Derived.Shelf.Abstract
import Derived.Shelf.RegionOpen
import Derived.WalkKit
import Derived.OwnWalkIn
import Derived.TacticsInMore
import Derived.LoopNIn
import Derived.LoopIn
import Derived.Test.YtkbgdpdldoopmaaGreatDoorProg
import Derived.Shelf.Strings.Builder1
import Derived.Shelf.Strings.Builder2
import Derived.Shelf.Strings.OnBuilder
import Derived.Shelf.Strings.BuilderF
import Derived.Shelf.Strings.BuilderK
import Derived.Shelf.Utf8.RuneCount
import Derived.Shelf.Strings.Builder2Cap
import Derived.Shelf.Strconv.Atoi
import Derived.Shelf.Strconv.Itoa0
import Derived.Shelf.Strconv.Itoa1
import Derived.Shelf.LaysM
import Derived.Shelf.Strconv.Itoa2
import Derived.Shelf.Strconv.Itoa3
import Derived.Shelf.Strconv.AtoiErrFast
import Derived.Shelf.Strconv.ParseIntEmpty
import Derived.Shelf.Strconv.AtoiFail
import Derived.Shelf.Strconv.Clone
import Derived.Shelf.Strconv.SyntaxError
import Derived.Shelf.LaysC
import Derived.Shelf.Strconv.ToError
import Derived.Shelf.Strconv.AtoiErr
import Derived.Shelf.Strconv.Lower
import Derived.Shelf.Strconv.ParseUint10
import Derived.Shelf.Strconv.ParseUint10Empty
import Derived.Shelf.Strconv.ParseUint10Any
import Derived.Shelf.Strconv.ParseInt10
import Derived.Shelf.Strconv.AtoiLong
import Derived.Shelf.Strconv.AtoiInnerAll
import Derived.Shelf.Strconv.RangeError
import Derived.Shelf.Strconv.ToErrorRange
import Derived.Shelf.Strconv.AtoiAll
import Derived.Shelf.Strconv.ErrVarAll
import Derived.Shelf.Strconv.ParseUintEmpty
import Derived.Shelf.Strconv.ParseUint10b64
import Derived.Shelf.Strconv.ParseUint10b32
import Derived.Shelf.Strconv.ParseUint10b16
import Derived.Shelf.Strconv.ParseUint10b8
import Derived.Shelf.Strconv.ParseUint10At
import Derived.Shelf.Strings.Search1
import Derived.Shelf.Strings.Search2
import Derived.Shelf.Strings.Search3
import Derived.Shelf.Strings.Cut
import Derived.Shelf.Strings.Count
import Derived.Shelf.Strings.Shaped
import Derived.Shelf.Strings.Prefix
import Derived.Shelf.Strings.Split
import Derived.Shelf.Strings.SplitShaped
import Derived.Shelf.Unicode.Decode
import Derived.Shelf.Strings.RuneCount
import Derived.Shelf.Strings.Explode
import Derived.Shelf.Unicode.DecodeSlow
import Derived.Shelf.Unicode.DecodeAny
import Derived.Shelf.Strings.BuilderCap
import Derived.Lib.ItoaLen
import Derived.Lib.Join
set_option linter.all false
/- An argument, as the form reads it, in the shapes of Sx. -/
namespace Go.Sx
open Go Go.RowKit
section
variable {P : Program} {tt : TT} {G : Gh} {w : World}
theorem fldChk_pr {a b : Ty} {n : Nat} : ∀ {r : List TypeId} {f : Nat}, fldChk tt (.pr a b) (n + 2) (f + 1) r = fldChk tt b (n + 1) f r := by
  intro r
  induction r with
  | nil => intro f; rfl
  | cons t r ih =>
    intro f
    simp only [fldChk, ih]
    rw [show (fieldTy (.pr a b) pF (n + 2) (f + 1) 0).1 = (fieldTy b pF (n + 1) f 0).1 from fieldTy_ty b pF.r pF (n + 1) f _ 0]
theorem st_tr : ∀ (n : Nat) (T : Ty) (fts : List TypeId) (cs : List Value), fts.length = n + 1 → fldChk tt T (n + 1) 0 fts = true → cs.length = T.size →
    (∀ (f : Nat) (t : TypeId) (te : TE), fts[f]? = some t → ttOf tt t = some te → ∃ y, ∀ id p, Tr G w te.T pF id p ((cs.drop (fieldOff T (n + 1) f)).take te.T.size) y) → ∃ y, ∀ id p, Tr G w T pF id p cs y := by
  have base : ∀ (n : Nat) (T : Ty) (fts : List TypeId) (cs : List Value), fts.length = n + 1 → fldChk tt T (n + 1) 0 fts = true → cs.length = T.size → (fieldTy T pF (n + 1) 0 0).1 = T → fieldOff T (n + 1) 0 = 0 →
      (∀ (f : Nat) (t : TypeId) (te : TE), fts[f]? = some t → ttOf tt t = some te → ∃ y, ∀ id p, Tr G w te.T pF id p ((cs.drop (fieldOff T (n + 1) f)).take te.T.size) y) → ∃ y, ∀ id p, Tr G w T pF id p cs y := by
    intro n T fts cs hlen hchk hcs hT hoff h
    cases fts with
    | nil => cases hlen
    | cons t r =>
      simp only [fldChk, Bool.and_eq_true, hT] at hchk
      obtain ⟨te, hte, hteT, _⟩ := elChk_spec hchk.1
      obtain ⟨y, hy⟩ := h 0 t te rfl hte
      subst hteT
      refine ⟨y, fun id p => ?_⟩
      have := hy id p
      rw [hoff, List.drop_zero, List.take_of_length_le (Nat.le_of_eq hcs)] at this
      exact this
  intro n
  induction n with
  | zero => intro T fts cs h1 h2 h3 h4; exact base 0 T fts cs h1 h2 h3 (by cases T <;> rfl) (by cases T <;> rfl) h4
  | succ n ih =>
    intro T fts cs h1 h2 h3 h4
    cases T with
    | pr a b =>
      cases fts with
      | nil => cases h1
      | cons t r =>
        simp only [fldChk, Bool.and_eq_true] at h2
        obtain ⟨te, hte, hteT, _⟩ := elChk_spec h2.1
        obtain ⟨y, hy⟩ := h4 0 t te rfl hte
        have ha : te.T = a := hteT
        obtain ⟨z, hz⟩ := ih b r (cs.drop a.size) (by simpa using h1) (by rw [← fldChk_pr (a := a)]; exact h2.2) (by rw [List.length_drop, h3]; simp [Ty.size]) fun f t' te' hf hte' => by
          obtain ⟨u, hu⟩ := h4 (f + 1) t' te' (by simpa using hf) hte'
          refine ⟨u, fun id p => ?_⟩
          have := hu id p
          rw [show fieldOff (.pr a b) (n + 1 + 1) (f + 1) = a.size + fieldOff b (n + 1) f by
            show (fieldTy b pF (n + 1) f (0 + a.size)).2.2 = _
            rw [fieldTy_off, Nat.zero_add]] at this
          rwa [List.drop_drop]
        subst ha
        refine ⟨(y, z), fun id p => ⟨cs.take te.T.size, cs.drop te.T.size, (List.take_append_drop _ _).symm, ?_, hz id (p ++ [1])⟩⟩
        have := hy id (p ++ [0])
        rwa [show fieldOff (.pr te.T b) (n + 1 + 1) 0 = 0 from rfl, List.drop_zero] at this
    | _ => exact base (n + 1) _ fts cs h1 h2 h3 rfl rfl h4
theorem cellsAt_of {C : Array Value} {o n : Nat} {cs : List Value} (hl : cs.length = n) (h : ∀ i, i < n → C[o + i]? = cs[i]?) : cellsAt C o n = cs := by
  apply List.ext_getElem?
  intro i
  unfold cellsAt
  by_cases hi : i < n
  · rw [List.getElem?_take_of_lt hi, List.getElem?_drop, Array.getElem?_toList]
    exact h i hi
  · rw [List.getElem?_eq_none (by rw [List.length_take]; omega), List.getElem?_eq_none (by omega)]
theorem weightsAll_mem {H : Type} {e : TypeId} : ∀ {ds : List (DataW H)} {d : DataW H}, d ∈ ds → ∀ n ∈ d.weights P e, n ∈ DataW.weightsAll P e ds := by
  intro ds
  induction ds with
  | nil => intro d h; cases h
  | cons a r ih =>
    intro d h n hn
    simp only [DataW.weightsAll, List.mem_append]
    rcases List.mem_cons.1 h with rfl | h
    · exact .inl hn
    · exact .inr (ih h n hn)
theorem cellsOf_at (T : TtOk P tt) {t : TypeId} {te : TE} (h : ttOf tt t = some te) : P.cellsOf t = te.T.size := by
  obtain ⟨i, hi, _, hs, _⟩ := info_at T h
  simp [Program.cellsOf, hi, hs]
theorem bytesOf_at (T : TtOk P tt) {t : TypeId} {te : TE} (h : ttOf tt t = some te) : P.bytesOf t = te.by_ := by
  obtain ⟨i, hi, _, _, hb⟩ := info_at T h
  simp [Program.bytesOf, hi, hb]
/-- no pointer is reached from a value of the type -/
def noPtT (tt : TT) : Nat → TypeId → Bool
  | 0, _ => false
  | m + 1, t => match ttOf tt t with
    | none => false
    | some te => (match te.fts with
      | [] => (match te.T with
        | .sl _ | .arr _ _ => noPtT tt m te.el
        | .pt | .er => false
        | _ => true)
      | a :: r => (a :: r).all (noPtT tt m))
theorem tr_of_trod {H : Type} {enc : TypeId × Value → H} (T : TtOk P tt) (hby : (tt.all fun te => Nat.blt 0 te.by_) = true) (hper : ∀ b, b < w.heap.size → G.g b = .per) :
    ∀ (fuel : Nat) (m : Nat) (t : TypeId) (te : TE) (cs : List Value) (x : DataW H × List MemPlace), noPtT tt m t = true → ttOf tt t = some te → DataW.trod enc P w 0 (fun _ => true) true fuel t cs = some x → (∀ n ∈ x.1.weights P t, n ≤ reachBytes) →
      ∃ y, ∀ id p, Tr G w te.T pF id p cs y := by
  intro fuel
  induction fuel with
  | zero => intro m t te cs x _ _ h; simp [DataW.trod] at h
  | succ fuel ih =>
    intro m t te cs x hnp ht h hwt
    cases m with
    | zero => cases hnp
    | succ m =>
    unfold noPtT at hnp
    rw [ht] at hnp
    simp only at hnp
    obtain ⟨d, hd, hdi⟩ := und_at T ht
    obtain ⟨hok, _, hchk⟩ := T.at ht
    have hrl := reachBytes_lt
    unfold teChk at hchk
    unfold TE.di at hdi
    cases hf : te.fts with
    | nil =>
      rw [hf] at hchk hdi hnp
      simp only at hchk hdi hnp
      cases hT : te.T with
      | int k =>
        rw [hT] at hdi
        have hu : P.underlying t = some (.int k) := by rw [hd]; cases d <;> simp [dinfo] at hdi; rw [hdi]
        obtain ⟨n, rfl, _, hwf⟩ := DataW.trod_int hu h
        exact ⟨n, fun _ _ => ⟨rfl, by simp only [Lit.wf, Bool.and_eq_true, decide_eq_true_eq] at hwf; exact hwf⟩⟩
      | bool =>
        rw [hT] at hdi
        have hu : P.underlying t = some .bool := by rw [hd]; cases d <;> simp [dinfo] at hdi; rfl
        obtain ⟨b, rfl, _⟩ := DataW.trod_bool hu h
        exact ⟨b, fun _ _ => rfl⟩
      | str =>
        rw [hT] at hdi
        have hu : P.underlying t = some .string := by rw [hd]; cases d <;> simp [dinfo] at hdi; rfl
        obtain ⟨b, rfl, rfl, _⟩ := DataW.trod_string hu h
        have := hwt b.data.toList.length (by simp [DataW.weights])
        exact ⟨b.data.toList, fun _ _ => ⟨rfl, by show _ ≤ 140737488355328; omega⟩⟩
      | sl e =>
        rw [hT] at hdi hchk hnp
        have hu : P.underlying t = some (.slice te.el) := by rw [hd]; cases d <;> simp [dinfo] at hdi; rw [hdi]
        obtain ⟨te', hte', he', hsz⟩ := elChk_spec hchk
        subst he'
        have hco := cellsOf_at T hte'
        have hbo := bytesOf_at T hte'
        have hb1 : 0 < te'.by_ := by have := List.all_eq_true.1 hby te' (ttOf_mem hte').1; simpa [Nat.blt_eq] using this
        rcases DataW.trod_slice hu h with ⟨rfl, _⟩ | ⟨a, len, cap, elems, rest, n, hn, rfl, rfl, _, hlc, _, hlen, hel, hsp, _⟩
        · exact ⟨[], fun _ _ => ⟨none, 0, 0, rfl, rfl, Nat.le_refl _, Nat.zero_le _, fun _ => noO_p _, .inl ⟨fun _ => rfl, rfl⟩⟩⟩
        · cases hn
          obtain ⟨hrl2, hrest⟩ := hsp rfl
          have hw0 := hwt ((elems.length + rest.length) * P.bytesOf te.el) (by simp [DataW.weights, hu])
          have hcap : cap ≤ maxL := by
            show cap ≤ 140737488355328
            rw [hlen, hrl2, hbo] at hw0
            have : cap * 1 ≤ cap * te'.by_ := Nat.mul_le_mul_left _ hb1
            have : len + (cap - len) = cap := by omega
            rw [this] at hw0
            omega
          -- every place's cells
          have hall : ∀ i, i < cap → ∃ cs', w.cells? 0 (a.add (i * te'.T.size)) te'.T.size = some cs' := by
            intro i hi
            by_cases hil : i < len
            · have := hel i hil
              rw [hco, List.getElem?_eq_getElem (by omega)] at this
              obtain ⟨cs', h1, _⟩ := Option.bind_eq_some_iff.1 this
              exact ⟨cs', h1⟩
            · have := hrest (i - len) (by omega)
              rw [hco, List.getElem?_eq_getElem (by omega), show len + (i - len) = i by omega] at this
              obtain ⟨cs', h1, _⟩ := Option.bind_eq_some_iff.1 this
              exact ⟨cs', h1⟩
          have hels : ∀ i, i < len → ∃ y, ∃ cs', w.cells? 0 (a.add (i * te'.T.size)) te'.T.size = some cs' ∧ ∀ id p, Tr G w te'.T pF id p cs' y := by
            intro i hi
            have := hel i hi
            rw [hco, List.getElem?_eq_getElem (by omega)] at this
            obtain ⟨cs', h1, h2⟩ := Option.bind_eq_some_iff.1 this
            obtain ⟨y, hy⟩ := ih m te.el te' cs' _ hnp hte' h2 fun m hm => hwt m (by
              simp only [DataW.weights, hu, List.mem_cons, List.mem_append]
              exact .inr (.inl (weightsAll_mem (List.mem_map.2 ⟨_, List.getElem_mem (by omega), rfl⟩) m hm)))
            exact ⟨y, cs', h1, hy⟩
          by_cases hc0 : cap = 0
          · subst hc0
            have : len = 0 := by omega
            subst this
            exact ⟨[], fun _ _ => ⟨some a, 0, 0, rfl, rfl, Nat.le_refl _, Nat.zero_le _, fun _ => noO_p _, .inl ⟨(fun e => by cases e), rfl⟩⟩⟩
          · have hpos : 0 < te'.T.size := Nat.pos_of_ne_zero hsz
            obtain ⟨b, off, sp⟩ := a
            obtain ⟨c0, hc0'⟩ := hall 0 (by omega)
            obtain ⟨_, hl0, hcell0⟩ := World.cells?_some hc0'
            have h00 := hcell0 0 hpos
            rw [Nat.zero_mul, show (({ block := b, off := off, spot := sp } : Addr).add 0).add 0 = ⟨b, off, sp⟩ by simp [Addr.add], List.getElem?_eq_getElem (by omega)] at h00
            have hheap : ∃ C tt' fz, w.heap[b]? = some (.cells C tt' fz) ∧ sp = none := by
              unfold World.cell? at h00
              split at h00
              · rename_i C tt' fz hh
                refine ⟨C, tt', fz, hh, ?_⟩
                cases sp with
                | none => rfl
                | some _ => simp at h00
              · cases h00
            obtain ⟨C, tt', fz, hh, rfl⟩ := hheap
            have hC : ∀ i cs', w.cells? 0 ((⟨b, off, none⟩ : Addr).add (i * te'.T.size)) te'.T.size = some cs' → cs'.length = te'.T.size ∧ ∀ k, k < te'.T.size → C[off + i * te'.T.size + k]? = cs'[k]? := by
              intro i cs' hcs
              obtain ⟨_, hl1, hc1⟩ := World.cells?_some hcs
              refine ⟨hl1, fun k hk => ?_⟩
              have := hc1 k hk
              rw [addr_add, addr_add] at this
              rw [← this, World.cell?, hh]
              rfl
            have hsize : off + cap * te'.T.size ≤ C.size := by
              obtain ⟨c1, hc1⟩ := hall (cap - 1) (by omega)
              obtain ⟨hl1, hg⟩ := hC _ _ hc1
              have := hg (te'.T.size - 1) (by omega)
              rw [List.getElem?_eq_getElem (by omega)] at this
              have h3 := (Array.getElem?_eq_some_iff.1 this).1
              have h4 : cap * te'.T.size = (cap - 1) * te'.T.size + te'.T.size := by
                rw [← Nat.succ_mul]; congr 1; omega
              omega
            have hlsz : off + len * te'.T.size ≤ C.size := by
              have := Nat.mul_le_mul_right te'.T.size hlc
              omega
            refine ⟨(List.range len).map fun i => if h : i < len then Classical.choose (hels i h) else te'.T.dflt, fun id p => ⟨some ⟨b, off, none⟩, len, cap, rfl, by simp, hlc, Nat.le_trans hlc hcap, fun _ => noO_p _, .inr ⟨b, off, C, tt', fz, rfl, hper b (Array.getElem?_eq_some_iff.1 hh).1, hh, hlsz, (fun e => by cases e), fun j y hy => ?_⟩⟩⟩
            rw [List.getElem?_map, Option.map_eq_some_iff] at hy
            obtain ⟨i, hi, rfl⟩ := hy
            have hil := (List.getElem?_eq_some_iff.1 hi).1
            rw [List.length_range] at hil
            rw [List.getElem?_range hil] at hi
            cases hi
            rw [dif_pos hil]
            obtain ⟨cs', h1, h2⟩ := Classical.choose_spec (hels j hil)
            obtain ⟨hl1, hg⟩ := hC _ _ h1
            rw [cellsAt_of hl1 hg]
            exact h2 id _
      | arr n e =>
        rw [hT] at hdi hchk hnp
        have hu : P.underlying t = some (.array n te.el) := by rw [hd]; cases d <;> simp [dinfo] at hdi; obtain ⟨rfl, rfl⟩ := hdi; rfl
        obtain ⟨te', hte', he', hsz⟩ := elChk_spec hchk
        subst he'
        have hco := cellsOf_at T hte'
        have hct := cellsOf_at T ht
        rw [hT] at hct
        obtain ⟨xs, m, hn, rfl, hlen, hxl, hel⟩ := DataW.trod_array hu h
        cases hn
        have hels : ∀ i, i < n → ∃ y, ∀ id p, Tr G w te'.T pF id p ((cs.drop (i * te'.T.size)).take te'.T.size) y := by
          intro i hi
          have := hel i hi
          rw [hco, List.getElem?_eq_getElem (by omega)] at this
          exact ih m te.el te' _ _ hnp hte' this fun k hk => hwt k (by
            simp only [DataW.weights, hu]
            exact weightsAll_mem (List.mem_map.2 ⟨_, List.getElem_mem (by omega), rfl⟩) k hk)
        refine ⟨(List.range n).map fun i => if h : i < n then Classical.choose (hels i h) else te'.T.dflt, fun id p => ⟨by rw [hlen, hct]; rfl, by simp, fun j y hy => ?_⟩⟩
        rw [List.getElem?_map, Option.map_eq_some_iff] at hy
        obtain ⟨i, hi, rfl⟩ := hy
        have hil := (List.getElem?_eq_some_iff.1 hi).1
        rw [List.length_range] at hil
        rw [List.getElem?_range hil] at hi
        cases hi
        rw [dif_pos hil]
        exact Classical.choose_spec (hels j hil) default []
      | pr a b => rw [hT] at hchk; cases hchk
      | pt => rw [hT] at hnp; cases hnp
      | er => rw [hT] at hnp; cases hnp
    | cons t0 r =>
      rw [hf] at hchk hdi hnp
      simp only at hchk hdi hnp
      have hu : ∃ fs : Array Field, P.underlying t = some (.struct fs) ∧ fs.toList.map (fun f => (f.offset, f.type)) = offsFrom te.T te.nf 0 (t0 :: r) := by
        rw [hd]; cases d <;> simp [dinfo] at hdi; exact ⟨_, rfl, hdi⟩
      obtain ⟨fs, hu, hfs⟩ := hu
      have hnf := hok.nf
      rw [hf] at hnf
      have hct := cellsOf_at T ht
      obtain ⟨xs, n, hn, rfl, hlen, hxl, hel⟩ := DataW.trod_struct hu h
      cases hn
      have hoffs : ∀ (l : List TypeId) (k j : Nat) (t' : TypeId), l[j]? = some t' → (offsFrom te.T te.nf k l)[j]? = some (fieldOff te.T te.nf (k + j), t') := by
        intro l
        induction l with
        | nil => intro k j t' h; cases h
        | cons a l ihl =>
          intro k j t' h
          cases j with
          | zero => simp only [List.getElem?_cons_zero, Option.some.injEq] at h; subst h; simp [offsFrom]
          | succ j =>
            simp only [List.getElem?_cons_succ] at h
            simp only [offsFrom, List.getElem?_cons_succ]
            rw [ihl (k + 1) j t' h]
            congr 3; omega
      refine st_tr r.length te.T (t0 :: r) cs (by simp) (by rw [← (by simpa using hnf : te.nf = r.length + 1)]; exact hchk) (by rw [hlen, hct]) fun f t' te' hft hte' => ?_
      have h1 := hoffs (t0 :: r) 0 f t' hft
      rw [← hfs, List.getElem?_map, Option.map_eq_some_iff] at h1
      obtain ⟨fd, hfd, hfe⟩ := h1
      simp only [Prod.mk.injEq, Nat.zero_add] at hfe
      have hfd' : fs[f]? = some fd := by rwa [Array.getElem?_toList] at hfd
      have := hel f fd hfd'
      have hfl : f < xs.length := by rw [hxl]; exact (Array.getElem?_eq_some_iff.1 hfd').1
      rw [hfe.1, hfe.2, cellsOf_at T hte', List.getElem?_eq_getElem hfl] at this
      rw [(by simpa using hnf : te.nf = r.length + 1)] at this
      exact ih m t' te' _ _ (List.all_eq_true.1 hnp t' (List.mem_of_getElem? hft)) hte' this fun k hk => hwt k (by
        simp only [DataW.weights, hu]
        refine DataW.weights_mem_each (j := f) (t := t') (d := (xs[f]).1) ?_ ?_ k hk
        · rw [List.getElem?_map, hfd]; simp [hfe.2]
        · rw [List.getElem?_map, List.getElem?_eq_getElem hfl]; rfl)
end
end Go.Sx

/- The reader, and texts drawn from it: plain law. -/
namespace Go.Sx
open Go

@[simp] theorem inR_i64 {n : Int} : inR .i64 n ↔ -9223372036854775808 ≤ n ∧ n ≤ 9223372036854775807 := by simp [inR, IntKind.min, IntKind.max, IntKind.signed, IntKind.bits]
@[simp] theorem inR_u8 {n : Int} : inR .u8 n ↔ 0 ≤ n ∧ n ≤ 255 := by simp [inR, IntKind.min, IntKind.max, IntKind.signed, IntKind.bits]
abbrev TB : Ty := .sl (.int .u8)
abbrev TI : Ty := .int .i64
abbrev Rd := List Int × Int
abbrev rdA (r : Rd) : Res := .var [.d TB pF r.1, .d TI pF r.2]
theorem rd_eta (R : Rd) : (R.1, R.2) = R := rfl
def BOk (b : List Int) : Prop := ∀ v ∈ b, 0 ≤ v ∧ v ≤ 255
/-- where the reader stands, within bounds -/
structure ROk (r : Rd) (m : Int) : Prop where
  b : BOk r.1
  len : r.1.length ≤ 2000
  p0 : 0 ≤ r.2
  p1 : r.2 + m ≤ 1099511627776
def pickX (b : List Int) (p : Int) : Int := b.getD (p.tmod b.length).toNat 0 * 131 + b.getD ((p * 7 + 3).tmod b.length).toNat 0 * 1117 + p * 29 + p.tdiv b.length * 53
def pickV (b : List Int) (p n : Int) : Int :=
  if n < 1 then 0 else if b.length = 0 then 0 else if p < b.length then (b.getD p.toNat 0).tmod n else (bitsOp .xor .i64 (pickX b p) ((pickX b p).tdiv 64)).tmod n
def pk (r : Rd) (n : Int) : Int := pickV r.1 r.2 n
def nx (r : Rd) : Rd := (r.1, r.2 + 1)
theorem ROk.nx {r : Rd} {m m' : Int} (h : ROk r m) (hm : m' + 1 ≤ m) : ROk (nx r) m' := ⟨h.b, h.len, by have := h.p0; simp only [Sx.nx]; omega, by have := h.p1; simp only [Sx.nx]; omega⟩
theorem ROk.le {r : Rd} {m m' : Int} (h : ROk r m) (hm : m' ≤ m) : ROk r m' := ⟨h.b, h.len, h.p0, by have := h.p1; omega⟩
theorem getD_b {b : List Int} (h : BOk b) (i : Nat) : 0 ≤ b.getD i 0 ∧ b.getD i 0 ≤ 255 := by
  rw [List.getD_eq_getElem?_getD]
  cases hc : b[i]? with
  | none => simp
  | some v => exact h v (List.mem_of_getElem? hc)
theorem pickX_bd {r : Rd} {m : Int} (h : ROk r m) (hm : 0 ≤ m) : 0 ≤ pickX r.1 r.2 ∧ pickX r.1 r.2 ≤ 1000000000000000 := by
  unfold pickX
  have h1 := getD_b h.b (r.2.tmod r.1.length).toNat
  have h2 := getD_b h.b ((r.2 * 7 + 3).tmod r.1.length).toNat
  have h0 := h.p0
  have h3 : 0 ≤ r.2.tdiv r.1.length ∧ r.2.tdiv r.1.length ≤ r.2 := ⟨Int.tdiv_nonneg h0 (Int.natCast_nonneg _), Int.tdiv_le_self _ h0⟩
  have h4 := h.p1
  omega
theorem xor_bd {x : Int} (h : 0 ≤ x) (h2 : x ≤ 1000000000000000) : 0 ≤ bitsOp .xor .i64 x (x.tdiv 64) := by
  have h3 : 0 ≤ x.tdiv 64 ∧ x.tdiv 64 ≤ x := ⟨Int.tdiv_nonneg h (by omega), Int.tdiv_le_self _ h⟩
  obtain ⟨a, rfl⟩ := Int.eq_ofNat_of_zero_le h
  obtain ⟨c, hc⟩ := Int.eq_ofNat_of_zero_le h3.1
  rw [hc]
  have ha : a < 2 ^ 63 := by simp only [Nat.reducePow]; omega
  have hc' : c < 2 ^ 63 := by simp only [Nat.reducePow]; omega
  have e1 : (BitVec.ofInt 64 (a : Int)).toNat = a := by rw [BitVec.toNat_ofInt]; simp only [Nat.reducePow] at ha ⊢; omega
  have e2 : (BitVec.ofInt 64 (c : Int)).toNat = c := by rw [BitVec.toNat_ofInt]; simp only [Nat.reducePow] at hc' ⊢; omega
  have hx := Nat.xor_lt_two_pow ha hc'
  have hb : bitsOp .xor .i64 (a : Int) (c : Int) = IntKind.wrap .i64 ((BitVec.ofInt 64 (a : Int)).toNat ^^^ (BitVec.ofInt 64 (c : Int)).toNat : Nat) := by
    show IntKind.wrap .i64 ((BitVec.ofInt 64 (a : Int) ^^^ BitVec.ofInt 64 (c : Int)).toNat : Nat) = _
    rw [BitVec.toNat_xor]
  rw [hb, e1, e2, wrap_in]
  · omega
  · simp only [inR, IntKind.min, IntKind.max, IntKind.signed, IntKind.bits]
    simp only [Nat.reducePow] at hx
    constructor <;> simp <;> omega
theorem pk_bd {r : Rd} {m n : Int} (h : ROk r m) (hm : 0 ≤ m) (hn : 1 ≤ n) : 0 ≤ pk r n ∧ pk r n < n := by
  unfold pk pickV
  rw [if_neg (by omega)]
  split
  · omega
  · split
    · exact ⟨Int.tmod_nonneg _ (getD_b h.b _).1, Int.tmod_lt_of_pos _ (by omega)⟩
    · have h1 := pickX_bd h hm
      exact ⟨Int.tmod_nonneg _ (xor_bd h1.1 h1.2), Int.tmod_lt_of_pos _ (by omega)⟩


theorem tmod_ix {a n : Int} (h : 0 ≤ a) (hn : 0 < n) : 0 ≤ a.tmod n ∧ a.tmod n < n := ⟨Int.tmod_nonneg _ h, Int.tmod_lt_of_pos _ hn⟩
theorem getD_b' {b : List Int} (h : BOk b) (i : Nat) : 0 ≤ b[i]?.getD 0 ∧ b[i]?.getD 0 ≤ 255 := by rw [← List.getD_eq_getElem?_getD]; exact getD_b h i
def textGo : Nat → Rd → List Int → List Int × Rd
  | 0, r, out => (out, r)
  | k + 1, r, out => textGo k (nx (nx r)) (out ++ [(([97, 98, 122, 0, 255, 128] : List Int).getD (pk r 6).toNat 0 + pk (nx r) 3) % 256])
def textV (r : Rd) (most : Int) : Str := ofBytes (textGo (pk r (most + 1)).toNat (nx r) []).1
def textR (r : Rd) (most : Int) : Rd := (textGo (pk r (most + 1)).toNat (nx r) []).2
theorem textGo_len : ∀ (k : Nat) (r : Rd) (out : List Int), (textGo k r out).1.length = out.length + k := by
  intro k
  induction k with
  | zero => intro r out; rfl
  | succ k ih => intro r out; simp only [textGo]; rw [ih]; simp; omega
theorem textGo_rd : ∀ (k : Nat) (r : Rd) (out : List Int), (textGo k r out).2 = (r.1, r.2 + 2 * k) := by
  intro k
  induction k with
  | zero => intro r out; simp [textGo]
  | succ k ih => intro r out; simp only [textGo]; rw [ih]; simp [nx]; omega
theorem textV_len {r : Rd} {m most : Int} (h : ROk r m) (hm : 0 ≤ m) (h0 : 0 ≤ most) : ((textV r most).length : Int) ≤ most := by
  unfold textV ofBytes
  rw [List.length_map, textGo_len]
  have := pk_bd h hm (n := most + 1) (by omega)
  simp
  omega
theorem textR_ok {r : Rd} {m m' most : Int} (h : ROk r m) (hm : 0 ≤ m) (h0 : 0 ≤ most) (hm' : m' + 1 + 2 * most ≤ m) : ROk (textR r most) m' := by
  unfold textR
  rw [textGo_rd]
  have := pk_bd h hm (n := most + 1) (by omega)
  have h0 := h.p0
  have h1 := h.p1
  refine ⟨h.b, h.len, ?_, ?_⟩ <;> simp only [nx] <;> omega


end Go.Sx

/- From a contract to the call that a statement speaks of. -/
namespace Go.Sx
open Go Go.RowKit
theorem rowAt_off {P : Program} {fits : TypeId → Bool} : ∀ {d : Nat} {e : TypeId} {count off n : Nat}, rowAt P fits d e count off n = true → off ≤ count * P.cellsOf e := by
  intro d e count off n h
  cases d with
  | zero => simp [rowAt] at h
  | succ d =>
    unfold rowAt at h
    simp only at h
    split at h
    · cases h
    · rename_i hs
      have hm := Nat.div_add_mod off (P.cellsOf e)
      have hlt := Nat.mod_lt off (Nat.pos_of_ne_zero hs)
      rcases Bool.or_eq_true _ _ ▸ h with h1 | h1
      · simp only [Bool.and_eq_true, beq_iff_eq, decide_eq_true_eq] at h1
        have h2 : off / P.cellsOf e ≤ count := by omega
        have h3 := Nat.mul_le_mul_right (P.cellsOf e) h2
        rw [Nat.mul_comm (off / P.cellsOf e)] at h3
        omega
      · simp only [Bool.and_eq_true, decide_eq_true_eq] at h1
        have h2 : off / P.cellsOf e + 1 ≤ count := by omega
        have h3 := Nat.mul_le_mul_right (P.cellsOf e) h2
        rw [Nat.add_mul, Nat.one_mul, Nat.mul_comm (off / P.cellsOf e)] at h3
        omega
theorem has_off {P : Program} {w : World} {r : Reach} {base : Nat} {a : Addr} {e : TypeId} {n : Nat} {k : IntKind} (he : P.underlying e = some (.int k)) (h : w.has P r base a e n) : a.spot = none ∧ ∃ C t fz, w.heap[a.block]? = some (.cells C t fz) ∧ a.off ≤ C.size := by
  obtain ⟨_, hs, row, cells, hsh, hl⟩ := h
  refine ⟨hs, ?_⟩
  unfold World.shape? at hsh
  split at hsh
  · rename_i C t fz hh
    cases hsh
    refine ⟨C, row, fz, hh, ?_⟩
    unfold liesAt at hl
    split at hl
    · cases hl
    · simp only [he, Bool.or_false] at hl
      exact Nat.le_trans (rowAt_off hl) (Nat.div_mul_le_self _ _)
  · cases hsh
/-- what the walk is told of a slice of bytes that came in -/
def IsRow (w : World) (a : Option Addr) (len cap : Nat) (zs : List Int) : Prop :=
  (a = none ∧ len = 0 ∧ cap = 0 ∧ zs = []) ∨
  ∃ x, a = some x ∧ len ≤ cap ∧ cap ≤ maxL ∧ zs.length = cap ∧ (∀ i, i < zs.length → w.cell? (x.add i) = some (.int .u8 (zs.getD i 0))) ∧ (∀ n ∈ zs, (Lit.int .u8 n).wf = true) ∧ x.spot = none ∧ ∃ C t fz, w.heap[x.block]? = some (.cells C t fz) ∧ x.off ≤ C.size
theorem wf_u8 {n : Int} (h : (Lit.int .u8 n).wf = true) : inR .u8 n := by
  simp only [Lit.wf, Bool.and_eq_true, decide_eq_true_eq] at h
  exact h
end Go.Sx

/- From a law's contract to its call, arguments of any shapes. -/
namespace Go.Sx
open Go Go.RowKit
/-- everything that lies, lies for ever -/
def perG (w : World) : Gh := ⟨fun _ => .bool false, fun b => if b < w.heap.size then .per else .no⟩
def ArgIn (w : World) (te : TE) (v : Value) : Prop := v = mkV te.ag v.cells.toList ∧ (te.ag = false → v.cells.toList.length = 1) ∧ ∃ y, ∀ id p, Tr (perG w) w te.T pF id p v.cells.toList y
theorem mkV_one {v : Value} (h : ∀ cs, v ≠ .agg cs) : v = mkV false v.cells.toList ∧ v.cells.toList.length = 1 := by
  have hv : v.cells = #[v] := by cases v <;> first | rfl | exact absurd rfl (h _)
  exact ⟨by simp [mkV, hv], by simp [hv]⟩
theorem arg_in {P : Program} {tt : TT} {w : World} {H : Type} {enc : TypeId × Value → H} (T : TtOk P tt) (hby : (tt.all fun te => Nat.blt 0 te.by_) = true) {t : TypeId} {te : TE} (hnp : noPtT tt 30 t = true) (ht : ttOf tt t = some te) {v : Value} {r : Reach} {base : Nat} (hval : Value.okWide P w r base t v)
    {d : DataW H} {p : List MemPlace} (hd : DataW.Trod enc P w 0 (fun _ => true) true t v d p) (hwt : ∀ n ∈ d.weights P t, n ≤ reachBytes) : ArgIn w te v := by
  obtain ⟨fuel, hf⟩ := hd
  have htr := tr_of_trod (G := perG w) T hby (fun b hb => by simp [perG, hb]) fuel 30 t te _ _ hnp ht hf hwt
  obtain ⟨dd, hdd, hdi⟩ := und_at T ht
  obtain ⟨hok, _, _⟩ := T.at ht
  have hag := hok.ag
  rw [← hdi] at hag
  refine (fun h => ⟨h.1, h.2, htr⟩ : (v = mkV te.ag v.cells.toList ∧ (te.ag = false → v.cells.toList.length = 1)) → _) ?_
  have key : te.ag = false → (∀ cs, v ≠ .agg cs) → v = mkV te.ag v.cells.toList ∧ (te.ag = false → v.cells.toList.length = 1) := fun h h2 => by
    rw [h]; exact ⟨(mkV_one h2).1, fun _ => (mkV_one h2).2⟩
  unfold Value.okWide at hval
  rw [hdd] at hval
  cases dd with
  | struct fs =>
    obtain ⟨cs, rfl, _⟩ := hval
    have : te.ag = true := hag
    rw [this]; exact ⟨by simp [mkV, Value.cells], fun h => by cases h⟩
  | array n e =>
    obtain ⟨cs, rfl, _⟩ := hval
    have : te.ag = true := hag
    rw [this]; exact ⟨by simp [mkV, Value.cells], fun h => by cases h⟩
  | _ =>
    refine key hag fun cs hc => ?_
    subst hc
    simp only [Cell.okWide, hdd, Cell.ok] at hval
def valIns : List TE → List Mode
  | [] => []
  | te :: r => .val te.ag te.T pF :: valIns r
def ArgsIn (w : World) : List TE → List Value → Prop
  | [], vs => vs = []
  | te :: r, vs => ∃ v vs', vs = v :: vs' ∧ ArgIn w te v ∧ ArgsIn w r vs'
theorem args_ok {w : World} : ∀ {tes : List TE} {k : Nat} {vs : List Value}, ArgsIn w tes vs → ∃ x, ArgsOk (perG w) w k (valIns tes) x vs := by
  intro tes
  induction tes with
  | nil => intro k vs h; exact ⟨(), h⟩
  | cons te r ih =>
    intro k vs h
    obtain ⟨v, vs', rfl, ⟨h1, h2, y, h3⟩, h4⟩ := h
    obtain ⟨x, hx⟩ := ih (k := k + 1) h4
    exact ⟨(y, x), v, vs', rfl, ⟨noO_p te.T, _, h1, h2, h3 default []⟩, hx⟩
theorem amb_mk {P : Program} {w : World} (he : ErrOk (perG w).g w) (h : ∀ nm Q, (nm, Q) ∈ ambTab → ∀ b, P.globalNamed nm = some b → ∃ C t fz, w.heap[b]? = some (.cells C t fz) ∧ Q C.toList) : Amb P (perG w).g w := by
  refine ⟨?_, he⟩
  intro nm Q hm b hb
  obtain ⟨C, t, fz, h1, h2⟩ := h nm Q hm b hb
  have hlt : b < w.heap.size := by
    rcases Nat.lt_or_ge b w.heap.size with h | h
    · exact h
    · rw [Array.getElem?_eq_none h] at h1; cases h1
  exact ⟨.inr (by simp [perG, hlt]), C, t, fz, h1, h2⟩
theorem var_block {P : Program} {w : World} {nm : String} {cs : Array Value} {b : Nat} (hb : P.globalNamed nm = some b) (h : w.var? P nm = some cs) : ∃ C t fz, w.heap[b]? = some (.cells C t fz) ∧ C = cs := by
  unfold World.var? at h
  rw [hb] at h
  simp only [Option.bind_some] at h
  split at h
  · rename_i C t fz hh
    cases h
    exact ⟨_, _, _, hh, rfl⟩
  · cases h
theorem shaped_int {P : Program} {w : World} {g : Nat} {t : TypeId} {zero : Array Value} {k : IntKind}
    (h : w.ShapedOpen P) (hg : g < P.globals.size) (h0 : ((begin P (fun _ _ => 0) default).world.heap[g]?).bind Obj.row? = some (zero, t)) (hz : zero.size = 1)
    (hb : P.buildable t = true) (hc : P.cellTypes P.depth t = some [t]) (hu : P.underlying t = some (.int k)) : ∃ C t fz, w.heap[g]? = some (.cells C t fz) ∧ ∃ m, C.toList = [.int k m] := by
  obtain ⟨m, hm⟩ := Proofs.cell_of_shapedOpen_int h hg h0 hz hb hc hu
  obtain ⟨cs, hh, hs, _⟩ := h.1 g zero t hg h0
  refine ⟨cs, t, (0, 0), hh, m, ?_⟩
  have h1 : cs.toList.length = 1 := by rw [Array.length_toList]; omega
  have h2 : cs[0]? = some (.int k m) := by simpa [World.cell?, hh] using hm
  match hl : cs.toList, h1 with
  | [v], _ =>
    have : cs.toList[0]? = some (.int k m) := by rw [Array.getElem?_toList]; exact h2
    rw [hl] at this
    simpa using this
/-- the kit's law for rows that list variables, with the world's shape handed on -/
theorem returns_laid_shaped {H : Type} {enc : TypeId × Value → H} {a : Assume} {C : Checked} {os : Os} {f : FuncId} {fn : Func} {s : ChangeSpec} {conds : List PathCond} {apart fresh handsOn again : Bool} {X : World → Array Value → Prop}
    (hX : ∀ (w w' : World) (args : Array Value), w.heap = w'.heap → X w args → X w' args)
    (own : ownKnob C.prog.godebug = none) (started : os.Started) (noInit : C.prog.inits.idxOf? f = none) (hfn : C.prog.funcs[f]? = some fn)
    (witness : ∃ (w : World) (tape : Tape) (i : Input), w.os = os ∧ (w.forCall tape i).Shaped C.prog ∧ i.vars = [] ∧ Input.okWide C.prog (w.forCall tape i) .any w.heap.size f i ∧
      ((s.pre enc C.prog fn conds apart (w.forCall tape i).memory i.args ∧ X (w.forCall tape i).memory i.args) ∧ sizedMet enc C.prog fn (OpenSpec.ofChange s) apart (w.forCall tape i).memory i.args) ∧ a.holds C.prog (lone (Frame.enter C.prog f i.args .normal) [] (w.forCall tape i)))
    (contract : ∀ (W : World) (base : Nat) (args : Array Value) (ds gs : List (DataW H)) (before : List MemPlace),
      (∀ (j : Nat) t v, fn.params[j]? = some t → args[j]? = some v → Value.okWide C.prog W .any base t v) →
      DataW.Whole enc C.prog fn.params.toList s.vars apart W args.toList ds gs before →
      conds.all (PathCond.test C.prog ⟨fn.params.toList, ds, s.plain.varTypes C.prog, gs⟩) = true →
      (DataW.weightsEach C.prog (fn.params.toList ++ s.plain.varTypes C.prog) (ds ++ gs)).all (· ≤ reachBytes) = true → X W args → W.ShapedOpen C.prog →
      a.holds C.prog (lone (Frame.enter C.prog f args .normal) [] W) →
      Calls C.prog f args W fun e W' => ∃ v, e = .returned v ∧ s.post enc C.prog fn apart fresh handsOn again W args v W') :
    ReturnsInHanded a C os f .any (fun w args => (s.pre enc C.prog fn conds apart w args ∧ X w args) ∧ sizedMet enc C.prog fn (OpenSpec.ofChange s) apart w args) (s.post enc C.prog fn apart fresh handsOn again) := by
  refine returnsInHanded_of_calls own started noInit witness ?_
  intro w tape i _ hsh _ hok hpre hholds
  obtain ⟨_, _, _, fn', hfn', _, _, _, _, hval⟩ := hok
  have e : fn' = fn := Option.some.inj (hfn'.symm.trans hfn)
  subst e
  obtain ⟨⟨⟨ds, gs, before, hw, hc⟩, hx⟩, hz⟩ := hpre
  have hw' := DataW.Whole.of_heap (w' := w.forCall tape i) (by rfl) hw
  refine (contract (w.forCall tape i) w.heap.size i.args ds gs before hval hw' hc (hz.weights hw) (hX _ _ _ (by rfl) hx) hsh hholds).mono fun e W' ⟨v, he, hp⟩ => ?_
  subst he
  exact ChangeSpec.post_blind hp
theorem law_callsN {P : Program} {f : FuncId} {c : Ctr} {tes : List TE} (hc : c = ⟨f, valIns tes, fun _ => True, fun _ => (sBool true, [])⟩) (h : CtrOk P c) {fn : Func} {body : Code} (hf : P.funcs[f]? = some fn) (hb : fn.body = some body) (hn : (fn.name == "runtime.NumGoroutine") = false)
    (args : List Value) (w : World) (ham : Amb P (perG w).g w) (hw : ArgsIn w tes args) : Calls P f args.toArray w fun e w' => e = .returned (.bool true) ∧ Below w.heap.size w w' := by
  subst hc
  obtain ⟨x, hargs⟩ := args_ok (k := 0) hw
  have hbnd : ∀ b, (perG w).g b ≠ .no → b < w.heap.size := fun b hb => by
    by_cases h : b < w.heap.size
    · exact h
    · exact absurd (by simp [perG, h]) hb
  obtain ⟨n, w1, hrun, hres⟩ := h (perG w) w _ _ hbnd ham hargs trivial
  have hrun' : (callFunc f args.toArray).run P w = .ok (.enter f args.toArray) w := by
    have hn' : ¬ fn.name = "runtime.NumGoroutine" := by simpa using hn
    simp [callFunc, hf, hn', hb]
  have heq : (Result.ok n w1 : Result Next) = .ok (.enter f args.toArray) w := hrun.symm.trans hrun'
  injection heq with e1 e2
  subst e1; subst e2
  rcases hres with ⟨v, hv, _⟩ | ⟨_, hcalls⟩ | ⟨row, as_, hv, _⟩
  · cases hv
  · refine hcalls.mono ?_
    intro e w' he
    cases e with
    | returned v =>
      obtain ⟨G', hch, _, _, hm, _⟩ := he
      refine ⟨by rw [hm.boolV], hch.os, hch.tape, hch.output, hch.size, fun k hk => ?_⟩
      exact (hch.pb.per k (by simp [perG, hk])).2
    | panicked c => exact he.elim
    | outgrown => exact he.elim
  · cases hv
/-- a variable of an interface type reads behind the call as it read -/
theorem vars_after {H : Type} {enc : TypeId × Value → H} {P : Program} {W W' : World} {n : String} {g t : Nat} {csv : Array Value} {fuel : Nat} {d : DataW H} {p : List MemPlace} {ms : Array (String × TypeId)} {x : Value}
    (hg : P.globalNamed n = some g) (ht : (P.globals[g]?).map (·.type) = some t) (hv : W.var? P n = some csv) (hd : DataW.trod enc P W 0 (fun _ => true) true fuel t csv.toList = some (d, p)) (bel : Below W.heap.size W W')
    (hi : P.underlying t = some (.interface ms)) (hx : csv = #[x]) (ix : IsIface x) : DataW.TrodVars enc P W' (fun b => decide (b < W.heap.size)) [n] [d] (MemPlace.row ⟨g, 0, none⟩ csv.size ++ []) := by
  subst hx
  cases fuel with
  | zero => simp [DataW.trod] at hd
  | succ m =>
    rw [show (#[x] : Array Value).toList = [x] from rfl, trod_held hi ix m] at hd
    cases hd
    have hv' : W'.var? P n = some #[x] := by
      rw [← hv]
      unfold World.var?
      rw [hg]
      simp only [Option.bind_some]
      rw [bel.block g (by
        unfold World.var? at hv
        rw [hg] at hv
        simp only [Option.bind_some] at hv
        rcases Nat.lt_or_ge g W.heap.size with h | h
        · exact h
        · rw [Array.getElem?_eq_none h] at hv; cases hv)]
    exact Go.ChangeShapes.trodVars_mk1 hg ht hv' (trod_held hi ix m)
theorem err_mk {w : World} {C : Array Value} {t : TypeId} {fz : Nat × Nat} {A : Addr} (h : w.heap[errB]? = some (.cells C t fz)) (h2 : C.toList = [.iface errT (.pointer (some A))]) : ErrOk (perG w).g w := by
  have hlt : errB < w.heap.size := by
    rcases Nat.lt_or_ge errB w.heap.size with h' | h'
    · exact h'
    · rw [Array.getElem?_eq_none h'] at h; cases h
  exact ⟨by simp [perG, hlt], C, t, fz, A, h, h2⟩
end Go.Sx

/- isVolName: a range over a function: walked by the kit's laws; its contract for Sx. -/
namespace Go.Proofs
open Go.RowKit Go.Shelf
attribute [local go_sem] Oper.semAt_some
def volUp {α : Type} (f : Nat → α) (k : Nat) : List α := (List.range k).map f
theorem volUp_succ {α : Type} (f : Nat → α) (k : Nat) : volUp f (k + 1) = volUp f k ++ [f k] := by simp [volUp, List.range_succ]
theorem volUp_length {α : Type} (f : Nat → α) (k : Nat) : (volUp f k).length = k := by simp [volUp]
theorem vol_new (W : World) (v : Value) (t : TypeId) : (W.alloc (.cells #[v] t)).cell? ⟨W.heap.size, 0, none⟩ = some v ∧ (W.alloc (.cells #[v] t)).frozen? ⟨W.heap.size, 0, none⟩ = false := by
  have h : (W.alloc (.cells #[v] t)).heap[W.heap.size]? = some (.cells #[v] t (0, 0)) := World.alloc_heap_new W (.cells #[v] t)
  constructor
  · rw [World.cell?, h]; rfl
  · rw [World.frozen?, h]; rfl
theorem vol_cell {W : World} {a : Addr} {v : Value} (o : Obj) (h : W.cell? a = some v) : (W.alloc o).cell? a = some v := cell_kept h (World.grownBy_alloc W o none) (fun r e => by cases e)
theorem vol_frozen {W : World} {a : Addr} {v : Value} (o : Obj) (h : W.cell? a = some v) (hf : W.frozen? a = false) : (W.alloc o).frozen? a = false := (frozen_kept h (World.grownBy_alloc W o none) (fun r e => by cases e)).trans hf
abbrev volE (x : Nat × UInt8) : Array Value := #[.int .i64 ((x.1 : Int) + 1), .int .u8 (x.2.toNat : Int)]
set_option maxRecDepth 100000 in
set_option maxHeartbeats 1000000 in
theorem vol101_in (F : Fence) (n : Nat) (h8 : F.fn 101) (hro : F.round = none) (hn : 1 ≤ n) (l Bs n₀ : Nat) (s : ByteArray) (hreach : s.size ≤ 140737488355328) (hb : Bs < n₀) (J Jx : List (Nat × UInt8) → World → Prop)
    (hY : ∀ pre x W, J pre W → pre.length < s.size → YieldAt F (n - 1) Tryz.prog l (volE x) W fun e W' =>
      (e = .returned (.bool true) ∧ J (pre ++ [x]) W' ∧ Below n₀ W W') ∨ (e = .returned (.bool false) ∧ Jx (pre ++ [x]) W'))
    (W : World) (hBs : W.cell? ⟨Bs, 0, none⟩ = some (.string s)) (h0 : J [] W) :
    CallsIn F n Tryz.prog 101 #[.func (.yield l) #[] #[], .pointer (some ⟨Bs, 0, none⟩)] W fun e W' => (∃ v, e = .returned v) ∧
      ((∃ ys, ys = volUp (fun j => (j, s.data[j]?.getD 0)) s.size ∧ J ys W') ∨ (∃ pre, (∃ k, k ≤ s.size ∧ pre = volUp (fun j => (j, s.data[j]?.getD 0)) k) ∧ Jx pre W')) := by
  refine callsIn_of_wp Tryz.func101 rfl h8 ?_ hro
  simp only [Tryz.ntmps101, List.size_toArray, List.length_cons, List.length_nil, Nat.reduceAdd, Nat.reduceSub, Array.replicate_succ, Array.replicate_zero, List.push_toArray, List.append_toArray, List.nil_append, List.cons_append]
  gi_wp2
  gi_loopw [6] (fun i wr => ∃ k : Nat, k ≤ s.size ∧ i = .int .i64 k ∧ J (volUp (fun j => (j, s.data[j]?.getD 0)) k) wr ∧ Below n₀ W wr)
    (fun i _ => s.size - (intOf i).toNat)
  case atStart => exact ⟨0, Nat.zero_le _, rfl, h0, Below.refl _ _⟩
  case round =>
    obtain ⟨k, hk, rfl, hJs, hnx⟩ := hrel
    have hcx : wr.cell? ⟨Bs, 0, none⟩ = some (.string s) := (hnx.cell (p := ⟨Bs, 0, none⟩) hb).trans hBs
    by_cases hlt : k < s.size
    · obtain ⟨fn, tmps, assign, body, hy, hR⟩ := hY _ (k, s.data[k]?.getD 0) wr hJs (by rw [volUp_length]; exact hlt)
      dsimp only [volE] at hy
      have e : s.data[k]?.getD 0 = s[k]'hlt := by
        have h : k < s.data.size := hlt
        rw [Array.getElem?_eq_getElem h]
        rfl
      rw [e] at hy
      gi_wp2
      refine hR.mono ?_
      rintro e W3 (⟨rfl, hJ3, hk3⟩ | ⟨rfl, hJx3⟩)
      · gi_wp2
        go_roundw
        case rel => exact ⟨k + 1, by omega, by simp, by rw [volUp_succ]; exact hJ3, hnx.trans hk3⟩
        case measure => simp [intOf]; omega
      · gi_wp2
        refine bodyPost_ret (results_none rfl _ _ _) rfl ?_
        exact ⟨⟨_, rfl⟩, .inr ⟨_, ⟨k + 1, by omega, (volUp_succ _ _).symm⟩, hJx3⟩⟩
    · obtain rfl : k = s.size := by omega
      gi_wp2
      go_end0
      exact ⟨⟨_, rfl⟩, .inl ⟨_, rfl, hJs⟩⟩
/-- the iterator's contract -/
theorem vol_stops (F : Fence) (n : Nat) (h8 : F.fn 101) (hro : F.round = none) (hn : 1 ≤ n) (Bs n₀ : Nat) (s : ByteArray) (hreach : s.size ≤ 140737488355328) (w : World) (hn₀ : n₀ ≤ w.heap.size) (hb : Bs < n₀) (hc : w.cell? ⟨Bs, 0, none⟩ = some (.string s)) :
    SeqStopsK F n Tryz.prog 101 #[.pointer (some ⟨Bs, 0, none⟩)] volE (Below n₀) (fun xs => xs = volUp (fun j => (j, s.data[j]?.getD 0)) s.size)
      (fun pre => ∃ k, k ≤ s.size ∧ pre = volUp (fun j => (j, s.data[j]?.getD 0)) k) s.size w := fun l J Jx W hW _ _ hY h0 =>
  vol101_in F n h8 hro hn l Bs n₀ s hreach hb J Jx hY W ((hW.cell (p := ⟨Bs, 0, none⟩) (Nat.lt_of_lt_of_le hb hn₀)).trans hc) h0
set_option maxRecDepth 100000 in
set_option maxHeartbeats 2000000 in
theorem vol72_in (F : Fence) (n : Nat) (h : F.fn 72) (hro : F.round = none) (s : ByteArray) (w : World) :
    CallsIn F n Tryz.prog 72 #[.string s] w fun e W' => e = .returned (.func (.func 101) #[] #[.pointer (some ⟨w.heap.size, 0, none⟩)]) ∧ W' = w.alloc (.cells #[.string s] 9) := by
  refine callsIn_of_wp Tryz.func72 rfl h ?_ hro
  simp only [Tryz.ntmps72, List.size_toArray, List.length_cons, List.length_nil, Nat.reduceAdd, Nat.reduceSub, Array.replicate_succ, Array.replicate_zero, List.push_toArray, List.append_toArray, List.nil_append, List.cons_append]
  gi_wp2
  go_ret
  exact ⟨rfl, rfl⟩
def volOk (s : ByteArray) : Bool := !(s.size == 0) && decide (s.size ≤ 3) && s.data.toList.all (fun c => decide (97 ≤ c.toNat) && decide (c.toNat ≤ 122))
def volP (c : UInt8) : Bool := decide (97 ≤ c.toNat) && decide (c.toNat ≤ 122)
def volA (pre : List (Nat × UInt8)) : Bool := pre.all (fun y => volP y.2)
theorem vol_take (s : ByteArray) (k : Nat) (hk : k ≤ s.size) : volA (volUp (fun j => (j, s.data[j]?.getD 0)) k) = (s.data.toList.take k).all volP := by
  have h : (volUp (fun j => (j, s.data[j]?.getD 0)) k).map (·.2) = s.data.toList.take k := by
    apply List.ext_getElem
    · have : k ≤ s.data.size := hk
      simp [volUp]; omega
    · intro i h1 h2
      have h3 : i < s.data.size := by rw [List.length_take, Array.length_toList] at h2; omega
      simp [volUp]
      rw [Array.getElem?_eq_getElem h3]; rfl
  rw [← h, List.all_map]; rfl
theorem vol_good {pre : List (Nat × UInt8)} {x : Nat × UInt8} (h : volA pre = true) (h1 : 97 ≤ (x.2.toNat : Int)) (h2 : (x.2.toNat : Int) ≤ 122) : volA (pre ++ [x]) = true := by
  unfold volA at *; rw [List.all_append, h]; simp [volP]; omega
theorem vol_bad {pre : List (Nat × UInt8)} {x : Nat × UInt8} (h : (x.2.toNat : Int) < 97 ∨ 122 < (x.2.toNat : Int)) : volA (pre ++ [x]) = false := by
  unfold volA; rw [List.all_append]; simp [volP]; omega
theorem vol_yes {s : ByteArray} (h0 : s.size ≠ 0) (h3 : s.size ≤ 3) (h : volA (volUp (fun j => (j, s.data[j]?.getD 0)) s.size) = true) : volOk s = true := by
  rw [vol_take s s.size (Nat.le_refl _)] at h
  rw [List.take_of_length_le (by simp)] at h
  unfold volOk
  rw [show (fun c : UInt8 => decide (97 ≤ c.toNat) && decide (c.toNat ≤ 122)) = volP from rfl, h]
  simp [h0, h3]
theorem vol_no {s : ByteArray} {pre : List (Nat × UInt8)} (hp : ∃ k, k ≤ s.size ∧ pre = volUp (fun j => (j, s.data[j]?.getD 0)) k) (h : volA pre = false) : volOk s = false := by
  obtain ⟨k, hk, rfl⟩ := hp
  rw [vol_take s k hk] at h
  unfold volOk
  rw [show (fun c : UInt8 => decide (97 ≤ c.toNat) && decide (c.toNat ≤ 122)) = volP from rfl]
  have : s.data.toList.all volP = false := by
    rw [← List.take_append_drop k s.data.toList, List.all_append, h]; rfl
  rw [this]; simp
set_option maxRecDepth 100000 in
set_option maxHeartbeats 2000000 in
theorem vol55_in (F : Fence) (n : Nat) (h55 : F.fn 55) (h72 : F.fn 72) (h101 : F.fn 101) (hro : F.round = none) (hn : 3 ≤ n) (s : ByteArray) (hreach : s.size ≤ 140737488355328) (w : World) :
    CallsIn F n Tryz.prog 55 #[.string s] w fun e W' => e = .returned (.bool (volOk s)) ∧ Below w.heap.size w W' := by
  have h1 : 1 ≤ n := by omega
  refine callsIn_of_wp_marks Tryz.func55 rfl h55 ?_ hro
  simp only [Tryz.ntmps55, List.size_toArray, List.length_cons, List.length_nil, Nat.reduceAdd, Nat.reduceSub, Array.replicate_succ, Array.replicate_zero, List.push_toArray, List.append_toArray, List.nil_append, List.cons_append]
  gi_wp2_with (gi_at_call 72; refine (vol72_in F (n - 1) h72 hro _ _).mono ?_; rintro e w' ⟨rfl, rfl⟩)
  · rename_i hs
    have hs0 : s.data.toList = [] := by rw [← ByteArray.toList_eq]; exact hs
    have c1 := vol_new w (.bool false) 4
    refine ⟨.bool false, by simp [results, Tryz.f55, go_sem, c1.1], ?_, (Below.refl _ w).alloc (Nat.le_refl _) _⟩
    have : s.size = 0 := by have := congrArg List.length hs0; simpa using this
    simp [volOk, this]
  · rename_i hs hd
    have c1 := vol_new w (.bool false) 4
    refine ⟨.bool false, by simp [results, Tryz.f55, go_sem, c1.1], ?_, (Below.refl _ w).alloc (Nat.le_refl _) _⟩
    have : 3 < s.size := by
      rcases hd with h | h
      · exact absurd (List.isEmpty_iff.1 h) hs
      · omega
    simp [volOk]
    intro _ h3
    omega
  · rename_i hs hd _ _
    have hs3 : s.size ≤ 3 := by omega
    have hs0 : s.size ≠ 0 := fun h => hs (by rw [ByteArray.toList_eq]; exact List.eq_nil_of_length_eq_zero (by simpa using h))
    have c1 := vol_new w (.bool false) 4
    have c2 := vol_new (w.alloc (.cells #[.bool false] 4)) (.string s) 9
    simp only [World.size_alloc] at c2
    have hB0 : Below w.heap.size w ((w.alloc (.cells #[.bool false] 4)).alloc (.cells #[.string s] 9)) := ((Below.refl _ w).alloc (Nat.le_refl _) _).alloc (by simp) _
    refine wpIn_rangeFunc_ownF hro h1 (gf := 101) (lb := #[.pointer (some ⟨w.heap.size + 1, 0, none⟩)]) rfl h101 (enters_of Tryz.func101 (by kernel_rfl) rfl)
      (vol_stops F (n - 1) h101 hro (by omega) (w.heap.size + 1) (w.heap.size + 2) s hreach _ (by simp) (by omega) c2.1) belowK_t (belowK_b (by simp)) (Below.refl _ _) (fun _ => rfl)
      (fun pre W => ((volA pre = true) ∧ W.cell? ⟨w.heap.size, 0, none⟩ = some (.bool false) ∧ W.frozen? ⟨w.heap.size, 0, none⟩ = false) ∧ Below w.heap.size w W)
      (fun c pre W => (c = .ret ∧ (volA pre = false) ∧ W.cell? ⟨w.heap.size, 0, none⟩ = some (.bool false)) ∧ Below w.heap.size w W)
      (OwnFrom.and (Own.from (fun s A B row hs hg hr => ⟨hs.1, cell_kept hs.2.1 hg hr, (frozen_kept hs.2.1 hg hr).trans hs.2.2⟩) _) (ownFrom_below (Nat.le_refl _) (by simp; omega)))
      (fun c => OwnFrom.and (Own.from (fun s A B row hs hg hr => ⟨hs.1, hs.2.1, cell_kept hs.2.2 hg hr⟩) _) (ownFrom_below (Nat.le_refl _) (by simp; omega)))
      ⟨⟨rfl, vol_cell _ c1.1, vol_frozen _ c1.1 c1.2⟩, hB0⟩
      (fun x => { tmps := #[.string s, undef, .pointer (some ⟨w.heap.size, 0, none⟩), undef, .int .u8 (x.2.toNat : Int), .string s, .bool false, .bool false, .string s, .int .i64 s.size, .bool (decide (3 < (s.size : Int))), .bool (decide (3 < (s.size : Int))), .string s, .func (.func 101) #[] #[.pointer (some ⟨w.heap.size + 1, 0, none⟩)], .int .i64 ((x.1 : Int) + 1), .int .u8 (x.2.toNat : Int), undef, undef, undef, undef, undef, undef], defers := [] }) ?assign ?body ?done ?stop
    case assign =>
      intro l x W K hK
      gi_wp2
      exact hK
    case body =>
      rintro l pre x W ⟨⟨hp, hcr, hfr⟩, hB⟩ _
      gi_wp2
      all_goals first
        | exact ⟨KeepsOthers.setCell _ _ _, ⟨rfl, vol_bad (by omega), World.cell?_setCell_same' _ _ _ (by rw [hcr]; rfl)⟩, hB.setCell (p := ⟨w.heap.size, 0, none⟩) (by simp) _⟩
        | exact ⟨KeepsOthers.refl _, Below.refl _ _, ⟨vol_good hp (by omega) (by omega), hcr, hfr⟩, hB⟩
    case done =>
      rintro D ys W hD rfl ⟨⟨hne, hcr, hfr⟩, hB⟩ hK
      gi_wp2
      have hK' := (KeepsOthers.setCell W ⟨w.heap.size, 0, none⟩ (.bool true)).same D _ hK rfl
      refine ⟨by simp, .inl ⟨_, _, rfl, run_takeDeferred hK', ?_⟩⟩
      have hc5 := cell_kept (World.cell?_setCell_same' W ⟨w.heap.size, 0, none⟩ (.bool true) (by rw [hcr]; rfl)) (grownBy_putObj' _ D (.deferred none)) (fun r e => by cases e; exact ⟨_, hK', rfl⟩)
      refine ⟨.bool true, ?_, ?_, (hB.setCell (p := ⟨w.heap.size, 0, none⟩) (by simp) _).trans (belowK_b (w := w) (Nat.le_refl _) _ D _ _ (by simp at hD; omega) hK' rfl rfl)⟩
      · simp [results, Tryz.f55, go_sem, hc5]
      · rw [vol_yes hs0 hs3 hne]
    case stop =>
      rintro D c pre W hD hpre ⟨⟨rfl, hin, hcr⟩, hB⟩ hK
      gi_wp2
      refine ⟨by simp, .inl ⟨_, _, rfl, run_takeDeferred hK, ?_⟩⟩
      have hc5 := cell_kept hcr (grownBy_putObj' _ D (.deferred none)) (fun r e => by cases e; exact ⟨_, hK, rfl⟩)
      refine ⟨.bool false, ?_, ?_, hB.trans (belowK_b (w := w) (Nat.le_refl _) W D _ _ (by simp at hD; omega) hK rfl rfl)⟩
      · simp [results, Tryz.f55, go_sem, hc5]
      · rw [vol_no hpre hin]
end Go.Proofs

/- weigh: a range over a function whose body writes a variable: walked by the kit's laws. -/
namespace Go.Proofs
open Go.RowKit Go.Shelf
attribute [local go_sem] Oper.semAt_some
/-- a byte with its place, which is not too great -/
abbrev WX := { x : Nat × UInt8 // x.1 < 1000000 }
abbrev weiE (x : WX) : Array Value := volE x.val
def weiF (s : ByteArray) (j : Nat) : WX := ⟨(min j 999999, s.data[j]?.getD 0), by show min j 999999 < 1000000; omega⟩
set_option maxRecDepth 100000 in
set_option maxHeartbeats 1000000 in
theorem weiB_in (F : Fence) (n : Nat) (h8 : F.fn 101) (hro : F.round = none) (hn : 1 ≤ n) (l Bs : Nat) (s : ByteArray) (hreach : s.size ≤ 1000000) (J Jx : List WX → World → Prop)
    (hY : ∀ pre x W, J pre W → pre.length < s.size → YieldAt F (n - 1) Tryz.prog l (weiE x) W fun e W' =>
      (e = .returned (.bool true) ∧ J (pre ++ [x]) W' ∧ W'.heap[Bs]? = W.heap[Bs]?) ∨ (e = .returned (.bool false) ∧ Jx (pre ++ [x]) W'))
    (W : World) (hBs : W.cell? ⟨Bs, 0, none⟩ = some (.string s)) (h0 : J [] W) :
    CallsIn F n Tryz.prog 101 #[.func (.yield l) #[] #[], .pointer (some ⟨Bs, 0, none⟩)] W fun e W' => (∃ v, e = .returned v) ∧
      ((∃ ys, ys = volUp (weiF s) s.size ∧ J ys W') ∨ (∃ pre, (∃ k, k ≤ s.size ∧ pre = volUp (weiF s) k) ∧ Jx pre W')) := by
  refine callsIn_of_wp Tryz.func101 rfl h8 ?_ hro
  simp only [Tryz.ntmps101, List.size_toArray, List.length_cons, List.length_nil, Nat.reduceAdd, Nat.reduceSub, Array.replicate_succ, Array.replicate_zero, List.push_toArray, List.append_toArray, List.nil_append, List.cons_append]
  gi_wp2
  gi_loopw [6] (fun i wr => ∃ k : Nat, k ≤ s.size ∧ i = .int .i64 k ∧ J (volUp (weiF s) k) wr ∧ wr.heap[Bs]? = W.heap[Bs]?)
    (fun i _ => s.size - (intOf i).toNat)
  case atStart => exact ⟨0, Nat.zero_le _, rfl, h0, rfl⟩
  case round =>
    obtain ⟨k, hk, rfl, hJs, hnx⟩ := hrel
    have hcx : wr.cell? ⟨Bs, 0, none⟩ = some (.string s) := by
      have : wr.cell? ⟨Bs, 0, none⟩ = W.cell? ⟨Bs, 0, none⟩ := by simp only [World.cell?, hnx]
      exact this.trans hBs
    by_cases hlt : k < s.size
    · obtain ⟨fn, tmps, assign, body, hy, hR⟩ := hY _ (weiF s k) wr hJs (by rw [volUp_length]; exact hlt)
      dsimp only [weiE, volE, weiF] at hy
      rw [show min k 999999 = k by omega] at hy
      have e : s.data[k]?.getD 0 = s[k]'hlt := by
        have h : k < s.data.size := hlt
        rw [Array.getElem?_eq_getElem h]
        rfl
      rw [e] at hy
      gi_wp2
      refine hR.mono ?_
      rintro e W3 (⟨rfl, hJ3, hk3⟩ | ⟨rfl, hJx3⟩)
      · gi_wp2
        go_roundw
        case rel => exact ⟨k + 1, by omega, by simp, by rw [volUp_succ]; exact hJ3, hk3.trans hnx⟩
        case measure => simp [intOf]; omega
      · gi_wp2
        refine bodyPost_ret (results_none rfl _ _ _) rfl ?_
        exact ⟨⟨_, rfl⟩, .inr ⟨_, ⟨k + 1, by omega, (volUp_succ _ _).symm⟩, hJx3⟩⟩
    · obtain rfl : k = s.size := by omega
      gi_wp2
      go_end0
      exact ⟨⟨_, rfl⟩, .inl ⟨_, rfl, hJs⟩⟩
theorem wei_stops (F : Fence) (n : Nat) (h8 : F.fn 101) (hro : F.round = none) (hn : 1 ≤ n) (Bs : Nat) (s : ByteArray) (hreach : s.size ≤ 1000000) (w : World) (hb : Bs < w.heap.size) (hc : w.cell? ⟨Bs, 0, none⟩ = some (.string s)) :
    SeqStopsK F n Tryz.prog 101 #[.pointer (some ⟨Bs, 0, none⟩)] weiE (fun W W' => W'.heap[Bs]? = W.heap[Bs]?) (fun xs => xs = volUp (weiF s) s.size)
      (fun pre => ∃ k, k ≤ s.size ∧ pre = volUp (weiF s) k) s.size w := fun l J Jx W hW _ _ hY h0 =>
  weiB_in F n h8 hro hn l Bs s hreach J Jx hY W ((hW.cell (p := ⟨Bs, 0, none⟩) hb).trans hc) h0
def weiS (pre : List WX) : Int := pre.foldl (fun a x => a + (x.val.2.toNat : Int) * (65536 + ((x.val.1 : Int) + 1))) 0
theorem weiS_add (pre : List WX) (x : WX) : weiS (pre ++ [x]) = weiS pre + (x.val.2.toNat : Int) * (65536 + ((x.val.1 : Int) + 1)) := by simp [weiS]
theorem wei_one (x : WX) : 0 ≤ (x.val.2.toNat : Int) * (65536 + ((x.val.1 : Int) + 1)) ∧ (x.val.2.toNat : Int) * (65536 + ((x.val.1 : Int) + 1)) ≤ 300000000 := by
  have h1 : x.val.2.toNat < 256 := x.val.2.toNat_lt
  have h2 := x.property
  refine ⟨Int.mul_nonneg (by omega) (by omega), ?_⟩
  have := Int.mul_le_mul (a := (x.val.2.toNat : Int)) (b := 65536 + ((x.val.1 : Int) + 1)) (c := 255) (d := 1065536) (by omega) (by omega) (by omega) (by omega)
  omega
theorem weiS_bd : ∀ (n : Nat) (pre : List WX), pre.length = n → 0 ≤ weiS pre ∧ weiS pre ≤ (pre.length : Int) * 300000000 := by
  intro n
  induction n with
  | zero => intro pre h; rw [List.eq_nil_of_length_eq_zero h]; simp [weiS]
  | succ n ih =>
    intro pre h
    have hne : pre ≠ [] := by rintro rfl; cases h
    obtain ⟨q, x, rfl⟩ : ∃ q x, pre = q ++ [x] := ⟨pre.dropLast, pre.getLast hne, (List.dropLast_concat_getLast hne).symm⟩
    have h1 := ih q (by simpa using h)
    have h2 := wei_one x
    rw [weiS_add]
    simp only [List.length_append, List.length_cons, List.length_nil]
    push_cast
    omega
def weiUp (s : ByteArray) (k : Nat) : List WX := volUp (weiF s) k
set_option maxRecDepth 100000 in
set_option maxHeartbeats 2000000 in
theorem wei_in (F : Fence) (n : Nat) (h41 : F.fn 42) (h53 : F.fn 72) (h55 : F.fn 101) (hro : F.round = none) (hn : 3 ≤ n) (s : ByteArray) (hreach : s.size ≤ 1000000) (w : World) :
    CallsIn F n Tryz.prog 42 #[.string s] w fun e W' => e = .returned (.int .i64 (weiS (weiUp s s.size))) ∧ Below w.heap.size w W' := by
  have h1 : 1 ≤ n := by omega
  refine callsIn_of_wp_marks Tryz.func42 rfl h41 ?_ hro
  simp only [Tryz.ntmps42, List.size_toArray, List.length_cons, List.length_nil, Nat.reduceAdd, Nat.reduceSub, Array.replicate_succ, Array.replicate_zero, List.push_toArray, List.append_toArray, List.nil_append, List.cons_append]
  gi_wp2_with (gi_at_call 72; refine (vol72_in F (n - 1) h53 hro _ _).mono ?_; rintro e w' ⟨rfl, rfl⟩)
  have c1 := vol_new w (.int .i64 0) 3
  have c2 := vol_new (w.alloc (.cells #[.int .i64 0] 3)) (.string s) 9
  simp only [World.size_alloc] at c2
  have hB0 : Below w.heap.size w ((w.alloc (.cells #[.int .i64 0] 3)).alloc (.cells #[.string s] 9)) := ((Below.refl _ w).alloc (Nat.le_refl _) _).alloc (by simp) _
  refine wpIn_rangeFunc_ownF hro h1 (gf := 101) (lb := #[.pointer (some ⟨w.heap.size + 1, 0, none⟩)]) rfl h55 (enters_of Tryz.func101 (by kernel_rfl) rfl)
    (wei_stops F (n - 1) h55 hro (by omega) (w.heap.size + 1) s hreach _ (by simp) c2.1) (fun h k => k.trans h) (fun W l o o' hl _ _ _ => World.putObj_heap_other (by simp at hl; omega)) (Below.refl _ _) (fun _ => rfl)
    (fun pre W => (W.cell? ⟨w.heap.size, 0, none⟩ = some (.int .i64 (weiS pre)) ∧ W.frozen? ⟨w.heap.size, 0, none⟩ = false) ∧ Below w.heap.size w W)
    (fun _ _ _ => False)
    (OwnFrom.and (Own.from (fun s A B row hs hg hr => ⟨cell_kept hs.1 hg hr, (frozen_kept hs.1 hg hr).trans hs.2⟩) _) (ownFrom_below (Nat.le_refl _) (by simp; omega)))
    (fun c => Own.from (fun s A B row hs hg hr => hs) _)
    ⟨⟨vol_cell _ c1.1, vol_frozen _ c1.1 c1.2⟩, hB0⟩
    (fun x => { tmps := #[.string s, undef, .int .i64 0, .pointer (some ⟨w.heap.size, 0, none⟩), .int .i64 ((x.val.1 : Int) + 1), .int .u8 (x.val.2.toNat : Int), .string s, .func (.func 101) #[] #[.pointer (some ⟨w.heap.size + 1, 0, none⟩)], .int .i64 ((x.val.1 : Int) + 1), .int .u8 (x.val.2.toNat : Int), undef, undef, undef, undef, undef, undef, undef, undef], defers := [] }) ?assign ?body ?done ?stop
  case assign =>
    intro l x W K hK
    gi_wp2
    exact hK
  case body =>
    rintro l pre x W ⟨⟨hcr, hfr⟩, hB⟩ hlt
    have hb := weiS_bd _ pre rfl
    have hb1 := wei_one x
    have hu : x.val.2.toNat < 256 := x.val.2.toNat_lt
    have hp := x.property
    gi_wp2
    exact ⟨KeepsOthers.setCell _ _ _, Below.heap_setCell _ _ _ _ (by show w.heap.size + 1 ≠ w.heap.size; omega), ⟨by rw [weiS_add]; exact World.cell?_setCell_same' _ _ _ (by rw [hcr]; rfl), by rw [World.frozen?_setCell]; exact hfr⟩, hB.setCell (p := ⟨w.heap.size, 0, none⟩) (by simp) _⟩
  case done =>
    rintro D ys W hD rfl ⟨⟨hcr, hfr⟩, hB⟩ hK
    gi_wp2
    refine ⟨by simp, .inl ⟨_, _, rfl, run_takeDeferred hK, ?_⟩⟩
    refine ⟨.int .i64 (weiS (weiUp s s.size)), ?_, rfl, hB.trans (belowK_b (w := w) (Nat.le_refl _) _ D _ _ (by simp at hD; omega) hK rfl rfl)⟩
    simp [results, Tryz.f42, go_sem, weiUp]
  case stop =>
    rintro D c pre W hD hpre h hK
    exact h.elim
end Go.Proofs

namespace Go.Proofs
def Tryz.lays156_ren : Go.Shelf.Ren := ⟨fun | 156 => 71 | 165 => 98 | 166 => 99 | 169 => 100 | 240 => 120 | 241 => 121 | 276 => 139 | 277 => 140 | n => n, fun | 31 => 43 | 9 => 9 | 3 => 3 | 4 => 4 | 0 => 0 | 20 => 20 | 72 => 131 | 76 => 105 | 70 => 129 | 37 => 22 | 75 => 46 | 127 => 148 | 164 => 161 | 5 => 5 | 80 => 38 | n => n, fun | n => n⟩
theorem Tryz.lays156 : Go.Proofs.Lays.n156 Tryz.prog Tryz.lays156_ren := {
  mixed := by kernel_rfl
  f156 := Tryz.func71.trans (congrArg some (by kernel_rfl))
  f165 := Tryz.func98.trans (congrArg some (by kernel_rfl))
  f166 := Tryz.func99.trans (congrArg some (by kernel_rfl))
  f169 := Tryz.func100.trans (congrArg some (by kernel_rfl))
  f240 := Tryz.func120.trans (congrArg some (by kernel_rfl))
  f241 := Tryz.func121.trans (congrArg some (by kernel_rfl))
  f276 := Tryz.func139.trans (congrArg some (by kernel_rfl))
  f277 := Tryz.func140.trans (congrArg some (by kernel_rfl))
  t0 := Tryz.underlying0
  a0 := Tryz.isAgg0
  z0 := Tryz.sizeOf0
  v0 := Tryz.zeroValue0
  t3 := Tryz.underlying3
  a3 := Tryz.isAgg3
  z3 := Tryz.sizeOf3
  v3 := Tryz.zeroValue3
  t4 := Tryz.underlying4
  a4 := Tryz.isAgg4
  z4 := Tryz.sizeOf4
  v4 := Tryz.zeroValue4
  t9 := Tryz.underlying9
  a9 := Tryz.isAgg9
  z9 := Tryz.sizeOf9
  v9 := Tryz.zeroValue9
  t20 := Tryz.underlying20
  a20 := Tryz.isAgg20
  z20 := Tryz.sizeOf20
  v20 := Tryz.zeroValue20
  t31 := Tryz.underlying43
  a31 := Tryz.isAgg43
  z31 := Tryz.sizeOf43
  v31 := Tryz.zeroValue43
  t37 := Tryz.underlying22
  a37 := Tryz.isAgg22
  z37 := Tryz.sizeOf22
  v37 := Tryz.zeroValue22
  t70 := Tryz.underlying129
  a70 := Tryz.isAgg129
  z70 := Tryz.sizeOf129
  v70 := Tryz.zeroValue129
  t72 := Tryz.underlying131
  a72 := Tryz.isAgg131
  z72 := Tryz.sizeOf131
  v72 := Tryz.zeroValue131
  t75 := Tryz.underlying46
  a75 := Tryz.isAgg46
  z75 := Tryz.sizeOf46
  v75 := Tryz.zeroValue46
  t76 := Tryz.underlying105
  a76 := Tryz.isAgg105
  z76 := Tryz.sizeOf105
  v76 := Tryz.zeroValue105
  t127 := Tryz.underlying148
  a127 := Tryz.isAgg148
  z127 := Tryz.sizeOf148
  v127 := Tryz.zeroValue148
  t164 := Tryz.underlying161
  a164 := Tryz.isAgg161
  z164 := Tryz.sizeOf161
  v164 := Tryz.zeroValue161 }
theorem Tryz.Builder_Extra_156 : Builder.Extra Tryz.prog Tryz.lays156_ren := {
  sizeBuilder := by kernel_rfl
  liesBuilder := by kernel_rfl
  t5 := Tryz.underlying5
  a5 := Tryz.isAgg5
  z5 := Tryz.sizeOf5
  v5 := Tryz.zeroValue5
  infoByte := by kernel_rfl
  cellsByte := by kernel_rfl
  sizeByte := by kernel_rfl
  neB5 := by decide }
open Go.RowKit in
theorem Tryz.strings_Join_none (a : Option Addr) (c : Nat) (sep : ByteArray) (w : World) :
    Calls Tryz.prog 71 #[.slice a 0 c, .string sep] w fun e w' => e = .returned (.string ⟨#[]⟩) ∧ w' = w := Any.strings_Join_none Tryz.lays156 Tryz.Builder_Extra_156 a c sep w
open Go.RowKit in
theorem Tryz.strings_Join (bk o c : Nat) (xs : List ByteArray) (sep : ByteArray) (w : World) (hcells : ∀ (j : Nat) x, xs[j]? = some x → w.cell? ⟨bk, o + j, none⟩ = some (.string x)) (hbk : bk < w.heap.size) (hN : xs.length ≤ 140737488355328) (hcap : xs.length ≤ c) (hlen : (Lib.join (xs.map (·.data.toList)) sep.data.toList).length ≤ 140737488355328) :
    Calls Tryz.prog 71 #[.slice (some ⟨bk, o, none⟩) xs.length c, .string sep] w fun e w' => e = .returned (.string ⟨(Lib.join (xs.map (·.data.toList)) sep.data.toList).toArray⟩) ∧ Below w.heap.size w w' := Any.strings_Join Tryz.lays156 Tryz.Builder_Extra_156 bk o c xs sep w hcells hbk hN hcap hlen
def Tryz.laysM171_ren : Go.Shelf.Ren := ⟨fun | 171 => 40 | 243 => 69 | 246 => 97 | 283 => 116 | 284 => 117 | 285 => 118 | 286 => 119 | 129 => 135 | 317 => 134 | 318 => 136 | 319 => 137 | 320 => 138 | 337 => 147 | 338 => 148 | n => n, fun | 3 => 3 | 9 => 9 | 2 => 2 | 4 => 4 | 171 => 142 | 0 => 0 | 53 => 143 | 37 => 22 | 5 => 5 | 173 => 146 | 212 => 157 | 51 => 158 | 20 => 20 | 213 => 159 | 46 => 149 | 232 => 182 | 233 => 183 | n => n, fun | 17 => 2 | 18 => 7 | 19 => 8 | n => n⟩
theorem Tryz.laysM171 : Go.Proofs.LaysM.n171 Tryz.prog Tryz.laysM171_ren := {
  mixed := by kernel_rfl
  f129 := Tryz.func135.trans (congrArg some (by kernel_rfl))
  f171 := Tryz.func40.trans (congrArg some (by kernel_rfl))
  f243 := Tryz.func69.trans (congrArg some (by kernel_rfl))
  f246 := Tryz.func97.trans (congrArg some (by kernel_rfl))
  f283 := Tryz.func116.trans (congrArg some (by kernel_rfl))
  f284 := Tryz.func117.trans (congrArg some (by kernel_rfl))
  f285 := Tryz.func118.trans (congrArg some (by kernel_rfl))
  f286 := Tryz.func119.trans (congrArg some (by kernel_rfl))
  f317 := Tryz.func134.trans (congrArg some (by kernel_rfl))
  f318 := Tryz.func136.trans (congrArg some (by kernel_rfl))
  f319 := Tryz.func137.trans (congrArg some (by kernel_rfl))
  f320 := Tryz.func138.trans (congrArg some (by kernel_rfl))
  f337 := Tryz.func147.trans (congrArg some (by kernel_rfl))
  f338 := Tryz.func148.trans (congrArg some (by kernel_rfl))
  t0 := Tryz.underlying0
  a0 := Tryz.isAgg0
  z0 := Tryz.sizeOf0
  v0 := Tryz.zeroValue0
  t2 := Tryz.underlying2
  a2 := Tryz.isAgg2
  z2 := Tryz.sizeOf2
  v2 := Tryz.zeroValue2
  t3 := Tryz.underlying3
  a3 := Tryz.isAgg3
  z3 := Tryz.sizeOf3
  v3 := Tryz.zeroValue3
  t4 := Tryz.underlying4
  a4 := Tryz.isAgg4
  z4 := Tryz.sizeOf4
  v4 := Tryz.zeroValue4
  t5 := Tryz.underlying5
  a5 := Tryz.isAgg5
  z5 := Tryz.sizeOf5
  v5 := Tryz.zeroValue5
  t9 := Tryz.underlying9
  a9 := Tryz.isAgg9
  z9 := Tryz.sizeOf9
  v9 := Tryz.zeroValue9
  t20 := Tryz.underlying20
  a20 := Tryz.isAgg20
  z20 := Tryz.sizeOf20
  v20 := Tryz.zeroValue20
  t37 := Tryz.underlying22
  a37 := Tryz.isAgg22
  z37 := Tryz.sizeOf22
  v37 := Tryz.zeroValue22
  t46 := Tryz.underlying149
  a46 := Tryz.isAgg149
  z46 := Tryz.sizeOf149
  v46 := Tryz.zeroValue149
  t51 := Tryz.underlying158
  a51 := Tryz.isAgg158
  z51 := Tryz.sizeOf158
  v51 := Tryz.zeroValue158
  t53 := Tryz.underlying143
  a53 := Tryz.isAgg143
  z53 := Tryz.sizeOf143
  v53 := Tryz.zeroValue143
  t171 := Tryz.underlying142
  a171 := Tryz.isAgg142
  z171 := Tryz.sizeOf142
  v171 := Tryz.zeroValue142
  t173 := Tryz.underlying146
  a173 := Tryz.isAgg146
  z173 := Tryz.sizeOf146
  v173 := Tryz.zeroValue146
  t212 := Tryz.underlying157
  a212 := Tryz.isAgg157
  z212 := Tryz.sizeOf157
  v212 := Tryz.zeroValue157
  t213 := Tryz.underlying159
  a213 := Tryz.isAgg159
  z213 := Tryz.sizeOf159
  t232 := Tryz.underlying182
  a232 := Tryz.isAgg182
  z232 := Tryz.sizeOf182
  v232 := Tryz.zeroValue182
  t233 := Tryz.underlying183
  a233 := Tryz.isAgg183
  z233 := Tryz.sizeOf183
  v233 := Tryz.zeroValue183
  g17 := by kernel_rfl
  g18 := by kernel_rfl
  g19 := by kernel_rfl
  i0 := by kernel_rfl
  i2 := by kernel_rfl
  i3 := by kernel_rfl
  i4 := by kernel_rfl
  i5 := by kernel_rfl
  i9 := by kernel_rfl
  i20 := by kernel_rfl
  i37 := by kernel_rfl
  i46 := by kernel_rfl
  i51 := by kernel_rfl
  i53 := by kernel_rfl
  i171 := by kernel_rfl
  i173 := by kernel_rfl
  i212 := by kernel_rfl
  i232 := by kernel_rfl
  i233 := by kernel_rfl
  m17 := by kernel_rfl
  m18 := by kernel_rfl
  m19 := by kernel_rfl }
open Go.RowKit Go.Sort Go.Lib in
theorem Tryz.strconv_Itoa (n : Int) (h0 : -9223372036854775808 ≤ n) (h1 : n ≤ 9223372036854775807) (w : World) (htab : Lib.TabIs Tryz.prog w "internal/strconv.uint64pow10" .u64 Lib.pow10Tab) :
    Calls Tryz.prog 40 #[.int .i64 n] w fun e w' => e = .returned (.string ⟨(Lib.itoa n).toArray⟩) ∧ ∃ k os, w' = grow (w.drewN k) os := Any.strconv_Itoa Tryz.laysM171 n h0 h1 w htab
def Tryz.laysC172_ren : Go.Shelf.Ren := ⟨fun | 172 => 81 | 244 => 107 | 245 => 108 | 247 => 127 | 279 => 128 | 280 => 129 | 281 => 130 | 282 => 131 | 287 => 143 | 316 => 144 | 171 => 40 | 205 => 145 | 321 => 149 | 322 => 150 | 243 => 69 | 246 => 97 | 283 => 116 | 284 => 117 | 285 => 118 | 286 => 119 | 129 => 135 | 317 => 134 | 318 => 136 | 319 => 137 | 320 => 138 | 337 => 147 | 338 => 148 | n => n, fun | 9 => 9 | 3 => 3 | 75 => 46 | 76 => 105 | 4 => 4 | 5 => 5 | 167 => 150 | 37 => 22 | 0 => 0 | 85 => 151 | 2 => 2 | 168 => 153 | 53 => 143 | 175 => 170 | 46 => 149 | 210 => 174 | 127 => 148 | 145 => 181 | 143 => 179 | 21 => 21 | 171 => 142 | 173 => 146 | 212 => 157 | 51 => 158 | 20 => 20 | 213 => 159 | 232 => 182 | 233 => 183 | 80 => 38 | n => n, fun | 15 => 5 | 16 => 6 | 17 => 2 | 18 => 7 | 19 => 8 | n => n⟩
theorem Tryz.laysC172 : Go.Proofs.LaysC.n172 Tryz.prog Tryz.laysC172_ren := {
  mixed := by kernel_rfl
  f129 := Tryz.func135.trans (congrArg some (by kernel_rfl))
  f171 := Tryz.func40.trans (congrArg some (by kernel_rfl))
  f172 := Tryz.func81.trans (congrArg some (by kernel_rfl))
  f205 := Tryz.func145.trans (congrArg some (by kernel_rfl))
  f243 := Tryz.func69.trans (congrArg some (by kernel_rfl))
  f244 := Tryz.func107.trans (congrArg some (by kernel_rfl))
  f245 := Tryz.func108.trans (congrArg some (by kernel_rfl))
  f246 := Tryz.func97.trans (congrArg some (by kernel_rfl))
  f247 := Tryz.func127.trans (congrArg some (by kernel_rfl))
  f279 := Tryz.func128.trans (congrArg some (by kernel_rfl))
  f280 := Tryz.func129.trans (congrArg some (by kernel_rfl))
  f281 := Tryz.func130.trans (congrArg some (by kernel_rfl))
  f282 := Tryz.func131.trans (congrArg some (by kernel_rfl))
  f283 := Tryz.func116.trans (congrArg some (by kernel_rfl))
  f284 := Tryz.func117.trans (congrArg some (by kernel_rfl))
  f285 := Tryz.func118.trans (congrArg some (by kernel_rfl))
  f286 := Tryz.func119.trans (congrArg some (by kernel_rfl))
  f287 := Tryz.func143.trans (congrArg some (by kernel_rfl))
  f316 := Tryz.func144.trans (congrArg some (by kernel_rfl))
  f317 := Tryz.func134.trans (congrArg some (by kernel_rfl))
  f318 := Tryz.func136.trans (congrArg some (by kernel_rfl))
  f319 := Tryz.func137.trans (congrArg some (by kernel_rfl))
  f320 := Tryz.func138.trans (congrArg some (by kernel_rfl))
  f321 := Tryz.func149.trans (congrArg some (by kernel_rfl))
  f322 := Tryz.func150.trans (congrArg some (by kernel_rfl))
  f337 := Tryz.func147.trans (congrArg some (by kernel_rfl))
  f338 := Tryz.func148.trans (congrArg some (by kernel_rfl))
  t0 := Tryz.underlying0
  a0 := Tryz.isAgg0
  z0 := Tryz.sizeOf0
  v0 := Tryz.zeroValue0
  t2 := Tryz.underlying2
  a2 := Tryz.isAgg2
  z2 := Tryz.sizeOf2
  v2 := Tryz.zeroValue2
  t3 := Tryz.underlying3
  a3 := Tryz.isAgg3
  z3 := Tryz.sizeOf3
  v3 := Tryz.zeroValue3
  t4 := Tryz.underlying4
  a4 := Tryz.isAgg4
  z4 := Tryz.sizeOf4
  v4 := Tryz.zeroValue4
  t5 := Tryz.underlying5
  a5 := Tryz.isAgg5
  z5 := Tryz.sizeOf5
  v5 := Tryz.zeroValue5
  t9 := Tryz.underlying9
  a9 := Tryz.isAgg9
  z9 := Tryz.sizeOf9
  v9 := Tryz.zeroValue9
  t20 := Tryz.underlying20
  a20 := Tryz.isAgg20
  z20 := Tryz.sizeOf20
  v20 := Tryz.zeroValue20
  t21 := Tryz.underlying21
  a21 := Tryz.isAgg21
  z21 := Tryz.sizeOf21
  v21 := Tryz.zeroValue21
  t37 := Tryz.underlying22
  a37 := Tryz.isAgg22
  z37 := Tryz.sizeOf22
  v37 := Tryz.zeroValue22
  t46 := Tryz.underlying149
  a46 := Tryz.isAgg149
  z46 := Tryz.sizeOf149
  v46 := Tryz.zeroValue149
  t51 := Tryz.underlying158
  a51 := Tryz.isAgg158
  z51 := Tryz.sizeOf158
  v51 := Tryz.zeroValue158
  t53 := Tryz.underlying143
  a53 := Tryz.isAgg143
  z53 := Tryz.sizeOf143
  v53 := Tryz.zeroValue143
  t75 := Tryz.underlying46
  a75 := Tryz.isAgg46
  z75 := Tryz.sizeOf46
  v75 := Tryz.zeroValue46
  t76 := Tryz.underlying105
  a76 := Tryz.isAgg105
  z76 := Tryz.sizeOf105
  v76 := Tryz.zeroValue105
  t85 := Tryz.underlying151
  a85 := Tryz.isAgg151
  z85 := Tryz.sizeOf151
  v85 := Tryz.zeroValue151
  t127 := Tryz.underlying148
  a127 := Tryz.isAgg148
  z127 := Tryz.sizeOf148
  v127 := Tryz.zeroValue148
  t143 := Tryz.underlying179
  a143 := Tryz.isAgg179
  z143 := Tryz.sizeOf179
  v143 := Tryz.zeroValue179
  t145 := Tryz.underlying181
  a145 := Tryz.isAgg181
  z145 := Tryz.sizeOf181
  v145 := Tryz.zeroValue181
  t167 := Tryz.underlying150
  a167 := Tryz.isAgg150
  z167 := Tryz.sizeOf150
  v167 := Tryz.zeroValue150
  t168 := Tryz.underlying153
  a168 := Tryz.isAgg153
  z168 := Tryz.sizeOf153
  v168 := Tryz.zeroValue153
  t171 := Tryz.underlying142
  a171 := Tryz.isAgg142
  z171 := Tryz.sizeOf142
  v171 := Tryz.zeroValue142
  t173 := Tryz.underlying146
  a173 := Tryz.isAgg146
  z173 := Tryz.sizeOf146
  v173 := Tryz.zeroValue146
  t175 := Tryz.underlying170
  a175 := Tryz.isAgg170
  z175 := Tryz.sizeOf170
  v175 := Tryz.zeroValue170
  t210 := Tryz.underlying174
  a210 := Tryz.isAgg174
  z210 := Tryz.sizeOf174
  v210 := Tryz.zeroValue174
  t212 := Tryz.underlying157
  a212 := Tryz.isAgg157
  z212 := Tryz.sizeOf157
  v212 := Tryz.zeroValue157
  t213 := Tryz.underlying159
  a213 := Tryz.isAgg159
  z213 := Tryz.sizeOf159
  t232 := Tryz.underlying182
  a232 := Tryz.isAgg182
  z232 := Tryz.sizeOf182
  v232 := Tryz.zeroValue182
  t233 := Tryz.underlying183
  a233 := Tryz.isAgg183
  z233 := Tryz.sizeOf183
  v233 := Tryz.zeroValue183
  g15 := by kernel_rfl
  g16 := by kernel_rfl
  g17 := by kernel_rfl
  g18 := by kernel_rfl
  g19 := by kernel_rfl
  t80 := Tryz.underlying38
  a80 := Tryz.isAgg38
  z80 := Tryz.sizeOf38
  v80 := Tryz.zeroValue38
  i0 := by kernel_rfl
  i2 := by kernel_rfl
  i3 := by kernel_rfl
  i4 := by kernel_rfl
  i5 := by kernel_rfl
  i9 := by kernel_rfl
  i20 := by kernel_rfl
  i21 := by kernel_rfl
  i37 := by kernel_rfl
  i46 := by kernel_rfl
  i51 := by kernel_rfl
  i53 := by kernel_rfl
  i75 := by kernel_rfl
  i76 := by kernel_rfl
  i80 := by kernel_rfl
  i85 := by kernel_rfl
  i127 := by kernel_rfl
  i143 := by kernel_rfl
  i145 := by kernel_rfl
  i167 := by kernel_rfl
  i168 := by kernel_rfl
  i171 := by kernel_rfl
  i173 := by kernel_rfl
  i175 := by kernel_rfl
  i210 := by kernel_rfl
  i212 := by kernel_rfl
  i232 := by kernel_rfl
  i233 := by kernel_rfl
  m15 := by kernel_rfl
  m16 := by kernel_rfl
  m17 := by kernel_rfl
  m18 := by kernel_rfl
  m19 := by kernel_rfl
  c0 := by kernel_rfl
  c2 := by kernel_rfl
  c3 := by kernel_rfl
  c4 := by kernel_rfl
  c5 := by kernel_rfl
  c9 := by kernel_rfl
  c20 := by kernel_rfl
  c21 := by kernel_rfl
  c37 := by kernel_rfl
  c46 := by kernel_rfl
  c51 := by kernel_rfl
  c53 := by kernel_rfl
  c75 := by kernel_rfl
  c76 := by kernel_rfl
  c80 := by kernel_rfl
  c85 := by kernel_rfl
  c127 := by kernel_rfl
  c143 := by kernel_rfl
  c145 := by kernel_rfl
  c167 := by kernel_rfl
  c168 := by kernel_rfl
  c171 := by kernel_rfl
  c173 := by kernel_rfl
  c175 := by kernel_rfl
  c210 := by kernel_rfl
  c212 := by kernel_rfl
  c213 := by kernel_rfl
  c232 := by kernel_rfl
  c233 := by kernel_rfl }
open Go.RowKit in
theorem Tryz.strconv_Atoi_ok (s : ByteArray) (hmax : s.size ≤ 9223372036854775806) (v : Int) (h : Lib.atoiAll s.data.toList = .ok v) (w : World) :
    Calls Tryz.prog 81 #[.string s] w fun e w' => e = .returned (.tuple #[.int .i64 v, .nilIface]) ∧ (w' = w ∨ ∃ t, w' = Lib.bytesWorld w 5 t) := Any.strconv_Atoi_ok Tryz.laysC172 s hmax v h w
open Go.RowKit in
theorem Tryz.strconv_Atoi_syntax (s : ByteArray) (hlim : s.size ≤ 281474976710656) (h : Lib.atoiAll s.data.toList = Lib.atoiAll []) (ev : Value) (w : World) (hv : w.cell? ⟨5, 0, none⟩ = some ev) (hev : ev = .nilIface ∨ ∃ te pe, ev = .iface te pe) :
    Calls Tryz.prog 81 #[.string s] w fun e w' => ∃ N, e = .returned (.tuple #[.int .i64 (0), .iface 153 (.pointer (some ⟨N, 0, none⟩))]) ∧ w.heap.size ≤ N ∧ w'.heap[N]? = some (.cells #[.string ⟨#[65, 116, 111, 105]⟩, .string s, ev] 174 (0, 0)) ∧ Below w.heap.size w w' := Any.strconv_Atoi_syntax Tryz.laysC172 s hlim h ev w hv hev
open Go.RowKit in
theorem Tryz.strconv_Atoi_range (s : ByteArray) (hlim : s.size ≤ 281474976710656) (h : Lib.atoiAll s.data.toList = .range) (ev : Value) (w : World) (hv : w.cell? ⟨6, 0, none⟩ = some ev) (hev : ev = .nilIface ∨ ∃ te pe, ev = .iface te pe) :
    Calls Tryz.prog 81 #[.string s] w fun e w' => ∃ N, e = .returned (.tuple #[.int .i64 (Lib.atoiSat s.data.toList), .iface 153 (.pointer (some ⟨N, 0, none⟩))]) ∧ w.heap.size ≤ N ∧ w'.heap[N]? = some (.cells #[.string ⟨#[65, 116, 111, 105]⟩, .string s, ev] 174 (0, 0)) ∧ Below w.heap.size w w' := Any.strconv_Atoi_range Tryz.laysC172 s hlim h ev w hv hev
def Tryz.lays145_ren : Go.Shelf.Ren := ⟨fun | 145 => 83 | 220 => 110 | 219 => 106 | 217 => 123 | 225 => 124 | 224 => 125 | 267 => 126 | 266 => 141 | 314 => 142 | n => n, fun | 9 => 9 | 4 => 4 | 59 => 108 | 3 => 3 | 5 => 5 | 46 => 149 | 146 => 168 | 51 => 158 | n => n, fun | 1 => 1 | n => n⟩
theorem Tryz.lays145 : Go.Proofs.Lays.n145 Tryz.prog Tryz.lays145_ren := {
  mixed := by kernel_rfl
  f145 := Tryz.func83.trans (congrArg some (by kernel_rfl))
  f217 := Tryz.func123.trans (congrArg some (by kernel_rfl))
  f219 := Tryz.func106.trans (congrArg some (by kernel_rfl))
  f220 := Tryz.func110.trans (congrArg some (by kernel_rfl))
  f224 := Tryz.func125.trans (congrArg some (by kernel_rfl))
  f225 := Tryz.func124.trans (congrArg some (by kernel_rfl))
  f266 := Tryz.func141.trans (congrArg some (by kernel_rfl))
  f267 := Tryz.func126.trans (congrArg some (by kernel_rfl))
  f314 := Tryz.func142.trans (congrArg some (by kernel_rfl))
  t3 := Tryz.underlying3
  a3 := Tryz.isAgg3
  z3 := Tryz.sizeOf3
  v3 := Tryz.zeroValue3
  t4 := Tryz.underlying4
  a4 := Tryz.isAgg4
  z4 := Tryz.sizeOf4
  v4 := Tryz.zeroValue4
  t5 := Tryz.underlying5
  a5 := Tryz.isAgg5
  z5 := Tryz.sizeOf5
  v5 := Tryz.zeroValue5
  t9 := Tryz.underlying9
  a9 := Tryz.isAgg9
  z9 := Tryz.sizeOf9
  v9 := Tryz.zeroValue9
  t46 := Tryz.underlying149
  a46 := Tryz.isAgg149
  z46 := Tryz.sizeOf149
  v46 := Tryz.zeroValue149
  t51 := Tryz.underlying158
  a51 := Tryz.isAgg158
  z51 := Tryz.sizeOf158
  v51 := Tryz.zeroValue158
  t59 := Tryz.underlying108
  a59 := Tryz.isAgg108
  z59 := Tryz.sizeOf108
  v59 := Tryz.zeroValue108
  t146 := Tryz.underlying168
  a146 := Tryz.isAgg168
  z146 := Tryz.sizeOf168
  v146 := Tryz.zeroValue168
  g1 := by kernel_rfl }
open Go.RowKit Go.Lib in
theorem Tryz.strings_Cut (s sep : ByteArray) (m : Int) (w : World) (hs : s.size < 4294967281) (hm : w.cell? ⟨1, 0, none⟩ = some (.int .i64 m)) :
    Calls Tryz.prog 83 #[.string s, .string sep] w fun e w' => e = .returned (.tuple #[.string ⟨(Lib.cut s.data.toList sep.data.toList).1.toArray⟩, .string ⟨(Lib.cut s.data.toList sep.data.toList).2.1.toArray⟩, .bool (Lib.cut s.data.toList sep.data.toList).2.2]) ∧ ∃ n, w' = w.drewN n := Any.strings_Cut Tryz.lays145 s sep m w hs hm
def Tryz.lays99_ren : Go.Shelf.Ren := ⟨fun | 99 => 82 | 206 => 109 | n => n, fun | 9 => 9 | 4 => 4 | 3 => 3 | n => n, fun | n => n⟩
theorem Tryz.lays99 : Go.Proofs.Lays.n99 Tryz.prog Tryz.lays99_ren := {
  mixed := by kernel_rfl
  f99 := Tryz.func82.trans (congrArg some (by kernel_rfl))
  f206 := Tryz.func109.trans (congrArg some (by kernel_rfl))
  t3 := Tryz.underlying3
  a3 := Tryz.isAgg3
  z3 := Tryz.sizeOf3
  v3 := Tryz.zeroValue3
  t4 := Tryz.underlying4
  a4 := Tryz.isAgg4
  z4 := Tryz.sizeOf4
  v4 := Tryz.zeroValue4
  t9 := Tryz.underlying9
  a9 := Tryz.isAgg9
  z9 := Tryz.sizeOf9
  v9 := Tryz.zeroValue9 }
open Go.RowKit Go.Lib in
theorem Tryz.strings_HasPrefix (s p : ByteArray) (w : World) :
    Calls Tryz.prog 82 #[.string s, .string p] w fun e w' => e = .returned (.bool (Lib.hasPrefix s.data.toList p.data.toList)) ∧ w' = w := Any.strings_HasPrefix Tryz.lays99 s p w
def Tryz.lays146_ren : Go.Shelf.Ren := ⟨fun | 146 => 23 | 221 => 47 | 268 => 78 | 138 => 79 | 143 => 80 | 195 => 103 | 197 => 104 | 218 => 105 | 219 => 106 | 260 => 122 | 217 => 123 | 225 => 124 | 224 => 125 | 267 => 126 | 266 => 141 | 314 => 142 | n => n, fun | 9 => 9 | 31 => 43 | 3 => 3 | 4 => 4 | 0 => 0 | 105 => 134 | 21 => 21 | 5 => 5 | 46 => 149 | 119 => 164 | 139 => 167 | 138 => 166 | 146 => 168 | 51 => 158 | n => n, fun | 1 => 1 | 3 => 3 | 4 => 4 | n => n⟩
theorem Tryz.lays146 : Go.Proofs.Lays.n146 Tryz.prog Tryz.lays146_ren := {
  mixed := by kernel_rfl
  f138 := Tryz.func79.trans (congrArg some (by kernel_rfl))
  f143 := Tryz.func80.trans (congrArg some (by kernel_rfl))
  f146 := Tryz.func23.trans (congrArg some (by kernel_rfl))
  f195 := Tryz.func103.trans (congrArg some (by kernel_rfl))
  f197 := Tryz.func104.trans (congrArg some (by kernel_rfl))
  f217 := Tryz.func123.trans (congrArg some (by kernel_rfl))
  f218 := Tryz.func105.trans (congrArg some (by kernel_rfl))
  f219 := Tryz.func106.trans (congrArg some (by kernel_rfl))
  f221 := Tryz.func47.trans (congrArg some (by kernel_rfl))
  f224 := Tryz.func125.trans (congrArg some (by kernel_rfl))
  f225 := Tryz.func124.trans (congrArg some (by kernel_rfl))
  f260 := Tryz.func122.trans (congrArg some (by kernel_rfl))
  f266 := Tryz.func141.trans (congrArg some (by kernel_rfl))
  f267 := Tryz.func126.trans (congrArg some (by kernel_rfl))
  f268 := Tryz.func78.trans (congrArg some (by kernel_rfl))
  f314 := Tryz.func142.trans (congrArg some (by kernel_rfl))
  t0 := Tryz.underlying0
  a0 := Tryz.isAgg0
  z0 := Tryz.sizeOf0
  v0 := Tryz.zeroValue0
  t3 := Tryz.underlying3
  a3 := Tryz.isAgg3
  z3 := Tryz.sizeOf3
  v3 := Tryz.zeroValue3
  t4 := Tryz.underlying4
  a4 := Tryz.isAgg4
  z4 := Tryz.sizeOf4
  v4 := Tryz.zeroValue4
  t5 := Tryz.underlying5
  a5 := Tryz.isAgg5
  z5 := Tryz.sizeOf5
  v5 := Tryz.zeroValue5
  t9 := Tryz.underlying9
  a9 := Tryz.isAgg9
  z9 := Tryz.sizeOf9
  v9 := Tryz.zeroValue9
  t21 := Tryz.underlying21
  a21 := Tryz.isAgg21
  z21 := Tryz.sizeOf21
  v21 := Tryz.zeroValue21
  t31 := Tryz.underlying43
  a31 := Tryz.isAgg43
  z31 := Tryz.sizeOf43
  v31 := Tryz.zeroValue43
  t46 := Tryz.underlying149
  a46 := Tryz.isAgg149
  z46 := Tryz.sizeOf149
  v46 := Tryz.zeroValue149
  t51 := Tryz.underlying158
  a51 := Tryz.isAgg158
  z51 := Tryz.sizeOf158
  v51 := Tryz.zeroValue158
  t105 := Tryz.underlying134
  a105 := Tryz.isAgg134
  z105 := Tryz.sizeOf134
  v105 := Tryz.zeroValue134
  t119 := Tryz.underlying164
  a119 := Tryz.isAgg164
  z119 := Tryz.sizeOf164
  t138 := Tryz.underlying166
  a138 := Tryz.isAgg166
  z138 := Tryz.sizeOf166
  v138 := Tryz.zeroValue166
  t139 := Tryz.underlying167
  a139 := Tryz.isAgg167
  z139 := Tryz.sizeOf167
  v139 := Tryz.zeroValue167
  t146 := Tryz.underlying168
  a146 := Tryz.isAgg168
  z146 := Tryz.sizeOf168
  v146 := Tryz.zeroValue168
  g1 := by kernel_rfl
  g3 := by kernel_rfl
  g4 := by kernel_rfl }
open Go.RowKit Go.Lib in
theorem Tryz.strings_Split (s sep : ByteArray) (m : Int) (w : World) (hs : s.size < 4294967281) (hm : w.cell? ⟨1, 0, none⟩ = some (.int .i64 m)) (h1 : 1 ≤ sep.size) :
    Calls Tryz.prog 23 #[.string s, .string sep] w fun e w' =>
      e = .returned (.slice (some ⟨w.heap.size, 0, none⟩) (Lib.countB s sep + 1) (Lib.countB s sep + 1)) ∧ w' = w.alloc (.cells ((Lib.splitB sep 0 (Lib.countB s sep) s).map Value.string).toArray 9) := Any.strings_Split Tryz.lays146 (by kernel_rfl) s sep m w hs hm h1
end Go.Proofs

namespace Go.Sx
open Go
set_option maxRecDepth 100000
set_option linter.unusedVariables false
set_option linter.unusedSimpArgs false
abbrev T_Place : Ty := (.pr (.int .i64) (.int .i64))
abbrev T_Ptr : Ty := (.pr (.int .i64) (.pr (.int .i64) (.sl T_Place)))
abbrev T_Vol : Ty := (.pr .str (.sl T_Ptr))
abbrev T_Root : Ty := (.pr (.int .i64) (.sl T_Vol))
abbrev T_rootReader : Ty := (.pr (.sl .str) .er)
abbrev T_l6Rd : Ty := (.pr (.sl (.int .u8)) (.int .i64))
def tt : TT := [⟨2, (.int .i64), false, 0, 0, 8, []⟩, ⟨3, (.int .i64), false, 0, 0, 8, []⟩, ⟨4, .bool, false, 0, 0, 1, []⟩, ⟨5, (.int .u8), false, 0, 0, 1, []⟩, ⟨6, (.int .u8), false, 0, 0, 1, []⟩, ⟨7, (.pr (.int .i64) (.pr (.int .i64) (.pr .bool (.int .u8)))), true, 4, 0, 24, [2, 3, 4, 6]⟩, ⟨8, (.pr (.int .i64) (.pr (.int .i64) (.pr .bool (.int .u8)))), true, 4, 0, 24, [2, 3, 4, 6]⟩, ⟨9, .str, false, 0, 0, 16, []⟩, ⟨10, .str, false, 0, 0, 16, []⟩, ⟨11, .str, false, 0, 0, 16, []⟩, ⟨12, (.int .u64), false, 0, 0, 8, []⟩, ⟨13, (.pr .str (.int .u64)), true, 2, 0, 24, [9, 12]⟩, ⟨14, (.pr .str (.int .u64)), true, 2, 0, 24, [9, 12]⟩, ⟨21, (.int .i32), false, 0, 0, 4, []⟩, ⟨22, (.sl (.int .u8)), false, 0, 5, 24, []⟩, ⟨23, (.sl T_Vol), false, 0, 53, 24, []⟩, ⟨24, (.pr (.int .i64) (.sl T_Vol)), true, 2, 0, 32, [3, 23]⟩, ⟨25, T_Root, true, 2, 0, 32, [3, 23]⟩, ⟨42, .pt, false, 0, 0, 8, []⟩, ⟨43, (.sl .str), false, 0, 9, 24, []⟩, ⟨46, .er, false, 0, 0, 16, []⟩, ⟨47, (.pr (.sl .str) .er), true, 2, 0, 40, [43, 46]⟩, ⟨48, T_rootReader, true, 2, 0, 40, [43, 46]⟩, ⟨51, (.sl T_Ptr), false, 0, 57, 24, []⟩, ⟨52, (.pr .str (.sl T_Ptr)), true, 2, 0, 40, [9, 51]⟩, ⟨53, T_Vol, true, 2, 0, 40, [9, 51]⟩, ⟨55, (.sl T_Place), false, 0, 63, 24, []⟩, ⟨56, (.pr (.int .i64) (.pr (.int .i64) (.sl T_Place))), true, 3, 0, 40, [3, 3, 55]⟩, ⟨57, T_Ptr, true, 3, 0, 40, [3, 3, 55]⟩, ⟨62, (.pr (.int .i64) (.int .i64)), true, 2, 0, 16, [3, 3]⟩, ⟨63, T_Place, true, 2, 0, 16, [3, 3]⟩, ⟨69, .pt, false, 0, 0, 8, []⟩, ⟨93, (.pr (.sl (.int .u8)) (.int .i64)), true, 2, 0, 32, [22, 3]⟩, ⟨94, T_l6Rd, true, 2, 0, 32, [22, 3]⟩, ⟨96, (.sl (.int .i64)), false, 0, 3, 24, []⟩, ⟨119, (.sl .er), false, 0, 46, 24, []⟩, ⟨142, (.arr 24 (.int .u8)), true, 0, 5, 24, []⟩, ⟨143, (.int .u64), false, 0, 0, 8, []⟩, ⟨149, (.int .u64), false, 0, 0, 8, []⟩, ⟨150, (.int .i64), false, 0, 0, 8, []⟩, ⟨157, (.arr 20 (.int .u64)), true, 0, 143, 160, []⟩, ⟨158, (.int .u32), false, 0, 0, 4, []⟩, ⟨159, (.arr 65 (.int .u8)), true, 0, 5, 65, []⟩, ⟨164, (.arr 256 (.int .u8)), true, 0, 5, 256, []⟩, ⟨165, (.pr (.int .u8) (.int .u8)), true, 2, 0, 2, [5, 5]⟩, ⟨166, (.pr (.int .u8) (.int .u8)), true, 2, 0, 2, [5, 5]⟩, ⟨167, (.arr 16 (.pr (.int .u8) (.int .u8))), true, 0, 166, 32, []⟩, ⟨173, (.pr .str (.pr .str .er)), true, 3, 0, 48, [9, 9, 46]⟩, ⟨174, (.pr .str (.pr .str .er)), true, 3, 0, 48, [9, 9, 46]⟩, ⟨180, .str, true, 1, 0, 16, [9]⟩, ⟨181, .str, true, 1, 0, 16, [9]⟩, ⟨182, (.arr 32 (.int .u8)), true, 0, 5, 32, []⟩, ⟨183, (.arr 64 (.int .u8)), true, 0, 5, 64, []⟩, ⟨190, (.int .u8), false, 0, 0, 1, []⟩, ⟨191, (.int .u8), false, 0, 0, 1, []⟩, ⟨193, (.int .i32), false, 0, 0, 4, []⟩, ⟨194, (.int .i32), false, 0, 0, 4, []⟩, ⟨203, (.pr .str (.int .u8)), true, 2, 0, 24, [9, 191]⟩, ⟨204, (.pr .str (.int .u8)), true, 2, 0, 24, [9, 191]⟩, ⟨207, (.int .u16), false, 0, 0, 2, []⟩, ⟨208, (.pr (.int .i32) (.pr (.int .u16) (.pr (.int .u16) (.pr (.int .u32) (.int .u32))))), true, 5, 0, 16, [193, 207, 207, 158, 158]⟩, ⟨209, (.pr (.int .i32) (.pr (.int .u16) (.pr (.int .u16) (.pr (.int .u32) (.int .u32))))), true, 5, 0, 16, [193, 207, 207, 158, 158]⟩, ⟨210, (.sl (.pr (.int .i32) (.pr (.int .i32) (.pr (.int .i32) (.int .i32))))), false, 0, 213, 24, []⟩, ⟨211, (.int .i32), false, 0, 0, 4, []⟩, ⟨212, (.pr (.int .i32) (.pr (.int .i32) (.pr (.int .i32) (.int .i32)))), true, 4, 0, 16, [193, 194, 211, 211]⟩, ⟨213, (.pr (.int .i32) (.pr (.int .i32) (.pr (.int .i32) (.int .i32)))), true, 4, 0, 16, [193, 194, 211, 211]⟩, ⟨22, (.sl (.int .u8)), false, 0, 5, 24, []⟩]
theorem ttok : TtOk Proofs.Tryz.prog tt := by
  refine ⟨?_, by kernel_rfl⟩
  intro te h
  simp only [tt, List.mem_cons, List.not_mem_nil, or_false] at h
  rcases h with rfl | rfl | rfl | rfl | rfl | rfl | rfl | rfl | rfl | rfl | rfl | rfl | rfl | rfl | rfl | rfl | rfl | rfl | rfl | rfl | rfl | rfl | rfl | rfl | rfl | rfl | rfl | rfl | rfl | rfl | rfl | rfl | rfl | rfl | rfl | rfl | rfl | rfl | rfl | rfl | rfl | rfl | rfl | rfl | rfl | rfl | rfl | rfl | rfl | rfl | rfl | rfl | rfl | rfl | rfl | rfl | rfl | rfl | rfl | rfl | rfl | rfl | rfl | rfl | rfl | rfl | rfl <;> exact ⟨by kernel_rfl, by kernel_rfl, by kernel_rfl, by kernel_rfl⟩
def mt : MT := [(60, 63, 57), (63, 63, 0)]
theorem mtok : MtOk Proofs.Tryz.prog mt := .cons (by kernel_rfl) (.eqs (by kernel_rfl) (.nil))
end Go.Sx

/- Lists searched: plain law. -/
namespace Go.Sx
open Go
theorem drop_at {α : Type} {l : List α} {i : Nat} (h : i < l.length) : l.drop i = l[i] :: l.drop (i + 1) := by simp
def idxFGo {α : Type} (p : α → Bool) : List α → Nat → Int
  | [], _ => -1
  | s :: r, i => if p s then (i : Int) else idxFGo p r (i + 1)
def idxF {α : Type} (p : α → Bool) (l : List α) : Int := idxFGo p l 0
theorem idxF_next {α : Type} {p : α → Bool} {l : List α} {i : Nat} {v : Int} (hlt : i < l.length) (h : idxFGo p (l.drop i) i = v) (hp : p l[i] = false) : idxFGo p (l.drop (i + 1)) (i + 1) = v := by
  rw [drop_at hlt] at h; simpa [idxFGo, hp] using h
theorem idxF_hit {α : Type} {p : α → Bool} {l : List α} {i : Nat} {v : Int} (hlt : i < l.length) (h : idxFGo p (l.drop i) i = v) (hp : p l[i] = true) : v = i := by
  rw [drop_at hlt] at h; simp [idxFGo, hp] at h; exact h.symm
theorem idxF_end {α : Type} {p : α → Bool} {l : List α} {j : Nat} {v : Int} (h : idxFGo p (l.drop l.length) j = v) : v = -1 := by
  rw [List.drop_length] at h; exact h.symm
theorem idxFGo_any {α : Type} {p : α → Bool} : ∀ {l : List α} {i : Nat}, decide (0 ≤ idxFGo p l i) = l.any p := by
  intro l
  induction l with
  | nil => intro i; rfl
  | cons s r ih =>
    intro i
    simp only [idxFGo, List.any_cons]
    by_cases hp : p s = true
    · simp [hp]
    · simpa [hp] using ih
theorem idxF_any {α : Type} {p : α → Bool} {l : List α} : decide (0 ≤ idxF p l) = l.any p := idxFGo_any
end Go.Sx

/- Loops over lists: plain law. -/
namespace Go.Sx
open Go
/-- each element is looked at, with those before it -/
def chkGo {α : Type} (f : List α → α → Bool) : List α → List α → Bool
  | _, [] => true
  | pre, x :: r => f pre x && chkGo f (pre ++ [x]) r
def chk {α : Type} (f : List α → α → Bool) (l : List α) : Bool := chkGo f [] l
theorem chk_next {α : Type} {f : List α → α → Bool} {l : List α} {i : Nat} {v : Bool} (hlt : i < l.length) (h : chkGo f (l.take i) (l.drop i) = v) (hf : f (l.take i) l[i] = true) : chkGo f (l.take (i + 1)) (l.drop (i + 1)) = v := by
  rw [drop_at hlt] at h
  simp only [chkGo, hf, Bool.true_and] at h
  rwa [List.take_succ_eq_append_getElem hlt]
theorem chk_hit {α : Type} {f : List α → α → Bool} {l : List α} {i : Nat} {v : Bool} (hlt : i < l.length) (h : chkGo f (l.take i) (l.drop i) = v) (hf : f (l.take i) l[i] = false) : v = false := by
  rw [drop_at hlt] at h
  simp only [chkGo, hf, Bool.false_and] at h
  exact h.symm
theorem chk_end {α : Type} {f : List α → α → Bool} {l pre : List α} {v : Bool} (h : chkGo f pre (l.drop l.length) = v) : v = true := by
  rw [List.drop_length] at h; exact h.symm
theorem chkGo_iff {α : Type} {f : List α → α → Bool} : ∀ {l pre : List α}, chkGo f pre l = true ↔ ∀ i (h : i < l.length), f (pre ++ l.take i) l[i] = true := by
  intro l
  induction l with
  | nil => intro pre; simp [chkGo]
  | cons x r ih =>
    intro pre
    simp only [chkGo, Bool.and_eq_true, ih]
    constructor
    · rintro ⟨h1, h2⟩ i hi
      cases i with
      | zero => simpa using h1
      | succ i => have := h2 i (by simpa using hi); simpa using this
    · intro h
      have h0 := h 0 (Nat.zero_lt_succ _)
      simp only [List.take_zero, List.append_nil, List.getElem_cons_zero] at h0
      refine ⟨h0, fun i hi => ?_⟩
      have := h (i + 1) (by simpa using hi)
      simpa using this
theorem chk_iff {α : Type} {f : List α → α → Bool} {l : List α} : chk f l = true ↔ ∀ i (h : i < l.length), f (l.take i) l[i] = true := by
  unfold chk; rw [chkGo_iff]; simp
theorem any_next {α : Type} {p : α → Bool} {l : List α} {i : Nat} (hlt : i < l.length) (h : (l.take i).any p = false) (hp : p l[i] = false) : (l.take (i + 1)).any p = false := by
  rw [List.take_succ_eq_append_getElem hlt, List.any_append, h]; simp [hp]
theorem any_hit {α : Type} {p : α → Bool} {l : List α} {k i : Nat} (hk : k < i) (hlt : k < l.length) (hp : p l[k] = true) : (l.take i).any p = true := by
  rw [List.any_eq_true]
  exact ⟨l[k], List.mem_take_iff_getElem.2 ⟨k, by omega, rfl⟩, hp⟩
theorem any_hit' {α : Type} {p : α → Bool} {l : List α} {k : Nat} (hlt : k < l.length) (hp : p l[k] = true) : l.any p = true := by
  rw [List.any_eq_true]
  exact ⟨l[k], List.getElem_mem hlt, hp⟩
theorem any_end {α : Type} {p : α → Bool} {l : List α} (h : (l.take l.length).any p = false) : l.any p = false := by rwa [List.take_length] at h
/-- lists compared -/
theorem eqL_next {α : Type} [DecidableEq α] {a b : List α} {i : Nat} {v : Bool} (h1 : i < a.length) (h2 : i < b.length) (h : decide (a.drop i = b.drop i) = v) (he : a[i] = b[i]) : decide (a.drop (i + 1) = b.drop (i + 1)) = v := by
  rw [drop_at h1, drop_at h2] at h
  simp only [List.cons.injEq, he, true_and] at h
  exact h
theorem eqL_hit {α : Type} [DecidableEq α] {a b : List α} {i : Nat} {v : Bool} (h1 : i < a.length) (h2 : i < b.length) (h : decide (a.drop i = b.drop i) = v) (he : ¬ a[i] = b[i]) : v = false := by
  rw [drop_at h1, drop_at h2] at h
  simp only [List.cons.injEq, he, false_and, decide_false] at h
  exact h.symm
theorem eqL_end {α : Type} [DecidableEq α] {a b : List α} {v : Bool} (hl : a.length = b.length) (h : decide (a.drop a.length = b.drop a.length) = v) : v = true := by
  rw [List.drop_length, hl, List.drop_length] at h
  exact h.symm.trans (by simp)
theorem eqL_len {α : Type} [DecidableEq α] {a b : List α} (h : ¬ a.length = b.length) : decide (a = b) = false := by
  simp only [decide_eq_false_iff_not]
  exact fun e => h (by rw [e])
/-- texts put together, one behind the other -/
def catGo {α : Type} (f : α → Str) : List α → Str
  | [] => []
  | x :: r => f x ++ catGo f r
theorem cat_next {α : Type} {f : α → Str} {l : List α} {i : Nat} {o v : Str} (hlt : i < l.length) (h : o ++ catGo f (l.drop i) = v) : (o ++ f l[i]) ++ catGo f (l.drop (i + 1)) = v := by
  rw [drop_at hlt] at h
  simpa [catGo] using h
theorem cat_end {α : Type} {f : α → Str} {l : List α} {o v : Str} (h : o ++ catGo f (l.drop l.length) = v) : o = v := by
  rw [List.drop_length] at h; simpa [catGo] using h
theorem cat_len {α : Type} {f : α → Str} {m : Nat} : ∀ {l : List α}, (∀ x ∈ l, (f x).length ≤ m) → (catGo f l).length ≤ l.length * m := by
  intro l
  induction l with
  | nil => intro _; simp [catGo]
  | cons x r ih =>
    intro h
    have h1 := h x List.mem_cons_self
    have h2 := ih fun y hy => h y (List.mem_cons_of_mem _ hy)
    simp only [catGo, List.length_append, List.length_cons]
    rw [Nat.add_mul]
    omega
/-- lists put together -/
theorem flat_next {α β : Type} {f : α → List β} {l : List α} {i : Nat} (hlt : i < l.length) : (l.take i).flatMap f ++ f l[i] = (l.take (i + 1)).flatMap f := by
  rw [List.take_succ_eq_append_getElem hlt]; simp only [List.flatMap_append, List.flatMap_cons, List.flatMap_nil, List.append_nil]
end Go.Sx

/- Roots: what the program and the reference compute of them, plain. -/
namespace Go.Sx
open Go
abbrev Plc := Int × Int
abbrev Ptr_ := Int × Int × List Plc
abbrev Vol_ := Str × List Ptr_
abbrev Root_ := Int × List Vol_
def inV (n lo hi : Int) : Bool := decide (lo ≤ n) && decide (n ≤ hi)
def lower (c : UInt8) : Bool := decide (97 ≤ c.toNat) && decide (c.toNat ≤ 122)
def nameV (s : Str) : Bool := inV s.length 1 3 && s.all lower
def poolV (d : Int) : Bool := inV d 3 4
def noneV (p : Ptr_) : Bool := decide (p.1 = 0) && (decide (p.2.1 = 0) && decide (p.2.2.length = 0))
def mostV (d : Int) : Int := 3 * sMin 3 (d - 1)
def colsV (n : Int) : Int := (n + 3 - 1).tdiv 3
def placeV (d : Int) (a : Plc) : Bool := decide (0 ≤ a.1) && (decide (a.1 < d) && (decide (0 ≤ a.2) && decide (a.2 < 12)))
/-- a place is one of a pool, on another disk than those before it -/
def placeF (d : Int) (pre : List Plc) (a : Plc) : Bool := placeV d a && !(pre.any fun q => decide (q.1 = a.1))
def sizeV (d : Int) (p : Ptr_) : Bool := inV p.1 1 (mostV d) && (inV p.2.1 0 1000000000 && decide ((p.2.2.length : Int) = colsV p.1 + 1))
def ptrV (d : Int) (p : Ptr_) : Bool := poolV d && (noneV p || (sizeV d p && chk (placeF d) p.2.2))
def ptrW (d : Int) (p : Ptr_) : Bool := if p.1 = 0 then decide (p.2.1 = 0) && decide (p.2.2.length = 0) else sizeV d p && chk (placeF d) p.2.2
def blksOf (l : List Vol_) : List Ptr_ := l.flatMap (·.2)
def volF (d : Int) (pre : List Vol_) (v : Vol_) : Bool := nameV v.1 && (decide (v.2.length = 3) && (!(pre.any fun w => decide (w.1 = v.1)) && v.2.all (ptrV d)))
def volsV (d : Int) (l : List Vol_) : Bool := chk (volF d) l && decide (l.length ≤ 4)
def pairsOf (l : List Ptr_) : List (Plc × Ptr_) := l.flatMap fun p => p.2.2.map fun a => (a, p)
abbrev PK : Ty := .pr (.int .i64) (.int .i64)
/-- the owner of each place -/
def ownGo : List (Plc × Ptr_) → List (Plc × Ptr_) → Bool
  | _, [] => true
  | m, (a, p) :: r => (match mget PK m a with | some q => decide (p = q) | none => true) && ownGo (mset PK m a p) r
def rootV (d : Int) (r : Root_) : Bool := poolV d && (inV r.1 0 100000 && (volsV d r.2 && ownGo [] (pairsOf (blksOf r.2))))
/-- the reference's -/
def meetV (p q : Ptr_) : Bool := p.2.2.any fun a => q.2.2.any fun b => decide (a = b)
def volG (pre : List Vol_) (v : Vol_) : Bool := nameV v.1 && (decide (v.2.length = 3) && !(pre.any fun w => decide (w.1 = v.1)))
def ptrG (d : Int) (pre : List Ptr_) (p : Ptr_) : Bool := ptrW d p && !(pre.any fun q => meetV p q && !decide (p = q))
def volsS (d : Int) (l : List Vol_) : Bool := chk volG l && chk (ptrG d) (blksOf l)
def rootS (d : Int) (r : Root_) : Bool := poolV d && (inV r.1 0 100000 && (decide (r.2.length ≤ 4) && volsS d r.2))
/-! texts -/
def tRoot : Str := [114, 111, 111, 116, 32]
def tVol : Str := [118, 111, 108, 32]
def tSum : Str := [115, 117, 109, 32]
def tPtr : Str := [112, 116, 114]
def tNone : Str := [110, 111, 110, 101, 10]
def itoaV (n : Int) : Str := Lib.itoa n
def wordV (a : Plc) : Str := itoaV a.1 ++ [46] ++ itoaV a.2
def wordsV (p : Ptr_) : List Str := [tPtr, itoaV p.1, itoaV p.2.1] ++ p.2.2.map wordV
def lineV (p : Ptr_) : Str := if noneV p = true then tNone else Lib.join (wordsV p) [32] ++ [10]
def volT (v : Vol_) : Str := (tVol ++ v.1 ++ [10]) ++ catGo lineV v.2
def bodyV (r : Root_) : Str := (tRoot ++ itoaV r.1 ++ [10]) ++ catGo volT r.2
def weighGo : Str → Nat → Int
  | [], _ => 0
  | c :: r, i => (c.toNat : Int) * (65536 + (i : Int) + 1) + weighGo r (i + 1)
def weighV (s : Str) : Int := weighGo s 0
def sealV (s : Str) : Str := s ++ tSum ++ itoaV (weighV s) ++ [10]
def rootT (d : Int) (r : Root_) : Str := if rootV d r = true then sealV (bodyV r) else []
end Go.Sx

/- Roots: bounds. -/
namespace Go.Sx
open Go
theorem sMin_bd (d : Int) (h : 3 ≤ d ∧ d ≤ 4) : sMin 3 (d - 1) = d - 1 := by
  unfold sMin
  by_cases h4 : d - 1 < 3
  · simp [h4]
  · simp [h4]; omega
theorem colsV_bd {n : Int} (h0 : 0 ≤ n) (h1 : n ≤ 1000000) : 0 ≤ colsV n ∧ colsV n ≤ 1000000 := by
  unfold colsV
  have a : 0 ≤ (n + 3 - 1).tdiv 3 := Int.tdiv_nonneg (by omega) (by decide)
  have b : (n + 3 - 1).tdiv 3 = (n + 3 - 1) / 3 := Int.tdiv_eq_ediv_of_nonneg (by omega)
  omega
theorem not_any {α : Type} {p : α → Bool} {l : List α} : (!(l.any fun x => !p x)) = l.all p := by
  rw [List.all_eq_not_any_not]
def SmallV (l : List Vol_) : Prop := l.length ≤ 100 ∧ ∀ v ∈ l, v.2.length ≤ 100
theorem blks_len' : ∀ {l : List Vol_}, (∀ v ∈ l, v.2.length ≤ 100) → (blksOf l).length ≤ l.length * 100 := by
  intro l
  induction l with
  | nil => intro _; simp [blksOf]
  | cons v r ih =>
    intro h
    have h1 := h v List.mem_cons_self
    have h2 := ih fun y hy => h y (List.mem_cons_of_mem _ hy)
    simp only [blksOf, List.flatMap_cons, List.length_append, List.length_cons] at h2 ⊢
    rw [Nat.add_mul]
    omega
theorem blks_len {l : List Vol_} {i : Nat} (h : SmallV l) : (blksOf (l.take i)).length ≤ 10000 := by
  have h1 := blks_len' (l := l.take i) fun v hv => h.2 v (List.mem_of_mem_take hv)
  have h2 : (l.take i).length ≤ 100 := Nat.le_trans (List.length_take_le' _ _) h.1
  have h3 := Nat.mul_le_mul_right 100 h2
  omega
theorem blks_all {l : List Vol_} (h : SmallV l) : (blksOf l).length ≤ 10000 := by have := blks_len (i := l.length) h; rwa [List.take_length] at this
theorem volsV_small {d : Int} {l : List Vol_} (h : volsV d l = true) : SmallV l := by
  simp only [volsV, Bool.and_eq_true, chk_iff, decide_eq_true_eq] at h
  refine ⟨by omega, fun v hv => ?_⟩
  obtain ⟨i, hi, rfl⟩ := List.getElem_of_mem hv
  have h1 := h.1 i hi
  simp only [volF, Bool.and_eq_true, decide_eq_true_eq] at h1
  omega
theorem own_in {l : List Ptr_} {i : Nat} {m : List (Plc × Ptr_)} {v : Bool} (hlt : i < l.length) (h : ownGo m (pairsOf (l.drop i)) = v) : ownGo m ((l[i].2.2.drop 0).map (fun a => (a, l[i])) ++ pairsOf (l.drop (i + 1))) = v := by
  rw [drop_at hlt] at h
  simp only [pairsOf, List.flatMap_cons, List.drop_zero] at h ⊢
  exact h
theorem own_out {p : Ptr_} {r : List (Plc × Ptr_)} {m : List (Plc × Ptr_)} {v : Bool} (h : ownGo m ((p.2.2.drop p.2.2.length).map (fun a => (a, p)) ++ r) = v) : ownGo m r = v := by
  simpa using h
theorem own_none {p : Ptr_} {r : List (Plc × Ptr_)} {m : List (Plc × Ptr_)} {v : Bool} {j : Nat} (hlj : j < p.2.2.length) (h : ownGo m ((p.2.2.drop j).map (fun a => (a, p)) ++ r) = v) (hq : mget PK m p.2.2[j] = none) : ownGo (mset PK m p.2.2[j] p) ((p.2.2.drop (j + 1)).map (fun a => (a, p)) ++ r) = v := by
  rw [drop_at hlj] at h
  simp only [List.map_cons, List.cons_append, ownGo] at h
  rw [hq] at h
  simpa only [Bool.true_and] using h
theorem own_some {p q : Ptr_} {r : List (Plc × Ptr_)} {m : List (Plc × Ptr_)} {v : Bool} {j : Nat} (hlj : j < p.2.2.length) (h : ownGo m ((p.2.2.drop j).map (fun a => (a, p)) ++ r) = v) (hq : mget PK m p.2.2[j] = some q) (he : p = q) : ownGo (mset PK m p.2.2[j] p) ((p.2.2.drop (j + 1)).map (fun a => (a, p)) ++ r) = v := by
  rw [drop_at hlj] at h
  simp only [List.map_cons, List.cons_append, ownGo] at h
  rw [hq] at h
  subst he
  simpa only [decide_true, Bool.true_and] using h
theorem own_bad {p q : Ptr_} {r : List (Plc × Ptr_)} {m : List (Plc × Ptr_)} {v : Bool} {j : Nat} (hlj : j < p.2.2.length) (h : ownGo m ((p.2.2.drop j).map (fun a => (a, p)) ++ r) = v) (hq : mget PK m p.2.2[j] = some q) (he : ¬ p = q) : v = false := by
  rw [drop_at hlj] at h
  simp only [List.map_cons, List.cons_append, ownGo] at h
  rw [hq] at h
  simp only [he, decide_false, Bool.false_and] at h
  exact h.symm
theorem own_end {l : List Ptr_} {m : List (Plc × Ptr_)} {v : Bool} (h : ownGo m (pairsOf (l.drop l.length)) = v) : v = true := by
  rw [List.drop_length] at h; exact h.symm
theorem blks_pl {l : List Vol_} (h : ∀ v ∈ l, ∀ p ∈ v.2, p.2.2.length ≤ 140737488355328) : ∀ p ∈ blksOf l, p.2.2.length ≤ 140737488355328 := by
  intro p hp
  obtain ⟨v, hv, hp⟩ := List.mem_flatMap.1 hp
  exact h v hv p hp
theorem itoaV_len {n : Int} (h : inR .i64 n) : (itoaV n).length ≤ 21 := by
  rw [inR_i64] at h
  exact Lib.itoa_length_le n h.1 h.2
theorem ptrV_len {d : Int} {p : Ptr_} (h : ptrV d p = true) : p.2.2.length ≤ 4 := by
  simp only [ptrV, Bool.and_eq_true, Bool.or_eq_true] at h
  obtain ⟨h1, h2⟩ := h
  rcases h2 with h2 | h2
  · simp only [noneV, Bool.and_eq_true, decide_eq_true_eq] at h2
    omega
  · have hb : 3 ≤ d ∧ d ≤ 4 := by simpa [poolV, inV] using h1
    have h3 := h2.1
    simp only [sizeV, inV, Bool.and_eq_true, decide_eq_true_eq] at h3
    have hm := sMin_bd d hb
    have h4 : mostV d = 3 * (d - 1) := by unfold mostV; rw [hm]
    have h5 : colsV p.1 = (p.1 + 3 - 1) / 3 := Int.tdiv_eq_ediv_of_nonneg (by omega)
    omega
theorem wordV_len {a : Plc} (h : inR .i64 a.1 ∧ inR .i64 a.2) : (wordV a).length ≤ 43 := by
  have h1 := itoaV_len h.1
  have h2 := itoaV_len h.2
  simp only [wordV, List.length_append, List.length_cons, List.length_nil]
  omega
theorem words_next {pl : List Plc} {i : Nat} (h : i < pl.length) : List.take i (List.map wordV pl) ++ [itoaV pl[i].1 ++ 46 :: itoaV pl[i].2] = List.take (i + 1) (List.map wordV pl) := by
  have h2 : i < (pl.map wordV).length := by simpa using h
  rw [List.take_succ_eq_append_getElem h2]
  simp only [List.getElem_map, wordV, List.append_assoc, List.cons_append, List.nil_append]
theorem joinTail_len {sep : Str} {m : Nat} : ∀ {l : List Str}, (∀ x ∈ l, x.length ≤ m) → (Lib.joinTail sep l).length ≤ l.length * (sep.length + m) := by
  intro l
  induction l with
  | nil => intro _; simp [Lib.joinTail]
  | cons x r ih =>
    intro h
    have h1 := h x List.mem_cons_self
    have h2 := ih fun y hy => h y (List.mem_cons_of_mem _ hy)
    simp only [Lib.joinTail, List.map_cons, List.flatten_cons, List.length_append, List.length_cons] at h2 ⊢
    rw [Nat.add_mul]
    omega
theorem join_len {sz sm : Int} {pl : List Plc} (h1 : inR .i64 sz) (h2 : inR .i64 sm) (h3 : ∀ a ∈ pl, inR .i64 a.1 ∧ inR .i64 a.2) (h4 : pl.length ≤ 4) : (Lib.join (wordsV (sz, sm, pl)) [32]).length ≤ 290 := by
  rw [show wordsV (sz, sm, pl) = tPtr :: (itoaV sz :: itoaV sm :: pl.map wordV) from rfl, Lib.join_cons, List.length_append]
  have := joinTail_len (sep := [32]) (m := 43) (l := itoaV sz :: itoaV sm :: pl.map wordV) fun x hx => by
    rcases List.mem_cons.1 hx with rfl | hx
    · have := itoaV_len h1; omega
    · rcases List.mem_cons.1 hx with rfl | hx
      · have := itoaV_len h2; omega
      · obtain ⟨a, ha, rfl⟩ := List.mem_map.1 hx
        exact wordV_len (h3 a ha)
  simp only [List.length_cons, List.length_map, List.length_nil] at this
  simp only [tPtr, List.length_cons, List.length_nil]
  omega
/-- a root within bounds -/
def SmallR (l : List Vol_) : Prop := l.length ≤ 4 ∧ ∀ v ∈ l, v.1.length ≤ 3 ∧ v.2.length = 3 ∧ ∀ p ∈ v.2, ∃ d, ptrV d p = true
theorem rootV_small {d : Int} {r : Root_} (h : rootV d r = true) : SmallR r.2 := by
  simp only [rootV, volsV, Bool.and_eq_true, chk_iff, decide_eq_true_eq] at h
  refine ⟨by omega, fun v hv => ?_⟩
  obtain ⟨i, hi, rfl⟩ := List.getElem_of_mem hv
  have h1 := h.2.2.1.1 i hi
  simp only [volF, nameV, inV, Bool.and_eq_true, decide_eq_true_eq, List.all_eq_true] at h1
  exact ⟨by omega, by omega, fun p hp => ⟨d, h1.2.2.2 p hp⟩⟩
theorem lineV_len' {d : Int} {p : Ptr_} (h1 : inR .i64 p.1) (h2 : inR .i64 p.2.1) (h3 : ∀ a ∈ p.2.2, inR .i64 a.1 ∧ inR .i64 a.2) (h : ptrV d p = true) : (lineV p).length ≤ 300 := by
  unfold lineV
  split
  · simp [tNone]
  · rw [List.length_append]
    have : (Lib.join (wordsV p) [32]).length ≤ 290 := join_len h1 h2 h3 (ptrV_len h)
    simp only [List.length_cons, List.length_nil]
    omega
theorem vol_in {l : List Vol_} {i : Nat} {o v : Str} (hlt : i < l.length) (h : o ++ catGo volT (l.drop i) = v) : ((o ++ (tVol ++ l[i].1 ++ [10])) ++ catGo lineV (l[i].2.drop 0)) ++ catGo volT (l.drop (i + 1)) = v := by
  rw [drop_at hlt] at h
  rw [List.drop_zero]
  simp only [catGo, volT] at h
  simpa only [List.append_assoc] using h
theorem vol_line {l : List Ptr_} {j : Nat} {o r v : Str} (hlj : j < l.length) (h : (o ++ catGo lineV (l.drop j)) ++ r = v) : ((o ++ lineV l[j]) ++ catGo lineV (l.drop (j + 1))) ++ r = v := by
  rw [drop_at hlj] at h
  simp only [catGo] at h
  simpa only [List.append_assoc] using h
theorem vol_out {l : List Ptr_} {o r v : Str} (h : (o ++ catGo lineV (l.drop l.length)) ++ r = v) : o ++ r = v := by
  rw [List.drop_length] at h
  simpa [catGo] using h
end Go.Sx

namespace Go.Sx
open Go
set_option maxRecDepth 100000
set_option linter.unusedVariables false
set_option linter.unusedSimpArgs false
set_option maxHeartbeats 2000000

def cPool : Ctr := ⟨27, [.val false TI pF], fun x => True, fun x => (sBool (poolV x.1), [])⟩
theorem cPool_ok : CtrOk Proofs.Tryz.prog cPool := by
  have hP := (Prg.none ttok mtok)
  refine ctr_of_body hP cPool (fn := Proofs.Tryz.f27) (rts := [.tmp 2]) Proofs.Tryz.func27 rfl (by kernel_rfl) rfl rfl ?_
  rintro ⟨(n : Int), ⟨⟩⟩ _ hpre
  try dsimp only [Ty.den, Mode.den, mdens] at hpre
  refine ⟨rfl, ?_⟩
  refine sw_seq ?_
  refine sw_region hP 1 [] rfl (by kernel_rfl) (fun _ => by kernel_rfl) (by first | trivial | (simp [conj]; done) | (simp [conj] at *; (try dsimp only [Ty.den, Ty.dflt] at *); omega)) ?_
  refine sw_seq ?_
  refine sw_dec hP 2 [] 2 rfl (fun g1_2 => ?_) (fun g1_2 => ?_)
  · skip
    refine sw_region hP 2 [(2, true)] rfl (by kernel_rfl) (fun _ => by kernel_rfl) (by first | trivial | (simp [conj]; done) | (simp [conj] at *; (try dsimp only [Ty.den, Ty.dflt] at *); omega)) ?_
    refine sw_ret ⟨.inl rfl, _, rfl, ?_⟩
    simp [conj, poolV, inV] at *
    try omega
  · skip
    refine sw_region hP 2 [(2, false)] rfl (by kernel_rfl) (fun _ => by kernel_rfl) (by first | trivial | (simp [conj]; done) | (simp [conj] at *; (try dsimp only [Ty.den, Ty.dflt] at *); omega)) ?_
    refine sw_ret ⟨.inl rfl, _, rfl, ?_⟩
    simp [conj, poolV, inV] at *
    try omega

def cNone : Ctr := ⟨70, [.val true T_Ptr (.all .b)], fun x => True, fun x => (sBool (noneV x.1), [])⟩
theorem cNone_ok : CtrOk Proofs.Tryz.prog cNone := by
  have hP := (Prg.none ttok mtok)
  refine ctr_of_body hP cNone (fn := Proofs.Tryz.f70) (rts := [.tmp 2]) Proofs.Tryz.func70 rfl (by kernel_rfl) rfl rfl ?_
  rintro ⟨⟨(sz : Int), (sm : Int), (pl : List Plc)⟩, ⟨⟩⟩ _ hpre
  try dsimp only [Ty.den, Mode.den, mdens] at hpre
  refine ⟨rfl, ?_⟩
  refine sw_seq ?_
  refine sw_region hP 1 [] rfl (by kernel_rfl) (fun _ => by kernel_rfl) (by first | trivial | (simp [conj]; done) | (simp [conj] at *; (try dsimp only [Ty.den, Ty.dflt] at *); omega)) ?_
  refine sw_seq ?_
  refine sw_dec hP 2 [] 3 rfl (fun g1_3 => ?_) (fun g1_3 => ?_)
  · skip
    refine sw_dec hP 2 [(3, true)] 8 rfl (fun g1_8 => ?_) (fun g1_8 => ?_)
    · skip
      refine sw_region hP 2 [(3, true), (8, true)] rfl (by kernel_rfl) (fun _ => by kernel_rfl) (by first | trivial | (simp [conj]; done) | (simp [conj] at *; (try dsimp only [Ty.den, Ty.dflt] at *); omega)) ?_
      refine sw_ret ⟨.inl rfl, _, rfl, ?_⟩
      simp [conj, noneV, *]
    · skip
      refine sw_region hP 2 [(3, true), (8, false)] rfl (by kernel_rfl) (fun _ => by kernel_rfl) (by first | trivial | (simp [conj]; done) | (simp [conj] at *; (try dsimp only [Ty.den, Ty.dflt] at *); omega)) ?_
      refine sw_ret ⟨.inl rfl, _, rfl, ?_⟩
      simp [conj, noneV, *]
  · skip
    refine sw_region hP 2 [(3, false)] rfl (by kernel_rfl) (fun _ => by kernel_rfl) (by first | trivial | (simp [conj]; done) | (simp [conj] at *; (try dsimp only [Ty.den, Ty.dflt] at *); omega)) ?_
    refine sw_ret ⟨.inl rfl, _, rfl, ?_⟩
    simp [conj, noneV, *]

def cMost : Ctr := ⟨86, [.val false TI pF], fun x => poolV x.1 = true, fun x => (sInt .i64 (mostV x.1), [])⟩
theorem cMost_ok : CtrOk Proofs.Tryz.prog cMost := by
  have hP := (Prg.none ttok mtok)
  refine ctr_of_body hP cMost (fn := Proofs.Tryz.f86) (rts := [.tmp 2]) Proofs.Tryz.func86 rfl (by kernel_rfl) rfl rfl ?_
  rintro ⟨(d : Int), ⟨⟩⟩ _ hpre
  try dsimp only [Ty.den, Mode.den, mdens] at hpre
  refine ⟨rfl, ?_⟩
  replace hpre : poolV d = true := hpre
  have hb : 3 ≤ d ∧ d ≤ 4 := by simpa [poolV, inV] using hpre
  have hmm := sMin_bd d hb
  refine sw_seq ?_
  refine sw_region hP 1 [] rfl (by kernel_rfl) (fun _ => by kernel_rfl) (by first | trivial | (simp [conj]; done) | (simp [conj] at *; (try dsimp only [Ty.den, Ty.dflt] at *); omega)) ?_
  refine sw_seq ?_
  refine sw_region hP 2 [] rfl (by kernel_rfl) (fun _ => by kernel_rfl) ?_ ?_
  · skip
    simp only [conj, List.nil_append, List.cons_append, List.append_nil, List.append_assoc, inR_i64, true_and, and_true, Int.toNat_natCast]
    try dsimp only [Ty.den, Ty.dflt]
    repeat' apply And.intro
    all_goals first | omega | (show _ ≤ 3 * sMin 3 (d - 1); omega) | (show 3 * sMin 3 (d - 1) ≤ _; omega)
  refine sw_ret ⟨.inl rfl, _, rfl, ?_⟩
  simp [conj, mostV]

def cCols : Ctr := ⟨87, [.val false TI pF], fun x => 0 ≤ x.1 ∧ x.1 ≤ 1000000, fun x => (sInt .i64 (colsV x.1), [])⟩
theorem cCols_ok : CtrOk Proofs.Tryz.prog cCols := by
  have hP := (Prg.none ttok mtok)
  refine ctr_of_body hP cCols (fn := Proofs.Tryz.f87) (rts := [.tmp 2]) Proofs.Tryz.func87 rfl (by kernel_rfl) rfl rfl ?_
  rintro ⟨(n : Int), ⟨⟩⟩ _ ⟨h0, h1⟩
  try dsimp only [Ty.den, Mode.den, mdens] at h0
  try dsimp only [Ty.den, Mode.den, mdens] at h1
  refine ⟨rfl, ?_⟩
  have hq := colsV_bd h0 h1
  unfold colsV at hq
  refine sw_seq ?_
  refine sw_region hP 1 [] rfl (by kernel_rfl) (fun _ => by kernel_rfl) (by first | trivial | (simp [conj]; done) | (simp [conj] at *; (try dsimp only [Ty.den, Ty.dflt] at *); omega)) ?_
  refine sw_seq ?_
  refine sw_region hP 2 [] rfl (by kernel_rfl) (fun _ => by kernel_rfl) ?_ ?_
  · skip
    simp only [conj, List.nil_append, List.cons_append, List.append_nil, List.append_assoc, inR_i64, true_and, and_true, Int.toNat_natCast]
    try dsimp only [Ty.den, Ty.dflt]
    repeat' apply And.intro
    all_goals first | rfl | omega | assumption | trivial
  refine sw_ret ⟨.inl rfl, _, rfl, ?_⟩
  simp [conj, colsV]

def cPlOk : Ctr := ⟨88, [.val true T_Place pF, .val false TI pF], fun x => True, fun x => (sBool (placeV x.2.1 x.1), [])⟩
theorem cPlOk_ok : CtrOk Proofs.Tryz.prog cPlOk := by
  have hP := (Prg.none ttok mtok)
  refine ctr_of_body hP cPlOk (fn := Proofs.Tryz.f88) (rts := [.tmp 4]) Proofs.Tryz.func88 rfl (by kernel_rfl) rfl rfl ?_
  rintro ⟨⟨(a : Int), (b : Int)⟩, (d : Int), ⟨⟩⟩ _ hpre
  try dsimp only [Ty.den, Mode.den, mdens] at hpre
  refine ⟨rfl, ?_⟩
  refine sw_seq ?_
  refine sw_region hP 1 [] rfl (by kernel_rfl) (fun _ => by kernel_rfl) (by first | trivial | (simp [conj]; done) | (simp [conj] at *; (try dsimp only [Ty.den, Ty.dflt] at *); omega)) ?_
  refine sw_seq ?_
  refine sw_dec hP 2 [] 3 rfl (fun g1_3 => ?_) (fun g1_3 => ?_)
  · skip
    refine sw_dec hP 2 [(3, true)] 9 rfl (fun g1_9 => ?_) (fun g1_9 => ?_)
    · skip
      refine sw_dec hP 2 [(3, true), (9, true)] 14 rfl (fun g1_14 => ?_) (fun g1_14 => ?_)
      · skip
        refine sw_region hP 2 [(3, true), (9, true), (14, true)] rfl (by kernel_rfl) (fun _ => by kernel_rfl) (by first | trivial | (simp [conj]; done) | (simp [conj] at *; (try dsimp only [Ty.den, Ty.dflt] at *); omega)) ?_
        refine sw_ret ⟨.inl rfl, _, rfl, ?_⟩
        simp [conj, placeV, *]
      · skip
        refine sw_region hP 2 [(3, true), (9, true), (14, false)] rfl (by kernel_rfl) (fun _ => by kernel_rfl) (by first | trivial | (simp [conj]; done) | (simp [conj] at *; (try dsimp only [Ty.den, Ty.dflt] at *); omega)) ?_
        refine sw_ret ⟨.inl rfl, _, rfl, ?_⟩
        simp [conj, placeV, *]
    · skip
      refine sw_region hP 2 [(3, true), (9, false)] rfl (by kernel_rfl) (fun _ => by kernel_rfl) (by first | trivial | (simp [conj]; done) | (simp [conj] at *; (try dsimp only [Ty.den, Ty.dflt] at *); omega)) ?_
      refine sw_ret ⟨.inl rfl, _, rfl, ?_⟩
      simp [conj, placeV, *]
  · skip
    refine sw_region hP 2 [(3, false)] rfl (by kernel_rfl) (fun _ => by kernel_rfl) (by first | trivial | (simp [conj]; done) | (simp [conj] at *; (try dsimp only [Ty.den, Ty.dflt] at *); omega)) ?_
    refine sw_ret ⟨.inl rfl, _, rfl, ?_⟩
    simp [conj, placeV, *]

def cPtr1 : Ctr := ⟨90, [.val true T_Place pF, .rp T_Place pF], fun x => True, fun x => (sBool (decide (x.1.1 = x.2.1.1)), [])⟩
theorem cPtr1_ok : CtrOk Proofs.Tryz.prog cPtr1 := by
  have hP := (Prg.none ttok mtok)
  refine ctr_of_body hP cPtr1 (fn := Proofs.Tryz.f90) (rts := [.tmp 3]) Proofs.Tryz.func90 rfl (by kernel_rfl) rfl rfl ?_
  rintro ⟨⟨(a : Int), (b : Int)⟩, ⟨(c : Int), (e : Int)⟩, ⟨⟩⟩ _ hpre
  try dsimp only [Ty.den, Mode.den, mdens] at hpre
  refine ⟨rfl, ?_⟩
  refine sw_seq ?_
  refine sw_region hP 1 [] rfl (by kernel_rfl) (fun _ => by kernel_rfl) (by first | trivial | (simp [conj]; done) | (simp [conj] at *; (try dsimp only [Ty.den, Ty.dflt] at *); omega)) ?_
  refine sw_seq ?_
  refine sw_region hP 2 [] rfl (by kernel_rfl) (fun _ => by kernel_rfl) (by first | trivial | (simp [conj]; done) | (simp [conj] at *; (try dsimp only [Ty.den, Ty.dflt] at *); omega)) ?_
  refine sw_ret ⟨.inl rfl, _, rfl, ?_⟩
  simp [conj]

def cIdxPl : Ctr := ⟨111, [.val false (.sl T_Place) (.all .b), .clo 90 [(false, T_Place, pF)]], fun _ => True, fun x => (sInt .i64 (idxF (fun q : Plc => decide (q.1 = x.2.1.1.1)) x.1), [])⟩
theorem cIdxPl_ok : CtrOk Proofs.Tryz.prog cIdxPl := by
  have hP := ((Prg.none ttok mtok).and cPtr1_ok)
  refine ctr_of_body hP cIdxPl (fn := Proofs.Tryz.f111) (rts := [.tmp 4]) Proofs.Tryz.func111 rfl (by kernel_rfl) rfl rfl ?_
  rintro ⟨(l : List Plc), ⟨(y : Plc), ⟨⟩⟩, ⟨⟩⟩ ⟨hdl, _⟩ hpre
  try dsimp only [Ty.den, Mode.den, mdens] at hpre
  refine ⟨rfl, ?_⟩
  have hml : l.length ≤ 140737488355328 := hdl.1
  refine sw_seq ?_
  refine sw_region hP 1 [] rfl (by kernel_rfl) (fun _ => by kernel_rfl) (by first | trivial | (simp [conj]; done) | (simp [conj] at *; (try dsimp only [Ty.den, Ty.dflt] at *); omega)) ?_
  refine sw_seq ?_
  refine sw_seq ?_
  refine sw_region hP 2 [] rfl (by kernel_rfl) (fun _ => by kernel_rfl) (by first | trivial | (simp [conj]; done) | (simp [conj] at *; (try dsimp only [Ty.den, Ty.dflt] at *); omega)) ?_
  refine sw_block ?_
  refine sw_loop (ι := Nat) (fun i => ⟨[.v false [.d (.sl T_Place) (.all .b) l], .fn 90 [.rpt .b T_Place pF y], .junk, .junk, .junk, .junk, .junk, sInt .i64 (l.length : Int), sInt .i64 (i : Int), .junk, .junk, .junk, .junk, .junk, .junk, .junk, .junk, .junk, .junk], [], 2, []⟩) (fun i => l.length - i) (fun i => i ≤ l.length ∧ idxFGo (fun q : Plc => decide (q.1 = y.1)) (l.drop i) i = idxF (fun q : Plc => decide (q.1 = y.1)) l) 0 ⟨?_, ?_⟩ ?_
  · skip
    exact ⟨Nat.zero_le _, rfl⟩
  · refine ent_ok rfl ?_
    first | trivial | (simp [conj]; done) | (simp [conj] at *; (try dsimp only [Ty.den, Ty.dflt] at *); omega)
  · rintro i ⟨hi, hgo⟩
    refine sw_seq ?_
    refine sw_region hP 3 [] rfl (by kernel_rfl) (fun _ => by kernel_rfl) (by first | trivial | (simp [conj]; done) | (simp [conj] at *; (try dsimp only [Ty.den, Ty.dflt] at *); omega)) ?_
    refine sw_seq ?_
    refine sw_cond rfl (fun c2 => ?_) (fun c2 => ?_)
    · skip
      have hlt : i < l.length := by simpa using c2
      refine sw_skip ?_
      refine sw_seq ?_
      refine sw_block ?_
      refine sw_seq ?_
      refine sw_region hP 4 [] rfl (by kernel_rfl) (fun _ => by kernel_rfl) (by first | trivial | (simp [conj]; done) | (simp [conj] at *; (try dsimp only [Ty.den, Ty.dflt] at *); omega)) ?_
      refine sw_seq ?_
      refine sw_region hP 5 [] rfl (by kernel_rfl) (fun _ => by kernel_rfl) ?_ ?_
      · skip
        simp [conj, maxL]
        try dsimp only [Ty.den, Ty.dflt]
        try simp only [rd_eta]
        repeat' apply And.intro
        all_goals first | assumption | omega | exact trivial
      refine sw_cond rfl (fun c4 => ?_) (fun c4 => ?_)
      · skip
        replace c4 : (fun q : Plc => decide (q.1 = y.1)) l[i] = true := by simpa [List.getElem?_eq_getElem hlt] using c4
        refine sw_seq ?_
        refine sw_region hP 6 [] rfl (by kernel_rfl) (fun _ => by kernel_rfl) (by first | trivial | (simp [conj]; done) | (simp [conj] at *; (try dsimp only [Ty.den, Ty.dflt] at *); omega)) ?_
        refine sw_ret ⟨.inl rfl, _, rfl, ?_⟩
        simp [conj, idxF_hit hlt hgo c4]
      · skip
        replace c4 : (fun q : Plc => decide (q.1 = y.1)) l[i] = false := by simpa [List.getElem?_eq_getElem hlt] using c4
        refine sw_skip ?_
        refine sw_region hP 6 [] rfl (by kernel_rfl) (fun _ => by kernel_rfl) (by first | trivial | (simp [conj]; done) | (simp [conj] at *; (try dsimp only [Ty.den, Ty.dflt] at *); omega)) ?_
        refine ⟨i + 1, ?_, ?_, ent_ok rfl ?_⟩
        · skip
          exact ⟨hlt, idxF_next hlt hgo c4⟩
        · skip
          omega
        · skip
          simp [conj, maxL]
          try dsimp only [Ty.den, Ty.dflt]
          try simp only [rd_eta]
          repeat' apply And.intro
          all_goals first | rfl | assumption | omega
    · skip
      obtain rfl : i = l.length := by simp at c2; omega
      refine sw_exit ?_
      refine sw_seq ?_
      refine sw_region hP 4 [] rfl (by kernel_rfl) (fun _ => by kernel_rfl) (by first | trivial | (simp [conj]; done) | (simp [conj] at *; (try dsimp only [Ty.den, Ty.dflt] at *); omega)) ?_
      refine sw_ret ⟨.inl rfl, _, rfl, ?_⟩
      simp [conj, idxF_end hgo]

def cContPl : Ctr := ⟨89, [.val false (.sl T_Place) (.all .b), .clo 90 [(false, T_Place, pF)]], fun _ => True, fun x => (sBool (List.any x.1 (fun q : Plc => decide (q.1 = x.2.1.1.1))), [])⟩
theorem cContPl_ok : CtrOk Proofs.Tryz.prog cContPl := by
  have hP := ((Prg.none ttok mtok).and cIdxPl_ok)
  refine ctr_of_body hP cContPl (fn := Proofs.Tryz.f89) (rts := [.tmp 4]) Proofs.Tryz.func89 rfl (by kernel_rfl) rfl rfl ?_
  rintro ⟨(l : List Plc), ⟨(y : Plc), ⟨⟩⟩, ⟨⟩⟩ _ hpre
  try dsimp only [Ty.den, Mode.den, mdens] at hpre
  refine ⟨rfl, ?_⟩
  refine sw_seq ?_
  refine sw_region hP 1 [] rfl (by kernel_rfl) (fun _ => by kernel_rfl) (by first | trivial | (simp [conj]; done) | (simp [conj] at *; (try dsimp only [Ty.den, Ty.dflt] at *); omega)) ?_
  refine sw_seq ?_
  refine sw_region hP 2 [] rfl (by kernel_rfl) (fun _ => by kernel_rfl) (by first | trivial | (simp [conj]; done) | (simp [conj] at *; (try dsimp only [Ty.den, Ty.dflt] at *); omega)) ?_
  refine sw_ret ⟨.inl rfl, _, rfl, ?_⟩
  simp [conj]
  exact idxF_any

def cPtrOk : Ctr := ⟨60, [.val false TI pF, .val true T_Ptr (.all .b)], fun x => True, fun x => (sBool (ptrV x.1 x.2.1), [])⟩
theorem cPtrOk_ok : CtrOk Proofs.Tryz.prog cPtrOk := by
  have hP := (((((((Prg.none ttok mtok).and cPool_ok).and cNone_ok).and cMost_ok).and cCols_ok).and cPlOk_ok).and cContPl_ok)
  refine ctr_of_body hP cPtrOk (fn := Proofs.Tryz.f60) (rts := [.tmp 4]) Proofs.Tryz.func60 rfl (by kernel_rfl) rfl rfl ?_
  rintro ⟨(d : Int), ⟨(sz : Int), (sm : Int), (pl : List Plc)⟩, ⟨⟩⟩ ⟨_, ⟨_, _, hpl0⟩, _⟩ _
  try dsimp only [Ty.den, Mode.den, mdens] at _
  refine ⟨rfl, ?_⟩
  have hml : pl.length ≤ 140737488355328 := hpl0.1
  refine sw_seq ?_
  refine sw_region hP 1 [] rfl (by kernel_rfl) (fun _ => by kernel_rfl) (by first | trivial | (simp [conj]; done) | (simp [conj] at *; (try dsimp only [Ty.den, Ty.dflt] at *); omega)) ?_
  refine sw_seq ?_
  refine sw_seq ?_
  refine sw_region hP 2 [] rfl (by kernel_rfl) (fun _ => by kernel_rfl) ?_ ?_
  · skip
    simp [conj, maxL]
    try dsimp only [Ty.den, Ty.dflt]
    try simp only [rd_eta]
    repeat' apply And.intro
    all_goals first | rfl | assumption | omega | trivial
  refine sw_cond rfl (fun c1 => ?_) (fun c1 => ?_)
  · skip
    replace c1 : poolV d = false := by simpa using c1
    refine sw_seq ?_
    refine sw_region hP 3 [] rfl (by kernel_rfl) (fun _ => by kernel_rfl) (by first | trivial | (simp [conj]; done) | (simp [conj] at *; (try dsimp only [Ty.den, Ty.dflt] at *); omega)) ?_
    refine sw_ret ⟨.inl rfl, _, rfl, ?_⟩
    simp [conj, ptrV, c1]
  · skip
    replace c1 : poolV d = true := by simpa using c1
    have hb : 3 ≤ d ∧ d ≤ 4 := by simpa [poolV, inV] using c1
    have hmm := sMin_bd d hb
    have hmv : mostV d = 3 * (d - 1) := by unfold mostV; rw [hmm]
    refine sw_skip ?_
    refine sw_seq ?_
    refine sw_seq ?_
    refine sw_region hP 3 [] rfl (by kernel_rfl) (fun _ => by kernel_rfl) ?_ ?_
    · skip
      simp [conj, maxL]
      try dsimp only [Ty.den, Ty.dflt]
      try simp only [rd_eta]
      repeat' apply And.intro
      all_goals first | rfl | assumption | omega | trivial
    refine sw_cond rfl (fun c3 => ?_) (fun c3 => ?_)
    · skip
      replace c3 : noneV ((sz, sm, pl) : Ptr_) = true := c3
      refine sw_seq ?_
      refine sw_region hP 4 [] rfl (by kernel_rfl) (fun _ => by kernel_rfl) (by first | trivial | (simp [conj]; done) | (simp [conj] at *; (try dsimp only [Ty.den, Ty.dflt] at *); omega)) ?_
      refine sw_ret ⟨.inl rfl, _, rfl, ?_⟩
      simp [conj, ptrV, c1, c3]
    · skip
      replace c3 : noneV ((sz, sm, pl) : Ptr_) = false := c3
      refine sw_skip ?_
      refine sw_seq ?_
      refine sw_seq ?_
      refine sw_dec hP 4 [] 3 rfl (fun g5_3 => ?_) (fun g5_3 => ?_)
      · skip
        have hsz : sizeV d ((sz, sm, pl) : Ptr_) = false := by
          have h : sz < 1 := of_decide_eq_true g5_3
          simp [sizeV, inV]; omega
        refine sw_region hP 4 [(3, true)] rfl (by kernel_rfl) (fun _ => by kernel_rfl) ?_ ?_
        · skip
          simp only [conj, List.nil_append, List.cons_append, List.append_nil, List.append_assoc, inR_i64, true_and, and_true, Int.toNat_natCast]
          try dsimp only [Ty.den, Ty.dflt]
          repeat' apply And.intro
          all_goals first | trivial | assumption | omega | (show 0 ≤ sz; omega) | (show sz ≤ 1000000; omega) | exact decide_eq_false g5_3 | exact decide_eq_false g5_10 | exact decide_eq_false g5_15 | exact decide_eq_false g5_20
        refine sw_condT rfl ?_
        refine sw_seq ?_
        refine sw_region hP 5 [] rfl (by kernel_rfl) (fun _ => by kernel_rfl) (by first | trivial | (simp [conj]; done) | (simp [conj] at *; (try dsimp only [Ty.den, Ty.dflt] at *); omega)) ?_
        refine sw_ret ⟨.inl rfl, _, rfl, ?_⟩
        simp [conj, ptrV, c1, c3, hsz]
      · skip
        replace g5_3 : ¬ sz < 1 := of_decide_eq_false g5_3
        refine sw_dec hP 4 [(3, false)] 10 rfl (fun g5_10 => ?_) (fun g5_10 => ?_)
        · skip
          have hsz : sizeV d ((sz, sm, pl) : Ptr_) = false := by
            have h : mostV d < sz := of_decide_eq_true g5_10
            simp [sizeV, inV]; omega
          refine sw_region hP 4 [(3, false), (10, true)] rfl (by kernel_rfl) (fun _ => by kernel_rfl) ?_ ?_
          · skip
            simp only [conj, List.nil_append, List.cons_append, List.append_nil, List.append_assoc, inR_i64, true_and, and_true, Int.toNat_natCast]
            try dsimp only [Ty.den, Ty.dflt]
            repeat' apply And.intro
            all_goals first | trivial | assumption | omega | (show 0 ≤ sz; omega) | (show sz ≤ 1000000; omega) | exact decide_eq_false g5_3 | exact decide_eq_false g5_10 | exact decide_eq_false g5_15 | exact decide_eq_false g5_20
          refine sw_condT rfl ?_
          refine sw_seq ?_
          refine sw_region hP 5 [] rfl (by kernel_rfl) (fun _ => by kernel_rfl) (by first | trivial | (simp [conj]; done) | (simp [conj] at *; (try dsimp only [Ty.den, Ty.dflt] at *); omega)) ?_
          refine sw_ret ⟨.inl rfl, _, rfl, ?_⟩
          simp [conj, ptrV, c1, c3, hsz]
        · skip
          replace g5_10 : ¬ mostV d < sz := of_decide_eq_false g5_10
          refine sw_dec hP 4 [(3, false), (10, false)] 15 rfl (fun g5_15 => ?_) (fun g5_15 => ?_)
          · skip
            have hsz : sizeV d ((sz, sm, pl) : Ptr_) = false := by
              have h : sm < 0 := of_decide_eq_true g5_15
              simp [sizeV, inV]; omega
            refine sw_region hP 4 [(3, false), (10, false), (15, true)] rfl (by kernel_rfl) (fun _ => by kernel_rfl) ?_ ?_
            · skip
              simp only [conj, List.nil_append, List.cons_append, List.append_nil, List.append_assoc, inR_i64, true_and, and_true, Int.toNat_natCast]
              try dsimp only [Ty.den, Ty.dflt]
              repeat' apply And.intro
              all_goals first | trivial | assumption | omega | (show 0 ≤ sz; omega) | (show sz ≤ 1000000; omega) | exact decide_eq_false g5_3 | exact decide_eq_false g5_10 | exact decide_eq_false g5_15 | exact decide_eq_false g5_20
            refine sw_condT rfl ?_
            refine sw_seq ?_
            refine sw_region hP 5 [] rfl (by kernel_rfl) (fun _ => by kernel_rfl) (by first | trivial | (simp [conj]; done) | (simp [conj] at *; (try dsimp only [Ty.den, Ty.dflt] at *); omega)) ?_
            refine sw_ret ⟨.inl rfl, _, rfl, ?_⟩
            simp [conj, ptrV, c1, c3, hsz]
          · skip
            replace g5_15 : ¬ sm < 0 := of_decide_eq_false g5_15
            refine sw_dec hP 4 [(3, false), (10, false), (15, false)] 20 rfl (fun g5_20 => ?_) (fun g5_20 => ?_)
            · skip
              have hsz : sizeV d ((sz, sm, pl) : Ptr_) = false := by
                have h : 1000000000 < sm := of_decide_eq_true g5_20
                simp [sizeV, inV]; omega
              refine sw_region hP 4 [(3, false), (10, false), (15, false), (20, true)] rfl (by kernel_rfl) (fun _ => by kernel_rfl) ?_ ?_
              · skip
                simp only [conj, List.nil_append, List.cons_append, List.append_nil, List.append_assoc, inR_i64, true_and, and_true, Int.toNat_natCast]
                try dsimp only [Ty.den, Ty.dflt]
                repeat' apply And.intro
                all_goals first | trivial | assumption | omega | (show 0 ≤ sz; omega) | (show sz ≤ 1000000; omega) | exact decide_eq_false g5_3 | exact decide_eq_false g5_10 | exact decide_eq_false g5_15 | exact decide_eq_false g5_20
              refine sw_condT rfl ?_
              refine sw_seq ?_
              refine sw_region hP 5 [] rfl (by kernel_rfl) (fun _ => by kernel_rfl) (by first | trivial | (simp [conj]; done) | (simp [conj] at *; (try dsimp only [Ty.den, Ty.dflt] at *); omega)) ?_
              refine sw_ret ⟨.inl rfl, _, rfl, ?_⟩
              simp [conj, ptrV, c1, c3, hsz]
            · skip
              replace g5_20 : ¬ 1000000000 < sm := of_decide_eq_false g5_20
              have hcb := colsV_bd (n := sz) (by omega) (by omega)
              refine sw_region hP 4 [(3, false), (10, false), (15, false), (20, false)] rfl (by kernel_rfl) (fun _ => by kernel_rfl) ?_ ?_
              · skip
                simp only [conj, List.nil_append, List.cons_append, List.append_nil, List.append_assoc, inR_i64, true_and, and_true, Int.toNat_natCast]
                try dsimp only [Ty.den, Ty.dflt]
                repeat' apply And.intro
                all_goals first | trivial | assumption | omega | (show 0 ≤ sz; omega) | (show sz ≤ 1000000; omega) | exact decide_eq_false g5_3 | exact decide_eq_false g5_10 | exact decide_eq_false g5_15 | exact decide_eq_false g5_20
              refine sw_cond rfl (fun c5 => ?_) (fun c5 => ?_)
              · skip
                have hsz : sizeV d ((sz, sm, pl) : Ptr_) = false := by
                  have h : (!decide ((pl.length : Int) = colsV sz + 1)) = true := c5
                  simp [sizeV] at h ⊢; intros; omega
                refine sw_seq ?_
                refine sw_region hP 5 [] rfl (by kernel_rfl) (fun _ => by kernel_rfl) (by first | trivial | (simp [conj]; done) | (simp [conj] at *; (try dsimp only [Ty.den, Ty.dflt] at *); omega)) ?_
                refine sw_ret ⟨.inl rfl, _, rfl, ?_⟩
                simp [conj, ptrV, c1, c3, hsz]
              · skip
                have hsz : sizeV d ((sz, sm, pl) : Ptr_) = true := by
                  have h : (!decide ((pl.length : Int) = colsV sz + 1)) = false := c5
                  simp [sizeV, inV] at h ⊢; omega
                refine sw_skip ?_
                refine sw_seq ?_
                refine sw_seq ?_
                refine sw_region hP 5 [] rfl (by kernel_rfl) (fun _ => by kernel_rfl) (by first | trivial | (simp [conj]; done) | (simp [conj] at *; (try dsimp only [Ty.den, Ty.dflt] at *); omega)) ?_
                refine sw_block ?_
                refine sw_loop (ι := Nat) (fun i => ⟨[sInt .i64 d, .junk, .junk, .v false [.ptr ⟨1, 0, 0⟩ 0], .junk, .junk, .junk, .junk, .junk, .junk, .junk, .junk, .junk, .junk, .junk, .junk, .junk, .junk, .junk, .junk, .junk, .junk, .junk, .junk, .junk, .junk, .junk, .junk, .junk, .junk, .junk, .junk, .junk, .junk, .junk, .junk, .junk, .junk, .junk, .junk, .junk, .junk, .junk, .v false [.d (.sl T_Place) (.all .b) pl], sInt .i64 (pl.length : Int), sInt .i64 (i : Int), .junk, .junk, .junk, .junk, .junk, .junk, .junk, .junk, .junk, .junk, .junk, .junk, .junk, .junk, .junk, .junk, .junk], [(⟨1, 0, 0⟩, .var [.d TI pF sz, .d TI pF sm, .d (.sl T_Place) (.all .b) pl])], 5, []⟩) (fun i => pl.length - i) (fun i => i ≤ pl.length ∧ chkGo (placeF d) (pl.take i) (pl.drop i) = chk (placeF d) pl) 0 ⟨?_, ?_⟩ ?_
                · skip
                  exact ⟨Nat.zero_le _, rfl⟩
                · refine ent_ok rfl ?_
                  simp [conj]
                · rintro i ⟨hi, hgo⟩
                  refine sw_seq ?_
                  refine sw_region hP 6 [] rfl (by kernel_rfl) (fun _ => by kernel_rfl) (by first | trivial | (simp [conj]; done) | (simp [conj] at *; (try dsimp only [Ty.den, Ty.dflt] at *); omega)) ?_
                  refine sw_seq ?_
                  refine sw_cond rfl (fun c8 => ?_) (fun c8 => ?_)
                  · skip
                    have hlt : i < pl.length := by simpa using c8
                    refine sw_skip ?_
                    refine sw_seq ?_
                    refine sw_block ?_
                    refine sw_seq ?_
                    refine sw_region hP 7 [] rfl (by kernel_rfl) (fun _ => by kernel_rfl) (by first | trivial | (simp [conj]; done) | (simp [conj] at *; (try dsimp only [Ty.den, Ty.dflt] at *); omega)) ?_
                    refine sw_seq ?_
                    refine sw_dec hP 8 [] 4 rfl (fun g10_4 => ?_) (fun g10_4 => ?_)
                    · skip
                      replace g10_4 : placeV d pl[i] = false := by simpa [List.getElem?_eq_getElem hlt] using g10_4
                      have hf : placeF d (pl.take i) pl[i] = false := by simp [placeF, g10_4]
                      refine sw_region hP 8 [(4, true)] rfl (by kernel_rfl) (fun _ => by kernel_rfl) ?_ ?_
                      · skip
                        simp [conj, List.getElem?_eq_getElem hlt]
                        repeat' apply And.intro
                        all_goals first | trivial | assumption | omega
                      refine sw_condT rfl ?_
                      refine sw_seq ?_
                      refine sw_region hP 9 [] rfl (by kernel_rfl) (fun _ => by kernel_rfl) (by first | trivial | (simp [conj]; done) | (simp [conj] at *; (try dsimp only [Ty.den, Ty.dflt] at *); omega)) ?_
                      refine sw_ret ⟨.inl rfl, _, rfl, ?_⟩
                      have hv := chk_hit hlt hgo hf
                      simp [conj, ptrV, c1, c3, hsz, hv]
                    · skip
                      replace g10_4 : placeV d pl[i] = true := by simpa [List.getElem?_eq_getElem hlt] using g10_4
                      refine sw_region hP 8 [(4, false)] rfl (by kernel_rfl) (fun _ => by kernel_rfl) ?_ ?_
                      · skip
                        simp [conj, List.getElem?_eq_getElem hlt]
                        repeat' apply And.intro
                        all_goals first | trivial | assumption | omega
                      refine sw_cond rfl (fun c10 => ?_) (fun c10 => ?_)
                      · skip
                        have hf : placeF d (pl.take i) pl[i] = false := by
                          have h : (pl.take i).any (fun q => decide (q.1 = pl[i].1)) = true := by simpa [List.getElem?_eq_getElem hlt] using c10
                          unfold placeF; rw [h]; simp
                        refine sw_seq ?_
                        refine sw_region hP 9 [] rfl (by kernel_rfl) (fun _ => by kernel_rfl) (by first | trivial | (simp [conj]; done) | (simp [conj] at *; (try dsimp only [Ty.den, Ty.dflt] at *); omega)) ?_
                        refine sw_ret ⟨.inl rfl, _, rfl, ?_⟩
                        have hv := chk_hit hlt hgo hf
                        simp [conj, ptrV, c1, c3, hsz, hv]
                      · skip
                        have hf : placeF d (pl.take i) pl[i] = true := by
                          have h : (pl.take i).any (fun q => decide (q.1 = pl[i].1)) = false := by simpa [List.getElem?_eq_getElem hlt] using c10
                          unfold placeF; rw [h, g10_4]; rfl
                        refine sw_skip ?_
                        refine sw_region hP 9 [] rfl (by kernel_rfl) (fun _ => by kernel_rfl) (by first | trivial | (simp [conj]; done) | (simp [conj] at *; (try dsimp only [Ty.den, Ty.dflt] at *); omega)) ?_
                        refine ⟨i + 1, ?_, ?_, ent_ok rfl ?_⟩
                        · skip
                          exact ⟨hlt, chk_next hlt hgo hf⟩
                        · skip
                          omega
                        · skip
                          simp [conj]
                  · skip
                    obtain rfl : i = pl.length := by simp at c8; omega
                    refine sw_exit ?_
                    refine sw_seq ?_
                    refine sw_region hP 7 [] rfl (by kernel_rfl) (fun _ => by kernel_rfl) (by first | trivial | (simp [conj]; done) | (simp [conj] at *; (try dsimp only [Ty.den, Ty.dflt] at *); omega)) ?_
                    refine sw_ret ⟨.inl rfl, _, rfl, ?_⟩
                    have hv := chk_end hgo
                    simp [conj, ptrV, c1, c3, hsz, hv]
end Go.Sx

namespace Go.Sx
open Go Go.RowKit
theorem volOk_eq (s : Str) : Proofs.volOk (mkS s) = nameV s := by
  have h : (mkS s).size = s.length := rfl
  have h2 : (mkS s).data.toList = s := rfl
  unfold Proofs.volOk nameV inV
  rw [h, h2, show (fun c : UInt8 => decide (97 ≤ c.toNat) && decide (c.toNat ≤ 122)) = lower from rfl]
  congr 1
  cases s with
  | nil => rfl
  | cons a l =>
    have e1 : ((a :: l).length == 0) = false := rfl
    rw [e1]
    simp only [Bool.not_false, Bool.true_and, List.length_cons]
    have e2 : decide ((1 : Int) ≤ ((l.length + 1 : Nat) : Int)) = true := by simp; omega
    rw [e2, Bool.true_and]
    exact decide_eq_decide.2 (by omega)
/-- a contract from a walk by the kit's own means, where nothing that lay has turned -/
theorem ctr_of_below {P : Program} {c : Ctr} {fn : Func} {body : Code} (hf : P.funcs[c.f]? = some fn) (hb : fn.body = some body) (hn : (fn.name == "runtime.NumGoroutine") = false) (href : noRefs c.ins = true)
    (h : ∀ G w args x, (∀ b, G.g b ≠ .no → b < w.heap.size) → Amb P G.g w → ArgsOk G w 0 c.ins x args → c.pre x → Calls P c.f args.toArray w fun e w' => ∃ v, e = .returned v ∧ Below w.heap.size w w' ∧ (∀ G', MtS G' w' (c.post x).1 v) ∧ (c.post x).2 = []) : CtrOk P c := by
  intro G w args x hbnd ham hargs hpre
  have hrun : (callFunc c.f args.toArray).run P w = .ok (.enter c.f args.toArray) w := by
    have hn' : ¬ fn.name = "runtime.NumGoroutine" := by simpa using hn
    simp [callFunc, hf, hn', hb]
  refine ⟨_, _, hrun, .inr (.inl ⟨rfl, ?_⟩)⟩
  intro cs
  obtain ⟨e, w', fr, ⟨v, rfl, hB, hm, hp⟩, h1, h2, h3⟩ := h G w args x hbnd ham hargs hpre cs
  refine ⟨_, w', fr, ?_, h1, h2, h3⟩
  let G' : Gh := ⟨fun _ => .bool false, G.g⟩
  have hk : ∀ b, G.g b ≠ .no → w'.heap[b]? = w.heap[b]? := fun b hb => hB.block b (hbnd b hb)
  refine ⟨G', ⟨fun _ h => h.elim, ⟨fun b hb => ⟨hb, hk b (by rw [hb]; simp)⟩, fun b hb => ⟨hb, hk b (by rw [hb]; simp)⟩⟩, fun b j q hg _ => ⟨hg, hk b (by rw [hg]; simp)⟩, fun b hlt hb => ⟨hB.block b hlt, hb⟩, fun b hb => Nat.lt_of_lt_of_le (hbnd b hb) hB.size, fun _ _ => rfl, hB.os, hB.tape, hB.output, hB.size⟩, fun _ => rfl, ?_, hm G', ?_⟩
  · rw [noRefs_ptr href]; intro p hp; cases hp
  · rw [hp]; intro i R hi; cases hi
def cVol : Ctr := ⟨55, [.val false .str pF], fun _ => True, fun x => (sBool (nameV x.1), [])⟩
theorem cVol_ok : CtrOk Proofs.Tryz.prog cVol := by
  refine ctr_of_below (fn := Proofs.Tryz.f55) Proofs.Tryz.func55 rfl rfl rfl ?_
  rintro G w args ⟨(s : Str), ⟨⟩⟩ _ _ ⟨v, vs, rfl, ⟨_, cs, rfl, _, ⟨rfl, hl⟩⟩, rfl⟩ _
  have h := Proofs.vol55_in Fence.wide 3 trivial trivial trivial rfl (Nat.le_refl _) (mkS s) (by exact hl) w
  refine (callsIn_wide.1 h).mono ?_
  rintro e w' ⟨rfl, hB⟩
  refine ⟨_, rfl, hB, fun G' => ?_, rfl⟩
  rw [volOk_eq]
  exact MtS.ofBool
end Go.Sx
