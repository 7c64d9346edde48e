/- Several texts, one behind the other. -/
import Derived.Test.YtkbgdpdldoopmabGreatDoorSxWtoSxZ
import Derived.SizedLaws
import Derived.OpenShut
import GoSem.ClaimWide
import Derived.WideShapes
import Derived.Handed
import Derived.Shelf.Vars
import Derived.RowKitTokens
import Derived.ChangeVars
import Derived.Test.YtkbgdpdldoopmabGreatDoorProg
import Derived.Lib.ItoaLen
import Derived.Lib.Join
import Derived.RangeFuncBox
import Derived.RangeFuncFrom
import Derived.RangeFuncNested
import Derived.RangeFuncBound
import Derived.RangeFuncCalls
import Derived.RangeFuncLeaves
import Derived.Shelf.Abstract
import Derived.Shelf.RegionOpen
import Derived.WalkKit
import Derived.OwnWalkIn
import Derived.TacticsInMore
import Derived.LoopNIn
import Derived.LoopIn
import Derived.Shelf.Strings.Builder1
import Derived.Shelf.Strings.Builder2
import Derived.Shelf.Strings.OnBuilder
import Derived.Shelf.Strings.BuilderF
import Derived.Shelf.Strings.BuilderK
import Derived.Shelf.Utf8.RuneCount
import Derived.Shelf.Strings.Builder2Cap
import Derived.Shelf.Strconv.Atoi
import Derived.Shelf.Strconv.Itoa0
import Derived.Shelf.Strconv.Itoa1
import Derived.Shelf.LaysM
import Derived.Shelf.Strconv.Itoa2
import Derived.Shelf.Strconv.Itoa3
import Derived.Shelf.Strconv.AtoiErrFast
import Derived.Shelf.Strconv.ParseIntEmpty
import Derived.Shelf.Strconv.AtoiFail
import Derived.Shelf.Strconv.Clone
import Derived.Shelf.Strconv.SyntaxError
import Derived.Shelf.LaysC
import Derived.Shelf.Strconv.ToError
import Derived.Shelf.Strconv.AtoiErr
import Derived.Shelf.Strconv.Lower
import Derived.Shelf.Strconv.ParseUint10
import Derived.Shelf.Strconv.ParseUint10Empty
import Derived.Shelf.Strconv.ParseUint10Any
import Derived.Shelf.Strconv.ParseInt10
import Derived.Shelf.Strconv.AtoiLong
import Derived.Shelf.Strconv.AtoiInnerAll
import Derived.Shelf.Strconv.RangeError
import Derived.Shelf.Strconv.ToErrorRange
import Derived.Shelf.Strconv.AtoiAll
import Derived.Shelf.Strconv.ErrVarAll
import Derived.Shelf.Strconv.ParseUintEmpty
import Derived.Shelf.Strconv.ParseUint10b64
import Derived.Shelf.Strconv.ParseUint10b32
import Derived.Shelf.Strconv.ParseUint10b16
import Derived.Shelf.Strconv.ParseUint10b8
import Derived.Shelf.Strconv.ParseUint10At
import Derived.Shelf.Strings.Search1
import Derived.Shelf.Strings.Search2
import Derived.Shelf.Strings.Search3
import Derived.Shelf.Strings.Cut
import Derived.Shelf.Strings.Count
import Derived.Shelf.Strings.Shaped
import Derived.Shelf.Strings.Prefix
import Derived.Shelf.Strings.Split
import Derived.Shelf.Strings.SplitShaped
import Derived.Shelf.Unicode.Decode
import Derived.Shelf.Strings.RuneCount
import Derived.Shelf.Strings.Explode
import Derived.Shelf.Unicode.DecodeSlow
import Derived.Shelf.Unicode.DecodeAny
import Derived.Shelf.Strings.BuilderCap
set_option linter.all false
namespace Go.Sx
open Go Go.RowKit
section
variable {P : Program} {tt : TT} {G : Gh} {w : World}
theorem fldChk_pr {a b : Ty} {n : Nat} : ∀ {r : List TypeId} {f : Nat}, fldChk tt (.pr a b) (n + 2) (f + 1) r = fldChk tt b (n + 1) f r := by
 intro r
 induction r with
 | nil => intro f; rfl
 | cons t r ih =>
  intro f
  simp only [fldChk, ih]
  rw [show (fieldTy (.pr a b) pF (n + 2) (f + 1) 0).1 = (fieldTy b pF (n + 1) f 0).1 from fieldTy_ty b pF.r pF (n + 1) f _ 0]
theorem st_tr : ∀ (n : Nat) (T : Ty) (fts : List TypeId) (cs : List Value), fts.length = n + 1 → fldChk tt T (n + 1) 0 fts = true → cs.length = T.size →
  (∀ (f : Nat) (t : TypeId) (te : TE), fts[f]? = some t → ttOf tt t = some te → ∃ y, ∀ id p, Tr G w te.T pF id p ((cs.drop (fieldOff T (n + 1) f)).take te.T.size) y) → ∃ y, ∀ id p, Tr G w T pF id p cs y := by
 have base : ∀ (n : Nat) (T : Ty) (fts : List TypeId) (cs : List Value), fts.length = n + 1 → fldChk tt T (n + 1) 0 fts = true → cs.length = T.size → (fieldTy T pF (n + 1) 0 0).1 = T → fieldOff T (n + 1) 0 = 0 →
   (∀ (f : Nat) (t : TypeId) (te : TE), fts[f]? = some t → ttOf tt t = some te → ∃ y, ∀ id p, Tr G w te.T pF id p ((cs.drop (fieldOff T (n + 1) f)).take te.T.size) y) → ∃ y, ∀ id p, Tr G w T pF id p cs y := by
  intro n T fts cs hlen hchk hcs hT hoff h
  cases fts with
  | nil => cases hlen
  | cons t r =>
   simp only [fldChk, Bool.and_eq_true, hT] at hchk
   obtain ⟨te, hte, hteT, _⟩ := elChk_spec hchk.1
   obtain ⟨y, hy⟩ := h 0 t te rfl hte
   subst hteT
   refine ⟨y, fun id p => ?_⟩
   have := hy id p
   rw [hoff, List.drop_zero, List.take_of_length_le (Nat.le_of_eq hcs)] at this
   exact this
 intro n
 induction n with
 | zero => intro T fts cs h1 h2 h3 h4; exact base 0 T fts cs h1 h2 h3 (by cases T <;> rfl) (by cases T <;> rfl) h4
 | succ n ih =>
  intro T fts cs h1 h2 h3 h4
  cases T with
  | pr a b =>
   cases fts with
   | nil => cases h1
   | cons t r =>
    simp only [fldChk, Bool.and_eq_true] at h2
    obtain ⟨te, hte, hteT, _⟩ := elChk_spec h2.1
    obtain ⟨y, hy⟩ := h4 0 t te rfl hte
    have ha : te.T = a := hteT
    obtain ⟨z, hz⟩ := ih b r (cs.drop a.size) (by simpa using h1) (by rw [← fldChk_pr (a := a)]; exact h2.2) (by rw [List.length_drop, h3]; simp [Ty.size]) fun f t' te' hf hte' => by
     obtain ⟨u, hu⟩ := h4 (f + 1) t' te' (by simpa using hf) hte'
     refine ⟨u, fun id p => ?_⟩
     have := hu id p
     rw [show fieldOff (.pr a b) (n + 1 + 1) (f + 1) = a.size + fieldOff b (n + 1) f by
      show (fieldTy b pF (n + 1) f (0 + a.size)).2.2 = _
      rw [fieldTy_off, Nat.zero_add]] at this
     rwa [List.drop_drop]
    subst ha
    refine ⟨(y, z), fun id p => ⟨cs.take te.T.size, cs.drop te.T.size, (List.take_append_drop _ _).symm, ?_, hz id (p ++ [1])⟩⟩
    have := hy id (p ++ [0])
    rwa [show fieldOff (.pr te.T b) (n + 1 + 1) 0 = 0 from rfl, List.drop_zero] at this
  | _ => exact base (n + 1) _ fts cs h1 h2 h3 rfl rfl h4
theorem cellsAt_of {C : Array Value} {o n : Nat} {cs : List Value} (hl : cs.length = n) (h : ∀ i, i < n → C[o + i]? = cs[i]?) : cellsAt C o n = cs := by
 apply List.ext_getElem?
 intro i
 unfold cellsAt
 by_cases hi : i < n
 ·rw [List.getElem?_take_of_lt hi, List.getElem?_drop, Array.getElem?_toList]
  exact h i hi
 ·rw [List.getElem?_eq_none (by rw [List.length_take]; omega), List.getElem?_eq_none (by omega)]
theorem weightsAll_mem {H : Type} {e : TypeId} : ∀ {ds : List (DataW H)} {d : DataW H}, d ∈ ds → ∀ n ∈ d.weights P e, n ∈ DataW.weightsAll P e ds := by
 intro ds
 induction ds with
 | nil => intro d h; cases h
 | cons a r ih =>
  intro d h n hn
  simp only [DataW.weightsAll, List.mem_append]
  rcases List.mem_cons.1 h with rfl | h
  ·exact .inl hn
  ·exact .inr (ih h n hn)
theorem cellsOf_at (T : TtOk P tt) {t : TypeId} {te : TE} (h : ttOf tt t = some te) : P.cellsOf t = te.T.size := by
 obtain ⟨i, hi, _, hs, _⟩ := info_at T h
 simp [Program.cellsOf, hi, hs]
theorem bytesOf_at (T : TtOk P tt) {t : TypeId} {te : TE} (h : ttOf tt t = some te) : P.bytesOf t = te.by_ := by
 obtain ⟨i, hi, _, _, hb⟩ := info_at T h
 simp [Program.bytesOf, hi, hb]
def noPtT (tt : TT) : Nat → TypeId → Bool
 | 0, _ => false
 | m + 1, t => match ttOf tt t with
  | none => false
  | some te => (match te.fts with
   | [] => (match te.T with
    | .sl _ | .arr _ _ => noPtT tt m te.el
    | .pt | .er => false
    | _ => true)
   | a :: r => (a :: r).all (noPtT tt m))
theorem tr_of_trod {H : Type} {enc : TypeId × Value → H} (T : TtOk P tt) (hby : (tt.all fun te => Nat.blt 0 te.by_) = true) (hper : ∀ b, b < w.heap.size → G.g b = .per) :
  ∀ (fuel : Nat) (m : Nat) (t : TypeId) (te : TE) (cs : List Value) (x : DataW H × List MemPlace), noPtT tt m t = true → ttOf tt t = some te → DataW.trod enc P w 0 (fun _ => true) true fuel t cs = some x → (∀ n ∈ x.1.weights P t, n ≤ reachBytes) →
   ∃ y, ∀ id p, Tr G w te.T pF id p cs y := by
 intro fuel
 induction fuel with
 | zero => intro m t te cs x _ _ h; simp [DataW.trod] at h
 | succ fuel ih =>
  intro m t te cs x hnp ht h hwt
  cases m with
  | zero => cases hnp
  | succ m =>
  unfold noPtT at hnp
  rw [ht] at hnp
  simp only at hnp
  obtain ⟨d, hd, hdi⟩ := und_at T ht
  obtain ⟨hok, _, hchk⟩ := T.at ht
  have hrl := reachBytes_lt
  unfold teChk at hchk
  unfold TE.di at hdi
  cases hf : te.fts with
  | nil =>
   rw [hf] at hchk hdi hnp
   simp only at hchk hdi hnp
   cases hT : te.T with
   | int k =>
    rw [hT] at hdi
    have hu : P.underlying t = some (.int k) := by rw [hd]; cases d <;> simp [dinfo] at hdi; rw [hdi]
    obtain ⟨n, rfl, _, hwf⟩ := DataW.trod_int hu h
    exact ⟨n, fun _ _ => ⟨rfl, by simp only [Lit.wf, Bool.and_eq_true, decide_eq_true_eq] at hwf; exact hwf⟩⟩
   | bool =>
    rw [hT] at hdi
    have hu : P.underlying t = some .bool := by rw [hd]; cases d <;> simp [dinfo] at hdi; rfl
    obtain ⟨b, rfl, _⟩ := DataW.trod_bool hu h
    exact ⟨b, fun _ _ => rfl⟩
   | str =>
    rw [hT] at hdi
    have hu : P.underlying t = some .string := by rw [hd]; cases d <;> simp [dinfo] at hdi; rfl
    obtain ⟨b, rfl, rfl, _⟩ := DataW.trod_string hu h
    have := hwt b.data.toList.length (by simp [DataW.weights])
    exact ⟨b.data.toList, fun _ _ => ⟨rfl, by show _ ≤ 140737488355328; omega⟩⟩
   | sl e =>
    rw [hT] at hdi hchk hnp
    have hu : P.underlying t = some (.slice te.el) := by rw [hd]; cases d <;> simp [dinfo] at hdi; rw [hdi]
    obtain ⟨te', hte', he', hsz⟩ := elChk_spec hchk
    subst he'
    have hco := cellsOf_at T hte'
    have hbo := bytesOf_at T hte'
    have hb1 : 0 < te'.by_ := by have := List.all_eq_true.1 hby te' (ttOf_mem hte').1; simpa [Nat.blt_eq] using this
    rcases DataW.trod_slice hu h with ⟨rfl, _⟩ | ⟨a, len, cap, elems, rest, n, hn, rfl, rfl, _, hlc, _, hlen, hel, hsp, _⟩
    ·exact ⟨[], fun _ _ => ⟨none, 0, 0, rfl, rfl, Nat.le_refl _, Nat.zero_le _, fun _ => noO_p _, .inl ⟨fun _ => rfl, rfl⟩⟩⟩
    ·cases hn
     obtain ⟨hrl2, hrest⟩ := hsp rfl
     have hw0 := hwt ((elems.length + rest.length) * P.bytesOf te.el) (by simp [DataW.weights, hu])
     have hcap : cap ≤ maxL := by
      show cap ≤ 140737488355328
      rw [hlen, hrl2, hbo] at hw0
      have : cap * 1 ≤ cap * te'.by_ := Nat.mul_le_mul_left _ hb1
      have : len + (cap - len) = cap := by omega
      rw [this] at hw0
      omega
     have hall : ∀ i, i < cap → ∃ cs', w.cells? 0 (a.add (i * te'.T.size)) te'.T.size = some cs' := by
      intro i hi
      by_cases hil : i < len
      ·have := hel i hil
       rw [hco, gE (by omega)] at this
       obtain ⟨cs', h1, _⟩ := Option.bind_eq_some_iff.1 this
       exact ⟨cs', h1⟩
      ·have := hrest (i - len) (by omega)
       rw [hco, gE (by omega), show len + (i - len) = i by omega] at this
       obtain ⟨cs', h1, _⟩ := Option.bind_eq_some_iff.1 this
       exact ⟨cs', h1⟩
     have hels : ∀ i, i < len → ∃ y, ∃ cs', w.cells? 0 (a.add (i * te'.T.size)) te'.T.size = some cs' ∧ ∀ id p, Tr G w te'.T pF id p cs' y := by
      intro i hi
      have := hel i hi
      rw [hco, gE (by omega)] at this
      obtain ⟨cs', h1, h2⟩ := Option.bind_eq_some_iff.1 this
      obtain ⟨y, hy⟩ := ih m te.el te' cs' _ hnp hte' h2 fun m hm => hwt m (by
       simp only [DataW.weights, hu, List.mem_cons, List.mem_append]
       exact .inr (.inl (weightsAll_mem (List.mem_map.2 ⟨_, List.getElem_mem (by omega), rfl⟩) m hm)))
      exact ⟨y, cs', h1, hy⟩
     by_cases hc0 : cap = 0
     ·subst hc0
      have : len = 0 := by omega
      subst this
      exact ⟨[], fun _ _ => ⟨some a, 0, 0, rfl, rfl, Nat.le_refl _, Nat.zero_le _, fun _ => noO_p _, .inl ⟨(fun e => by cases e), rfl⟩⟩⟩
     ·have hpos : 0 < te'.T.size := Nat.pos_of_ne_zero hsz
      obtain ⟨b, off, sp⟩ := a
      obtain ⟨c0, hc0'⟩ := hall 0 (by omega)
      obtain ⟨_, hl0, hcell0⟩ := World.cells?_some hc0'
      have h00 := hcell0 0 hpos
      rw [Nat.zero_mul, show (({ block := b, off := off, spot := sp } : Addr).add 0).add 0 = ⟨b, off, sp⟩ by simp [Addr.add], gE (by omega)] at h00
      have hheap : ∃ C tt' fz, w.heap[b]? = some (.cells C tt' fz) ∧ sp = none := by
       unfold World.cell? at h00
       split at h00
       ·rename_i C tt' fz hh
        refine ⟨C, tt', fz, hh, ?_⟩
        cases sp with
        | none => rfl
        | some _ => simp at h00
       ·cases h00
      obtain ⟨C, tt', fz, hh, rfl⟩ := hheap
      have hC : ∀ i cs', w.cells? 0 ((⟨b, off, none⟩ : Addr).add (i * te'.T.size)) te'.T.size = some cs' → cs'.length = te'.T.size ∧ ∀ k, k < te'.T.size → C[off + i * te'.T.size + k]? = cs'[k]? := by
       intro i cs' hcs
       obtain ⟨_, hl1, hc1⟩ := World.cells?_some hcs
       refine ⟨hl1, fun k hk => ?_⟩
       have := hc1 k hk
       rw [addr_add, addr_add] at this
       rw [← this, World.cell?, hh]
       rfl
      have hsize : off + cap * te'.T.size ≤ C.size := by
       obtain ⟨c1, hc1⟩ := hall (cap - 1) (by omega)
       obtain ⟨hl1, hg⟩ := hC _ _ hc1
       have := hg (te'.T.size - 1) (by omega)
       rw [gE (by omega)] at this
       have h3 := (Array.getElem?_eq_some_iff.1 this).1
       have h4 : cap * te'.T.size = (cap - 1) * te'.T.size + te'.T.size := by
        rw [← Nat.succ_mul]; congr 1; omega
       omega
      have hlsz : off + len * te'.T.size ≤ C.size := by
       have := Nat.mul_le_mul_right te'.T.size hlc
       omega
      refine ⟨(List.range len).map fun i => if h : i < len then Classical.choose (hels i h) else te'.T.dflt, fun id p => ⟨some ⟨b, off, none⟩, len, cap, rfl, by simp, hlc, Nat.le_trans hlc hcap, fun _ => noO_p _, .inr ⟨b, off, C, tt', fz, rfl, hper b (Array.getElem?_eq_some_iff.1 hh).1, hh, hlsz, (fun e => by cases e), fun j y hy => ?_⟩⟩⟩
      rw [List.getElem?_map, Option.map_eq_some_iff] at hy
      obtain ⟨i, hi, rfl⟩ := hy
      have hil := (List.getElem?_eq_some_iff.1 hi).1
      rw [List.length_range] at hil
      rw [List.getElem?_range hil] at hi
      cases hi
      rw [dif_pos hil]
      obtain ⟨cs', h1, h2⟩ := Classical.choose_spec (hels j hil)
      obtain ⟨hl1, hg⟩ := hC _ _ h1
      rw [cellsAt_of hl1 hg]
      exact h2 id _
   | arr n e =>
    rw [hT] at hdi hchk hnp
    have hu : P.underlying t = some (.array n te.el) := by rw [hd]; cases d <;> simp [dinfo] at hdi; obtain ⟨rfl, rfl⟩ := hdi; rfl
    obtain ⟨te', hte', he', hsz⟩ := elChk_spec hchk
    subst he'
    have hco := cellsOf_at T hte'
    have hct := cellsOf_at T ht
    rw [hT] at hct
    obtain ⟨xs, m, hn, rfl, hlen, hxl, hel⟩ := DataW.trod_array hu h
    cases hn
    have hels : ∀ i, i < n → ∃ y, ∀ id p, Tr G w te'.T pF id p ((cs.drop (i * te'.T.size)).take te'.T.size) y := by
     intro i hi
     have := hel i hi
     rw [hco, gE (by omega)] at this
     exact ih m te.el te' _ _ hnp hte' this fun k hk => hwt k (by
      simp only [DataW.weights, hu]
      exact weightsAll_mem (List.mem_map.2 ⟨_, List.getElem_mem (by omega), rfl⟩) k hk)
    refine ⟨(List.range n).map fun i => if h : i < n then Classical.choose (hels i h) else te'.T.dflt, fun id p => ⟨by rw [hlen, hct]; rfl, by simp, fun j y hy => ?_⟩⟩
    rw [List.getElem?_map, Option.map_eq_some_iff] at hy
    obtain ⟨i, hi, rfl⟩ := hy
    have hil := (List.getElem?_eq_some_iff.1 hi).1
    rw [List.length_range] at hil
    rw [List.getElem?_range hil] at hi
    cases hi
    rw [dif_pos hil]
    exact Classical.choose_spec (hels j hil) default []
   | pr a b => rw [hT] at hchk; cases hchk
   | pt => rw [hT] at hnp; cases hnp
   | er => rw [hT] at hnp; cases hnp
  | cons t0 r =>
   rw [hf] at hchk hdi hnp
   simp only at hchk hdi hnp
   have hu : ∃ fs : Array Field, P.underlying t = some (.struct fs) ∧ fs.toList.map (fun f => (f.offset, f.type)) = offsFrom te.T te.nf 0 (t0 :: r) := by
    rw [hd]; cases d <;> simp [dinfo] at hdi; exact ⟨_, rfl, hdi⟩
   obtain ⟨fs, hu, hfs⟩ := hu
   have hnf := hok.nf
   rw [hf] at hnf
   have hct := cellsOf_at T ht
   obtain ⟨xs, n, hn, rfl, hlen, hxl, hel⟩ := DataW.trod_struct hu h
   cases hn
   have hoffs : ∀ (l : List TypeId) (k j : Nat) (t' : TypeId), l[j]? = some t' → (offsFrom te.T te.nf k l)[j]? = some (fieldOff te.T te.nf (k + j), t') := by
    intro l
    induction l with
    | nil => intro k j t' h; cases h
    | cons a l ihl =>
     intro k j t' h
     cases j with
     | zero => simp only [List.getElem?_cons_zero, Option.some.injEq] at h; subst h; simp [offsFrom]
     | succ j =>
      simp only [List.getElem?_cons_succ] at h
      simp only [offsFrom, List.getElem?_cons_succ]
      rw [ihl (k + 1) j t' h]
      congr 3; omega
   refine st_tr r.length te.T (t0 :: r) cs (by simp) (by rw [← (by simpa using hnf : te.nf = r.length + 1)]; exact hchk) (by rw [hlen, hct]) fun f t' te' hft hte' => ?_
   have h1 := hoffs (t0 :: r) 0 f t' hft
   rw [← hfs, List.getElem?_map, Option.map_eq_some_iff] at h1
   obtain ⟨fd, hfd, hfe⟩ := h1
   simp only [Prod.mk.injEq, Nat.zero_add] at hfe
   have hfd' : fs[f]? = some fd := by rwa [Array.getElem?_toList] at hfd
   have := hel f fd hfd'
   have hfl : f < xs.length := by rw [hxl]; exact (Array.getElem?_eq_some_iff.1 hfd').1
   rw [hfe.1, hfe.2, cellsOf_at T hte', gE hfl] at this
   rw [(by simpa using hnf : te.nf = r.length + 1)] at this
   exact ih m t' te' _ _ (List.all_eq_true.1 hnp t' (List.mem_of_getElem? hft)) hte' this fun k hk => hwt k (by
    simp only [DataW.weights, hu]
    refine DataW.weights_mem_each (j := f) (t := t') (d := (xs[f]).1) ?_ ?_ k hk
    ·rw [List.getElem?_map, hfd]; simp [hfe.2]
    ·rw [List.getElem?_map, gE hfl]; rfl)
end
end Go.Sx

namespace Go.Sx
open Go
@[simp] theorem inR_i64 {n : Int} : inR .i64 n ↔ -9223372036854775808 ≤ n ∧ n ≤ 9223372036854775807 := by simp [inR, IntKind.min, IntKind.max, IntKind.signed, IntKind.bits]
@[simp] theorem inR_u8 {n : Int} : inR .u8 n ↔ 0 ≤ n ∧ n ≤ 255 := by simp [inR, IntKind.min, IntKind.max, IntKind.signed, IntKind.bits]
theorem cj : (conj [] = True) ∧ (∀ p, conj [p] = p) ∧ (∀ p q r, conj (p :: q :: r) = (conj (q :: r) ∧ p)) ∧ (∀ n : Int, inR .i64 n ↔ -9223372036854775808 ≤ n ∧ n ≤ 9223372036854775807) ∧ (∀ p, (True ∧ p) = p) ∧ (∀ p, (p ∧ True) = p) ∧ (∀ n : Nat, (n : Int).toNat = n) := ⟨rfl, fun _ => rfl, fun _ _ _ => rfl, fun _ => inR_i64, true_and, and_true, Int.toNat_natCast⟩
theorem cl {α : Type} : (∀ l : List α, [] ++ l = l) ∧ (∀ (a : α) l m, (a :: l) ++ m = a :: (l ++ m)) ∧ (∀ l : List α, l ++ [] = l) ∧ (∀ l m n : List α, (l ++ m) ++ n = l ++ (m ++ n)) := ⟨List.nil_append, fun _ _ _ => List.cons_append, List.append_nil, List.append_assoc⟩
abbrev TB : Ty := .sl (.int .u8)
abbrev TI : Ty := .int .i64
abbrev Rd := List Int × Int
abbrev rdA (r : Rd) : Res := .var [.d TB pF r.1, .d TI pF r.2]
theorem rd_eta (R : Rd) : (R.1, R.2) = R := rfl
def BOk (b : List Int) : Prop := ∀ v ∈ b, 0 ≤ v ∧ v ≤ 255
structure ROk (r : Rd) (m : Int) : Prop where
 b : BOk r.1
 len : r.1.length ≤ 2000
 p0 : 0 ≤ r.2
 p1 : r.2 + m ≤ 1099511627776
def pickX (b : List Int) (p : Int) : Int := b.getD (p.tmod b.length).toNat 0 * 131 + b.getD ((p * 7 + 3).tmod b.length).toNat 0 * 1117 + p * 29 + p.tdiv b.length * 53
def pickV (b : List Int) (p n : Int) : Int :=
 if n < 1 then 0 else if b.length = 0 then 0 else if p < b.length then (b.getD p.toNat 0).tmod n else (bitsOp .xor .i64 (pickX b p) ((pickX b p).tdiv 64)).tmod n
def pk (r : Rd) (n : Int) : Int := pickV r.1 r.2 n
def nx (r : Rd) : Rd := (r.1, r.2 + 1)
theorem ROk.nx {r : Rd} {m m' : Int} (h : ROk r m) (hm : m' + 1 ≤ m) : ROk (nx r) m' := ⟨h.b, h.len, by have := h.p0; simp only [Sx.nx]; omega, by have := h.p1; simp only [Sx.nx]; omega⟩
theorem ROk.le {r : Rd} {m m' : Int} (h : ROk r m) (hm : m' ≤ m) : ROk r m' := ⟨h.b, h.len, h.p0, by have := h.p1; omega⟩
theorem getD_b {b : List Int} (h : BOk b) (i : Nat) : 0 ≤ b.getD i 0 ∧ b.getD i 0 ≤ 255 := by
 rw [List.getD_eq_getElem?_getD]
 cases hc : b[i]? with
 | none => simp
 | some v => exact h v (List.mem_of_getElem? hc)
theorem pickX_bd {r : Rd} {m : Int} (h : ROk r m) (hm : 0 ≤ m) : 0 ≤ pickX r.1 r.2 ∧ pickX r.1 r.2 ≤ 1000000000000000 := by
 unfold pickX
 have h1 := getD_b h.b (r.2.tmod r.1.length).toNat
 have h2 := getD_b h.b ((r.2 * 7 + 3).tmod r.1.length).toNat
 have h0 := h.p0
 have h3 : 0 ≤ r.2.tdiv r.1.length ∧ r.2.tdiv r.1.length ≤ r.2 := ⟨Int.tdiv_nonneg h0 (Int.natCast_nonneg _), Int.tdiv_le_self _ h0⟩
 have h4 := h.p1
 omega
theorem xor_bd {x : Int} (h : 0 ≤ x) (h2 : x ≤ 1000000000000000) : 0 ≤ bitsOp .xor .i64 x (x.tdiv 64) := by
 have h3 : 0 ≤ x.tdiv 64 ∧ x.tdiv 64 ≤ x := ⟨Int.tdiv_nonneg h (by omega), Int.tdiv_le_self _ h⟩
 obtain ⟨a, rfl⟩ := Int.eq_ofNat_of_zero_le h
 obtain ⟨c, hc⟩ := Int.eq_ofNat_of_zero_le h3.1
 rw [hc]
 have ha : a < 2 ^ 63 := by simp only [Nat.reducePow]; omega
 have hc' : c < 2 ^ 63 := by simp only [Nat.reducePow]; omega
 have e1 : (BitVec.ofInt 64 (a : Int)).toNat = a := by rw [BitVec.toNat_ofInt]; simp only [Nat.reducePow] at ha ⊢; omega
 have e2 : (BitVec.ofInt 64 (c : Int)).toNat = c := by rw [BitVec.toNat_ofInt]; simp only [Nat.reducePow] at hc' ⊢; omega
 have hx := Nat.xor_lt_two_pow ha hc'
 have hb : bitsOp .xor .i64 (a : Int) (c : Int) = IntKind.wrap .i64 ((BitVec.ofInt 64 (a : Int)).toNat ^^^ (BitVec.ofInt 64 (c : Int)).toNat : Nat) := by
  show IntKind.wrap .i64 ((BitVec.ofInt 64 (a : Int) ^^^ BitVec.ofInt 64 (c : Int)).toNat : Nat) = _
  rw [BitVec.toNat_xor]
 rw [hb, e1, e2, wrap_in]
 ·omega
 ·simp only [inR, IntKind.min, IntKind.max, IntKind.signed, IntKind.bits]
  simp only [Nat.reducePow] at hx
  constructor <;> simp <;> omega
theorem pk_bd {r : Rd} {m n : Int} (h : ROk r m) (hm : 0 ≤ m) (hn : 1 ≤ n) : 0 ≤ pk r n ∧ pk r n < n := by
 unfold pk pickV
 rw [if_neg (by omega)]
 split
 ·omega
 ·split
  ·exact ⟨Int.tmod_nonneg _ (getD_b h.b _).1, Int.tmod_lt_of_pos _ (by omega)⟩
  ·have h1 := pickX_bd h hm
   exact ⟨Int.tmod_nonneg _ (xor_bd h1.1 h1.2), Int.tmod_lt_of_pos _ (by omega)⟩
theorem tmod_ix {a n : Int} (h : 0 ≤ a) (hn : 0 < n) : 0 ≤ a.tmod n ∧ a.tmod n < n := ⟨Int.tmod_nonneg _ h, Int.tmod_lt_of_pos _ hn⟩
theorem getD_b' {b : List Int} (h : BOk b) (i : Nat) : 0 ≤ b[i]?.getD 0 ∧ b[i]?.getD 0 ≤ 255 := by rw [← List.getD_eq_getElem?_getD]; exact getD_b h i
def textGo : Nat → Rd → List Int → List Int × Rd
 | 0, r, out => (out, r)
 | k + 1, r, out => textGo k (nx (nx r)) (out ++ [(([97, 98, 122, 0, 255, 128] : List Int).getD (pk r 6).toNat 0 + pk (nx r) 3) % 256])
def textV (r : Rd) (most : Int) : Str := ofBytes (textGo (pk r (most + 1)).toNat (nx r) []).1
def textR (r : Rd) (most : Int) : Rd := (textGo (pk r (most + 1)).toNat (nx r) []).2
theorem textGo_len : ∀ (k : Nat) (r : Rd) (out : List Int), (textGo k r out).1.length = out.length + k := by
 intro k
 induction k with
 | zero => intro r out; rfl
 | succ k ih => intro r out; simp only [textGo]; rw [ih]; simp; omega
theorem textGo_rd : ∀ (k : Nat) (r : Rd) (out : List Int), (textGo k r out).2 = (r.1, r.2 + 2 * k) := by
 intro k
 induction k with
 | zero => intro r out; simp [textGo]
 | succ k ih => intro r out; simp only [textGo]; rw [ih]; simp [nx]; omega
theorem textV_len {r : Rd} {m most : Int} (h : ROk r m) (hm : 0 ≤ m) (h0 : 0 ≤ most) : ((textV r most).length : Int) ≤ most := by
 unfold textV ofBytes
 rw [List.length_map, textGo_len]
 have := pk_bd h hm (n := most + 1) (by omega)
 simp
 omega
theorem textR_ok {r : Rd} {m m' most : Int} (h : ROk r m) (hm : 0 ≤ m) (h0 : 0 ≤ most) (hm' : m' + 1 + 2 * most ≤ m) : ROk (textR r most) m' := by
 unfold textR
 rw [textGo_rd]
 have := pk_bd h hm (n := most + 1) (by omega)
 have h0 := h.p0
 have h1 := h.p1
 refine ⟨h.b, h.len, ?_, ?_⟩ <;> simp only [nx] <;> omega
end Go.Sx

namespace Go.Sx
open Go Go.RowKit
theorem rowAt_off {P : Program} {fits : TypeId → Bool} : ∀ {d : Nat} {e : TypeId} {count off n : Nat}, rowAt P fits d e count off n = true → off ≤ count * P.cellsOf e := by
 intro d e count off n h
 cases d with
 | zero => simp [rowAt] at h
 | succ d =>
  unfold rowAt at h
  simp only at h
  split at h
  ·cases h
  ·rename_i hs
   have hm := Nat.div_add_mod off (P.cellsOf e)
   have hlt := Nat.mod_lt off (Nat.pos_of_ne_zero hs)
   rcases Bool.or_eq_true _ _ ▸ h with h1 | h1
   ·simp only [Bool.and_eq_true, beq_iff_eq, decide_eq_true_eq] at h1
    have h2 : off / P.cellsOf e ≤ count := by omega
    have h3 := Nat.mul_le_mul_right (P.cellsOf e) h2
    rw [Nat.mul_comm (off / P.cellsOf e)] at h3
    omega
   ·simp only [Bool.and_eq_true, decide_eq_true_eq] at h1
    have h2 : off / P.cellsOf e + 1 ≤ count := by omega
    have h3 := Nat.mul_le_mul_right (P.cellsOf e) h2
    rw [Nat.add_mul, Nat.one_mul, Nat.mul_comm (off / P.cellsOf e)] at h3
    omega
theorem has_off {P : Program} {w : World} {r : Reach} {base : Nat} {a : Addr} {e : TypeId} {n : Nat} {k : IntKind} (he : P.underlying e = some (.int k)) (h : w.has P r base a e n) : a.spot = none ∧ ∃ C t fz, w.heap[a.block]? = some (.cells C t fz) ∧ a.off ≤ C.size := by
 obtain ⟨_, hs, row, cells, hsh, hl⟩ := h
 refine ⟨hs, ?_⟩
 unfold World.shape? at hsh
 split at hsh
 ·rename_i C t fz hh
  cases hsh
  refine ⟨C, row, fz, hh, ?_⟩
  unfold liesAt at hl
  split at hl
  ·cases hl
  ·simp only [he, Bool.or_false] at hl
   exact Nat.le_trans (rowAt_off hl) (Nat.div_mul_le_self _ _)
 ·cases hsh
def IsRow (w : World) (a : Option Addr) (len cap : Nat) (zs : List Int) : Prop :=
 (a = none ∧ len = 0 ∧ cap = 0 ∧ zs = []) ∨
 ∃ x, a = some x ∧ len ≤ cap ∧ cap ≤ maxL ∧ zs.length = cap ∧ (∀ i, i < zs.length → w.cell? (x.add i) = some (.int .u8 (zs.getD i 0))) ∧ (∀ n ∈ zs, (Lit.int .u8 n).wf = true) ∧ x.spot = none ∧ ∃ C t fz, w.heap[x.block]? = some (.cells C t fz) ∧ x.off ≤ C.size
theorem wf_u8 {n : Int} (h : (Lit.int .u8 n).wf = true) : inR .u8 n := by
 simp only [Lit.wf, Bool.and_eq_true, decide_eq_true_eq] at h
 exact h
end Go.Sx

namespace Go.Sx
open Go Go.RowKit
def perG (w : World) : Gh := ⟨fun _ => .bool false, fun b => if b < w.heap.size then .per else .no⟩
def ArgIn (w : World) (te : TE) (v : Value) : Prop := v = mkV te.ag v.cells.toList ∧ (te.ag = false → v.cells.toList.length = 1) ∧ ∃ y, ∀ id p, Tr (perG w) w te.T pF id p v.cells.toList y
theorem mkV_one {v : Value} (h : ∀ cs, v ≠ .agg cs) : v = mkV false v.cells.toList ∧ v.cells.toList.length = 1 := by
 have hv : v.cells = #[v] := by cases v <;> first | rfl | exact absurd rfl (h _)
 exact ⟨by simp [mkV, hv], by simp [hv]⟩
theorem arg_in {P : Program} {tt : TT} {w : World} {H : Type} {enc : TypeId × Value → H} (T : TtOk P tt) (hby : (tt.all fun te => Nat.blt 0 te.by_) = true) {t : TypeId} {te : TE} (hnp : noPtT tt 30 t = true) (ht : ttOf tt t = some te) {v : Value} {r : Reach} {base : Nat} (hval : Value.okWide P w r base t v)
  {d : DataW H} {p : List MemPlace} (hd : DataW.Trod enc P w 0 (fun _ => true) true t v d p) (hwt : ∀ n ∈ d.weights P t, n ≤ reachBytes) : ArgIn w te v := by
 obtain ⟨fuel, hf⟩ := hd
 have htr := tr_of_trod (G := perG w) T hby (fun b hb => by simp [perG, hb]) fuel 30 t te _ _ hnp ht hf hwt
 obtain ⟨dd, hdd, hdi⟩ := und_at T ht
 obtain ⟨hok, _, _⟩ := T.at ht
 have hag := hok.ag
 rw [← hdi] at hag
 refine (fun h => ⟨h.1, h.2, htr⟩ : (v = mkV te.ag v.cells.toList ∧ (te.ag = false → v.cells.toList.length = 1)) → _) ?_
 have key : te.ag = false → (∀ cs, v ≠ .agg cs) → v = mkV te.ag v.cells.toList ∧ (te.ag = false → v.cells.toList.length = 1) := fun h h2 => by
  rw [h]; exact ⟨(mkV_one h2).1, fun _ => (mkV_one h2).2⟩
 unfold Value.okWide at hval
 rw [hdd] at hval
 cases dd with
 | struct fs =>
  obtain ⟨cs, rfl, _⟩ := hval
  have : te.ag = true := hag
  rw [this]; exact ⟨by simp [mkV, Value.cells], fun h => by cases h⟩
 | array n e =>
  obtain ⟨cs, rfl, _⟩ := hval
  have : te.ag = true := hag
  rw [this]; exact ⟨by simp [mkV, Value.cells], fun h => by cases h⟩
 | _ =>
  refine key hag fun cs hc => ?_
  subst hc
  simp only [Cell.okWide, hdd, Cell.ok] at hval
def valIns : List TE → List Mode
 | [] => []
 | te :: r => .val te.ag te.T pF :: valIns r
def ArgsIn (w : World) : List TE → List Value → Prop
 | [], vs => vs = []
 | te :: r, vs => ∃ v vs', vs = v :: vs' ∧ ArgIn w te v ∧ ArgsIn w r vs'
theorem args_ok {w : World} : ∀ {tes : List TE} {k : Nat} {vs : List Value}, ArgsIn w tes vs → ∃ x, ArgsOk (perG w) w k (valIns tes) x vs := by
 intro tes
 induction tes with
 | nil => intro k vs h; exact ⟨(), h⟩
 | cons te r ih =>
  intro k vs h
  obtain ⟨v, vs', rfl, ⟨h1, h2, y, h3⟩, h4⟩ := h
  obtain ⟨x, hx⟩ := ih (k := k + 1) h4
  exact ⟨(y, x), v, vs', rfl, ⟨noO_p te.T, _, h1, h2, h3 default []⟩, hx⟩
theorem amb_mk {P : Program} {w : World} (he : ErrOk (perG w).g w) (h : ∀ nm Q, (nm, Q) ∈ ambTab → ∀ b, P.globalNamed nm = some b → ∃ C t fz, w.heap[b]? = some (.cells C t fz) ∧ Q C.toList) : Amb P (perG w).g w := by
 refine ⟨?_, he⟩
 intro nm Q hm b hb
 obtain ⟨C, t, fz, h1, h2⟩ := h nm Q hm b hb
 have hlt : b < w.heap.size := by
  rcases Nat.lt_or_ge b w.heap.size with h | h
  ·exact h
  ·rw [Array.getElem?_eq_none h] at h1; cases h1
 exact ⟨.inr (by simp [perG, hlt]), C, t, fz, h1, h2⟩
theorem var_block {P : Program} {w : World} {nm : String} {cs : Array Value} {b : Nat} (hb : P.globalNamed nm = some b) (h : w.var? P nm = some cs) : ∃ C t fz, w.heap[b]? = some (.cells C t fz) ∧ C = cs := by
 unfold World.var? at h
 rw [hb] at h
 simp only [Option.bind_some] at h
 split at h
 ·rename_i C t fz hh
  cases h
  exact ⟨_, _, _, hh, rfl⟩
 ·cases h
theorem shaped_int {P : Program} {w : World} {g : Nat} {t : TypeId} {zero : Array Value} {k : IntKind}
  (h : w.ShapedOpen P) (hg : g < P.globals.size) (h0 : ((begin P (fun _ _ => 0) default).world.heap[g]?).bind Obj.row? = some (zero, t)) (hz : zero.size = 1)
  (hb : P.buildable t = true) (hc : P.cellTypes P.depth t = some [t]) (hu : P.underlying t = some (.int k)) : ∃ C t fz, w.heap[g]? = some (.cells C t fz) ∧ ∃ m, C.toList = [.int k m] := by
 obtain ⟨m, hm⟩ := Proofs.cell_of_shapedOpen_int h hg h0 hz hb hc hu
 obtain ⟨cs, hh, hs, _⟩ := h.1 g zero t hg h0
 refine ⟨cs, t, (0, 0), hh, m, ?_⟩
 have h1 : cs.toList.length = 1 := by rw [Array.length_toList]; omega
 have h2 : cs[0]? = some (.int k m) := by simpa [World.cell?, hh] using hm
 match hl : cs.toList, h1 with
 | [v], _ =>
  have : cs.toList[0]? = some (.int k m) := by rw [Array.getElem?_toList]; exact h2
  rw [hl] at this
  simpa using this
theorem returns_laid_shaped {H : Type} {enc : TypeId × Value → H} {a : Assume} {C : Checked} {os : Os} {f : FuncId} {fn : Func} {s : ChangeSpec} {conds : List PathCond} {apart fresh handsOn again : Bool} {X : World → Array Value → Prop}
  (hX : ∀ (w w' : World) (args : Array Value), w.heap = w'.heap → X w args → X w' args)
  (own : ownKnob C.prog.godebug = none) (started : os.Started) (noInit : C.prog.inits.idxOf? f = none) (hfn : C.prog.funcs[f]? = some fn)
  (witness : ∃ (w : World) (tape : Tape) (i : Input), w.os = os ∧ (w.forCall tape i).Shaped C.prog ∧ i.vars = [] ∧ Input.okWide C.prog (w.forCall tape i) .any w.heap.size f i ∧
   ((s.pre enc C.prog fn conds apart (w.forCall tape i).memory i.args ∧ X (w.forCall tape i).memory i.args) ∧ sizedMet enc C.prog fn (OpenSpec.ofChange s) apart (w.forCall tape i).memory i.args) ∧ a.holds C.prog (lone (Frame.enter C.prog f i.args .normal) [] (w.forCall tape i)))
  (contract : ∀ (W : World) (base : Nat) (args : Array Value) (ds gs : List (DataW H)) (before : List MemPlace),
   (∀ (j : Nat) t v, fn.params[j]? = some t → args[j]? = some v → Value.okWide C.prog W .any base t v) →
   DataW.Whole enc C.prog fn.params.toList s.vars apart W args.toList ds gs before →
   conds.all (PathCond.test C.prog ⟨fn.params.toList, ds, s.plain.varTypes C.prog, gs⟩) = true →
   (DataW.weightsEach C.prog (fn.params.toList ++ s.plain.varTypes C.prog) (ds ++ gs)).all (· ≤ reachBytes) = true → X W args → W.ShapedOpen C.prog →
   a.holds C.prog (lone (Frame.enter C.prog f args .normal) [] W) →
   Calls C.prog f args W fun e W' => ∃ v, e = .returned v ∧ s.post enc C.prog fn apart fresh handsOn again W args v W') :
  ReturnsInHanded a C os f .any (fun w args => (s.pre enc C.prog fn conds apart w args ∧ X w args) ∧ sizedMet enc C.prog fn (OpenSpec.ofChange s) apart w args) (s.post enc C.prog fn apart fresh handsOn again) := by
 refine returnsInHanded_of_calls own started noInit witness ?_
 intro w tape i _ hsh _ hok hpre hholds
 obtain ⟨_, _, _, fn', hfn', _, _, _, _, hval⟩ := hok
 have e : fn' = fn := Option.some.inj (hfn'.symm.trans hfn)
 subst e
 obtain ⟨⟨⟨ds, gs, before, hw, hc⟩, hx⟩, hz⟩ := hpre
 have hw' := DataW.Whole.of_heap (w' := w.forCall tape i) (by rfl) hw
 refine (contract (w.forCall tape i) w.heap.size i.args ds gs before hval hw' hc (hz.weights hw) (hX _ _ _ (by rfl) hx) hsh hholds).mono fun e W' ⟨v, he, hp⟩ => ?_
 subst he
 exact ChangeSpec.post_blind hp
theorem law_callsN {P : Program} {f : FuncId} {c : Ctr} {tes : List TE} (hc : c = ⟨f, valIns tes, fun _ => True, fun _ => (sBool true, [])⟩) (h : CtrOk P c) {fn : Func} {body : Code} (hf : P.funcs[f]? = some fn) (hb : fn.body = some body) (hn : (fn.name == "runtime.NumGoroutine") = false)
  (args : List Value) (w : World) (ham : Amb P (perG w).g w) (hw : ArgsIn w tes args) : Calls P f args.toArray w fun e w' => e = .returned (.bool true) ∧ Below w.heap.size w w' := by
 subst hc
 obtain ⟨x, hargs⟩ := args_ok (k := 0) hw
 have hbnd : ∀ b, (perG w).g b ≠ .no → b < w.heap.size := fun b hb => by
  by_cases h : b < w.heap.size
  ·exact h
  ·exact absurd (by simp [perG, h]) hb
 obtain ⟨n, w1, hrun, hres⟩ := h (perG w) w _ _ hbnd ham hargs trivial
 have hrun' : (callFunc f args.toArray).run P w = .ok (.enter f args.toArray) w := by
  have hn' : ¬ fn.name = "runtime.NumGoroutine" := by simpa using hn
  simp [callFunc, hf, hn', hb]
 have heq : (Result.ok n w1 : Result Next) = .ok (.enter f args.toArray) w := hrun.symm.trans hrun'
 injection heq with e1 e2
 subst e1; subst e2
 rcases hres with ⟨v, hv, _⟩ | ⟨_, hcalls⟩ | ⟨row, as_, hv, _⟩
 ·cases hv
 ·refine hcalls.mono ?_
  intro e w' he
  cases e with
  | returned v =>
   obtain ⟨G', hch, _, _, hm, _⟩ := he
   refine ⟨by rw [hm.boolV], hch.os, hch.tape, hch.output, hch.size, fun k hk => ?_⟩
   exact (hch.pb.per k (by simp [perG, hk])).2
  | panicked c => exact he.elim
  | outgrown => exact he.elim
 ·cases hv
theorem vars_after {H : Type} {enc : TypeId × Value → H} {P : Program} {W W' : World} {n : String} {g t : Nat} {csv : Array Value} {fuel : Nat} {d : DataW H} {p : List MemPlace} {ms : Array (String × TypeId)} {x : Value}
  (hg : P.globalNamed n = some g) (ht : (P.globals[g]?).map (·.type) = some t) (hv : W.var? P n = some csv) (hd : DataW.trod enc P W 0 (fun _ => true) true fuel t csv.toList = some (d, p)) (bel : Below W.heap.size W W')
  (hi : P.underlying t = some (.interface ms)) (hx : csv = #[x]) (ix : IsIface x) : DataW.TrodVars enc P W' (fun b => decide (b < W.heap.size)) [n] [d] (MemPlace.row ⟨g, 0, none⟩ csv.size ++ []) := by
 subst hx
 cases fuel with
 | zero => simp [DataW.trod] at hd
 | succ m =>
  rw [show (#[x] : Array Value).toList = [x] from rfl, trod_held hi ix m] at hd
  cases hd
  have hv' : W'.var? P n = some #[x] := by
   rw [← hv]
   unfold World.var?
   rw [hg]
   simp only [Option.bind_some]
   rw [bel.block g (by
    unfold World.var? at hv
    rw [hg] at hv
    simp only [Option.bind_some] at hv
    rcases Nat.lt_or_ge g W.heap.size with h | h
    ·exact h
    ·rw [Array.getElem?_eq_none h] at hv; cases hv)]
  exact Go.ChangeShapes.trodVars_mk1 hg ht hv' (trod_held hi ix m)
theorem err_mk {w : World} {C : Array Value} {t : TypeId} {fz : Nat × Nat} {A : Addr} (h : w.heap[errB]? = some (.cells C t fz)) (h2 : C.toList = [.iface errT (.pointer (some A))]) : ErrOk (perG w).g w := by
 have hlt : errB < w.heap.size := by
  rcases Nat.lt_or_ge errB w.heap.size with h' | h'
  ·exact h'
  ·rw [Array.getElem?_eq_none h'] at h; cases h
 exact ⟨by simp [perG, hlt], C, t, fz, A, h, h2⟩
end Go.Sx

namespace Go.Sx
open Go
set_option maxRecDepth 100000
set_option linter.unusedVariables false
set_option linter.unusedSimpArgs false
abbrev T_Place : Ty := (.pr (.int .i64) (.int .i64))
abbrev T_Ptr : Ty := (.pr (.int .i64) (.pr (.int .i64) (.sl T_Place)))
abbrev T_Vol : Ty := (.pr .str (.sl T_Ptr))
abbrev T_Root : Ty := (.pr (.int .i64) (.sl T_Vol))
abbrev T_rootReader : Ty := (.pr (.sl .str) .er)
abbrev T_l6Rd : Ty := (.pr (.sl (.int .u8)) (.int .i64))
def tt : TT := [⟨2, (.int .i64), false, 0, 0, 8, []⟩, ⟨3, (.int .i64), false, 0, 0, 8, []⟩, ⟨4, .bool, false, 0, 0, 1, []⟩, ⟨5, (.int .u8), false, 0, 0, 1, []⟩, ⟨6, (.int .u8), false, 0, 0, 1, []⟩, ⟨7, (.pr (.int .i64) (.pr (.int .i64) (.pr .bool (.int .u8)))), true, 4, 0, 24, [2, 3, 4, 6]⟩, ⟨8, (.pr (.int .i64) (.pr (.int .i64) (.pr .bool (.int .u8)))), true, 4, 0, 24, [2, 3, 4, 6]⟩, ⟨9, .str, false, 0, 0, 16, []⟩, ⟨10, .str, false, 0, 0, 16, []⟩, ⟨11, .str, false, 0, 0, 16, []⟩, ⟨12, (.int .u64), false, 0, 0, 8, []⟩, ⟨13, (.pr .str (.int .u64)), true, 2, 0, 24, [9, 12]⟩, ⟨14, (.pr .str (.int .u64)), true, 2, 0, 24, [9, 12]⟩, ⟨21, (.int .i32), false, 0, 0, 4, []⟩, ⟨22, (.sl (.int .u8)), false, 0, 5, 24, []⟩, ⟨25, (.sl T_Vol), false, 0, 47, 24, []⟩, ⟨26, (.pr (.int .i64) (.sl T_Vol)), true, 2, 0, 32, [3, 25]⟩, ⟨27, T_Root, true, 2, 0, 32, [3, 25]⟩, ⟨34, .pt, false, 0, 0, 8, []⟩, ⟨40, (.sl .str), false, 0, 9, 24, []⟩, ⟨45, (.sl T_Ptr), false, 0, 50, 24, []⟩, ⟨46, (.pr .str (.sl T_Ptr)), true, 2, 0, 40, [9, 45]⟩, ⟨47, T_Vol, true, 2, 0, 40, [9, 45]⟩, ⟨48, (.sl T_Place), false, 0, 66, 24, []⟩, ⟨49, (.pr (.int .i64) (.pr (.int .i64) (.sl T_Place))), true, 3, 0, 40, [3, 3, 48]⟩, ⟨50, T_Ptr, true, 3, 0, 40, [3, 3, 48]⟩, ⟨52, .pt, false, 0, 0, 8, []⟩, ⟨55, .er, false, 0, 0, 16, []⟩, ⟨56, (.pr (.sl .str) .er), true, 2, 0, 40, [40, 55]⟩, ⟨57, T_rootReader, true, 2, 0, 40, [40, 55]⟩, ⟨65, (.pr (.int .i64) (.int .i64)), true, 2, 0, 16, [3, 3]⟩, ⟨66, T_Place, true, 2, 0, 16, [3, 3]⟩, ⟨69, (.pr (.sl (.int .u8)) (.int .i64)), true, 2, 0, 32, [22, 3]⟩, ⟨70, T_l6Rd, true, 2, 0, 32, [22, 3]⟩, ⟨75, (.sl (.int .i64)), false, 0, 3, 24, []⟩, ⟨111, (.sl .er), false, 0, 55, 24, []⟩, ⟨132, (.int .u64), false, 0, 0, 8, []⟩, ⟨133, (.int .i64), false, 0, 0, 8, []⟩, ⟨139, (.arr 24 (.int .u8)), true, 0, 5, 24, []⟩, ⟨140, (.int .u64), false, 0, 0, 8, []⟩, ⟨146, (.arr 256 (.int .u8)), true, 0, 5, 256, []⟩, ⟨147, (.pr (.int .u8) (.int .u8)), true, 2, 0, 2, [5, 5]⟩, ⟨148, (.pr (.int .u8) (.int .u8)), true, 2, 0, 2, [5, 5]⟩, ⟨149, (.arr 16 (.pr (.int .u8) (.int .u8))), true, 0, 148, 32, []⟩, ⟨150, (.int .u32), false, 0, 0, 4, []⟩, ⟨156, (.pr .str (.pr .str .er)), true, 3, 0, 48, [9, 9, 55]⟩, ⟨157, (.pr .str (.pr .str .er)), true, 3, 0, 48, [9, 9, 55]⟩, ⟨160, (.arr 20 (.int .u64)), true, 0, 140, 160, []⟩, ⟨161, (.arr 65 (.int .u8)), true, 0, 5, 65, []⟩, ⟨168, .str, true, 1, 0, 16, [9]⟩, ⟨169, .str, true, 1, 0, 16, [9]⟩, ⟨171, (.arr 32 (.int .u8)), true, 0, 5, 32, []⟩, ⟨172, (.arr 64 (.int .u8)), true, 0, 5, 64, []⟩, ⟨179, (.int .u8), false, 0, 0, 1, []⟩, ⟨180, (.int .u8), false, 0, 0, 1, []⟩, ⟨182, (.int .i32), false, 0, 0, 4, []⟩, ⟨183, (.int .i32), false, 0, 0, 4, []⟩, ⟨192, (.pr .str (.int .u8)), true, 2, 0, 24, [9, 180]⟩, ⟨193, (.pr .str (.int .u8)), true, 2, 0, 24, [9, 180]⟩, ⟨196, (.int .u16), false, 0, 0, 2, []⟩, ⟨197, (.pr (.int .i32) (.pr (.int .u16) (.pr (.int .u16) (.pr (.int .u32) (.int .u32))))), true, 5, 0, 16, [182, 196, 196, 150, 150]⟩, ⟨198, (.pr (.int .i32) (.pr (.int .u16) (.pr (.int .u16) (.pr (.int .u32) (.int .u32))))), true, 5, 0, 16, [182, 196, 196, 150, 150]⟩, ⟨199, (.sl (.pr (.int .i32) (.pr (.int .i32) (.pr (.int .i32) (.int .i32))))), false, 0, 202, 24, []⟩, ⟨200, (.int .i32), false, 0, 0, 4, []⟩, ⟨201, (.pr (.int .i32) (.pr (.int .i32) (.pr (.int .i32) (.int .i32)))), true, 4, 0, 16, [182, 183, 200, 200]⟩, ⟨202, (.pr (.int .i32) (.pr (.int .i32) (.pr (.int .i32) (.int .i32)))), true, 4, 0, 16, [182, 183, 200, 200]⟩, ⟨22, (.sl (.int .u8)), false, 0, 5, 24, []⟩]
theorem ttok : TtOk Proofs.Tryz.prog tt := by
 refine ⟨?_, by kernel_rfl⟩
 intro te h
 simp only [tt, List.mem_cons, List.not_mem_nil, or_false] at h
 rcases h with rfl | rfl | rfl | rfl | rfl | rfl | rfl | rfl | rfl | rfl | rfl | rfl | rfl | rfl | rfl | rfl | rfl | rfl | rfl | rfl | rfl | rfl | rfl | rfl | rfl | rfl | rfl | rfl | rfl | rfl | rfl | rfl | rfl | rfl | rfl | rfl | rfl | rfl | rfl | rfl | rfl | rfl | rfl | rfl | rfl | rfl | rfl | rfl | rfl | rfl | rfl | rfl | rfl | rfl | rfl | rfl | rfl | rfl | rfl | rfl | rfl | rfl | rfl | rfl | rfl | rfl | rfl <;> exact ⟨by kernel_rfl, by kernel_rfl, by kernel_rfl, by kernel_rfl⟩
def mt : MT := [(63, 66, 50), (66, 66, 0)]
theorem mtok : MtOk Proofs.Tryz.prog mt := .cons (by kernel_rfl) (.eqs (by kernel_rfl) (.nil))
end Go.Sx

namespace Go.Sx
open Go
theorem drop_at {α : Type} {l : List α} {i : Nat} (h : i < l.length) : l.drop i = l[i] :: l.drop (i + 1) := by simp
def idxFGo {α : Type} (p : α → Bool) : List α → Nat → Int
 | [], _ => -1
 | s :: r, i => if p s then (i : Int) else idxFGo p r (i + 1)
def idxF {α : Type} (p : α → Bool) (l : List α) : Int := idxFGo p l 0
theorem idxF_next {α : Type} {p : α → Bool} {l : List α} {i : Nat} {v : Int} (hlt : i < l.length) (h : idxFGo p (l.drop i) i = v) (hp : p l[i] = false) : idxFGo p (l.drop (i + 1)) (i + 1) = v := by
 rw [drop_at hlt] at h; simpa [idxFGo, hp] using h
theorem idxF_hit {α : Type} {p : α → Bool} {l : List α} {i : Nat} {v : Int} (hlt : i < l.length) (h : idxFGo p (l.drop i) i = v) (hp : p l[i] = true) : v = i := by
 rw [drop_at hlt] at h; simp [idxFGo, hp] at h; exact h.symm
theorem idxF_end {α : Type} {p : α → Bool} {l : List α} {j : Nat} {v : Int} (h : idxFGo p (l.drop l.length) j = v) : v = -1 := by
 rw [List.drop_length] at h; exact h.symm
theorem idxFGo_any {α : Type} {p : α → Bool} : ∀ {l : List α} {i : Nat}, decide (0 ≤ idxFGo p l i) = l.any p := by
 intro l
 induction l with
 | nil => intro i; rfl
 | cons s r ih =>
  intro i
  simp only [idxFGo, List.any_cons]
  by_cases hp : p s = true
  ·simp [hp]
  ·simpa [hp] using ih
theorem idxF_any {α : Type} {p : α → Bool} {l : List α} : decide (0 ≤ idxF p l) = l.any p := idxFGo_any
end Go.Sx

namespace Go.Sx
open Go
def chkGo {α : Type} (f : List α → α → Bool) : List α → List α → Bool
 | _, [] => true
 | pre, x :: r => f pre x && chkGo f (pre ++ [x]) r
def chk {α : Type} (f : List α → α → Bool) (l : List α) : Bool := chkGo f [] l
theorem chk_next {α : Type} {f : List α → α → Bool} {l : List α} {i : Nat} {v : Bool} (hlt : i < l.length) (h : chkGo f (l.take i) (l.drop i) = v) (hf : f (l.take i) l[i] = true) : chkGo f (l.take (i + 1)) (l.drop (i + 1)) = v := by
 rw [drop_at hlt] at h
 simp only [chkGo, hf, Bool.true_and] at h
 rwa [List.take_succ_eq_append_getElem hlt]
theorem chk_hit {α : Type} {f : List α → α → Bool} {l : List α} {i : Nat} {v : Bool} (hlt : i < l.length) (h : chkGo f (l.take i) (l.drop i) = v) (hf : f (l.take i) l[i] = false) : v = false := by
 rw [drop_at hlt] at h
 simp only [chkGo, hf, Bool.false_and] at h
 exact h.symm
theorem chk_end {α : Type} {f : List α → α → Bool} {l pre : List α} {v : Bool} (h : chkGo f pre (l.drop l.length) = v) : v = true := by
 rw [List.drop_length] at h; exact h.symm
theorem chkGo_iff {α : Type} {f : List α → α → Bool} : ∀ {l pre : List α}, chkGo f pre l = true ↔ ∀ i (h : i < l.length), f (pre ++ l.take i) l[i] = true := by
 intro l
 induction l with
 | nil => intro pre; simp [chkGo]
 | cons x r ih =>
  intro pre
  simp only [chkGo, Bool.and_eq_true, ih]
  constructor
  ·rintro ⟨h1, h2⟩ i hi
   cases i with
   | zero => simpa using h1
   | succ i => have := h2 i (by simpa using hi); simpa using this
  ·intro h
   have h0 := h 0 (Nat.zero_lt_succ _)
   simp only [List.take_zero, List.append_nil, List.getElem_cons_zero] at h0
   refine ⟨h0, fun i hi => ?_⟩
   have := h (i + 1) (by simpa using hi)
   simpa using this
theorem chk_iff {α : Type} {f : List α → α → Bool} {l : List α} : chk f l = true ↔ ∀ i (h : i < l.length), f (l.take i) l[i] = true := by
 unfold chk; rw [chkGo_iff]; simp
theorem any_next {α : Type} {p : α → Bool} {l : List α} {i : Nat} (hlt : i < l.length) (h : (l.take i).any p = false) (hp : p l[i] = false) : (l.take (i + 1)).any p = false := by
 rw [List.take_succ_eq_append_getElem hlt, List.any_append, h]; simp [hp]
theorem any_hit {α : Type} {p : α → Bool} {l : List α} {k i : Nat} (hk : k < i) (hlt : k < l.length) (hp : p l[k] = true) : (l.take i).any p = true := by
 rw [List.any_eq_true]
 exact ⟨l[k], List.mem_take_iff_getElem.2 ⟨k, by omega, rfl⟩, hp⟩
theorem any_hit' {α : Type} {p : α → Bool} {l : List α} {k : Nat} (hlt : k < l.length) (hp : p l[k] = true) : l.any p = true := by
 rw [List.any_eq_true]
 exact ⟨l[k], List.getElem_mem hlt, hp⟩
theorem any_end {α : Type} {p : α → Bool} {l : List α} (h : (l.take l.length).any p = false) : l.any p = false := by rwa [List.take_length] at h
theorem eqL_next {α : Type} [DecidableEq α] {a b : List α} {i : Nat} {v : Bool} (h1 : i < a.length) (h2 : i < b.length) (h : decide (a.drop i = b.drop i) = v) (he : a[i] = b[i]) : decide (a.drop (i + 1) = b.drop (i + 1)) = v := by
 rw [drop_at h1, drop_at h2] at h
 simp only [List.cons.injEq, he, true_and] at h
 exact h
theorem eqL_hit {α : Type} [DecidableEq α] {a b : List α} {i : Nat} {v : Bool} (h1 : i < a.length) (h2 : i < b.length) (h : decide (a.drop i = b.drop i) = v) (he : ¬ a[i] = b[i]) : v = false := by
 rw [drop_at h1, drop_at h2] at h
 simp only [List.cons.injEq, he, false_and, decide_false] at h
 exact h.symm
theorem eqL_end {α : Type} [DecidableEq α] {a b : List α} {v : Bool} (hl : a.length = b.length) (h : decide (a.drop a.length = b.drop a.length) = v) : v = true := by
 rw [List.drop_length, hl, List.drop_length] at h
 exact h.symm.trans (by simp)
theorem eqL_len {α : Type} [DecidableEq α] {a b : List α} (h : ¬ a.length = b.length) : decide (a = b) = false := by
 simp only [decide_eq_false_iff_not]
 exact fun e => h (by rw [e])
def catGo {α : Type} (f : α → Str) : List α → Str
 | [] => []
 | x :: r => f x ++ catGo f r
theorem cat_next {α : Type} {f : α → Str} {l : List α} {i : Nat} {o v : Str} (hlt : i < l.length) (h : o ++ catGo f (l.drop i) = v) : (o ++ f l[i]) ++ catGo f (l.drop (i + 1)) = v := by
 rw [drop_at hlt] at h
 simpa [catGo] using h
theorem cat_end {α : Type} {f : α → Str} {l : List α} {o v : Str} (h : o ++ catGo f (l.drop l.length) = v) : o = v := by
 rw [List.drop_length] at h; simpa [catGo] using h
theorem cat_len {α : Type} {f : α → Str} {m : Nat} : ∀ {l : List α}, (∀ x ∈ l, (f x).length ≤ m) → (catGo f l).length ≤ l.length * m := by
 intro l
 induction l with
 | nil => intro _; simp [catGo]
 | cons x r ih =>
  intro h
  have h1 := h x List.mem_cons_self
  have h2 := ih fun y hy => h y (List.mem_cons_of_mem _ hy)
  simp only [catGo, List.length_append, List.length_cons]
  rw [Nat.add_mul]
  omega
theorem flat_next {α β : Type} {f : α → List β} {l : List α} {i : Nat} (hlt : i < l.length) : (l.take i).flatMap f ++ f l[i] = (l.take (i + 1)).flatMap f := by
 rw [List.take_succ_eq_append_getElem hlt]; simp only [List.flatMap_append, List.flatMap_cons, List.flatMap_nil, List.append_nil]
end Go.Sx

namespace Go.Sx
open Go
abbrev Plc := Int × Int
abbrev Ptr_ := Int × Int × List Plc
abbrev Vol_ := Str × List Ptr_
abbrev Root_ := Int × List Vol_
def inV (n lo hi : Int) : Bool := decide (lo ≤ n) && decide (n ≤ hi)
def lower (c : UInt8) : Bool := decide (97 ≤ c.toNat) && decide (c.toNat ≤ 122)
def nameV (s : Str) : Bool := inV s.length 1 3 && s.all lower
def poolV (d : Int) : Bool := inV d 3 4
def noneV (p : Ptr_) : Bool := decide (p.1 = 0) && (decide (p.2.1 = 0) && decide (p.2.2.length = 0))
def mostV (d : Int) : Int := 3 * sMin 3 (d - 1)
def colsV (n : Int) : Int := (n + 3 - 1).tdiv 3
def placeV (d : Int) (a : Plc) : Bool := decide (0 ≤ a.1) && (decide (a.1 < d) && (decide (0 ≤ a.2) && decide (a.2 < 12)))
def placeF (d : Int) (pre : List Plc) (a : Plc) : Bool := placeV d a && !(pre.any fun q => decide (q.1 = a.1))
def sizeV (d : Int) (p : Ptr_) : Bool := inV p.1 1 (mostV d) && (inV p.2.1 0 1000000000 && decide ((p.2.2.length : Int) = colsV p.1 + 1))
def ptrV (d : Int) (p : Ptr_) : Bool := poolV d && (noneV p || (sizeV d p && chk (placeF d) p.2.2))
def ptrW (d : Int) (p : Ptr_) : Bool := if p.1 = 0 then decide (p.2.1 = 0) && decide (p.2.2.length = 0) else sizeV d p && chk (placeF d) p.2.2
def blksOf (l : List Vol_) : List Ptr_ := l.flatMap (·.2)
def volF (d : Int) (pre : List Vol_) (v : Vol_) : Bool := nameV v.1 && (decide (v.2.length = 3) && (!(pre.any fun w => decide (w.1 = v.1)) && v.2.all (ptrV d)))
def volsV (d : Int) (l : List Vol_) : Bool := chk (volF d) l && decide (l.length ≤ 4)
def pairsOf (l : List Ptr_) : List (Plc × Ptr_) := l.flatMap fun p => p.2.2.map fun a => (a, p)
abbrev PK : Ty := .pr (.int .i64) (.int .i64)
def ownGo : List (Plc × Ptr_) → List (Plc × Ptr_) → Bool
 | _, [] => true
 | m, (a, p) :: r => (match mget PK m a with | some q => decide (p = q) | none => true) && ownGo (mset PK m a p) r
def rootV (d : Int) (r : Root_) : Bool := poolV d && (inV r.1 0 100000 && (volsV d r.2 && ownGo [] (pairsOf (blksOf r.2))))
def meetV (p q : Ptr_) : Bool := p.2.2.any fun a => q.2.2.any fun b => decide (a = b)
def volG (pre : List Vol_) (v : Vol_) : Bool := nameV v.1 && (decide (v.2.length = 3) && !(pre.any fun w => decide (w.1 = v.1)))
def ptrG (d : Int) (pre : List Ptr_) (p : Ptr_) : Bool := ptrW d p && !(pre.any fun q => meetV p q && !decide (p = q))
def volsS (d : Int) (l : List Vol_) : Bool := chk volG l && chk (ptrG d) (blksOf l)
def rootS (d : Int) (r : Root_) : Bool := poolV d && (inV r.1 0 100000 && (decide (r.2.length ≤ 4) && volsS d r.2))
def tRoot : Str := [114, 111, 111, 116, 32]
def tVol : Str := [118, 111, 108, 32]
def tSum : Str := [115, 117, 109, 32]
def tPtr : Str := [112, 116, 114]
def tNone : Str := [110, 111, 110, 101, 10]
def itoaV (n : Int) : Str := Lib.itoa n
def wordV (a : Plc) : Str := itoaV a.1 ++ [46] ++ itoaV a.2
def wordsV (p : Ptr_) : List Str := [tPtr, itoaV p.1, itoaV p.2.1] ++ p.2.2.map wordV
def lineV (p : Ptr_) : Str := if noneV p = true then tNone else Lib.join (wordsV p) [32] ++ [10]
def volT (v : Vol_) : Str := (tVol ++ v.1 ++ [10]) ++ catGo lineV v.2
def bodyV (r : Root_) : Str := (tRoot ++ itoaV r.1 ++ [10]) ++ catGo volT r.2
def weighGo : Str → Nat → Int
 | [], _ => 0
 | c :: r, i => (c.toNat : Int) * (65536 + (i : Int) + 1) + weighGo r (i + 1)
def weighV (s : Str) : Int := weighGo s 0
def sealV (s : Str) : Str := s ++ tSum ++ itoaV (weighV s) ++ [10]
def rootT (d : Int) (r : Root_) : Str := if rootV d r = true then sealV (bodyV r) else []
end Go.Sx

namespace Go.Sx
open Go
theorem sMin_bd (d : Int) (h : 3 ≤ d ∧ d ≤ 4) : sMin 3 (d - 1) = d - 1 := by
 unfold sMin
 by_cases h4 : d - 1 < 3
 ·simp [h4]
 ·simp [h4]; omega
theorem colsV_bd {n : Int} (h0 : 0 ≤ n) (h1 : n ≤ 1000000) : 0 ≤ colsV n ∧ colsV n ≤ 1000000 := by
 unfold colsV
 have a : 0 ≤ (n + 3 - 1).tdiv 3 := Int.tdiv_nonneg (by omega) (by decide)
 have b : (n + 3 - 1).tdiv 3 = (n + 3 - 1) / 3 := Int.tdiv_eq_ediv_of_nonneg (by omega)
 omega
theorem not_any {α : Type} {p : α → Bool} {l : List α} : (!(l.any fun x => !p x)) = l.all p := by
 rw [List.all_eq_not_any_not]
def SmallV (l : List Vol_) : Prop := l.length ≤ 100 ∧ ∀ v ∈ l, v.2.length ≤ 100
theorem blks_len' : ∀ {l : List Vol_}, (∀ v ∈ l, v.2.length ≤ 100) → (blksOf l).length ≤ l.length * 100 := by
 intro l
 induction l with
 | nil => intro _; simp [blksOf]
 | cons v r ih =>
  intro h
  have h1 := h v List.mem_cons_self
  have h2 := ih fun y hy => h y (List.mem_cons_of_mem _ hy)
  simp only [blksOf, List.flatMap_cons, List.length_append, List.length_cons] at h2 ⊢
  rw [Nat.add_mul]
  omega
theorem blks_len {l : List Vol_} {i : Nat} (h : SmallV l) : (blksOf (l.take i)).length ≤ 10000 := by
 have h1 := blks_len' (l := l.take i) fun v hv => h.2 v (List.mem_of_mem_take hv)
 have h2 : (l.take i).length ≤ 100 := Nat.le_trans (List.length_take_le' _ _) h.1
 have h3 := Nat.mul_le_mul_right 100 h2
 omega
theorem blks_all {l : List Vol_} (h : SmallV l) : (blksOf l).length ≤ 10000 := by have := blks_len (i := l.length) h; rwa [List.take_length] at this
theorem volsV_small {d : Int} {l : List Vol_} (h : volsV d l = true) : SmallV l := by
 simp only [volsV, Bool.and_eq_true, chk_iff, decide_eq_true_eq] at h
 refine ⟨by omega, fun v hv => ?_⟩
 obtain ⟨i, hi, rfl⟩ := List.getElem_of_mem hv
 have h1 := h.1 i hi
 simp only [volF, Bool.and_eq_true, decide_eq_true_eq] at h1
 omega
theorem own_in {l : List Ptr_} {i : Nat} {m : List (Plc × Ptr_)} {v : Bool} (hlt : i < l.length) (h : ownGo m (pairsOf (l.drop i)) = v) : ownGo m ((l[i].2.2.drop 0).map (fun a => (a, l[i])) ++ pairsOf (l.drop (i + 1))) = v := by
 rw [drop_at hlt] at h
 simp only [pairsOf, List.flatMap_cons, List.drop_zero] at h ⊢
 exact h
theorem own_out {p : Ptr_} {r : List (Plc × Ptr_)} {m : List (Plc × Ptr_)} {v : Bool} (h : ownGo m ((p.2.2.drop p.2.2.length).map (fun a => (a, p)) ++ r) = v) : ownGo m r = v := by
 simpa using h
theorem own_none {p : Ptr_} {r : List (Plc × Ptr_)} {m : List (Plc × Ptr_)} {v : Bool} {j : Nat} (hlj : j < p.2.2.length) (h : ownGo m ((p.2.2.drop j).map (fun a => (a, p)) ++ r) = v) (hq : mget PK m p.2.2[j] = none) : ownGo (mset PK m p.2.2[j] p) ((p.2.2.drop (j + 1)).map (fun a => (a, p)) ++ r) = v := by
 rw [drop_at hlj] at h
 simp only [List.map_cons, List.cons_append, ownGo] at h
 rw [hq] at h
 simpa only [Bool.true_and] using h
theorem own_some {p q : Ptr_} {r : List (Plc × Ptr_)} {m : List (Plc × Ptr_)} {v : Bool} {j : Nat} (hlj : j < p.2.2.length) (h : ownGo m ((p.2.2.drop j).map (fun a => (a, p)) ++ r) = v) (hq : mget PK m p.2.2[j] = some q) (he : p = q) : ownGo (mset PK m p.2.2[j] p) ((p.2.2.drop (j + 1)).map (fun a => (a, p)) ++ r) = v := by
 rw [drop_at hlj] at h
 simp only [List.map_cons, List.cons_append, ownGo] at h
 rw [hq] at h
 subst he
 simpa only [decide_true, Bool.true_and] using h
theorem own_bad {p q : Ptr_} {r : List (Plc × Ptr_)} {m : List (Plc × Ptr_)} {v : Bool} {j : Nat} (hlj : j < p.2.2.length) (h : ownGo m ((p.2.2.drop j).map (fun a => (a, p)) ++ r) = v) (hq : mget PK m p.2.2[j] = some q) (he : ¬ p = q) : v = false := by
 rw [drop_at hlj] at h
 simp only [List.map_cons, List.cons_append, ownGo] at h
 rw [hq] at h
 simp only [he, decide_false, Bool.false_and] at h
 exact h.symm
theorem own_end {l : List Ptr_} {m : List (Plc × Ptr_)} {v : Bool} (h : ownGo m (pairsOf (l.drop l.length)) = v) : v = true := by
 rw [List.drop_length] at h; exact h.symm
theorem blks_pl {l : List Vol_} (h : ∀ v ∈ l, ∀ p ∈ v.2, p.2.2.length ≤ 140737488355328) : ∀ p ∈ blksOf l, p.2.2.length ≤ 140737488355328 := by
 intro p hp
 obtain ⟨v, hv, hp⟩ := List.mem_flatMap.1 hp
 exact h v hv p hp
theorem itoaV_len {n : Int} (h : inR .i64 n) : (itoaV n).length ≤ 21 := by
 rw [inR_i64] at h
 exact Lib.itoa_length_le n h.1 h.2
theorem ptrV_len {d : Int} {p : Ptr_} (h : ptrV d p = true) : p.2.2.length ≤ 4 := by
 simp only [ptrV, Bool.and_eq_true, Bool.or_eq_true] at h
 obtain ⟨h1, h2⟩ := h
 rcases h2 with h2 | h2
 ·simp only [noneV, Bool.and_eq_true, decide_eq_true_eq] at h2
  omega
 ·have hb : 3 ≤ d ∧ d ≤ 4 := by simpa [poolV, inV] using h1
  have h3 := h2.1
  simp only [sizeV, inV, Bool.and_eq_true, decide_eq_true_eq] at h3
  have hm := sMin_bd d hb
  have h4 : mostV d = 3 * (d - 1) := by unfold mostV; rw [hm]
  have h5 : colsV p.1 = (p.1 + 3 - 1) / 3 := Int.tdiv_eq_ediv_of_nonneg (by omega)
  omega
theorem wordV_len {a : Plc} (h : inR .i64 a.1 ∧ inR .i64 a.2) : (wordV a).length ≤ 43 := by
 have h1 := itoaV_len h.1
 have h2 := itoaV_len h.2
 simp only [wordV, List.length_append, List.length_cons, List.length_nil]
 omega
theorem words_next {pl : List Plc} {i : Nat} (h : i < pl.length) : List.take i (List.map wordV pl) ++ [itoaV pl[i].1 ++ 46 :: itoaV pl[i].2] = List.take (i + 1) (List.map wordV pl) := by
 have h2 : i < (pl.map wordV).length := by simpa using h
 rw [List.take_succ_eq_append_getElem h2]
 simp only [List.getElem_map, wordV, List.append_assoc, List.cons_append, List.nil_append]
theorem joinTail_len {sep : Str} {m : Nat} : ∀ {l : List Str}, (∀ x ∈ l, x.length ≤ m) → (Lib.joinTail sep l).length ≤ l.length * (sep.length + m) := by
 intro l
 induction l with
 | nil => intro _; simp [Lib.joinTail]
 | cons x r ih =>
  intro h
  have h1 := h x List.mem_cons_self
  have h2 := ih fun y hy => h y (List.mem_cons_of_mem _ hy)
  simp only [Lib.joinTail, List.map_cons, List.flatten_cons, List.length_append, List.length_cons] at h2 ⊢
  rw [Nat.add_mul]
  omega
theorem join_len {sz sm : Int} {pl : List Plc} (h1 : inR .i64 sz) (h2 : inR .i64 sm) (h3 : ∀ a ∈ pl, inR .i64 a.1 ∧ inR .i64 a.2) (h4 : pl.length ≤ 4) : (Lib.join (wordsV (sz, sm, pl)) [32]).length ≤ 290 := by
 rw [show wordsV (sz, sm, pl) = tPtr :: (itoaV sz :: itoaV sm :: pl.map wordV) from rfl, Lib.join_cons, List.length_append]
 have := joinTail_len (sep := [32]) (m := 43) (l := itoaV sz :: itoaV sm :: pl.map wordV) fun x hx => by
  rcases List.mem_cons.1 hx with rfl | hx
  ·have := itoaV_len h1; omega
  ·rcases List.mem_cons.1 hx with rfl | hx
   ·have := itoaV_len h2; omega
   ·obtain ⟨a, ha, rfl⟩ := List.mem_map.1 hx
    exact wordV_len (h3 a ha)
 simp only [List.length_cons, List.length_map, List.length_nil] at this
 simp only [tPtr, List.length_cons, List.length_nil]
 omega
def SmallR (l : List Vol_) : Prop := l.length ≤ 4 ∧ ∀ v ∈ l, v.1.length ≤ 3 ∧ v.2.length = 3 ∧ ∀ p ∈ v.2, ∃ d, ptrV d p = true
theorem rootV_small {d : Int} {r : Root_} (h : rootV d r = true) : SmallR r.2 := by
 simp only [rootV, volsV, Bool.and_eq_true, chk_iff, decide_eq_true_eq] at h
 refine ⟨by omega, fun v hv => ?_⟩
 obtain ⟨i, hi, rfl⟩ := List.getElem_of_mem hv
 have h1 := h.2.2.1.1 i hi
 simp only [volF, nameV, inV, Bool.and_eq_true, decide_eq_true_eq, List.all_eq_true] at h1
 exact ⟨by omega, by omega, fun p hp => ⟨d, h1.2.2.2 p hp⟩⟩
theorem lineV_len' {d : Int} {p : Ptr_} (h1 : inR .i64 p.1) (h2 : inR .i64 p.2.1) (h3 : ∀ a ∈ p.2.2, inR .i64 a.1 ∧ inR .i64 a.2) (h : ptrV d p = true) : (lineV p).length ≤ 300 := by
 unfold lineV
 split
 ·simp [tNone]
 ·rw [List.length_append]
  have : (Lib.join (wordsV p) [32]).length ≤ 290 := join_len h1 h2 h3 (ptrV_len h)
  simp only [List.length_cons, List.length_nil]
  omega
theorem vol_in {l : List Vol_} {i : Nat} {o v : Str} (hlt : i < l.length) (h : o ++ catGo volT (l.drop i) = v) : ((o ++ (tVol ++ l[i].1 ++ [10])) ++ catGo lineV (l[i].2.drop 0)) ++ catGo volT (l.drop (i + 1)) = v := by
 rw [drop_at hlt] at h
 rw [List.drop_zero]
 simp only [catGo, volT] at h
 simpa only [List.append_assoc] using h
theorem vol_line {l : List Ptr_} {j : Nat} {o r v : Str} (hlj : j < l.length) (h : (o ++ catGo lineV (l.drop j)) ++ r = v) : ((o ++ lineV l[j]) ++ catGo lineV (l.drop (j + 1))) ++ r = v := by
 rw [drop_at hlj] at h
 simp only [catGo] at h
 simpa only [List.append_assoc] using h
theorem vol_out {l : List Ptr_} {o r v : Str} (h : (o ++ catGo lineV (l.drop l.length)) ++ r = v) : o ++ r = v := by
 rw [List.drop_length] at h
 simpa [catGo] using h
end Go.Sx

namespace Go.Sx
open Go
theorem all_next {α : Type} {p : α → Bool} {l : List α} {i : Nat} {v : Bool} (hlt : i < l.length) (h : (l.drop i).all p = v) (hp : p l[i] = true) : (l.drop (i + 1)).all p = v := by
 rw [drop_at hlt, List.all_cons, hp, Bool.true_and] at h; exact h
theorem all_hit {α : Type} {p : α → Bool} {l : List α} {i : Nat} {v : Bool} (hlt : i < l.length) (h : (l.drop i).all p = v) (hp : p l[i] = false) : v = false := by
 rw [drop_at hlt, List.all_cons, hp, Bool.false_and] at h; exact h.symm
theorem all_end {α : Type} {p : α → Bool} {l : List α} {v : Bool} (h : (l.drop l.length).all p = v) : v = true := by
 rw [List.drop_length] at h; exact h.symm
theorem lower_t {c : UInt8} (h1 : 97 ≤ (c.toNat : Int)) (h2 : (c.toNat : Int) ≤ 122) : lower c = true := by simp [lower]; omega
theorem lower_l {c : UInt8} (h1 : (c.toNat : Int) < 97) : lower c = false := by simp [lower]; omega
theorem lower_h {c : UInt8} (h1 : 122 < (c.toNat : Int)) : lower c = false := by simp [lower]; omega
theorem placeV_no1 {d : Int} {a : Plc} (h : inV a.1 0 (d - 1) = false) : placeV d a = false := by
 simp only [inV, placeV, Bool.and_eq_false_iff, decide_eq_false_iff_not] at h ⊢
 omega
theorem placeV_no2 {d : Int} {a : Plc} (h : inV a.2 0 11 = false) : placeV d a = false := by
 simp only [inV, placeV, Bool.and_eq_false_iff, decide_eq_false_iff_not] at h ⊢
 omega
theorem placeV_yes {d : Int} {a : Plc} (h1 : inV a.1 0 (d - 1) = true) (h2 : inV a.2 0 11 = true) : placeV d a = true := by
 simp only [inV, placeV, Bool.and_eq_true, decide_eq_true_eq] at h1 h2 ⊢
 omega
theorem volG_small {l : List Vol_} (h : chk volG l = true) (h4 : l.length ≤ 4) : SmallV l := by
 refine ⟨by omega, fun v hv => ?_⟩
 obtain ⟨i, hi, rfl⟩ := List.getElem_of_mem hv
 have h1 := chk_iff.1 h i hi
 simp only [volG, Bool.and_eq_true, decide_eq_true_eq] at h1
 omega
theorem itoaV_small {n : Int} (h : 0 ≤ n) (h2 : n < 10) : itoaV n = [UInt8.ofNat (48 + n).toNat] := by
 obtain ⟨u, rfl⟩ := Int.eq_ofNat_of_zero_le h
 unfold itoaV
 rw [Lib.itoa_nonneg, Lib.decDigits_one (by omega)]
 congr 2
theorem itoaV_big {n : Int} (h : 0 ≤ n) (h2 : ¬ n < 10) : itoaV n = itoaV (n / 10) ++ [UInt8.ofNat (48 + n % 10).toNat] := by
 obtain ⟨u, rfl⟩ := Int.eq_ofNat_of_zero_le h
 unfold itoaV
 rw [Lib.itoa_nonneg, show ((u : Int) / 10) = ((u / 10 : Nat) : Int) by omega, Lib.itoa_nonneg, Lib.decDigits, dif_neg (by omega)]
 congr 3
def wordS (a : Plc) : Str := [32] ++ wordV a
theorem words_join {sz sm : Int} {pl : List Plc} : Lib.join (wordsV (sz, sm, pl)) [32] = (tPtr ++ [32] ++ itoaV sz ++ [32] ++ itoaV sm) ++ catGo wordS (pl.drop 0) := by
 rw [show wordsV (sz, sm, pl) = tPtr :: (itoaV sz :: itoaV sm :: pl.map wordV) from rfl, Lib.join_cons, List.drop_zero]
 have h : ∀ q : List Plc, Lib.joinTail [32] (q.map wordV) = catGo wordS q := by
  intro q
  induction q with
  | nil => rfl
  | cons a q ih => simp only [List.map_cons, Lib.joinTail, List.flatten_cons, catGo, wordS] at ih ⊢; rw [ih]
 rw [← h]
 simp [Lib.joinTail]
theorem ptrV_none {d : Int} {p : Ptr_} (h : ptrV d p = true) (h0 : p.1 = 0) : noneV p = true := by
 simp only [ptrV, Bool.and_eq_true, Bool.or_eq_true] at h
 rcases h.2 with h2 | h2
 ·exact h2
 ·have h3 := h2.1
  simp only [sizeV, inV, Bool.and_eq_true, decide_eq_true_eq] at h3
  omega
theorem ptrV_pos {d : Int} {p : Ptr_} (h : ptrV d p = true) (h0 : ¬ p.1 = 0) : 0 ≤ p.1 ∧ 0 ≤ p.2.1 ∧ ∀ a ∈ p.2.2, 0 ≤ a.1 ∧ 0 ≤ a.2 := by
 simp only [ptrV, Bool.and_eq_true, Bool.or_eq_true] at h
 rcases h.2 with h2 | h2
 ·simp only [noneV, Bool.and_eq_true, decide_eq_true_eq] at h2
  exact absurd h2.1 h0
 ·have h3 := h2.1
  simp only [sizeV, inV, Bool.and_eq_true, decide_eq_true_eq] at h3
  refine ⟨by omega, by omega, fun a ha => ?_⟩
  obtain ⟨i, hi, rfl⟩ := List.getElem_of_mem ha
  have h4 := chk_iff.1 h2.2 i hi
  simp only [placeF, placeV, Bool.and_eq_true, decide_eq_true_eq] at h4
  omega
theorem rootV_txg {d : Int} {r : Root_} (h : rootV d r = true) : 0 ≤ r.1 := by
 simp only [rootV, inV, Bool.and_eq_true, decide_eq_true_eq] at h
 exact h.2.1.1
theorem weigh_one {c : UInt8} {i : Nat} (h : i < 1000000) : 0 ≤ (c.toNat : Int) * (65536 + (i : Int) + 1) ∧ (c.toNat : Int) * (65536 + (i : Int) + 1) ≤ 300000000 := by
 have h1 : c.toNat < 256 := c.toNat_lt
 refine ⟨Int.mul_nonneg (by omega) (by omega), ?_⟩
 have := Int.mul_le_mul (a := (c.toNat : Int)) (b := 65536 + (i : Int) + 1) (c := 255) (d := 1065536) (by omega) (by omega) (by omega) (by omega)
 omega
theorem weigh_next {s : Str} {i : Nat} {n v : Int} (hlt : i < s.length) (h : n + weighGo (s.drop i) i = v) : (n + (s[i].toNat : Int) * (65536 + (i : Int) + 1)) + weighGo (s.drop (i + 1)) (i + 1) = v := by
 rw [drop_at hlt] at h
 simp only [weighGo] at h
 omega
theorem weigh_end {s : Str} {n v : Int} (h : n + weighGo (s.drop s.length) s.length = v) : v = n := by
 rw [List.drop_length] at h; simp only [weighGo] at h; omega
end Go.Sx

namespace Go.Sx
open Go
set_option maxRecDepth 100000
set_option linter.unusedVariables false
set_option linter.unusedSimpArgs false
set_option maxHeartbeats 2000000
def cIn : Ctr := ⟨39, [.val false TI pF, .val false TI pF, .val false TI pF], fun x => True, fun x => (sBool (inV x.1 x.2.1 x.2.2.1), [])⟩
theorem cIn_ok : CtrOk Proofs.Tryz.prog cIn := by
 have hP := (Prg.none ttok mtok)
 refine ctr_of_body hP cIn (fn := Proofs.Tryz.f39) (rts := [.tmp 6]) Proofs.Tryz.func39 rfl (by kernel_rfl) rfl rfl ?_
 rintro ⟨(n : Int), (lo : Int), (hi : Int), ⟨⟩⟩ _ _
 try dsimp only [Ty.den, Mode.den, mdens] at _
 refine ⟨rfl, ?_⟩
 refine sw_seq (rd hP 1 rfl (sw_seq ?_))
 refine sw_dec hP 2 [] 3 rfl (fun g1_3 => ?_) (fun g1_3 => ?_)
 ·refine rD hP 2 [(3, true)] rfl (sw_ret ⟨.inl rfl, _, rfl, ?_⟩)
  simp [conj] at *
  simp [inV, *]
  try omega
 ·refine rD hP 2 [(3, false)] rfl (sw_ret ⟨.inl rfl, _, rfl, ?_⟩)
  simp [conj] at *
  simp [inV, *]
  try omega
def cDisks : Ctr := ⟨58, [.val false TI pF], fun x => True, fun x => (sBool (poolV x.1), [])⟩
theorem cDisks_ok : CtrOk Proofs.Tryz.prog cDisks := by
 have hP := ((Prg.none ttok mtok).and cIn_ok)
 refine ctr_of_body hP cDisks (fn := Proofs.Tryz.f58) (rts := [.tmp 2]) Proofs.Tryz.func58 rfl (by kernel_rfl) rfl rfl ?_
 rintro ⟨(n : Int), ⟨⟩⟩ _ _
 try dsimp only [Ty.den, Mode.den, mdens] at _
 refine ⟨rfl, ?_⟩
 refine sw_seq (rd hP 1 rfl (sw_seq (rg hP 2 [] rfl ?_ ?_)))
 ·simp only [cj, cl]
  try dsimp only [Ty.den, Ty.dflt]
  repeat' apply And.intro
  all_goals first | trivial | assumption | omega | exact decide_eq_true ‹_› | exact decide_eq_false ‹_› | (simp [*]; done)
 refine sw_ret ⟨.inl rfl, _, rfl, ?_⟩
 simp [conj, poolV]
def cName : Ctr := ⟨81, [.val false .str pF], fun x => True, fun x => (sBool (nameV x.1), [])⟩
theorem cName_ok : CtrOk Proofs.Tryz.prog cName := by
 have hP := ((Prg.none ttok mtok).and cIn_ok)
 refine ctr_of_body hP cName (fn := Proofs.Tryz.f81) (rts := [.tmp 2]) Proofs.Tryz.func81 rfl (by kernel_rfl) rfl rfl ?_
 rintro ⟨(s : Str), ⟨⟩⟩ ⟨hds, _⟩ hpre
 try dsimp only [Ty.den, Mode.den, mdens] at hpre
 refine ⟨rfl, ?_⟩
 have hml : s.length ≤ 140737488355328 := hds
 refine sw_seq (rd hP 1 rfl (sw_seq (sw_seq (rg hP 2 [] rfl ?_ ?_))))
 ·exact trivial
 refine sw_cond rfl (fun c1 => ?_) (fun c1 => ?_)
 ·refine sw_seq (rd hP 3 rfl (sw_ret ⟨.inl rfl, _, rfl, ?_⟩))
  first | (simp at c1; simp [conj, nameV, c1]; done) | (simp [gE hlt] at g6_4; simp only [conj, nameV, hin, all_hit hlt hgo (lower_l g6_4)]; rfl) | (simp [gE hlt] at c6; simp only [conj, nameV, hin, all_hit hlt hgo (lower_h c6)]; rfl) | (simp only [conj, nameV, hin, all_end hgo]; rfl)
 ·refine sw_skip (sw_seq (sw_seq (rd hP 3 rfl (sw_block (sw_loop (ι := Nat) (fun i => ⟨[.v false [.d .str pF s], .j, .j, sInt .i64 (i : Int), .j, .j, .j, .j, .j, .j, .j, .j, .j, .j, .j, .j, .j, .j, .j, .j, .j, .j, .j, .j], [], 3, []⟩) (fun i => s.length - i) (fun i => i ≤ s.length ∧ (inV s.length 1 3 = true) ∧ (s.drop i).all lower = s.all lower) 0 ⟨?_, ?_⟩ ?_)))))
  ·refine ⟨Nat.zero_le _, ?_, rfl⟩
   simpa using c1
  ·refine ent_ok rfl ?_
   first | trivial | (simp [conj]; done) | (simp [conj] at *; (try dsimp only [Ty.den, Ty.dflt] at *); omega)
  ·rintro i ⟨hi, hin, hgo⟩
   refine sw_seq (sw_seq (rd hP 4 rfl (sw_cond rfl (fun c4 => ?_) (fun c4 => ?_))))
   ·have hlt : i < s.length := by simpa using c4
    refine sw_skip (sw_seq (sw_block (sw_seq ?_)))
    refine sw_dec hP 5 [] 4 rfl (fun g6_4 => ?_) (fun g6_4 => ?_)
    ·refine rD hP 5 [(4, true)] rfl (sw_condT rfl (sw_seq (rd hP 6 rfl (sw_ret ⟨.inl rfl, _, rfl, ?_⟩))))
     first | (simp at c1; simp [conj, nameV, c1]; done) | (simp [gE hlt] at g6_4; simp only [conj, nameV, hin, all_hit hlt hgo (lower_l g6_4)]; rfl) | (simp [gE hlt] at c6; simp only [conj, nameV, hin, all_hit hlt hgo (lower_h c6)]; rfl) | (simp only [conj, nameV, hin, all_end hgo]; rfl)
    ·refine rD hP 5 [(4, false)] rfl (sw_cond rfl (fun c6 => ?_) (fun c6 => ?_))
     ·refine sw_seq (rd hP 6 rfl (sw_ret ⟨.inl rfl, _, rfl, ?_⟩))
      first | (simp at c1; simp [conj, nameV, c1]; done) | (simp [gE hlt] at g6_4; simp only [conj, nameV, hin, all_hit hlt hgo (lower_l g6_4)]; rfl) | (simp [gE hlt] at c6; simp only [conj, nameV, hin, all_hit hlt hgo (lower_h c6)]; rfl) | (simp only [conj, nameV, hin, all_end hgo]; rfl)
     ·refine sw_skip (rd hP 6 rfl (⟨i + 1, ?_, ?_, ent_ok rfl ?_⟩))
      ·simp [gE hlt] at g6_4 c6
       exact ⟨hlt, hin, all_next hlt hgo (lower_t g6_4 c6)⟩
      ·omega
      ·simp [conj]
   ·obtain rfl : i = s.length := by simp at c4; omega
    refine sw_exit (sw_seq (rd hP 5 rfl (sw_ret ⟨.inl rfl, _, rfl, ?_⟩)))
    first | (simp at c1; simp [conj, nameV, c1]; done) | (simp [gE hlt] at g6_4; simp only [conj, nameV, hin, all_hit hlt hgo (lower_l g6_4)]; rfl) | (simp [gE hlt] at c6; simp only [conj, nameV, hin, all_hit hlt hgo (lower_h c6)]; rfl) | (simp only [conj, nameV, hin, all_end hgo]; rfl)
def cColsS : Ctr := ⟨63, [.val false TI pF], fun x => 0 ≤ x.1 ∧ x.1 ≤ 1000000, fun x => (sInt .i64 (colsV x.1), [])⟩
theorem cColsS_ok : CtrOk Proofs.Tryz.prog cColsS := by
 have hP := (Prg.none ttok mtok)
 refine ctr_of_body hP cColsS (fn := Proofs.Tryz.f63) (rts := [.tmp 2]) Proofs.Tryz.func63 rfl (by kernel_rfl) rfl rfl ?_
 rintro ⟨(n : Int), ⟨⟩⟩ _ ⟨h0, h1⟩
 try dsimp only [Ty.den, Mode.den, mdens] at h0
 try dsimp only [Ty.den, Mode.den, mdens] at h1
 refine ⟨rfl, ?_⟩
 have hq := colsV_bd h0 h1
 unfold colsV at hq
 refine sw_seq (rd hP 1 rfl (sw_seq (rg hP 2 [] rfl ?_ ?_)))
 ·simp only [cj, cl]
  try dsimp only [Ty.den, Ty.dflt]
  repeat' apply And.intro
  all_goals first | rfl | omega | assumption | trivial
 refine sw_ret ⟨.inl rfl, _, rfl, ?_⟩
 simp [conj, colsV]
def cPtrS : Ctr := ⟨82, [.val false TI pF, .val true T_Ptr (.all .b)], fun x => poolV x.1 = true, fun x => (sBool (ptrW x.1 x.2.1), [])⟩
theorem cPtrS_ok : CtrOk Proofs.Tryz.prog cPtrS := by
 have hP := (((Prg.none ttok mtok).and cIn_ok).and cColsS_ok)
 refine ctr_of_body hP cPtrS (fn := Proofs.Tryz.f82) (rts := [.tmp 4]) Proofs.Tryz.func82 rfl (by kernel_rfl) rfl rfl ?_
 rintro ⟨(d : Int), ⟨(sz : Int), (sm : Int), (pl : List Plc)⟩, ⟨⟩⟩ ⟨_, ⟨_, _, hpl0⟩, _⟩ hpre
 try dsimp only [Ty.den, Mode.den, mdens] at hpre
 refine ⟨rfl, ?_⟩
 replace hpre : poolV d = true := hpre
 have hml : pl.length ≤ 140737488355328 := hpl0.1
 have hb : 3 ≤ d ∧ d ≤ 4 := by simpa [poolV, inV] using hpre
 have hmm := sMin_bd d hb
 have hmv : mostV d = 3 * (d - 1) := by unfold mostV; rw [hmm]
 refine sw_seq (rd hP 1 rfl (sw_seq (sw_seq (rd hP 2 rfl (sw_cond rfl (fun c1 => ?_) (fun c1 => ?_))))))
 ·replace c1 : sz = 0 := of_decide_eq_true c1
  refine sw_seq ?_
  refine sw_dec hP 3 [] 3 rfl (fun g2_3 => ?_) (fun g2_3 => ?_)
  ·replace g2_3 : sm = 0 := of_decide_eq_true g2_3
   refine rg hP 3 [(3, true)] rfl ?_ ?_
   ·simp only [cj, cl]
    try dsimp only [Ty.den, Ty.dflt]
    repeat' apply And.intro
    all_goals first | trivial | assumption | omega | exact decide_eq_true ‹_› | exact decide_eq_false ‹_› | (simp [*]; done)
   refine sw_ret ⟨.inl rfl, _, rfl, ?_⟩
   simp [conj, ptrW, c1, *]
   try omega
  ·replace g2_3 : ¬ sm = 0 := of_decide_eq_false g2_3
   refine rg hP 3 [(3, false)] rfl ?_ ?_
   ·simp only [cj, cl]
    try dsimp only [Ty.den, Ty.dflt]
    repeat' apply And.intro
    all_goals first | trivial | assumption | omega | exact decide_eq_true ‹_› | exact decide_eq_false ‹_› | (simp [*]; done)
   refine sw_ret ⟨.inl rfl, _, rfl, ?_⟩
   simp [conj, ptrW, c1, *]
   try omega
 ·replace c1 : ¬ sz = 0 := of_decide_eq_false c1
  refine sw_skip (sw_seq (sw_seq ?_))
  refine sw_dec hP 3 [] 8 rfl (fun g3_8 => ?_) (fun g3_8 => ?_)
  ·have k8 : inV sz 1 (mostV d) = false := by have h : (!inV sz 1 (mostV d)) = true := g3_8; simpa using h
   have hsz : sizeV d ((sz, sm, pl) : Ptr_) = false := by simp [sizeV, k8]
   refine rg hP 3 [(8, true)] rfl ?_ ?_
   ·simp only [cj, cl]
    try dsimp only [Ty.den, Ty.dflt]
    repeat' apply And.intro
    all_goals first | trivial | assumption | omega | (show 0 ≤ sz; omega) | (show sz ≤ 1000000; omega) | (show _ ≤ mostV d; omega) | (show mostV d ≤ _; omega) | exact g3_8 | exact g3_14
   refine sw_condT rfl (sw_seq (rd hP 4 rfl (sw_ret ⟨.inl rfl, _, rfl, ?_⟩)))
   simp [conj, ptrW, c1, hsz]
  ·have k8 : inV sz 1 (mostV d) = true := by have h : (!inV sz 1 (mostV d)) = false := g3_8; simpa using h
   have hs1 : 1 ≤ sz ∧ sz ≤ mostV d := by simpa [inV] using k8
   have hcb := colsV_bd (n := sz) (by omega) (by omega)
   refine sw_dec hP 3 [(8, false)] 14 rfl (fun g3_14 => ?_) (fun g3_14 => ?_)
   ·have k14 : inV sm 0 1000000000 = false := by have h : (!inV sm 0 1000000000) = true := g3_14; simpa using h
    have hsz : sizeV d ((sz, sm, pl) : Ptr_) = false := by simp [sizeV, k14]
    refine rg hP 3 [(8, false), (14, true)] rfl ?_ ?_
    ·simp only [cj, cl]
     try dsimp only [Ty.den, Ty.dflt]
     repeat' apply And.intro
     all_goals first | trivial | assumption | omega | (show 0 ≤ sz; omega) | (show sz ≤ 1000000; omega) | (show _ ≤ mostV d; omega) | (show mostV d ≤ _; omega) | exact g3_8 | exact g3_14
    refine sw_condT rfl (sw_seq (rd hP 4 rfl (sw_ret ⟨.inl rfl, _, rfl, ?_⟩)))
    simp [conj, ptrW, c1, hsz]
   ·have k14 : inV sm 0 1000000000 = true := by have h : (!inV sm 0 1000000000) = false := g3_14; simpa using h
    refine rg hP 3 [(8, false), (14, false)] rfl ?_ ?_
    ·simp only [cj, cl]
     try dsimp only [Ty.den, Ty.dflt]
     repeat' apply And.intro
     all_goals first | trivial | assumption | omega | (show 0 ≤ sz; omega) | (show sz ≤ 1000000; omega) | (show _ ≤ mostV d; omega) | (show mostV d ≤ _; omega) | exact g3_8 | exact g3_14
    refine sw_cond rfl (fun c3 => ?_) (fun c3 => ?_)
    ·have hsz : sizeV d ((sz, sm, pl) : Ptr_) = false := by
       have h : (!decide ((pl.length : Int) = colsV sz + 1)) = true := c3
       simp [sizeV] at h ⊢; intros; omega
     refine sw_seq (rd hP 4 rfl (sw_ret ⟨.inl rfl, _, rfl, ?_⟩))
     simp [conj, ptrW, c1, hsz]
    ·have hsz : sizeV d ((sz, sm, pl) : Ptr_) = true := by
       have h : (!decide ((pl.length : Int) = colsV sz + 1)) = false := c3
       simp [sizeV, k8, k14] at h ⊢; omega
     refine sw_skip (sw_seq (sw_seq (rd hP 4 rfl (sw_block (sw_loop (ι := Nat) (fun i => ⟨[sInt .i64 d, .j, .j, .v false [.ptr ⟨1, 0, 0⟩ 0], .j, sInt .i64 (i : Int), .j, .j, .j, .j, .j, .j, .j, .j, .j, .j, .j, .j, .j, .j, .j, .j, .j, .j, .j, .j, .j, .j, .j, .j, .j, .j, .j, .j, .j, .j, .j, .j, .j, .j, .j, .j, .j, .j, .j, .j, .j, .j, .j, .j, .j, .j, .j, .j, .j, .j, .j, .j, .j, .j, .j, .j, .j, .j, .j, .j, .j, .j, .j, .j, .j, .j, .j, .j, .j, .j, .j, .j, .j, .j, .j, .j, .j, .j, .j, .j, .j, .j], [(⟨1, 0, 0⟩, .var [.d TI pF sz, .d TI pF sm, .d (.sl T_Place) (.all .b) pl])], 4, []⟩) (fun i => pl.length - i) (fun i => i ≤ pl.length ∧ chkGo (placeF d) (pl.take i) (pl.drop i) = chk (placeF d) pl) 0 ⟨?_, ?_⟩ ?_)))))
     ·exact ⟨Nat.zero_le _, rfl⟩
     ·refine ent_ok rfl ?_
      simp [conj]
     ·rintro i ⟨hi, hgo⟩
      refine sw_seq (sw_seq (rd hP 5 rfl (sw_cond rfl (fun c6 => ?_) (fun c6 => ?_))))
      ·have hlt : i < pl.length := by simpa using c6
       refine sw_skip (sw_seq (sw_block (sw_seq (sw_seq ?_))))
       refine sw_dec hP 6 [] 10 rfl (fun g8_10 => ?_) (fun g8_10 => ?_)
       ·replace g8_10 : inV pl[i].1 0 (d - 1) = false := by simpa [gE hlt] using g8_10
        have hf : placeF d (pl.take i) pl[i] = false := by simp [placeF, placeV_no1 g8_10]
        refine rg hP 6 [(10, true)] rfl ?_ ?_
        ·simp [conj, gE hlt]
         repeat' apply And.intro
         all_goals first | omega | assumption | (simp [*]; done) | trivial
        refine sw_condT rfl (sw_seq (rd hP 7 rfl (sw_ret ⟨.inl rfl, _, rfl, ?_⟩)))
        have hv := chk_hit hlt hgo hf
        simp [conj, ptrW, c1, hsz, hv]
       ·replace g8_10 : inV pl[i].1 0 (d - 1) = true := by simpa [gE hlt] using g8_10
        refine rg hP 6 [(10, false)] rfl ?_ ?_
        ·simp [conj, gE hlt]
         repeat' apply And.intro
         all_goals first | omega | assumption | (simp [*]; done) | trivial
        refine sw_cond rfl (fun c8 => ?_) (fun c8 => ?_)
        ·replace c8 : inV pl[i].2 0 11 = false := by simpa [gE hlt] using c8
         have hf : placeF d (pl.take i) pl[i] = false := by simp [placeF, placeV_no2 c8]
         refine sw_seq (rd hP 7 rfl (sw_ret ⟨.inl rfl, _, rfl, ?_⟩))
         have hv := chk_hit hlt hgo hf
         simp [conj, ptrW, c1, hsz, hv]
        ·replace c8 : inV pl[i].2 0 11 = true := by simpa [gE hlt] using c8
         have hpv : placeV d pl[i] = true := placeV_yes g8_10 c8
         refine sw_skip (sw_seq (rd hP 7 rfl (sw_block (sw_loop (ι := Nat) (fun k => ⟨[sInt .i64 d, .j, .j, .v false [.ptr ⟨1, 0, 0⟩ 0], .j, sInt .i64 (i : Int), sInt .i64 (k : Int), .j, .j, .j, .j, .j, .j, .j, .j, .j, .j, .j, .j, .j, .j, .j, .j, .j, .j, .j, .j, .j, .j, .j, .j, .j, .j, .j, .j, .j, .j, .j, .j, .j, .j, .j, .j, .j, .j, .j, .j, .j, .j, .j, .j, .j, .j, .j, .j, .j, .j, .j, .j, .j, .j, .j, .j, .j, .j, .j, .j, .j, .j, .j, .j, .j, .j, .j, .j, .j, .j, .j, .j, .j, .j, .j, .j, .j, .j, .j, .j, .j], [(⟨1, 0, 0⟩, .var [.d TI pF sz, .d TI pF sm, .d (.sl T_Place) (.all .b) pl])], 7, []⟩) (fun k => i - k) (fun k => k ≤ i ∧ (pl.take k).any (fun q : Plc => decide (q.1 = pl[i].1)) = false) 0 ⟨?_, ?_⟩ ?_))))
         ·exact ⟨Nat.zero_le _, rfl⟩
         ·refine ent_ok rfl ?_
          simp [conj]
         ·rintro k ⟨hk, hgk⟩
          refine sw_seq (sw_seq (rd hP 8 rfl (sw_cond rfl (fun c11 => ?_) (fun c11 => ?_))))
          ·have hki : k < i := by simpa using c11
           have hlk : k < pl.length := by omega
           refine sw_skip (sw_seq (sw_block (sw_seq (rg hP 9 [] rfl ?_ ?_))))
           ·simp [conj, gE hlt, gE hlk]
            repeat' apply And.intro
            all_goals first | omega | trivial
           refine sw_cond rfl (fun c13 => ?_) (fun c13 => ?_)
           ·replace c13 : (fun q : Plc => decide (q.1 = pl[i].1)) pl[k] = true := by simpa [gE hlt, gE hlk] using c13
            have hf : placeF d (pl.take i) pl[i] = false := by unfold placeF; rw [any_hit hki hlk c13]; simp
            refine sw_seq (rd hP 10 rfl (sw_ret ⟨.inl rfl, _, rfl, ?_⟩))
            have hv := chk_hit hlt hgo hf
            simp [conj, ptrW, c1, hsz, hv]
           ·replace c13 : (fun q : Plc => decide (q.1 = pl[i].1)) pl[k] = false := by simpa [gE hlt, gE hlk] using c13
            refine sw_skip (rd hP 10 rfl (⟨k + 1, ?_, ?_, ent_ok rfl ?_⟩))
            ·exact ⟨hki, any_next hlk hgk c13⟩
            ·omega
            ·simp [conj]
          ·obtain rfl : k = i := by simp at c11; omega
           have hf : placeF d (pl.take k) pl[k] = true := by unfold placeF; rw [hpv, hgk]; rfl
           refine sw_exit (rd hP 9 rfl (⟨k + 1, ?_, ?_, ent_ok rfl ?_⟩))
           ·exact ⟨hlt, chk_next hlt hgo hf⟩
           ·omega
           ·simp [conj]
      ·obtain rfl : i = pl.length := by simp at c6; omega
       refine sw_exit (sw_seq (rd hP 6 rfl (sw_ret ⟨.inl rfl, _, rfl, ?_⟩)))
       have hv := chk_end hgo
       simp [conj, ptrW, c1, hsz, hv]
def cMeet : Ctr := ⟨36, [.val true T_Ptr (.all .b), .val true T_Ptr (.all .b)], fun x => True, fun x => (sBool (meetV x.1 x.2.1), [])⟩
theorem cMeet_ok : CtrOk Proofs.Tryz.prog cMeet := by
 have hP := (Prg.none ttok mtok)
 refine ctr_of_body hP cMeet (fn := Proofs.Tryz.f36) (rts := [.tmp 4]) Proofs.Tryz.func36 rfl (by kernel_rfl) rfl rfl ?_
 rintro ⟨⟨(sz : Int), (sm : Int), (pl : List Plc)⟩, ⟨(sz2 : Int), (sm2 : Int), (pl2 : List Plc)⟩, ⟨⟩⟩ ⟨⟨_, _, h1⟩, ⟨_, _, h2⟩, _⟩ _
 try dsimp only [Ty.den, Mode.den, mdens] at _
 refine ⟨rfl, ?_⟩
 have hm1 : pl.length ≤ 140737488355328 := h1.1
 have hm2 : pl2.length ≤ 140737488355328 := h2.1
 refine sw_seq (rd hP 1 rfl (sw_seq (sw_seq (rd hP 2 rfl (sw_block (sw_loop (ι := Nat) (fun i => ⟨[.j, .j, .v false [.ptr ⟨1, 0, 0⟩ 0], .v false [.ptr ⟨1, 1, 0⟩ 0], .j, sInt .i64 (i : Int), .j, .j, .j, .j, .j, .j, .j, .j, .j, .j, .j, .j, .j, .j, .j, .j, .j, .j, .j, .j, .j, .j, .j, .j, .j, .j], [(⟨1, 0, 0⟩, .var [.d TI pF sz, .d TI pF sm, .d (.sl T_Place) (.all .b) pl]), (⟨1, 1, 0⟩, .var [.d TI pF sz2, .d TI pF sm2, .d (.sl T_Place) (.all .b) pl2])], 2, []⟩) (fun i => pl.length - i) (fun i => i ≤ pl.length ∧ (pl.take i).any (fun a : Plc => pl2.any fun b => decide (a = b)) = false) 0 ⟨?_, ?_⟩ ?_))))))
 ·exact ⟨Nat.zero_le _, rfl⟩
 ·refine ent_ok rfl ?_
  simp [conj]
 ·rintro i ⟨hi, hgo⟩
  refine sw_seq (sw_seq (rd hP 3 rfl (sw_cond rfl (fun c2 => ?_) (fun c2 => ?_))))
  ·have hlt : i < pl.length := by simpa using c2
   refine sw_skip (sw_seq (sw_block (sw_seq (rd hP 4 rfl (sw_block (sw_loop (ι := Nat) (fun k => ⟨[.j, .j, .v false [.ptr ⟨1, 0, 0⟩ 0], .v false [.ptr ⟨1, 1, 0⟩ 0], .j, sInt .i64 (i : Int), sInt .i64 (k : Int), .j, .j, .j, .j, .j, .j, .j, .j, .j, .j, .j, .j, .j, .j, .j, .j, .j, .j, .j, .j, .j, .j, .j, .j, .j], [(⟨1, 0, 0⟩, .var [.d TI pF sz, .d TI pF sm, .d (.sl T_Place) (.all .b) pl]), (⟨1, 1, 0⟩, .var [.d TI pF sz2, .d TI pF sm2, .d (.sl T_Place) (.all .b) pl2])], 4, []⟩) (fun k => pl2.length - k) (fun k => k ≤ pl2.length ∧ (pl2.take k).any (fun b : Plc => decide (pl[i] = b)) = false) 0 ⟨?_, ?_⟩ ?_))))))
   ·exact ⟨Nat.zero_le _, rfl⟩
   ·refine ent_ok rfl ?_
    simp [conj]
   ·rintro k ⟨hk, hgk⟩
    refine sw_seq (sw_seq (rd hP 5 rfl (sw_cond rfl (fun c5 => ?_) (fun c5 => ?_))))
    ·have hlk : k < pl2.length := by simpa using c5
     refine sw_skip (sw_seq (sw_block (sw_seq (rg hP 6 [] rfl ?_ ?_))))
     ·simp [conj, gE hlt, gE hlk]
      repeat' apply And.intro
      all_goals first | omega | trivial
     refine sw_cond rfl (fun c7 => ?_) (fun c7 => ?_)
     ·have he : (fun b : Plc => decide (pl[i] = b)) pl2[k] = true := by
        have h := c7
        simp [gE hlt, gE hlk] at h
        simp only [decide_eq_true_eq]
        exact Prod.ext h.1 h.2
      have hv : meetV ((sz, sm, pl) : Ptr_) (sz2, sm2, pl2) = true := any_hit' (p := (fun a : Plc => pl2.any fun b => decide (a = b))) hlt (any_hit' (p := (fun b : Plc => decide (pl[i] = b))) hlk he)
      refine sw_seq (rd hP 7 rfl (sw_ret ⟨.inl rfl, _, rfl, ?_⟩))
      simp [conj, hv]
     ·have he : (fun b : Plc => decide (pl[i] = b)) pl2[k] = false := by
        simp only [decide_eq_false_iff_not]
        intro e
        simp [gE hlt, gE hlk, e] at c7
      refine sw_skip (rd hP 7 rfl (⟨k + 1, ?_, ?_, ent_ok rfl ?_⟩))
      ·exact ⟨hlk, any_next hlk hgk he⟩
      ·omega
      ·simp [conj]
    ·obtain rfl : k = pl2.length := by simp at c5; omega
     have hf := any_end hgk
     refine sw_exit (rd hP 6 rfl (⟨i + 1, ?_, ?_, ent_ok rfl ?_⟩))
     ·exact ⟨hlt, any_next hlt hgo hf⟩
     ·omega
     ·simp [conj]
  ·obtain rfl : i = pl.length := by simp at c2; omega
   refine sw_exit (sw_seq (rd hP 4 rfl (sw_ret ⟨.inl rfl, _, rfl, ?_⟩)))
   have hv : meetV ((sz, sm, pl) : Ptr_) (sz2, sm2, pl2) = false := any_end hgo
   simp [conj, hv]
def cSameS : Ctr := ⟨83, [.val true T_Ptr (.all .b), .val true T_Ptr (.all .b)], fun x => True, fun x => (sBool (decide ((x.1 : Ptr_) = x.2.1)), [])⟩
theorem cSameS_ok : CtrOk Proofs.Tryz.prog cSameS := by
 have hP := (Prg.none ttok mtok)
 refine ctr_of_body hP cSameS (fn := Proofs.Tryz.f83) (rts := [.tmp 4]) Proofs.Tryz.func83 rfl (by kernel_rfl) rfl rfl ?_
 rintro ⟨⟨(sz : Int), (sm : Int), (pl : List Plc)⟩, ⟨(sz2 : Int), (sm2 : Int), (pl2 : List Plc)⟩, ⟨⟩⟩ ⟨⟨_, _, h1⟩, ⟨_, _, h2⟩, _⟩ _
 try dsimp only [Ty.den, Mode.den, mdens] at _
 refine ⟨rfl, ?_⟩
 have hm1 : pl.length ≤ 140737488355328 := h1.1
 have hm2 : pl2.length ≤ 140737488355328 := h2.1
 refine sw_seq (rd hP 1 rfl (sw_seq (sw_seq ?_)))
 refine sw_dec hP 2 [] 5 rfl (fun g1_5 => ?_) (fun g1_5 => ?_)
 ·have k5 : ¬ sz = sz2 := by simpa using g1_5
  refine rg hP 2 [(5, true)] rfl ?_ ?_
  ·simp only [cj, cl]
   try dsimp only [Ty.den, Ty.dflt]
   repeat' apply And.intro
   all_goals first | trivial | exact g1_5 | exact g1_12 | assumption
  refine sw_condT rfl (sw_seq (rd hP 3 rfl (sw_ret ⟨.inl rfl, _, rfl, ?_⟩)))
  simp [conj, Prod.ext_iff, k5]
 ·have k5 : sz = sz2 := by simpa using g1_5
  refine sw_dec hP 2 [(5, false)] 12 rfl (fun g1_12 => ?_) (fun g1_12 => ?_)
  ·have k12 : ¬ sm = sm2 := by simpa using g1_12
   refine rg hP 2 [(5, false), (12, true)] rfl ?_ ?_
   ·simp only [cj, cl]
    try dsimp only [Ty.den, Ty.dflt]
    repeat' apply And.intro
    all_goals first | trivial | exact g1_5 | exact g1_12 | assumption
   refine sw_condT rfl (sw_seq (rd hP 3 rfl (sw_ret ⟨.inl rfl, _, rfl, ?_⟩)))
   simp [conj, Prod.ext_iff, k12]
  ·have k12 : sm = sm2 := by simpa using g1_12
   refine rg hP 2 [(5, false), (12, false)] rfl ?_ ?_
   ·simp only [cj, cl]
    try dsimp only [Ty.den, Ty.dflt]
    repeat' apply And.intro
    all_goals first | trivial | exact g1_5 | exact g1_12 | assumption
   refine sw_cond rfl (fun c1 => ?_) (fun c1 => ?_)
   ·replace c1 : ¬ pl.length = pl2.length := by simp at c1; omega
    refine sw_seq (rd hP 3 rfl (sw_ret ⟨.inl rfl, _, rfl, ?_⟩))
    have hv := eqL_len c1
    replace hv : ¬ pl = pl2 := of_decide_eq_false hv
    simp [conj, Prod.ext_iff, hv]
   ·replace c1 : pl.length = pl2.length := by simp at c1; omega
    refine sw_skip (sw_seq (sw_seq (rd hP 3 rfl (sw_block (sw_loop (ι := Nat) (fun i => ⟨[.j, .j, .v false [.ptr ⟨1, 0, 0⟩ 0], .v false [.ptr ⟨1, 1, 0⟩ 0], .j, sInt .i64 (i : Int), .j, .j, .j, .j, .j, .j, .j, .j, .j, .j, .j, .j, .j, .j, .j, .j, .j, .j, .j, .j, .j, .j, .j, .j, .j, .j, .j, .j, .j, .j, .j, .j, .j, .j, .j, .j, .j, .j, .j], [(⟨1, 0, 0⟩, .var [.d TI pF sz, .d TI pF sm, .d (.sl T_Place) (.all .b) pl]), (⟨1, 1, 0⟩, .var [.d TI pF sz2, .d TI pF sm2, .d (.sl T_Place) (.all .b) pl2])], 3, []⟩) (fun i => pl.length - i) (fun i => i ≤ pl.length ∧ decide (pl.drop i = pl2.drop i) = decide (pl = pl2)) 0 ⟨?_, ?_⟩ ?_)))))
    ·exact ⟨Nat.zero_le _, rfl⟩
    ·refine ent_ok rfl ?_
     simp [conj]
    ·rintro i ⟨hi, hgo⟩
     refine sw_seq (sw_seq (rd hP 4 rfl (sw_cond rfl (fun c4 => ?_) (fun c4 => ?_))))
     ·have hlt : i < pl.length := by simpa using c4
      have hlt2 : i < pl2.length := by omega
      refine sw_skip (sw_seq (sw_block (sw_seq (rg hP 5 [] rfl ?_ ?_))))
      ·simp [conj, gE hlt, gE hlt2]
       repeat' apply And.intro
       all_goals first | omega | trivial
      refine sw_cond rfl (fun c6 => ?_) (fun c6 => ?_)
      ·replace c6 : ¬ pl[i] = pl2[i] := by intro e; simp [gE hlt, gE hlt2, e] at c6
       refine sw_seq (rd hP 6 rfl (sw_ret ⟨.inl rfl, _, rfl, ?_⟩))
       have hv := eqL_hit hlt hlt2 hgo c6
       replace hv : ¬ pl = pl2 := of_decide_eq_false hv
       simp [conj, Prod.ext_iff, hv]
      ·replace c6 : pl[i] = pl2[i] := by have h := c6; simp [gE hlt, gE hlt2] at h; exact Prod.ext h.1 h.2
       refine sw_skip (rd hP 6 rfl (⟨i + 1, ?_, ?_, ent_ok rfl ?_⟩))
       ·exact ⟨hlt, eqL_next hlt hlt2 hgo c6⟩
       ·omega
       ·simp [conj]
     ·obtain rfl : i = pl.length := by simp at c4; omega
      refine sw_exit (sw_seq (rd hP 5 rfl (sw_ret ⟨.inl rfl, _, rfl, ?_⟩)))
      have hv := eqL_end c1 hgo
      replace hv : pl = pl2 := of_decide_eq_true hv
      simp [conj, k5, k12, hv]
def cAll : Ctr := ⟨35, [.val true T_Root (.all .b)], fun x => SmallV x.1.2, fun x => (.v false [.own ⟨1, 0, 0⟩], [(⟨1, 0, 0⟩, .sl T_Ptr (.all .b) (blksOf x.1.2))])⟩
theorem cAll_ok : CtrOk Proofs.Tryz.prog cAll := by
 have hP := (Prg.none ttok mtok)
 refine ctr_of_body hP cAll (fn := Proofs.Tryz.f35) (rts := [.tmp 2]) Proofs.Tryz.func35 rfl (by kernel_rfl) rfl rfl ?_
 rintro ⟨⟨(tg : Int), (l : List Vol_)⟩, ⟨⟩⟩ _ hpre
 try dsimp only [Ty.den, Mode.den, mdens] at hpre
 refine ⟨rfl, ?_⟩
 replace hpre : SmallV l := hpre
 have hml : l.length ≤ 100 := hpre.1
 refine sw_seq (rd hP 1 rfl (sw_seq (rd hP 2 rfl (sw_seq (sw_seq (rd hP 3 rfl (sw_block (sw_loop (ι := Nat) (fun i => ⟨[.j, .v false [.ptr ⟨1, 0, 0⟩ 0], .j, .v false [.own ⟨0, 9, 0⟩], sInt .i64 (i : Int), .j, .j, .j, .j, .j, .j, .j, .j, .j, .j, .j, .j, .j, .j, .j, .j, .j], [(⟨1, 0, 0⟩, .var [.d TI pF tg, .d (.sl T_Vol) (.all .b) l]), (⟨0, 9, 0⟩, .sl T_Ptr (.all .b) (blksOf (l.take i)))], 3, []⟩) (fun i => l.length - i) (fun i => i ≤ l.length) 0 ⟨?_, ?_⟩ ?_))))))))
 ·exact Nat.zero_le _
 ·refine ent_ok rfl ?_
  simp [conj, blksOf]
 ·rintro i hi
  refine sw_seq (sw_seq (rd hP 4 rfl (sw_cond rfl (fun c3 => ?_) (fun c3 => ?_))))
  ·have hlt : i < l.length := by simpa using c3
   have hb1 := blks_len hpre (i := i)
   have hb2 := hpre.2 _ (List.getElem_mem hlt)
   refine sw_skip (sw_seq (sw_block (rg hP 5 [] rfl ?_ ?_)))
   ·simp [conj, maxL, gE hlt]
    omega
   refine rd hP 6 rfl (⟨i + 1, ?_, ?_, ent_ok rfl ?_⟩)
   ·exact hlt
   ·omega
   ·simp [conj, gE hlt]
    exact flat_next hlt
  ·obtain rfl : i = l.length := by simp at c3; omega
   refine sw_exit (sw_seq (rd hP 5 rfl (sw_ret ⟨.inl rfl, _, rfl, ?_⟩)))
   simp [conj]
end Go.Sx

namespace Go.Sx
open Go
instance : DecidableEq Plc := instDecidableEqProd
instance : DecidableEq Ptr_ := instDecidableEqProd
instance : DecidableEq Vol_ := instDecidableEqProd
instance : DecidableEq Root_ := instDecidableEqProd
def szGo {α : Type} (f : α → Int → Int) : List α → Int → Int
 | [], left => left
 | x :: r, left => if f x left < 0 then -1 else szGo f r (f x left)
def szL {α : Type} (f : α → Int → Int) (l : List α) (left : Int) : Int := if left - l.length < 0 then -1 else szGo f l (left - l.length)
def szPl (l : List Plc) (left : Int) : Int := if left - l.length < 0 then -1 else left - l.length
def szP (p : Ptr_) (left : Int) : Int := szPl p.2.2 left
def szPs (l : List Ptr_) (left : Int) : Int := szL szP l left
def szV (v : Vol_) (left : Int) : Int := if left - v.1.length < 0 then -1 else szPs v.2 (left - v.1.length)
def szVs (l : List Vol_) (left : Int) : Int := szL szV l left
def SzOk {α : Type} (f : α → Int → Int) : Prop := ∀ x left, 0 ≤ left → -1 ≤ f x left ∧ f x left ≤ left
theorem szGo_bd {α : Type} {f : α → Int → Int} (hf : SzOk f) : ∀ {l : List α} {left : Int}, 0 ≤ left → -1 ≤ szGo f l left ∧ szGo f l left ≤ left := by
 intro l
 induction l with
 | nil => intro left h; exact ⟨by simp only [szGo]; omega, Int.le_refl _⟩
 | cons s r ih =>
  intro left h
  simp only [szGo]
  have h1 := hf s left h
  split
  ·omega
  ·have := ih (left := f s left) (by omega)
   omega
theorem szL_ok {α : Type} {f : α → Int → Int} (hf : SzOk f) : SzOk (szL f) := by
 intro l left h
 unfold szL
 split
 ·omega
 ·have := szGo_bd hf (l := l) (left := left - l.length) (by omega)
  omega
theorem szPl_ok : SzOk szPl := by
 intro l left h
 unfold szPl
 split <;> omega
theorem szP_ok : SzOk szP := fun p left h => szPl_ok p.2.2 left h
theorem szPs_ok : SzOk szPs := szL_ok szP_ok
theorem szV_ok : SzOk szV := by
 intro v left h
 unfold szV
 split
 ·omega
 ·have := szPs_ok v.2 (left - v.1.length) (by omega)
  omega
theorem szVs_ok : SzOk szVs := szL_ok szV_ok
theorem sz_neg {α : Type} {f : α → Int → Int} (hf : SzOk f) {x : α} {left : Int} (h : 0 ≤ left) (h2 : f x left < 0) : f x left = -1 := by have := hf x left h; omega
theorem sz_next {α : Type} {f : α → Int → Int} {l : List α} {i : Nat} {left v : Int} (hlt : i < l.length) (h : szGo f (l.drop i) left = v) (h0 : ¬ f l[i] left < 0) : szGo f (l.drop (i + 1)) (f l[i] left) = v := by
 rw [drop_at hlt] at h; simp only [szGo] at h; rwa [if_neg h0] at h
theorem sz_hit {α : Type} {f : α → Int → Int} {l : List α} {i : Nat} {left v : Int} (hlt : i < l.length) (h : szGo f (l.drop i) left = v) (h0 : f l[i] left < 0) : v = -1 := by
 rw [drop_at hlt] at h; simp only [szGo] at h; rw [if_pos h0] at h; exact h.symm
theorem sz_end {α : Type} {f : α → Int → Int} {l : List α} {left v : Int} (h : szGo f (l.drop l.length) left = v) : v = left := by
 rw [List.drop_length] at h; exact h.symm
def SmP (p : Ptr_) : Prop := p.2.2.length ≤ 1048576
def SmPs (l : List Ptr_) : Prop := l.length ≤ 1048576 ∧ ∀ p ∈ l, SmP p
def SmVs (l : List Vol_) : Prop := l.length ≤ 1048576 ∧ ∀ v ∈ l, SmPs v.2
theorem szGo_sm {α : Type} {f : α → Int → Int} {Q : α → Prop} (hf : SzOk f) (hq : ∀ x left, 0 ≤ left → left ≤ 1048576 → 0 ≤ f x left → Q x) : ∀ {l : List α} {left : Int}, 0 ≤ left → left ≤ 1048576 → 0 ≤ szGo f l left → ∀ x ∈ l, Q x := by
 intro l
 induction l with
 | nil => intro left _ _ _ x hx; cases hx
 | cons s r ih =>
  intro left h0 h1 h x hx
  simp only [szGo] at h
  have hb := hf s left h0
  split at h
  ·omega
  ·rcases List.mem_cons.1 hx with rfl | hx
   ·exact hq x left h0 h1 (by omega)
   ·exact ih (left := f s left) (by omega) (by omega) h x hx
theorem szP_sm (p : Ptr_) (left : Int) (h0 : 0 ≤ left) (h1 : left ≤ 1048576) (h : 0 ≤ szP p left) : SmP p := by
 unfold szP szPl at h
 split at h
 ·omega
 ·unfold SmP; omega
theorem szPs_sm (l : List Ptr_) (left : Int) (h0 : 0 ≤ left) (h1 : left ≤ 1048576) (h : 0 ≤ szPs l left) : SmPs l := by
 unfold szPs szL at h
 split at h
 ·omega
 ·exact ⟨by omega, szGo_sm szP_ok szP_sm (by omega) (by omega) h⟩
theorem szV_sm (v : Vol_) (left : Int) (h0 : 0 ≤ left) (h1 : left ≤ 1048576) (h : 0 ≤ szV v left) : SmPs v.2 := by
 unfold szV at h
 split at h
 ·omega
 ·exact szPs_sm v.2 _ (by omega) (by omega) h
theorem szVs_sm (l : List Vol_) (left : Int) (h0 : 0 ≤ left) (h1 : left ≤ 1048576) (h : 0 ≤ szVs l left) : SmVs l := by
 unfold szVs szL at h
 split at h
 ·omega
 ·exact ⟨by omega, szGo_sm szV_ok szV_sm (by omega) (by omega) h⟩
def cpL {α : Type} (l : List α) (d : α) (i : Nat) : List α := l.take i ++ List.replicate (l.length - i) d
theorem cpL_next {α : Type} {l : List α} {d : α} {i : Nat} (hlt : i < l.length) : (cpL l d i).set i l[i] = cpL l d (i + 1) := by
 unfold cpL
 rw [List.set_append_right _ _ (by simp; omega)]
 have h1 : i - (l.take i).length = 0 := by simp; omega
 rw [h1, show l.length - i = (l.length - (i + 1)) + 1 by omega, List.replicate_succ, List.set_cons_zero, List.take_succ_eq_append_getElem hlt, List.append_assoc]
 rfl
theorem cpL_len {α : Type} {l : List α} {d : α} {i : Nat} (h : i ≤ l.length) : (cpL l d i).length = l.length := by
 unfold cpL; simp; omega
theorem cpL_end {α : Type} {l : List α} {d : α} : cpL l d l.length = l := by unfold cpL; simp
theorem cpL_zero {α : Type} {l : List α} {d : α} : cpL l d 0 = List.replicate l.length d := by unfold cpL; simp
end Go.Sx

namespace Go.Sx
open Go
def rd0 (code : List Int) : Rd := (code.take 2000, 0)
theorem rd0_ok {code : List Int} (h : ∀ v ∈ code, inR .u8 v) : ROk (rd0 code) 3000 := by
 refine ⟨fun v hv => ?_, ?_, by show (0 : Int) ≤ 0; decide, by show (0 : Int) + 3000 ≤ 1099511627776; decide⟩
 ·have := h v (List.mem_of_mem_take hv); rwa [inR_u8] at this
 ·exact List.length_take_le _ _
def plcGo (d fr : Int) : Nat → Nat → Rd → List Plc → List Plc × Rd
 | 0, _, R, out => (out, R)
 | n + 1, i, R, out => plcGo d fr n (i + 1) (nx R) (out ++ [((fr + (i : Int)).tmod d, pk R 12)])
def plcD (R : Rd) (d c : Int) : List Plc × Rd := plcGo d (pk R d) c.toNat 0 (nx R) []
theorem plcGo_rd : ∀ (n i : Nat) (d fr : Int) (R : Rd) (out : List Plc), (plcGo d fr n i R out).2 = (R.1, R.2 + n) ∧ (plcGo d fr n i R out).1.length = out.length + n := by
 intro n
 induction n with
 | zero => intro i d fr R out; simp [plcGo]
 | succ n ih =>
  intro i d fr R out
  simp only [plcGo]
  obtain ⟨h1, h2⟩ := ih (i + 1) d fr (nx R) (out ++ [((fr + (i : Int)).tmod d, pk R 12)])
  rw [h1, h2]
  simp [nx]
  omega
def ptrT (R : Rd) (d : Int) : Str := textV R (3 * sMin 3 (d - 1) - 1) ++ [107]
def ptrD (R : Rd) (d : Int) : Ptr_ × Rd := ((((ptrT R d).length : Int), weighV ((ptrT R d).take 9), (plcD (textR R (3 * sMin 3 (d - 1) - 1)) d (colsV ((ptrT R d).length : Int) + 1)).1), (plcD (textR R (3 * sMin 3 (d - 1) - 1)) d (colsV ((ptrT R d).length : Int) + 1)).2)
theorem sMin_bd' {d : Int} (h : 3 ≤ d ∧ d ≤ 4) : 3 * sMin 3 (d - 1) - 1 = 3 * (d - 1) - 1 := by rw [sMin_bd d h]
theorem ptrT_len {R : Rd} {d : Int} (h : ROk R 30) (hd : 3 ≤ d ∧ d ≤ 4) : 1 ≤ (ptrT R d).length ∧ (ptrT R d).length ≤ 9 := by
 unfold ptrT
 rw [sMin_bd' hd]
 have := textV_len h (by decide) (most := 3 * (d - 1) - 1) (by omega)
 rw [List.length_append]
 simp only [List.length_cons, List.length_nil]
 omega
theorem colsV_le {n : Int} (h0 : 1 ≤ n) (h1 : n ≤ 9) : 1 ≤ colsV n ∧ colsV n ≤ 3 := by
 have : colsV n = (n + 3 - 1) / 3 := Int.tdiv_eq_ediv_of_nonneg (by omega)
 omega
theorem ptrD_len {R : Rd} {d : Int} (h : ROk R 30) (hd : 3 ≤ d ∧ d ≤ 4) : 2 ≤ (ptrD R d).1.2.2.length ∧ (ptrD R d).1.2.2.length ≤ 4 := by
 have h1 := ptrT_len h hd
 have h2 := colsV_le (n := ((ptrT R d).length : Int)) (by omega) (by omega)
 simp only [ptrD, plcD]
 rw [(plcGo_rd _ _ _ _ _ _).2]
 simp only [List.length_nil]
 omega
theorem ptrD_ok {R : Rd} {d m : Int} (hm : 0 ≤ m) (h : ROk R (m + 30)) (hd : 3 ≤ d ∧ d ≤ 4) : ROk (ptrD R d).2 m := by
 have h1 := ptrT_len (h.le (by omega)) hd
 have h2 := colsV_le (n := ((ptrT R d).length : Int)) (by omega) (by omega)
 have ht : ROk (textR R (3 * sMin 3 (d - 1) - 1)) (m + 5) := textR_ok h (by omega) (by rw [sMin_bd' hd]; omega) (by rw [sMin_bd' hd]; omega)
 simp only [ptrD, plcD]
 rw [(plcGo_rd _ _ _ _ _ _).1]
 have hp := ht.p1
 have hp0 := ht.p0
 refine ⟨ht.b, ht.len, ?_, ?_⟩ <;> simp only [nx] <;> omega
def zP : Ptr_ := (0, 0, [])
def aS : List Int := [-1, 1000000000, 1000000001]
def aT : List Int := [-1, 12]
def aX : List Int := [-1, 100000, 100001]
def someD (R : Rd) (d : Int) : Ptr_ × Rd :=
 if pk R 5 = 0 then (zP, nx R) else
 let q := ptrD (nx R) d
 let p := q.1
 let R2 := nx q.2
 if pk q.2 20 = 0 then ((pk R2 14 - 1, p.2.1, p.2.2), nx R2)
 else if pk q.2 20 = 1 then ((p.1, aS.getD (pk R2 3).toNat 0, p.2.2), nx R2)
 else if pk q.2 20 = 2 then ((p.1, p.2.1, p.2.2.set 0 ((p.2.2.getD 0 (0, 0)).1, aT.getD (pk R2 2).toNat 0)), nx R2)
 else if pk q.2 20 = 3 then ((p.1, p.2.1, p.2.2.set 0 (p.2.2.getD 1 (0, 0))), R2)
 else if pk q.2 20 = 4 then ((p.1, p.2.1, p.2.2.drop 1), R2)
 else (p, R2)
def meetsNo (p : Ptr_) (l : List Ptr_) : Bool := l.all fun x => !meetV p x
def clrB (R : Rd) (d : Int) (all : List Ptr_) (k : Nat) (bl : List Ptr_) : Bool := (decide (0 < pk (ptrD R d).2 3) && meetsNo (ptrD R d).1 all) && meetsNo (ptrD R d).1 (bl.take k)
def blkStep (d : Int) (all : List Ptr_) (k : Nat) (bl : List Ptr_) (R : Rd) : List Ptr_ × Rd :=
 let q := ptrD R d
 let R2 := nx q.2
 if clrB R d all k bl = true then (bl.set k q.1, R2)
 else if 0 < all.length then (if pk R2 2 = 0 then (bl.set k (all.getD (pk (nx R2) all.length).toNat zP), nx (nx R2)) else (bl, nx R2))
 else (bl, R2)
def blkGo (d : Int) (all : List Ptr_) : Nat → Nat → List Ptr_ → Rd → List Ptr_ × Rd
 | 0, _, bl, R => (bl, R)
 | n + 1, k, bl, R => blkGo d all n (k + 1) (blkStep d all k bl R).1 (blkStep d all k bl R).2
def nms : List Str := [[97], [98], [99, 100], [120, 121, 122], [113], [122, 122]]
def nmD (R : Rd) : Str := nms.getD (pk R 6).toNat []
def hasN_ (vs : List Vol_) (nm : Str) : Bool := vs.any fun v => decide (v.1 = nm)
def volGo (d : Int) : Nat → List Vol_ → Rd → List Vol_ × Rd
 | 0, vs, R => (vs, R)
 | n + 1, vs, R => if hasN_ vs (nmD R) = true then volGo d n vs (nx R) else
  volGo d n (vs ++ [(nmD R, (blkGo d (blksOf vs) 3 0 [zP, zP, zP] (nx R)).1)]) (blkGo d (blksOf vs) 3 0 [zP, zP, zP] (nx R)).2
def rootD (R : Rd) (d : Int) : Root_ × Rd := ((pk R 9, (volGo d (pk (nx R) 5).toNat [] (nx (nx R))).1), (volGo d (pk (nx R) 5).toNat [] (nx (nx R))).2)
def fillGo : Nat → List Vol_ → List Vol_
 | 0, vs => vs
 | n + 1, vs => fillGo n (vs ++ [([UInt8.ofNat (107 + vs.length)], [zP, zP, zP])])
def v0 (vs : List Vol_) : Vol_ := vs.getD 0 ([], [])
def offD (R : Rd) (d : Int) : Root_ × Rd :=
 let q := rootD R d
 let r := q.1
 let R1 := nx q.2
 let R2 := nx R1
 if 0 < pk q.2 12 then (r, R1)
 else if pk R1 6 = 0 then ((aX.getD (pk R2 3).toNat 0, r.2), nx R2)
 else if pk R1 6 = 1 then ((r.1, r.2 ++ [([65], [zP, zP, zP])]), R2)
 else if pk R1 6 = 2 then (if 0 < r.2.length then (r.1, r.2.set 0 ((v0 r.2).1, (v0 r.2).2.drop 1)) else r, R2)
 else if pk R1 6 = 3 then (if 0 < r.2.length then ((r.1, r.2.set 0 ((v0 r.2).1, (v0 r.2).2.set 0 (someD R2 d).1)), (someD R2 d).2) else (r, R2))
 else if pk R1 6 = 4 then (if 0 < r.2.length then (r.1, r.2 ++ [v0 r.2]) else r, R2)
 else ((r.1, fillGo (5 - r.2.length) r.2), R2)
theorem blkStep_ok {d m : Int} {all bl : List Ptr_} {k : Nat} {R : Rd} (hm : 0 ≤ m) (h : ROk R (m + 40)) (hd : 3 ≤ d ∧ d ≤ 4) : ROk (blkStep d all k bl R).2 m ∧ (blkStep d all k bl R).1.length = bl.length := by
 have h1 : ROk (ptrD R d).2 (m + 3) := ptrD_ok (m := m + 3) (by omega) (h.le (by omega)) hd
 have h2 : ROk (nx (ptrD R d).2) (m + 2) := h1.nx (by omega)
 have h3 : ROk (nx (nx (ptrD R d).2)) (m + 1) := h2.nx (by omega)
 have h4 : ROk (nx (nx (nx (ptrD R d).2))) m := h3.nx (by omega)
 unfold blkStep
 simp only
 split
 ·exact ⟨h2.le (by omega), by simp⟩
 ·split
  ·split
   ·exact ⟨h4, by simp⟩
   ·exact ⟨h3.le (by omega), rfl⟩
  ·exact ⟨h2.le (by omega), rfl⟩
theorem blkGo_ok {d : Int} {all : List Ptr_} (hd : 3 ≤ d ∧ d ≤ 4) : ∀ (n k : Nat) (bl : List Ptr_) (R : Rd) (m : Int), 0 ≤ m → ROk R (m + 40 * n) → ROk (blkGo d all n k bl R).2 m ∧ (blkGo d all n k bl R).1.length = bl.length := by
 intro n
 induction n with
 | zero => intro k bl R m _ h; exact ⟨h.le (by omega), rfl⟩
 | succ n ih =>
  intro k bl R m hm h
  simp only [blkGo]
  obtain ⟨h1, h2⟩ := blkStep_ok (m := m + 40 * n) (all := all) (bl := bl) (k := k) (by omega) (h.le (by push_cast; omega)) hd
  obtain ⟨h3, h4⟩ := ih (k + 1) (blkStep d all k bl R).1 (blkStep d all k bl R).2 m hm h1
  exact ⟨h3, by rw [h4, h2]⟩
theorem volGo_ok {d : Int} (hd : 3 ≤ d ∧ d ≤ 4) : ∀ (n : Nat) (vs : List Vol_) (R : Rd) (m : Int), 0 ≤ m → ROk R (m + 130 * n) → (∀ v ∈ vs, v.2.length = 3) → ROk (volGo d n vs R).2 m ∧ (volGo d n vs R).1.length ≤ vs.length + n ∧ ∀ v ∈ (volGo d n vs R).1, v.2.length = 3 := by
 intro n
 induction n with
 | zero => intro vs R m _ h hv; exact ⟨h.le (by omega), by simp [volGo], hv⟩
 | succ n ih =>
  intro vs R m hm h hv
  simp only [volGo]
  split
  ·obtain ⟨a, b, c⟩ := ih vs (nx R) m hm (h.nx (by push_cast; omega)) hv
   exact ⟨a, by omega, c⟩
  ·have hR : ROk (nx R) (m + 130 * n + 120) := h.nx (by push_cast; omega)
   obtain ⟨h1, h2⟩ := blkGo_ok (all := blksOf vs) hd 3 0 [zP, zP, zP] (nx R) (m + 130 * n) (by omega) (hR.le (by omega))
   obtain ⟨a, b, c⟩ := ih (vs ++ [(nmD R, (blkGo d (blksOf vs) 3 0 [zP, zP, zP] (nx R)).1)]) _ m hm h1 (fun v hv' => by
    rcases List.mem_append.1 hv' with hv' | hv'
    ·exact hv v hv'
    ·rw [List.mem_singleton.1 hv']; exact h2)
   exact ⟨a, by rw [List.length_append] at b; simp only [List.length_cons, List.length_nil] at b; omega, c⟩
theorem rootD_ok {R : Rd} {d m : Int} (hm : 0 ≤ m) (h : ROk R (m + 600)) (hd : 3 ≤ d ∧ d ≤ 4) : ROk (rootD R d).2 m ∧ (rootD R d).1.2.length ≤ 4 ∧ ∀ v ∈ (rootD R d).1.2, v.2.length = 3 := by
 have h1 : ROk (nx R) (m + 599) := h.nx (by omega)
 have h2 : ROk (nx (nx R)) (m + 598) := h1.nx (by omega)
 have hb := pk_bd h1 (by omega) (n := 5) (by omega)
 obtain ⟨a, b, c⟩ := volGo_ok hd (pk (nx R) 5).toNat [] (nx (nx R)) m hm (h2.le (by omega)) (fun v hv => by cases hv)
 exact ⟨a, by simp only [rootD]; simp only [List.length_nil] at b; omega, c⟩
end Go.Sx

namespace Go.Proofs
open Go.RowKit Go.Shelf
attribute [local go_sem] Oper.semAt_some
def volUp {α : Type} (f : Nat → α) (k : Nat) : List α := (List.range k).map f
theorem volUp_succ {α : Type} (f : Nat → α) (k : Nat) : volUp f (k + 1) = volUp f k ++ [f k] := by simp [volUp, List.range_succ]
theorem volUp_length {α : Type} (f : Nat → α) (k : Nat) : (volUp f k).length = k := by simp [volUp]
theorem vol_new (W : World) (v : Value) (t : TypeId) : (W.alloc (.cells #[v] t)).cell? ⟨W.heap.size, 0, none⟩ = some v ∧ (W.alloc (.cells #[v] t)).frozen? ⟨W.heap.size, 0, none⟩ = false := by
 have h : (W.alloc (.cells #[v] t)).heap[W.heap.size]? = some (.cells #[v] t (0, 0)) := World.alloc_heap_new W (.cells #[v] t)
 constructor
 ·rw [World.cell?, h]; rfl
 ·rw [World.frozen?, h]; rfl
theorem vol_cell {W : World} {a : Addr} {v : Value} (o : Obj) (h : W.cell? a = some v) : (W.alloc o).cell? a = some v := cell_kept h (World.grownBy_alloc W o none) (fun r e => by cases e)
theorem vol_frozen {W : World} {a : Addr} {v : Value} (o : Obj) (h : W.cell? a = some v) (hf : W.frozen? a = false) : (W.alloc o).frozen? a = false := (frozen_kept h (World.grownBy_alloc W o none) (fun r e => by cases e)).trans hf
abbrev volE (x : Nat × UInt8) : Array Value := #[.int .i64 ((x.1 : Int) + 1), .int .u8 (x.2.toNat : Int)]
set_option maxRecDepth 100000 in
set_option maxHeartbeats 1000000 in
theorem vol93_in (F : Fence) (n : Nat) (h8 : F.fn 93) (hro : F.round = none) (hn : 1 ≤ n) (l Bs n₀ : Nat) (s : ByteArray) (hreach : s.size ≤ 140737488355328) (hb : Bs < n₀) (J Jx : List (Nat × UInt8) → World → Prop)
  (hY : ∀ pre x W, J pre W → pre.length < s.size → YieldAt F (n - 1) Tryz.prog l (volE x) W fun e W' =>
   (e = .returned (.bool true) ∧ J (pre ++ [x]) W' ∧ Below n₀ W W') ∨ (e = .returned (.bool false) ∧ Jx (pre ++ [x]) W'))
  (W : World) (hBs : W.cell? ⟨Bs, 0, none⟩ = some (.string s)) (h0 : J [] W) :
  CallsIn F n Tryz.prog 93 #[.func (.yield l) #[] #[], .pointer (some ⟨Bs, 0, none⟩)] W fun e W' => (∃ v, e = .returned v) ∧
   ((∃ ys, ys = volUp (fun j => (j, s.data[j]?.getD 0)) s.size ∧ J ys W') ∨ (∃ pre, (∃ k, k ≤ s.size ∧ pre = volUp (fun j => (j, s.data[j]?.getD 0)) k) ∧ Jx pre W')) := by
 refine callsIn_of_wp Tryz.func93 rfl h8 ?_ hro
 simp only [Tryz.ntmps93, List.size_toArray, List.length_cons, List.length_nil, Nat.reduceAdd, Nat.reduceSub, Array.replicate_succ, Array.replicate_zero, List.push_toArray, List.append_toArray, List.nil_append, List.cons_append]
 gi_wp2
 gi_loopw [6] (fun i wr => ∃ k : Nat, k ≤ s.size ∧ i = .int .i64 k ∧ J (volUp (fun j => (j, s.data[j]?.getD 0)) k) wr ∧ Below n₀ W wr)
  (fun i _ => s.size - (intOf i).toNat)
 case atStart => exact ⟨0, Nat.zero_le _, rfl, h0, Below.refl _ _⟩
 case round =>
  obtain ⟨k, hk, rfl, hJs, hnx⟩ := hrel
  have hcx : wr.cell? ⟨Bs, 0, none⟩ = some (.string s) := (hnx.cell (p := ⟨Bs, 0, none⟩) hb).trans hBs
  by_cases hlt : k < s.size
  ·obtain ⟨fn, tmps, assign, body, hy, hR⟩ := hY _ (k, s.data[k]?.getD 0) wr hJs (by rw [volUp_length]; exact hlt)
   dsimp only [volE] at hy
   have e : s.data[k]?.getD 0 = s[k]'hlt := by
    have h : k < s.data.size := hlt
    rw [Array.getElem?_eq_getElem h]
    rfl
   rw [e] at hy
   gi_wp2
   refine hR.mono ?_
   rintro e W3 (⟨rfl, hJ3, hk3⟩ | ⟨rfl, hJx3⟩)
   ·gi_wp2
    go_roundw
    case rel => exact ⟨k + 1, by omega, by simp, by rw [volUp_succ]; exact hJ3, hnx.trans hk3⟩
    case measure => simp [intOf]; omega
   ·gi_wp2
    refine bodyPost_ret (results_none rfl _ _ _) rfl ?_
    exact ⟨⟨_, rfl⟩, .inr ⟨_, ⟨k + 1, by omega, (volUp_succ _ _).symm⟩, hJx3⟩⟩
  ·obtain rfl : k = s.size := by omega
   gi_wp2
   go_end0
   exact ⟨⟨_, rfl⟩, .inl ⟨_, rfl, hJs⟩⟩
theorem vol_stops (F : Fence) (n : Nat) (h8 : F.fn 93) (hro : F.round = none) (hn : 1 ≤ n) (Bs n₀ : Nat) (s : ByteArray) (hreach : s.size ≤ 140737488355328) (w : World) (hn₀ : n₀ ≤ w.heap.size) (hb : Bs < n₀) (hc : w.cell? ⟨Bs, 0, none⟩ = some (.string s)) :
  SeqStopsK F n Tryz.prog 93 #[.pointer (some ⟨Bs, 0, none⟩)] volE (Below n₀) (fun xs => xs = volUp (fun j => (j, s.data[j]?.getD 0)) s.size)
   (fun pre => ∃ k, k ≤ s.size ∧ pre = volUp (fun j => (j, s.data[j]?.getD 0)) k) s.size w := fun l J Jx W hW _ _ hY h0 =>
 vol93_in F n h8 hro hn l Bs n₀ s hreach hb J Jx hY W ((hW.cell (p := ⟨Bs, 0, none⟩) (Nat.lt_of_lt_of_le hb hn₀)).trans hc) h0
set_option maxRecDepth 100000 in
set_option maxHeartbeats 2000000 in
theorem vol70_in (F : Fence) (n : Nat) (h : F.fn 70) (hro : F.round = none) (s : ByteArray) (w : World) :
  CallsIn F n Tryz.prog 70 #[.string s] w fun e W' => e = .returned (.func (.func 93) #[] #[.pointer (some ⟨w.heap.size, 0, none⟩)]) ∧ W' = w.alloc (.cells #[.string s] 9) := by
 refine callsIn_of_wp Tryz.func70 rfl h ?_ hro
 simp only [Tryz.ntmps70, List.size_toArray, List.length_cons, List.length_nil, Nat.reduceAdd, Nat.reduceSub, Array.replicate_succ, Array.replicate_zero, List.push_toArray, List.append_toArray, List.nil_append, List.cons_append]
 gi_wp2
 go_ret
 exact ⟨rfl, rfl⟩
def volOk (s : ByteArray) : Bool := !(s.size == 0) && decide (s.size ≤ 3) && s.data.toList.all (fun c => decide (97 ≤ c.toNat) && decide (c.toNat ≤ 122))
def volP (c : UInt8) : Bool := decide (97 ≤ c.toNat) && decide (c.toNat ≤ 122)
def volA (pre : List (Nat × UInt8)) : Bool := pre.all (fun y => volP y.2)
theorem vol_take (s : ByteArray) (k : Nat) (hk : k ≤ s.size) : volA (volUp (fun j => (j, s.data[j]?.getD 0)) k) = (s.data.toList.take k).all volP := by
 have h : (volUp (fun j => (j, s.data[j]?.getD 0)) k).map (·.2) = s.data.toList.take k := by
  apply List.ext_getElem
  ·have : k ≤ s.data.size := hk
   simp [volUp]; omega
  ·intro i h1 h2
   have h3 : i < s.data.size := by rw [List.length_take, Array.length_toList] at h2; omega
   simp [volUp]
   rw [Array.getElem?_eq_getElem h3]; rfl
 rw [← h, List.all_map]; rfl
theorem vol_good {pre : List (Nat × UInt8)} {x : Nat × UInt8} (h : volA pre = true) (h1 : 97 ≤ (x.2.toNat : Int)) (h2 : (x.2.toNat : Int) ≤ 122) : volA (pre ++ [x]) = true := by
 unfold volA at *; rw [List.all_append, h]; simp [volP]; omega
theorem vol_bad {pre : List (Nat × UInt8)} {x : Nat × UInt8} (h : (x.2.toNat : Int) < 97 ∨ 122 < (x.2.toNat : Int)) : volA (pre ++ [x]) = false := by
 unfold volA; rw [List.all_append]; simp [volP]; omega
theorem vol_yes {s : ByteArray} (h0 : s.size ≠ 0) (h3 : s.size ≤ 3) (h : volA (volUp (fun j => (j, s.data[j]?.getD 0)) s.size) = true) : volOk s = true := by
 rw [vol_take s s.size (Nat.le_refl _)] at h
 rw [List.take_of_length_le (by simp)] at h
 unfold volOk
 rw [show (fun c : UInt8 => decide (97 ≤ c.toNat) && decide (c.toNat ≤ 122)) = volP from rfl, h]
 simp [h0, h3]
theorem vol_no {s : ByteArray} {pre : List (Nat × UInt8)} (hp : ∃ k, k ≤ s.size ∧ pre = volUp (fun j => (j, s.data[j]?.getD 0)) k) (h : volA pre = false) : volOk s = false := by
 obtain ⟨k, hk, rfl⟩ := hp
 rw [vol_take s k hk] at h
 unfold volOk
 rw [show (fun c : UInt8 => decide (97 ≤ c.toNat) && decide (c.toNat ≤ 122)) = volP from rfl]
 have : s.data.toList.all volP = false := by
  rw [← List.take_append_drop k s.data.toList, List.all_append, h]; rfl
 rw [this]; simp
set_option maxRecDepth 100000 in
set_option maxHeartbeats 2000000 in
theorem vol48_in (F : Fence) (n : Nat) (h48 : F.fn 48) (h70 : F.fn 70) (h93 : F.fn 93) (hro : F.round = none) (hn : 3 ≤ n) (s : ByteArray) (hreach : s.size ≤ 140737488355328) (w : World) :
  CallsIn F n Tryz.prog 48 #[.string s] w fun e W' => e = .returned (.bool (volOk s)) ∧ Below w.heap.size w W' := by
 have h1 : 1 ≤ n := by omega
 refine callsIn_of_wp_marks Tryz.func48 rfl h48 ?_ hro
 simp only [Tryz.ntmps48, List.size_toArray, List.length_cons, List.length_nil, Nat.reduceAdd, Nat.reduceSub, Array.replicate_succ, Array.replicate_zero, List.push_toArray, List.append_toArray, List.nil_append, List.cons_append]
 gi_wp2_with (gi_at_call 70; refine (vol70_in F (n - 1) h70 hro _ _).mono ?_; rintro e w' ⟨rfl, rfl⟩)
 ·rename_i hs
  have hs0 : s.data.toList = [] := by rw [← ByteArray.toList_eq]; exact hs
  have c1 := vol_new w (.bool false) 4
  refine ⟨.bool false, by simp [results, Tryz.f48, go_sem, c1.1], ?_, (Below.refl _ w).alloc (Nat.le_refl _) _⟩
  have : s.size = 0 := by have := congrArg List.length hs0; simpa using this
  simp [volOk, this]
 ·rename_i hs hd
  have c1 := vol_new w (.bool false) 4
  refine ⟨.bool false, by simp [results, Tryz.f48, go_sem, c1.1], ?_, (Below.refl _ w).alloc (Nat.le_refl _) _⟩
  have : 3 < s.size := by
   rcases hd with h | h
   ·exact absurd (List.isEmpty_iff.1 h) hs
   ·omega
  simp [volOk]
  intro _ h3
  omega
 ·rename_i hs hd _ _
  have hs3 : s.size ≤ 3 := by omega
  have hs0 : s.size ≠ 0 := fun h => hs (by rw [ByteArray.toList_eq]; exact List.eq_nil_of_length_eq_zero (by simpa using h))
  have c1 := vol_new w (.bool false) 4
  have c2 := vol_new (w.alloc (.cells #[.bool false] 4)) (.string s) 9
  simp only [World.size_alloc] at c2
  have hB0 : Below w.heap.size w ((w.alloc (.cells #[.bool false] 4)).alloc (.cells #[.string s] 9)) := ((Below.refl _ w).alloc (Nat.le_refl _) _).alloc (by simp) _
  refine wpIn_rangeFunc_ownF hro h1 (gf := 93) (lb := #[.pointer (some ⟨w.heap.size + 1, 0, none⟩)]) rfl h93 (enters_of Tryz.func93 (by kernel_rfl) rfl)
   (vol_stops F (n - 1) h93 hro (by omega) (w.heap.size + 1) (w.heap.size + 2) s hreach _ (by simp) (by omega) c2.1) belowK_t (belowK_b (by simp)) (Below.refl _ _) (fun _ => rfl)
   (fun pre W => ((volA pre = true) ∧ W.cell? ⟨w.heap.size, 0, none⟩ = some (.bool false) ∧ W.frozen? ⟨w.heap.size, 0, none⟩ = false) ∧ Below w.heap.size w W)
   (fun c pre W => (c = .ret ∧ (volA pre = false) ∧ W.cell? ⟨w.heap.size, 0, none⟩ = some (.bool false)) ∧ Below w.heap.size w W)
   (OwnFrom.and (Own.from (fun s A B row hs hg hr => ⟨hs.1, cell_kept hs.2.1 hg hr, (frozen_kept hs.2.1 hg hr).trans hs.2.2⟩) _) (ownFrom_below (Nat.le_refl _) (by simp; omega)))
   (fun c => OwnFrom.and (Own.from (fun s A B row hs hg hr => ⟨hs.1, hs.2.1, cell_kept hs.2.2 hg hr⟩) _) (ownFrom_below (Nat.le_refl _) (by simp; omega)))
   ⟨⟨rfl, vol_cell _ c1.1, vol_frozen _ c1.1 c1.2⟩, hB0⟩
   (fun x => { tmps := #[.string s, undef, .pointer (some ⟨w.heap.size, 0, none⟩), undef, .int .u8 (x.2.toNat : Int), .string s, .bool false, .bool false, .string s, .int .i64 s.size, .bool (decide (3 < (s.size : Int))), .bool (decide (3 < (s.size : Int))), .string s, .func (.func 93) #[] #[.pointer (some ⟨w.heap.size + 1, 0, none⟩)], .int .i64 ((x.1 : Int) + 1), .int .u8 (x.2.toNat : Int), undef, undef, undef, undef, undef, undef], defers := [] }) ?assign ?body ?done ?stop
  case assign =>
   intro l x W K hK
   gi_wp2
   exact hK
  case body =>
   rintro l pre x W ⟨⟨hp, hcr, hfr⟩, hB⟩ _
   gi_wp2
   all_goals first
    | exact ⟨KeepsOthers.setCell _ _ _, ⟨rfl, vol_bad (by omega), World.cell?_setCell_same' _ _ _ (by rw [hcr]; rfl)⟩, hB.setCell (p := ⟨w.heap.size, 0, none⟩) (by simp) _⟩
    | exact ⟨KeepsOthers.refl _, Below.refl _ _, ⟨vol_good hp (by omega) (by omega), hcr, hfr⟩, hB⟩
  case done =>
   rintro D ys W hD rfl ⟨⟨hne, hcr, hfr⟩, hB⟩ hK
   gi_wp2
   have hK' := (KeepsOthers.setCell W ⟨w.heap.size, 0, none⟩ (.bool true)).same D _ hK rfl
   refine ⟨by simp, .inl ⟨_, _, rfl, run_takeDeferred hK', ?_⟩⟩
   have hc5 := cell_kept (World.cell?_setCell_same' W ⟨w.heap.size, 0, none⟩ (.bool true) (by rw [hcr]; rfl)) (grownBy_putObj' _ D (.deferred none)) (fun r e => by cases e; exact ⟨_, hK', rfl⟩)
   refine ⟨.bool true, ?_, ?_, (hB.setCell (p := ⟨w.heap.size, 0, none⟩) (by simp) _).trans (belowK_b (w := w) (Nat.le_refl _) _ D _ _ (by simp at hD; omega) hK' rfl rfl)⟩
   ·simp [results, Tryz.f48, go_sem, hc5]
   ·rw [vol_yes hs0 hs3 hne]
  case stop =>
   rintro D c pre W hD hpre ⟨⟨rfl, hin, hcr⟩, hB⟩ hK
   gi_wp2
   refine ⟨by simp, .inl ⟨_, _, rfl, run_takeDeferred hK, ?_⟩⟩
   have hc5 := cell_kept hcr (grownBy_putObj' _ D (.deferred none)) (fun r e => by cases e; exact ⟨_, hK, rfl⟩)
   refine ⟨.bool false, ?_, ?_, hB.trans (belowK_b (w := w) (Nat.le_refl _) W D _ _ (by simp at hD; omega) hK rfl rfl)⟩
   ·simp [results, Tryz.f48, go_sem, hc5]
   ·rw [vol_no hpre hin]
end Go.Proofs

namespace Go.Proofs
open Go.RowKit Go.Shelf
attribute [local go_sem] Oper.semAt_some
abbrev WX := { x : Nat × UInt8 // x.1 < 1000000 }
abbrev weiE (x : WX) : Array Value := volE x.val
def weiF (s : ByteArray) (j : Nat) : WX := ⟨(min j 999999, s.data[j]?.getD 0), by show min j 999999 < 1000000; omega⟩
set_option maxRecDepth 100000 in
set_option maxHeartbeats 1000000 in
theorem weiB_in (F : Fence) (n : Nat) (h8 : F.fn 93) (hro : F.round = none) (hn : 1 ≤ n) (l Bs : Nat) (s : ByteArray) (hreach : s.size ≤ 1000000) (J Jx : List WX → World → Prop)
  (hY : ∀ pre x W, J pre W → pre.length < s.size → YieldAt F (n - 1) Tryz.prog l (weiE x) W fun e W' =>
   (e = .returned (.bool true) ∧ J (pre ++ [x]) W' ∧ W'.heap[Bs]? = W.heap[Bs]?) ∨ (e = .returned (.bool false) ∧ Jx (pre ++ [x]) W'))
  (W : World) (hBs : W.cell? ⟨Bs, 0, none⟩ = some (.string s)) (h0 : J [] W) :
  CallsIn F n Tryz.prog 93 #[.func (.yield l) #[] #[], .pointer (some ⟨Bs, 0, none⟩)] W fun e W' => (∃ v, e = .returned v) ∧
   ((∃ ys, ys = volUp (weiF s) s.size ∧ J ys W') ∨ (∃ pre, (∃ k, k ≤ s.size ∧ pre = volUp (weiF s) k) ∧ Jx pre W')) := by
 refine callsIn_of_wp Tryz.func93 rfl h8 ?_ hro
 simp only [Tryz.ntmps93, List.size_toArray, List.length_cons, List.length_nil, Nat.reduceAdd, Nat.reduceSub, Array.replicate_succ, Array.replicate_zero, List.push_toArray, List.append_toArray, List.nil_append, List.cons_append]
 gi_wp2
 gi_loopw [6] (fun i wr => ∃ k : Nat, k ≤ s.size ∧ i = .int .i64 k ∧ J (volUp (weiF s) k) wr ∧ wr.heap[Bs]? = W.heap[Bs]?)
  (fun i _ => s.size - (intOf i).toNat)
 case atStart => exact ⟨0, Nat.zero_le _, rfl, h0, rfl⟩
 case round =>
  obtain ⟨k, hk, rfl, hJs, hnx⟩ := hrel
  have hcx : wr.cell? ⟨Bs, 0, none⟩ = some (.string s) := by
   have : wr.cell? ⟨Bs, 0, none⟩ = W.cell? ⟨Bs, 0, none⟩ := by simp only [World.cell?, hnx]
   exact this.trans hBs
  by_cases hlt : k < s.size
  ·obtain ⟨fn, tmps, assign, body, hy, hR⟩ := hY _ (weiF s k) wr hJs (by rw [volUp_length]; exact hlt)
   dsimp only [weiE, volE, weiF] at hy
   rw [show min k 999999 = k by omega] at hy
   have e : s.data[k]?.getD 0 = s[k]'hlt := by
    have h : k < s.data.size := hlt
    rw [Array.getElem?_eq_getElem h]
    rfl
   rw [e] at hy
   gi_wp2
   refine hR.mono ?_
   rintro e W3 (⟨rfl, hJ3, hk3⟩ | ⟨rfl, hJx3⟩)
   ·gi_wp2
    go_roundw
    case rel => exact ⟨k + 1, by omega, by simp, by rw [volUp_succ]; exact hJ3, hk3.trans hnx⟩
    case measure => simp [intOf]; omega
   ·gi_wp2
    refine bodyPost_ret (results_none rfl _ _ _) rfl ?_
    exact ⟨⟨_, rfl⟩, .inr ⟨_, ⟨k + 1, by omega, (volUp_succ _ _).symm⟩, hJx3⟩⟩
  ·obtain rfl : k = s.size := by omega
   gi_wp2
   go_end0
   exact ⟨⟨_, rfl⟩, .inl ⟨_, rfl, hJs⟩⟩
theorem wei_stops (F : Fence) (n : Nat) (h8 : F.fn 93) (hro : F.round = none) (hn : 1 ≤ n) (Bs : Nat) (s : ByteArray) (hreach : s.size ≤ 1000000) (w : World) (hb : Bs < w.heap.size) (hc : w.cell? ⟨Bs, 0, none⟩ = some (.string s)) :
  SeqStopsK F n Tryz.prog 93 #[.pointer (some ⟨Bs, 0, none⟩)] weiE (fun W W' => W'.heap[Bs]? = W.heap[Bs]?) (fun xs => xs = volUp (weiF s) s.size)
   (fun pre => ∃ k, k ≤ s.size ∧ pre = volUp (weiF s) k) s.size w := fun l J Jx W hW _ _ hY h0 =>
 weiB_in F n h8 hro hn l Bs s hreach J Jx hY W ((hW.cell (p := ⟨Bs, 0, none⟩) hb).trans hc) h0
def weiS (pre : List WX) : Int := pre.foldl (fun a x => a + (x.val.2.toNat : Int) * (65536 + ((x.val.1 : Int) + 1))) 0
theorem weiS_add (pre : List WX) (x : WX) : weiS (pre ++ [x]) = weiS pre + (x.val.2.toNat : Int) * (65536 + ((x.val.1 : Int) + 1)) := by simp [weiS]
theorem wei_one (x : WX) : 0 ≤ (x.val.2.toNat : Int) * (65536 + ((x.val.1 : Int) + 1)) ∧ (x.val.2.toNat : Int) * (65536 + ((x.val.1 : Int) + 1)) ≤ 300000000 := by
 have h1 : x.val.2.toNat < 256 := x.val.2.toNat_lt
 have h2 := x.property
 refine ⟨Int.mul_nonneg (by omega) (by omega), ?_⟩
 have := Int.mul_le_mul (a := (x.val.2.toNat : Int)) (b := 65536 + ((x.val.1 : Int) + 1)) (c := 255) (d := 1065536) (by omega) (by omega) (by omega) (by omega)
 omega
theorem weiS_bd : ∀ (n : Nat) (pre : List WX), pre.length = n → 0 ≤ weiS pre ∧ weiS pre ≤ (pre.length : Int) * 300000000 := by
 intro n
 induction n with
 | zero => intro pre h; rw [List.eq_nil_of_length_eq_zero h]; simp [weiS]
 | succ n ih =>
  intro pre h
  have hne : pre ≠ [] := by rintro rfl; cases h
  obtain ⟨q, x, rfl⟩ : ∃ q x, pre = q ++ [x] := ⟨pre.dropLast, pre.getLast hne, (List.dropLast_concat_getLast hne).symm⟩
  have h1 := ih q (by simpa using h)
  have h2 := wei_one x
  rw [weiS_add]
  simp only [List.length_append, List.length_cons, List.length_nil]
  push_cast
  omega
def weiUp (s : ByteArray) (k : Nat) : List WX := volUp (weiF s) k
set_option maxRecDepth 100000 in
set_option maxHeartbeats 2000000 in
theorem wei_in (F : Fence) (n : Nat) (h41 : F.fn 57) (h53 : F.fn 70) (h55 : F.fn 93) (hro : F.round = none) (hn : 3 ≤ n) (s : ByteArray) (hreach : s.size ≤ 1000000) (w : World) :
  CallsIn F n Tryz.prog 57 #[.string s] w fun e W' => e = .returned (.int .i64 (weiS (weiUp s s.size))) ∧ Below w.heap.size w W' := by
 have h1 : 1 ≤ n := by omega
 refine callsIn_of_wp_marks Tryz.func57 rfl h41 ?_ hro
 simp only [Tryz.ntmps57, List.size_toArray, List.length_cons, List.length_nil, Nat.reduceAdd, Nat.reduceSub, Array.replicate_succ, Array.replicate_zero, List.push_toArray, List.append_toArray, List.nil_append, List.cons_append]
 gi_wp2_with (gi_at_call 70; refine (vol70_in F (n - 1) h53 hro _ _).mono ?_; rintro e w' ⟨rfl, rfl⟩)
 have c1 := vol_new w (.int .i64 0) 3
 have c2 := vol_new (w.alloc (.cells #[.int .i64 0] 3)) (.string s) 9
 simp only [World.size_alloc] at c2
 have hB0 : Below w.heap.size w ((w.alloc (.cells #[.int .i64 0] 3)).alloc (.cells #[.string s] 9)) := ((Below.refl _ w).alloc (Nat.le_refl _) _).alloc (by simp) _
 refine wpIn_rangeFunc_ownF hro h1 (gf := 93) (lb := #[.pointer (some ⟨w.heap.size + 1, 0, none⟩)]) rfl h55 (enters_of Tryz.func93 (by kernel_rfl) rfl)
  (wei_stops F (n - 1) h55 hro (by omega) (w.heap.size + 1) s hreach _ (by simp) c2.1) (fun h k => k.trans h) (fun W l o o' hl _ _ _ => World.putObj_heap_other (by simp at hl; omega)) (Below.refl _ _) (fun _ => rfl)
  (fun pre W => (W.cell? ⟨w.heap.size, 0, none⟩ = some (.int .i64 (weiS pre)) ∧ W.frozen? ⟨w.heap.size, 0, none⟩ = false) ∧ Below w.heap.size w W)
  (fun _ _ _ => False)
  (OwnFrom.and (Own.from (fun s A B row hs hg hr => ⟨cell_kept hs.1 hg hr, (frozen_kept hs.1 hg hr).trans hs.2⟩) _) (ownFrom_below (Nat.le_refl _) (by simp; omega)))
  (fun c => Own.from (fun s A B row hs hg hr => hs) _)
  ⟨⟨vol_cell _ c1.1, vol_frozen _ c1.1 c1.2⟩, hB0⟩
  (fun x => { tmps := #[.string s, undef, .int .i64 0, .pointer (some ⟨w.heap.size, 0, none⟩), .int .i64 ((x.val.1 : Int) + 1), .int .u8 (x.val.2.toNat : Int), .string s, .func (.func 93) #[] #[.pointer (some ⟨w.heap.size + 1, 0, none⟩)], .int .i64 ((x.val.1 : Int) + 1), .int .u8 (x.val.2.toNat : Int), undef, undef, undef, undef, undef, undef, undef, undef], defers := [] }) ?assign ?body ?done ?stop
 case assign =>
  intro l x W K hK
  gi_wp2
  exact hK
 case body =>
  rintro l pre x W ⟨⟨hcr, hfr⟩, hB⟩ hlt
  have hb := weiS_bd _ pre rfl
  have hb1 := wei_one x
  have hu : x.val.2.toNat < 256 := x.val.2.toNat_lt
  have hp := x.property
  gi_wp2
  exact ⟨KeepsOthers.setCell _ _ _, Below.heap_setCell _ _ _ _ (by show w.heap.size + 1 ≠ w.heap.size; omega), ⟨by rw [weiS_add]; exact World.cell?_setCell_same' _ _ _ (by rw [hcr]; rfl), by rw [World.frozen?_setCell]; exact hfr⟩, hB.setCell (p := ⟨w.heap.size, 0, none⟩) (by simp) _⟩
 case done =>
  rintro D ys W hD rfl ⟨⟨hcr, hfr⟩, hB⟩ hK
  gi_wp2
  refine ⟨by simp, .inl ⟨_, _, rfl, run_takeDeferred hK, ?_⟩⟩
  refine ⟨.int .i64 (weiS (weiUp s s.size)), ?_, rfl, hB.trans (belowK_b (w := w) (Nat.le_refl _) _ D _ _ (by simp at hD; omega) hK rfl rfl)⟩
  simp [results, Tryz.f57, go_sem, weiUp]
 case stop =>
  rintro D c pre W hD hpre h hK
  exact h.elim
end Go.Proofs

namespace Go.Proofs
def Tryz.lays156_ren : Go.Shelf.Ren := ⟨fun | 156 => 80 | 165 => 96 | 166 => 97 | 169 => 98 | 240 => 113 | 241 => 114 | 276 => 125 | 277 => 126 | n => n, fun | 31 => 40 | 9 => 9 | 3 => 3 | 4 => 4 | 0 => 0 | 20 => 20 | 72 => 130 | 76 => 97 | 70 => 128 | 37 => 22 | 75 => 55 | 127 => 145 | 164 => 163 | 5 => 5 | 80 => 68 | n => n, fun | n => n⟩
theorem Tryz.lays156 : Go.Proofs.Lays.n156 Tryz.prog Tryz.lays156_ren := {
 mixed := by kernel_rfl
 f156 := Tryz.func80.trans (congrArg some (by kernel_rfl))
 f165 := Tryz.func96.trans (congrArg some (by kernel_rfl))
 f166 := Tryz.func97.trans (congrArg some (by kernel_rfl))
 f169 := Tryz.func98.trans (congrArg some (by kernel_rfl))
 f240 := Tryz.func113.trans (congrArg some (by kernel_rfl))
 f241 := Tryz.func114.trans (congrArg some (by kernel_rfl))
 f276 := Tryz.func125.trans (congrArg some (by kernel_rfl))
 f277 := Tryz.func126.trans (congrArg some (by kernel_rfl))
 t0 := Tryz.underlying0
 a0 := Tryz.isAgg0
 z0 := Tryz.sizeOf0
 v0 := Tryz.zeroValue0
 t3 := Tryz.underlying3
 a3 := Tryz.isAgg3
 z3 := Tryz.sizeOf3
 v3 := Tryz.zeroValue3
 t4 := Tryz.underlying4
 a4 := Tryz.isAgg4
 z4 := Tryz.sizeOf4
 v4 := Tryz.zeroValue4
 t9 := Tryz.underlying9
 a9 := Tryz.isAgg9
 z9 := Tryz.sizeOf9
 v9 := Tryz.zeroValue9
 t20 := Tryz.underlying20
 a20 := Tryz.isAgg20
 z20 := Tryz.sizeOf20
 v20 := Tryz.zeroValue20
 t31 := Tryz.underlying40
 a31 := Tryz.isAgg40
 z31 := Tryz.sizeOf40
 v31 := Tryz.zeroValue40
 t37 := Tryz.underlying22
 a37 := Tryz.isAgg22
 z37 := Tryz.sizeOf22
 v37 := Tryz.zeroValue22
 t70 := Tryz.underlying128
 a70 := Tryz.isAgg128
 z70 := Tryz.sizeOf128
 v70 := Tryz.zeroValue128
 t72 := Tryz.underlying130
 a72 := Tryz.isAgg130
 z72 := Tryz.sizeOf130
 v72 := Tryz.zeroValue130
 t75 := Tryz.underlying55
 a75 := Tryz.isAgg55
 z75 := Tryz.sizeOf55
 v75 := Tryz.zeroValue55
 t76 := Tryz.underlying97
 a76 := Tryz.isAgg97
 z76 := Tryz.sizeOf97
 v76 := Tryz.zeroValue97
 t127 := Tryz.underlying145
 a127 := Tryz.isAgg145
 z127 := Tryz.sizeOf145
 v127 := Tryz.zeroValue145
 t164 := Tryz.underlying163
 a164 := Tryz.isAgg163
 z164 := Tryz.sizeOf163
 v164 := Tryz.zeroValue163 }
theorem Tryz.Builder_Extra_156 : Builder.Extra Tryz.prog Tryz.lays156_ren := {
 sizeBuilder := by kernel_rfl
 liesBuilder := by kernel_rfl
 t5 := Tryz.underlying5
 a5 := Tryz.isAgg5
 z5 := Tryz.sizeOf5
 v5 := Tryz.zeroValue5
 infoByte := by kernel_rfl
 cellsByte := by kernel_rfl
 sizeByte := by kernel_rfl
 neB5 := by decide }
open Go.RowKit in
theorem Tryz.strings_Join_none (a : Option Addr) (c : Nat) (sep : ByteArray) (w : World) :
  Calls Tryz.prog 80 #[.slice a 0 c, .string sep] w fun e w' => e = .returned (.string ⟨#[]⟩) ∧ w' = w := Any.strings_Join_none Tryz.lays156 Tryz.Builder_Extra_156 a c sep w
open Go.RowKit in
theorem Tryz.strings_Join (bk o c : Nat) (xs : List ByteArray) (sep : ByteArray) (w : World) (hcells : ∀ (j : Nat) x, xs[j]? = some x → w.cell? ⟨bk, o + j, none⟩ = some (.string x)) (hbk : bk < w.heap.size) (hN : xs.length ≤ 140737488355328) (hcap : xs.length ≤ c) (hlen : (Lib.join (xs.map (·.data.toList)) sep.data.toList).length ≤ 140737488355328) :
  Calls Tryz.prog 80 #[.slice (some ⟨bk, o, none⟩) xs.length c, .string sep] w fun e w' => e = .returned (.string ⟨(Lib.join (xs.map (·.data.toList)) sep.data.toList).toArray⟩) ∧ Below w.heap.size w w' := Any.strings_Join Tryz.lays156 Tryz.Builder_Extra_156 bk o c xs sep w hcells hbk hN hcap hlen
def Tryz.laysM171_ren : Go.Shelf.Ren := ⟨fun | 171 => 55 | 243 => 79 | 246 => 95 | 283 => 109 | 284 => 110 | 285 => 111 | 286 => 112 | 129 => 121 | 317 => 120 | 318 => 122 | 319 => 123 | 320 => 124 | 337 => 129 | 338 => 130 | n => n, fun | 3 => 3 | 9 => 9 | 2 => 2 | 4 => 4 | 171 => 139 | 0 => 0 | 53 => 140 | 37 => 22 | 5 => 5 | 173 => 143 | 212 => 160 | 51 => 150 | 20 => 20 | 213 => 161 | 46 => 132 | 232 => 171 | 233 => 172 | n => n, fun | 17 => 6 | 18 => 7 | 19 => 8 | n => n⟩
theorem Tryz.laysM171 : Go.Proofs.LaysM.n171 Tryz.prog Tryz.laysM171_ren := {
 mixed := by kernel_rfl
 f129 := Tryz.func121.trans (congrArg some (by kernel_rfl))
 f171 := Tryz.func55.trans (congrArg some (by kernel_rfl))
 f243 := Tryz.func79.trans (congrArg some (by kernel_rfl))
 f246 := Tryz.func95.trans (congrArg some (by kernel_rfl))
 f283 := Tryz.func109.trans (congrArg some (by kernel_rfl))
 f284 := Tryz.func110.trans (congrArg some (by kernel_rfl))
 f285 := Tryz.func111.trans (congrArg some (by kernel_rfl))
 f286 := Tryz.func112.trans (congrArg some (by kernel_rfl))
 f317 := Tryz.func120.trans (congrArg some (by kernel_rfl))
 f318 := Tryz.func122.trans (congrArg some (by kernel_rfl))
 f319 := Tryz.func123.trans (congrArg some (by kernel_rfl))
 f320 := Tryz.func124.trans (congrArg some (by kernel_rfl))
 f337 := Tryz.func129.trans (congrArg some (by kernel_rfl))
 f338 := Tryz.func130.trans (congrArg some (by kernel_rfl))
 t0 := Tryz.underlying0
 a0 := Tryz.isAgg0
 z0 := Tryz.sizeOf0
 v0 := Tryz.zeroValue0
 t2 := Tryz.underlying2
 a2 := Tryz.isAgg2
 z2 := Tryz.sizeOf2
 v2 := Tryz.zeroValue2
 t3 := Tryz.underlying3
 a3 := Tryz.isAgg3
 z3 := Tryz.sizeOf3
 v3 := Tryz.zeroValue3
 t4 := Tryz.underlying4
 a4 := Tryz.isAgg4
 z4 := Tryz.sizeOf4
 v4 := Tryz.zeroValue4
 t5 := Tryz.underlying5
 a5 := Tryz.isAgg5
 z5 := Tryz.sizeOf5
 v5 := Tryz.zeroValue5
 t9 := Tryz.underlying9
 a9 := Tryz.isAgg9
 z9 := Tryz.sizeOf9
 v9 := Tryz.zeroValue9
 t20 := Tryz.underlying20
 a20 := Tryz.isAgg20
 z20 := Tryz.sizeOf20
 v20 := Tryz.zeroValue20
 t37 := Tryz.underlying22
 a37 := Tryz.isAgg22
 z37 := Tryz.sizeOf22
 v37 := Tryz.zeroValue22
 t46 := Tryz.underlying132
 a46 := Tryz.isAgg132
 z46 := Tryz.sizeOf132
 v46 := Tryz.zeroValue132
 t51 := Tryz.underlying150
 a51 := Tryz.isAgg150
 z51 := Tryz.sizeOf150
 v51 := Tryz.zeroValue150
 t53 := Tryz.underlying140
 a53 := Tryz.isAgg140
 z53 := Tryz.sizeOf140
 v53 := Tryz.zeroValue140
 t171 := Tryz.underlying139
 a171 := Tryz.isAgg139
 z171 := Tryz.sizeOf139
 v171 := Tryz.zeroValue139
 t173 := Tryz.underlying143
 a173 := Tryz.isAgg143
 z173 := Tryz.sizeOf143
 v173 := Tryz.zeroValue143
 t212 := Tryz.underlying160
 a212 := Tryz.isAgg160
 z212 := Tryz.sizeOf160
 v212 := Tryz.zeroValue160
 t213 := Tryz.underlying161
 a213 := Tryz.isAgg161
 z213 := Tryz.sizeOf161
 t232 := Tryz.underlying171
 a232 := Tryz.isAgg171
 z232 := Tryz.sizeOf171
 v232 := Tryz.zeroValue171
 t233 := Tryz.underlying172
 a233 := Tryz.isAgg172
 z233 := Tryz.sizeOf172
 v233 := Tryz.zeroValue172
 g17 := by kernel_rfl
 g18 := by kernel_rfl
 g19 := by kernel_rfl
 i0 := by kernel_rfl
 i2 := by kernel_rfl
 i3 := by kernel_rfl
 i4 := by kernel_rfl
 i5 := by kernel_rfl
 i9 := by kernel_rfl
 i20 := by kernel_rfl
 i37 := by kernel_rfl
 i46 := by kernel_rfl
 i51 := by kernel_rfl
 i53 := by kernel_rfl
 i171 := by kernel_rfl
 i173 := by kernel_rfl
 i212 := by kernel_rfl
 i232 := by kernel_rfl
 i233 := by kernel_rfl
 m17 := by kernel_rfl
 m18 := by kernel_rfl
 m19 := by kernel_rfl }
open Go.RowKit Go.Sort Go.Lib in
theorem Tryz.strconv_Itoa (n : Int) (h0 : -9223372036854775808 ≤ n) (h1 : n ≤ 9223372036854775807) (w : World) (htab : Lib.TabIs Tryz.prog w "internal/strconv.uint64pow10" .u64 Lib.pow10Tab) :
  Calls Tryz.prog 55 #[.int .i64 n] w fun e w' => e = .returned (.string ⟨(Lib.itoa n).toArray⟩) ∧ ∃ k os, w' = grow (w.drewN k) os := Any.strconv_Itoa Tryz.laysM171 n h0 h1 w htab
def Tryz.laysC172_ren : Go.Shelf.Ren := ⟨fun | 172 => 67 | 244 => 89 | 245 => 90 | 247 => 104 | 279 => 105 | 280 => 106 | 281 => 107 | 282 => 108 | 287 => 117 | 316 => 118 | 171 => 55 | 205 => 119 | 321 => 127 | 322 => 128 | 243 => 79 | 246 => 95 | 283 => 109 | 284 => 110 | 285 => 111 | 286 => 112 | 129 => 121 | 317 => 120 | 318 => 122 | 319 => 123 | 320 => 124 | 337 => 129 | 338 => 130 | n => n, fun | 9 => 9 | 3 => 3 | 75 => 55 | 76 => 97 | 4 => 4 | 5 => 5 | 167 => 133 | 37 => 22 | 0 => 0 | 85 => 134 | 2 => 2 | 168 => 136 | 53 => 140 | 175 => 153 | 46 => 132 | 210 => 157 | 127 => 145 | 145 => 169 | 143 => 167 | 21 => 21 | 171 => 139 | 173 => 143 | 212 => 160 | 51 => 150 | 20 => 20 | 213 => 161 | 232 => 171 | 233 => 172 | 80 => 68 | n => n, fun | 15 => 4 | 16 => 5 | 17 => 6 | 18 => 7 | 19 => 8 | n => n⟩
theorem Tryz.laysC172 : Go.Proofs.LaysC.n172 Tryz.prog Tryz.laysC172_ren := {
 mixed := by kernel_rfl
 f129 := Tryz.func121.trans (congrArg some (by kernel_rfl))
 f171 := Tryz.func55.trans (congrArg some (by kernel_rfl))
 f172 := Tryz.func67.trans (congrArg some (by kernel_rfl))
 f205 := Tryz.func119.trans (congrArg some (by kernel_rfl))
 f243 := Tryz.func79.trans (congrArg some (by kernel_rfl))
 f244 := Tryz.func89.trans (congrArg some (by kernel_rfl))
 f245 := Tryz.func90.trans (congrArg some (by kernel_rfl))
 f246 := Tryz.func95.trans (congrArg some (by kernel_rfl))
 f247 := Tryz.func104.trans (congrArg some (by kernel_rfl))
 f279 := Tryz.func105.trans (congrArg some (by kernel_rfl))
 f280 := Tryz.func106.trans (congrArg some (by kernel_rfl))
 f281 := Tryz.func107.trans (congrArg some (by kernel_rfl))
 f282 := Tryz.func108.trans (congrArg some (by kernel_rfl))
 f283 := Tryz.func109.trans (congrArg some (by kernel_rfl))
 f284 := Tryz.func110.trans (congrArg some (by kernel_rfl))
 f285 := Tryz.func111.trans (congrArg some (by kernel_rfl))
 f286 := Tryz.func112.trans (congrArg some (by kernel_rfl))
 f287 := Tryz.func117.trans (congrArg some (by kernel_rfl))
 f316 := Tryz.func118.trans (congrArg some (by kernel_rfl))
 f317 := Tryz.func120.trans (congrArg some (by kernel_rfl))
 f318 := Tryz.func122.trans (congrArg some (by kernel_rfl))
 f319 := Tryz.func123.trans (congrArg some (by kernel_rfl))
 f320 := Tryz.func124.trans (congrArg some (by kernel_rfl))
 f321 := Tryz.func127.trans (congrArg some (by kernel_rfl))
 f322 := Tryz.func128.trans (congrArg some (by kernel_rfl))
 f337 := Tryz.func129.trans (congrArg some (by kernel_rfl))
 f338 := Tryz.func130.trans (congrArg some (by kernel_rfl))
 t0 := Tryz.underlying0
 a0 := Tryz.isAgg0
 z0 := Tryz.sizeOf0
 v0 := Tryz.zeroValue0
 t2 := Tryz.underlying2
 a2 := Tryz.isAgg2
 z2 := Tryz.sizeOf2
 v2 := Tryz.zeroValue2
 t3 := Tryz.underlying3
 a3 := Tryz.isAgg3
 z3 := Tryz.sizeOf3
 v3 := Tryz.zeroValue3
 t4 := Tryz.underlying4
 a4 := Tryz.isAgg4
 z4 := Tryz.sizeOf4
 v4 := Tryz.zeroValue4
 t5 := Tryz.underlying5
 a5 := Tryz.isAgg5
 z5 := Tryz.sizeOf5
 v5 := Tryz.zeroValue5
 t9 := Tryz.underlying9
 a9 := Tryz.isAgg9
 z9 := Tryz.sizeOf9
 v9 := Tryz.zeroValue9
 t20 := Tryz.underlying20
 a20 := Tryz.isAgg20
 z20 := Tryz.sizeOf20
 v20 := Tryz.zeroValue20
 t21 := Tryz.underlying21
 a21 := Tryz.isAgg21
 z21 := Tryz.sizeOf21
 v21 := Tryz.zeroValue21
 t37 := Tryz.underlying22
 a37 := Tryz.isAgg22
 z37 := Tryz.sizeOf22
 v37 := Tryz.zeroValue22
 t46 := Tryz.underlying132
 a46 := Tryz.isAgg132
 z46 := Tryz.sizeOf132
 v46 := Tryz.zeroValue132
 t51 := Tryz.underlying150
 a51 := Tryz.isAgg150
 z51 := Tryz.sizeOf150
 v51 := Tryz.zeroValue150
 t53 := Tryz.underlying140
 a53 := Tryz.isAgg140
 z53 := Tryz.sizeOf140
 v53 := Tryz.zeroValue140
 t75 := Tryz.underlying55
 a75 := Tryz.isAgg55
 z75 := Tryz.sizeOf55
 v75 := Tryz.zeroValue55
 t76 := Tryz.underlying97
 a76 := Tryz.isAgg97
 z76 := Tryz.sizeOf97
 v76 := Tryz.zeroValue97
 t85 := Tryz.underlying134
 a85 := Tryz.isAgg134
 z85 := Tryz.sizeOf134
 v85 := Tryz.zeroValue134
 t127 := Tryz.underlying145
 a127 := Tryz.isAgg145
 z127 := Tryz.sizeOf145
 v127 := Tryz.zeroValue145
 t143 := Tryz.underlying167
 a143 := Tryz.isAgg167
 z143 := Tryz.sizeOf167
 v143 := Tryz.zeroValue167
 t145 := Tryz.underlying169
 a145 := Tryz.isAgg169
 z145 := Tryz.sizeOf169
 v145 := Tryz.zeroValue169
 t167 := Tryz.underlying133
 a167 := Tryz.isAgg133
 z167 := Tryz.sizeOf133
 v167 := Tryz.zeroValue133
 t168 := Tryz.underlying136
 a168 := Tryz.isAgg136
 z168 := Tryz.sizeOf136
 v168 := Tryz.zeroValue136
 t171 := Tryz.underlying139
 a171 := Tryz.isAgg139
 z171 := Tryz.sizeOf139
 v171 := Tryz.zeroValue139
 t173 := Tryz.underlying143
 a173 := Tryz.isAgg143
 z173 := Tryz.sizeOf143
 v173 := Tryz.zeroValue143
 t175 := Tryz.underlying153
 a175 := Tryz.isAgg153
 z175 := Tryz.sizeOf153
 v175 := Tryz.zeroValue153
 t210 := Tryz.underlying157
 a210 := Tryz.isAgg157
 z210 := Tryz.sizeOf157
 v210 := Tryz.zeroValue157
 t212 := Tryz.underlying160
 a212 := Tryz.isAgg160
 z212 := Tryz.sizeOf160
 v212 := Tryz.zeroValue160
 t213 := Tryz.underlying161
 a213 := Tryz.isAgg161
 z213 := Tryz.sizeOf161
 t232 := Tryz.underlying171
 a232 := Tryz.isAgg171
 z232 := Tryz.sizeOf171
 v232 := Tryz.zeroValue171
 t233 := Tryz.underlying172
 a233 := Tryz.isAgg172
 z233 := Tryz.sizeOf172
 v233 := Tryz.zeroValue172
 g15 := by kernel_rfl
 g16 := by kernel_rfl
 g17 := by kernel_rfl
 g18 := by kernel_rfl
 g19 := by kernel_rfl
 t80 := Tryz.underlying68
 a80 := Tryz.isAgg68
 z80 := Tryz.sizeOf68
 v80 := Tryz.zeroValue68
 i0 := by kernel_rfl
 i2 := by kernel_rfl
 i3 := by kernel_rfl
 i4 := by kernel_rfl
 i5 := by kernel_rfl
 i9 := by kernel_rfl
 i20 := by kernel_rfl
 i21 := by kernel_rfl
 i37 := by kernel_rfl
 i46 := by kernel_rfl
 i51 := by kernel_rfl
 i53 := by kernel_rfl
 i75 := by kernel_rfl
 i76 := by kernel_rfl
 i80 := by kernel_rfl
 i85 := by kernel_rfl
 i127 := by kernel_rfl
 i143 := by kernel_rfl
 i145 := by kernel_rfl
 i167 := by kernel_rfl
 i168 := by kernel_rfl
 i171 := by kernel_rfl
 i173 := by kernel_rfl
 i175 := by kernel_rfl
 i210 := by kernel_rfl
 i212 := by kernel_rfl
 i232 := by kernel_rfl
 i233 := by kernel_rfl
 m15 := by kernel_rfl
 m16 := by kernel_rfl
 m17 := by kernel_rfl
 m18 := by kernel_rfl
 m19 := by kernel_rfl
 c0 := by kernel_rfl
 c2 := by kernel_rfl
 c3 := by kernel_rfl
 c4 := by kernel_rfl
 c5 := by kernel_rfl
 c9 := by kernel_rfl
 c20 := by kernel_rfl
 c21 := by kernel_rfl
 c37 := by kernel_rfl
 c46 := by kernel_rfl
 c51 := by kernel_rfl
 c53 := by kernel_rfl
 c75 := by kernel_rfl
 c76 := by kernel_rfl
 c80 := by kernel_rfl
 c85 := by kernel_rfl
 c127 := by kernel_rfl
 c143 := by kernel_rfl
 c145 := by kernel_rfl
 c167 := by kernel_rfl
 c168 := by kernel_rfl
 c171 := by kernel_rfl
 c173 := by kernel_rfl
 c175 := by kernel_rfl
 c210 := by kernel_rfl
 c212 := by kernel_rfl
 c213 := by kernel_rfl
 c232 := by kernel_rfl
 c233 := by kernel_rfl }
open Go.RowKit in
theorem Tryz.strconv_Atoi_ok (s : ByteArray) (hmax : s.size ≤ 9223372036854775806) (v : Int) (h : Lib.atoiAll s.data.toList = .ok v) (w : World) :
  Calls Tryz.prog 67 #[.string s] w fun e w' => e = .returned (.tuple #[.int .i64 v, .nilIface]) ∧ (w' = w ∨ ∃ t, w' = Lib.bytesWorld w 5 t) := Any.strconv_Atoi_ok Tryz.laysC172 s hmax v h w
open Go.RowKit in
theorem Tryz.strconv_Atoi_syntax (s : ByteArray) (hlim : s.size ≤ 281474976710656) (h : Lib.atoiAll s.data.toList = Lib.atoiAll []) (ev : Value) (w : World) (hv : w.cell? ⟨4, 0, none⟩ = some ev) (hev : ev = .nilIface ∨ ∃ te pe, ev = .iface te pe) :
  Calls Tryz.prog 67 #[.string s] w fun e w' => ∃ N, e = .returned (.tuple #[.int .i64 (0), .iface 136 (.pointer (some ⟨N, 0, none⟩))]) ∧ w.heap.size ≤ N ∧ w'.heap[N]? = some (.cells #[.string ⟨#[65, 116, 111, 105]⟩, .string s, ev] 157 (0, 0)) ∧ Below w.heap.size w w' := Any.strconv_Atoi_syntax Tryz.laysC172 s hlim h ev w hv hev
open Go.RowKit in
theorem Tryz.strconv_Atoi_range (s : ByteArray) (hlim : s.size ≤ 281474976710656) (h : Lib.atoiAll s.data.toList = .range) (ev : Value) (w : World) (hv : w.cell? ⟨5, 0, none⟩ = some ev) (hev : ev = .nilIface ∨ ∃ te pe, ev = .iface te pe) :
  Calls Tryz.prog 67 #[.string s] w fun e w' => ∃ N, e = .returned (.tuple #[.int .i64 (Lib.atoiSat s.data.toList), .iface 136 (.pointer (some ⟨N, 0, none⟩))]) ∧ w.heap.size ≤ N ∧ w'.heap[N]? = some (.cells #[.string ⟨#[65, 116, 111, 105]⟩, .string s, ev] 157 (0, 0)) ∧ Below w.heap.size w w' := Any.strconv_Atoi_range Tryz.laysC172 s hlim h ev w hv hev
def Tryz.lays145_ren : Go.Shelf.Ren := ⟨fun | 145 => 69 | 220 => 92 | 219 => 88 | 217 => 100 | 225 => 101 | 224 => 102 | 267 => 103 | 266 => 115 | 314 => 116 | n => n, fun | 9 => 9 | 4 => 4 | 59 => 100 | 3 => 3 | 5 => 5 | 46 => 132 | 146 => 151 | 51 => 150 | n => n, fun | 1 => 1 | n => n⟩
theorem Tryz.lays145 : Go.Proofs.Lays.n145 Tryz.prog Tryz.lays145_ren := {
 mixed := by kernel_rfl
 f145 := Tryz.func69.trans (congrArg some (by kernel_rfl))
 f217 := Tryz.func100.trans (congrArg some (by kernel_rfl))
 f219 := Tryz.func88.trans (congrArg some (by kernel_rfl))
 f220 := Tryz.func92.trans (congrArg some (by kernel_rfl))
 f224 := Tryz.func102.trans (congrArg some (by kernel_rfl))
 f225 := Tryz.func101.trans (congrArg some (by kernel_rfl))
 f266 := Tryz.func115.trans (congrArg some (by kernel_rfl))
 f267 := Tryz.func103.trans (congrArg some (by kernel_rfl))
 f314 := Tryz.func116.trans (congrArg some (by kernel_rfl))
 t3 := Tryz.underlying3
 a3 := Tryz.isAgg3
 z3 := Tryz.sizeOf3
 v3 := Tryz.zeroValue3
 t4 := Tryz.underlying4
 a4 := Tryz.isAgg4
 z4 := Tryz.sizeOf4
 v4 := Tryz.zeroValue4
 t5 := Tryz.underlying5
 a5 := Tryz.isAgg5
 z5 := Tryz.sizeOf5
 v5 := Tryz.zeroValue5
 t9 := Tryz.underlying9
 a9 := Tryz.isAgg9
 z9 := Tryz.sizeOf9
 v9 := Tryz.zeroValue9
 t46 := Tryz.underlying132
 a46 := Tryz.isAgg132
 z46 := Tryz.sizeOf132
 v46 := Tryz.zeroValue132
 t51 := Tryz.underlying150
 a51 := Tryz.isAgg150
 z51 := Tryz.sizeOf150
 v51 := Tryz.zeroValue150
 t59 := Tryz.underlying100
 a59 := Tryz.isAgg100
 z59 := Tryz.sizeOf100
 v59 := Tryz.zeroValue100
 t146 := Tryz.underlying151
 a146 := Tryz.isAgg151
 z146 := Tryz.sizeOf151
 v146 := Tryz.zeroValue151
 g1 := by kernel_rfl }
open Go.RowKit Go.Lib in
theorem Tryz.strings_Cut (s sep : ByteArray) (m : Int) (w : World) (hs : s.size < 4294967281) (hm : w.cell? ⟨1, 0, none⟩ = some (.int .i64 m)) :
  Calls Tryz.prog 69 #[.string s, .string sep] w fun e w' => e = .returned (.tuple #[.string ⟨(Lib.cut s.data.toList sep.data.toList).1.toArray⟩, .string ⟨(Lib.cut s.data.toList sep.data.toList).2.1.toArray⟩, .bool (Lib.cut s.data.toList sep.data.toList).2.2]) ∧ ∃ n, w' = w.drewN n := Any.strings_Cut Tryz.lays145 s sep m w hs hm
def Tryz.lays99_ren : Go.Shelf.Ren := ⟨fun | 99 => 68 | 206 => 91 | n => n, fun | 9 => 9 | 4 => 4 | 3 => 3 | n => n, fun | n => n⟩
theorem Tryz.lays99 : Go.Proofs.Lays.n99 Tryz.prog Tryz.lays99_ren := {
 mixed := by kernel_rfl
 f99 := Tryz.func68.trans (congrArg some (by kernel_rfl))
 f206 := Tryz.func91.trans (congrArg some (by kernel_rfl))
 t3 := Tryz.underlying3
 a3 := Tryz.isAgg3
 z3 := Tryz.sizeOf3
 v3 := Tryz.zeroValue3
 t4 := Tryz.underlying4
 a4 := Tryz.isAgg4
 z4 := Tryz.sizeOf4
 v4 := Tryz.zeroValue4
 t9 := Tryz.underlying9
 a9 := Tryz.isAgg9
 z9 := Tryz.sizeOf9
 v9 := Tryz.zeroValue9 }
open Go.RowKit Go.Lib in
theorem Tryz.strings_HasPrefix (s p : ByteArray) (w : World) :
  Calls Tryz.prog 68 #[.string s, .string p] w fun e w' => e = .returned (.bool (Lib.hasPrefix s.data.toList p.data.toList)) ∧ w' = w := Any.strings_HasPrefix Tryz.lays99 s p w
def Tryz.lays146_ren : Go.Shelf.Ren := ⟨fun | 146 => 23 | 221 => 40 | 268 => 64 | 138 => 65 | 143 => 66 | 195 => 85 | 197 => 86 | 218 => 87 | 219 => 88 | 260 => 99 | 217 => 100 | 225 => 101 | 224 => 102 | 267 => 103 | 266 => 115 | 314 => 116 | n => n, fun | 9 => 9 | 31 => 40 | 3 => 3 | 4 => 4 | 0 => 0 | 105 => 121 | 21 => 21 | 5 => 5 | 46 => 132 | 119 => 146 | 139 => 149 | 138 => 148 | 146 => 151 | 51 => 150 | n => n, fun | 1 => 1 | 3 => 2 | 4 => 3 | n => n⟩
theorem Tryz.lays146 : Go.Proofs.Lays.n146 Tryz.prog Tryz.lays146_ren := {
 mixed := by kernel_rfl
 f138 := Tryz.func65.trans (congrArg some (by kernel_rfl))
 f143 := Tryz.func66.trans (congrArg some (by kernel_rfl))
 f146 := Tryz.func23.trans (congrArg some (by kernel_rfl))
 f195 := Tryz.func85.trans (congrArg some (by kernel_rfl))
 f197 := Tryz.func86.trans (congrArg some (by kernel_rfl))
 f217 := Tryz.func100.trans (congrArg some (by kernel_rfl))
 f218 := Tryz.func87.trans (congrArg some (by kernel_rfl))
 f219 := Tryz.func88.trans (congrArg some (by kernel_rfl))
 f221 := Tryz.func40.trans (congrArg some (by kernel_rfl))
 f224 := Tryz.func102.trans (congrArg some (by kernel_rfl))
 f225 := Tryz.func101.trans (congrArg some (by kernel_rfl))
 f260 := Tryz.func99.trans (congrArg some (by kernel_rfl))
 f266 := Tryz.func115.trans (congrArg some (by kernel_rfl))
 f267 := Tryz.func103.trans (congrArg some (by kernel_rfl))
 f268 := Tryz.func64.trans (congrArg some (by kernel_rfl))
 f314 := Tryz.func116.trans (congrArg some (by kernel_rfl))
 t0 := Tryz.underlying0
 a0 := Tryz.isAgg0
 z0 := Tryz.sizeOf0
 v0 := Tryz.zeroValue0
 t3 := Tryz.underlying3
 a3 := Tryz.isAgg3
 z3 := Tryz.sizeOf3
 v3 := Tryz.zeroValue3
 t4 := Tryz.underlying4
 a4 := Tryz.isAgg4
 z4 := Tryz.sizeOf4
 v4 := Tryz.zeroValue4
 t5 := Tryz.underlying5
 a5 := Tryz.isAgg5
 z5 := Tryz.sizeOf5
 v5 := Tryz.zeroValue5
 t9 := Tryz.underlying9
 a9 := Tryz.isAgg9
 z9 := Tryz.sizeOf9
 v9 := Tryz.zeroValue9
 t21 := Tryz.underlying21
 a21 := Tryz.isAgg21
 z21 := Tryz.sizeOf21
 v21 := Tryz.zeroValue21
 t31 := Tryz.underlying40
 a31 := Tryz.isAgg40
 z31 := Tryz.sizeOf40
 v31 := Tryz.zeroValue40
 t46 := Tryz.underlying132
 a46 := Tryz.isAgg132
 z46 := Tryz.sizeOf132
 v46 := Tryz.zeroValue132
 t51 := Tryz.underlying150
 a51 := Tryz.isAgg150
 z51 := Tryz.sizeOf150
 v51 := Tryz.zeroValue150
 t105 := Tryz.underlying121
 a105 := Tryz.isAgg121
 z105 := Tryz.sizeOf121
 v105 := Tryz.zeroValue121
 t119 := Tryz.underlying146
 a119 := Tryz.isAgg146
 z119 := Tryz.sizeOf146
 t138 := Tryz.underlying148
 a138 := Tryz.isAgg148
 z138 := Tryz.sizeOf148
 v138 := Tryz.zeroValue148
 t139 := Tryz.underlying149
 a139 := Tryz.isAgg149
 z139 := Tryz.sizeOf149
 v139 := Tryz.zeroValue149
 t146 := Tryz.underlying151
 a146 := Tryz.isAgg151
 z146 := Tryz.sizeOf151
 v146 := Tryz.zeroValue151
 g1 := by kernel_rfl
 g3 := by kernel_rfl
 g4 := by kernel_rfl }
open Go.RowKit Go.Lib in
theorem Tryz.strings_Split (s sep : ByteArray) (m : Int) (w : World) (hs : s.size < 4294967281) (hm : w.cell? ⟨1, 0, none⟩ = some (.int .i64 m)) (h1 : 1 ≤ sep.size) :
  Calls Tryz.prog 23 #[.string s, .string sep] w fun e w' =>
   e = .returned (.slice (some ⟨w.heap.size, 0, none⟩) (Lib.countB s sep + 1) (Lib.countB s sep + 1)) ∧ w' = w.alloc (.cells ((Lib.splitB sep 0 (Lib.countB s sep) s).map Value.string).toArray 9) := Any.strings_Split Tryz.lays146 (by kernel_rfl) s sep m w hs hm h1
end Go.Proofs
