/- Several texts, one behind the other. -/
import Derived.Test.YtbaifcnfdljhlaaGreatSxWtoSxZ
import Derived.SizedLaws
import Derived.OpenShut
import GoSem.ClaimWide
import Derived.WideShapes
import Derived.Handed
import Derived.Shelf.Vars
import Derived.RowKitTokens
import Derived.ChangeVars
import Derived.RangeFuncBox
import Derived.RangeFuncFrom
import Derived.RangeFuncNested
import Derived.RangeFuncBound
import Derived.RangeFuncCalls
import Derived.RangeFuncLeaves
import Derived.Shelf.Abstract
import Derived.Shelf.RegionOpen
import Derived.WalkKit
import Derived.OwnWalkIn
import Derived.TacticsInMore
import Derived.LoopNIn
import Derived.LoopIn
import Derived.Test.YtbaifcnfdljhlaaGreatProg
import Derived.Lib.ItoaLen
import Derived.Lib.Join
import Derived.Shelf.Strings.Builder1
import Derived.Shelf.Strings.Builder2
import Derived.Shelf.Strings.BuilderF
import Derived.Shelf.Strings.Prefix
import Derived.Shelf.Bits.Mul64
import Derived.Shelf.Strings.Repeat
set_option linter.all false
namespace Go.Sx
open Go Go.RowKit
section
variable {P : Program} {tt : TT} {G : Gh} {w : World}
theorem fldChk_pr {a b : Ty} {n : Nat} : ∀ {r : List TypeId} {f : Nat}, fldChk tt (.pr a b) (n + 2) (f + 1) r = fldChk tt b (n + 1) f r := by
 intro r
 induction r with
 | nil => intro f; rfl
 | cons t r ih =>
  intro f
  simp only [fldChk, ih]
  rw [show (fieldTy (.pr a b) pF (n + 2) (f + 1) 0).1 = (fieldTy b pF (n + 1) f 0).1 from fieldTy_ty b pF.r pF (n + 1) f _ 0]
theorem st_tr : ∀ (n : Nat) (T : Ty) (fts : List TypeId) (cs : List Value), fts.length = n + 1 → fldChk tt T (n + 1) 0 fts = true → cs.length = T.size →
  (∀ (f : Nat) (t : TypeId) (te : TE), fts[f]? = some t → ttOf tt t = some te → ∃ y, ∀ id p, Tr G w te.T pF id p ((cs.drop (fieldOff T (n + 1) f)).take te.T.size) y) → ∃ y, ∀ id p, Tr G w T pF id p cs y := by
 have base : ∀ (n : Nat) (T : Ty) (fts : List TypeId) (cs : List Value), fts.length = n + 1 → fldChk tt T (n + 1) 0 fts = true → cs.length = T.size → (fieldTy T pF (n + 1) 0 0).1 = T → fieldOff T (n + 1) 0 = 0 →
   (∀ (f : Nat) (t : TypeId) (te : TE), fts[f]? = some t → ttOf tt t = some te → ∃ y, ∀ id p, Tr G w te.T pF id p ((cs.drop (fieldOff T (n + 1) f)).take te.T.size) y) → ∃ y, ∀ id p, Tr G w T pF id p cs y := by
  intro n T fts cs hlen hchk hcs hT hoff h
  cases fts with
  | nil => cases hlen
  | cons t r =>
   simp only [fldChk, Bool.and_eq_true, hT] at hchk
   obtain ⟨te, hte, hteT, _⟩ := elChk_spec hchk.1
   obtain ⟨y, hy⟩ := h 0 t te rfl hte
   subst hteT
   refine ⟨y, fun id p => ?_⟩
   have := hy id p
   rw [hoff, List.drop_zero, List.take_of_length_le (Nat.le_of_eq hcs)] at this
   exact this
 intro n
 induction n with
 | zero => intro T fts cs h1 h2 h3 h4; exact base 0 T fts cs h1 h2 h3 (by cases T <;> rfl) (by cases T <;> rfl) h4
 | succ n ih =>
  intro T fts cs h1 h2 h3 h4
  cases T with
  | pr a b =>
   cases fts with
   | nil => cases h1
   | cons t r =>
    simp only [fldChk, Bool.and_eq_true] at h2
    obtain ⟨te, hte, hteT, _⟩ := elChk_spec h2.1
    obtain ⟨y, hy⟩ := h4 0 t te rfl hte
    have ha : te.T = a := hteT
    obtain ⟨z, hz⟩ := ih b r (cs.drop a.size) (by simpa using h1) (by rw [← fldChk_pr (a := a)]; exact h2.2) (by rw [List.length_drop, h3]; simp [Ty.size]) fun f t' te' hf hte' => by
     obtain ⟨u, hu⟩ := h4 (f + 1) t' te' (by simpa using hf) hte'
     refine ⟨u, fun id p => ?_⟩
     have := hu id p
     rw [show fieldOff (.pr a b) (n + 1 + 1) (f + 1) = a.size + fieldOff b (n + 1) f by
      show (fieldTy b pF (n + 1) f (0 + a.size)).2.2 = _
      rw [fieldTy_off, Nat.zero_add]] at this
     rwa [List.drop_drop]
    subst ha
    refine ⟨(y, z), fun id p => ⟨cs.take te.T.size, cs.drop te.T.size, (List.take_append_drop _ _).symm, ?_, hz id (p ++ [1])⟩⟩
    have := hy id (p ++ [0])
    rwa [show fieldOff (.pr te.T b) (n + 1 + 1) 0 = 0 from rfl, List.drop_zero] at this
  | _ => exact base (n + 1) _ fts cs h1 h2 h3 rfl rfl h4
theorem cellsAt_of {C : Array Value} {o n : Nat} {cs : List Value} (hl : cs.length = n) (h : ∀ i, i < n → C[o + i]? = cs[i]?) : cellsAt C o n = cs := by
 apply List.ext_getElem?
 intro i
 unfold cellsAt
 by_cases hi : i < n
 ·rw [List.getElem?_take_of_lt hi, List.getElem?_drop, Array.getElem?_toList]
  exact h i hi
 ·rw [List.getElem?_eq_none (by rw [List.length_take]; omega), List.getElem?_eq_none (by omega)]
theorem weightsAll_mem {H : Type} {e : TypeId} : ∀ {ds : List (DataW H)} {d : DataW H}, d ∈ ds → ∀ n ∈ d.weights P e, n ∈ DataW.weightsAll P e ds := by
 intro ds
 induction ds with
 | nil => intro d h; cases h
 | cons a r ih =>
  intro d h n hn
  simp only [DataW.weightsAll, List.mem_append]
  rcases List.mem_cons.1 h with rfl | h
  ·exact .inl hn
  ·exact .inr (ih h n hn)
theorem cellsOf_at (T : TtOk P tt) {t : TypeId} {te : TE} (h : ttOf tt t = some te) : P.cellsOf t = te.T.size := by
 obtain ⟨i, hi, _, hs, _⟩ := info_at T h
 simp [Program.cellsOf, hi, hs]
theorem bytesOf_at (T : TtOk P tt) {t : TypeId} {te : TE} (h : ttOf tt t = some te) : P.bytesOf t = te.by_ := by
 obtain ⟨i, hi, _, _, hb⟩ := info_at T h
 simp [Program.bytesOf, hi, hb]
def noPtT (tt : TT) : Nat → TypeId → Bool
 | 0, _ => false
 | m + 1, t => match ttOf tt t with
  | none => false
  | some te => (match te.fts with
   | [] => (match te.T with
    | .sl _ | .arr _ _ => noPtT tt m te.el
    | .pt | .er => false
    | _ => true)
   | a :: r => (a :: r).all (noPtT tt m))
theorem tr_of_trod {H : Type} {enc : TypeId × Value → H} (T : TtOk P tt) (hby : (tt.all fun te => Nat.blt 0 te.by_) = true) (hper : ∀ b, b < w.heap.size → G.g b = .per) :
  ∀ (fuel : Nat) (m : Nat) (t : TypeId) (te : TE) (cs : List Value) (x : DataW H × List MemPlace), noPtT tt m t = true → ttOf tt t = some te → DataW.trod enc P w 0 (fun _ => true) true fuel t cs = some x → (∀ n ∈ x.1.weights P t, n ≤ reachBytes) →
   ∃ y, ∀ id p, Tr G w te.T pF id p cs y := by
 intro fuel
 induction fuel with
 | zero => intro m t te cs x _ _ h; simp [DataW.trod] at h
 | succ fuel ih =>
  intro m t te cs x hnp ht h hwt
  cases m with
  | zero => cases hnp
  | succ m =>
  unfold noPtT at hnp
  rw [ht] at hnp
  simp only at hnp
  obtain ⟨d, hd, hdi⟩ := und_at T ht
  obtain ⟨hok, _, hchk⟩ := T.at ht
  have hrl := reachBytes_lt
  unfold teChk at hchk
  unfold TE.di at hdi
  cases hf : te.fts with
  | nil =>
   rw [hf] at hchk hdi hnp
   simp only at hchk hdi hnp
   cases hT : te.T with
   | int k =>
    rw [hT] at hdi
    have hu : P.underlying t = some (.int k) := by rw [hd]; cases d <;> simp [dinfo] at hdi; rw [hdi]
    obtain ⟨n, rfl, _, hwf⟩ := DataW.trod_int hu h
    exact ⟨n, fun _ _ => ⟨rfl, by simp only [Lit.wf, Bool.and_eq_true, decide_eq_true_eq] at hwf; exact hwf⟩⟩
   | bool =>
    rw [hT] at hdi
    have hu : P.underlying t = some .bool := by rw [hd]; cases d <;> simp [dinfo] at hdi; rfl
    obtain ⟨b, rfl, _⟩ := DataW.trod_bool hu h
    exact ⟨b, fun _ _ => rfl⟩
   | str =>
    rw [hT] at hdi
    have hu : P.underlying t = some .string := by rw [hd]; cases d <;> simp [dinfo] at hdi; rfl
    obtain ⟨b, rfl, rfl, _⟩ := DataW.trod_string hu h
    have := hwt b.data.toList.length (by simp [DataW.weights])
    exact ⟨b.data.toList, fun _ _ => ⟨rfl, by show _ ≤ 140737488355328; omega⟩⟩
   | sl e =>
    rw [hT] at hdi hchk hnp
    have hu : P.underlying t = some (.slice te.el) := by rw [hd]; cases d <;> simp [dinfo] at hdi; rw [hdi]
    obtain ⟨te', hte', he', hsz⟩ := elChk_spec hchk
    subst he'
    have hco := cellsOf_at T hte'
    have hbo := bytesOf_at T hte'
    have hb1 : 0 < te'.by_ := by have := List.all_eq_true.1 hby te' (ttOf_mem hte').1; simpa [Nat.blt_eq] using this
    rcases DataW.trod_slice hu h with ⟨rfl, _⟩ | ⟨a, len, cap, elems, rest, n, hn, rfl, rfl, _, hlc, _, hlen, hel, hsp, _⟩
    ·exact ⟨[], fun _ _ => ⟨none, 0, 0, rfl, rfl, Nat.le_refl _, Nat.zero_le _, fun _ => noO_p _, .inl ⟨fun _ => rfl, rfl⟩⟩⟩
    ·cases hn
     obtain ⟨hrl2, hrest⟩ := hsp rfl
     have hw0 := hwt ((elems.length + rest.length) * P.bytesOf te.el) (by simp [DataW.weights, hu])
     have hcap : cap ≤ maxL := by
      show cap ≤ 140737488355328
      rw [hlen, hrl2, hbo] at hw0
      have : cap * 1 ≤ cap * te'.by_ := Nat.mul_le_mul_left _ hb1
      have : len + (cap - len) = cap := by omega
      rw [this] at hw0
      omega
     have hall : ∀ i, i < cap → ∃ cs', w.cells? 0 (a.add (i * te'.T.size)) te'.T.size = some cs' := by
      intro i hi
      by_cases hil : i < len
      ·have := hel i hil
       rw [hco, gE (by omega)] at this
       obtain ⟨cs', h1, _⟩ := Option.bind_eq_some_iff.1 this
       exact ⟨cs', h1⟩
      ·have := hrest (i - len) (by omega)
       rw [hco, gE (by omega), show len + (i - len) = i by omega] at this
       obtain ⟨cs', h1, _⟩ := Option.bind_eq_some_iff.1 this
       exact ⟨cs', h1⟩
     have hels : ∀ i, i < len → ∃ y, ∃ cs', w.cells? 0 (a.add (i * te'.T.size)) te'.T.size = some cs' ∧ ∀ id p, Tr G w te'.T pF id p cs' y := by
      intro i hi
      have := hel i hi
      rw [hco, gE (by omega)] at this
      obtain ⟨cs', h1, h2⟩ := Option.bind_eq_some_iff.1 this
      obtain ⟨y, hy⟩ := ih m te.el te' cs' _ hnp hte' h2 fun m hm => hwt m (by
       simp only [DataW.weights, hu, List.mem_cons, List.mem_append]
       exact .inr (.inl (weightsAll_mem (List.mem_map.2 ⟨_, List.getElem_mem (by omega), rfl⟩) m hm)))
      exact ⟨y, cs', h1, hy⟩
     by_cases hc0 : cap = 0
     ·subst hc0
      have : len = 0 := by omega
      subst this
      exact ⟨[], fun _ _ => ⟨some a, 0, 0, rfl, rfl, Nat.le_refl _, Nat.zero_le _, fun _ => noO_p _, .inl ⟨(fun e => by cases e), rfl⟩⟩⟩
     ·have hpos : 0 < te'.T.size := Nat.pos_of_ne_zero hsz
      obtain ⟨b, off, sp⟩ := a
      obtain ⟨c0, hc0'⟩ := hall 0 (by omega)
      obtain ⟨_, hl0, hcell0⟩ := World.cells?_some hc0'
      have h00 := hcell0 0 hpos
      rw [Nat.zero_mul, show (({ block := b, off := off, spot := sp } : Addr).add 0).add 0 = ⟨b, off, sp⟩ by simp [Addr.add], gE (by omega)] at h00
      have hheap : ∃ C tt' fz, w.heap[b]? = some (.cells C tt' fz) ∧ sp = none := by
       unfold World.cell? at h00
       split at h00
       ·rename_i C tt' fz hh
        refine ⟨C, tt', fz, hh, ?_⟩
        cases sp with
        | none => rfl
        | some _ => simp at h00
       ·cases h00
      obtain ⟨C, tt', fz, hh, rfl⟩ := hheap
      have hC : ∀ i cs', w.cells? 0 ((⟨b, off, none⟩ : Addr).add (i * te'.T.size)) te'.T.size = some cs' → cs'.length = te'.T.size ∧ ∀ k, k < te'.T.size → C[off + i * te'.T.size + k]? = cs'[k]? := by
       intro i cs' hcs
       obtain ⟨_, hl1, hc1⟩ := World.cells?_some hcs
       refine ⟨hl1, fun k hk => ?_⟩
       have := hc1 k hk
       rw [addr_add, addr_add] at this
       rw [← this, World.cell?, hh]
       rfl
      have hsize : off + cap * te'.T.size ≤ C.size := by
       obtain ⟨c1, hc1⟩ := hall (cap - 1) (by omega)
       obtain ⟨hl1, hg⟩ := hC _ _ hc1
       have := hg (te'.T.size - 1) (by omega)
       rw [gE (by omega)] at this
       have h3 := (Array.getElem?_eq_some_iff.1 this).1
       have h4 : cap * te'.T.size = (cap - 1) * te'.T.size + te'.T.size := by
        rw [← Nat.succ_mul]; congr 1; omega
       omega
      have hlsz : off + len * te'.T.size ≤ C.size := by
       have := Nat.mul_le_mul_right te'.T.size hlc
       omega
      refine ⟨(List.range len).map fun i => if h : i < len then Classical.choose (hels i h) else te'.T.dflt, fun id p => ⟨some ⟨b, off, none⟩, len, cap, rfl, by simp, hlc, Nat.le_trans hlc hcap, fun _ => noO_p _, .inr ⟨b, off, C, tt', fz, rfl, hper b (Array.getElem?_eq_some_iff.1 hh).1, hh, hlsz, (fun e => by cases e), fun j y hy => ?_⟩⟩⟩
      rw [List.getElem?_map, Option.map_eq_some_iff] at hy
      obtain ⟨i, hi, rfl⟩ := hy
      have hil := (List.getElem?_eq_some_iff.1 hi).1
      rw [List.length_range] at hil
      rw [List.getElem?_range hil] at hi
      cases hi
      rw [dif_pos hil]
      obtain ⟨cs', h1, h2⟩ := Classical.choose_spec (hels j hil)
      obtain ⟨hl1, hg⟩ := hC _ _ h1
      rw [cellsAt_of hl1 hg]
      exact h2 id _
   | arr n e =>
    rw [hT] at hdi hchk hnp
    have hu : P.underlying t = some (.array n te.el) := by rw [hd]; cases d <;> simp [dinfo] at hdi; obtain ⟨rfl, rfl⟩ := hdi; rfl
    obtain ⟨te', hte', he', hsz⟩ := elChk_spec hchk
    subst he'
    have hco := cellsOf_at T hte'
    have hct := cellsOf_at T ht
    rw [hT] at hct
    obtain ⟨xs, m, hn, rfl, hlen, hxl, hel⟩ := DataW.trod_array hu h
    cases hn
    have hels : ∀ i, i < n → ∃ y, ∀ id p, Tr G w te'.T pF id p ((cs.drop (i * te'.T.size)).take te'.T.size) y := by
     intro i hi
     have := hel i hi
     rw [hco, gE (by omega)] at this
     exact ih m te.el te' _ _ hnp hte' this fun k hk => hwt k (by
      simp only [DataW.weights, hu]
      exact weightsAll_mem (List.mem_map.2 ⟨_, List.getElem_mem (by omega), rfl⟩) k hk)
    refine ⟨(List.range n).map fun i => if h : i < n then Classical.choose (hels i h) else te'.T.dflt, fun id p => ⟨by rw [hlen, hct]; rfl, by simp, fun j y hy => ?_⟩⟩
    rw [List.getElem?_map, Option.map_eq_some_iff] at hy
    obtain ⟨i, hi, rfl⟩ := hy
    have hil := (List.getElem?_eq_some_iff.1 hi).1
    rw [List.length_range] at hil
    rw [List.getElem?_range hil] at hi
    cases hi
    rw [dif_pos hil]
    exact Classical.choose_spec (hels j hil) default []
   | pr a b => rw [hT] at hchk; cases hchk
   | pt => rw [hT] at hnp; cases hnp
   | er => rw [hT] at hnp; cases hnp
  | cons t0 r =>
   rw [hf] at hchk hdi hnp
   simp only at hchk hdi hnp
   have hu : ∃ fs : Array Field, P.underlying t = some (.struct fs) ∧ fs.toList.map (fun f => (f.offset, f.type)) = offsFrom te.T te.nf 0 (t0 :: r) := by
    rw [hd]; cases d <;> simp [dinfo] at hdi; exact ⟨_, rfl, hdi⟩
   obtain ⟨fs, hu, hfs⟩ := hu
   have hnf := hok.nf
   rw [hf] at hnf
   have hct := cellsOf_at T ht
   obtain ⟨xs, n, hn, rfl, hlen, hxl, hel⟩ := DataW.trod_struct hu h
   cases hn
   have hoffs : ∀ (l : List TypeId) (k j : Nat) (t' : TypeId), l[j]? = some t' → (offsFrom te.T te.nf k l)[j]? = some (fieldOff te.T te.nf (k + j), t') := by
    intro l
    induction l with
    | nil => intro k j t' h; cases h
    | cons a l ihl =>
     intro k j t' h
     cases j with
     | zero => simp only [List.getElem?_cons_zero, Option.some.injEq] at h; subst h; simp [offsFrom]
     | succ j =>
      simp only [List.getElem?_cons_succ] at h
      simp only [offsFrom, List.getElem?_cons_succ]
      rw [ihl (k + 1) j t' h]
      congr 3; omega
   refine st_tr r.length te.T (t0 :: r) cs (by simp) (by rw [← (by simpa using hnf : te.nf = r.length + 1)]; exact hchk) (by rw [hlen, hct]) fun f t' te' hft hte' => ?_
   have h1 := hoffs (t0 :: r) 0 f t' hft
   rw [← hfs, List.getElem?_map, Option.map_eq_some_iff] at h1
   obtain ⟨fd, hfd, hfe⟩ := h1
   simp only [Prod.mk.injEq, Nat.zero_add] at hfe
   have hfd' : fs[f]? = some fd := by rwa [Array.getElem?_toList] at hfd
   have := hel f fd hfd'
   have hfl : f < xs.length := by rw [hxl]; exact (Array.getElem?_eq_some_iff.1 hfd').1
   rw [hfe.1, hfe.2, cellsOf_at T hte', gE hfl] at this
   rw [(by simpa using hnf : te.nf = r.length + 1)] at this
   exact ih m t' te' _ _ (List.all_eq_true.1 hnp t' (List.mem_of_getElem? hft)) hte' this fun k hk => hwt k (by
    simp only [DataW.weights, hu]
    refine DataW.weights_mem_each (j := f) (t := t') (d := (xs[f]).1) ?_ ?_ k hk
    ·rw [List.getElem?_map, hfd]; simp [hfe.2]
    ·rw [List.getElem?_map, gE hfl]; rfl)
end
end Go.Sx

namespace Go.Sx
open Go
@[simp] theorem inR_i64 {n : Int} : inR .i64 n ↔ -9223372036854775808 ≤ n ∧ n ≤ 9223372036854775807 := by simp [inR, IntKind.min, IntKind.max, IntKind.signed, IntKind.bits]
@[simp] theorem inR_u8 {n : Int} : inR .u8 n ↔ 0 ≤ n ∧ n ≤ 255 := by simp [inR, IntKind.min, IntKind.max, IntKind.signed, IntKind.bits]
theorem cj : (conj [] = True) ∧ (∀ p, conj [p] = p) ∧ (∀ p q r, conj (p :: q :: r) = (conj (q :: r) ∧ p)) ∧ (∀ n : Int, inR .i64 n ↔ -9223372036854775808 ≤ n ∧ n ≤ 9223372036854775807) ∧ (∀ p, (True ∧ p) = p) ∧ (∀ p, (p ∧ True) = p) ∧ (∀ n : Nat, (n : Int).toNat = n) := ⟨rfl, fun _ => rfl, fun _ _ _ => rfl, fun _ => inR_i64, true_and, and_true, Int.toNat_natCast⟩
theorem cl {α : Type} : (∀ l : List α, [] ++ l = l) ∧ (∀ (a : α) l m, (a :: l) ++ m = a :: (l ++ m)) ∧ (∀ l : List α, l ++ [] = l) ∧ (∀ l m n : List α, (l ++ m) ++ n = l ++ (m ++ n)) := ⟨List.nil_append, fun _ _ _ => List.cons_append, List.append_nil, List.append_assoc⟩
abbrev TB : Ty := .sl (.int .u8)
abbrev TI : Ty := .int .i64
abbrev Rd := List Int × Int
abbrev rdA (r : Rd) : Res := .var [.d TB pF r.1, .d TI pF r.2]
theorem rd_eta (R : Rd) : (R.1, R.2) = R := rfl
def BOk (b : List Int) : Prop := ∀ v ∈ b, 0 ≤ v ∧ v ≤ 255
structure ROk (r : Rd) (m : Int) : Prop where
 b : BOk r.1
 len : r.1.length ≤ 2000
 p0 : 0 ≤ r.2
 p1 : r.2 + m ≤ 1099511627776
def pickX (b : List Int) (p : Int) : Int := b.getD (p.tmod b.length).toNat 0 * 131 + b.getD ((p * 7 + 3).tmod b.length).toNat 0 * 1117 + p * 29 + p.tdiv b.length * 53
def pickV (b : List Int) (p n : Int) : Int :=
 if n < 1 then 0 else if b.length = 0 then 0 else if p < b.length then (b.getD p.toNat 0).tmod n else (bitsOp .xor .i64 (pickX b p) ((pickX b p).tdiv 64)).tmod n
def pk (r : Rd) (n : Int) : Int := pickV r.1 r.2 n
def nx (r : Rd) : Rd := (r.1, r.2 + 1)
theorem ROk.nx {r : Rd} {m m' : Int} (h : ROk r m) (hm : m' + 1 ≤ m) : ROk (nx r) m' := ⟨h.b, h.len, by have := h.p0; simp only [Sx.nx]; omega, by have := h.p1; simp only [Sx.nx]; omega⟩
theorem ROk.le {r : Rd} {m m' : Int} (h : ROk r m) (hm : m' ≤ m) : ROk r m' := ⟨h.b, h.len, h.p0, by have := h.p1; omega⟩
theorem getD_b {b : List Int} (h : BOk b) (i : Nat) : 0 ≤ b.getD i 0 ∧ b.getD i 0 ≤ 255 := by
 rw [List.getD_eq_getElem?_getD]
 cases hc : b[i]? with
 | none => simp
 | some v => exact h v (List.mem_of_getElem? hc)
theorem pickX_bd {r : Rd} {m : Int} (h : ROk r m) (hm : 0 ≤ m) : 0 ≤ pickX r.1 r.2 ∧ pickX r.1 r.2 ≤ 1000000000000000 := by
 unfold pickX
 have h1 := getD_b h.b (r.2.tmod r.1.length).toNat
 have h2 := getD_b h.b ((r.2 * 7 + 3).tmod r.1.length).toNat
 have h0 := h.p0
 have h3 : 0 ≤ r.2.tdiv r.1.length ∧ r.2.tdiv r.1.length ≤ r.2 := ⟨Int.tdiv_nonneg h0 (Int.natCast_nonneg _), Int.tdiv_le_self _ h0⟩
 have h4 := h.p1
 omega
theorem xor_bd {x : Int} (h : 0 ≤ x) (h2 : x ≤ 1000000000000000) : 0 ≤ bitsOp .xor .i64 x (x.tdiv 64) := by
 have h3 : 0 ≤ x.tdiv 64 ∧ x.tdiv 64 ≤ x := ⟨Int.tdiv_nonneg h (by omega), Int.tdiv_le_self _ h⟩
 obtain ⟨a, rfl⟩ := Int.eq_ofNat_of_zero_le h
 obtain ⟨c, hc⟩ := Int.eq_ofNat_of_zero_le h3.1
 rw [hc]
 have ha : a < 2 ^ 63 := by simp only [Nat.reducePow]; omega
 have hc' : c < 2 ^ 63 := by simp only [Nat.reducePow]; omega
 have e1 : (BitVec.ofInt 64 (a : Int)).toNat = a := by rw [BitVec.toNat_ofInt]; simp only [Nat.reducePow] at ha ⊢; omega
 have e2 : (BitVec.ofInt 64 (c : Int)).toNat = c := by rw [BitVec.toNat_ofInt]; simp only [Nat.reducePow] at hc' ⊢; omega
 have hx := Nat.xor_lt_two_pow ha hc'
 have hb : bitsOp .xor .i64 (a : Int) (c : Int) = IntKind.wrap .i64 ((BitVec.ofInt 64 (a : Int)).toNat ^^^ (BitVec.ofInt 64 (c : Int)).toNat : Nat) := by
  show IntKind.wrap .i64 ((BitVec.ofInt 64 (a : Int) ^^^ BitVec.ofInt 64 (c : Int)).toNat : Nat) = _
  rw [BitVec.toNat_xor]
 rw [hb, e1, e2, wrap_in]
 ·omega
 ·simp only [inR, IntKind.min, IntKind.max, IntKind.signed, IntKind.bits]
  simp only [Nat.reducePow] at hx
  constructor <;> simp <;> omega
theorem pk_bd {r : Rd} {m n : Int} (h : ROk r m) (hm : 0 ≤ m) (hn : 1 ≤ n) : 0 ≤ pk r n ∧ pk r n < n := by
 unfold pk pickV
 rw [if_neg (by omega)]
 split
 ·omega
 ·split
  ·exact ⟨Int.tmod_nonneg _ (getD_b h.b _).1, Int.tmod_lt_of_pos _ (by omega)⟩
  ·have h1 := pickX_bd h hm
   exact ⟨Int.tmod_nonneg _ (xor_bd h1.1 h1.2), Int.tmod_lt_of_pos _ (by omega)⟩
theorem tmod_ix {a n : Int} (h : 0 ≤ a) (hn : 0 < n) : 0 ≤ a.tmod n ∧ a.tmod n < n := ⟨Int.tmod_nonneg _ h, Int.tmod_lt_of_pos _ hn⟩
theorem getD_b' {b : List Int} (h : BOk b) (i : Nat) : 0 ≤ b[i]?.getD 0 ∧ b[i]?.getD 0 ≤ 255 := by rw [← List.getD_eq_getElem?_getD]; exact getD_b h i
def textGo : Nat → Rd → List Int → List Int × Rd
 | 0, r, out => (out, r)
 | k + 1, r, out => textGo k (nx (nx r)) (out ++ [(([97, 98, 122, 0, 255, 128] : List Int).getD (pk r 6).toNat 0 + pk (nx r) 3) % 256])
def textV (r : Rd) (most : Int) : Str := ofBytes (textGo (pk r (most + 1)).toNat (nx r) []).1
def textR (r : Rd) (most : Int) : Rd := (textGo (pk r (most + 1)).toNat (nx r) []).2
theorem textGo_len : ∀ (k : Nat) (r : Rd) (out : List Int), (textGo k r out).1.length = out.length + k := by
 intro k
 induction k with
 | zero => intro r out; rfl
 | succ k ih => intro r out; simp only [textGo]; rw [ih]; simp; omega
theorem textGo_rd : ∀ (k : Nat) (r : Rd) (out : List Int), (textGo k r out).2 = (r.1, r.2 + 2 * k) := by
 intro k
 induction k with
 | zero => intro r out; simp [textGo]
 | succ k ih => intro r out; simp only [textGo]; rw [ih]; simp [nx]; omega
theorem textV_len {r : Rd} {m most : Int} (h : ROk r m) (hm : 0 ≤ m) (h0 : 0 ≤ most) : ((textV r most).length : Int) ≤ most := by
 unfold textV ofBytes
 rw [List.length_map, textGo_len]
 have := pk_bd h hm (n := most + 1) (by omega)
 simp
 omega
theorem textR_ok {r : Rd} {m m' most : Int} (h : ROk r m) (hm : 0 ≤ m) (h0 : 0 ≤ most) (hm' : m' + 1 + 2 * most ≤ m) : ROk (textR r most) m' := by
 unfold textR
 rw [textGo_rd]
 have := pk_bd h hm (n := most + 1) (by omega)
 have h0 := h.p0
 have h1 := h.p1
 refine ⟨h.b, h.len, ?_, ?_⟩ <;> simp only [nx] <;> omega
end Go.Sx

namespace Go.Sx
open Go Go.RowKit
theorem rowAt_off {P : Program} {fits : TypeId → Bool} : ∀ {d : Nat} {e : TypeId} {count off n : Nat}, rowAt P fits d e count off n = true → off ≤ count * P.cellsOf e := by
 intro d e count off n h
 cases d with
 | zero => simp [rowAt] at h
 | succ d =>
  unfold rowAt at h
  simp only at h
  split at h
  ·cases h
  ·rename_i hs
   have hm := Nat.div_add_mod off (P.cellsOf e)
   have hlt := Nat.mod_lt off (Nat.pos_of_ne_zero hs)
   rcases Bool.or_eq_true _ _ ▸ h with h1 | h1
   ·simp only [Bool.and_eq_true, beq_iff_eq, decide_eq_true_eq] at h1
    have h2 : off / P.cellsOf e ≤ count := by omega
    have h3 := Nat.mul_le_mul_right (P.cellsOf e) h2
    rw [Nat.mul_comm (off / P.cellsOf e)] at h3
    omega
   ·simp only [Bool.and_eq_true, decide_eq_true_eq] at h1
    have h2 : off / P.cellsOf e + 1 ≤ count := by omega
    have h3 := Nat.mul_le_mul_right (P.cellsOf e) h2
    rw [Nat.add_mul, Nat.one_mul, Nat.mul_comm (off / P.cellsOf e)] at h3
    omega
theorem has_off {P : Program} {w : World} {r : Reach} {base : Nat} {a : Addr} {e : TypeId} {n : Nat} {k : IntKind} (he : P.underlying e = some (.int k)) (h : w.has P r base a e n) : a.spot = none ∧ ∃ C t fz, w.heap[a.block]? = some (.cells C t fz) ∧ a.off ≤ C.size := by
 obtain ⟨_, hs, row, cells, hsh, hl⟩ := h
 refine ⟨hs, ?_⟩
 unfold World.shape? at hsh
 split at hsh
 ·rename_i C t fz hh
  cases hsh
  refine ⟨C, row, fz, hh, ?_⟩
  unfold liesAt at hl
  split at hl
  ·cases hl
  ·simp only [he, Bool.or_false] at hl
   exact Nat.le_trans (rowAt_off hl) (Nat.div_mul_le_self _ _)
 ·cases hsh
def IsRow (w : World) (a : Option Addr) (len cap : Nat) (zs : List Int) : Prop :=
 (a = none ∧ len = 0 ∧ cap = 0 ∧ zs = []) ∨
 ∃ x, a = some x ∧ len ≤ cap ∧ cap ≤ maxL ∧ zs.length = cap ∧ (∀ i, i < zs.length → w.cell? (x.add i) = some (.int .u8 (zs.getD i 0))) ∧ (∀ n ∈ zs, (Lit.int .u8 n).wf = true) ∧ x.spot = none ∧ ∃ C t fz, w.heap[x.block]? = some (.cells C t fz) ∧ x.off ≤ C.size
theorem wf_u8 {n : Int} (h : (Lit.int .u8 n).wf = true) : inR .u8 n := by
 simp only [Lit.wf, Bool.and_eq_true, decide_eq_true_eq] at h
 exact h
end Go.Sx

namespace Go.Sx
open Go Go.RowKit
def perG (w : World) : Gh := ⟨fun _ => .bool false, fun b => if b < w.heap.size then .per else .no⟩
def ArgIn (w : World) (te : TE) (v : Value) : Prop := v = mkV te.ag v.cells.toList ∧ (te.ag = false → v.cells.toList.length = 1) ∧ ∃ y, ∀ id p, Tr (perG w) w te.T pF id p v.cells.toList y
theorem mkV_one {v : Value} (h : ∀ cs, v ≠ .agg cs) : v = mkV false v.cells.toList ∧ v.cells.toList.length = 1 := by
 have hv : v.cells = #[v] := by cases v <;> first | rfl | exact absurd rfl (h _)
 exact ⟨by simp [mkV, hv], by simp [hv]⟩
theorem arg_in {P : Program} {tt : TT} {w : World} {H : Type} {enc : TypeId × Value → H} (T : TtOk P tt) (hby : (tt.all fun te => Nat.blt 0 te.by_) = true) {t : TypeId} {te : TE} (hnp : noPtT tt 30 t = true) (ht : ttOf tt t = some te) {v : Value} {r : Reach} {base : Nat} (hval : Value.okWide P w r base t v)
  {d : DataW H} {p : List MemPlace} (hd : DataW.Trod enc P w 0 (fun _ => true) true t v d p) (hwt : ∀ n ∈ d.weights P t, n ≤ reachBytes) : ArgIn w te v := by
 obtain ⟨fuel, hf⟩ := hd
 have htr := tr_of_trod (G := perG w) T hby (fun b hb => by simp [perG, hb]) fuel 30 t te _ _ hnp ht hf hwt
 obtain ⟨dd, hdd, hdi⟩ := und_at T ht
 obtain ⟨hok, _, _⟩ := T.at ht
 have hag := hok.ag
 rw [← hdi] at hag
 refine (fun h => ⟨h.1, h.2, htr⟩ : (v = mkV te.ag v.cells.toList ∧ (te.ag = false → v.cells.toList.length = 1)) → _) ?_
 have key : te.ag = false → (∀ cs, v ≠ .agg cs) → v = mkV te.ag v.cells.toList ∧ (te.ag = false → v.cells.toList.length = 1) := fun h h2 => by
  rw [h]; exact ⟨(mkV_one h2).1, fun _ => (mkV_one h2).2⟩
 unfold Value.okWide at hval
 rw [hdd] at hval
 cases dd with
 | struct fs =>
  obtain ⟨cs, rfl, _⟩ := hval
  have : te.ag = true := hag
  rw [this]; exact ⟨by simp [mkV, Value.cells], fun h => by cases h⟩
 | array n e =>
  obtain ⟨cs, rfl, _⟩ := hval
  have : te.ag = true := hag
  rw [this]; exact ⟨by simp [mkV, Value.cells], fun h => by cases h⟩
 | _ =>
  refine key hag fun cs hc => ?_
  subst hc
  simp only [Cell.okWide, hdd, Cell.ok] at hval
def valIns : List TE → List Mode
 | [] => []
 | te :: r => .val te.ag te.T pF :: valIns r
def ArgsIn (w : World) : List TE → List Value → Prop
 | [], vs => vs = []
 | te :: r, vs => ∃ v vs', vs = v :: vs' ∧ ArgIn w te v ∧ ArgsIn w r vs'
theorem args_ok {w : World} : ∀ {tes : List TE} {k : Nat} {vs : List Value}, ArgsIn w tes vs → ∃ x, ArgsOk (perG w) w k (valIns tes) x vs := by
 intro tes
 induction tes with
 | nil => intro k vs h; exact ⟨(), h⟩
 | cons te r ih =>
  intro k vs h
  obtain ⟨v, vs', rfl, ⟨h1, h2, y, h3⟩, h4⟩ := h
  obtain ⟨x, hx⟩ := ih (k := k + 1) h4
  exact ⟨(y, x), v, vs', rfl, ⟨noO_p te.T, _, h1, h2, h3 default []⟩, hx⟩
theorem amb_mk {P : Program} {w : World} (he : ErrOk (perG w).g w) (h : ∀ nm Q, (nm, Q) ∈ ambTab → ∀ b, P.globalNamed nm = some b → ∃ C t fz, w.heap[b]? = some (.cells C t fz) ∧ Q C.toList) : Amb P (perG w).g w := by
 refine ⟨?_, he⟩
 intro nm Q hm b hb
 obtain ⟨C, t, fz, h1, h2⟩ := h nm Q hm b hb
 have hlt : b < w.heap.size := by
  rcases Nat.lt_or_ge b w.heap.size with h | h
  ·exact h
  ·rw [Array.getElem?_eq_none h] at h1; cases h1
 exact ⟨.inr (by simp [perG, hlt]), C, t, fz, h1, h2⟩
theorem var_block {P : Program} {w : World} {nm : String} {cs : Array Value} {b : Nat} (hb : P.globalNamed nm = some b) (h : w.var? P nm = some cs) : ∃ C t fz, w.heap[b]? = some (.cells C t fz) ∧ C = cs := by
 unfold World.var? at h
 rw [hb] at h
 simp only [Option.bind_some] at h
 split at h
 ·rename_i C t fz hh
  cases h
  exact ⟨_, _, _, hh, rfl⟩
 ·cases h
theorem shaped_int {P : Program} {w : World} {g : Nat} {t : TypeId} {zero : Array Value} {k : IntKind}
  (h : w.ShapedOpen P) (hg : g < P.globals.size) (h0 : ((begin P (fun _ _ => 0) default).world.heap[g]?).bind Obj.row? = some (zero, t)) (hz : zero.size = 1)
  (hb : P.buildable t = true) (hc : P.cellTypes P.depth t = some [t]) (hu : P.underlying t = some (.int k)) : ∃ C t fz, w.heap[g]? = some (.cells C t fz) ∧ ∃ m, C.toList = [.int k m] := by
 obtain ⟨m, hm⟩ := Proofs.cell_of_shapedOpen_int h hg h0 hz hb hc hu
 obtain ⟨cs, hh, hs, _⟩ := h.1 g zero t hg h0
 refine ⟨cs, t, (0, 0), hh, m, ?_⟩
 have h1 : cs.toList.length = 1 := by rw [Array.length_toList]; omega
 have h2 : cs[0]? = some (.int k m) := by simpa [World.cell?, hh] using hm
 match hl : cs.toList, h1 with
 | [v], _ =>
  have : cs.toList[0]? = some (.int k m) := by rw [Array.getElem?_toList]; exact h2
  rw [hl] at this
  simpa using this
theorem returns_laid_shaped {H : Type} {enc : TypeId × Value → H} {a : Assume} {C : Checked} {os : Os} {f : FuncId} {fn : Func} {s : ChangeSpec} {conds : List PathCond} {apart fresh handsOn again : Bool} {X : World → Array Value → Prop}
  (hX : ∀ (w w' : World) (args : Array Value), w.heap = w'.heap → X w args → X w' args)
  (own : ownKnob C.prog.godebug = none) (started : os.Started) (noInit : C.prog.inits.idxOf? f = none) (hfn : C.prog.funcs[f]? = some fn)
  (witness : ∃ (w : World) (tape : Tape) (i : Input), w.os = os ∧ (w.forCall tape i).Shaped C.prog ∧ i.vars = [] ∧ Input.okWide C.prog (w.forCall tape i) .any w.heap.size f i ∧
   ((s.pre enc C.prog fn conds apart (w.forCall tape i).memory i.args ∧ X (w.forCall tape i).memory i.args) ∧ sizedMet enc C.prog fn (OpenSpec.ofChange s) apart (w.forCall tape i).memory i.args) ∧ a.holds C.prog (lone (Frame.enter C.prog f i.args .normal) [] (w.forCall tape i)))
  (contract : ∀ (W : World) (base : Nat) (args : Array Value) (ds gs : List (DataW H)) (before : List MemPlace),
   (∀ (j : Nat) t v, fn.params[j]? = some t → args[j]? = some v → Value.okWide C.prog W .any base t v) →
   DataW.Whole enc C.prog fn.params.toList s.vars apart W args.toList ds gs before →
   conds.all (PathCond.test C.prog ⟨fn.params.toList, ds, s.plain.varTypes C.prog, gs⟩) = true →
   (DataW.weightsEach C.prog (fn.params.toList ++ s.plain.varTypes C.prog) (ds ++ gs)).all (· ≤ reachBytes) = true → X W args → W.ShapedOpen C.prog →
   a.holds C.prog (lone (Frame.enter C.prog f args .normal) [] W) →
   Calls C.prog f args W fun e W' => ∃ v, e = .returned v ∧ s.post enc C.prog fn apart fresh handsOn again W args v W') :
  ReturnsInHanded a C os f .any (fun w args => (s.pre enc C.prog fn conds apart w args ∧ X w args) ∧ sizedMet enc C.prog fn (OpenSpec.ofChange s) apart w args) (s.post enc C.prog fn apart fresh handsOn again) := by
 refine returnsInHanded_of_calls own started noInit witness ?_
 intro w tape i _ hsh _ hok hpre hholds
 obtain ⟨_, _, _, fn', hfn', _, _, _, _, hval⟩ := hok
 have e : fn' = fn := Option.some.inj (hfn'.symm.trans hfn)
 subst e
 obtain ⟨⟨⟨ds, gs, before, hw, hc⟩, hx⟩, hz⟩ := hpre
 have hw' := DataW.Whole.of_heap (w' := w.forCall tape i) (by rfl) hw
 refine (contract (w.forCall tape i) w.heap.size i.args ds gs before hval hw' hc (hz.weights hw) (hX _ _ _ (by rfl) hx) hsh hholds).mono fun e W' ⟨v, he, hp⟩ => ?_
 subst he
 exact ChangeSpec.post_blind hp
theorem law_callsN {P : Program} {f : FuncId} {c : Ctr} {tes : List TE} (hc : c = ⟨f, valIns tes, fun _ => True, fun _ => (sBool true, [])⟩) (h : @CtrOk P (loneJ P) c) {fn : Func} {body : Code} (hf : P.funcs[f]? = some fn) (hb : fn.body = some body) (hn : (fn.name == "runtime.NumGoroutine") = false)
  (args : List Value) (w : World) (ham : Amb P (perG w).g w) (hw : ArgsIn w tes args) : Calls P f args.toArray w fun e w' => e = .returned (.bool true) ∧ Below w.heap.size w w' := by
 subst hc
 obtain ⟨x, hargs⟩ := args_ok (k := 0) hw
 have hbnd : ∀ b, (perG w).g b ≠ .no → b < w.heap.size := fun b hb => by
  by_cases h : b < w.heap.size
  ·exact h
  ·exact absurd (by simp [perG, h]) hb
 obtain ⟨n, w1, hrun, hres⟩ := h (perG w) (fun _ => True) w _ _ hbnd (fun _ _ _ => trivial) ham hargs trivial
 have hrun' : (callFunc f args.toArray).run P w = .ok (.enter f args.toArray) w := by
  have hn' : ¬ fn.name = "runtime.NumGoroutine" := by simpa using hn
  simp [callFunc, hf, hn', hb]
 have heq : (Result.ok n w1 : Result Next) = .ok (.enter f args.toArray) w := hrun.symm.trans hrun'
 injection heq with e1 e2
 subst e1; subst e2
 rcases hres with ⟨v, hv, _⟩ | ⟨_, hcalls⟩ | ⟨row, as_, hv, _⟩
 ·cases hv
 ·refine hcalls.mono ?_
  intro e w' he
  cases e with
  | returned v =>
   obtain ⟨_, G', _, hch, _, _, hm, _⟩ := he
   refine ⟨by rw [hm.boolV], hch.os, hch.tape, hch.output, hch.size, fun k hk => ?_⟩
   exact (hch.pb.per k (by simp [perG, hk])).2
  | panicked c => exact he.elim
  | outgrown => exact he.elim
 ·cases hv
theorem vars_after {H : Type} {enc : TypeId × Value → H} {P : Program} {W W' : World} {n : String} {g t : Nat} {csv : Array Value} {fuel : Nat} {d : DataW H} {p : List MemPlace} {ms : Array (String × TypeId)} {x : Value}
  (hg : P.globalNamed n = some g) (ht : (P.globals[g]?).map (·.type) = some t) (hv : W.var? P n = some csv) (hd : DataW.trod enc P W 0 (fun _ => true) true fuel t csv.toList = some (d, p)) (bel : Below W.heap.size W W')
  (hi : P.underlying t = some (.interface ms)) (hx : csv = #[x]) (ix : IsIface x) : DataW.TrodVars enc P W' (fun b => decide (b < W.heap.size)) [n] [d] (MemPlace.row ⟨g, 0, none⟩ csv.size ++ []) := by
 subst hx
 cases fuel with
 | zero => simp [DataW.trod] at hd
 | succ m =>
  rw [show (#[x] : Array Value).toList = [x] from rfl, trod_held hi ix m] at hd
  cases hd
  have hv' : W'.var? P n = some #[x] := by
   rw [← hv]
   unfold World.var?
   rw [hg]
   simp only [Option.bind_some]
   rw [bel.block g (by
    unfold World.var? at hv
    rw [hg] at hv
    simp only [Option.bind_some] at hv
    rcases Nat.lt_or_ge g W.heap.size with h | h
    ·exact h
    ·rw [Array.getElem?_eq_none h] at hv; cases hv)]
  exact Go.ChangeShapes.trodVars_mk1 hg ht hv' (trod_held hi ix m)
theorem err_mk {w : World} {C : Array Value} {t : TypeId} {fz : Nat × Nat} {A : Addr} (h : w.heap[errB]? = some (.cells C t fz)) (h2 : C.toList = [.iface errT (.pointer (some A))]) : ErrOk (perG w).g w := by
 have hlt : errB < w.heap.size := by
  rcases Nat.lt_or_ge errB w.heap.size with h' | h'
  ·exact h'
  ·rw [Array.getElem?_eq_none h'] at h; cases h
 exact fun _ => ⟨by simp [perG, hlt], C, t, fz, A, h, h2⟩
end Go.Sx

namespace Go.Proofs
open Go.RowKit Go.Shelf
attribute [local go_sem] Oper.semAt_some
def volUp {α : Type} (f : Nat → α) (k : Nat) : List α := (List.range k).map f
theorem volUp_succ {α : Type} (f : Nat → α) (k : Nat) : volUp f (k + 1) = volUp f k ++ [f k] := by simp [volUp, List.range_succ]
theorem volUp_length {α : Type} (f : Nat → α) (k : Nat) : (volUp f k).length = k := by simp [volUp]
theorem vol_new (W : World) (v : Value) (t : TypeId) : (W.alloc (.cells #[v] t)).cell? ⟨W.heap.size, 0, none⟩ = some v ∧ (W.alloc (.cells #[v] t)).frozen? ⟨W.heap.size, 0, none⟩ = false := by
 have h : (W.alloc (.cells #[v] t)).heap[W.heap.size]? = some (.cells #[v] t (0, 0)) := World.alloc_heap_new W (.cells #[v] t)
 constructor
 ·rw [World.cell?, h]; rfl
 ·rw [World.frozen?, h]; rfl
theorem vol_cell {W : World} {a : Addr} {v : Value} (o : Obj) (h : W.cell? a = some v) : (W.alloc o).cell? a = some v := cell_kept h (World.grownBy_alloc W o none) (fun r e => by cases e)
theorem vol_frozen {W : World} {a : Addr} {v : Value} (o : Obj) (h : W.cell? a = some v) (hf : W.frozen? a = false) : (W.alloc o).frozen? a = false := (frozen_kept h (World.grownBy_alloc W o none) (fun r e => by cases e)).trans hf
abbrev volE (x : Nat × UInt8) : Array Value := #[.int .i64 ((x.1 : Int) + 1), .int .u8 (x.2.toNat : Int)]
set_option maxRecDepth 100000 in
set_option maxHeartbeats 1000000 in
theorem vol162_in (F : Fence) (n : Nat) (h8 : F.fn 162) (hro : F.round = none) (hn : 1 ≤ n) (l Bs n₀ : Nat) (s : ByteArray) (hreach : s.size ≤ 140737488355328) (hb : Bs < n₀) (J Jx : List (Nat × UInt8) → World → Prop)
  (hY : ∀ pre x W, J pre W → pre.length < s.size → YieldAt F (n - 1) Tryz.prog l (volE x) W fun e W' =>
   (e = .returned (.bool true) ∧ J (pre ++ [x]) W' ∧ Below n₀ W W') ∨ (e = .returned (.bool false) ∧ Jx (pre ++ [x]) W'))
  (W : World) (hBs : W.cell? ⟨Bs, 0, none⟩ = some (.string s)) (h0 : J [] W) :
  CallsIn F n Tryz.prog 162 #[.func (.yield l) #[] #[], .pointer (some ⟨Bs, 0, none⟩)] W fun e W' => (∃ v, e = .returned v) ∧
   ((∃ ys, ys = volUp (fun j => (j, s.data[j]?.getD 0)) s.size ∧ J ys W') ∨ (∃ pre, (∃ k, k ≤ s.size ∧ pre = volUp (fun j => (j, s.data[j]?.getD 0)) k) ∧ Jx pre W')) := by
 refine callsIn_of_wp Tryz.func162 rfl h8 ?_ hro
 simp only [Tryz.ntmps162, List.size_toArray, List.length_cons, List.length_nil, Nat.reduceAdd, Nat.reduceSub, Array.replicate_succ, Array.replicate_zero, List.push_toArray, List.append_toArray, List.nil_append, List.cons_append]
 gi_wp2
 gi_loopw [6] (fun i wr => ∃ k : Nat, k ≤ s.size ∧ i = .int .i64 k ∧ J (volUp (fun j => (j, s.data[j]?.getD 0)) k) wr ∧ Below n₀ W wr)
  (fun i _ => s.size - (intOf i).toNat)
 case atStart => exact ⟨0, Nat.zero_le _, rfl, h0, Below.refl _ _⟩
 case round =>
  obtain ⟨k, hk, rfl, hJs, hnx⟩ := hrel
  have hcx : wr.cell? ⟨Bs, 0, none⟩ = some (.string s) := (hnx.cell (p := ⟨Bs, 0, none⟩) hb).trans hBs
  by_cases hlt : k < s.size
  ·obtain ⟨fn, tmps, assign, body, hy, hR⟩ := hY _ (k, s.data[k]?.getD 0) wr hJs (by rw [volUp_length]; exact hlt)
   dsimp only [volE] at hy
   have e : s.data[k]?.getD 0 = s[k]'hlt := by
    have h : k < s.data.size := hlt
    rw [Array.getElem?_eq_getElem h]
    rfl
   rw [e] at hy
   gi_wp2
   refine hR.mono ?_
   rintro e W3 (⟨rfl, hJ3, hk3⟩ | ⟨rfl, hJx3⟩)
   ·gi_wp2
    go_roundw
    case rel => exact ⟨k + 1, by omega, by simp, by rw [volUp_succ]; exact hJ3, hnx.trans hk3⟩
    case measure => simp [intOf]; omega
   ·gi_wp2
    refine bodyPost_ret (results_none rfl _ _ _) rfl ?_
    exact ⟨⟨_, rfl⟩, .inr ⟨_, ⟨k + 1, by omega, (volUp_succ _ _).symm⟩, hJx3⟩⟩
  ·obtain rfl : k = s.size := by omega
   gi_wp2
   go_end0
   exact ⟨⟨_, rfl⟩, .inl ⟨_, rfl, hJs⟩⟩
theorem vol_stops (F : Fence) (n : Nat) (h8 : F.fn 162) (hro : F.round = none) (hn : 1 ≤ n) (Bs n₀ : Nat) (s : ByteArray) (hreach : s.size ≤ 140737488355328) (w : World) (hn₀ : n₀ ≤ w.heap.size) (hb : Bs < n₀) (hc : w.cell? ⟨Bs, 0, none⟩ = some (.string s)) :
  SeqStopsK F n Tryz.prog 162 #[.pointer (some ⟨Bs, 0, none⟩)] volE (Below n₀) (fun xs => xs = volUp (fun j => (j, s.data[j]?.getD 0)) s.size)
   (fun pre => ∃ k, k ≤ s.size ∧ pre = volUp (fun j => (j, s.data[j]?.getD 0)) k) s.size w := fun l J Jx W hW _ _ hY h0 =>
 vol162_in F n h8 hro hn l Bs n₀ s hreach hb J Jx hY W ((hW.cell (p := ⟨Bs, 0, none⟩) (Nat.lt_of_lt_of_le hb hn₀)).trans hc) h0
set_option maxRecDepth 100000 in
set_option maxHeartbeats 2000000 in
theorem vol138_in (F : Fence) (n : Nat) (h : F.fn 138) (hro : F.round = none) (s : ByteArray) (w : World) :
  CallsIn F n Tryz.prog 138 #[.string s] w fun e W' => e = .returned (.func (.func 162) #[] #[.pointer (some ⟨w.heap.size, 0, none⟩)]) ∧ W' = w.alloc (.cells #[.string s] 9) := by
 refine callsIn_of_wp Tryz.func138 rfl h ?_ hro
 simp only [Tryz.ntmps138, List.size_toArray, List.length_cons, List.length_nil, Nat.reduceAdd, Nat.reduceSub, Array.replicate_succ, Array.replicate_zero, List.push_toArray, List.append_toArray, List.nil_append, List.cons_append]
 gi_wp2
 go_ret
 exact ⟨rfl, rfl⟩
def volOk (s : ByteArray) : Bool := !(s.size == 0) && decide (s.size ≤ 3) && s.data.toList.all (fun c => decide (97 ≤ c.toNat) && decide (c.toNat ≤ 122))
def volP (c : UInt8) : Bool := decide (97 ≤ c.toNat) && decide (c.toNat ≤ 122)
def volA (pre : List (Nat × UInt8)) : Bool := pre.all (fun y => volP y.2)
theorem vol_take (s : ByteArray) (k : Nat) (hk : k ≤ s.size) : volA (volUp (fun j => (j, s.data[j]?.getD 0)) k) = (s.data.toList.take k).all volP := by
 have h : (volUp (fun j => (j, s.data[j]?.getD 0)) k).map (·.2) = s.data.toList.take k := by
  apply List.ext_getElem
  ·have : k ≤ s.data.size := hk
   simp [volUp]; omega
  ·intro i h1 h2
   have h3 : i < s.data.size := by rw [List.length_take, Array.length_toList] at h2; omega
   simp [volUp]
   rw [Array.getElem?_eq_getElem h3]; rfl
 rw [← h, List.all_map]; rfl
theorem vol_good {pre : List (Nat × UInt8)} {x : Nat × UInt8} (h : volA pre = true) (h1 : 97 ≤ (x.2.toNat : Int)) (h2 : (x.2.toNat : Int) ≤ 122) : volA (pre ++ [x]) = true := by
 unfold volA at *; rw [List.all_append, h]; simp [volP]; omega
theorem vol_bad {pre : List (Nat × UInt8)} {x : Nat × UInt8} (h : (x.2.toNat : Int) < 97 ∨ 122 < (x.2.toNat : Int)) : volA (pre ++ [x]) = false := by
 unfold volA; rw [List.all_append]; simp [volP]; omega
theorem vol_yes {s : ByteArray} (h0 : s.size ≠ 0) (h3 : s.size ≤ 3) (h : volA (volUp (fun j => (j, s.data[j]?.getD 0)) s.size) = true) : volOk s = true := by
 rw [vol_take s s.size (Nat.le_refl _)] at h
 rw [List.take_of_length_le (by simp)] at h
 unfold volOk
 rw [show (fun c : UInt8 => decide (97 ≤ c.toNat) && decide (c.toNat ≤ 122)) = volP from rfl, h]
 simp [h0, h3]
theorem vol_no {s : ByteArray} {pre : List (Nat × UInt8)} (hp : ∃ k, k ≤ s.size ∧ pre = volUp (fun j => (j, s.data[j]?.getD 0)) k) (h : volA pre = false) : volOk s = false := by
 obtain ⟨k, hk, rfl⟩ := hp
 rw [vol_take s k hk] at h
 unfold volOk
 rw [show (fun c : UInt8 => decide (97 ≤ c.toNat) && decide (c.toNat ≤ 122)) = volP from rfl]
 have : s.data.toList.all volP = false := by
  rw [← List.take_append_drop k s.data.toList, List.all_append, h]; rfl
 rw [this]; simp
end Go.Proofs

namespace Go.Proofs
open Go.RowKit Go.Shelf
attribute [local go_sem] Oper.semAt_some
abbrev WX := { x : Nat × UInt8 // x.1 < 1000000 }
abbrev weiE (x : WX) : Array Value := volE x.val
def weiF (s : ByteArray) (j : Nat) : WX := ⟨(min j 999999, s.data[j]?.getD 0), by show min j 999999 < 1000000; omega⟩
set_option maxRecDepth 100000 in
set_option maxHeartbeats 1000000 in
theorem weiB_in (F : Fence) (n : Nat) (h8 : F.fn 162) (hro : F.round = none) (hn : 1 ≤ n) (l Bs : Nat) (s : ByteArray) (hreach : s.size ≤ 1000000) (J Jx : List WX → World → Prop)
  (hY : ∀ pre x W, J pre W → pre.length < s.size → YieldAt F (n - 1) Tryz.prog l (weiE x) W fun e W' =>
   (e = .returned (.bool true) ∧ J (pre ++ [x]) W' ∧ W'.heap[Bs]? = W.heap[Bs]?) ∨ (e = .returned (.bool false) ∧ Jx (pre ++ [x]) W'))
  (W : World) (hBs : W.cell? ⟨Bs, 0, none⟩ = some (.string s)) (h0 : J [] W) :
  CallsIn F n Tryz.prog 162 #[.func (.yield l) #[] #[], .pointer (some ⟨Bs, 0, none⟩)] W fun e W' => (∃ v, e = .returned v) ∧
   ((∃ ys, ys = volUp (weiF s) s.size ∧ J ys W') ∨ (∃ pre, (∃ k, k ≤ s.size ∧ pre = volUp (weiF s) k) ∧ Jx pre W')) := by
 refine callsIn_of_wp Tryz.func162 rfl h8 ?_ hro
 simp only [Tryz.ntmps162, List.size_toArray, List.length_cons, List.length_nil, Nat.reduceAdd, Nat.reduceSub, Array.replicate_succ, Array.replicate_zero, List.push_toArray, List.append_toArray, List.nil_append, List.cons_append]
 gi_wp2
 gi_loopw [6] (fun i wr => ∃ k : Nat, k ≤ s.size ∧ i = .int .i64 k ∧ J (volUp (weiF s) k) wr ∧ wr.heap[Bs]? = W.heap[Bs]?)
  (fun i _ => s.size - (intOf i).toNat)
 case atStart => exact ⟨0, Nat.zero_le _, rfl, h0, rfl⟩
 case round =>
  obtain ⟨k, hk, rfl, hJs, hnx⟩ := hrel
  have hcx : wr.cell? ⟨Bs, 0, none⟩ = some (.string s) := by
   have : wr.cell? ⟨Bs, 0, none⟩ = W.cell? ⟨Bs, 0, none⟩ := by simp only [World.cell?, hnx]
   exact this.trans hBs
  by_cases hlt : k < s.size
  ·obtain ⟨fn, tmps, assign, body, hy, hR⟩ := hY _ (weiF s k) wr hJs (by rw [volUp_length]; exact hlt)
   dsimp only [weiE, volE, weiF] at hy
   rw [show min k 999999 = k by omega] at hy
   have e : s.data[k]?.getD 0 = s[k]'hlt := by
    have h : k < s.data.size := hlt
    rw [Array.getElem?_eq_getElem h]
    rfl
   rw [e] at hy
   gi_wp2
   refine hR.mono ?_
   rintro e W3 (⟨rfl, hJ3, hk3⟩ | ⟨rfl, hJx3⟩)
   ·gi_wp2
    go_roundw
    case rel => exact ⟨k + 1, by omega, by simp, by rw [volUp_succ]; exact hJ3, hk3.trans hnx⟩
    case measure => simp [intOf]; omega
   ·gi_wp2
    refine bodyPost_ret (results_none rfl _ _ _) rfl ?_
    exact ⟨⟨_, rfl⟩, .inr ⟨_, ⟨k + 1, by omega, (volUp_succ _ _).symm⟩, hJx3⟩⟩
  ·obtain rfl : k = s.size := by omega
   gi_wp2
   go_end0
   exact ⟨⟨_, rfl⟩, .inl ⟨_, rfl, hJs⟩⟩
theorem wei_stops (F : Fence) (n : Nat) (h8 : F.fn 162) (hro : F.round = none) (hn : 1 ≤ n) (Bs : Nat) (s : ByteArray) (hreach : s.size ≤ 1000000) (w : World) (hb : Bs < w.heap.size) (hc : w.cell? ⟨Bs, 0, none⟩ = some (.string s)) :
  SeqStopsK F n Tryz.prog 162 #[.pointer (some ⟨Bs, 0, none⟩)] weiE (fun W W' => W'.heap[Bs]? = W.heap[Bs]?) (fun xs => xs = volUp (weiF s) s.size)
   (fun pre => ∃ k, k ≤ s.size ∧ pre = volUp (weiF s) k) s.size w := fun l J Jx W hW _ _ hY h0 =>
 weiB_in F n h8 hro hn l Bs s hreach J Jx hY W ((hW.cell (p := ⟨Bs, 0, none⟩) hb).trans hc) h0
def weiS (pre : List WX) : Int := pre.foldl (fun a x => a + (x.val.2.toNat : Int) * (65536 + ((x.val.1 : Int) + 1))) 0
theorem weiS_add (pre : List WX) (x : WX) : weiS (pre ++ [x]) = weiS pre + (x.val.2.toNat : Int) * (65536 + ((x.val.1 : Int) + 1)) := by simp [weiS]
theorem wei_one (x : WX) : 0 ≤ (x.val.2.toNat : Int) * (65536 + ((x.val.1 : Int) + 1)) ∧ (x.val.2.toNat : Int) * (65536 + ((x.val.1 : Int) + 1)) ≤ 300000000 := by
 have h1 : x.val.2.toNat < 256 := x.val.2.toNat_lt
 have h2 := x.property
 refine ⟨Int.mul_nonneg (by omega) (by omega), ?_⟩
 have := Int.mul_le_mul (a := (x.val.2.toNat : Int)) (b := 65536 + ((x.val.1 : Int) + 1)) (c := 255) (d := 1065536) (by omega) (by omega) (by omega) (by omega)
 omega
theorem weiS_bd : ∀ (n : Nat) (pre : List WX), pre.length = n → 0 ≤ weiS pre ∧ weiS pre ≤ (pre.length : Int) * 300000000 := by
 intro n
 induction n with
 | zero => intro pre h; rw [List.eq_nil_of_length_eq_zero h]; simp [weiS]
 | succ n ih =>
  intro pre h
  have hne : pre ≠ [] := by rintro rfl; cases h
  obtain ⟨q, x, rfl⟩ : ∃ q x, pre = q ++ [x] := ⟨pre.dropLast, pre.getLast hne, (List.dropLast_concat_getLast hne).symm⟩
  have h1 := ih q (by simpa using h)
  have h2 := wei_one x
  rw [weiS_add]
  simp only [List.length_append, List.length_cons, List.length_nil]
  push_cast
  omega
def weiUp (s : ByteArray) (k : Nat) : List WX := volUp (weiF s) k
set_option maxRecDepth 100000 in
set_option maxHeartbeats 2000000 in
theorem wei_in (F : Fence) (n : Nat) (h41 : F.fn 86) (h53 : F.fn 138) (h55 : F.fn 162) (hro : F.round = none) (hn : 3 ≤ n) (s : ByteArray) (hreach : s.size ≤ 1000000) (w : World) :
  CallsIn F n Tryz.prog 86 #[.string s] w fun e W' => e = .returned (.int .i64 (weiS (weiUp s s.size))) ∧ Below w.heap.size w W' := by
 have h1 : 1 ≤ n := by omega
 refine callsIn_of_wp_marks Tryz.func86 rfl h41 ?_ hro
 simp only [Tryz.ntmps86, List.size_toArray, List.length_cons, List.length_nil, Nat.reduceAdd, Nat.reduceSub, Array.replicate_succ, Array.replicate_zero, List.push_toArray, List.append_toArray, List.nil_append, List.cons_append]
 gi_wp2_with (gi_at_call 138; refine (vol138_in F (n - 1) h53 hro _ _).mono ?_; rintro e w' ⟨rfl, rfl⟩)
 have c1 := vol_new w (.int .i64 0) 3
 have c2 := vol_new (w.alloc (.cells #[.int .i64 0] 3)) (.string s) 9
 simp only [World.size_alloc] at c2
 have hB0 : Below w.heap.size w ((w.alloc (.cells #[.int .i64 0] 3)).alloc (.cells #[.string s] 9)) := ((Below.refl _ w).alloc (Nat.le_refl _) _).alloc (by simp) _
 refine wpIn_rangeFunc_ownF hro h1 (gf := 162) (lb := #[.pointer (some ⟨w.heap.size + 1, 0, none⟩)]) rfl h55 (enters_of Tryz.func162 (by kernel_rfl) rfl)
  (wei_stops F (n - 1) h55 hro (by omega) (w.heap.size + 1) s hreach _ (by simp) c2.1) (fun h k => k.trans h) (fun W l o o' hl _ _ _ => World.putObj_heap_other (by simp at hl; omega)) (Below.refl _ _) (fun _ => rfl)
  (fun pre W => (W.cell? ⟨w.heap.size, 0, none⟩ = some (.int .i64 (weiS pre)) ∧ W.frozen? ⟨w.heap.size, 0, none⟩ = false) ∧ Below w.heap.size w W)
  (fun _ _ _ => False)
  (OwnFrom.and (Own.from (fun s A B row hs hg hr => ⟨cell_kept hs.1 hg hr, (frozen_kept hs.1 hg hr).trans hs.2⟩) _) (ownFrom_below (Nat.le_refl _) (by simp; omega)))
  (fun c => Own.from (fun s A B row hs hg hr => hs) _)
  ⟨⟨vol_cell _ c1.1, vol_frozen _ c1.1 c1.2⟩, hB0⟩
  (fun x => { tmps := #[.string s, undef, .int .i64 0, .pointer (some ⟨w.heap.size, 0, none⟩), .int .i64 ((x.val.1 : Int) + 1), .int .u8 (x.val.2.toNat : Int), .string s, .func (.func 162) #[] #[.pointer (some ⟨w.heap.size + 1, 0, none⟩)], .int .i64 ((x.val.1 : Int) + 1), .int .u8 (x.val.2.toNat : Int), undef, undef, undef, undef, undef, undef, undef, undef], defers := [] }) ?assign ?body ?done ?stop
 case assign =>
  intro l x W K hK
  gi_wp2
  exact hK
 case body =>
  rintro l pre x W ⟨⟨hcr, hfr⟩, hB⟩ hlt
  have hb := weiS_bd _ pre rfl
  have hb1 := wei_one x
  have hu : x.val.2.toNat < 256 := x.val.2.toNat_lt
  have hp := x.property
  gi_wp2
  exact ⟨KeepsOthers.setCell _ _ _, Below.heap_setCell _ _ _ _ (by show w.heap.size + 1 ≠ w.heap.size; omega), ⟨by rw [weiS_add]; exact World.cell?_setCell_same' _ _ _ (by rw [hcr]; rfl), by rw [World.frozen?_setCell]; exact hfr⟩, hB.setCell (p := ⟨w.heap.size, 0, none⟩) (by simp) _⟩
 case done =>
  rintro D ys W hD rfl ⟨⟨hcr, hfr⟩, hB⟩ hK
  gi_wp2
  refine ⟨by simp, .inl ⟨_, _, rfl, run_takeDeferred hK, ?_⟩⟩
  refine ⟨.int .i64 (weiS (weiUp s s.size)), ?_, rfl, hB.trans (belowK_b (w := w) (Nat.le_refl _) _ D _ _ (by simp at hD; omega) hK rfl rfl)⟩
  simp [results, Tryz.f86, go_sem, weiUp]
 case stop =>
  rintro D c pre W hD hpre h hK
  exact h.elim
end Go.Proofs

namespace Go.Sx
open Go
set_option maxRecDepth 100000
set_option linter.unusedVariables false
set_option linter.unusedSimpArgs false
abbrev T_Put : Ty := (.pr .bool (.pr (.int .i64) .str))
abbrev T_Disk : Ty := (.pr (.int .i64) (.pr (.sl .str) (.pr (.sl .str) (.pr (.sl .bool) (.sl T_Put)))))
abbrev T_Place : Ty := (.pr (.int .i64) (.int .i64))
abbrev T_Ptr : Ty := (.pr (.int .i64) (.pr (.int .i64) (.sl T_Place)))
abbrev TL_Put : Ty := (.pr .bool (.pr (.int .i64) .str))
abbrev TL_Disk : Ty := (.pr (.int .i64) (.pr (.sl .str) (.pr (.sl .str) (.pr (.sl .bool) (.sl TL_Put)))))
abbrev TL_Place : Ty := (.pr (.int .i64) (.int .i64))
abbrev TL_Ptr : Ty := (.pr (.int .i64) (.pr (.int .i64) (.sl TL_Place)))
abbrev TL_Vol : Ty := (.pr .str (.sl TL_Ptr))
abbrev TL_Root : Ty := (.pr (.int .i64) (.sl TL_Vol))
abbrev TL_Pool : Ty := (.pr (.sl TL_Disk) (.pr .bool (.pr TL_Root TL_Root)))
abbrev T_Vol : Ty := (.pr .str (.sl T_Ptr))
abbrev T_Root : Ty := (.pr (.int .i64) (.sl T_Vol))
abbrev T_Pool : Ty := (.pr (.sl T_Disk) (.pr .bool (.pr T_Root T_Root)))
abbrev T_l6Rd : Ty := (.pr (.sl (.int .u8)) (.int .i64))
abbrev T_harmed : Ty := (.pr (.int .i64) (.arr 12 .bool))
abbrev T_drive : Ty := (.pr T_harmed (.pr (.arr 12 .str) (.pr (.arr 2 .str) .pt)))
abbrev T_waiting : Ty := (.pr T_Put .pt)
def tt : TT := [⟨2, (.int .i64), false, 0, 0, 8, []⟩, ⟨3, (.int .i64), false, 0, 0, 8, []⟩, ⟨4, .bool, false, 0, 0, 1, []⟩, ⟨5, (.int .u8), false, 0, 0, 1, []⟩, ⟨6, (.int .u8), false, 0, 0, 1, []⟩, ⟨7, (.pr (.int .i64) (.pr (.int .i64) (.pr .bool (.int .u8)))), true, 4, 0, 24, [2, 3, 4, 6]⟩, ⟨8, (.pr (.int .i64) (.pr (.int .i64) (.pr .bool (.int .u8)))), true, 4, 0, 24, [2, 3, 4, 6]⟩, ⟨9, .str, false, 0, 0, 16, []⟩, ⟨10, .str, false, 0, 0, 16, []⟩, ⟨11, .str, false, 0, 0, 16, []⟩, ⟨12, (.int .u64), false, 0, 0, 8, []⟩, ⟨13, (.pr .str (.int .u64)), true, 2, 0, 24, [9, 12]⟩, ⟨14, (.pr .str (.int .u64)), true, 2, 0, 24, [9, 12]⟩, ⟨21, (.int .i32), false, 0, 0, 4, []⟩, ⟨22, (.sl (.int .u8)), false, 0, 5, 24, []⟩, ⟨23, (.sl T_Disk), false, 0, 38, 24, []⟩, ⟨24, (.sl T_Place), false, 0, 41, 24, []⟩, ⟨25, (.pr (.int .i64) (.pr (.int .i64) (.sl T_Place))), true, 3, 0, 40, [3, 3, 24]⟩, ⟨26, T_Ptr, true, 3, 0, 40, [3, 3, 24]⟩, ⟨34, (.sl .str), false, 0, 9, 24, []⟩, ⟨35, (.sl .bool), false, 0, 4, 24, []⟩, ⟨36, (.sl T_Put), false, 0, 120, 24, []⟩, ⟨37, (.pr (.int .i64) (.pr (.sl .str) (.pr (.sl .str) (.pr (.sl .bool) (.sl T_Put))))), true, 5, 0, 104, [3, 34, 34, 35, 36]⟩, ⟨38, T_Disk, true, 5, 0, 104, [3, 34, 34, 35, 36]⟩, ⟨40, (.pr (.int .i64) (.int .i64)), true, 2, 0, 16, [3, 3]⟩, ⟨41, T_Place, true, 2, 0, 16, [3, 3]⟩, ⟨43, (.sl TL_Disk), false, 0, 99, 24, []⟩, ⟨44, (.sl TL_Place), false, 0, 149, 24, []⟩, ⟨45, (.pr (.int .i64) (.pr (.int .i64) (.sl TL_Place))), true, 3, 0, 40, [3, 3, 44]⟩, ⟨46, TL_Ptr, true, 3, 0, 40, [3, 3, 44]⟩, ⟨55, (.sl TL_Vol), false, 0, 182, 24, []⟩, ⟨56, (.pr (.int .i64) (.sl TL_Vol)), true, 2, 0, 32, [3, 55]⟩, ⟨57, TL_Root, true, 2, 0, 32, [3, 55]⟩, ⟨58, (.pr (.sl TL_Disk) (.pr .bool (.pr TL_Root TL_Root))), true, 4, 0, 96, [43, 4, 57, 57]⟩, ⟨59, TL_Pool, true, 4, 0, 96, [43, 4, 57, 57]⟩, ⟨60, (.sl (.int .i64)), false, 0, 3, 24, []⟩, ⟨62, (.sl T_Vol), false, 0, 185, 24, []⟩, ⟨63, (.pr (.int .i64) (.sl T_Vol)), true, 2, 0, 32, [3, 62]⟩, ⟨64, T_Root, true, 2, 0, 32, [3, 62]⟩, ⟨65, (.pr (.sl T_Disk) (.pr .bool (.pr T_Root T_Root))), true, 4, 0, 96, [23, 4, 64, 64]⟩, ⟨66, T_Pool, true, 4, 0, 96, [23, 4, 64, 64]⟩, ⟨75, .pt, false, 0, 0, 8, []⟩, ⟨92, .pt, false, 0, 0, 8, []⟩, ⟨97, (.sl TL_Put), false, 0, 176, 24, []⟩, ⟨98, (.pr (.int .i64) (.pr (.sl .str) (.pr (.sl .str) (.pr (.sl .bool) (.sl TL_Put))))), true, 5, 0, 104, [3, 34, 34, 35, 97]⟩, ⟨99, TL_Disk, true, 5, 0, 104, [3, 34, 34, 35, 97]⟩, ⟨114, (.pr (.sl (.int .u8)) (.int .i64)), true, 2, 0, 32, [22, 3]⟩, ⟨115, T_l6Rd, true, 2, 0, 32, [22, 3]⟩, ⟨119, (.pr .bool (.pr (.int .i64) .str)), true, 3, 0, 32, [4, 3, 9]⟩, ⟨120, T_Put, true, 3, 0, 32, [4, 3, 9]⟩, ⟨130, (.arr 12 .bool), true, 0, 4, 12, []⟩, ⟨131, (.pr (.int .i64) (.arr 12 .bool)), true, 2, 0, 24, [3, 130]⟩, ⟨132, T_harmed, true, 2, 0, 24, [3, 130]⟩, ⟨133, (.arr 12 .str), true, 0, 9, 192, []⟩, ⟨134, (.arr 2 .str), true, 0, 9, 32, []⟩, ⟨135, .pt, false, 0, 0, 8, []⟩, ⟨136, (.pr T_harmed (.pr (.arr 12 .str) (.pr (.arr 2 .str) .pt))), true, 4, 0, 256, [132, 133, 134, 135]⟩, ⟨137, T_drive, true, 4, 0, 256, [132, 133, 134, 135]⟩, ⟨141, (.pr T_Put .pt), true, 2, 0, 40, [120, 135]⟩, ⟨142, T_waiting, true, 2, 0, 40, [120, 135]⟩, ⟨149, TL_Place, true, 2, 0, 16, [3, 3]⟩, ⟨176, TL_Put, true, 3, 0, 32, [4, 3, 9]⟩, ⟨180, (.sl TL_Ptr), false, 0, 46, 24, []⟩, ⟨181, (.pr .str (.sl TL_Ptr)), true, 2, 0, 40, [9, 180]⟩, ⟨182, TL_Vol, true, 2, 0, 40, [9, 180]⟩, ⟨183, (.sl T_Ptr), false, 0, 26, 24, []⟩, ⟨184, (.pr .str (.sl T_Ptr)), true, 2, 0, 40, [9, 183]⟩, ⟨185, T_Vol, true, 2, 0, 40, [9, 183]⟩, ⟨194, (.int .u64), false, 0, 0, 8, []⟩, ⟨202, .er, false, 0, 0, 16, []⟩, ⟨209, (.int .u8), false, 0, 0, 1, []⟩, ⟨213, (.int .u32), false, 0, 0, 4, []⟩, ⟨216, (.int .u64), false, 0, 0, 8, []⟩, ⟨228, (.int .u8), false, 0, 0, 1, []⟩, ⟨229, (.int .u8), false, 0, 0, 1, []⟩, ⟨231, (.int .i32), false, 0, 0, 4, []⟩, ⟨232, (.int .i32), false, 0, 0, 4, []⟩, ⟨22, (.sl (.int .u8)), false, 0, 5, 24, []⟩, ⟨34, (.sl .str), false, 0, 9, 24, []⟩]
theorem ttok : TtOk Proofs.Tryz.prog tt := by
 refine ⟨?_, by kernel_rfl⟩
 intro te h
 simp only [tt, List.mem_cons, List.not_mem_nil, or_false] at h
 rcases h with rfl | rfl | rfl | rfl | rfl | rfl | rfl | rfl | rfl | rfl | rfl | rfl | rfl | rfl | rfl | rfl | rfl | rfl | rfl | rfl | rfl | rfl | rfl | rfl | rfl | rfl | rfl | rfl | rfl | rfl | rfl | rfl | rfl | rfl | rfl | rfl | rfl | rfl | rfl | rfl | rfl | rfl | rfl | rfl | rfl | rfl | rfl | rfl | rfl | rfl | rfl | rfl | rfl | rfl | rfl | rfl | rfl | rfl | rfl | rfl | rfl | rfl | rfl | rfl | rfl | rfl | rfl | rfl | rfl | rfl | rfl | rfl | rfl | rfl | rfl | rfl | rfl | rfl | rfl <;> exact ⟨by kernel_rfl, by kernel_rfl, by kernel_rfl, by kernel_rfl⟩
def mt : MT := [(41, 41, 0), (120, 120, 0)]
theorem mtok : MtOk Proofs.Tryz.prog mt := .eqs (by kernel_rfl) (.eqs (by kernel_rfl) (.nil))
instance : Jg Proofs.Tryz.prog := loneJ _
end Go.Sx

namespace Go.Sx
open Go
theorem drop_at {α : Type} {l : List α} {i : Nat} (h : i < l.length) : l.drop i = l[i] :: l.drop (i + 1) := by simp
def idxFGo {α : Type} (p : α → Bool) : List α → Nat → Int
 | [], _ => -1
 | s :: r, i => if p s then (i : Int) else idxFGo p r (i + 1)
def idxF {α : Type} (p : α → Bool) (l : List α) : Int := idxFGo p l 0
theorem idxF_next {α : Type} {p : α → Bool} {l : List α} {i : Nat} {v : Int} (hlt : i < l.length) (h : idxFGo p (l.drop i) i = v) (hp : p l[i] = false) : idxFGo p (l.drop (i + 1)) (i + 1) = v := by
 rw [drop_at hlt] at h; simpa [idxFGo, hp] using h
theorem idxF_hit {α : Type} {p : α → Bool} {l : List α} {i : Nat} {v : Int} (hlt : i < l.length) (h : idxFGo p (l.drop i) i = v) (hp : p l[i] = true) : v = i := by
 rw [drop_at hlt] at h; simp [idxFGo, hp] at h; exact h.symm
theorem idxF_end {α : Type} {p : α → Bool} {l : List α} {j : Nat} {v : Int} (h : idxFGo p (l.drop l.length) j = v) : v = -1 := by
 rw [List.drop_length] at h; exact h.symm
theorem idxFGo_any {α : Type} {p : α → Bool} : ∀ {l : List α} {i : Nat}, decide (0 ≤ idxFGo p l i) = l.any p := by
 intro l
 induction l with
 | nil => intro i; rfl
 | cons s r ih =>
  intro i
  simp only [idxFGo, List.any_cons]
  by_cases hp : p s = true
  ·simp [hp]
  ·simpa [hp] using ih
theorem idxF_any {α : Type} {p : α → Bool} {l : List α} : decide (0 ≤ idxF p l) = l.any p := idxFGo_any
end Go.Sx

namespace Go.Sx
open Go
def chkGo {α : Type} (f : List α → α → Bool) : List α → List α → Bool
 | _, [] => true
 | pre, x :: r => f pre x && chkGo f (pre ++ [x]) r
def chk {α : Type} (f : List α → α → Bool) (l : List α) : Bool := chkGo f [] l
theorem chk_next {α : Type} {f : List α → α → Bool} {l : List α} {i : Nat} {v : Bool} (hlt : i < l.length) (h : chkGo f (l.take i) (l.drop i) = v) (hf : f (l.take i) l[i] = true) : chkGo f (l.take (i + 1)) (l.drop (i + 1)) = v := by
 rw [drop_at hlt] at h
 simp only [chkGo, hf, Bool.true_and] at h
 rwa [List.take_succ_eq_append_getElem hlt]
theorem chk_hit {α : Type} {f : List α → α → Bool} {l : List α} {i : Nat} {v : Bool} (hlt : i < l.length) (h : chkGo f (l.take i) (l.drop i) = v) (hf : f (l.take i) l[i] = false) : v = false := by
 rw [drop_at hlt] at h
 simp only [chkGo, hf, Bool.false_and] at h
 exact h.symm
theorem chk_end {α : Type} {f : List α → α → Bool} {l pre : List α} {v : Bool} (h : chkGo f pre (l.drop l.length) = v) : v = true := by
 rw [List.drop_length] at h; exact h.symm
theorem chkGo_iff {α : Type} {f : List α → α → Bool} : ∀ {l pre : List α}, chkGo f pre l = true ↔ ∀ i (h : i < l.length), f (pre ++ l.take i) l[i] = true := by
 intro l
 induction l with
 | nil => intro pre; simp [chkGo]
 | cons x r ih =>
  intro pre
  simp only [chkGo, Bool.and_eq_true, ih]
  constructor
  ·rintro ⟨h1, h2⟩ i hi
   cases i with
   | zero => simpa using h1
   | succ i => have := h2 i (by simpa using hi); simpa using this
  ·intro h
   have h0 := h 0 (Nat.zero_lt_succ _)
   simp only [List.take_zero, List.append_nil, List.getElem_cons_zero] at h0
   refine ⟨h0, fun i hi => ?_⟩
   have := h (i + 1) (by simpa using hi)
   simpa using this
theorem chk_iff {α : Type} {f : List α → α → Bool} {l : List α} : chk f l = true ↔ ∀ i (h : i < l.length), f (l.take i) l[i] = true := by
 unfold chk; rw [chkGo_iff]; simp
theorem any_next {α : Type} {p : α → Bool} {l : List α} {i : Nat} (hlt : i < l.length) (h : (l.take i).any p = false) (hp : p l[i] = false) : (l.take (i + 1)).any p = false := by
 rw [List.take_succ_eq_append_getElem hlt, List.any_append, h]; simp [hp]
theorem any_hit {α : Type} {p : α → Bool} {l : List α} {k i : Nat} (hk : k < i) (hlt : k < l.length) (hp : p l[k] = true) : (l.take i).any p = true := by
 rw [List.any_eq_true]
 exact ⟨l[k], List.mem_take_iff_getElem.2 ⟨k, by omega, rfl⟩, hp⟩
theorem any_hit' {α : Type} {p : α → Bool} {l : List α} {k : Nat} (hlt : k < l.length) (hp : p l[k] = true) : l.any p = true := by
 rw [List.any_eq_true]
 exact ⟨l[k], List.getElem_mem hlt, hp⟩
theorem any_end {α : Type} {p : α → Bool} {l : List α} (h : (l.take l.length).any p = false) : l.any p = false := by rwa [List.take_length] at h
theorem eqL_next {α : Type} [DecidableEq α] {a b : List α} {i : Nat} {v : Bool} (h1 : i < a.length) (h2 : i < b.length) (h : decide (a.drop i = b.drop i) = v) (he : a[i] = b[i]) : decide (a.drop (i + 1) = b.drop (i + 1)) = v := by
 rw [drop_at h1, drop_at h2] at h
 simp only [List.cons.injEq, he, true_and] at h
 exact h
theorem eqL_hit {α : Type} [DecidableEq α] {a b : List α} {i : Nat} {v : Bool} (h1 : i < a.length) (h2 : i < b.length) (h : decide (a.drop i = b.drop i) = v) (he : ¬ a[i] = b[i]) : v = false := by
 rw [drop_at h1, drop_at h2] at h
 simp only [List.cons.injEq, he, false_and, decide_false] at h
 exact h.symm
theorem eqL_end {α : Type} [DecidableEq α] {a b : List α} {v : Bool} (hl : a.length = b.length) (h : decide (a.drop a.length = b.drop a.length) = v) : v = true := by
 rw [List.drop_length, hl, List.drop_length] at h
 exact h.symm.trans (by simp)
theorem eqL_len {α : Type} [DecidableEq α] {a b : List α} (h : ¬ a.length = b.length) : decide (a = b) = false := by
 simp only [decide_eq_false_iff_not]
 exact fun e => h (by rw [e])
def catGo {α : Type} (f : α → Str) : List α → Str
 | [] => []
 | x :: r => f x ++ catGo f r
theorem cat_next {α : Type} {f : α → Str} {l : List α} {i : Nat} {o v : Str} (hlt : i < l.length) (h : o ++ catGo f (l.drop i) = v) : (o ++ f l[i]) ++ catGo f (l.drop (i + 1)) = v := by
 rw [drop_at hlt] at h
 simpa [catGo] using h
theorem cat_end {α : Type} {f : α → Str} {l : List α} {o v : Str} (h : o ++ catGo f (l.drop l.length) = v) : o = v := by
 rw [List.drop_length] at h; simpa [catGo] using h
theorem cat_len {α : Type} {f : α → Str} {m : Nat} : ∀ {l : List α}, (∀ x ∈ l, (f x).length ≤ m) → (catGo f l).length ≤ l.length * m := by
 intro l
 induction l with
 | nil => intro _; simp [catGo]
 | cons x r ih =>
  intro h
  have h1 := h x List.mem_cons_self
  have h2 := ih fun y hy => h y (List.mem_cons_of_mem _ hy)
  simp only [catGo, List.length_append, List.length_cons]
  rw [Nat.add_mul]
  omega
theorem flat_next {α β : Type} {f : α → List β} {l : List α} {i : Nat} (hlt : i < l.length) : (l.take i).flatMap f ++ f l[i] = (l.take (i + 1)).flatMap f := by
 rw [List.take_succ_eq_append_getElem hlt]; simp only [List.flatMap_append, List.flatMap_cons, List.flatMap_nil, List.append_nil]
end Go.Sx

namespace Go.Sx
open Go
abbrev Plc := Int × Int
abbrev Ptr_ := Int × Int × List Plc
abbrev Vol_ := Str × List Ptr_
abbrev Root_ := Int × List Vol_
def inV (n lo hi : Int) : Bool := decide (lo ≤ n) && decide (n ≤ hi)
def lower (c : UInt8) : Bool := decide (97 ≤ c.toNat) && decide (c.toNat ≤ 122)
def nameV (s : Str) : Bool := inV s.length 1 3 && s.all lower
def poolV (d : Int) : Bool := inV d 3 4
def noneV (p : Ptr_) : Bool := decide (p.1 = 0) && (decide (p.2.1 = 0) && decide (p.2.2.length = 0))
def mostV (d : Int) : Int := 3 * sMin 3 (d - 1)
def colsV (n : Int) : Int := (n + 3 - 1).tdiv 3
def placeV (d : Int) (a : Plc) : Bool := decide (0 ≤ a.1) && (decide (a.1 < d) && (decide (0 ≤ a.2) && decide (a.2 < 12)))
def placeF (d : Int) (pre : List Plc) (a : Plc) : Bool := placeV d a && !(pre.any fun q => decide (q.1 = a.1))
def sizeV (d : Int) (p : Ptr_) : Bool := inV p.1 1 (mostV d) && (inV p.2.1 0 1000000000 && decide ((p.2.2.length : Int) = colsV p.1 + 1))
def ptrV (d : Int) (p : Ptr_) : Bool := poolV d && (noneV p || (sizeV d p && chk (placeF d) p.2.2))
def ptrW (d : Int) (p : Ptr_) : Bool := if p.1 = 0 then decide (p.2.1 = 0) && decide (p.2.2.length = 0) else sizeV d p && chk (placeF d) p.2.2
def blksOf (l : List Vol_) : List Ptr_ := l.flatMap (·.2)
def volF (d : Int) (pre : List Vol_) (v : Vol_) : Bool := nameV v.1 && (decide (v.2.length = 3) && (!(pre.any fun w => decide (w.1 = v.1)) && v.2.all (ptrV d)))
def volsV (d : Int) (l : List Vol_) : Bool := chk (volF d) l && decide (l.length ≤ 4)
def pairsOf (l : List Ptr_) : List (Plc × Ptr_) := l.flatMap fun p => p.2.2.map fun a => (a, p)
abbrev PK : Ty := .pr (.int .i64) (.int .i64)
def ownGo : List (Plc × Ptr_) → List (Plc × Ptr_) → Bool
 | _, [] => true
 | m, (a, p) :: r => (match mget PK m a with | some q => decide (p = q) | none => true) && ownGo (mset PK m a p) r
def rootV (d : Int) (r : Root_) : Bool := poolV d && (inV r.1 0 100000 && (volsV d r.2 && ownGo [] (pairsOf (blksOf r.2))))
def meetV (p q : Ptr_) : Bool := p.2.2.any fun a => q.2.2.any fun b => decide (a = b)
def volG (pre : List Vol_) (v : Vol_) : Bool := nameV v.1 && (decide (v.2.length = 3) && !(pre.any fun w => decide (w.1 = v.1)))
def ptrG (d : Int) (pre : List Ptr_) (p : Ptr_) : Bool := ptrW d p && !(pre.any fun q => meetV p q && !decide (p = q))
def volsS (d : Int) (l : List Vol_) : Bool := chk volG l && chk (ptrG d) (blksOf l)
def rootS (d : Int) (r : Root_) : Bool := poolV d && (inV r.1 0 100000 && (decide (r.2.length ≤ 4) && volsS d r.2))
def tRoot : Str := [114, 111, 111, 116, 32]
def tVol : Str := [118, 111, 108, 32]
def tSum : Str := [115, 117, 109, 32]
def tPtr : Str := [112, 116, 114]
def tNone : Str := [110, 111, 110, 101, 10]
def itoaV (n : Int) : Str := Lib.itoa n
def wordV (a : Plc) : Str := itoaV a.1 ++ [46] ++ itoaV a.2
def wordsV (p : Ptr_) : List Str := [tPtr, itoaV p.1, itoaV p.2.1] ++ p.2.2.map wordV
def lineV (p : Ptr_) : Str := if noneV p = true then tNone else Lib.join (wordsV p) [32] ++ [10]
def volT (v : Vol_) : Str := (tVol ++ v.1 ++ [10]) ++ catGo lineV v.2
def bodyV (r : Root_) : Str := (tRoot ++ itoaV r.1 ++ [10]) ++ catGo volT r.2
def weighGo : Str → Nat → Int
 | [], _ => 0
 | c :: r, i => (c.toNat : Int) * (65536 + (i : Int) + 1) + weighGo r (i + 1)
def weighV (s : Str) : Int := weighGo s 0
def sealV (s : Str) : Str := s ++ tSum ++ itoaV (weighV s) ++ [10]
def rootT (d : Int) (r : Root_) : Str := if rootV d r = true then sealV (bodyV r) else []
end Go.Sx

namespace Go.Sx
open Go
theorem sMin_bd (d : Int) (h : 3 ≤ d ∧ d ≤ 4) : sMin 3 (d - 1) = d - 1 := by
 unfold sMin
 by_cases h4 : d - 1 < 3
 ·simp [h4]
 ·simp [h4]; omega
theorem colsV_bd {n : Int} (h0 : 0 ≤ n) (h1 : n ≤ 1000000) : 0 ≤ colsV n ∧ colsV n ≤ 1000000 := by
 unfold colsV
 have a : 0 ≤ (n + 3 - 1).tdiv 3 := Int.tdiv_nonneg (by omega) (by decide)
 have b : (n + 3 - 1).tdiv 3 = (n + 3 - 1) / 3 := Int.tdiv_eq_ediv_of_nonneg (by omega)
 omega
theorem not_any {α : Type} {p : α → Bool} {l : List α} : (!(l.any fun x => !p x)) = l.all p := by
 rw [List.all_eq_not_any_not]
def SmallV (l : List Vol_) : Prop := l.length ≤ 100 ∧ ∀ v ∈ l, v.2.length ≤ 100
theorem blks_len' : ∀ {l : List Vol_}, (∀ v ∈ l, v.2.length ≤ 100) → (blksOf l).length ≤ l.length * 100 := by
 intro l
 induction l with
 | nil => intro _; simp [blksOf]
 | cons v r ih =>
  intro h
  have h1 := h v List.mem_cons_self
  have h2 := ih fun y hy => h y (List.mem_cons_of_mem _ hy)
  simp only [blksOf, List.flatMap_cons, List.length_append, List.length_cons] at h2 ⊢
  rw [Nat.add_mul]
  omega
theorem blks_len {l : List Vol_} {i : Nat} (h : SmallV l) : (blksOf (l.take i)).length ≤ 10000 := by
 have h1 := blks_len' (l := l.take i) fun v hv => h.2 v (List.mem_of_mem_take hv)
 have h2 : (l.take i).length ≤ 100 := Nat.le_trans (List.length_take_le' _ _) h.1
 have h3 := Nat.mul_le_mul_right 100 h2
 omega
theorem blks_all {l : List Vol_} (h : SmallV l) : (blksOf l).length ≤ 10000 := by have := blks_len (i := l.length) h; rwa [List.take_length] at this
theorem volsV_small {d : Int} {l : List Vol_} (h : volsV d l = true) : SmallV l := by
 simp only [volsV, Bool.and_eq_true, chk_iff, decide_eq_true_eq] at h
 refine ⟨by omega, fun v hv => ?_⟩
 obtain ⟨i, hi, rfl⟩ := List.getElem_of_mem hv
 have h1 := h.1 i hi
 simp only [volF, Bool.and_eq_true, decide_eq_true_eq] at h1
 omega
theorem own_in {l : List Ptr_} {i : Nat} {m : List (Plc × Ptr_)} {v : Bool} (hlt : i < l.length) (h : ownGo m (pairsOf (l.drop i)) = v) : ownGo m ((l[i].2.2.drop 0).map (fun a => (a, l[i])) ++ pairsOf (l.drop (i + 1))) = v := by
 rw [drop_at hlt] at h
 simp only [pairsOf, List.flatMap_cons, List.drop_zero] at h ⊢
 exact h
theorem own_out {p : Ptr_} {r : List (Plc × Ptr_)} {m : List (Plc × Ptr_)} {v : Bool} (h : ownGo m ((p.2.2.drop p.2.2.length).map (fun a => (a, p)) ++ r) = v) : ownGo m r = v := by
 simpa using h
theorem own_none {p : Ptr_} {r : List (Plc × Ptr_)} {m : List (Plc × Ptr_)} {v : Bool} {j : Nat} (hlj : j < p.2.2.length) (h : ownGo m ((p.2.2.drop j).map (fun a => (a, p)) ++ r) = v) (hq : mget PK m p.2.2[j] = none) : ownGo (mset PK m p.2.2[j] p) ((p.2.2.drop (j + 1)).map (fun a => (a, p)) ++ r) = v := by
 rw [drop_at hlj] at h
 simp only [List.map_cons, List.cons_append, ownGo] at h
 rw [hq] at h
 simpa only [Bool.true_and] using h
theorem own_some {p q : Ptr_} {r : List (Plc × Ptr_)} {m : List (Plc × Ptr_)} {v : Bool} {j : Nat} (hlj : j < p.2.2.length) (h : ownGo m ((p.2.2.drop j).map (fun a => (a, p)) ++ r) = v) (hq : mget PK m p.2.2[j] = some q) (he : p = q) : ownGo (mset PK m p.2.2[j] p) ((p.2.2.drop (j + 1)).map (fun a => (a, p)) ++ r) = v := by
 rw [drop_at hlj] at h
 simp only [List.map_cons, List.cons_append, ownGo] at h
 rw [hq] at h
 subst he
 simpa only [decide_true, Bool.true_and] using h
theorem own_bad {p q : Ptr_} {r : List (Plc × Ptr_)} {m : List (Plc × Ptr_)} {v : Bool} {j : Nat} (hlj : j < p.2.2.length) (h : ownGo m ((p.2.2.drop j).map (fun a => (a, p)) ++ r) = v) (hq : mget PK m p.2.2[j] = some q) (he : ¬ p = q) : v = false := by
 rw [drop_at hlj] at h
 simp only [List.map_cons, List.cons_append, ownGo] at h
 rw [hq] at h
 simp only [he, decide_false, Bool.false_and] at h
 exact h.symm
theorem own_end {l : List Ptr_} {m : List (Plc × Ptr_)} {v : Bool} (h : ownGo m (pairsOf (l.drop l.length)) = v) : v = true := by
 rw [List.drop_length] at h; exact h.symm
theorem blks_pl {l : List Vol_} (h : ∀ v ∈ l, ∀ p ∈ v.2, p.2.2.length ≤ 140737488355328) : ∀ p ∈ blksOf l, p.2.2.length ≤ 140737488355328 := by
 intro p hp
 obtain ⟨v, hv, hp⟩ := List.mem_flatMap.1 hp
 exact h v hv p hp
theorem itoaV_len {n : Int} (h : inR .i64 n) : (itoaV n).length ≤ 21 := by
 rw [inR_i64] at h
 exact Lib.itoa_length_le n h.1 h.2
theorem ptrV_len {d : Int} {p : Ptr_} (h : ptrV d p = true) : p.2.2.length ≤ 4 := by
 simp only [ptrV, Bool.and_eq_true, Bool.or_eq_true] at h
 obtain ⟨h1, h2⟩ := h
 rcases h2 with h2 | h2
 ·simp only [noneV, Bool.and_eq_true, decide_eq_true_eq] at h2
  omega
 ·have hb : 3 ≤ d ∧ d ≤ 4 := by simpa [poolV, inV] using h1
  have h3 := h2.1
  simp only [sizeV, inV, Bool.and_eq_true, decide_eq_true_eq] at h3
  have hm := sMin_bd d hb
  have h4 : mostV d = 3 * (d - 1) := by unfold mostV; rw [hm]
  have h5 : colsV p.1 = (p.1 + 3 - 1) / 3 := Int.tdiv_eq_ediv_of_nonneg (by omega)
  omega
theorem wordV_len {a : Plc} (h : inR .i64 a.1 ∧ inR .i64 a.2) : (wordV a).length ≤ 43 := by
 have h1 := itoaV_len h.1
 have h2 := itoaV_len h.2
 simp only [wordV, List.length_append, List.length_cons, List.length_nil]
 omega
theorem words_next {pl : List Plc} {i : Nat} (h : i < pl.length) : List.take i (List.map wordV pl) ++ [itoaV pl[i].1 ++ 46 :: itoaV pl[i].2] = List.take (i + 1) (List.map wordV pl) := by
 have h2 : i < (pl.map wordV).length := by simpa using h
 rw [List.take_succ_eq_append_getElem h2]
 simp only [List.getElem_map, wordV, List.append_assoc, List.cons_append, List.nil_append]
theorem joinTail_len {sep : Str} {m : Nat} : ∀ {l : List Str}, (∀ x ∈ l, x.length ≤ m) → (Lib.joinTail sep l).length ≤ l.length * (sep.length + m) := by
 intro l
 induction l with
 | nil => intro _; simp [Lib.joinTail]
 | cons x r ih =>
  intro h
  have h1 := h x List.mem_cons_self
  have h2 := ih fun y hy => h y (List.mem_cons_of_mem _ hy)
  simp only [Lib.joinTail, List.map_cons, List.flatten_cons, List.length_append, List.length_cons] at h2 ⊢
  rw [Nat.add_mul]
  omega
theorem join_len {sz sm : Int} {pl : List Plc} (h1 : inR .i64 sz) (h2 : inR .i64 sm) (h3 : ∀ a ∈ pl, inR .i64 a.1 ∧ inR .i64 a.2) (h4 : pl.length ≤ 4) : (Lib.join (wordsV (sz, sm, pl)) [32]).length ≤ 290 := by
 rw [show wordsV (sz, sm, pl) = tPtr :: (itoaV sz :: itoaV sm :: pl.map wordV) from rfl, Lib.join_cons, List.length_append]
 have := joinTail_len (sep := [32]) (m := 43) (l := itoaV sz :: itoaV sm :: pl.map wordV) fun x hx => by
  rcases List.mem_cons.1 hx with rfl | hx
  ·have := itoaV_len h1; omega
  ·rcases List.mem_cons.1 hx with rfl | hx
   ·have := itoaV_len h2; omega
   ·obtain ⟨a, ha, rfl⟩ := List.mem_map.1 hx
    exact wordV_len (h3 a ha)
 simp only [List.length_cons, List.length_map, List.length_nil] at this
 simp only [tPtr, List.length_cons, List.length_nil]
 omega
def SmallR (l : List Vol_) : Prop := l.length ≤ 4 ∧ ∀ v ∈ l, v.1.length ≤ 3 ∧ v.2.length = 3 ∧ ∀ p ∈ v.2, ∃ d, ptrV d p = true
theorem rootV_small {d : Int} {r : Root_} (h : rootV d r = true) : SmallR r.2 := by
 simp only [rootV, volsV, Bool.and_eq_true, chk_iff, decide_eq_true_eq] at h
 refine ⟨by omega, fun v hv => ?_⟩
 obtain ⟨i, hi, rfl⟩ := List.getElem_of_mem hv
 have h1 := h.2.2.1.1 i hi
 simp only [volF, nameV, inV, Bool.and_eq_true, decide_eq_true_eq, List.all_eq_true] at h1
 exact ⟨by omega, by omega, fun p hp => ⟨d, h1.2.2.2 p hp⟩⟩
theorem lineV_len' {d : Int} {p : Ptr_} (h1 : inR .i64 p.1) (h2 : inR .i64 p.2.1) (h3 : ∀ a ∈ p.2.2, inR .i64 a.1 ∧ inR .i64 a.2) (h : ptrV d p = true) : (lineV p).length ≤ 300 := by
 unfold lineV
 split
 ·simp [tNone]
 ·rw [List.length_append]
  have : (Lib.join (wordsV p) [32]).length ≤ 290 := join_len h1 h2 h3 (ptrV_len h)
  simp only [List.length_cons, List.length_nil]
  omega
theorem vol_in {l : List Vol_} {i : Nat} {o v : Str} (hlt : i < l.length) (h : o ++ catGo volT (l.drop i) = v) : ((o ++ (tVol ++ l[i].1 ++ [10])) ++ catGo lineV (l[i].2.drop 0)) ++ catGo volT (l.drop (i + 1)) = v := by
 rw [drop_at hlt] at h
 rw [List.drop_zero]
 simp only [catGo, volT] at h
 simpa only [List.append_assoc] using h
theorem vol_line {l : List Ptr_} {j : Nat} {o r v : Str} (hlj : j < l.length) (h : (o ++ catGo lineV (l.drop j)) ++ r = v) : ((o ++ lineV l[j]) ++ catGo lineV (l.drop (j + 1))) ++ r = v := by
 rw [drop_at hlj] at h
 simp only [catGo] at h
 simpa only [List.append_assoc] using h
theorem vol_out {l : List Ptr_} {o r v : Str} (h : (o ++ catGo lineV (l.drop l.length)) ++ r = v) : o ++ r = v := by
 rw [List.drop_length] at h
 simpa [catGo] using h
end Go.Sx

namespace Go.Sx
open Go
set_option maxRecDepth 100000
set_option linter.unusedVariables false
set_option linter.unusedSimpArgs false
set_option maxHeartbeats 2000000
def cPool : Ctr := ⟨118, [.val false TI pF], fun x => True, fun x => (sBool (poolV x.1), [])⟩
theorem cPool_ok : CtrOk Proofs.Tryz.prog cPool := by
 have hP := (Prg.none ttok mtok)
 refine ctr_of_body hP cPool (fn := Proofs.Tryz.f118) (rts := [.tmp 2]) Proofs.Tryz.func118 rfl (by kernel_rfl) rfl rfl ?_
 rintro ⟨(n : Int), ⟨⟩⟩ _ hpre
 try dsimp only [Ty.den, Mode.den, mdens] at hpre
 refine ⟨rfl, ?_⟩
 refine sw_seq (xr hP 1 rfl (sw_seq ?_))
 refine sw_dec hP 2 [] 2 rfl (fun g1_2 => ?_) (fun g1_2 => ?_)
 ·refine xd hP 2 [(2, true)] rfl (sw_ret ⟨.inl rfl, _, rfl, ?_⟩)
  simp [conj, poolV, inV] at *
  try omega
 ·refine xd hP 2 [(2, false)] rfl (sw_ret ⟨.inl rfl, _, rfl, ?_⟩)
  simp [conj, poolV, inV] at *
  try omega
def cNone : Ctr := ⟨84, [.val true T_Ptr (.all .b)], fun x => True, fun x => (sBool (noneV x.1), [])⟩
theorem cNone_ok : CtrOk Proofs.Tryz.prog cNone := by
 have hP := (Prg.none ttok mtok)
 refine ctr_of_body hP cNone (fn := Proofs.Tryz.f84) (rts := [.tmp 2]) Proofs.Tryz.func84 rfl (by kernel_rfl) rfl rfl ?_
 rintro ⟨⟨(sz : Int), (sm : Int), (pl : List Plc)⟩, ⟨⟩⟩ _ hpre
 try dsimp only [Ty.den, Mode.den, mdens] at hpre
 refine ⟨rfl, ?_⟩
 refine sw_seq (xr hP 1 rfl (sw_seq ?_))
 refine sw_dec hP 2 [] 3 rfl (fun g1_3 => ?_) (fun g1_3 => ?_)
 ·refine sw_dec hP 2 [(3, true)] 8 rfl (fun g1_8 => ?_) (fun g1_8 => ?_)
  ·refine xd hP 2 [(3, true), (8, true)] rfl (sw_ret ⟨.inl rfl, _, rfl, ?_⟩)
   simp [conj, noneV, *]
  ·refine xd hP 2 [(3, true), (8, false)] rfl (sw_ret ⟨.inl rfl, _, rfl, ?_⟩)
   simp [conj, noneV, *]
 ·refine xd hP 2 [(3, false)] rfl (sw_ret ⟨.inl rfl, _, rfl, ?_⟩)
  simp [conj, noneV, *]
def cMost : Ctr := ⟨133, [.val false TI pF], fun x => poolV x.1 = true, fun x => (sInt .i64 (mostV x.1), [])⟩
theorem cMost_ok : CtrOk Proofs.Tryz.prog cMost := by
 have hP := (Prg.none ttok mtok)
 refine ctr_of_body hP cMost (fn := Proofs.Tryz.f133) (rts := [.tmp 2]) Proofs.Tryz.func133 rfl (by kernel_rfl) rfl rfl ?_
 rintro ⟨(d : Int), ⟨⟩⟩ _ hpre
 try dsimp only [Ty.den, Mode.den, mdens] at hpre
 refine ⟨rfl, ?_⟩
 replace hpre : poolV d = true := hpre
 have hb : 3 ≤ d ∧ d ≤ 4 := by simpa [poolV, inV] using hpre
 have hmm := sMin_bd d hb
 refine sw_seq (xr hP 1 rfl (sw_seq (xg hP 2 [] rfl ?_ ?_)))
 ·simp only [cj, cl]
  try dsimp only [Ty.den, Ty.dflt]
  repeat' apply And.intro
  all_goals first | omega | (show _ ≤ 3 * sMin 3 (d - 1); omega) | (show 3 * sMin 3 (d - 1) ≤ _; omega)
 refine sw_ret ⟨.inl rfl, _, rfl, ?_⟩
 simp [conj, mostV]
def cCols : Ctr := ⟨134, [.val false TI pF], fun x => 0 ≤ x.1 ∧ x.1 ≤ 1000000, fun x => (sInt .i64 (colsV x.1), [])⟩
theorem cCols_ok : CtrOk Proofs.Tryz.prog cCols := by
 have hP := (Prg.none ttok mtok)
 refine ctr_of_body hP cCols (fn := Proofs.Tryz.f134) (rts := [.tmp 2]) Proofs.Tryz.func134 rfl (by kernel_rfl) rfl rfl ?_
 rintro ⟨(n : Int), ⟨⟩⟩ _ ⟨h0, h1⟩
 try dsimp only [Ty.den, Mode.den, mdens] at h0
 try dsimp only [Ty.den, Mode.den, mdens] at h1
 refine ⟨rfl, ?_⟩
 have hq := colsV_bd h0 h1
 unfold colsV at hq
 refine sw_seq (xr hP 1 rfl (sw_seq (xg hP 2 [] rfl ?_ ?_)))
 ·simp only [cj, cl]
  try dsimp only [Ty.den, Ty.dflt]
  repeat' apply And.intro
  all_goals first | rfl | omega | assumption | trivial
 refine sw_ret ⟨.inl rfl, _, rfl, ?_⟩
 simp [conj, colsV]
def cPlOk : Ctr := ⟨135, [.val true T_Place pF, .val false TI pF], fun x => True, fun x => (sBool (placeV x.2.1 x.1), [])⟩
theorem cPlOk_ok : CtrOk Proofs.Tryz.prog cPlOk := by
 have hP := (Prg.none ttok mtok)
 refine ctr_of_body hP cPlOk (fn := Proofs.Tryz.f135) (rts := [.tmp 4]) Proofs.Tryz.func135 rfl (by kernel_rfl) rfl rfl ?_
 rintro ⟨⟨(a : Int), (b : Int)⟩, (d : Int), ⟨⟩⟩ _ hpre
 try dsimp only [Ty.den, Mode.den, mdens] at hpre
 refine ⟨rfl, ?_⟩
 refine sw_seq (xr hP 1 rfl (sw_seq ?_))
 refine sw_dec hP 2 [] 3 rfl (fun g1_3 => ?_) (fun g1_3 => ?_)
 ·refine sw_dec hP 2 [(3, true)] 9 rfl (fun g1_9 => ?_) (fun g1_9 => ?_)
  ·refine sw_dec hP 2 [(3, true), (9, true)] 14 rfl (fun g1_14 => ?_) (fun g1_14 => ?_)
   ·refine xd hP 2 [(3, true), (9, true), (14, true)] rfl (sw_ret ⟨.inl rfl, _, rfl, ?_⟩)
    simp [conj, placeV, *]
   ·refine xd hP 2 [(3, true), (9, true), (14, false)] rfl (sw_ret ⟨.inl rfl, _, rfl, ?_⟩)
    simp [conj, placeV, *]
  ·refine xd hP 2 [(3, true), (9, false)] rfl (sw_ret ⟨.inl rfl, _, rfl, ?_⟩)
   simp [conj, placeV, *]
 ·refine xd hP 2 [(3, false)] rfl (sw_ret ⟨.inl rfl, _, rfl, ?_⟩)
  simp [conj, placeV, *]
def cPtr1 : Ctr := ⟨137, [.val true T_Place pF, .rp T_Place pF], fun x => True, fun x => (sBool (decide (x.1.1 = x.2.1.1)), [])⟩
theorem cPtr1_ok : CtrOk Proofs.Tryz.prog cPtr1 := by
 have hP := (Prg.none ttok mtok)
 refine ctr_of_body hP cPtr1 (fn := Proofs.Tryz.f137) (rts := [.tmp 3]) Proofs.Tryz.func137 rfl (by kernel_rfl) rfl rfl ?_
 rintro ⟨⟨(a : Int), (b : Int)⟩, ⟨(c : Int), (e : Int)⟩, ⟨⟩⟩ _ hpre
 try dsimp only [Ty.den, Mode.den, mdens] at hpre
 refine ⟨rfl, ?_⟩
 refine sw_seq (xr hP 1 rfl (sw_seq (xr hP 2 rfl (sw_ret ⟨.inl rfl, _, rfl, ?_⟩))))
 simp [conj]
def cIdxPl : Ctr := ⟨161, [.val false (.sl T_Place) (.all .b), .clo 137 [(false, T_Place, pF)]], fun _ => True, fun x => (sInt .i64 (idxF (fun q : Plc => decide (q.1 = x.2.1.1.1)) x.1), [])⟩
theorem cIdxPl_ok : CtrOk Proofs.Tryz.prog cIdxPl := by
 have hP := ((Prg.none ttok mtok).and cPtr1_ok)
 refine ctr_of_body hP cIdxPl (fn := Proofs.Tryz.f161) (rts := [.tmp 4]) Proofs.Tryz.func161 rfl (by kernel_rfl) rfl rfl ?_
 rintro ⟨(l : List Plc), ⟨(y : Plc), ⟨⟩⟩, ⟨⟩⟩ ⟨hdl, _⟩ hpre
 try dsimp only [Ty.den, Mode.den, mdens] at hpre
 refine ⟨rfl, ?_⟩
 have hml : l.length ≤ 140737488355328 := hdl.1
 refine sw_seq (xr hP 1 rfl (sw_seq (sw_seq (xr hP 2 rfl (sw_block (sw_loop (ι := Nat) (fun i => ⟨[.v false [.d (.sl T_Place) (.all .b) l], .fn 137 [.rpt .b T_Place pF y], .j, .j, .j, .j, .j, sInt .i64 (l.length : Int), sInt .i64 (i : Int), .j, .j, .j, .j, .j, .j, .j, .j, .j, .j], [], 2, []⟩) (fun i => l.length - i) (fun i => i ≤ l.length ∧ idxFGo (fun q : Plc => decide (q.1 = y.1)) (l.drop i) i = idxF (fun q : Plc => decide (q.1 = y.1)) l) 0 ⟨?_, ?_⟩ ?_))))))
 ·exact ⟨Nat.zero_le _, rfl⟩
 ·refine ent_ok rfl ?_
  first | trivial | (simp [conj]; done) | (simp [conj] at *; (try dsimp only [Ty.den, Ty.dflt] at *); omega)
 ·rintro i ⟨hi, hgo⟩
  refine sw_seq (xr hP 3 rfl (sw_seq (sw_cond rfl (fun c2 => ?_) (fun c2 => ?_))))
  ·have hlt : i < l.length := by simpa using c2
   refine sw_skip (sw_seq (sw_block (sw_seq (xr hP 4 rfl (sw_seq (xg hP 5 [] rfl ?_ ?_))))))
   ·simp [conj, maxL]
    try dsimp only [Ty.den, Ty.dflt]
    try simp only [rd_eta]
    repeat' apply And.intro
    all_goals first | assumption | omega | exact trivial
   refine sw_cond rfl (fun c4 => ?_) (fun c4 => ?_)
   ·replace c4 : (fun q : Plc => decide (q.1 = y.1)) l[i] = true := by simpa [gE hlt] using c4
    refine sw_seq (xr hP 6 rfl (sw_ret ⟨.inl rfl, _, rfl, ?_⟩))
    simp [conj, idxF_hit hlt hgo c4]
   ·replace c4 : (fun q : Plc => decide (q.1 = y.1)) l[i] = false := by simpa [gE hlt] using c4
    refine sw_skip (xr hP 6 rfl (⟨i + 1, ?_, ?_, ent_ok rfl ?_⟩))
    ·exact ⟨hlt, idxF_next hlt hgo c4⟩
    ·omega
    ·simp [conj, maxL]
     try dsimp only [Ty.den, Ty.dflt]
     try simp only [rd_eta]
     repeat' apply And.intro
     all_goals first | rfl | assumption | omega
  ·obtain rfl : i = l.length := by simp at c2; omega
   refine sw_exit (sw_seq (xr hP 4 rfl (sw_ret ⟨.inl rfl, _, rfl, ?_⟩)))
   simp [conj, idxF_end hgo]
def cContPl : Ctr := ⟨136, [.val false (.sl T_Place) (.all .b), .clo 137 [(false, T_Place, pF)]], fun _ => True, fun x => (sBool (List.any x.1 (fun q : Plc => decide (q.1 = x.2.1.1.1))), [])⟩
theorem cContPl_ok : CtrOk Proofs.Tryz.prog cContPl := by
 have hP := ((Prg.none ttok mtok).and cIdxPl_ok)
 refine ctr_of_body hP cContPl (fn := Proofs.Tryz.f136) (rts := [.tmp 4]) Proofs.Tryz.func136 rfl (by kernel_rfl) rfl rfl ?_
 rintro ⟨(l : List Plc), ⟨(y : Plc), ⟨⟩⟩, ⟨⟩⟩ _ hpre
 try dsimp only [Ty.den, Mode.den, mdens] at hpre
 refine ⟨rfl, ?_⟩
 refine sw_seq (xr hP 1 rfl (sw_seq (xr hP 2 rfl (sw_ret ⟨.inl rfl, _, rfl, ?_⟩))))
 simp [conj]
 exact idxF_any
def cPtrOk : Ctr := ⟨85, [.val false TI pF, .val true T_Ptr (.all .b)], fun x => True, fun x => (sBool (ptrV x.1 x.2.1), [])⟩
theorem cPtrOk_ok : CtrOk Proofs.Tryz.prog cPtrOk := by
 have hP := (((((((Prg.none ttok mtok).and cPool_ok).and cNone_ok).and cMost_ok).and cCols_ok).and cPlOk_ok).and cContPl_ok)
 refine ctr_of_body hP cPtrOk (fn := Proofs.Tryz.f85) (rts := [.tmp 4]) Proofs.Tryz.func85 rfl (by kernel_rfl) rfl rfl ?_
 rintro ⟨(d : Int), ⟨(sz : Int), (sm : Int), (pl : List Plc)⟩, ⟨⟩⟩ ⟨_, ⟨_, _, hpl0⟩, _⟩ _
 try dsimp only [Ty.den, Mode.den, mdens] at _
 refine ⟨rfl, ?_⟩
 have hml : pl.length ≤ 140737488355328 := hpl0.1
 refine sw_seq (xr hP 1 rfl (sw_seq (sw_seq (xg hP 2 [] rfl ?_ ?_))))
 ·simp [conj, maxL]
  try dsimp only [Ty.den, Ty.dflt]
  try simp only [rd_eta]
  repeat' apply And.intro
  all_goals first | rfl | assumption | omega | trivial
 refine sw_cond rfl (fun c1 => ?_) (fun c1 => ?_)
 ·replace c1 : poolV d = false := by simpa using c1
  refine sw_seq (xr hP 3 rfl (sw_ret ⟨.inl rfl, _, rfl, ?_⟩))
  simp [conj, ptrV, c1]
 ·replace c1 : poolV d = true := by simpa using c1
  have hb : 3 ≤ d ∧ d ≤ 4 := by simpa [poolV, inV] using c1
  have hmm := sMin_bd d hb
  have hmv : mostV d = 3 * (d - 1) := by unfold mostV; rw [hmm]
  refine sw_skip (sw_seq (sw_seq (xg hP 3 [] rfl ?_ ?_)))
  ·simp [conj, maxL]
   try dsimp only [Ty.den, Ty.dflt]
   try simp only [rd_eta]
   repeat' apply And.intro
   all_goals first | rfl | assumption | omega | trivial
  refine sw_cond rfl (fun c3 => ?_) (fun c3 => ?_)
  ·replace c3 : noneV ((sz, sm, pl) : Ptr_) = true := c3
   refine sw_seq (xr hP 4 rfl (sw_ret ⟨.inl rfl, _, rfl, ?_⟩))
   simp [conj, ptrV, c1, c3]
  ·replace c3 : noneV ((sz, sm, pl) : Ptr_) = false := c3
   refine sw_skip (sw_seq (sw_seq ?_))
   refine sw_dec hP 4 [] 3 rfl (fun g5_3 => ?_) (fun g5_3 => ?_)
   ·have hsz : sizeV d ((sz, sm, pl) : Ptr_) = false := by
      have h : sz < 1 := of_decide_eq_true g5_3
      simp [sizeV, inV]; omega
    refine xg hP 4 [(3, true)] rfl ?_ ?_
    ·simp only [cj, cl]
     try dsimp only [Ty.den, Ty.dflt]
     repeat' apply And.intro
     all_goals first | trivial | assumption | omega | (show 0 ≤ sz; omega) | (show sz ≤ 1000000; omega) | exact decide_eq_false g5_3 | exact decide_eq_false g5_10 | exact decide_eq_false g5_15 | exact decide_eq_false g5_20
    refine sw_condT rfl (sw_seq (xr hP 5 rfl (sw_ret ⟨.inl rfl, _, rfl, ?_⟩)))
    simp [conj, ptrV, c1, c3, hsz]
   ·replace g5_3 : ¬ sz < 1 := of_decide_eq_false g5_3
    refine sw_dec hP 4 [(3, false)] 10 rfl (fun g5_10 => ?_) (fun g5_10 => ?_)
    ·have hsz : sizeV d ((sz, sm, pl) : Ptr_) = false := by
       have h : mostV d < sz := of_decide_eq_true g5_10
       simp [sizeV, inV]; omega
     refine xg hP 4 [(3, false), (10, true)] rfl ?_ ?_
     ·simp only [cj, cl]
      try dsimp only [Ty.den, Ty.dflt]
      repeat' apply And.intro
      all_goals first | trivial | assumption | omega | (show 0 ≤ sz; omega) | (show sz ≤ 1000000; omega) | exact decide_eq_false g5_3 | exact decide_eq_false g5_10 | exact decide_eq_false g5_15 | exact decide_eq_false g5_20
     refine sw_condT rfl (sw_seq (xr hP 5 rfl (sw_ret ⟨.inl rfl, _, rfl, ?_⟩)))
     simp [conj, ptrV, c1, c3, hsz]
    ·replace g5_10 : ¬ mostV d < sz := of_decide_eq_false g5_10
     refine sw_dec hP 4 [(3, false), (10, false)] 15 rfl (fun g5_15 => ?_) (fun g5_15 => ?_)
     ·have hsz : sizeV d ((sz, sm, pl) : Ptr_) = false := by
        have h : sm < 0 := of_decide_eq_true g5_15
        simp [sizeV, inV]; omega
      refine xg hP 4 [(3, false), (10, false), (15, true)] rfl ?_ ?_
      ·simp only [cj, cl]
       try dsimp only [Ty.den, Ty.dflt]
       repeat' apply And.intro
       all_goals first | trivial | assumption | omega | (show 0 ≤ sz; omega) | (show sz ≤ 1000000; omega) | exact decide_eq_false g5_3 | exact decide_eq_false g5_10 | exact decide_eq_false g5_15 | exact decide_eq_false g5_20
      refine sw_condT rfl (sw_seq (xr hP 5 rfl (sw_ret ⟨.inl rfl, _, rfl, ?_⟩)))
      simp [conj, ptrV, c1, c3, hsz]
     ·replace g5_15 : ¬ sm < 0 := of_decide_eq_false g5_15
      refine sw_dec hP 4 [(3, false), (10, false), (15, false)] 20 rfl (fun g5_20 => ?_) (fun g5_20 => ?_)
      ·have hsz : sizeV d ((sz, sm, pl) : Ptr_) = false := by
         have h : 1000000000 < sm := of_decide_eq_true g5_20
         simp [sizeV, inV]; omega
       refine xg hP 4 [(3, false), (10, false), (15, false), (20, true)] rfl ?_ ?_
       ·simp only [cj, cl]
        try dsimp only [Ty.den, Ty.dflt]
        repeat' apply And.intro
        all_goals first | trivial | assumption | omega | (show 0 ≤ sz; omega) | (show sz ≤ 1000000; omega) | exact decide_eq_false g5_3 | exact decide_eq_false g5_10 | exact decide_eq_false g5_15 | exact decide_eq_false g5_20
       refine sw_condT rfl (sw_seq (xr hP 5 rfl (sw_ret ⟨.inl rfl, _, rfl, ?_⟩)))
       simp [conj, ptrV, c1, c3, hsz]
      ·replace g5_20 : ¬ 1000000000 < sm := of_decide_eq_false g5_20
       have hcb := colsV_bd (n := sz) (by omega) (by omega)
       refine xg hP 4 [(3, false), (10, false), (15, false), (20, false)] rfl ?_ ?_
       ·simp only [cj, cl]
        try dsimp only [Ty.den, Ty.dflt]
        repeat' apply And.intro
        all_goals first | trivial | assumption | omega | (show 0 ≤ sz; omega) | (show sz ≤ 1000000; omega) | exact decide_eq_false g5_3 | exact decide_eq_false g5_10 | exact decide_eq_false g5_15 | exact decide_eq_false g5_20
       refine sw_cond rfl (fun c5 => ?_) (fun c5 => ?_)
       ·have hsz : sizeV d ((sz, sm, pl) : Ptr_) = false := by
          have h : (!decide ((pl.length : Int) = colsV sz + 1)) = true := c5
          simp [sizeV] at h ⊢; intros; omega
        refine sw_seq (xr hP 5 rfl (sw_ret ⟨.inl rfl, _, rfl, ?_⟩))
        simp [conj, ptrV, c1, c3, hsz]
       ·have hsz : sizeV d ((sz, sm, pl) : Ptr_) = true := by
          have h : (!decide ((pl.length : Int) = colsV sz + 1)) = false := c5
          simp [sizeV, inV] at h ⊢; omega
        refine sw_skip (sw_seq (sw_seq (xr hP 5 rfl (sw_block (sw_loop (ι := Nat) (fun i => ⟨[sInt .i64 d, .j, .j, .v false [.ptr ⟨1, 0, 0⟩ 0], .j, .j, .j, .j, .j, .j, .j, .j, .j, .j, .j, .j, .j, .j, .j, .j, .j, .j, .j, .j, .j, .j, .j, .j, .j, .j, .j, .j, .j, .j, .j, .j, .j, .j, .j, .j, .j, .j, .j, .v false [.d (.sl T_Place) (.all .b) pl], sInt .i64 (pl.length : Int), sInt .i64 (i : Int), .j, .j, .j, .j, .j, .j, .j, .j, .j, .j, .j, .j, .j, .j, .j, .j, .j], [(⟨1, 0, 0⟩, .var [.d TI pF sz, .d TI pF sm, .d (.sl T_Place) (.all .b) pl])], 5, []⟩) (fun i => pl.length - i) (fun i => i ≤ pl.length ∧ chkGo (placeF d) (pl.take i) (pl.drop i) = chk (placeF d) pl) 0 ⟨?_, ?_⟩ ?_)))))
        ·exact ⟨Nat.zero_le _, rfl⟩
        ·refine ent_ok rfl ?_
         simp [conj]
        ·rintro i ⟨hi, hgo⟩
         refine sw_seq (xr hP 6 rfl (sw_seq (sw_cond rfl (fun c8 => ?_) (fun c8 => ?_))))
         ·have hlt : i < pl.length := by simpa using c8
          refine sw_skip (sw_seq (sw_block (sw_seq (xr hP 7 rfl (sw_seq ?_)))))
          refine sw_dec hP 8 [] 4 rfl (fun g10_4 => ?_) (fun g10_4 => ?_)
          ·replace g10_4 : placeV d pl[i] = false := by simpa [gE hlt] using g10_4
           have hf : placeF d (pl.take i) pl[i] = false := by simp [placeF, g10_4]
           refine xg hP 8 [(4, true)] rfl ?_ ?_
           ·simp [conj, gE hlt]
            repeat' apply And.intro
            all_goals first | trivial | assumption | omega
           refine sw_condT rfl (sw_seq (xr hP 9 rfl (sw_ret ⟨.inl rfl, _, rfl, ?_⟩)))
           have hv := chk_hit hlt hgo hf
           simp [conj, ptrV, c1, c3, hsz, hv]
          ·replace g10_4 : placeV d pl[i] = true := by simpa [gE hlt] using g10_4
           refine xg hP 8 [(4, false)] rfl ?_ ?_
           ·simp [conj, gE hlt]
            repeat' apply And.intro
            all_goals first | trivial | assumption | omega
           refine sw_cond rfl (fun c10 => ?_) (fun c10 => ?_)
           ·have hf : placeF d (pl.take i) pl[i] = false := by
              have h : (pl.take i).any (fun q => decide (q.1 = pl[i].1)) = true := by simpa [gE hlt] using c10
              unfold placeF; rw [h]; simp
            refine sw_seq (xr hP 9 rfl (sw_ret ⟨.inl rfl, _, rfl, ?_⟩))
            have hv := chk_hit hlt hgo hf
            simp [conj, ptrV, c1, c3, hsz, hv]
           ·have hf : placeF d (pl.take i) pl[i] = true := by
              have h : (pl.take i).any (fun q => decide (q.1 = pl[i].1)) = false := by simpa [gE hlt] using c10
              unfold placeF; rw [h, g10_4]; rfl
            refine sw_skip (xr hP 9 rfl (⟨i + 1, ?_, ?_, ent_ok rfl ?_⟩))
            ·exact ⟨hlt, chk_next hlt hgo hf⟩
            ·omega
            ·simp [conj]
         ·obtain rfl : i = pl.length := by simp at c8; omega
          refine sw_exit (sw_seq (xr hP 7 rfl (sw_ret ⟨.inl rfl, _, rfl, ?_⟩)))
          have hv := chk_end hgo
          simp [conj, ptrV, c1, c3, hsz, hv]
end Go.Sx

namespace Go.Sx
open Go Go.RowKit
theorem ctr_of_below {P : Program} {c : Ctr} {fn : Func} {body : Code} (hf : P.funcs[c.f]? = some fn) (hb : fn.body = some body) (hn : (fn.name == "runtime.NumGoroutine") = false) (href : noRefs c.ins = true)
  (h : ∀ G w args x, (∀ b, G.g b ≠ .no → b < w.heap.size) → Amb P G.g w → ArgsOk G w 0 c.ins x args → c.pre x → Calls P c.f args.toArray w fun e w' => ∃ v, e = .returned v ∧ Below w.heap.size w w' ∧ (∀ G', MtS G' w' (c.post x).1 v) ∧ (c.post x).2 = []) : @CtrOk P (loneJ P) c := by
 intro G V w args x hbnd hlv ham hargs hpre
 have hrun : (callFunc c.f args.toArray).run P w = .ok (.enter c.f args.toArray) w := by
  have hn' : ¬ fn.name = "runtime.NumGoroutine" := by simpa using hn
  simp [callFunc, hf, hn', hb]
 refine ⟨_, _, hrun, .inr (.inl ⟨rfl, ?_⟩)⟩
 intro cs
 obtain ⟨e, w', fr, ⟨v, rfl, hB, hm, hp⟩, h1, h2, h3⟩ := h G w args x hbnd ham hargs hpre cs
 refine ⟨_, w', fr, ?_, h1, h2, h3⟩
 let G' : Gh := ⟨fun _ => .bool false, G.g⟩
 have hk : ∀ b, G.g b ≠ .no → w'.heap[b]? = w.heap[b]? := fun b hb => hB.block b (hbnd b hb)
 refine ⟨fun _ => True, G', fun _ _ _ => trivial, ⟨fun _ h => h.elim, ⟨fun b hb => ⟨hb, hk b (by rw [hb]; simp)⟩, fun b hb => ⟨hb, hk b (by rw [hb]; simp)⟩⟩, fun b j q hg _ => ⟨hg, hk b (by rw [hg]; simp)⟩, fun b hlt hb => ⟨hB.block b hlt, hb⟩, fun b hb => Nat.lt_of_lt_of_le (hbnd b hb) hB.size, fun _ _ => rfl, hB.os, hB.tape, hB.output, hB.size, fun _ _ h => h⟩, fun _ => rfl, ?_, hm G', ?_⟩
 ·rw [noRefs_ptr href]; intro p hp; cases hp
 ·rw [hp]; intro i R hi; cases hi
end Go.Sx

namespace Go.Sx
open Go Go.RowKit
theorem weighGo_app : ∀ (l : Str) (i : Nat) (c : UInt8), weighGo (l ++ [c]) i = weighGo l i + (c.toNat : Int) * (65536 + ((i + l.length : Nat) : Int) + 1) := by
 intro l
 induction l with
 | nil => intro i c; simp [weighGo]
 | cons a l ih =>
  intro i c
  simp only [List.cons_append, weighGo, ih, List.length_cons]
  rw [show i + 1 + l.length = i + (l.length + 1) by omega]
  omega
theorem weiS_weigh (l : Str) (hl : l.length ≤ 1000000) : ∀ k, k ≤ l.length → Proofs.weiS (Proofs.weiUp (mkS l) k) = weighGo (l.take k) 0 := by
 intro k
 induction k with
 | zero => intro _; rfl
 | succ k ih =>
  intro hk
  have hlt : k < l.length := hk
  rw [Proofs.weiUp, Proofs.volUp_succ, Proofs.weiS_add, List.take_succ_eq_append_getElem hlt, weighGo_app, ← ih (by omega)]
  have e1 : (Proofs.weiF (mkS l) k).val = (k, l[k]) := by
   show (min k 999999, (mkS l).data[k]?.getD 0) = _
   have : (mkS l).data[k]? = some l[k] := by simp [mkS, hlt]
   rw [this]
   simp
   omega
  rw [e1, List.length_take]
  simp only
  rw [show ((0 + min k l.length : Nat) : Int) = (k : Int) by omega]
  rw [Proofs.weiUp]
  congr 1
def cWeigh : Ctr := ⟨86, [.val false .str pF], fun x => List.length x.1 ≤ 1000000, fun x => (sInt .i64 (weighV x.1), [])⟩
theorem weighV_bd {s : Str} (h : s.length ≤ 1000000) : 0 ≤ weighV s ∧ weighV s ≤ (s.length : Int) * 300000000 := by
 have h1 := weiS_weigh s h s.length (Nat.le_refl _)
 rw [List.take_length] at h1
 have h2 := Proofs.weiS_bd _ (Proofs.weiUp (mkS s) s.length) rfl
 rw [h1] at h2
 rw [show (Proofs.weiUp (mkS s) s.length).length = s.length from Proofs.volUp_length _ _] at h2
 exact h2
theorem cWeigh_ok : CtrOk Proofs.Tryz.prog cWeigh := by
 refine ctr_of_below (fn := Proofs.Tryz.f86) Proofs.Tryz.func86 rfl rfl rfl ?_
 rintro G w args ⟨(s : Str), ⟨⟩⟩ _ _ ⟨v, vs, rfl, ⟨_, cs, rfl, _, ⟨rfl, hl⟩⟩, rfl⟩ hpre
 replace hpre : s.length ≤ 1000000 := hpre
 have h := Proofs.wei_in Fence.wide 3 trivial trivial trivial rfl (Nat.le_refl _) (mkS s) (by exact hpre) w
 refine (callsIn_wide.1 h).mono ?_
 rintro e w' ⟨rfl, hB⟩
 refine ⟨_, rfl, hB, fun G' => ?_, rfl⟩
 rw [show (mkS s).size = s.length from rfl, weiS_weigh s hpre _ (Nat.le_refl _), List.take_length]
 have := weighV_bd hpre
 show MtS G' w' (sInt .i64 (weighV s)) (.int .i64 (weighV s))
 exact .ofInt (by rw [inR_i64]; omega)
theorem grown_below (w : World) (k : Nat) (os : Array Obj) : Below w.heap.size w (Sort.grow (w.drewN k) os) :=
 ⟨rfl, rfl, rfl, by show w.heap.size ≤ (w.heap ++ os).size; rw [Array.size_append]; omega, fun j hj => by
  show (w.heap ++ os)[j]? = w.heap[j]?
  exact Array.getElem?_append_left hj⟩
end Go.Sx

namespace Go.Proofs
def Tryz.lays105_ren : Go.Shelf.Ren := ⟨fun | 105 => 142 | 212 => 167 | 99 => 168 | 165 => 169 | 166 => 170 | 170 => 171 | 169 => 172 | 263 => 178 | 264 => 179 | 206 => 180 | 240 => 181 | 241 => 182 | 276 => 183 | 277 => 184 | n => n, fun | 9 => 9 | 3 => 3 | 4 => 4 | 20 => 20 | 0 => 0 | 46 => 194 | 109 => 195 | 5 => 5 | 72 => 200 | 76 => 203 | 51 => 213 | 146 => 214 | 53 => 216 | 148 => 217 | 70 => 198 | 37 => 22 | 75 => 202 | 127 => 219 | 164 => 220 | 80 => 206 | n => n, fun | n => n⟩
theorem Tryz.lays105 : Go.Proofs.Lays.n105 Tryz.prog Tryz.lays105_ren := {
 mixed := by kernel_rfl
 f99 := Tryz.func168.trans (congrArg some (by kernel_rfl))
 f105 := Tryz.func142.trans (congrArg some (by kernel_rfl))
 f165 := Tryz.func169.trans (congrArg some (by kernel_rfl))
 f166 := Tryz.func170.trans (congrArg some (by kernel_rfl))
 f169 := Tryz.func172.trans (congrArg some (by kernel_rfl))
 f170 := Tryz.func171.trans (congrArg some (by kernel_rfl))
 f206 := Tryz.func180.trans (congrArg some (by kernel_rfl))
 f212 := Tryz.func167.trans (congrArg some (by kernel_rfl))
 f240 := Tryz.func181.trans (congrArg some (by kernel_rfl))
 f241 := Tryz.func182.trans (congrArg some (by kernel_rfl))
 f263 := Tryz.func178.trans (congrArg some (by kernel_rfl))
 f264 := Tryz.func179.trans (congrArg some (by kernel_rfl))
 f276 := Tryz.func183.trans (congrArg some (by kernel_rfl))
 f277 := Tryz.func184.trans (congrArg some (by kernel_rfl))
 t0 := Tryz.underlying0
 a0 := Tryz.isAgg0
 z0 := Tryz.sizeOf0
 v0 := Tryz.zeroValue0
 t3 := Tryz.underlying3
 a3 := Tryz.isAgg3
 z3 := Tryz.sizeOf3
 v3 := Tryz.zeroValue3
 t4 := Tryz.underlying4
 a4 := Tryz.isAgg4
 z4 := Tryz.sizeOf4
 v4 := Tryz.zeroValue4
 t5 := Tryz.underlying5
 a5 := Tryz.isAgg5
 z5 := Tryz.sizeOf5
 v5 := Tryz.zeroValue5
 t9 := Tryz.underlying9
 a9 := Tryz.isAgg9
 z9 := Tryz.sizeOf9
 v9 := Tryz.zeroValue9
 t20 := Tryz.underlying20
 a20 := Tryz.isAgg20
 z20 := Tryz.sizeOf20
 v20 := Tryz.zeroValue20
 t37 := Tryz.underlying22
 a37 := Tryz.isAgg22
 z37 := Tryz.sizeOf22
 v37 := Tryz.zeroValue22
 t46 := Tryz.underlying194
 a46 := Tryz.isAgg194
 z46 := Tryz.sizeOf194
 v46 := Tryz.zeroValue194
 t51 := Tryz.underlying213
 a51 := Tryz.isAgg213
 z51 := Tryz.sizeOf213
 v51 := Tryz.zeroValue213
 t53 := Tryz.underlying216
 a53 := Tryz.isAgg216
 z53 := Tryz.sizeOf216
 v53 := Tryz.zeroValue216
 t70 := Tryz.underlying198
 a70 := Tryz.isAgg198
 z70 := Tryz.sizeOf198
 v70 := Tryz.zeroValue198
 t72 := Tryz.underlying200
 a72 := Tryz.isAgg200
 z72 := Tryz.sizeOf200
 v72 := Tryz.zeroValue200
 t75 := Tryz.underlying202
 a75 := Tryz.isAgg202
 z75 := Tryz.sizeOf202
 v75 := Tryz.zeroValue202
 t76 := Tryz.underlying203
 a76 := Tryz.isAgg203
 z76 := Tryz.sizeOf203
 v76 := Tryz.zeroValue203
 t109 := Tryz.underlying195
 a109 := Tryz.isAgg195
 z109 := Tryz.sizeOf195
 v109 := Tryz.zeroValue195
 t127 := Tryz.underlying219
 a127 := Tryz.isAgg219
 z127 := Tryz.sizeOf219
 v127 := Tryz.zeroValue219
 t146 := Tryz.underlying214
 a146 := Tryz.isAgg214
 z146 := Tryz.sizeOf214
 v146 := Tryz.zeroValue214
 t148 := Tryz.underlying217
 a148 := Tryz.isAgg217
 z148 := Tryz.sizeOf217
 v148 := Tryz.zeroValue217
 t164 := Tryz.underlying220
 a164 := Tryz.isAgg220
 z164 := Tryz.sizeOf220
 v164 := Tryz.zeroValue220 }
theorem Tryz.Builder_Extra_105 : Builder.Extra Tryz.prog Tryz.lays105_ren := {
 sizeBuilder := by kernel_rfl
 liesBuilder := by kernel_rfl
 t5 := Tryz.underlying5
 a5 := Tryz.isAgg5
 z5 := Tryz.sizeOf5
 v5 := Tryz.zeroValue5
 infoByte := by kernel_rfl
 cellsByte := by kernel_rfl
 sizeByte := by kernel_rfl
 neB5 := by decide }
open Go.RowKit Go.Lib in
theorem Tryz.strings_Repeat_main (s : ByteArray) (c : Nat) (w : World) (hc2 : 2 ≤ c) (hc : c ≤ 9223372036854775807) (hlen : s.size * c ≤ 140737488355328) (h0 : 0 < s.size) :
  Calls Tryz.prog 142 #[.string s, .int .i64 c] w fun e w' => e = .returned (.string ⟨(Lib.repeatL s.data.toList c).toArray⟩) ∧ Below w.heap.size w w' := Any.strings_Repeat_main Tryz.lays105 Tryz.Builder_Extra_105 s c w hc2 hc hlen h0
open Go.RowKit Go.Lib in
theorem Tryz.strings_Repeat_zero (s : ByteArray) (w : World) :
  Calls Tryz.prog 142 #[.string s, .int .i64 0] w fun e w' => e = .returned (.string ⟨#[]⟩) ∧ w' = w := Any.strings_Repeat_zero Tryz.lays105 s w
open Go.RowKit Go.Lib in
theorem Tryz.strings_Repeat_one (s : ByteArray) (w : World) :
  Calls Tryz.prog 142 #[.string s, .int .i64 1] w fun e w' => e = .returned (.string s) ∧ w' = w := Any.strings_Repeat_one Tryz.lays105 s w
end Go.Proofs

namespace Go.Sx
open Go
abbrev Put := Bool × Int × Str
abbrev Dsk := Int × List Str × List Str × List Bool × List Put
abbrev Drv := List Str × List Str × List Bool
def putV (p : Put) : Bool := if p.1 = true then decide (0 ≤ p.2.1 ∧ p.2.1 < 2 ∧ p.2.2.length ≤ 700) else decide (0 ≤ p.2.1 ∧ p.2.1 < 12 ∧ p.2.2.length = 3)
theorem putV_ring {p : Put} (h : putV p = true) (hr : p.1 = true) : 0 ≤ p.2.1 ∧ p.2.1 < 2 ∧ p.2.2.length ≤ 700 := by unfold putV at h; rw [if_pos hr] at h; exact of_decide_eq_true h
theorem putV_slot {p : Put} (h : putV p = true) (hr : p.1 = false) : 0 ≤ p.2.1 ∧ p.2.1 < 12 ∧ p.2.2.length = 3 := by unfold putV at h; rw [if_neg (by simp [hr])] at h; exact of_decide_eq_true h
def badP (p : Put) : Bool := !putV p
def longR (t : Str) : Bool := decide (700 < t.length)
def stV (n : Int) : Bool := decide (0 ≤ n ∧ n ≤ 2)
def shapedV (d : Dsk) : Bool := stV d.1 && decide (d.2.1.length = 12) && decide (d.2.2.1.length = 2) && decide (d.2.2.2.1.length = 12) && decide (d.2.2.2.2.length ≤ 40)
theorem shaped_iff {d : Dsk} (h : shapedV d = true) : stV d.1 = true ∧ d.2.1.length = 12 ∧ d.2.2.1.length = 2 ∧ d.2.2.2.1.length = 12 ∧ d.2.2.2.2.length ≤ 40 := by
 simp only [shapedV, Bool.and_eq_true, decide_eq_true_eq] at h
 exact ⟨h.1.1.1.1, h.1.1.1.2, h.1.1.2, h.1.2, h.2⟩
def come (p : Put) (t : Drv) : Drv := if p.1 = true then (t.1, t.2.1.set p.2.1.toNat p.2.2, t.2.2) else (t.1.set p.2.1.toNat p.2.2, t.2.1, t.2.2.set p.2.1.toNat false)
theorem come_ring {p : Put} {t : Drv} (h : p.1 = true) : come p t = (t.1, t.2.1.set p.2.1.toNat p.2.2, t.2.2) := by unfold come; rw [if_pos h]
theorem come_slot {p : Put} {t : Drv} (h : p.1 = false) : come p t = (t.1.set p.2.1.toNat p.2.2, t.2.1, t.2.2.set p.2.1.toNat false) := by unfold come; rw [if_neg (by simp [h])]
def Drv.ok (t : Drv) : Prop := t.1.length = 12 ∧ t.2.1.length = 2 ∧ t.2.2.length = 12
theorem come_ok {p : Put} {t : Drv} (h : t.ok) : (come p t).ok := by
 unfold come
 split <;> simpa [Drv.ok] using h
def comes (l : List Put) (t : Drv) : Drv := l.foldl (fun t p => come p t) t
theorem comes_next {l : List Put} {i : Nat} {t v : Drv} (hlt : i < l.length) (h : comes (l.drop i) t = v) : comes (l.drop (i + 1)) (come l[i] t) = v := by
 rw [drop_at hlt] at h; exact h
theorem comes_end {l : List Put} {t v : Drv} (h : comes (l.drop l.length) t = v) : t = v := by
 rw [List.drop_length] at h; exact h
theorem comes_ok {l : List Put} : ∀ {t : Drv}, t.ok → (comes l t).ok := by
 induction l with
 | nil => intro t h; exact h
 | cons p r ih => intro t h; exact ih (come_ok h)
def keepB (n : Nat) : List Put → List Put
 | [] => []
 | p :: r => if n % 2 = 1 then p :: keepB (n / 2) r else keepB (n / 2) r
theorem keep_hit {l : List Put} {i n : Nat} {t v : Drv} (hlt : i < l.length) (hb : n % 2 = 1) (h : comes (keepB n (l.drop i)) t = v) : comes (keepB (n / 2) (l.drop (i + 1))) (come l[i] t) = v := by
 rw [drop_at hlt] at h; simp only [keepB, if_pos hb] at h; exact h
theorem keep_no {l : List Put} {i n : Nat} {t v : Drv} (hlt : i < l.length) (hb : ¬ n % 2 = 1) (h : comes (keepB n (l.drop i)) t = v) : comes (keepB (n / 2) (l.drop (i + 1))) t = v := by
 rw [drop_at hlt] at h; simp only [keepB, if_neg hb] at h; exact h
theorem keep_end {l : List Put} {n : Nat} {t v : Drv} (h : comes (keepB n (l.drop l.length)) t = v) : t = v := by
 rw [List.drop_length] at h; exact h
def slotB (t : Str) (b : Bool) : Bool := (decide (t ≠ []) && !decide (t.length = 3)) || (decide (t = []) && b)
def slotsB : List Str → List Bool → Bool
 | t :: ts, b :: bs => slotB t b || slotsB ts bs
 | _, _ => false
def goneB (d : Dsk) : Bool := decide (d.1 = 1) && (decide (d.2.1 ≠ List.replicate 12 []) || decide (d.2.2.1 ≠ List.replicate 2 []) || decide (0 < d.2.2.2.2.length))
def rdV (d : Dsk) : Bool := shapedV d && !(d.2.2.2.2.any badP) && !(slotsB d.2.1 d.2.2.2.1) && !(d.2.2.1.any longR) && !(goneB d)
theorem gone_no {d : Dsk} (h : goneB d = false) (h1 : d.1 = 1) : d.2.1 = List.replicate 12 [] ∧ d.2.2.1 = List.replicate 2 [] ∧ d.2.2.2.2.length = 0 := by
 simp only [goneB, h1, decide_true, Bool.true_and, Bool.or_eq_false_iff, decide_eq_false_iff_not, Decidable.not_not] at h
 exact ⟨h.1.1, h.1.2, by omega⟩
theorem gone_yes {d : Dsk} (h1 : d.2.1 = List.replicate 12 []) (h2 : d.2.2.1 = List.replicate 2 []) (h3 : d.2.2.2.2.length = 0) : goneB d = false := by
 simp only [goneB, h1, h2, h3, ne_eq, not_true_eq_false, decide_false, Bool.or_false, Nat.lt_irrefl, Bool.and_false]
theorem gone_live {d : Dsk} (h : ¬ d.1 = 1) : goneB d = false := by simp only [goneB, h, decide_false, Bool.false_and]
theorem rd_mk {d : Dsk} (h1 : shapedV d = true) (h2 : d.2.2.2.2.any badP = false) (h3 : slotsB d.2.1 d.2.2.2.1 = false) (h4 : d.2.2.1.any longR = false) (h5 : goneB d = false) : rdV d = true := by
 simp only [rdV, h1, h2, h3, h4, h5, Bool.not_false, Bool.and_self]
theorem slots_next {ts : List Str} {bs : List Bool} {i : Nat} {v : Bool} (h1 : i < ts.length) (h2 : i < bs.length) (h : slotsB (ts.drop i) (bs.drop i) = v) (hn : slotB ts[i] bs[i] = false) : slotsB (ts.drop (i + 1)) (bs.drop (i + 1)) = v := by
 rw [drop_at h1, drop_at h2] at h; simpa [slotsB, hn] using h
theorem slots_hit {ts : List Str} {bs : List Bool} {i : Nat} {v : Bool} (h1 : i < ts.length) (h2 : i < bs.length) (h : slotsB (ts.drop i) (bs.drop i) = v) (hn : slotB ts[i] bs[i] = true) : v = true := by
 rw [drop_at h1, drop_at h2] at h; simpa [slotsB, hn] using h.symm
theorem slots_end {ts : List Str} {bs : List Bool} {v : Bool} (h : slotsB (ts.drop ts.length) (bs.drop ts.length) = v) : v = false := by
 rw [List.drop_length] at h; rw [← h]; rfl
theorem slotB_col {t : Str} {b : Bool} (h : t ≠ []) (h2 : ¬ t.length = 3) : slotB t b = true := by simp [slotB, h, h2]
theorem slotB_ok {t : Str} {b : Bool} (h : t ≠ []) (h2 : t.length = 3) : slotB t b = false := by simp [slotB, h, h2]
theorem slotB_nil {t : Str} {b : Bool} (h : t = []) : slotB t b = b := by simp [slotB, h]
theorem take_next {l : List Put} {i : Nat} {d : Put} (h : i < l.length) : l.take i ++ [((l[i]?.getD d).1, (l[i]?.getD d).2.1, (l[i]?.getD d).2.2)] = l.take (i + 1) := by
 rw [gE h, Option.getD_some]
 exact List.take_append_getElem h
def zeroD : Dsk := (0, [], [], [], [])
def drvOf (d : Dsk) : Drv := (d.2.1, d.2.2.1, d.2.2.2.1)
def dskOf (st : Int) (t : Drv) (w : List Put) : Dsk := (st, t.1, t.2.1, t.2.2, w)
def crashV (d : Dsk) (keep : Int) : Dsk := if rdV d = true ∧ 0 ≤ keep then dskOf d.1 (comes (keepB keep.toNat d.2.2.2.2) (drvOf d)) [] else zeroD
theorem rd_parts {d : Dsk} (h : rdV d = true) : shapedV d = true ∧ d.2.2.2.2.any badP = false ∧ slotsB d.2.1 d.2.2.2.1 = false ∧ d.2.2.1.any longR = false ∧ goneB d = false := by
 simp only [rdV, Bool.and_eq_true, Bool.not_eq_true'] at h
 exact ⟨h.1.1.1.1, h.1.1.1.2, h.1.1.2, h.1.2, h.2⟩
theorem drv_ok {d : Dsk} (h : shapedV d = true) : (drvOf d).ok := by obtain ⟨_, a, b, c, _⟩ := shaped_iff h; exact ⟨a, b, c⟩
theorem wait_at {l : List Put} (h : l.any badP = false) {i : Nat} (hi : i < l.length) : putV l[i] = true := by
 have := List.any_eq_false.1 h l[i] (List.getElem_mem hi)
 simpa [badP] using this
theorem shr_bit {k : Int} {i : Nat} (h : 0 ≤ k) (hi : i ≤ 64) : (k.fdiv (2 ^ (min i 64))) = ((k.toNat / 2 ^ i : Nat) : Int) := by
 obtain ⟨n, rfl⟩ := Int.eq_ofNat_of_zero_le h
 have e : (2 : Int) ^ i = ((2 ^ i : Nat) : Int) := (Int.natCast_pow 2 i).symm
 rw [Nat.min_eq_left hi, Int.toNat_natCast, e, Int.fdiv_eq_ediv_of_nonneg _ (Int.natCast_nonneg _)]
 exact (Int.natCast_ediv n (2 ^ i)).symm
theorem and_one {n : Nat} (h : n < 2 ^ 63) : bitsOp .and .i64 (n : Int) 1 = ((n % 2 : Nat) : Int) := by
 show IntKind.wrap .i64 ((BitVec.ofInt 64 (n : Int) &&& BitVec.ofInt 64 1).toNat : Nat) = _
 rw [BitVec.toNat_and]
 have e1 : (BitVec.ofInt 64 (n : Int)).toNat = n := by rw [BitVec.toNat_ofInt]; simp only [Nat.reducePow] at h ⊢; omega
 have e2 : (BitVec.ofInt 64 (1 : Int)).toNat = 1 := rfl
 rw [e1, e2, Nat.and_one_is_mod, wrap_in]
 have := Nat.mod_lt n (show 0 < 2 by decide)
 simp only [inR, IntKind.min, IntKind.max, IntKind.signed, IntKind.bits]
 constructor <;> simp <;> omega
def putT (l : List Put) (t : Drv) : Drv := if l.length = 40 then comes l t else t
def putW (l : List Put) (p : Put) : List Put := if l.length = 40 then [p] else l ++ [p]
def putU (st : Int) (l : List Put) (t : Drv) : Drv := if st = 1 then t else putT l t
def putM (st : Int) (l : List Put) (p : Put) : List Put := if st = 1 then l else putW l p
theorem putT_full {l : List Put} {t : Drv} (h : l.length = 40) : putT l t = comes l t := by unfold putT; rw [if_pos h]
theorem putT_room {l : List Put} {t : Drv} (h : ¬ l.length = 40) : putT l t = t := by unfold putT; rw [if_neg h]
theorem putW_full {l : List Put} {p : Put} (h : l.length = 40) : putW l p = [p] := by unfold putW; rw [if_pos h]
theorem putW_room {l : List Put} {p : Put} (h : ¬ l.length = 40) : putW l p = l ++ [p] := by unfold putW; rw [if_neg h]
theorem putU_gone {st : Int} {l : List Put} {t : Drv} (h : st = 1) : putU st l t = t := by unfold putU; rw [if_pos h]
theorem putU_live {st : Int} {l : List Put} {t : Drv} (h : ¬ st = 1) : putU st l t = putT l t := by unfold putU; rw [if_neg h]
theorem putM_gone {st : Int} {l : List Put} {p : Put} (h : st = 1) : putM st l p = l := by unfold putM; rw [if_pos h]
theorem putM_live {st : Int} {l : List Put} {p : Put} (h : ¬ st = 1) : putM st l p = putW l p := by unfold putM; rw [if_neg h]
theorem putU_ok {st : Int} {l : List Put} {t : Drv} (h : t.ok) : (putU st l t).ok := by
 unfold putU putT
 split
 ·exact h
 ·split
  ·exact comes_ok h
  ·exact h
theorem putM_len {st : Int} {l : List Put} {p : Put} (h : l.length ≤ 40) : (putM st l p).length ≤ 40 := by
 unfold putM putW
 split
 ·exact h
 ·split
  ·simp
  ·simp; omega
def seenGo (at_ : Int) : List Put → Str → Str
 | [], s => s
 | p :: r, s => seenGo at_ r (if p.1 = false ∧ p.2.1 = at_ then p.2.2 else s)
theorem seen_next {at_ : Int} {l : List Put} {i : Nat} {s v : Str} (hlt : i < l.length) (h : seenGo at_ (l.drop i) s = v) : seenGo at_ (l.drop (i + 1)) (if l[i].1 = false ∧ l[i].2.1 = at_ then l[i].2.2 else s) = v := by
 rw [drop_at hlt] at h; exact h
theorem seen_end {at_ : Int} {l : List Put} {s v : Str} (h : seenGo at_ (l.drop l.length) s = v) : s = v := by rw [List.drop_length] at h; exact h
def seenV (t : Drv) (l : List Put) (at_ : Int) : Str := seenGo at_ l (t.1.getD at_.toNat [])
def flushV (d : Dsk) : Dsk := if rdV d = true then dskOf d.1 (comes d.2.2.2.2 (drvOf d)) [] else zeroD
def putD (d : Dsk) (p : Put) : Dsk := if rdV d = true ∧ putV p = true then dskOf d.1 (putU d.1 d.2.2.2.2 (drvOf d)) (putM d.1 d.2.2.2.2 p) else zeroD
theorem crashV_ok {d : Dsk} {k : Int} (h : rdV d = true) (h2 : 0 ≤ k) : crashV d k = dskOf d.1 (comes (keepB k.toNat d.2.2.2.2) (drvOf d)) [] := by unfold crashV; rw [if_pos ⟨h, h2⟩]
theorem crashV_bad {d : Dsk} {k : Int} (h : ¬ rdV d = true) : crashV d k = zeroD := by unfold crashV; rw [if_neg (fun h' => h h'.1)]
theorem crashV_neg {d : Dsk} {k : Int} (h : ¬ 0 ≤ k) : crashV d k = zeroD := by unfold crashV; rw [if_neg (fun h' => h h'.2)]
theorem flushV_ok {d : Dsk} (h : rdV d = true) : flushV d = dskOf d.1 (comes d.2.2.2.2 (drvOf d)) [] := by unfold flushV; rw [if_pos h]
theorem flushV_bad {d : Dsk} (h : ¬ rdV d = true) : flushV d = zeroD := by unfold flushV; rw [if_neg h]
theorem putD_ok {d : Dsk} {p : Put} (h : rdV d = true) (h2 : putV p = true) : putD d p = dskOf d.1 (putU d.1 d.2.2.2.2 (drvOf d)) (putM d.1 d.2.2.2.2 p) := by unfold putD; rw [if_pos ⟨h, h2⟩]
theorem putD_bad {d : Dsk} {p : Put} (h : ¬ rdV d = true) : putD d p = zeroD := by unfold putD; rw [if_neg (fun h' => h h'.1)]
theorem putD_no {d : Dsk} {p : Put} (h : ¬ putV p = true) : putD d p = zeroD := by unfold putD; rw [if_neg (fun h' => h h'.2)]
end Go.Sx

namespace Go.Sx
open Go
theorem all_next {α : Type} {p : α → Bool} {l : List α} {i : Nat} {v : Bool} (hlt : i < l.length) (h : (l.drop i).all p = v) (hp : p l[i] = true) : (l.drop (i + 1)).all p = v := by
 rw [drop_at hlt, List.all_cons, hp, Bool.true_and] at h; exact h
theorem all_hit {α : Type} {p : α → Bool} {l : List α} {i : Nat} {v : Bool} (hlt : i < l.length) (h : (l.drop i).all p = v) (hp : p l[i] = false) : v = false := by
 rw [drop_at hlt, List.all_cons, hp, Bool.false_and] at h; exact h.symm
theorem all_end {α : Type} {p : α → Bool} {l : List α} {v : Bool} (h : (l.drop l.length).all p = v) : v = true := by
 rw [List.drop_length] at h; exact h.symm
theorem lower_t {c : UInt8} (h1 : 97 ≤ (c.toNat : Int)) (h2 : (c.toNat : Int) ≤ 122) : lower c = true := by simp [lower]; omega
theorem lower_l {c : UInt8} (h1 : (c.toNat : Int) < 97) : lower c = false := by simp [lower]; omega
theorem lower_h {c : UInt8} (h1 : 122 < (c.toNat : Int)) : lower c = false := by simp [lower]; omega
theorem placeV_no1 {d : Int} {a : Plc} (h : inV a.1 0 (d - 1) = false) : placeV d a = false := by
 simp only [inV, placeV, Bool.and_eq_false_iff, decide_eq_false_iff_not] at h ⊢
 omega
theorem placeV_no2 {d : Int} {a : Plc} (h : inV a.2 0 11 = false) : placeV d a = false := by
 simp only [inV, placeV, Bool.and_eq_false_iff, decide_eq_false_iff_not] at h ⊢
 omega
theorem placeV_yes {d : Int} {a : Plc} (h1 : inV a.1 0 (d - 1) = true) (h2 : inV a.2 0 11 = true) : placeV d a = true := by
 simp only [inV, placeV, Bool.and_eq_true, decide_eq_true_eq] at h1 h2 ⊢
 omega
theorem volG_small {l : List Vol_} (h : chk volG l = true) (h4 : l.length ≤ 4) : SmallV l := by
 refine ⟨by omega, fun v hv => ?_⟩
 obtain ⟨i, hi, rfl⟩ := List.getElem_of_mem hv
 have h1 := chk_iff.1 h i hi
 simp only [volG, Bool.and_eq_true, decide_eq_true_eq] at h1
 omega
theorem itoaV_small {n : Int} (h : 0 ≤ n) (h2 : n < 10) : itoaV n = [UInt8.ofNat (48 + n).toNat] := by
 obtain ⟨u, rfl⟩ := Int.eq_ofNat_of_zero_le h
 unfold itoaV
 rw [Lib.itoa_nonneg, Lib.decDigits_one (by omega)]
 congr 2
theorem itoaV_big {n : Int} (h : 0 ≤ n) (h2 : ¬ n < 10) : itoaV n = itoaV (n / 10) ++ [UInt8.ofNat (48 + n % 10).toNat] := by
 obtain ⟨u, rfl⟩ := Int.eq_ofNat_of_zero_le h
 unfold itoaV
 rw [Lib.itoa_nonneg, show ((u : Int) / 10) = ((u / 10 : Nat) : Int) by omega, Lib.itoa_nonneg, Lib.decDigits, dif_neg (by omega)]
 congr 3
def wordS (a : Plc) : Str := [32] ++ wordV a
theorem words_join {sz sm : Int} {pl : List Plc} : Lib.join (wordsV (sz, sm, pl)) [32] = (tPtr ++ [32] ++ itoaV sz ++ [32] ++ itoaV sm) ++ catGo wordS (pl.drop 0) := by
 rw [show wordsV (sz, sm, pl) = tPtr :: (itoaV sz :: itoaV sm :: pl.map wordV) from rfl, Lib.join_cons, List.drop_zero]
 have h : ∀ q : List Plc, Lib.joinTail [32] (q.map wordV) = catGo wordS q := by
  intro q
  induction q with
  | nil => rfl
  | cons a q ih => simp only [List.map_cons, Lib.joinTail, List.flatten_cons, catGo, wordS] at ih ⊢; rw [ih]
 rw [← h]
 simp [Lib.joinTail]
theorem ptrV_none {d : Int} {p : Ptr_} (h : ptrV d p = true) (h0 : p.1 = 0) : noneV p = true := by
 simp only [ptrV, Bool.and_eq_true, Bool.or_eq_true] at h
 rcases h.2 with h2 | h2
 ·exact h2
 ·have h3 := h2.1
  simp only [sizeV, inV, Bool.and_eq_true, decide_eq_true_eq] at h3
  omega
theorem ptrV_pos {d : Int} {p : Ptr_} (h : ptrV d p = true) (h0 : ¬ p.1 = 0) : 0 ≤ p.1 ∧ 0 ≤ p.2.1 ∧ ∀ a ∈ p.2.2, 0 ≤ a.1 ∧ 0 ≤ a.2 := by
 simp only [ptrV, Bool.and_eq_true, Bool.or_eq_true] at h
 rcases h.2 with h2 | h2
 ·simp only [noneV, Bool.and_eq_true, decide_eq_true_eq] at h2
  exact absurd h2.1 h0
 ·have h3 := h2.1
  simp only [sizeV, inV, Bool.and_eq_true, decide_eq_true_eq] at h3
  refine ⟨by omega, by omega, fun a ha => ?_⟩
  obtain ⟨i, hi, rfl⟩ := List.getElem_of_mem ha
  have h4 := chk_iff.1 h2.2 i hi
  simp only [placeF, placeV, Bool.and_eq_true, decide_eq_true_eq] at h4
  omega
theorem rootV_txg {d : Int} {r : Root_} (h : rootV d r = true) : 0 ≤ r.1 := by
 simp only [rootV, inV, Bool.and_eq_true, decide_eq_true_eq] at h
 exact h.2.1.1
theorem weigh_one {c : UInt8} {i : Nat} (h : i < 1000000) : 0 ≤ (c.toNat : Int) * (65536 + (i : Int) + 1) ∧ (c.toNat : Int) * (65536 + (i : Int) + 1) ≤ 300000000 := by
 have h1 : c.toNat < 256 := c.toNat_lt
 refine ⟨Int.mul_nonneg (by omega) (by omega), ?_⟩
 have := Int.mul_le_mul (a := (c.toNat : Int)) (b := 65536 + (i : Int) + 1) (c := 255) (d := 1065536) (by omega) (by omega) (by omega) (by omega)
 omega
theorem weigh_next {s : Str} {i : Nat} {n v : Int} (hlt : i < s.length) (h : n + weighGo (s.drop i) i = v) : (n + (s[i].toNat : Int) * (65536 + (i : Int) + 1)) + weighGo (s.drop (i + 1)) (i + 1) = v := by
 rw [drop_at hlt] at h
 simp only [weighGo] at h
 omega
theorem weigh_end {s : Str} {n v : Int} (h : n + weighGo (s.drop s.length) s.length = v) : v = n := by
 rw [List.drop_length] at h; simp only [weighGo] at h; omega
end Go.Sx

namespace Go.Sx
open Go
instance : DecidableEq Plc := instDecidableEqProd
instance : DecidableEq Ptr_ := instDecidableEqProd
instance : DecidableEq Vol_ := instDecidableEqProd
instance : DecidableEq Root_ := instDecidableEqProd
def szGo {α : Type} (f : α → Int → Int) : List α → Int → Int
 | [], left => left
 | x :: r, left => if f x left < 0 then -1 else szGo f r (f x left)
def szL {α : Type} (f : α → Int → Int) (l : List α) (left : Int) : Int := if left - l.length < 0 then -1 else szGo f l (left - l.length)
def szPl (l : List Plc) (left : Int) : Int := if left - l.length < 0 then -1 else left - l.length
def szP (p : Ptr_) (left : Int) : Int := szPl p.2.2 left
def szPs (l : List Ptr_) (left : Int) : Int := szL szP l left
def szV (v : Vol_) (left : Int) : Int := if left - v.1.length < 0 then -1 else szPs v.2 (left - v.1.length)
def szVs (l : List Vol_) (left : Int) : Int := szL szV l left
def SzOk {α : Type} (f : α → Int → Int) : Prop := ∀ x left, 0 ≤ left → -1 ≤ f x left ∧ f x left ≤ left
theorem szGo_bd {α : Type} {f : α → Int → Int} (hf : SzOk f) : ∀ {l : List α} {left : Int}, 0 ≤ left → -1 ≤ szGo f l left ∧ szGo f l left ≤ left := by
 intro l
 induction l with
 | nil => intro left h; exact ⟨by simp only [szGo]; omega, Int.le_refl _⟩
 | cons s r ih =>
  intro left h
  simp only [szGo]
  have h1 := hf s left h
  split
  ·omega
  ·have := ih (left := f s left) (by omega)
   omega
theorem szL_ok {α : Type} {f : α → Int → Int} (hf : SzOk f) : SzOk (szL f) := by
 intro l left h
 unfold szL
 split
 ·omega
 ·have := szGo_bd hf (l := l) (left := left - l.length) (by omega)
  omega
theorem szPl_ok : SzOk szPl := by
 intro l left h
 unfold szPl
 split <;> omega
theorem szP_ok : SzOk szP := fun p left h => szPl_ok p.2.2 left h
theorem szPs_ok : SzOk szPs := szL_ok szP_ok
theorem szV_ok : SzOk szV := by
 intro v left h
 unfold szV
 split
 ·omega
 ·have := szPs_ok v.2 (left - v.1.length) (by omega)
  omega
theorem szVs_ok : SzOk szVs := szL_ok szV_ok
theorem sz_neg {α : Type} {f : α → Int → Int} (hf : SzOk f) {x : α} {left : Int} (h : 0 ≤ left) (h2 : f x left < 0) : f x left = -1 := by have := hf x left h; omega
theorem sz_next {α : Type} {f : α → Int → Int} {l : List α} {i : Nat} {left v : Int} (hlt : i < l.length) (h : szGo f (l.drop i) left = v) (h0 : ¬ f l[i] left < 0) : szGo f (l.drop (i + 1)) (f l[i] left) = v := by
 rw [drop_at hlt] at h; simp only [szGo] at h; rwa [if_neg h0] at h
theorem sz_hit {α : Type} {f : α → Int → Int} {l : List α} {i : Nat} {left v : Int} (hlt : i < l.length) (h : szGo f (l.drop i) left = v) (h0 : f l[i] left < 0) : v = -1 := by
 rw [drop_at hlt] at h; simp only [szGo] at h; rw [if_pos h0] at h; exact h.symm
theorem sz_end {α : Type} {f : α → Int → Int} {l : List α} {left v : Int} (h : szGo f (l.drop l.length) left = v) : v = left := by
 rw [List.drop_length] at h; exact h.symm
def SmP (p : Ptr_) : Prop := p.2.2.length ≤ 1048576
def SmPs (l : List Ptr_) : Prop := l.length ≤ 1048576 ∧ ∀ p ∈ l, SmP p
def SmVs (l : List Vol_) : Prop := l.length ≤ 1048576 ∧ ∀ v ∈ l, SmPs v.2
theorem szGo_sm {α : Type} {f : α → Int → Int} {Q : α → Prop} (hf : SzOk f) (hq : ∀ x left, 0 ≤ left → left ≤ 1048576 → 0 ≤ f x left → Q x) : ∀ {l : List α} {left : Int}, 0 ≤ left → left ≤ 1048576 → 0 ≤ szGo f l left → ∀ x ∈ l, Q x := by
 intro l
 induction l with
 | nil => intro left _ _ _ x hx; cases hx
 | cons s r ih =>
  intro left h0 h1 h x hx
  simp only [szGo] at h
  have hb := hf s left h0
  split at h
  ·omega
  ·rcases List.mem_cons.1 hx with rfl | hx
   ·exact hq x left h0 h1 (by omega)
   ·exact ih (left := f s left) (by omega) (by omega) h x hx
theorem szP_sm (p : Ptr_) (left : Int) (h0 : 0 ≤ left) (h1 : left ≤ 1048576) (h : 0 ≤ szP p left) : SmP p := by
 unfold szP szPl at h
 split at h
 ·omega
 ·unfold SmP; omega
theorem szPs_sm (l : List Ptr_) (left : Int) (h0 : 0 ≤ left) (h1 : left ≤ 1048576) (h : 0 ≤ szPs l left) : SmPs l := by
 unfold szPs szL at h
 split at h
 ·omega
 ·exact ⟨by omega, szGo_sm szP_ok szP_sm (by omega) (by omega) h⟩
theorem szV_sm (v : Vol_) (left : Int) (h0 : 0 ≤ left) (h1 : left ≤ 1048576) (h : 0 ≤ szV v left) : SmPs v.2 := by
 unfold szV at h
 split at h
 ·omega
 ·exact szPs_sm v.2 _ (by omega) (by omega) h
theorem szVs_sm (l : List Vol_) (left : Int) (h0 : 0 ≤ left) (h1 : left ≤ 1048576) (h : 0 ≤ szVs l left) : SmVs l := by
 unfold szVs szL at h
 split at h
 ·omega
 ·exact ⟨by omega, szGo_sm szV_ok szV_sm (by omega) (by omega) h⟩
def cpL {α : Type} (l : List α) (d : α) (i : Nat) : List α := l.take i ++ List.replicate (l.length - i) d
theorem cpL_next {α : Type} {l : List α} {d : α} {i : Nat} (hlt : i < l.length) : (cpL l d i).set i l[i] = cpL l d (i + 1) := by
 unfold cpL
 rw [List.set_append_right _ _ (by simp; omega)]
 have h1 : i - (l.take i).length = 0 := by simp; omega
 rw [h1, show l.length - i = (l.length - (i + 1)) + 1 by omega, List.replicate_succ, List.set_cons_zero, List.take_succ_eq_append_getElem hlt, List.append_assoc]
 rfl
theorem cpL_len {α : Type} {l : List α} {d : α} {i : Nat} (h : i ≤ l.length) : (cpL l d i).length = l.length := by
 unfold cpL; simp; omega
theorem cpL_end {α : Type} {l : List α} {d : α} : cpL l d l.length = l := by unfold cpL; simp
theorem cpL_zero {α : Type} {l : List α} {d : α} : cpL l d 0 = List.replicate l.length d := by unfold cpL; simp
end Go.Sx

namespace Go.Sx
open Go
structure Mk (α : Type) where of_ ::
 mk : Int → α → α
 nx : Int → α → Int
 hd : Int → α → Int
structure MkOk {α : Type} (m : Mk α) : Prop where
 ge : ∀ k x, k ≤ m.nx k x
 hm : ∀ k x, 0 ≤ k → m.hd k (m.mk k x) = m.nx k x
 nm : ∀ k x, m.nx k (m.mk k x) = m.nx k x
 val : ∀ k x, m.hd k x = -1 ∨ m.hd k x = m.nx k x
section
variable {α : Type} (m : Mk α)
def mkLs : Int → List α → List α
 | _, [] => []
 | k, x :: r => m.mk k x :: mkLs (m.nx k x) r
def nxLs : Int → List α → Int
 | k, [] => k
 | k, x :: r => nxLs (m.nx k x) r
def hdLs : Int → List α → Int
 | k, [] => k
 | k, x :: r => if m.hd k x < 0 then -1 else hdLs (m.hd k x) r
def mkList : Mk (List α) := ⟨mkLs m, nxLs m, hdLs m⟩
end
theorem mkList_ok {α : Type} {m : Mk α} (h : MkOk m) : MkOk (mkList m) := by
 have hge : ∀ (l : List α) k, k ≤ nxLs m k l := by
  intro l
  induction l with
  | nil => intro k; exact Int.le_refl _
  | cons x r ih => intro k; exact Int.le_trans (h.ge k x) (ih _)
 refine ⟨fun k x => hge x k, ?_, ?_, ?_⟩
 ·intro k l
  show 0 ≤ k → hdLs m k (mkLs m k l) = nxLs m k l
  induction l generalizing k with
  | nil => intro _; rfl
  | cons x r ih =>
   intro h0
   simp only [mkLs, hdLs, nxLs]
   have h1 := h.ge k x
   rw [h.hm k x h0, if_neg (by omega)]
   exact ih _ (by omega)
 ·intro k l
  show nxLs m k (mkLs m k l) = nxLs m k l
  induction l generalizing k with
  | nil => rfl
  | cons x r ih => simp only [mkLs, nxLs]; rw [h.nm]; exact ih _
 ·intro k l
  show hdLs m k l = -1 ∨ hdLs m k l = nxLs m k l
  induction l generalizing k with
  | nil => exact .inr rfl
  | cons x r ih =>
   simp only [hdLs, nxLs]
   split
   ·exact .inl rfl
   ·rename_i hn
    rcases h.val k x with h1 | h1
    ·rw [h1] at hn; exact absurd (by decide) hn
    ·rw [h1]; exact ih _
section
variable {α : Type} {m : Mk α}
theorem mkLs_len : ∀ {l : List α} {k : Int}, (mkLs m k l).length = l.length := by
 intro l
 induction l with
 | nil => intro k; rfl
 | cons x r ih => intro k; simp only [mkLs, List.length_cons, ih]
theorem mkLs_app : ∀ {a b : List α} {k : Int}, mkLs m k (a ++ b) = mkLs m k a ++ mkLs m (nxLs m k a) b := by
 intro a
 induction a with
 | nil => intro b k; rfl
 | cons x r ih => intro b k; simp only [List.cons_append, mkLs, nxLs, ih]
theorem nxLs_app : ∀ {a b : List α} {k : Int}, nxLs m k (a ++ b) = nxLs m (nxLs m k a) b := by
 intro a
 induction a with
 | nil => intro b k; rfl
 | cons x r ih => intro b k; simp only [List.cons_append, nxLs, ih]
theorem drop_cons' {l : List α} {i : Nat} (h : i < l.length) : l.drop i = l[i] :: l.drop (i + 1) := List.drop_eq_getElem_cons h
theorem take_snoc {l : List α} {i : Nat} (h : i < l.length) : l.take (i + 1) = l.take i ++ [l[i]] := List.take_succ_eq_append_getElem h
theorem mk_clen {l : List α} {k : Int} {i : Nat} (hi : i ≤ l.length) : (mkLs m k (l.take i) ++ l.drop i).length = l.length := by
 rw [List.length_append, mkLs_len, List.length_take, List.length_drop]; omega
theorem mk_get {l : List α} {k : Int} {i : Nat} (h : i < l.length) : (mkLs m k (l.take i) ++ l.drop i)[i]? = some l[i] := by
 have hl : (mkLs m k (l.take i)).length = i := by rw [mkLs_len, List.length_take]; omega
 rw [List.getElem?_append_right (by omega), hl, Nat.sub_self, drop_cons' h]; rfl
theorem nx_next {l : List α} {k : Int} {i : Nat} (h : i < l.length) : nxLs m k (l.take (i + 1)) = m.nx (nxLs m k (l.take i)) l[i] := by
 rw [take_snoc h, nxLs_app]; rfl
theorem mk_next {l : List α} {k : Int} {i : Nat} (h : i < l.length) : (mkLs m k (l.take i) ++ l.drop i).set i (m.mk (nxLs m k (l.take i)) l[i]) = mkLs m k (l.take (i + 1)) ++ l.drop (i + 1) := by
 have hl : (mkLs m k (l.take i)).length = i := by rw [mkLs_len, List.length_take]; omega
 rw [List.set_append_right _ _ (by omega), hl, Nat.sub_self, drop_cons' h, List.set_cons_zero, take_snoc h, mkLs_app, List.append_assoc]
 rfl
theorem nx_split (hm : MkOk m) {l : List α} {k : Int} {i : Nat} (h : i < l.length) : k ≤ nxLs m k (l.take i) ∧ nxLs m k (l.take i) ≤ m.nx (nxLs m k (l.take i)) l[i] ∧ m.nx (nxLs m k (l.take i)) l[i] ≤ nxLs m k l := by
 refine ⟨(mkList_ok hm).ge _ _, hm.ge _ _, ?_⟩
 have e : nxLs m k l = nxLs m (m.nx (nxLs m k (l.take i)) l[i]) (l.drop (i + 1)) := by
  conv => lhs; rw [← List.take_append_drop i l, nxLs_app, drop_cons' h]
  rfl
 rw [e]
 exact (mkList_ok hm).ge _ _
theorem nx_drop (hm : MkOk m) {l : List α} {q : Int} {i : Nat} (h : i < l.length) : nxLs m q (l.drop i) = nxLs m (m.nx q l[i]) (l.drop (i + 1)) ∧ q ≤ m.nx q l[i] ∧ m.nx q l[i] ≤ nxLs m (m.nx q l[i]) (l.drop (i + 1)) := by
 refine ⟨by rw [drop_cons' h]; rfl, hm.ge _ _, (mkList_ok hm).ge _ _⟩
theorem hd_next {l : List α} {q V : Int} {i : Nat} (h : i < l.length) (hgo : hdLs m q (l.drop i) = V) (hn : ¬ m.hd q l[i] < 0) : hdLs m (m.hd q l[i]) (l.drop (i + 1)) = V := by
 rw [drop_cons' h] at hgo; simp only [hdLs, if_neg hn] at hgo; exact hgo
theorem hd_hit {l : List α} {q V : Int} {i : Nat} (h : i < l.length) (hgo : hdLs m q (l.drop i) = V) (hn : m.hd q l[i] < 0) : V = -1 := by
 rw [drop_cons' h] at hgo; simp only [hdLs, if_pos hn] at hgo; exact hgo.symm
theorem hd_end {l : List α} {q V : Int} (hgo : hdLs m q (l.drop l.length) = V) : V = q := by
 rw [List.drop_length] at hgo; exact hgo.symm
theorem hd_pos (hm : MkOk m) {q : Int} {x : α} (hn : ¬ m.hd q x < 0) : m.hd q x = m.nx q x := (hm.val q x).resolve_left fun e => hn (by rw [e]; decide)
theorem hd_neg (hm : MkOk m) {q : Int} {x : α} (h0 : 0 ≤ q) (hn : m.hd q x < 0) : m.hd q x = -1 := (hm.val q x).resolve_right fun e => by have := hm.ge q x; omega
end
def mkOne {α : Type} [DecidableEq α] (n : Int) (f : Int → α) : Mk α := ⟨fun k _ => f k, fun k _ => k + n, fun k x => if x = f k then k + n else -1⟩
theorem mkOne_ok {α : Type} [DecidableEq α] {n : Int} {f : Int → α} (hn : 0 ≤ n) : MkOk (mkOne n f) := by
 refine ⟨fun k x => by show k ≤ k + n; omega, fun k x _ => if_pos rfl, fun _ _ => rfl, fun k x => ?_⟩
 show (if x = f k then k + n else -1) = -1 ∨ (if x = f k then k + n else -1) = k + n
 split
 ·exact .inr rfl
 ·exact .inl rfl
def mkPair {α β : Type} (a : Mk α) (b : Mk β) : Mk (α × β) := ⟨fun k x => (a.mk k x.1, b.mk (a.nx k x.1) x.2), fun k x => b.nx (a.nx k x.1) x.2, fun k x => if a.hd k x.1 < 0 then -1 else b.hd (a.hd k x.1) x.2⟩
theorem mkPair_ok {α β : Type} {a : Mk α} {b : Mk β} (ha : MkOk a) (hb : MkOk b) : MkOk (mkPair a b) := by
 refine ⟨fun k x => Int.le_trans (ha.ge k x.1) (hb.ge _ _), fun k x h => ?_, fun k x => ?_, fun k x => ?_⟩
 ·have := ha.ge k x.1
  show (if a.hd k (a.mk k x.1) < 0 then -1 else b.hd (a.hd k (a.mk k x.1)) (b.mk (a.nx k x.1) x.2)) = _
  rw [ha.hm k _ h, if_neg (by omega)]
  exact hb.hm _ _ (by omega)
 ·show b.nx (a.nx k (a.mk k x.1)) (b.mk (a.nx k x.1) x.2) = _
  rw [ha.nm, hb.nm]; rfl
 ·show (if a.hd k x.1 < 0 then -1 else b.hd (a.hd k x.1) x.2) = -1 ∨ (if a.hd k x.1 < 0 then -1 else b.hd (a.hd k x.1) x.2) = b.nx (a.nx k x.1) x.2
  split
  ·exact .inl rfl
  ·rename_i hn
   rw [hd_pos ha hn]
   exact hb.val _ _
def mkNo {α : Type} : Mk α := ⟨fun _ x => x, fun k _ => k, fun k _ => k⟩
theorem mkNo_ok {α : Type} : MkOk (mkNo : Mk α) := ⟨fun _ _ => Int.le_refl _, fun _ _ _ => rfl, fun _ _ => rfl, fun _ _ => .inr rfl⟩
def mkI : Mk Int := mkOne 1 id
theorem mkI_ok : MkOk mkI := mkOne_ok (by decide)
def digX (k : Nat) (out : Str) : Str := if h : k = 0 then out else digX (k / 10) (UInt8.ofNat (48 + k % 10) :: out)
 termination_by k
 decreasing_by omega
theorem digX_zero {out : Str} : digX 0 out = out := by rw [digX]; rfl
theorem digX_step {k : Nat} {out : Str} (h : k ≠ 0) : digX k out = digX (k / 10) (UInt8.ofNat (48 + k % 10) :: out) := by rw [digX, dif_neg h]
def mkT (k : Int) : Str := if k ≤ 0 then [109, 48] else 109 :: digX k.toNat []
def mkB (k : Int) : Bool := decide (k.tmod 3 = 0)
def mkStr : Mk Str := mkOne 1 mkT
theorem mkStr_ok : MkOk mkStr := mkOne_ok (by decide)
def mkBool : Mk Bool := mkOne 1 mkB
theorem mkBool_ok : MkOk mkBool := mkOne_ok (by decide)
end Go.Sx

namespace Go.Sx
open Go
def szGoD {α : Type} (w : α → Nat) : List α → Int → Int
 | [], left => left
 | s :: r, left => if left - (w s : Int) < 0 then -1 else szGoD w r (left - w s)
def szA {α : Type} (w : α → Nat) (l : List α) (left : Int) : Int := if left - (l.length : Int) < 0 then -1 else szGoD w l (left - l.length)
theorem szGo_bdD {α : Type} {w : α → Nat} : ∀ {l : List α} {left : Int}, 0 ≤ left → -1 ≤ szGoD w l left ∧ szGoD w l left ≤ left := by
 intro l
 induction l with
 | nil => intro left h; exact ⟨by simp only [szGoD]; omega, Int.le_refl _⟩
 | cons s r ih =>
  intro left h
  simp only [szGoD]
  split
  ·omega
  ·rename_i h2
   have := ih (left := left - w s) (by omega)
   omega
theorem szA_bd {α : Type} {w : α → Nat} {l : List α} {left : Int} (h : 0 ≤ left) : -1 ≤ szA w l left ∧ szA w l left ≤ left := by
 unfold szA
 split
 ·omega
 ·have := szGo_bdD (w := w) (l := l) (left := left - l.length) (by omega)
  omega
theorem szA_neg {α : Type} {w : α → Nat} {l : List α} {left : Int} (h : 0 ≤ left) (h2 : szA w l left < 0) : szA w l left = -1 := by have := szA_bd (w := w) (l := l) h; omega
theorem szA_len {α : Type} {w : α → Nat} {l : List α} {left : Int} (h : 0 ≤ szA w l left) : (l.length : Int) ≤ left := by
 unfold szA at h
 split at h
 ·omega
 ·omega
theorem szGo_nextD {α : Type} {w : α → Nat} {l : List α} {i : Nat} {left v : Int} (hlt : i < l.length) (h : szGoD w (l.drop i) left = v) (h0 : ¬ left - (w l[i] : Int) < 0) : szGoD w (l.drop (i + 1)) (left - w l[i]) = v := by
 rw [drop_at hlt] at h; simp only [szGoD] at h; rwa [if_neg h0] at h
theorem szGo_hitD {α : Type} {w : α → Nat} {l : List α} {i : Nat} {left v : Int} (hlt : i < l.length) (h : szGoD w (l.drop i) left = v) (h0 : left - (w l[i] : Int) < 0) : v = -1 := by
 rw [drop_at hlt] at h; simp only [szGoD] at h; rw [if_pos h0] at h; exact h.symm
theorem szGo_endD {α : Type} {w : α → Nat} {l : List α} {left v : Int} (h : szGoD w (l.drop l.length) left = v) : v = left := by
 rw [List.drop_length] at h; exact h.symm
def lenS (s : Str) : Nat := s.length
def lenP (p : Put) : Nat := p.2.2.length
def len0 (_ : Bool) : Nat := 0
theorem szA_bool {l : List Bool} {left : Int} : szA len0 l left = if left - (l.length : Int) < 0 then -1 else left - l.length := by
 have : ∀ (l : List Bool) {left : Int}, 0 ≤ left → szGoD len0 l left = left := by
  intro l
  induction l with
  | nil => intro left _; rfl
  | cons b r ih =>
   intro left h
   have e : left - ((len0 b : Nat) : Int) = left := by simp [len0]
   simp only [szGoD, e]
   rw [if_neg (by omega)]
   exact ih h
 unfold szA
 split
 ·rfl
 ·exact this l (by omega)
def szP1V (p : Put) (left : Int) : Int := if left - (lenP p : Int) < 0 then -1 else left - lenP p
theorem szP1_neg {p : Put} {left : Int} (h : left - (lenP p : Int) < 0) : szP1V p left = -1 := by unfold szP1V; rw [if_pos h]
theorem szP1_pos {p : Put} {left : Int} (h : ¬ left - (lenP p : Int) < 0) : szP1V p left = left - lenP p := by unfold szP1V; rw [if_neg h]
theorem szP1_iff {p : Put} {left : Int} : szP1V p left < 0 ↔ left - (lenP p : Int) < 0 := by
 constructor
 ·intro h
  by_cases h2 : left - (lenP p : Int) < 0
  ·exact h2
  ·rw [szP1_pos h2] at h; exact h
 ·intro h; rw [szP1_neg h]; decide
instance decD0 : DecidableEq Put := inferInstance
instance decD1 : DecidableEq (List Bool × List Put) := inferInstance
instance decD2 : DecidableEq (List Str × List Bool × List Put) := inferInstance
instance decD3 : DecidableEq (List Str × List Str × List Bool × List Put) := inferInstance
instance decD4 : DecidableEq Dsk := inferInstance
def eqDV (a b : Dsk) : Bool := decide (a = b)
theorem eqDV_self {a : Dsk} : eqDV a a = true := by simp [eqDV]
def szD (d : Dsk) (left : Int) : Int :=
 if szA lenS d.2.1 left < 0 then -1 else if szA lenS d.2.2.1 (szA lenS d.2.1 left) < 0 then -1 else
 if szA len0 d.2.2.2.1 (szA lenS d.2.2.1 (szA lenS d.2.1 left)) < 0 then -1 else szA lenP d.2.2.2.2 (szA len0 d.2.2.2.1 (szA lenS d.2.2.1 (szA lenS d.2.1 left)))
def SmallD (d : Dsk) : Prop := d.2.1.length ≤ 1048576 ∧ d.2.2.1.length ≤ 1048576 ∧ d.2.2.2.1.length ≤ 1048576 ∧ d.2.2.2.2.length ≤ 1048576
theorem szD_small {d : Dsk} (h : 0 ≤ szD d 1048576) : SmallD d := by
 unfold szD at h
 split at h
 ·omega
 ·rename_i h1
  split at h
  ·omega
  ·rename_i h2
   split at h
   ·omega
   ·rename_i h3
    have a1 := szA_bd (w := lenS) (l := d.2.1) (left := 1048576) (by omega)
    have a2 := szA_bd (w := lenS) (l := d.2.2.1) (left := szA lenS d.2.1 1048576) (by omega)
    have a3 := szA_bd (w := len0) (l := d.2.2.2.1) (left := szA lenS d.2.2.1 (szA lenS d.2.1 1048576)) (by omega)
    have b1 := szA_len (w := lenS) (l := d.2.1) (left := 1048576) (by omega)
    have b2 := szA_len (w := lenS) (l := d.2.2.1) (left := szA lenS d.2.1 1048576) (by omega)
    have b3 := szA_len (w := len0) (l := d.2.2.2.1) (left := szA lenS d.2.2.1 (szA lenS d.2.1 1048576)) (by omega)
    have b4 := szA_len (w := lenP) (l := d.2.2.2.2) (left := szA len0 d.2.2.2.1 (szA lenS d.2.2.1 (szA lenS d.2.1 1048576))) h
    exact ⟨by omega, by omega, by omega, by omega⟩
theorem eq_len' {α : Type} [DecidableEq α] {a b : List α} (h : ¬ a.length = b.length) : decide (a = b) = false := decide_eq_false fun e => h (by rw [e])
theorem eq_next' {α : Type} [DecidableEq α] {a b : List α} {i : Nat} {v : Bool} (h1 : i < a.length) (h2 : i < b.length) (h : decide (a.drop i = b.drop i) = v) (he : a[i] = b[i]) : decide (a.drop (i + 1) = b.drop (i + 1)) = v := by
 rw [drop_at h1, drop_at h2] at h; rw [← h, he]; exact decide_eq_decide.2 ⟨fun e => by rw [e], fun e => (List.cons.inj e).2⟩
theorem eq_hit' {α : Type} [DecidableEq α] {a b : List α} {i : Nat} {v : Bool} (h1 : i < a.length) (h2 : i < b.length) (h : decide (a.drop i = b.drop i) = v) (he : ¬ a[i] = b[i]) : v = false := by
 rw [drop_at h1, drop_at h2] at h; rw [← h]; exact decide_eq_false fun e => he (List.cons.inj e).1
theorem eq_end' {α : Type} [DecidableEq α] {a b : List α} {v : Bool} (hl : a.length = b.length) (h : decide (a.drop a.length = b.drop a.length) = v) : v = true := by
 rw [← h, List.drop_length, hl, List.drop_length]; simp
def inVD (n a b : Int) : Bool := decide (a ≤ n ∧ n ≤ b)
def slotS (g : Bool) (t : Str) (b : Bool) : Bool := (decide (t.length ≠ 0) && decide (t.length ≠ 3)) || (b && decide (t.length = 0)) || (g && decide (0 < t.length))
def slotsS (g : Bool) : List Str → List Bool → Bool
 | t :: ts, b :: bs => slotS g t b || slotsS g ts bs
 | _, _ => false
def ringS (g : Bool) (t : Str) : Bool := decide (700 < t.length) || (g && decide (0 < t.length))
theorem slotsS_next {g : Bool} {ts : List Str} {bs : List Bool} {i : Nat} {v : Bool} (h1 : i < ts.length) (h2 : i < bs.length) (h : slotsS g (ts.drop i) (bs.drop i) = v) (hn : slotS g ts[i] bs[i] = false) : slotsS g (ts.drop (i + 1)) (bs.drop (i + 1)) = v := by
 rw [drop_at h1, drop_at h2] at h; simpa [slotsS, hn] using h
theorem slotsS_hit {g : Bool} {ts : List Str} {bs : List Bool} {i : Nat} {v : Bool} (h1 : i < ts.length) (h2 : i < bs.length) (h : slotsS g (ts.drop i) (bs.drop i) = v) (hn : slotS g ts[i] bs[i] = true) : v = true := by
 rw [drop_at h1, drop_at h2] at h; simpa [slotsS, hn] using h.symm
theorem slotsS_end {g : Bool} {ts : List Str} {bs : List Bool} {v : Bool} (h : slotsS g (ts.drop ts.length) (bs.drop ts.length) = v) : v = false := by
 rw [List.drop_length] at h; rw [← h]; rfl
theorem any_nextD {α : Type} {p : α → Bool} {l : List α} {i : Nat} {v : Bool} (hlt : i < l.length) (h : (l.drop i).any p = v) (hn : p l[i] = false) : (l.drop (i + 1)).any p = v := by
 rw [drop_at hlt] at h; simp only [List.any_cons, hn, Bool.false_or] at h; exact h
theorem any_hitD {α : Type} {p : α → Bool} {l : List α} {i : Nat} {v : Bool} (hlt : i < l.length) (h : (l.drop i).any p = v) (hn : p l[i] = true) : v = true := by
 rw [drop_at hlt] at h; simp only [List.any_cons, hn, Bool.true_or] at h; exact h.symm
theorem any_endD {α : Type} {p : α → Bool} {l : List α} {v : Bool} (h : (l.drop l.length).any p = v) : v = false := by
 rw [List.drop_length] at h; rw [← h]; rfl
def dokV (d : Dsk) : Bool := shapedV d && !(slotsS (decide (d.1 = 1)) d.2.1 d.2.2.2.1) && !(d.2.2.1.any (ringS (decide (d.1 = 1)))) && !(d.2.2.2.2.any badP) && (decide (¬ d.1 = 1) || decide (d.2.2.2.2.length = 0))
def fullS (t : Str) : Bool := decide (0 < t.length)
theorem slotsS_eq {g : Bool} : ∀ {ts : List Str} {bs : List Bool}, ts.length = bs.length → slotsS g ts bs = (slotsB ts bs || (g && ts.any fullS)) := by
 intro ts
 induction ts with
 | nil => intro bs _; simp [slotsS, slotsB]
 | cons t r ih =>
  intro bs hl
  cases bs with
  | nil => cases hl
  | cons b bs =>
   simp only [slotsS, slotsB, List.any_cons]
   rw [ih (by simpa using hl)]
   have : slotS g t b = (slotB t b || (g && fullS t)) := by
    unfold slotS slotB fullS
    cases t with
    | nil => simp
    | cons x y => simp
   rw [this]
   cases slotB t b <;> cases g <;> cases fullS t <;> simp
theorem rings_eq {g : Bool} : ∀ {ts : List Str}, ts.any (ringS g) = (ts.any longR || (g && ts.any fullS)) := by
 intro ts
 induction ts with
 | nil => simp
 | cons t r ih =>
  simp only [List.any_cons, ih, ringS, longR, fullS]
  cases decide (700 < t.length) <;> cases g <;> cases decide (0 < t.length) <;> simp
theorem any_full {n : Nat} : ∀ {l : List Str}, l.length = n → (l.any fullS = decide (l ≠ List.replicate n [])) := by
 intro l
 induction l generalizing n with
 | nil => intro h; cases h; simp
 | cons t r ih =>
  intro h
  obtain ⟨m, rfl⟩ : ∃ m, n = m + 1 := ⟨n - 1, by simp at h; omega⟩
  simp only [List.any_cons, List.replicate_succ]
  rw [ih (n := m) (by simpa using h)]
  cases t with
  | nil => simp [fullS]
  | cons x y => simp [fullS]
theorem dok_eq {d : Dsk} : dokV d = rdV d := by
 unfold dokV rdV
 cases hs : shapedV d with
 | false => simp
 | true =>
  obtain ⟨_, h1, h2, h3, _⟩ := shaped_iff hs
  rw [slotsS_eq (by rw [h1, h3]), rings_eq, any_full h1, any_full h2]
  unfold goneB
  by_cases hg : d.1 = 1
  ·have hw : decide (d.2.2.2.2.length = 0) = !decide (0 < d.2.2.2.2.length) := by rw [← decide_not]; exact decide_eq_decide.2 (by omega)
   rw [hw]
   simp only [hg, decide_true, Bool.true_and, not_true_eq_false, decide_false, Bool.false_or]
   cases slotsB d.2.1 d.2.2.2.1 <;> cases d.2.2.1.any longR <;> cases d.2.2.2.2.any badP <;> cases decide (d.2.1 ≠ List.replicate 12 []) <;> cases decide (d.2.2.1 ≠ List.replicate 2 []) <;> simp
  ·simp only [hg, decide_false, Bool.false_and, Bool.or_false, not_false_eq_true, decide_true, Bool.true_or, Bool.and_true, Bool.not_false, Bool.true_and]
   cases slotsB d.2.1 d.2.2.2.1 <;> cases d.2.2.1.any longR <;> cases d.2.2.2.2.any badP <;> simp
def comeD (d : Dsk) (p : Put) : Dsk := dskOf d.1 (come p (drvOf d)) d.2.2.2.2
def FitD (d : Dsk) : Prop := d.2.1.length ≤ 12 ∧ d.2.2.1.length ≤ 2 ∧ d.2.2.2.1.length ≤ 12 ∧ d.2.2.2.2.length ≤ 40
theorem fit_zero : FitD zeroD := ⟨Nat.zero_le _, Nat.zero_le _, Nat.zero_le _, Nat.zero_le _⟩
theorem crashV_fit {d : Dsk} {k : Int} : FitD (crashV d k) := by
 unfold crashV
 split
 ·rename_i h
  have hp := rd_parts h.1
  have hok : (comes (keepB k.toNat d.2.2.2.2) (drvOf d)).ok := comes_ok (drv_ok hp.1)
  obtain ⟨a, b, c⟩ := hok
  exact ⟨Nat.le_of_eq a, Nat.le_of_eq b, Nat.le_of_eq c, Nat.zero_le _⟩
 ·exact fit_zero
end Go.Sx

namespace Go.Sx
open Go
def mPlc : Mk Plc := mkPair mkI mkI
def mPtr : Mk Ptr_ := mkPair mkI (mkPair mkI (mkList mPlc))
def mVol : Mk Vol_ := mkPair mkStr (mkList mPtr)
theorem mPlc_ok : MkOk mPlc := mkPair_ok mkI_ok mkI_ok
theorem mPtr_ok : MkOk mPtr := mkPair_ok mkI_ok (mkPair_ok mkI_ok (mkList_ok mPlc_ok))
theorem mVol_ok : MkOk mVol := mkPair_ok mkStr_ok (mkList_ok mPtr_ok)
theorem nx_plcs : ∀ {l : List Plc} {k : Int}, nxLs mPlc k l = k + 2 * (l.length : Int) := by
 intro l
 induction l with
 | nil => intro k; show k = k + 2 * (0 : Int); omega
 | cons x r ih =>
  intro k
  show nxLs mPlc (k + 1 + 1) r = _
  rw [ih, List.length_cons]
  omega
theorem nx_ptrs : ∀ {l : List Ptr_} {k : Int}, (∀ p ∈ l, p.2.2.length ≤ 4) → nxLs mPtr k l ≤ k + 10 * (l.length : Int) := by
 intro l
 induction l with
 | nil => intro k _; show k ≤ k + 10 * (0 : Int); omega
 | cons x r ih =>
  intro k h
  have h1 := h x List.mem_cons_self
  have h2 := ih (k := nxLs mPlc (k + 1 + 1) x.2.2) fun p hp => h p (List.mem_cons_of_mem _ hp)
  show nxLs mPtr (nxLs mPlc (k + 1 + 1) x.2.2) r ≤ _
  rw [nx_plcs] at h2
  rw [nx_plcs, List.length_cons]
  omega
theorem nx_vols : ∀ {l : List Vol_} {k : Int}, (∀ v ∈ l, v.2.length ≤ 3 ∧ ∀ p ∈ v.2, p.2.2.length ≤ 4) → nxLs mVol k l ≤ k + 31 * (l.length : Int) := by
 intro l
 induction l with
 | nil => intro k _; show k ≤ k + 31 * (0 : Int); omega
 | cons x r ih =>
  intro k h
  have h1 := h x List.mem_cons_self
  have h2 := ih (k := nxLs mPtr (k + 1) x.2) fun p hp => h p (List.mem_cons_of_mem _ hp)
  have h3 := nx_ptrs (k := k + 1) h1.2
  show nxLs mVol (nxLs mPtr (k + 1) x.2) r ≤ _
  rw [List.length_cons]
  omega
def FitV (l : List Vol_) : Prop := l.length ≤ 5 ∧ ∀ v ∈ l, v.2.length ≤ 3 ∧ ∀ p ∈ v.2, p.2.2.length ≤ 4
theorem fitV_nil : FitV [] := ⟨Nat.zero_le _, fun v h => by cases h⟩
theorem fitV_nx {l : List Vol_} (h : FitV l) : 1 ≤ nxLs mVol 1 l ∧ nxLs mVol 1 l ≤ 1000 := by
 refine ⟨(mkList_ok mVol_ok).ge 1 l, ?_⟩
 have := nx_vols (k := 1) h.2
 have := h.1
 omega
end Go.Sx

namespace Go.Sx
open Go
abbrev Pol := List Dsk × Bool × Root_ × Root_
instance : DecidableEq Put := instDecidableEqProd
instance : DecidableEq Dsk := instDecidableEqProd
instance : DecidableEq Pol := instDecidableEqProd
def mPut : Mk Put := mkPair mkBool (mkPair mkI mkStr)
def mDsk : Mk Dsk := mkPair mkI (mkPair (mkList mkStr) (mkPair (mkList mkStr) (mkPair (mkList mkBool) (mkList mPut))))
def mRoot : Mk Root_ := mkPair mkNo (mkList mVol)
def mPol : Mk Pol := mkPair (mkList mDsk) (mkPair mkNo (mkPair mRoot mRoot))
theorem mPut_ok : MkOk mPut := mkPair_ok mkBool_ok (mkPair_ok mkI_ok mkStr_ok)
theorem mDsk_ok : MkOk mDsk := mkPair_ok mkI_ok (mkPair_ok (mkList_ok mkStr_ok) (mkPair_ok (mkList_ok mkStr_ok) (mkPair_ok (mkList_ok mkBool_ok) (mkList_ok mPut_ok))))
theorem mRoot_ok : MkOk mRoot := mkPair_ok mkNo_ok (mkList_ok mVol_ok)
theorem mPol_ok : MkOk mPol := mkPair_ok (mkList_ok mDsk_ok) (mkPair_ok mkNo_ok (mkPair_ok mRoot_ok mRoot_ok))
def MkSz {α : Type} (m : Mk α) (f : α → Int → Int) (c : Int) : Prop := ∀ x left k, 0 ≤ left → 0 ≤ f x left → m.nx k x ≤ k + 3 * (left - f x left) + c
theorem mkSz_list {α : Type} {m : Mk α} {f : α → Int → Int} (hf : SzOk f) (h : MkSz m f 3) : MkSz (mkList m) (szL f) 0 := by
 have go : ∀ (l : List α) (left k : Int), 0 ≤ left → 0 ≤ szGo f l left → nxLs m k l ≤ k + 3 * (left - szGo f l left) + 3 * (l.length : Int) := by
  intro l
  induction l with
  | nil => intro left k _ _; simp only [nxLs, szGo, List.length_nil]; omega
  | cons x r ih =>
   intro left k h0 h1
   simp only [szGo] at h1 ⊢
   split at h1
   ·omega
   ·rename_i hn
    rw [if_neg hn]
    have a := h x left k h0 (by omega)
    have b := ih (f x left) (m.nx k x) (by omega) h1
    simp only [nxLs, List.length_cons]
    push_cast
    omega
 intro l left k h0 h1
 show nxLs m k l ≤ _
 unfold szL at h1 ⊢
 split at h1
 ·omega
 ·rename_i hn
  rw [if_neg hn]
  have := go l (left - l.length) k (by omega) h1
  omega
theorem nx_one {α : Type} [DecidableEq α] {n : Int} {f : Int → α} : ∀ {l : List α} {k : Int}, nxLs (mkOne n f) k l = k + n * (l.length : Int) := by
 intro l
 induction l with
 | nil => intro k; show k = k + n * (0 : Int); omega
 | cons x r ih =>
  intro k
  show nxLs (mkOne n f) (k + n) r = _
  rw [ih, List.length_cons]
  push_cast
  rw [Int.mul_add]
  omega
theorem nx_puts : ∀ {l : List Put} {k : Int}, nxLs mPut k l = k + 3 * (l.length : Int) := by
 intro l
 induction l with
 | nil => intro k; show k = k + 3 * (0 : Int); omega
 | cons x r ih =>
  intro k
  show nxLs mPut (k + 1 + 1 + 1) r = _
  rw [ih, List.length_cons]
  omega
theorem szA_cnt {α : Type} {w : α → Nat} {l : List α} {left : Int} (h : 0 ≤ szA w l left) : szA w l left ≤ left - (l.length : Int) := by
 unfold szA at h ⊢
 split at h
 ·omega
 ·rename_i hn
  rw [if_neg hn]
  have := szGo_bdD (w := w) (l := l) (left := left - l.length) (by omega)
  omega
theorem szD_ok : SzOk szD := by
 intro d left h
 have a1 := szA_bd (w := lenS) (l := d.2.1) h
 unfold szD
 split
 ·omega
 ·rename_i h1
  have a2 := szA_bd (w := lenS) (l := d.2.2.1) (left := szA lenS d.2.1 left) (by omega)
  split
  ·omega
  ·rename_i h2
   have a3 := szA_bd (w := len0) (l := d.2.2.2.1) (left := szA lenS d.2.2.1 (szA lenS d.2.1 left)) (by omega)
   split
   ·omega
   ·have a4 := szA_bd (w := lenP) (l := d.2.2.2.2) (left := szA len0 d.2.2.2.1 (szA lenS d.2.2.1 (szA lenS d.2.1 left))) (by omega)
    omega
theorem szD_sm (d : Dsk) (left : Int) (h0 : 0 ≤ left) (h1 : left ≤ 1048576) (h : 0 ≤ szD d left) : SmallD d ∧ mDsk.nx 0 d ≤ 3 * (left - szD d left) + 1 ∧ True := by
 have a1 := szA_bd (w := lenS) (l := d.2.1) h0
 unfold szD at h ⊢
 split at h
 ·omega
 ·rename_i k1
  have a2 := szA_bd (w := lenS) (l := d.2.2.1) (left := szA lenS d.2.1 left) (by omega)
  split at h
  ·omega
  ·rename_i k2
   have a3 := szA_bd (w := len0) (l := d.2.2.2.1) (left := szA lenS d.2.2.1 (szA lenS d.2.1 left)) (by omega)
   split at h
   ·omega
   ·rename_i k3
    rw [if_neg k1, if_neg k2, if_neg k3]
    have b1 := szA_cnt (w := lenS) (l := d.2.1) (left := left) (by omega)
    have b2 := szA_cnt (w := lenS) (l := d.2.2.1) (left := szA lenS d.2.1 left) (by omega)
    have b3 := szA_cnt (w := len0) (l := d.2.2.2.1) (left := szA lenS d.2.2.1 (szA lenS d.2.1 left)) (by omega)
    have b4 := szA_cnt (w := lenP) (l := d.2.2.2.2) (left := szA len0 d.2.2.2.1 (szA lenS d.2.2.1 (szA lenS d.2.1 left))) h
    refine ⟨⟨by omega, by omega, by omega, by omega⟩, ?_, trivial⟩
    show nxLs mPut (nxLs mkBool (nxLs mkStr (nxLs mkStr (0 + 1) d.2.1) d.2.2.1) d.2.2.2.1) d.2.2.2.2 ≤ _
    rw [nx_puts]
    unfold mkBool mkStr
    rw [nx_one, nx_one, nx_one]
    omega
theorem nx_dsk (k : Int) (d : Dsk) : mDsk.nx k d = k + mDsk.nx 0 d := by
 show nxLs mPut (nxLs mkBool (nxLs mkStr (nxLs mkStr (k + 1) d.2.1) d.2.2.1) d.2.2.2.1) d.2.2.2.2 = k + nxLs mPut (nxLs mkBool (nxLs mkStr (nxLs mkStr (0 + 1) d.2.1) d.2.2.1) d.2.2.2.1) d.2.2.2.2
 rw [nx_puts, nx_puts]
 unfold mkBool mkStr
 rw [nx_one, nx_one, nx_one, nx_one, nx_one, nx_one]
 omega
theorem szD_mk : MkSz mDsk szD 3 := by
 intro d left k h0 h
 have a1 := szA_bd (w := lenS) (l := d.2.1) h0
 rw [nx_dsk]
 unfold szD at h ⊢
 split at h
 ·omega
 ·rename_i k1
  have a2 := szA_bd (w := lenS) (l := d.2.2.1) (left := szA lenS d.2.1 left) (by omega)
  split at h
  ·omega
  ·rename_i k2
   have a3 := szA_bd (w := len0) (l := d.2.2.2.1) (left := szA lenS d.2.2.1 (szA lenS d.2.1 left)) (by omega)
   split at h
   ·omega
   ·rename_i k3
    rw [if_neg k1, if_neg k2, if_neg k3]
    have b1 := szA_cnt (w := lenS) (l := d.2.1) (left := left) (by omega)
    have b2 := szA_cnt (w := lenS) (l := d.2.2.1) (left := szA lenS d.2.1 left) (by omega)
    have b3 := szA_cnt (w := len0) (l := d.2.2.2.1) (left := szA lenS d.2.2.1 (szA lenS d.2.1 left)) (by omega)
    have b4 := szA_cnt (w := lenP) (l := d.2.2.2.2) (left := szA len0 d.2.2.2.1 (szA lenS d.2.2.1 (szA lenS d.2.1 left))) h
    show k + nxLs mPut (nxLs mkBool (nxLs mkStr (nxLs mkStr (0 + 1) d.2.1) d.2.2.1) d.2.2.2.1) d.2.2.2.2 ≤ _
    rw [nx_puts]
    unfold mkBool mkStr
    rw [nx_one, nx_one, nx_one]
    omega
theorem szP_mk : MkSz mPtr szP 3 := by
 intro p left k h0 h
 show nxLs mPlc (k + 1 + 1) p.2.2 ≤ _
 rw [nx_plcs]
 unfold szP szPl at h ⊢
 split at h
 ·omega
 ·rename_i hn
  rw [if_neg hn]
  omega
theorem szV_mk : MkSz mVol szV 3 := by
 intro v left k h0 h
 show nxLs mPtr (k + 1) v.2 ≤ _
 unfold szV at h ⊢
 split at h
 ·omega
 ·rename_i hn
  rw [if_neg hn]
  have := mkSz_list szP_ok szP_mk v.2 (left - v.1.length) (k + 1) (by omega) h
  have h2 : nxLs mPtr (k + 1) v.2 ≤ k + 1 + 3 * ((left - v.1.length) - szPs v.2 (left - v.1.length)) + 0 := this
  omega
def szR (r : Root_) (left : Int) : Int := szVs r.2 left
theorem szR_ok : SzOk szR := fun r left h => szVs_ok r.2 left h
theorem szR_mk : MkSz mRoot szR 0 := fun r left k h0 h => mkSz_list szV_ok szV_mk r.2 left k h0 h
def szDs (l : List Dsk) (left : Int) : Int := szL szD l left
theorem szDs_ok : SzOk szDs := szL_ok szD_ok
theorem szDs_mk : MkSz (mkList mDsk) szDs 0 := mkSz_list szD_ok szD_mk
def szPo (p : Pol) (left : Int) : Int :=
 if szDs p.1 left < 0 then -1 else if szR p.2.2.1 (szDs p.1 left) < 0 then -1 else szR p.2.2.2 (szR p.2.2.1 (szDs p.1 left))
theorem szPo_ok : SzOk szPo := by
 intro p left h
 have a := szDs_ok p.1 left h
 unfold szPo
 split
 ·omega
 ·have b := szR_ok p.2.2.1 (szDs p.1 left) (by omega)
  split
  ·omega
  ·have c := szR_ok p.2.2.2 (szR p.2.2.1 (szDs p.1 left)) (by omega)
   omega
theorem szPo_mk : MkSz mPol szPo 0 := by
 intro p left k h0 h
 have a := szDs_ok p.1 left h0
 unfold szPo at h ⊢
 split at h
 ·omega
 ·rename_i h1
  have b := szR_ok p.2.2.1 (szDs p.1 left) (by omega)
  split at h
  ·omega
  ·rename_i h2
   rw [if_neg h1, if_neg h2]
   have x1 := szDs_mk p.1 left k h0 (by omega)
   have x2 := szR_mk p.2.2.1 (szDs p.1 left) (nxLs mDsk k p.1) (by omega) (by omega)
   have x3 := szR_mk p.2.2.2 (szR p.2.2.1 (szDs p.1 left)) (mRoot.nx (nxLs mDsk k p.1) p.2.2.1) (by omega) h
   have x1' : nxLs mDsk k p.1 ≤ k + 3 * (left - szDs p.1 left) + 0 := x1
   show mRoot.nx (mRoot.nx (nxLs mDsk k p.1) p.2.2.1) p.2.2.2 ≤ _
   omega
def SmDs (l : List Dsk) : Prop := l.length ≤ 1048576 ∧ ∀ d ∈ l, SmallD d
def SmPo (p : Pol) : Prop := SmDs p.1 ∧ SmVs p.2.2.1.2 ∧ SmVs p.2.2.2.2
theorem szDs_sm (l : List Dsk) (left : Int) (h0 : 0 ≤ left) (h1 : left ≤ 1048576) (h : 0 ≤ szDs l left) : SmDs l := by
 unfold szDs szL at h
 split at h
 ·omega
 ·exact ⟨by omega, szGo_sm szD_ok (fun d a x y z => (szD_sm d a x y z).1) (by omega) (by omega) h⟩
theorem szPo_sm (p : Pol) (left : Int) (h0 : 0 ≤ left) (h1 : left ≤ 1048576) (h : 0 ≤ szPo p left) : SmPo p := by
 have a := szDs_ok p.1 left h0
 unfold szPo at h
 split at h
 ·omega
 ·have b := szR_ok p.2.2.1 (szDs p.1 left) (by omega)
  split at h
  ·omega
  ·exact ⟨szDs_sm p.1 left h0 h1 (by omega), szVs_sm p.2.2.1.2 _ (by omega) (by omega) (show 0 ≤ szR p.2.2.1 (szDs p.1 left) by omega), szVs_sm p.2.2.2.2 _ (by omega) (by omega) h⟩
theorem nx_pos {α : Type} {m : Mk α} (h : MkOk m) (x : α) : 1 ≤ m.nx 1 x := h.ge 1 x
theorem szPo_cnt {p : Pol} (h : 0 ≤ szPo p 1048576) : 1 ≤ mPol.nx 1 p ∧ mPol.nx 1 p ≤ 4000000 := by
 have := szPo_mk p 1048576 1 (by decide) h
 exact ⟨nx_pos mPol_ok p, by omega⟩
end Go.Sx

namespace Go.Sx
open Go
def noD (d : Dsk) : Bool := !rdV d
def stripeV (ds : List Dsk) : Bool := poolV (ds.length : Int) && !(ds.any noD)
def keepA (ks : List Int) (i : Nat) : Int := if i < ks.length ∧ 0 < ks.getD i 0 then ks.getD i 0 else 0
def crashGo (ks : List Int) : Nat → List Dsk → List Dsk
 | _, [] => []
 | i, d :: r => crashV d (keepA ks i) :: crashGo ks (i + 1) r
def zR : Root_ := (0, [])
def pcrashV (p : Pol) (ks : List Int) : Pol := if stripeV p.1 = true then (crashGo ks 0 p.1, false, zR, zR) else ([], false, zR, zR)
theorem keepA_nn (ks : List Int) (i : Nat) : 0 ≤ keepA ks i := by
 unfold keepA
 split
 ·omega
 ·exact Int.le_refl _
theorem keepA_max {ks : List Int} {i : Nat} (h : i < ks.length) : sMax 0 ks[i] = keepA ks i := by
 unfold keepA sMax
 rw [List.getD_eq_getElem?_getD, gE h]
 by_cases h2 : 0 < ks[i]
 ·simp [h2, h]
 ·simp [h2]
theorem keepA_out {ks : List Int} {i : Nat} (h : ¬ i < ks.length) : keepA ks i = 0 := if_neg fun x => h x.1
theorem crashGo_app {ks : List Int} : ∀ {a b : List Dsk} {i : Nat}, crashGo ks i (a ++ b) = crashGo ks i a ++ crashGo ks (i + a.length) b := by
 intro a
 induction a with
 | nil => intro b i; rfl
 | cons d r ih =>
  intro b i
  simp only [List.cons_append, crashGo, ih, List.length_cons]
  rw [show i + 1 + r.length = i + (r.length + 1) by omega]
theorem crashGo_len {ks : List Int} : ∀ {l : List Dsk} {i : Nat}, (crashGo ks i l).length = l.length := by
 intro l
 induction l with
 | nil => intro i; rfl
 | cons d r ih => intro i; simp only [crashGo, List.length_cons, ih]
theorem crash_next {ks : List Int} {ds : List Dsk} {i : Nat} (h : i < ds.length) : crashGo ks 0 (ds.take i) ++ [crashV ds[i] (keepA ks i)] = crashGo ks 0 (ds.take (i + 1)) := by
 rw [List.take_succ_eq_append_getElem h, crashGo_app]
 congr 1
 simp only [crashGo]
 rw [List.length_take, Nat.min_eq_left (by omega), Nat.zero_add]
theorem crashGo_fit {ks : List Int} : ∀ {l : List Dsk} {i : Nat}, ∀ d ∈ crashGo ks i l, FitD d := by
 intro l
 induction l with
 | nil => intro i d h; cases h
 | cons x r ih =>
  intro i d h
  simp only [crashGo] at h
  rcases List.mem_cons.1 h with rfl | h
  ·exact crashV_fit
  ·exact ih d h
theorem stripe_len {ds : List Dsk} (h : stripeV ds = true) : ds.length ≤ 4 := by
 simp only [stripeV, poolV, inV, Bool.and_eq_true, decide_eq_true_eq] at h
 omega
theorem stripe_all {ds : List Dsk} (h : stripeV ds = true) : ∀ d ∈ ds, rdV d = true := by
 simp only [stripeV, Bool.and_eq_true, Bool.not_eq_true', List.any_eq_false] at h
 intro d hd
 have := h.2 d hd
 simpa [noD] using this
def FitDs (l : List Dsk) : Prop := l.length ≤ 4 ∧ ∀ d ∈ l, FitD d
def FitPo (p : Pol) : Prop := FitDs p.1 ∧ FitV p.2.2.1.2 ∧ FitV p.2.2.2.2
theorem nx_fitD {d : Dsk} (h : FitD d) : mDsk.nx 0 d ≤ 147 := by
 obtain ⟨a, b, c, e⟩ := h
 show nxLs mPut (nxLs mkBool (nxLs mkStr (nxLs mkStr (0 + 1) d.2.1) d.2.2.1) d.2.2.2.1) d.2.2.2.2 ≤ _
 rw [nx_puts]
 unfold mkBool mkStr
 rw [nx_one, nx_one, nx_one]
 omega
theorem nx_fitDs : ∀ {l : List Dsk} {k : Int}, (∀ d ∈ l, FitD d) → nxLs mDsk k l ≤ k + 147 * (l.length : Int) := by
 intro l
 induction l with
 | nil => intro k _; show k ≤ k + 147 * (0 : Int); omega
 | cons x r ih =>
  intro k h
  have h1 := nx_fitD (h x List.mem_cons_self)
  have h2 := ih (k := mDsk.nx k x) fun d hd => h d (List.mem_cons_of_mem _ hd)
  have h3 := nx_dsk k x
  show nxLs mDsk (mDsk.nx k x) r ≤ _
  rw [List.length_cons]
  push_cast
  omega
theorem nx_fitV {l : List Vol_} {k : Int} (h : FitV l) : nxLs mVol k l ≤ k + 155 := by
 have := nx_vols (k := k) h.2
 have := h.1
 omega
theorem nx_fitPo {p : Pol} (h : FitPo p) : 1 ≤ mPol.nx 1 p ∧ mPol.nx 1 p ≤ 1000 := by
 refine ⟨nx_pos mPol_ok p, ?_⟩
 obtain ⟨⟨a, b⟩, c, d⟩ := h
 have h1 := nx_fitDs (k := 1) b
 have h2 := nx_fitV (k := nxLs mDsk 1 p.1) c
 have h3 := nx_fitV (k := nxLs mVol (nxLs mDsk 1 p.1) p.2.2.1.2) d
 show nxLs mVol (nxLs mVol (nxLs mDsk 1 p.1) p.2.2.1.2) p.2.2.2.2 ≤ _
 omega
theorem pcrash_fit {p : Pol} {ks : List Int} : FitPo (pcrashV p ks) := by
 unfold pcrashV
 split
 ·rename_i h
  exact ⟨⟨by show (crashGo ks 0 p.1).length ≤ 4; rw [crashGo_len]; exact stripe_len h, crashGo_fit⟩, fitV_nil, fitV_nil⟩
 ·exact ⟨⟨Nat.zero_le _, fun d h => by cases h⟩, fitV_nil, fitV_nil⟩
theorem all_any {l : List Dsk} : l.all rdV = !(l.any noD) := by
 induction l with
 | nil => rfl
 | cons d r ih => simp only [List.all_cons, List.any_cons, ih, noD, Bool.not_or, Bool.not_not]
end Go.Sx

namespace Go.Sx
open Go
def readV (d : Dsk) (at_ : Int) : Str := if rdV d = true ∧ 0 ≤ at_ ∧ at_ < 12 then seenV (drvOf d) d.2.2.2.2 at_ else []
theorem readV_ok {d : Dsk} {a : Int} (h : rdV d = true) (h2 : 0 ≤ a ∧ a < 12) : readV d a = seenV (drvOf d) d.2.2.2.2 a := by unfold readV; rw [if_pos ⟨h, h2⟩]
theorem readV_bad {d : Dsk} {a : Int} (h : ¬ rdV d = true) : readV d a = [] := by unfold readV; rw [if_neg (fun h' => h h'.1)]
theorem readV_no {d : Dsk} {a : Int} (h : ¬ (0 ≤ a ∧ a < 12)) : readV d a = [] := by unfold readV; rw [if_neg (fun h' => h h'.2)]
def writeD (d : Dsk) (p : Put) : Dsk := dskOf d.1 (putU d.1 d.2.2.2.2 (drvOf d)) (putM d.1 d.2.2.2.2 p)
def newD (n : Int) : Dsk := (n, List.replicate 12 [], List.replicate 2 [], List.replicate 12 false, [])
def colS (t : Str) : Bool := decide (t = []) || decide (t.length = 3)
def xorT (t : Str) (b c : Int) : Str := ofBytes ((toBytes t).set b.toNat (bitsOp .xor .u8 ((toBytes t).getD b.toNat 0) c))
theorem xorT_len {t : Str} {b c : Int} : (xorT t b c).length = t.length := by simp [xorT, ofBytes, toBytes]
def spoilV (d : Dsk) (a b c : Int) : Dsk :=
 if d.2.1.getD a.toNat [] = [] ∨ d.2.2.2.1.getD a.toNat false = true then d else (d.1, d.2.1.set a.toNat (xorT (d.2.1.getD a.toNat []) b c), d.2.2.1, d.2.2.2.1.set a.toNat true, d.2.2.2.2)
theorem spoil_no {d : Dsk} {a b c : Int} (h : d.2.1.getD a.toNat [] = [] ∨ d.2.2.2.1.getD a.toNat false = true) : spoilV d a b c = d := by unfold spoilV; rw [if_pos h]
theorem spoil_yes {d : Dsk} {a b c : Int} (h : ¬ d.2.1.getD a.toNat [] = []) (h2 : ¬ d.2.2.2.1.getD a.toNat false = true) : spoilV d a b c = (d.1, d.2.1.set a.toNat (xorT (d.2.1.getD a.toNat []) b c), d.2.2.1, d.2.2.2.1.set a.toNat true, d.2.2.2.2) := by unfold spoilV; rw [if_neg (fun h' => h'.elim h h2)]
end Go.Sx
