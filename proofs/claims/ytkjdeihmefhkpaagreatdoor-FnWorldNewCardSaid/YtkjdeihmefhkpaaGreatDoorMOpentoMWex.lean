/- Several texts, one behind the other. -/
import Derived.Test.YtkjdeihmefhkpaaGreatDoorSxWtoSxZ
import Derived.SizedLaws
import Derived.OpenShut
import GoSem.ClaimWide
import Derived.WideShapes
import Derived.Handed
import Derived.Shelf.Vars
import Derived.RowKitTokens
import Derived.ChangeVars
import Derived.Conc.Holds
import Derived.SevenTiedAt
import Derived.Lib.ItoaLen
import Derived.Lib.Join
import Derived.Lib.Split
import Derived.Lib.SplitLaws
import Derived.Lib.AtoiTie
import Derived.Lib.AtoiAllCases
import Derived.Lib.Strings
import Derived.RangeFuncBox
import Derived.RangeFuncFrom
import Derived.RangeFuncNested
import Derived.RangeFuncBound
import Derived.RangeFuncCalls
import Derived.RangeFuncLeaves
import Derived.Shelf.Abstract
import Derived.Shelf.RegionOpen
import Derived.WalkKit
import Derived.OwnWalkIn
import Derived.TacticsInMore
import Derived.LoopNIn
import Derived.LoopIn
import Derived.Test.YtkjdeihmefhkpaaGreatDoorProg
set_option linter.all false
namespace Go.Sx
open Go Go.RowKit
section
variable {P : Program} {tt : TT} {G : Gh} {w : World}
theorem fldChk_pr {a b : Ty} {n : Nat} : ∀ {r : List TypeId} {f : Nat}, fldChk tt (.pr a b) (n + 2) (f + 1) r = fldChk tt b (n + 1) f r := by
 intro r
 induction r with
 | nil => intro f; rfl
 | cons t r ih =>
  intro f
  simp only [fldChk, ih]
  rw [show (fieldTy (.pr a b) pF (n + 2) (f + 1) 0).1 = (fieldTy b pF (n + 1) f 0).1 from fieldTy_ty b pF.r pF (n + 1) f _ 0]
theorem st_tr : ∀ (n : Nat) (T : Ty) (fts : List TypeId) (cs : List Value), fts.length = n + 1 → fldChk tt T (n + 1) 0 fts = true → cs.length = T.size →
  (∀ (f : Nat) (t : TypeId) (te : TE), fts[f]? = some t → ttOf tt t = some te → ∃ y, ∀ id p, Tr G w te.T pF id p ((cs.drop (fieldOff T (n + 1) f)).take te.T.size) y) → ∃ y, ∀ id p, Tr G w T pF id p cs y := by
 have base : ∀ (n : Nat) (T : Ty) (fts : List TypeId) (cs : List Value), fts.length = n + 1 → fldChk tt T (n + 1) 0 fts = true → cs.length = T.size → (fieldTy T pF (n + 1) 0 0).1 = T → fieldOff T (n + 1) 0 = 0 →
   (∀ (f : Nat) (t : TypeId) (te : TE), fts[f]? = some t → ttOf tt t = some te → ∃ y, ∀ id p, Tr G w te.T pF id p ((cs.drop (fieldOff T (n + 1) f)).take te.T.size) y) → ∃ y, ∀ id p, Tr G w T pF id p cs y := by
  intro n T fts cs hlen hchk hcs hT hoff h
  cases fts with
  | nil => cases hlen
  | cons t r =>
   simp only [fldChk, Bool.and_eq_true, hT] at hchk
   obtain ⟨te, hte, hteT, _⟩ := elChk_spec hchk.1
   obtain ⟨y, hy⟩ := h 0 t te rfl hte
   subst hteT
   refine ⟨y, fun id p => ?_⟩
   have := hy id p
   rw [hoff, List.drop_zero, List.take_of_length_le (Nat.le_of_eq hcs)] at this
   exact this
 intro n
 induction n with
 | zero => intro T fts cs h1 h2 h3 h4; exact base 0 T fts cs h1 h2 h3 (by cases T <;> rfl) (by cases T <;> rfl) h4
 | succ n ih =>
  intro T fts cs h1 h2 h3 h4
  cases T with
  | pr a b =>
   cases fts with
   | nil => cases h1
   | cons t r =>
    simp only [fldChk, Bool.and_eq_true] at h2
    obtain ⟨te, hte, hteT, _⟩ := elChk_spec h2.1
    obtain ⟨y, hy⟩ := h4 0 t te rfl hte
    have ha : te.T = a := hteT
    obtain ⟨z, hz⟩ := ih b r (cs.drop a.size) (by simpa using h1) (by rw [← fldChk_pr (a := a)]; exact h2.2) (by rw [List.length_drop, h3]; simp [Ty.size]) fun f t' te' hf hte' => by
     obtain ⟨u, hu⟩ := h4 (f + 1) t' te' (by simpa using hf) hte'
     refine ⟨u, fun id p => ?_⟩
     have := hu id p
     rw [show fieldOff (.pr a b) (n + 1 + 1) (f + 1) = a.size + fieldOff b (n + 1) f by
      show (fieldTy b pF (n + 1) f (0 + a.size)).2.2 = _
      rw [fieldTy_off, Nat.zero_add]] at this
     rwa [List.drop_drop]
    subst ha
    refine ⟨(y, z), fun id p => ⟨cs.take te.T.size, cs.drop te.T.size, (List.take_append_drop _ _).symm, ?_, hz id (p ++ [1])⟩⟩
    have := hy id (p ++ [0])
    rwa [show fieldOff (.pr te.T b) (n + 1 + 1) 0 = 0 from rfl, List.drop_zero] at this
  | _ => exact base (n + 1) _ fts cs h1 h2 h3 rfl rfl h4
theorem cellsAt_of {C : Array Value} {o n : Nat} {cs : List Value} (hl : cs.length = n) (h : ∀ i, i < n → C[o + i]? = cs[i]?) : cellsAt C o n = cs := by
 apply List.ext_getElem?
 intro i
 unfold cellsAt
 by_cases hi : i < n
 ·rw [List.getElem?_take_of_lt hi, List.getElem?_drop, Array.getElem?_toList]
  exact h i hi
 ·rw [List.getElem?_eq_none (by rw [List.length_take]; omega), List.getElem?_eq_none (by omega)]
theorem weightsAll_mem {H : Type} {e : TypeId} : ∀ {ds : List (DataW H)} {d : DataW H}, d ∈ ds → ∀ n ∈ d.weights P e, n ∈ DataW.weightsAll P e ds := by
 intro ds
 induction ds with
 | nil => intro d h; cases h
 | cons a r ih =>
  intro d h n hn
  simp only [DataW.weightsAll, List.mem_append]
  rcases List.mem_cons.1 h with rfl | h
  ·exact .inl hn
  ·exact .inr (ih h n hn)
theorem cellsOf_at (T : TtOk P tt) {t : TypeId} {te : TE} (h : ttOf tt t = some te) : P.cellsOf t = te.T.size := by
 obtain ⟨i, hi, _, hs, _⟩ := info_at T h
 simp [Program.cellsOf, hi, hs]
theorem bytesOf_at (T : TtOk P tt) {t : TypeId} {te : TE} (h : ttOf tt t = some te) : P.bytesOf t = te.by_ := by
 obtain ⟨i, hi, _, _, hb⟩ := info_at T h
 simp [Program.bytesOf, hi, hb]
def noPtT (tt : TT) : Nat → TypeId → Bool
 | 0, _ => false
 | m + 1, t => match ttOf tt t with
  | none => false
  | some te => (match te.fts with
   | [] => (match te.T with
    | .sl _ | .arr _ _ => noPtT tt m te.el
    | .pt | .er => false
    | _ => true)
   | a :: r => (a :: r).all (noPtT tt m))
theorem tr_of_trod {H : Type} {enc : TypeId × Value → H} (T : TtOk P tt) (hby : (tt.all fun te => Nat.blt 0 te.by_) = true) (hper : ∀ b, b < w.heap.size → G.g b = .per) :
  ∀ (fuel : Nat) (m : Nat) (t : TypeId) (te : TE) (cs : List Value) (x : DataW H × List MemPlace), noPtT tt m t = true → ttOf tt t = some te → DataW.trod enc P w 0 (fun _ => true) true fuel t cs = some x → (∀ n ∈ x.1.weights P t, n ≤ reachBytes) →
   ∃ y, ∀ id p, Tr G w te.T pF id p cs y := by
 intro fuel
 induction fuel with
 | zero => intro m t te cs x _ _ h; simp [DataW.trod] at h
 | succ fuel ih =>
  intro m t te cs x hnp ht h hwt
  cases m with
  | zero => cases hnp
  | succ m =>
  unfold noPtT at hnp
  rw [ht] at hnp
  simp only at hnp
  obtain ⟨d, hd, hdi⟩ := und_at T ht
  obtain ⟨hok, _, hchk⟩ := T.at ht
  have hrl := reachBytes_lt
  unfold teChk at hchk
  unfold TE.di at hdi
  cases hf : te.fts with
  | nil =>
   rw [hf] at hchk hdi hnp
   simp only at hchk hdi hnp
   cases hT : te.T with
   | int k =>
    rw [hT] at hdi
    have hu : P.underlying t = some (.int k) := by rw [hd]; cases d <;> simp [dinfo] at hdi; rw [hdi]
    obtain ⟨n, rfl, _, hwf⟩ := DataW.trod_int hu h
    exact ⟨n, fun _ _ => ⟨rfl, by simp only [Lit.wf, Bool.and_eq_true, decide_eq_true_eq] at hwf; exact hwf⟩⟩
   | bool =>
    rw [hT] at hdi
    have hu : P.underlying t = some .bool := by rw [hd]; cases d <;> simp [dinfo] at hdi; rfl
    obtain ⟨b, rfl, _⟩ := DataW.trod_bool hu h
    exact ⟨b, fun _ _ => rfl⟩
   | str =>
    rw [hT] at hdi
    have hu : P.underlying t = some .string := by rw [hd]; cases d <;> simp [dinfo] at hdi; rfl
    obtain ⟨b, rfl, rfl, _⟩ := DataW.trod_string hu h
    have := hwt b.data.toList.length (by simp [DataW.weights])
    exact ⟨b.data.toList, fun _ _ => ⟨rfl, by show _ ≤ 140737488355328; omega⟩⟩
   | sl e =>
    rw [hT] at hdi hchk hnp
    have hu : P.underlying t = some (.slice te.el) := by rw [hd]; cases d <;> simp [dinfo] at hdi; rw [hdi]
    obtain ⟨te', hte', he', hsz⟩ := elChk_spec hchk
    subst he'
    have hco := cellsOf_at T hte'
    have hbo := bytesOf_at T hte'
    have hb1 : 0 < te'.by_ := by have := List.all_eq_true.1 hby te' (ttOf_mem hte').1; simpa [Nat.blt_eq] using this
    rcases DataW.trod_slice hu h with ⟨rfl, _⟩ | ⟨a, len, cap, elems, rest, n, hn, rfl, rfl, _, hlc, _, hlen, hel, hsp, _⟩
    ·exact ⟨[], fun _ _ => ⟨none, 0, 0, rfl, rfl, Nat.le_refl _, Nat.zero_le _, fun _ => noO_p _, .inl ⟨fun _ => rfl, rfl⟩⟩⟩
    ·cases hn
     obtain ⟨hrl2, hrest⟩ := hsp rfl
     have hw0 := hwt ((elems.length + rest.length) * P.bytesOf te.el) (by simp [DataW.weights, hu])
     have hcap : cap ≤ maxL := by
      show cap ≤ 140737488355328
      rw [hlen, hrl2, hbo] at hw0
      have : cap * 1 ≤ cap * te'.by_ := Nat.mul_le_mul_left _ hb1
      have : len + (cap - len) = cap := by omega
      rw [this] at hw0
      omega
     have hall : ∀ i, i < cap → ∃ cs', w.cells? 0 (a.add (i * te'.T.size)) te'.T.size = some cs' := by
      intro i hi
      by_cases hil : i < len
      ·have := hel i hil
       rw [hco, gE (by omega)] at this
       obtain ⟨cs', h1, _⟩ := Option.bind_eq_some_iff.1 this
       exact ⟨cs', h1⟩
      ·have := hrest (i - len) (by omega)
       rw [hco, gE (by omega), show len + (i - len) = i by omega] at this
       obtain ⟨cs', h1, _⟩ := Option.bind_eq_some_iff.1 this
       exact ⟨cs', h1⟩
     have hels : ∀ i, i < len → ∃ y, ∃ cs', w.cells? 0 (a.add (i * te'.T.size)) te'.T.size = some cs' ∧ ∀ id p, Tr G w te'.T pF id p cs' y := by
      intro i hi
      have := hel i hi
      rw [hco, gE (by omega)] at this
      obtain ⟨cs', h1, h2⟩ := Option.bind_eq_some_iff.1 this
      obtain ⟨y, hy⟩ := ih m te.el te' cs' _ hnp hte' h2 fun m hm => hwt m (by
       simp only [DataW.weights, hu, List.mem_cons, List.mem_append]
       exact .inr (.inl (weightsAll_mem (List.mem_map.2 ⟨_, List.getElem_mem (by omega), rfl⟩) m hm)))
      exact ⟨y, cs', h1, hy⟩
     by_cases hc0 : cap = 0
     ·subst hc0
      have : len = 0 := by omega
      subst this
      exact ⟨[], fun _ _ => ⟨some a, 0, 0, rfl, rfl, Nat.le_refl _, Nat.zero_le _, fun _ => noO_p _, .inl ⟨(fun e => by cases e), rfl⟩⟩⟩
     ·have hpos : 0 < te'.T.size := Nat.pos_of_ne_zero hsz
      obtain ⟨b, off, sp⟩ := a
      obtain ⟨c0, hc0'⟩ := hall 0 (by omega)
      obtain ⟨_, hl0, hcell0⟩ := World.cells?_some hc0'
      have h00 := hcell0 0 hpos
      rw [Nat.zero_mul, show (({ block := b, off := off, spot := sp } : Addr).add 0).add 0 = ⟨b, off, sp⟩ by simp [Addr.add], gE (by omega)] at h00
      have hheap : ∃ C tt' fz, w.heap[b]? = some (.cells C tt' fz) ∧ sp = none := by
       unfold World.cell? at h00
       split at h00
       ·rename_i C tt' fz hh
        refine ⟨C, tt', fz, hh, ?_⟩
        cases sp with
        | none => rfl
        | some _ => simp at h00
       ·cases h00
      obtain ⟨C, tt', fz, hh, rfl⟩ := hheap
      have hC : ∀ i cs', w.cells? 0 ((⟨b, off, none⟩ : Addr).add (i * te'.T.size)) te'.T.size = some cs' → cs'.length = te'.T.size ∧ ∀ k, k < te'.T.size → C[off + i * te'.T.size + k]? = cs'[k]? := by
       intro i cs' hcs
       obtain ⟨_, hl1, hc1⟩ := World.cells?_some hcs
       refine ⟨hl1, fun k hk => ?_⟩
       have := hc1 k hk
       rw [addr_add, addr_add] at this
       rw [← this, World.cell?, hh]
       rfl
      have hsize : off + cap * te'.T.size ≤ C.size := by
       obtain ⟨c1, hc1⟩ := hall (cap - 1) (by omega)
       obtain ⟨hl1, hg⟩ := hC _ _ hc1
       have := hg (te'.T.size - 1) (by omega)
       rw [gE (by omega)] at this
       have h3 := (Array.getElem?_eq_some_iff.1 this).1
       have h4 : cap * te'.T.size = (cap - 1) * te'.T.size + te'.T.size := by
        rw [← Nat.succ_mul]; congr 1; omega
       omega
      have hlsz : off + len * te'.T.size ≤ C.size := by
       have := Nat.mul_le_mul_right te'.T.size hlc
       omega
      refine ⟨(List.range len).map fun i => if h : i < len then Classical.choose (hels i h) else te'.T.dflt, fun id p => ⟨some ⟨b, off, none⟩, len, cap, rfl, by simp, hlc, Nat.le_trans hlc hcap, fun _ => noO_p _, .inr ⟨b, off, C, tt', fz, rfl, hper b (Array.getElem?_eq_some_iff.1 hh).1, hh, hlsz, (fun e => by cases e), fun j y hy => ?_⟩⟩⟩
      rw [List.getElem?_map, Option.map_eq_some_iff] at hy
      obtain ⟨i, hi, rfl⟩ := hy
      have hil := (List.getElem?_eq_some_iff.1 hi).1
      rw [List.length_range] at hil
      rw [List.getElem?_range hil] at hi
      cases hi
      rw [dif_pos hil]
      obtain ⟨cs', h1, h2⟩ := Classical.choose_spec (hels j hil)
      obtain ⟨hl1, hg⟩ := hC _ _ h1
      rw [cellsAt_of hl1 hg]
      exact h2 id _
   | arr n e =>
    rw [hT] at hdi hchk hnp
    have hu : P.underlying t = some (.array n te.el) := by rw [hd]; cases d <;> simp [dinfo] at hdi; obtain ⟨rfl, rfl⟩ := hdi; rfl
    obtain ⟨te', hte', he', hsz⟩ := elChk_spec hchk
    subst he'
    have hco := cellsOf_at T hte'
    have hct := cellsOf_at T ht
    rw [hT] at hct
    obtain ⟨xs, m, hn, rfl, hlen, hxl, hel⟩ := DataW.trod_array hu h
    cases hn
    have hels : ∀ i, i < n → ∃ y, ∀ id p, Tr G w te'.T pF id p ((cs.drop (i * te'.T.size)).take te'.T.size) y := by
     intro i hi
     have := hel i hi
     rw [hco, gE (by omega)] at this
     exact ih m te.el te' _ _ hnp hte' this fun k hk => hwt k (by
      simp only [DataW.weights, hu]
      exact weightsAll_mem (List.mem_map.2 ⟨_, List.getElem_mem (by omega), rfl⟩) k hk)
    refine ⟨(List.range n).map fun i => if h : i < n then Classical.choose (hels i h) else te'.T.dflt, fun id p => ⟨by rw [hlen, hct]; rfl, by simp, fun j y hy => ?_⟩⟩
    rw [List.getElem?_map, Option.map_eq_some_iff] at hy
    obtain ⟨i, hi, rfl⟩ := hy
    have hil := (List.getElem?_eq_some_iff.1 hi).1
    rw [List.length_range] at hil
    rw [List.getElem?_range hil] at hi
    cases hi
    rw [dif_pos hil]
    exact Classical.choose_spec (hels j hil) default []
   | pr a b => rw [hT] at hchk; cases hchk
   | pt => rw [hT] at hnp; cases hnp
   | er => rw [hT] at hnp; cases hnp
  | cons t0 r =>
   rw [hf] at hchk hdi hnp
   simp only at hchk hdi hnp
   have hu : ∃ fs : Array Field, P.underlying t = some (.struct fs) ∧ fs.toList.map (fun f => (f.offset, f.type)) = offsFrom te.T te.nf 0 (t0 :: r) := by
    rw [hd]; cases d <;> simp [dinfo] at hdi; exact ⟨_, rfl, hdi⟩
   obtain ⟨fs, hu, hfs⟩ := hu
   have hnf := hok.nf
   rw [hf] at hnf
   have hct := cellsOf_at T ht
   obtain ⟨xs, n, hn, rfl, hlen, hxl, hel⟩ := DataW.trod_struct hu h
   cases hn
   have hoffs : ∀ (l : List TypeId) (k j : Nat) (t' : TypeId), l[j]? = some t' → (offsFrom te.T te.nf k l)[j]? = some (fieldOff te.T te.nf (k + j), t') := by
    intro l
    induction l with
    | nil => intro k j t' h; cases h
    | cons a l ihl =>
     intro k j t' h
     cases j with
     | zero => simp only [List.getElem?_cons_zero, Option.some.injEq] at h; subst h; simp [offsFrom]
     | succ j =>
      simp only [List.getElem?_cons_succ] at h
      simp only [offsFrom, List.getElem?_cons_succ]
      rw [ihl (k + 1) j t' h]
      congr 3; omega
   refine st_tr r.length te.T (t0 :: r) cs (by simp) (by rw [← (by simpa using hnf : te.nf = r.length + 1)]; exact hchk) (by rw [hlen, hct]) fun f t' te' hft hte' => ?_
   have h1 := hoffs (t0 :: r) 0 f t' hft
   rw [← hfs, List.getElem?_map, Option.map_eq_some_iff] at h1
   obtain ⟨fd, hfd, hfe⟩ := h1
   simp only [Prod.mk.injEq, Nat.zero_add] at hfe
   have hfd' : fs[f]? = some fd := by rwa [Array.getElem?_toList] at hfd
   have := hel f fd hfd'
   have hfl : f < xs.length := by rw [hxl]; exact (Array.getElem?_eq_some_iff.1 hfd').1
   rw [hfe.1, hfe.2, cellsOf_at T hte', gE hfl] at this
   rw [(by simpa using hnf : te.nf = r.length + 1)] at this
   exact ih m t' te' _ _ (List.all_eq_true.1 hnp t' (List.mem_of_getElem? hft)) hte' this fun k hk => hwt k (by
    simp only [DataW.weights, hu]
    refine DataW.weights_mem_each (j := f) (t := t') (d := (xs[f]).1) ?_ ?_ k hk
    ·rw [List.getElem?_map, hfd]; simp [hfe.2]
    ·rw [List.getElem?_map, gE hfl]; rfl)
end
end Go.Sx

namespace Go.Sx
open Go
@[simp] theorem inR_i64 {n : Int} : inR .i64 n ↔ -9223372036854775808 ≤ n ∧ n ≤ 9223372036854775807 := by simp [inR, IntKind.min, IntKind.max, IntKind.signed, IntKind.bits]
@[simp] theorem inR_u8 {n : Int} : inR .u8 n ↔ 0 ≤ n ∧ n ≤ 255 := by simp [inR, IntKind.min, IntKind.max, IntKind.signed, IntKind.bits]
theorem cj : (conj [] = True) ∧ (∀ p, conj [p] = p) ∧ (∀ p q r, conj (p :: q :: r) = (conj (q :: r) ∧ p)) ∧ (∀ n : Int, inR .i64 n ↔ -9223372036854775808 ≤ n ∧ n ≤ 9223372036854775807) ∧ (∀ p, (True ∧ p) = p) ∧ (∀ p, (p ∧ True) = p) ∧ (∀ n : Nat, (n : Int).toNat = n) := ⟨rfl, fun _ => rfl, fun _ _ _ => rfl, fun _ => inR_i64, true_and, and_true, Int.toNat_natCast⟩
theorem cl {α : Type} : (∀ l : List α, [] ++ l = l) ∧ (∀ (a : α) l m, (a :: l) ++ m = a :: (l ++ m)) ∧ (∀ l : List α, l ++ [] = l) ∧ (∀ l m n : List α, (l ++ m) ++ n = l ++ (m ++ n)) := ⟨List.nil_append, fun _ _ _ => List.cons_append, List.append_nil, List.append_assoc⟩
abbrev TB : Ty := .sl (.int .u8)
abbrev TI : Ty := .int .i64
abbrev Rd := List Int × Int
abbrev rdA (r : Rd) : Res := .var [.d TB pF r.1, .d TI pF r.2]
theorem rd_eta (R : Rd) : (R.1, R.2) = R := rfl
def BOk (b : List Int) : Prop := ∀ v ∈ b, 0 ≤ v ∧ v ≤ 255
structure ROk (r : Rd) (m : Int) : Prop where
 b : BOk r.1
 len : r.1.length ≤ 2000
 p0 : 0 ≤ r.2
 p1 : r.2 + m ≤ 1099511627776
def pickX (b : List Int) (p : Int) : Int := b.getD (p.tmod b.length).toNat 0 * 131 + b.getD ((p * 7 + 3).tmod b.length).toNat 0 * 1117 + p * 29 + p.tdiv b.length * 53
def pickV (b : List Int) (p n : Int) : Int :=
 if n < 1 then 0 else if b.length = 0 then 0 else if p < b.length then (b.getD p.toNat 0).tmod n else (bitsOp .xor .i64 (pickX b p) ((pickX b p).tdiv 64)).tmod n
def pk (r : Rd) (n : Int) : Int := pickV r.1 r.2 n
def nx (r : Rd) : Rd := (r.1, r.2 + 1)
theorem ROk.nx {r : Rd} {m m' : Int} (h : ROk r m) (hm : m' + 1 ≤ m) : ROk (nx r) m' := ⟨h.b, h.len, by have := h.p0; simp only [Sx.nx]; omega, by have := h.p1; simp only [Sx.nx]; omega⟩
theorem ROk.le {r : Rd} {m m' : Int} (h : ROk r m) (hm : m' ≤ m) : ROk r m' := ⟨h.b, h.len, h.p0, by have := h.p1; omega⟩
theorem getD_b {b : List Int} (h : BOk b) (i : Nat) : 0 ≤ b.getD i 0 ∧ b.getD i 0 ≤ 255 := by
 rw [List.getD_eq_getElem?_getD]
 cases hc : b[i]? with
 | none => simp
 | some v => exact h v (List.mem_of_getElem? hc)
theorem pickX_bd {r : Rd} {m : Int} (h : ROk r m) (hm : 0 ≤ m) : 0 ≤ pickX r.1 r.2 ∧ pickX r.1 r.2 ≤ 1000000000000000 := by
 unfold pickX
 have h1 := getD_b h.b (r.2.tmod r.1.length).toNat
 have h2 := getD_b h.b ((r.2 * 7 + 3).tmod r.1.length).toNat
 have h0 := h.p0
 have h3 : 0 ≤ r.2.tdiv r.1.length ∧ r.2.tdiv r.1.length ≤ r.2 := ⟨Int.tdiv_nonneg h0 (Int.natCast_nonneg _), Int.tdiv_le_self _ h0⟩
 have h4 := h.p1
 omega
theorem xor_bd {x : Int} (h : 0 ≤ x) (h2 : x ≤ 1000000000000000) : 0 ≤ bitsOp .xor .i64 x (x.tdiv 64) := by
 have h3 : 0 ≤ x.tdiv 64 ∧ x.tdiv 64 ≤ x := ⟨Int.tdiv_nonneg h (by omega), Int.tdiv_le_self _ h⟩
 obtain ⟨a, rfl⟩ := Int.eq_ofNat_of_zero_le h
 obtain ⟨c, hc⟩ := Int.eq_ofNat_of_zero_le h3.1
 rw [hc]
 have ha : a < 2 ^ 63 := by simp only [Nat.reducePow]; omega
 have hc' : c < 2 ^ 63 := by simp only [Nat.reducePow]; omega
 have e1 : (BitVec.ofInt 64 (a : Int)).toNat = a := by rw [BitVec.toNat_ofInt]; simp only [Nat.reducePow] at ha ⊢; omega
 have e2 : (BitVec.ofInt 64 (c : Int)).toNat = c := by rw [BitVec.toNat_ofInt]; simp only [Nat.reducePow] at hc' ⊢; omega
 have hx := Nat.xor_lt_two_pow ha hc'
 have hb : bitsOp .xor .i64 (a : Int) (c : Int) = IntKind.wrap .i64 ((BitVec.ofInt 64 (a : Int)).toNat ^^^ (BitVec.ofInt 64 (c : Int)).toNat : Nat) := by
  show IntKind.wrap .i64 ((BitVec.ofInt 64 (a : Int) ^^^ BitVec.ofInt 64 (c : Int)).toNat : Nat) = _
  rw [BitVec.toNat_xor]
 rw [hb, e1, e2, wrap_in]
 ·omega
 ·simp only [inR, IntKind.min, IntKind.max, IntKind.signed, IntKind.bits]
  simp only [Nat.reducePow] at hx
  constructor <;> simp <;> omega
theorem pk_bd {r : Rd} {m n : Int} (h : ROk r m) (hm : 0 ≤ m) (hn : 1 ≤ n) : 0 ≤ pk r n ∧ pk r n < n := by
 unfold pk pickV
 rw [if_neg (by omega)]
 split
 ·omega
 ·split
  ·exact ⟨Int.tmod_nonneg _ (getD_b h.b _).1, Int.tmod_lt_of_pos _ (by omega)⟩
  ·have h1 := pickX_bd h hm
   exact ⟨Int.tmod_nonneg _ (xor_bd h1.1 h1.2), Int.tmod_lt_of_pos _ (by omega)⟩
theorem tmod_ix {a n : Int} (h : 0 ≤ a) (hn : 0 < n) : 0 ≤ a.tmod n ∧ a.tmod n < n := ⟨Int.tmod_nonneg _ h, Int.tmod_lt_of_pos _ hn⟩
theorem getD_b' {b : List Int} (h : BOk b) (i : Nat) : 0 ≤ b[i]?.getD 0 ∧ b[i]?.getD 0 ≤ 255 := by rw [← List.getD_eq_getElem?_getD]; exact getD_b h i
end Go.Sx

namespace Go.Sx
open Go Go.RowKit
end Go.Sx

namespace Go.Sx
open Go Go.RowKit
def perG (w : World) : Gh := ⟨fun _ => .bool false, fun b => if b < w.heap.size then .per else .no⟩
def ArgIn (w : World) (te : TE) (v : Value) : Prop := v = mkV te.ag v.cells.toList ∧ (te.ag = false → v.cells.toList.length = 1) ∧ ∃ y, ∀ id p, Tr (perG w) w te.T pF id p v.cells.toList y
theorem mkV_one {v : Value} (h : ∀ cs, v ≠ .agg cs) : v = mkV false v.cells.toList ∧ v.cells.toList.length = 1 := by
 have hv : v.cells = #[v] := by cases v <;> first | rfl | exact absurd rfl (h _)
 exact ⟨by simp [mkV, hv], by simp [hv]⟩
theorem arg_in {P : Program} {tt : TT} {w : World} {H : Type} {enc : TypeId × Value → H} (T : TtOk P tt) (hby : (tt.all fun te => Nat.blt 0 te.by_) = true) {t : TypeId} {te : TE} (hnp : noPtT tt 30 t = true) (ht : ttOf tt t = some te) {v : Value} {r : Reach} {base : Nat} (hval : Value.okWide P w r base t v)
  {d : DataW H} {p : List MemPlace} (hd : DataW.Trod enc P w 0 (fun _ => true) true t v d p) (hwt : ∀ n ∈ d.weights P t, n ≤ reachBytes) : ArgIn w te v := by
 obtain ⟨fuel, hf⟩ := hd
 have htr := tr_of_trod (G := perG w) T hby (fun b hb => by simp [perG, hb]) fuel 30 t te _ _ hnp ht hf hwt
 obtain ⟨dd, hdd, hdi⟩ := und_at T ht
 obtain ⟨hok, _, _⟩ := T.at ht
 have hag := hok.ag
 rw [← hdi] at hag
 refine (fun h => ⟨h.1, h.2, htr⟩ : (v = mkV te.ag v.cells.toList ∧ (te.ag = false → v.cells.toList.length = 1)) → _) ?_
 have key : te.ag = false → (∀ cs, v ≠ .agg cs) → v = mkV te.ag v.cells.toList ∧ (te.ag = false → v.cells.toList.length = 1) := fun h h2 => by
  rw [h]; exact ⟨(mkV_one h2).1, fun _ => (mkV_one h2).2⟩
 unfold Value.okWide at hval
 rw [hdd] at hval
 cases dd with
 | struct fs =>
  obtain ⟨cs, rfl, _⟩ := hval
  have : te.ag = true := hag
  rw [this]; exact ⟨by simp [mkV, Value.cells], fun h => by cases h⟩
 | array n e =>
  obtain ⟨cs, rfl, _⟩ := hval
  have : te.ag = true := hag
  rw [this]; exact ⟨by simp [mkV, Value.cells], fun h => by cases h⟩
 | _ =>
  refine key hag fun cs hc => ?_
  subst hc
  simp only [Cell.okWide, hdd, Cell.ok] at hval
def valIns : List TE → List Mode
 | [] => []
 | te :: r => .val te.ag te.T pF :: valIns r
def ArgsIn (w : World) : List TE → List Value → Prop
 | [], vs => vs = []
 | te :: r, vs => ∃ v vs', vs = v :: vs' ∧ ArgIn w te v ∧ ArgsIn w r vs'
theorem args_ok {w : World} : ∀ {tes : List TE} {k : Nat} {vs : List Value}, ArgsIn w tes vs → ∃ x, ArgsOk (perG w) w k (valIns tes) x vs := by
 intro tes
 induction tes with
 | nil => intro k vs h; exact ⟨(), h⟩
 | cons te r ih =>
  intro k vs h
  obtain ⟨v, vs', rfl, ⟨h1, h2, y, h3⟩, h4⟩ := h
  obtain ⟨x, hx⟩ := ih (k := k + 1) h4
  exact ⟨(y, x), v, vs', rfl, ⟨noO_p te.T, _, h1, h2, h3 default []⟩, hx⟩
theorem amb_mk {P : Program} {w : World} (he : ErrOk (perG w).g w) (h : ∀ nm Q, (nm, Q) ∈ ambTab → ∀ b, P.globalNamed nm = some b → ∃ C t fz, w.heap[b]? = some (.cells C t fz) ∧ Q C.toList) : Amb P (perG w).g w := by
 refine ⟨?_, he⟩
 intro nm Q hm b hb
 obtain ⟨C, t, fz, h1, h2⟩ := h nm Q hm b hb
 have hlt : b < w.heap.size := by
  rcases Nat.lt_or_ge b w.heap.size with h | h
  ·exact h
  ·rw [Array.getElem?_eq_none h] at h1; cases h1
 exact ⟨.inr (by simp [perG, hlt]), C, t, fz, h1, h2⟩
theorem var_block {P : Program} {w : World} {nm : String} {cs : Array Value} {b : Nat} (hb : P.globalNamed nm = some b) (h : w.var? P nm = some cs) : ∃ C t fz, w.heap[b]? = some (.cells C t fz) ∧ C = cs := by
 unfold World.var? at h
 rw [hb] at h
 simp only [Option.bind_some] at h
 split at h
 ·rename_i C t fz hh
  cases h
  exact ⟨_, _, _, hh, rfl⟩
 ·cases h
theorem shaped_int {P : Program} {w : World} {g : Nat} {t : TypeId} {zero : Array Value} {k : IntKind}
  (h : w.ShapedOpen P) (hg : g < P.globals.size) (h0 : ((begin P (fun _ _ => 0) default).world.heap[g]?).bind Obj.row? = some (zero, t)) (hz : zero.size = 1)
  (hb : P.buildable t = true) (hc : P.cellTypes P.depth t = some [t]) (hu : P.underlying t = some (.int k)) : ∃ C t fz, w.heap[g]? = some (.cells C t fz) ∧ ∃ m, C.toList = [.int k m] := by
 obtain ⟨m, hm⟩ := Proofs.cell_of_shapedOpen_int h hg h0 hz hb hc hu
 obtain ⟨cs, hh, hs, _⟩ := h.1 g zero t hg h0
 refine ⟨cs, t, (0, 0), hh, m, ?_⟩
 have h1 : cs.toList.length = 1 := by rw [Array.length_toList]; omega
 have h2 : cs[0]? = some (.int k m) := by simpa [World.cell?, hh] using hm
 match hl : cs.toList, h1 with
 | [v], _ =>
  have : cs.toList[0]? = some (.int k m) := by rw [Array.getElem?_toList]; exact h2
  rw [hl] at this
  simpa using this
theorem law_callsN {P : Program} {f : FuncId} {c : Ctr} {tes : List TE} (hc : c = ⟨f, valIns tes, fun _ => True, fun _ => (sBool true, [])⟩) (h : @CtrOk P (loneJ P) c) {fn : Func} {body : Code} (hf : P.funcs[f]? = some fn) (hb : fn.body = some body) (hn : (fn.name == "runtime.NumGoroutine") = false)
  (args : List Value) (w : World) (ham : Amb P (perG w).g w) (hw : ArgsIn w tes args) : Calls P f args.toArray w fun e w' => e = .returned (.bool true) ∧ Below w.heap.size w w' := by
 subst hc
 obtain ⟨x, hargs⟩ := args_ok (k := 0) hw
 have hbnd : ∀ b, (perG w).g b ≠ .no → b < w.heap.size := fun b hb => by
  by_cases h : b < w.heap.size
  ·exact h
  ·exact absurd (by simp [perG, h]) hb
 obtain ⟨n, w1, hrun, hres⟩ := h (perG w) (fun _ => True) w _ _ hbnd (fun _ _ _ => trivial) ham hargs trivial
 have hrun' : (callFunc f args.toArray).run P w = .ok (.enter f args.toArray) w := by
  have hn' : ¬ fn.name = "runtime.NumGoroutine" := by simpa using hn
  simp [callFunc, hf, hn', hb]
 have heq : (Result.ok n w1 : Result Next) = .ok (.enter f args.toArray) w := hrun.symm.trans hrun'
 injection heq with e1 e2
 subst e1; subst e2
 rcases hres with ⟨v, hv, _⟩ | ⟨_, hcalls⟩ | ⟨row, as_, hv, _⟩
 ·cases hv
 ·refine hcalls.mono ?_
  intro e w' he
  cases e with
  | returned v =>
   obtain ⟨_, G', _, hch, _, _, hm, _⟩ := he
   refine ⟨by rw [hm.boolV], hch.os, hch.tape, hch.output, hch.size, fun k hk => ?_⟩
   exact (hch.pb.per k (by simp [perG, hk])).2
  | panicked c => exact he.elim
  | outgrown => exact he.elim
 ·cases hv
theorem vars_after {H : Type} {enc : TypeId × Value → H} {P : Program} {W W' : World} {n : String} {g t : Nat} {csv : Array Value} {fuel : Nat} {d : DataW H} {p : List MemPlace} {ms : Array (String × TypeId)} {x : Value}
  (hg : P.globalNamed n = some g) (ht : (P.globals[g]?).map (·.type) = some t) (hv : W.var? P n = some csv) (hd : DataW.trod enc P W 0 (fun _ => true) true fuel t csv.toList = some (d, p)) (bel : Below W.heap.size W W')
  (hi : P.underlying t = some (.interface ms)) (hx : csv = #[x]) (ix : IsIface x) : DataW.TrodVars enc P W' (fun b => decide (b < W.heap.size)) [n] [d] (MemPlace.row ⟨g, 0, none⟩ csv.size ++ []) := by
 subst hx
 cases fuel with
 | zero => simp [DataW.trod] at hd
 | succ m =>
  rw [show (#[x] : Array Value).toList = [x] from rfl, trod_held hi ix m] at hd
  cases hd
  have hv' : W'.var? P n = some #[x] := by
   rw [← hv]
   unfold World.var?
   rw [hg]
   simp only [Option.bind_some]
   rw [bel.block g (by
    unfold World.var? at hv
    rw [hg] at hv
    simp only [Option.bind_some] at hv
    rcases Nat.lt_or_ge g W.heap.size with h | h
    ·exact h
    ·rw [Array.getElem?_eq_none h] at hv; cases hv)]
  exact Go.ChangeShapes.trodVars_mk1 hg ht hv' (trod_held hi ix m)
theorem err_mk {w : World} {C : Array Value} {t : TypeId} {fz : Nat × Nat} {A : Addr} (h : w.heap[errB]? = some (.cells C t fz)) (h2 : C.toList = [.iface errT (.pointer (some A))]) : ErrOk (perG w).g w := by
 have hlt : errB < w.heap.size := by
  rcases Nat.lt_or_ge errB w.heap.size with h' | h'
  ·exact h'
  ·rw [Array.getElem?_eq_none h'] at h; cases h
 exact fun _ => ⟨by simp [perG, hlt], C, t, fz, A, h, h2⟩
end Go.Sx

namespace Go.Sx
open Go Go.RowKit
theorem leaving_of_lone {P : Program} {n : Nat} {m : Machine} {fr : Frame} {w w' : World} (h : runN P n m = .next (lone fr [] w)) : leavingAtReturn P (lone fr [] w) w' (runNT P (n + 1) m #[]).2 :=
 ⟨handedOver_of_lone h, ⟨fun g hg => by simp [lone] at hg, by simp [lone]⟩, fun i g hg hi => by
  cases i with
  | zero => exact absurd rfl hi
  | succ k => simp [lone] at hg⟩
theorem leaving_laid_shaped {H : Type} {enc : TypeId × Value → H} {a : Assume} {C : Checked} {os : Os} {f : FuncId} {fn : Func} {s : ChangeSpec} {conds : List PathCond} {apart fresh handsOn again : Bool} {X : World → Array Value → Prop}
  (hX : ∀ (w w' : World) (args : Array Value), w.heap = w'.heap → X w args → X w' args)
  (own : ownKnob C.prog.godebug = none) (started : os.Started) (noInit : C.prog.inits.idxOf? f = none) (hfn : C.prog.funcs[f]? = some fn)
  (witness : ∃ (w : World) (tape : Tape) (i : Input), w.os = os ∧ (w.forCall tape i).Shaped C.prog ∧ i.vars = [] ∧ Input.okWide C.prog (w.forCall tape i) .any w.heap.size f i ∧
   ((s.pre enc C.prog fn conds apart (w.forCall tape i).memory i.args ∧ X (w.forCall tape i).memory i.args) ∧ sizedMet enc C.prog fn (OpenSpec.ofChange s) apart (w.forCall tape i).memory i.args) ∧ a.holds C.prog (lone (Frame.enter C.prog f i.args .normal) [] (w.forCall tape i)))
  (contract : ∀ (W : World) (base : Nat) (args : Array Value) (ds gs : List (DataW H)) (before : List MemPlace),
   (∀ (j : Nat) t v, fn.params[j]? = some t → args[j]? = some v → Value.okWide C.prog W .any base t v) →
   DataW.Whole enc C.prog fn.params.toList s.vars apart W args.toList ds gs before →
   conds.all (PathCond.test C.prog ⟨fn.params.toList, ds, s.plain.varTypes C.prog, gs⟩) = true →
   (DataW.weightsEach C.prog (fn.params.toList ++ s.plain.varTypes C.prog) (ds ++ gs)).all (· ≤ reachBytes) = true → X W args → W.ShapedOpen C.prog →
   a.holds C.prog (lone (Frame.enter C.prog f args .normal) [] W) →
   Calls C.prog f args W fun e W' => ∃ v, e = .returned v ∧ s.post enc C.prog fn apart fresh handsOn again W args v W') :
  ReturnsInLeavingWide a C os f .any (fun w args => (s.pre enc C.prog fn conds apart w args ∧ X w args) ∧ sizedMet enc C.prog fn (OpenSpec.ofChange s) apart w args) (s.post enc C.prog fn apart fresh handsOn again) := fun enter => by
 obtain ⟨w0, t0, i0, a1, a2, a3, a4, a5, a6⟩ := witness
 refine ⟨enter, own, started, ⟨w0, t0, i0, a1, a2, a3, a4, a5, a6, trivial⟩, fun w tape i h => ?_⟩
 have hc : Calls C.prog f i.args (w.forCall tape i) fun
    | .returned v, w' => s.post enc C.prog fn apart fresh handsOn again (w.forCall tape i).blind i.args v w'.blind
    | _, _ => False := by
  obtain ⟨_, hsh, _, hok, hpre, hholds, _⟩ := h
  obtain ⟨_, _, _, fn', hfn', _, _, _, _, hval⟩ := hok
  have e : fn' = fn := Option.some.inj (hfn'.symm.trans hfn)
  subst e
  obtain ⟨⟨⟨ds, gs, before, hw, hc⟩, hx⟩, hz⟩ := hpre
  have hw' := DataW.Whole.of_heap (w' := w.forCall tape i) (by rfl) hw
  refine (contract (w.forCall tape i) w.heap.size i.args ds gs before hval hw' hc (hz.weights hw) (hX _ _ _ (by rfl) hx) hsh hholds).mono fun e W' ⟨v, he, hp⟩ => ?_
  subst he
  exact ChangeSpec.post_blind hp
 obtain ⟨n, v, w', fr, hn, hend, hp⟩ := hc.done_lone noInit
 exact ⟨n + 1, v, w', hend, (clean_of_lone hn).2, roomy_placeholder .., hp, ⟨n, _, hn, step_of_runs hn hend, leaving_of_lone hn⟩, fun _ _ _ => trivial⟩
theorem andT {a b : Bool} (h : a = true) (k : b = true) : (a && b) = true := by rw [h, k]; rfl
theorem kindsE {α : Type} [BEq α] {k : List α} {d : Bool} (X : List α) (h : d = true) (hk : (k == []) = true) : (k == (if d then [] else X)) = true := by subst h; exact hk
theorem tied_goes (Lk : Looks) {p : Pinned} {s : OpenSpec} {c : OpenClaim} (kinds : List LaidKind) (tests : Bool) (har : Bool × String) (lk g : Bool)
  (hc : c.holds p s) (hw : c.wfByText s = true) (htie : c.laidByTextAt Lk p kinds tests)
  (hst : c.start = .entering) (hnb : c.noBlocks = false ∧ c.again = false) (hm : p.checked.prog.mainIs = some (har.1, har.2.toList)) (hn : (!har.1 && har.2.isEmpty && !lk) = false)
  (hl : ∀ f fn, p.checked.prog.funcNamed c.func = some f → p.checked.prog.funcs[f]? = some fn → lk = p.checked.prog.looks [] ∧ ∀ (j : Nat) t, fn.params[j]? = some t → p.checked.prog.wantsStandIn t = false)
  (hg : g = c.goesBy p.checked.prog) :
  Claim7.holds p (.plain s) { stood := { row := c, standIns := [], harness := har, looks := lk }, kinds := [], alts := [], goes := g, laidByText := true, laidKinds := kinds, laidTests := tests, laidLooks := Lk } := by
 have h6 : ∀ r : OpenClaim, Claim7.isSixth { stood := { row := r, standIns := [], harness := har, looks := lk }, kinds := [] } = false := fun r => by simpa [Claim7.isSixth] using hn
 refine ⟨Claim7.tied_new_at Lk kinds tests (Claim7.new_of_sixth hc har lk hst hnb hm (h6 c) hl) hw, fun D hD => ?_, htie, (fun h => by cases h), hg⟩
 cases hD
end Go.Sx

namespace Go.Sx
open Go
theorem drop_at {α : Type} {l : List α} {i : Nat} (h : i < l.length) : l.drop i = l[i] :: l.drop (i + 1) := by simp
def idxFGo {α : Type} (p : α → Bool) : List α → Nat → Int
 | [], _ => -1
 | s :: r, i => if p s then (i : Int) else idxFGo p r (i + 1)
def idxF {α : Type} (p : α → Bool) (l : List α) : Int := idxFGo p l 0
theorem idxF_next {α : Type} {p : α → Bool} {l : List α} {i : Nat} {v : Int} (hlt : i < l.length) (h : idxFGo p (l.drop i) i = v) (hp : p l[i] = false) : idxFGo p (l.drop (i + 1)) (i + 1) = v := by
 rw [drop_at hlt] at h; simpa [idxFGo, hp] using h
theorem idxF_hit {α : Type} {p : α → Bool} {l : List α} {i : Nat} {v : Int} (hlt : i < l.length) (h : idxFGo p (l.drop i) i = v) (hp : p l[i] = true) : v = i := by
 rw [drop_at hlt] at h; simp [idxFGo, hp] at h; exact h.symm
theorem idxF_end {α : Type} {p : α → Bool} {l : List α} {j : Nat} {v : Int} (h : idxFGo p (l.drop l.length) j = v) : v = -1 := by
 rw [List.drop_length] at h; exact h.symm
theorem idxFGo_any {α : Type} {p : α → Bool} : ∀ {l : List α} {i : Nat}, decide (0 ≤ idxFGo p l i) = l.any p := by
 intro l
 induction l with
 | nil => intro i; rfl
 | cons s r ih =>
  intro i
  simp only [idxFGo, List.any_cons]
  by_cases hp : p s = true
  ·simp [hp]
  ·simpa [hp] using ih
theorem idxF_any {α : Type} {p : α → Bool} {l : List α} : decide (0 ≤ idxF p l) = l.any p := idxFGo_any
end Go.Sx

namespace Go.Sx
open Go
def chkGo {α : Type} (f : List α → α → Bool) : List α → List α → Bool
 | _, [] => true
 | pre, x :: r => f pre x && chkGo f (pre ++ [x]) r
def chk {α : Type} (f : List α → α → Bool) (l : List α) : Bool := chkGo f [] l
theorem chk_next {α : Type} {f : List α → α → Bool} {l : List α} {i : Nat} {v : Bool} (hlt : i < l.length) (h : chkGo f (l.take i) (l.drop i) = v) (hf : f (l.take i) l[i] = true) : chkGo f (l.take (i + 1)) (l.drop (i + 1)) = v := by
 rw [drop_at hlt] at h
 simp only [chkGo, hf, Bool.true_and] at h
 rwa [List.take_succ_eq_append_getElem hlt]
theorem chk_hit {α : Type} {f : List α → α → Bool} {l : List α} {i : Nat} {v : Bool} (hlt : i < l.length) (h : chkGo f (l.take i) (l.drop i) = v) (hf : f (l.take i) l[i] = false) : v = false := by
 rw [drop_at hlt] at h
 simp only [chkGo, hf, Bool.false_and] at h
 exact h.symm
theorem chk_end {α : Type} {f : List α → α → Bool} {l pre : List α} {v : Bool} (h : chkGo f pre (l.drop l.length) = v) : v = true := by
 rw [List.drop_length] at h; exact h.symm
theorem chkGo_iff {α : Type} {f : List α → α → Bool} : ∀ {l pre : List α}, chkGo f pre l = true ↔ ∀ i (h : i < l.length), f (pre ++ l.take i) l[i] = true := by
 intro l
 induction l with
 | nil => intro pre; simp [chkGo]
 | cons x r ih =>
  intro pre
  simp only [chkGo, Bool.and_eq_true, ih]
  constructor
  ·rintro ⟨h1, h2⟩ i hi
   cases i with
   | zero => simpa using h1
   | succ i => have := h2 i (by simpa using hi); simpa using this
  ·intro h
   have h0 := h 0 (Nat.zero_lt_succ _)
   simp only [List.take_zero, List.append_nil, List.getElem_cons_zero] at h0
   refine ⟨h0, fun i hi => ?_⟩
   have := h (i + 1) (by simpa using hi)
   simpa using this
theorem chk_iff {α : Type} {f : List α → α → Bool} {l : List α} : chk f l = true ↔ ∀ i (h : i < l.length), f (l.take i) l[i] = true := by
 unfold chk; rw [chkGo_iff]; simp
theorem any_next {α : Type} {p : α → Bool} {l : List α} {i : Nat} (hlt : i < l.length) (h : (l.take i).any p = false) (hp : p l[i] = false) : (l.take (i + 1)).any p = false := by
 rw [List.take_succ_eq_append_getElem hlt, List.any_append, h]; simp [hp]
theorem any_hit {α : Type} {p : α → Bool} {l : List α} {k i : Nat} (hk : k < i) (hlt : k < l.length) (hp : p l[k] = true) : (l.take i).any p = true := by
 rw [List.any_eq_true]
 exact ⟨l[k], List.mem_take_iff_getElem.2 ⟨k, by omega, rfl⟩, hp⟩
theorem any_hit' {α : Type} {p : α → Bool} {l : List α} {k : Nat} (hlt : k < l.length) (hp : p l[k] = true) : l.any p = true := by
 rw [List.any_eq_true]
 exact ⟨l[k], List.getElem_mem hlt, hp⟩
theorem any_end {α : Type} {p : α → Bool} {l : List α} (h : (l.take l.length).any p = false) : l.any p = false := by rwa [List.take_length] at h
theorem eqL_next {α : Type} [DecidableEq α] {a b : List α} {i : Nat} {v : Bool} (h1 : i < a.length) (h2 : i < b.length) (h : decide (a.drop i = b.drop i) = v) (he : a[i] = b[i]) : decide (a.drop (i + 1) = b.drop (i + 1)) = v := by
 rw [drop_at h1, drop_at h2] at h
 simp only [List.cons.injEq, he, true_and] at h
 exact h
theorem eqL_hit {α : Type} [DecidableEq α] {a b : List α} {i : Nat} {v : Bool} (h1 : i < a.length) (h2 : i < b.length) (h : decide (a.drop i = b.drop i) = v) (he : ¬ a[i] = b[i]) : v = false := by
 rw [drop_at h1, drop_at h2] at h
 simp only [List.cons.injEq, he, false_and, decide_false] at h
 exact h.symm
theorem eqL_end {α : Type} [DecidableEq α] {a b : List α} {v : Bool} (hl : a.length = b.length) (h : decide (a.drop a.length = b.drop a.length) = v) : v = true := by
 rw [List.drop_length, hl, List.drop_length] at h
 exact h.symm.trans (by simp)
theorem eqL_len {α : Type} [DecidableEq α] {a b : List α} (h : ¬ a.length = b.length) : decide (a = b) = false := by
 simp only [decide_eq_false_iff_not]
 exact fun e => h (by rw [e])
def catGo {α : Type} (f : α → Str) : List α → Str
 | [] => []
 | x :: r => f x ++ catGo f r
theorem cat_next {α : Type} {f : α → Str} {l : List α} {i : Nat} {o v : Str} (hlt : i < l.length) (h : o ++ catGo f (l.drop i) = v) : (o ++ f l[i]) ++ catGo f (l.drop (i + 1)) = v := by
 rw [drop_at hlt] at h
 simpa [catGo] using h
theorem cat_end {α : Type} {f : α → Str} {l : List α} {o v : Str} (h : o ++ catGo f (l.drop l.length) = v) : o = v := by
 rw [List.drop_length] at h; simpa [catGo] using h
theorem cat_len {α : Type} {f : α → Str} {m : Nat} : ∀ {l : List α}, (∀ x ∈ l, (f x).length ≤ m) → (catGo f l).length ≤ l.length * m := by
 intro l
 induction l with
 | nil => intro _; simp [catGo]
 | cons x r ih =>
  intro h
  have h1 := h x List.mem_cons_self
  have h2 := ih fun y hy => h y (List.mem_cons_of_mem _ hy)
  simp only [catGo, List.length_append, List.length_cons]
  rw [Nat.add_mul]
  omega
theorem flat_next {α β : Type} {f : α → List β} {l : List α} {i : Nat} (hlt : i < l.length) : (l.take i).flatMap f ++ f l[i] = (l.take (i + 1)).flatMap f := by
 rw [List.take_succ_eq_append_getElem hlt]; simp only [List.flatMap_append, List.flatMap_cons, List.flatMap_nil, List.append_nil]
end Go.Sx

namespace Go.Sx
open Go
abbrev Plc := Int × Int
abbrev Ptr_ := Int × Int × List Plc
abbrev Vol_ := Str × List Ptr_
abbrev Root_ := Int × List Vol_
def inV (n lo hi : Int) : Bool := decide (lo ≤ n) && decide (n ≤ hi)
def lower (c : UInt8) : Bool := decide (97 ≤ c.toNat) && decide (c.toNat ≤ 122)
def nameV (s : Str) : Bool := inV s.length 1 3 && s.all lower
def poolV (d : Int) : Bool := inV d 3 4
def noneV (p : Ptr_) : Bool := decide (p.1 = 0) && (decide (p.2.1 = 0) && decide (p.2.2.length = 0))
def mostV (d : Int) : Int := 3 * sMin 3 (d - 1)
def colsV (n : Int) : Int := (n + 3 - 1).tdiv 3
def placeV (d : Int) (a : Plc) : Bool := decide (0 ≤ a.1) && (decide (a.1 < d) && (decide (0 ≤ a.2) && decide (a.2 < 12)))
def placeF (d : Int) (pre : List Plc) (a : Plc) : Bool := placeV d a && !(pre.any fun q => decide (q.1 = a.1))
def sizeV (d : Int) (p : Ptr_) : Bool := inV p.1 1 (mostV d) && (inV p.2.1 0 1000000000 && decide ((p.2.2.length : Int) = colsV p.1 + 1))
def ptrV (d : Int) (p : Ptr_) : Bool := poolV d && (noneV p || (sizeV d p && chk (placeF d) p.2.2))
def ptrW (d : Int) (p : Ptr_) : Bool := if p.1 = 0 then decide (p.2.1 = 0) && decide (p.2.2.length = 0) else sizeV d p && chk (placeF d) p.2.2
def blksOf (l : List Vol_) : List Ptr_ := l.flatMap (·.2)
def volF (d : Int) (pre : List Vol_) (v : Vol_) : Bool := nameV v.1 && (decide (v.2.length = 3) && (!(pre.any fun w => decide (w.1 = v.1)) && v.2.all (ptrV d)))
def volsV (d : Int) (l : List Vol_) : Bool := chk (volF d) l && decide (l.length ≤ 4)
def pairsOf (l : List Ptr_) : List (Plc × Ptr_) := l.flatMap fun p => p.2.2.map fun a => (a, p)
abbrev PK : Ty := .pr (.int .i64) (.int .i64)
def ownGo : List (Plc × Ptr_) → List (Plc × Ptr_) → Bool
 | _, [] => true
 | m, (a, p) :: r => (match mget PK m a with | some q => decide (p = q) | none => true) && ownGo (mset PK m a p) r
def rootV (d : Int) (r : Root_) : Bool := poolV d && (inV r.1 0 100000 && (volsV d r.2 && ownGo [] (pairsOf (blksOf r.2))))
def meetV (p q : Ptr_) : Bool := p.2.2.any fun a => q.2.2.any fun b => decide (a = b)
def volG (pre : List Vol_) (v : Vol_) : Bool := nameV v.1 && (decide (v.2.length = 3) && !(pre.any fun w => decide (w.1 = v.1)))
def ptrG (d : Int) (pre : List Ptr_) (p : Ptr_) : Bool := ptrW d p && !(pre.any fun q => meetV p q && !decide (p = q))
def volsS (d : Int) (l : List Vol_) : Bool := chk volG l && chk (ptrG d) (blksOf l)
def rootS (d : Int) (r : Root_) : Bool := poolV d && (inV r.1 0 100000 && (decide (r.2.length ≤ 4) && volsS d r.2))
def tRoot : Str := [114, 111, 111, 116, 32]
def tVol : Str := [118, 111, 108, 32]
def tSum : Str := [115, 117, 109, 32]
def tPtr : Str := [112, 116, 114]
def tNone : Str := [110, 111, 110, 101, 10]
def itoaV (n : Int) : Str := Lib.itoa n
def wordV (a : Plc) : Str := itoaV a.1 ++ [46] ++ itoaV a.2
def wordsV (p : Ptr_) : List Str := [tPtr, itoaV p.1, itoaV p.2.1] ++ p.2.2.map wordV
def lineV (p : Ptr_) : Str := if noneV p = true then tNone else Lib.join (wordsV p) [32] ++ [10]
def volT (v : Vol_) : Str := (tVol ++ v.1 ++ [10]) ++ catGo lineV v.2
def bodyV (r : Root_) : Str := (tRoot ++ itoaV r.1 ++ [10]) ++ catGo volT r.2
def weighGo : Str → Nat → Int
 | [], _ => 0
 | c :: r, i => (c.toNat : Int) * (65536 + (i : Int) + 1) + weighGo r (i + 1)
def weighV (s : Str) : Int := weighGo s 0
def sealV (s : Str) : Str := s ++ tSum ++ itoaV (weighV s) ++ [10]
def rootT (d : Int) (r : Root_) : Str := if rootV d r = true then sealV (bodyV r) else []
end Go.Sx

namespace Go.Sx
open Go
theorem sMin_bd (d : Int) (h : 3 ≤ d ∧ d ≤ 4) : sMin 3 (d - 1) = d - 1 := by
 unfold sMin
 by_cases h4 : d - 1 < 3
 ·simp [h4]
 ·simp [h4]; omega
theorem colsV_bd {n : Int} (h0 : 0 ≤ n) (h1 : n ≤ 1000000) : 0 ≤ colsV n ∧ colsV n ≤ 1000000 := by
 unfold colsV
 have a : 0 ≤ (n + 3 - 1).tdiv 3 := Int.tdiv_nonneg (by omega) (by decide)
 have b : (n + 3 - 1).tdiv 3 = (n + 3 - 1) / 3 := Int.tdiv_eq_ediv_of_nonneg (by omega)
 omega
theorem not_any {α : Type} {p : α → Bool} {l : List α} : (!(l.any fun x => !p x)) = l.all p := by
 rw [List.all_eq_not_any_not]
def SmallV (l : List Vol_) : Prop := l.length ≤ 100 ∧ ∀ v ∈ l, v.2.length ≤ 100
theorem blks_len' : ∀ {l : List Vol_}, (∀ v ∈ l, v.2.length ≤ 100) → (blksOf l).length ≤ l.length * 100 := by
 intro l
 induction l with
 | nil => intro _; simp [blksOf]
 | cons v r ih =>
  intro h
  have h1 := h v List.mem_cons_self
  have h2 := ih fun y hy => h y (List.mem_cons_of_mem _ hy)
  simp only [blksOf, List.flatMap_cons, List.length_append, List.length_cons] at h2 ⊢
  rw [Nat.add_mul]
  omega
theorem blks_len {l : List Vol_} {i : Nat} (h : SmallV l) : (blksOf (l.take i)).length ≤ 10000 := by
 have h1 := blks_len' (l := l.take i) fun v hv => h.2 v (List.mem_of_mem_take hv)
 have h2 : (l.take i).length ≤ 100 := Nat.le_trans (List.length_take_le' _ _) h.1
 have h3 := Nat.mul_le_mul_right 100 h2
 omega
theorem blks_all {l : List Vol_} (h : SmallV l) : (blksOf l).length ≤ 10000 := by have := blks_len (i := l.length) h; rwa [List.take_length] at this
theorem volsV_small {d : Int} {l : List Vol_} (h : volsV d l = true) : SmallV l := by
 simp only [volsV, Bool.and_eq_true, chk_iff, decide_eq_true_eq] at h
 refine ⟨by omega, fun v hv => ?_⟩
 obtain ⟨i, hi, rfl⟩ := List.getElem_of_mem hv
 have h1 := h.1 i hi
 simp only [volF, Bool.and_eq_true, decide_eq_true_eq] at h1
 omega
theorem own_in {l : List Ptr_} {i : Nat} {m : List (Plc × Ptr_)} {v : Bool} (hlt : i < l.length) (h : ownGo m (pairsOf (l.drop i)) = v) : ownGo m ((l[i].2.2.drop 0).map (fun a => (a, l[i])) ++ pairsOf (l.drop (i + 1))) = v := by
 rw [drop_at hlt] at h
 simp only [pairsOf, List.flatMap_cons, List.drop_zero] at h ⊢
 exact h
theorem own_out {p : Ptr_} {r : List (Plc × Ptr_)} {m : List (Plc × Ptr_)} {v : Bool} (h : ownGo m ((p.2.2.drop p.2.2.length).map (fun a => (a, p)) ++ r) = v) : ownGo m r = v := by
 simpa using h
theorem own_none {p : Ptr_} {r : List (Plc × Ptr_)} {m : List (Plc × Ptr_)} {v : Bool} {j : Nat} (hlj : j < p.2.2.length) (h : ownGo m ((p.2.2.drop j).map (fun a => (a, p)) ++ r) = v) (hq : mget PK m p.2.2[j] = none) : ownGo (mset PK m p.2.2[j] p) ((p.2.2.drop (j + 1)).map (fun a => (a, p)) ++ r) = v := by
 rw [drop_at hlj] at h
 simp only [List.map_cons, List.cons_append, ownGo] at h
 rw [hq] at h
 simpa only [Bool.true_and] using h
theorem own_some {p q : Ptr_} {r : List (Plc × Ptr_)} {m : List (Plc × Ptr_)} {v : Bool} {j : Nat} (hlj : j < p.2.2.length) (h : ownGo m ((p.2.2.drop j).map (fun a => (a, p)) ++ r) = v) (hq : mget PK m p.2.2[j] = some q) (he : p = q) : ownGo (mset PK m p.2.2[j] p) ((p.2.2.drop (j + 1)).map (fun a => (a, p)) ++ r) = v := by
 rw [drop_at hlj] at h
 simp only [List.map_cons, List.cons_append, ownGo] at h
 rw [hq] at h
 subst he
 simpa only [decide_true, Bool.true_and] using h
theorem own_bad {p q : Ptr_} {r : List (Plc × Ptr_)} {m : List (Plc × Ptr_)} {v : Bool} {j : Nat} (hlj : j < p.2.2.length) (h : ownGo m ((p.2.2.drop j).map (fun a => (a, p)) ++ r) = v) (hq : mget PK m p.2.2[j] = some q) (he : ¬ p = q) : v = false := by
 rw [drop_at hlj] at h
 simp only [List.map_cons, List.cons_append, ownGo] at h
 rw [hq] at h
 simp only [he, decide_false, Bool.false_and] at h
 exact h.symm
theorem own_end {l : List Ptr_} {m : List (Plc × Ptr_)} {v : Bool} (h : ownGo m (pairsOf (l.drop l.length)) = v) : v = true := by
 rw [List.drop_length] at h; exact h.symm
theorem blks_pl {l : List Vol_} (h : ∀ v ∈ l, ∀ p ∈ v.2, p.2.2.length ≤ 140737488355328) : ∀ p ∈ blksOf l, p.2.2.length ≤ 140737488355328 := by
 intro p hp
 obtain ⟨v, hv, hp⟩ := List.mem_flatMap.1 hp
 exact h v hv p hp
theorem itoaV_len {n : Int} (h : inR .i64 n) : (itoaV n).length ≤ 21 := by
 rw [inR_i64] at h
 exact Lib.itoa_length_le n h.1 h.2
theorem ptrV_len {d : Int} {p : Ptr_} (h : ptrV d p = true) : p.2.2.length ≤ 4 := by
 simp only [ptrV, Bool.and_eq_true, Bool.or_eq_true] at h
 obtain ⟨h1, h2⟩ := h
 rcases h2 with h2 | h2
 ·simp only [noneV, Bool.and_eq_true, decide_eq_true_eq] at h2
  omega
 ·have hb : 3 ≤ d ∧ d ≤ 4 := by simpa [poolV, inV] using h1
  have h3 := h2.1
  simp only [sizeV, inV, Bool.and_eq_true, decide_eq_true_eq] at h3
  have hm := sMin_bd d hb
  have h4 : mostV d = 3 * (d - 1) := by unfold mostV; rw [hm]
  have h5 : colsV p.1 = (p.1 + 3 - 1) / 3 := Int.tdiv_eq_ediv_of_nonneg (by omega)
  omega
theorem wordV_len {a : Plc} (h : inR .i64 a.1 ∧ inR .i64 a.2) : (wordV a).length ≤ 43 := by
 have h1 := itoaV_len h.1
 have h2 := itoaV_len h.2
 simp only [wordV, List.length_append, List.length_cons, List.length_nil]
 omega
theorem words_next {pl : List Plc} {i : Nat} (h : i < pl.length) : List.take i (List.map wordV pl) ++ [itoaV pl[i].1 ++ 46 :: itoaV pl[i].2] = List.take (i + 1) (List.map wordV pl) := by
 have h2 : i < (pl.map wordV).length := by simpa using h
 rw [List.take_succ_eq_append_getElem h2]
 simp only [List.getElem_map, wordV, List.append_assoc, List.cons_append, List.nil_append]
theorem joinTail_len {sep : Str} {m : Nat} : ∀ {l : List Str}, (∀ x ∈ l, x.length ≤ m) → (Lib.joinTail sep l).length ≤ l.length * (sep.length + m) := by
 intro l
 induction l with
 | nil => intro _; simp [Lib.joinTail]
 | cons x r ih =>
  intro h
  have h1 := h x List.mem_cons_self
  have h2 := ih fun y hy => h y (List.mem_cons_of_mem _ hy)
  simp only [Lib.joinTail, List.map_cons, List.flatten_cons, List.length_append, List.length_cons] at h2 ⊢
  rw [Nat.add_mul]
  omega
theorem join_len {sz sm : Int} {pl : List Plc} (h1 : inR .i64 sz) (h2 : inR .i64 sm) (h3 : ∀ a ∈ pl, inR .i64 a.1 ∧ inR .i64 a.2) (h4 : pl.length ≤ 4) : (Lib.join (wordsV (sz, sm, pl)) [32]).length ≤ 290 := by
 rw [show wordsV (sz, sm, pl) = tPtr :: (itoaV sz :: itoaV sm :: pl.map wordV) from rfl, Lib.join_cons, List.length_append]
 have := joinTail_len (sep := [32]) (m := 43) (l := itoaV sz :: itoaV sm :: pl.map wordV) fun x hx => by
  rcases List.mem_cons.1 hx with rfl | hx
  ·have := itoaV_len h1; omega
  ·rcases List.mem_cons.1 hx with rfl | hx
   ·have := itoaV_len h2; omega
   ·obtain ⟨a, ha, rfl⟩ := List.mem_map.1 hx
    exact wordV_len (h3 a ha)
 simp only [List.length_cons, List.length_map, List.length_nil] at this
 simp only [tPtr, List.length_cons, List.length_nil]
 omega
def SmallR (l : List Vol_) : Prop := l.length ≤ 4 ∧ ∀ v ∈ l, v.1.length ≤ 3 ∧ v.2.length = 3 ∧ ∀ p ∈ v.2, ∃ d, ptrV d p = true
theorem rootV_small {d : Int} {r : Root_} (h : rootV d r = true) : SmallR r.2 := by
 simp only [rootV, volsV, Bool.and_eq_true, chk_iff, decide_eq_true_eq] at h
 refine ⟨by omega, fun v hv => ?_⟩
 obtain ⟨i, hi, rfl⟩ := List.getElem_of_mem hv
 have h1 := h.2.2.1.1 i hi
 simp only [volF, nameV, inV, Bool.and_eq_true, decide_eq_true_eq, List.all_eq_true] at h1
 exact ⟨by omega, by omega, fun p hp => ⟨d, h1.2.2.2 p hp⟩⟩
theorem lineV_len' {d : Int} {p : Ptr_} (h1 : inR .i64 p.1) (h2 : inR .i64 p.2.1) (h3 : ∀ a ∈ p.2.2, inR .i64 a.1 ∧ inR .i64 a.2) (h : ptrV d p = true) : (lineV p).length ≤ 300 := by
 unfold lineV
 split
 ·simp [tNone]
 ·rw [List.length_append]
  have : (Lib.join (wordsV p) [32]).length ≤ 290 := join_len h1 h2 h3 (ptrV_len h)
  simp only [List.length_cons, List.length_nil]
  omega
theorem vol_in {l : List Vol_} {i : Nat} {o v : Str} (hlt : i < l.length) (h : o ++ catGo volT (l.drop i) = v) : ((o ++ (tVol ++ l[i].1 ++ [10])) ++ catGo lineV (l[i].2.drop 0)) ++ catGo volT (l.drop (i + 1)) = v := by
 rw [drop_at hlt] at h
 rw [List.drop_zero]
 simp only [catGo, volT] at h
 simpa only [List.append_assoc] using h
theorem vol_line {l : List Ptr_} {j : Nat} {o r v : Str} (hlj : j < l.length) (h : (o ++ catGo lineV (l.drop j)) ++ r = v) : ((o ++ lineV l[j]) ++ catGo lineV (l.drop (j + 1))) ++ r = v := by
 rw [drop_at hlj] at h
 simp only [catGo] at h
 simpa only [List.append_assoc] using h
theorem vol_out {l : List Ptr_} {o r v : Str} (h : (o ++ catGo lineV (l.drop l.length)) ++ r = v) : o ++ r = v := by
 rw [List.drop_length] at h
 simpa [catGo] using h
end Go.Sx

namespace Go.Sx
open Go
theorem all_next {α : Type} {p : α → Bool} {l : List α} {i : Nat} {v : Bool} (hlt : i < l.length) (h : (l.drop i).all p = v) (hp : p l[i] = true) : (l.drop (i + 1)).all p = v := by
 rw [drop_at hlt, List.all_cons, hp, Bool.true_and] at h; exact h
theorem all_hit {α : Type} {p : α → Bool} {l : List α} {i : Nat} {v : Bool} (hlt : i < l.length) (h : (l.drop i).all p = v) (hp : p l[i] = false) : v = false := by
 rw [drop_at hlt, List.all_cons, hp, Bool.false_and] at h; exact h.symm
theorem all_end {α : Type} {p : α → Bool} {l : List α} {v : Bool} (h : (l.drop l.length).all p = v) : v = true := by
 rw [List.drop_length] at h; exact h.symm
theorem lower_t {c : UInt8} (h1 : 97 ≤ (c.toNat : Int)) (h2 : (c.toNat : Int) ≤ 122) : lower c = true := by simp [lower]; omega
theorem lower_l {c : UInt8} (h1 : (c.toNat : Int) < 97) : lower c = false := by simp [lower]; omega
theorem lower_h {c : UInt8} (h1 : 122 < (c.toNat : Int)) : lower c = false := by simp [lower]; omega
theorem placeV_no1 {d : Int} {a : Plc} (h : inV a.1 0 (d - 1) = false) : placeV d a = false := by
 simp only [inV, placeV, Bool.and_eq_false_iff, decide_eq_false_iff_not] at h ⊢
 omega
theorem placeV_no2 {d : Int} {a : Plc} (h : inV a.2 0 11 = false) : placeV d a = false := by
 simp only [inV, placeV, Bool.and_eq_false_iff, decide_eq_false_iff_not] at h ⊢
 omega
theorem placeV_yes {d : Int} {a : Plc} (h1 : inV a.1 0 (d - 1) = true) (h2 : inV a.2 0 11 = true) : placeV d a = true := by
 simp only [inV, placeV, Bool.and_eq_true, decide_eq_true_eq] at h1 h2 ⊢
 omega
theorem volG_small {l : List Vol_} (h : chk volG l = true) (h4 : l.length ≤ 4) : SmallV l := by
 refine ⟨by omega, fun v hv => ?_⟩
 obtain ⟨i, hi, rfl⟩ := List.getElem_of_mem hv
 have h1 := chk_iff.1 h i hi
 simp only [volG, Bool.and_eq_true, decide_eq_true_eq] at h1
 omega
theorem itoaV_small {n : Int} (h : 0 ≤ n) (h2 : n < 10) : itoaV n = [UInt8.ofNat (48 + n).toNat] := by
 obtain ⟨u, rfl⟩ := Int.eq_ofNat_of_zero_le h
 unfold itoaV
 rw [Lib.itoa_nonneg, Lib.decDigits_one (by omega)]
 congr 2
theorem itoaV_big {n : Int} (h : 0 ≤ n) (h2 : ¬ n < 10) : itoaV n = itoaV (n / 10) ++ [UInt8.ofNat (48 + n % 10).toNat] := by
 obtain ⟨u, rfl⟩ := Int.eq_ofNat_of_zero_le h
 unfold itoaV
 rw [Lib.itoa_nonneg, show ((u : Int) / 10) = ((u / 10 : Nat) : Int) by omega, Lib.itoa_nonneg, Lib.decDigits, dif_neg (by omega)]
 congr 3
def wordS (a : Plc) : Str := [32] ++ wordV a
theorem words_join {sz sm : Int} {pl : List Plc} : Lib.join (wordsV (sz, sm, pl)) [32] = (tPtr ++ [32] ++ itoaV sz ++ [32] ++ itoaV sm) ++ catGo wordS (pl.drop 0) := by
 rw [show wordsV (sz, sm, pl) = tPtr :: (itoaV sz :: itoaV sm :: pl.map wordV) from rfl, Lib.join_cons, List.drop_zero]
 have h : ∀ q : List Plc, Lib.joinTail [32] (q.map wordV) = catGo wordS q := by
  intro q
  induction q with
  | nil => rfl
  | cons a q ih => simp only [List.map_cons, Lib.joinTail, List.flatten_cons, catGo, wordS] at ih ⊢; rw [ih]
 rw [← h]
 simp [Lib.joinTail]
theorem ptrV_none {d : Int} {p : Ptr_} (h : ptrV d p = true) (h0 : p.1 = 0) : noneV p = true := by
 simp only [ptrV, Bool.and_eq_true, Bool.or_eq_true] at h
 rcases h.2 with h2 | h2
 ·exact h2
 ·have h3 := h2.1
  simp only [sizeV, inV, Bool.and_eq_true, decide_eq_true_eq] at h3
  omega
theorem ptrV_pos {d : Int} {p : Ptr_} (h : ptrV d p = true) (h0 : ¬ p.1 = 0) : 0 ≤ p.1 ∧ 0 ≤ p.2.1 ∧ ∀ a ∈ p.2.2, 0 ≤ a.1 ∧ 0 ≤ a.2 := by
 simp only [ptrV, Bool.and_eq_true, Bool.or_eq_true] at h
 rcases h.2 with h2 | h2
 ·simp only [noneV, Bool.and_eq_true, decide_eq_true_eq] at h2
  exact absurd h2.1 h0
 ·have h3 := h2.1
  simp only [sizeV, inV, Bool.and_eq_true, decide_eq_true_eq] at h3
  refine ⟨by omega, by omega, fun a ha => ?_⟩
  obtain ⟨i, hi, rfl⟩ := List.getElem_of_mem ha
  have h4 := chk_iff.1 h2.2 i hi
  simp only [placeF, placeV, Bool.and_eq_true, decide_eq_true_eq] at h4
  omega
theorem rootV_txg {d : Int} {r : Root_} (h : rootV d r = true) : 0 ≤ r.1 := by
 simp only [rootV, inV, Bool.and_eq_true, decide_eq_true_eq] at h
 exact h.2.1.1
theorem weigh_one {c : UInt8} {i : Nat} (h : i < 1000000) : 0 ≤ (c.toNat : Int) * (65536 + (i : Int) + 1) ∧ (c.toNat : Int) * (65536 + (i : Int) + 1) ≤ 300000000 := by
 have h1 : c.toNat < 256 := c.toNat_lt
 refine ⟨Int.mul_nonneg (by omega) (by omega), ?_⟩
 have := Int.mul_le_mul (a := (c.toNat : Int)) (b := 65536 + (i : Int) + 1) (c := 255) (d := 1065536) (by omega) (by omega) (by omega) (by omega)
 omega
theorem weigh_next {s : Str} {i : Nat} {n v : Int} (hlt : i < s.length) (h : n + weighGo (s.drop i) i = v) : (n + (s[i].toNat : Int) * (65536 + (i : Int) + 1)) + weighGo (s.drop (i + 1)) (i + 1) = v := by
 rw [drop_at hlt] at h
 simp only [weighGo] at h
 omega
theorem weigh_end {s : Str} {n v : Int} (h : n + weighGo (s.drop s.length) s.length = v) : v = n := by
 rw [List.drop_length] at h; simp only [weighGo] at h; omega
end Go.Sx

namespace Go.Sx
open Go
instance : DecidableEq Plc := instDecidableEqProd
instance : DecidableEq Ptr_ := instDecidableEqProd
instance : DecidableEq Vol_ := instDecidableEqProd
instance : DecidableEq Root_ := instDecidableEqProd
end Go.Sx

namespace Go.Sx
open Go
def rd0 (code : List Int) : Rd := (code.take 2000, 0)
theorem rd0_ok {code : List Int} (h : ∀ v ∈ code, inR .u8 v) : ROk (rd0 code) 3000 := by
 refine ⟨fun v hv => ?_, ?_, by show (0 : Int) ≤ 0; decide, by show (0 : Int) + 3000 ≤ 1099511627776; decide⟩
 ·have := h v (List.mem_of_mem_take hv); rwa [inR_u8] at this
 ·exact List.length_take_le _ _
def v0 (vs : List Vol_) : Vol_ := vs.getD 0 ([], [])
end Go.Sx

namespace Go.Sx
open Go
abbrev Put := Bool × Int × Str
abbrev Dsk := Int × List Str × List Str × List Bool × List Put
abbrev Drv := List Str × List Str × List Bool
def putV (p : Put) : Bool := if p.1 = true then decide (0 ≤ p.2.1 ∧ p.2.1 < 2 ∧ p.2.2.length ≤ 700) else decide (0 ≤ p.2.1 ∧ p.2.1 < 12 ∧ p.2.2.length = 3)
theorem putV_ring {p : Put} (h : putV p = true) (hr : p.1 = true) : 0 ≤ p.2.1 ∧ p.2.1 < 2 ∧ p.2.2.length ≤ 700 := by unfold putV at h; rw [if_pos hr] at h; exact of_decide_eq_true h
theorem putV_slot {p : Put} (h : putV p = true) (hr : p.1 = false) : 0 ≤ p.2.1 ∧ p.2.1 < 12 ∧ p.2.2.length = 3 := by unfold putV at h; rw [if_neg (by simp [hr])] at h; exact of_decide_eq_true h
def badP (p : Put) : Bool := !putV p
def longR (t : Str) : Bool := decide (700 < t.length)
def stV (n : Int) : Bool := decide (0 ≤ n ∧ n ≤ 2)
def shapedV (d : Dsk) : Bool := stV d.1 && decide (d.2.1.length = 12) && decide (d.2.2.1.length = 2) && decide (d.2.2.2.1.length = 12) && decide (d.2.2.2.2.length ≤ 40)
theorem shaped_iff {d : Dsk} (h : shapedV d = true) : stV d.1 = true ∧ d.2.1.length = 12 ∧ d.2.2.1.length = 2 ∧ d.2.2.2.1.length = 12 ∧ d.2.2.2.2.length ≤ 40 := by
 simp only [shapedV, Bool.and_eq_true, decide_eq_true_eq] at h
 exact ⟨h.1.1.1.1, h.1.1.1.2, h.1.1.2, h.1.2, h.2⟩
def come (p : Put) (t : Drv) : Drv := if p.1 = true then (t.1, t.2.1.set p.2.1.toNat p.2.2, t.2.2) else (t.1.set p.2.1.toNat p.2.2, t.2.1, t.2.2.set p.2.1.toNat false)
theorem come_ring {p : Put} {t : Drv} (h : p.1 = true) : come p t = (t.1, t.2.1.set p.2.1.toNat p.2.2, t.2.2) := by unfold come; rw [if_pos h]
theorem come_slot {p : Put} {t : Drv} (h : p.1 = false) : come p t = (t.1.set p.2.1.toNat p.2.2, t.2.1, t.2.2.set p.2.1.toNat false) := by unfold come; rw [if_neg (by simp [h])]
def Drv.ok (t : Drv) : Prop := t.1.length = 12 ∧ t.2.1.length = 2 ∧ t.2.2.length = 12
def slotB (t : Str) (b : Bool) : Bool := (decide (t ≠ []) && !decide (t.length = 3)) || (decide (t = []) && b)
def slotsB : List Str → List Bool → Bool
 | t :: ts, b :: bs => slotB t b || slotsB ts bs
 | _, _ => false
def goneB (d : Dsk) : Bool := decide (d.1 = 1) && (decide (d.2.1 ≠ List.replicate 12 []) || decide (d.2.2.1 ≠ List.replicate 2 []) || decide (0 < d.2.2.2.2.length))
def rdV (d : Dsk) : Bool := shapedV d && !(d.2.2.2.2.any badP) && !(slotsB d.2.1 d.2.2.2.1) && !(d.2.2.1.any longR) && !(goneB d)
theorem gone_no {d : Dsk} (h : goneB d = false) (h1 : d.1 = 1) : d.2.1 = List.replicate 12 [] ∧ d.2.2.1 = List.replicate 2 [] ∧ d.2.2.2.2.length = 0 := by
 simp only [goneB, h1, decide_true, Bool.true_and, Bool.or_eq_false_iff, decide_eq_false_iff_not, Decidable.not_not] at h
 exact ⟨h.1.1, h.1.2, by omega⟩
theorem gone_yes {d : Dsk} (h1 : d.2.1 = List.replicate 12 []) (h2 : d.2.2.1 = List.replicate 2 []) (h3 : d.2.2.2.2.length = 0) : goneB d = false := by
 simp only [goneB, h1, h2, h3, ne_eq, not_true_eq_false, decide_false, Bool.or_false, Nat.lt_irrefl, Bool.and_false]
theorem gone_live {d : Dsk} (h : ¬ d.1 = 1) : goneB d = false := by simp only [goneB, h, decide_false, Bool.false_and]
theorem rd_mk {d : Dsk} (h1 : shapedV d = true) (h2 : d.2.2.2.2.any badP = false) (h3 : slotsB d.2.1 d.2.2.2.1 = false) (h4 : d.2.2.1.any longR = false) (h5 : goneB d = false) : rdV d = true := by
 simp only [rdV, h1, h2, h3, h4, h5, Bool.not_false, Bool.and_self]
theorem slots_next {ts : List Str} {bs : List Bool} {i : Nat} {v : Bool} (h1 : i < ts.length) (h2 : i < bs.length) (h : slotsB (ts.drop i) (bs.drop i) = v) (hn : slotB ts[i] bs[i] = false) : slotsB (ts.drop (i + 1)) (bs.drop (i + 1)) = v := by
 rw [drop_at h1, drop_at h2] at h; simpa [slotsB, hn] using h
theorem slots_hit {ts : List Str} {bs : List Bool} {i : Nat} {v : Bool} (h1 : i < ts.length) (h2 : i < bs.length) (h : slotsB (ts.drop i) (bs.drop i) = v) (hn : slotB ts[i] bs[i] = true) : v = true := by
 rw [drop_at h1, drop_at h2] at h; simpa [slotsB, hn] using h.symm
theorem slots_end {ts : List Str} {bs : List Bool} {v : Bool} (h : slotsB (ts.drop ts.length) (bs.drop ts.length) = v) : v = false := by
 rw [List.drop_length] at h; rw [← h]; rfl
theorem slotB_col {t : Str} {b : Bool} (h : t ≠ []) (h2 : ¬ t.length = 3) : slotB t b = true := by simp [slotB, h, h2]
theorem slotB_ok {t : Str} {b : Bool} (h : t ≠ []) (h2 : t.length = 3) : slotB t b = false := by simp [slotB, h, h2]
theorem slotB_nil {t : Str} {b : Bool} (h : t = []) : slotB t b = b := by simp [slotB, h]
theorem take_next {l : List Put} {i : Nat} {d : Put} (h : i < l.length) : l.take i ++ [((l[i]?.getD d).1, (l[i]?.getD d).2.1, (l[i]?.getD d).2.2)] = l.take (i + 1) := by
 rw [gE h, Option.getD_some]
 exact List.take_append_getElem h
def drvOf (d : Dsk) : Drv := (d.2.1, d.2.2.1, d.2.2.2.1)
def dskOf (st : Int) (t : Drv) (w : List Put) : Dsk := (st, t.1, t.2.1, t.2.2, w)
theorem rd_parts {d : Dsk} (h : rdV d = true) : shapedV d = true ∧ d.2.2.2.2.any badP = false ∧ slotsB d.2.1 d.2.2.2.1 = false ∧ d.2.2.1.any longR = false ∧ goneB d = false := by
 simp only [rdV, Bool.and_eq_true, Bool.not_eq_true'] at h
 exact ⟨h.1.1.1.1, h.1.1.1.2, h.1.1.2, h.1.2, h.2⟩
end Go.Sx

namespace Go.Sx
open Go
structure Mk (α : Type) where of_ ::
 mk : Int → α → α
 nx : Int → α → Int
 hd : Int → α → Int
structure MkOk {α : Type} (m : Mk α) : Prop where
 ge : ∀ k x, k ≤ m.nx k x
 hm : ∀ k x, 0 ≤ k → m.hd k (m.mk k x) = m.nx k x
 nm : ∀ k x, m.nx k (m.mk k x) = m.nx k x
 val : ∀ k x, m.hd k x = -1 ∨ m.hd k x = m.nx k x
section
variable {α : Type} (m : Mk α)
end
section
variable {α : Type} {m : Mk α}
end
end Go.Sx

namespace Go.Sx
open Go
instance decD0 : DecidableEq Put := inferInstance
instance decD1 : DecidableEq (List Bool × List Put) := inferInstance
instance decD2 : DecidableEq (List Str × List Bool × List Put) := inferInstance
instance decD3 : DecidableEq (List Str × List Str × List Bool × List Put) := inferInstance
instance decD4 : DecidableEq Dsk := inferInstance
def eqDV (a b : Dsk) : Bool := decide (a = b)
def SmallD (d : Dsk) : Prop := d.2.1.length ≤ 1048576 ∧ d.2.2.1.length ≤ 1048576 ∧ d.2.2.2.1.length ≤ 1048576 ∧ d.2.2.2.2.length ≤ 1048576
theorem eq_len' {α : Type} [DecidableEq α] {a b : List α} (h : ¬ a.length = b.length) : decide (a = b) = false := decide_eq_false fun e => h (by rw [e])
theorem eq_next' {α : Type} [DecidableEq α] {a b : List α} {i : Nat} {v : Bool} (h1 : i < a.length) (h2 : i < b.length) (h : decide (a.drop i = b.drop i) = v) (he : a[i] = b[i]) : decide (a.drop (i + 1) = b.drop (i + 1)) = v := by
 rw [drop_at h1, drop_at h2] at h; rw [← h, he]; exact decide_eq_decide.2 ⟨fun e => by rw [e], fun e => (List.cons.inj e).2⟩
theorem eq_hit' {α : Type} [DecidableEq α] {a b : List α} {i : Nat} {v : Bool} (h1 : i < a.length) (h2 : i < b.length) (h : decide (a.drop i = b.drop i) = v) (he : ¬ a[i] = b[i]) : v = false := by
 rw [drop_at h1, drop_at h2] at h; rw [← h]; exact decide_eq_false fun e => he (List.cons.inj e).1
theorem eq_end' {α : Type} [DecidableEq α] {a b : List α} {v : Bool} (hl : a.length = b.length) (h : decide (a.drop a.length = b.drop a.length) = v) : v = true := by
 rw [← h, List.drop_length, hl, List.drop_length]; simp
def comeD (d : Dsk) (p : Put) : Dsk := dskOf d.1 (come p (drvOf d)) d.2.2.2.2
end Go.Sx

namespace Go.Sx
open Go
end Go.Sx

namespace Go.Sx
open Go
abbrev Pol := List Dsk × Bool × Root_ × Root_
instance : DecidableEq Put := instDecidableEqProd
instance : DecidableEq Dsk := instDecidableEqProd
instance : DecidableEq Pol := instDecidableEqProd
end Go.Sx

namespace Go.Sx
open Go
def noD (d : Dsk) : Bool := !rdV d
def stripeV (ds : List Dsk) : Bool := poolV (ds.length : Int) && !(ds.any noD)
end Go.Sx

namespace Go.Sx
open Go
def newD (n : Int) : Dsk := (n, List.replicate 12 [], List.replicate 2 [], List.replicate 12 false, [])
def colS (t : Str) : Bool := decide (t = []) || decide (t.length = 3)
end Go.Sx

namespace Go.Sx
open Go
structure DrOk (d : Dsk) : Prop where
 drv : (drvOf d).ok
 wait : d.2.2.2.2.any badP = false
 len : d.2.2.2.2.length ≤ 40
 col : d.2.1.all colS = true
theorem newD_ok {n : Int} : DrOk (newD n) := by
 refine ⟨⟨by simp [drvOf, newD], by simp [drvOf, newD], by simp [drvOf, newD]⟩, rfl, by simp [newD], ?_⟩
 simp [newD, colS]
end Go.Sx

namespace Go.Sx
open Go
def newT : Str := sealV (bodyV (0, []))
def newDk : Dsk := (0, List.replicate 12 [], (List.replicate 2 []).set 0 newT, List.replicate 12 false, [])
def newPo (n : Int) : Pol := if poolV n = true then (List.replicate n.toNat newDk, true, (0, []), (0, [])) else ([], false, (0, []), (0, []))
theorem newV {d : Int} (h : poolV d = true) : rootV d (0, []) = true := by
 simp only [rootV, h, Bool.true_and]
 rfl
theorem newR {d : Int} (h : poolV d = true) : rootT d (0, []) = newT := if_pos (newV h)
theorem new_next (i : Nat) : List.replicate i newDk ++ [newDk] = List.replicate (i + 1) newDk := List.replicate_succ'.symm
theorem newB : bodyV (0, []) = [114, 111, 111, 116, 32, 48, 10] := by decide +kernel
theorem newT_len : newT.length ≤ 700 := by
 have h2 := itoaV_len (n := weighV (bodyV (0, []))) (by rw [newB]; exact inR_i64.2 ⟨by decide +kernel, by decide +kernel⟩)
 simp only [newT, sealV, List.length_append] at *
 rw [newB] at *
 simp only [tSum, List.length_cons, List.length_nil] at *
 omega
theorem new_put : putV (true, ((0 : Int).tmod 2), newT) = true := by
 have h := newT_len
 simp [putV, h]
theorem new_come : comeD (newD 0) (true, ((0 : Int).tmod 2), newT) = newDk := rfl
theorem new_lt {d : Int} (h : poolV d = true) : 3 ≤ d ∧ d ≤ 4 := by simpa [poolV, inV] using h
end Go.Sx

namespace Go.Sx
open Go
abbrev Shf := Str × List Str
abbrev Mdl := List Shf
abbrev Wor := Pol × Mdl × Mdl × Mdl × Bool
instance : DecidableEq Shf := instDecidableEqProd
instance : DecidableEq Wor := instDecidableEqProd
def newWo (n : Int) : Wor := (newPo n, [], [], [], false)
end Go.Sx

namespace Go.Sx
open Go
end Go.Sx

namespace Go.Sx
open Go
theorem keyPK (x y : Plc) : keyEq PK x y = decide (x = y) := by
 simp only [keyEq]
 refine Bool.eq_iff_iff.2 ?_
 simp only [Bool.and_eq_true, decide_eq_true_eq]
 exact ⟨fun h => Prod.ext h.1 h.2, fun h => by rw [h]; exact ⟨rfl, rfl⟩⟩
theorem mget_mset {m : List (Plc × Ptr_)} {a b : Plc} {p : Ptr_} : mget PK (mset PK m a p) b = if b = a then some p else mget PK m b := by
 induction m with
 | nil =>
  simp only [mset, mget]
  rw [keyPK]
  by_cases h : b = a <;> simp [h]
 | cons e m ih =>
  simp only [mset]
  rw [keyPK]
  by_cases h : a = e.1
  ·simp only [h, decide_true, cond_true, mget]
   rw [keyPK]
   by_cases h2 : b = e.1 <;> simp [h2]
  ·simp only [h, decide_false, cond_false, mget]
   rw [keyPK, ih]
   by_cases h2 : b = e.1
   ·have h3 : ¬ b = a := fun e2 => h (e2.symm.trans h2)
    simp [h2, h3]
    intro e2
    exact absurd e2.symm h
   ·simp [h2]
theorem own_iff : ∀ {l m : List (Plc × Ptr_)}, ownGo m l = true ↔ (∀ e ∈ l, ∀ q, mget PK m e.1 = some q → e.2 = q) ∧ ∀ e ∈ l, ∀ f ∈ l, e.1 = f.1 → e.2 = f.2 := by
 intro l
 induction l with
 | nil => intro m; simp [ownGo]
 | cons c r ih =>
  intro m
  obtain ⟨a, p⟩ := c
  simp only [ownGo, Bool.and_eq_true]
  rw [ih]
  constructor
  ·rintro ⟨h1, h2, h3⟩
   have ha : ∀ q, mget PK m a = some q → p = q := fun q hq => by rw [hq] at h1; simpa using h1
   have hp : ∀ e ∈ r, e.1 = a → e.2 = p := fun e he hea => h2 e he p (by rw [mget_mset, if_pos hea])
   refine ⟨fun e he q hq => ?_, fun e he f hf hef => ?_⟩
   ·rcases List.mem_cons.1 he with rfl | he
    ·exact ha q hq
    ·by_cases hea : e.1 = a
     ·rw [hp e he hea]; exact ha q (by rw [← hea]; exact hq)
     ·exact h2 e he q (by rw [mget_mset, if_neg hea]; exact hq)
   ·rcases List.mem_cons.1 he with rfl | he <;> rcases List.mem_cons.1 hf with rfl | hf
    ·rfl
    ·exact (hp f hf hef.symm).symm
    ·exact hp e he hef
    ·exact h3 e he f hf hef
  ·rintro ⟨h1, h2⟩
   refine ⟨?_, fun e he q hq => ?_, fun e he f hf => h2 e (List.mem_cons_of_mem _ he) f (List.mem_cons_of_mem _ hf)⟩
   ·cases hq : mget PK m a with
    | none => rfl
    | some q => have := h1 (a, p) List.mem_cons_self q hq; simpa using this
   ·rw [mget_mset] at hq
    by_cases hea : e.1 = a
    ·rw [if_pos hea] at hq
     cases hq
     exact h2 e (List.mem_cons_of_mem _ he) (a, p) List.mem_cons_self hea
    ·rw [if_neg hea] at hq
     exact h1 e (List.mem_cons_of_mem _ he) q hq
theorem mem_pairs {ps : List Ptr_} {e : Plc × Ptr_} : e ∈ pairsOf ps ↔ e.2 ∈ ps ∧ e.1 ∈ e.2.2.2 := by
 obtain ⟨a, p⟩ := e
 simp only [pairsOf, List.mem_flatMap, List.mem_map, Prod.mk.injEq]
 constructor
 ·rintro ⟨q, hq, b, hb, rfl, rfl⟩
  exact ⟨hq, hb⟩
 ·rintro ⟨h1, h2⟩
  exact ⟨p, h1, a, h2, rfl, rfl⟩
theorem meet_iff {p q : Ptr_} : meetV p q = true ↔ ∃ a, a ∈ p.2.2 ∧ a ∈ q.2.2 := by
 simp only [meetV, List.any_eq_true, decide_eq_true_eq]
 constructor
 ·rintro ⟨a, ha, b, hb, rfl⟩; exact ⟨a, ha, hb⟩
 ·rintro ⟨a, ha, hb⟩; exact ⟨a, ha, a, hb, rfl⟩
theorem own_meet {ps : List Ptr_} : ownGo [] (pairsOf ps) = true ↔ ∀ i (h : i < ps.length), ∀ q ∈ ps.take i, meetV ps[i] q = true → ps[i] = q := by
 rw [own_iff]
 constructor
 ·rintro ⟨_, h2⟩ i hi q hq hm
  obtain ⟨a, ha, hb⟩ := meet_iff.1 hm
  exact h2 (a, ps[i]) (mem_pairs.2 ⟨List.getElem_mem hi, ha⟩) (a, q) (mem_pairs.2 ⟨List.mem_of_mem_take hq, hb⟩) rfl
 ·intro h
  refine ⟨fun e _ q hq => by simp [mget] at hq, fun e he f hf hef => ?_⟩
  obtain ⟨e1, e2⟩ := mem_pairs.1 he
  obtain ⟨f1, f2⟩ := mem_pairs.1 hf
  obtain ⟨i, hi, hie⟩ := List.getElem_of_mem e1
  obtain ⟨k, hk, hkf⟩ := List.getElem_of_mem f1
  rw [← hie] at e2 ⊢
  rw [← hkf] at f2 ⊢
  rcases Nat.lt_trichotomy i k with hlt | rfl | hlt
  ·refine (h k hk ps[i] (List.mem_take_iff_getElem.2 ⟨i, by omega, rfl⟩) (meet_iff.2 ⟨f.1, f2, ?_⟩)).symm
   rw [← hef]; exact e2
  ·rfl
  ·refine h i hi ps[k] (List.mem_take_iff_getElem.2 ⟨k, by omega, rfl⟩) (meet_iff.2 ⟨e.1, e2, ?_⟩)
   rw [hef]; exact f2
theorem ptrV_W {d : Int} {p : Ptr_} (h : poolV d = true) : ptrV d p = ptrW d p := by
 unfold ptrV ptrW
 rw [h, Bool.true_and]
 by_cases h0 : p.1 = 0
 ·rw [if_pos h0]
  have h1 : sizeV d p = false := by simp [sizeV, inV, h0]
  rw [h1]
  simp [noneV, h0]
 ·rw [if_neg h0]
  simp [noneV, h0]
theorem volF_G {d : Int} {pre : List Vol_} {v : Vol_} : volF d pre v = (volG pre v && v.2.all (ptrV d)) := by
 simp only [volF, volG, Bool.and_assoc]
theorem chk_volF {d : Int} {l : List Vol_} : chk (volF d) l = true ↔ chk volG l = true ∧ ∀ p ∈ blksOf l, ptrV d p = true := by
 simp only [chk_iff, volF_G, Bool.and_eq_true, List.all_eq_true]
 constructor
 ·intro h
  refine ⟨fun i hi => (h i hi).1, fun p hp => ?_⟩
  obtain ⟨v, hv, hp⟩ := List.mem_flatMap.1 hp
  obtain ⟨i, hi, rfl⟩ := List.getElem_of_mem hv
  exact (h i hi).2 p hp
 ·rintro ⟨h1, h2⟩ i hi
  exact ⟨h1 i hi, fun p hp => h2 p (List.mem_flatMap.2 ⟨l[i], List.getElem_mem hi, hp⟩)⟩
theorem chk_ptrG {d : Int} {ps : List Ptr_} : chk (ptrG d) ps = true ↔ (∀ p ∈ ps, ptrW d p = true) ∧ ∀ i (h : i < ps.length), ∀ q ∈ ps.take i, meetV ps[i] q = true → ps[i] = q := by
 simp only [chk_iff, ptrG, Bool.and_eq_true]
 constructor
 ·intro h
  refine ⟨fun p hp => ?_, fun i hi q hq hm => ?_⟩
  ·obtain ⟨i, hi, rfl⟩ := List.getElem_of_mem hp
   exact (h i hi).1
  ·have h2 := (h i hi).2
   simp only [Bool.not_eq_true', List.any_eq_false, Bool.and_eq_true, not_and] at h2
   have := h2 q hq hm
   simpa using this
 ·rintro ⟨h1, h2⟩ i hi
  refine ⟨h1 _ (List.getElem_mem hi), ?_⟩
  simp only [Bool.not_eq_true', List.any_eq_false, Bool.and_eq_true, not_and]
  intro q hq hm
  have := h2 i hi q hq hm
  simpa using this
theorem rootV_S {d : Int} {r : Root_} : rootV d r = rootS d r := by
 unfold rootV rootS
 cases hp : poolV d with
 | false => rfl
 | true =>
  simp only [Bool.true_and]
  congr 1
  refine Bool.eq_iff_iff.2 ?_
  simp only [volsV, volsS, Bool.and_eq_true, chk_volF, chk_ptrG, own_meet, decide_eq_true_eq]
  have hw : (∀ p ∈ blksOf r.2, ptrV d p = true) ↔ ∀ p ∈ blksOf r.2, ptrW d p = true := by simp only [ptrV_W hp]
  rw [hw]
  constructor
  ·rintro ⟨⟨⟨a, b⟩, c⟩, e⟩; exact ⟨c, a, b, e⟩
  ·rintro ⟨c, a, b, e⟩; exact ⟨⟨⟨a, b⟩, c⟩, e⟩
theorem line_all {l : List Vol_} (h : ∀ v ∈ l, ∀ p ∈ v.2, inR .i64 p.1 ∧ inR .i64 p.2.1 ∧ ∀ a ∈ p.2.2, inR .i64 a.1 ∧ inR .i64 a.2) (hs : SmallR l) : ∀ v ∈ l, (volT v).length ≤ 1000 := by
 intro v hv
 obtain ⟨h1, h2, h3⟩ := hs.2 v hv
 have h4 := cat_len (f := lineV) (m := 300) (l := v.2) fun p hp => by
  obtain ⟨d, hd⟩ := h3 p hp
  obtain ⟨a, b, c⟩ := h v hv p hp
  exact lineV_len' a b c hd
 unfold volT
 simp only [List.length_append, List.length_cons, List.length_nil, tVol]
 rw [h2] at h4
 omega
theorem body_len {d tg : Int} {l : List Vol_} (h0 : inR .i64 tg) (h : ∀ v ∈ l, ∀ p ∈ v.2, inR .i64 p.1 ∧ inR .i64 p.2.1 ∧ ∀ a ∈ p.2.2, inR .i64 a.1 ∧ inR .i64 a.2) (hr : rootV d ((tg, l) : Root_) = true) : (bodyV ((tg, l) : Root_)).length ≤ 5000 := by
 have hs := rootV_small hr
 have h4 := cat_len (f := volT) (m := 1000) (l := l) (line_all h hs)
 have h5 : l.length ≤ 4 := hs.1
 have h6 := itoaV_len h0
 unfold bodyV
 simp only [List.length_append, List.length_cons, List.length_nil, tRoot]
 omega
end Go.Sx

namespace Go.Sx
open Go
theorem chk_mono {α : Type} {f g : List α → α → Bool} (h : ∀ pre a, f pre a = true → g pre a = true) {l : List α} (hl : chk f l = true) : chk g l = true := by
 rw [chk_iff] at hl ⊢
 exact fun i hi => h _ _ (hl i hi)
theorem poolV_iff {d : Int} : poolV d = true ↔ 3 ≤ d ∧ d ≤ 4 := by simp [poolV, inV]
theorem placeF_wide {d : Int} (hd : d ≤ 4) (pre : List Plc) (a : Plc) (h : placeF d pre a = true) : placeF 4 pre a = true := by
 simp only [placeF, placeV, Bool.and_eq_true, decide_eq_true_eq] at h ⊢
 exact ⟨⟨h.1.1, by omega, h.1.2.2⟩, h.2⟩
theorem mostV_wide {d : Int} (h : 3 ≤ d ∧ d ≤ 4) : mostV d ≤ mostV 4 := by
 obtain rfl | rfl : d = 3 ∨ d = 4 := by omega
 ·decide
 ·decide
theorem sizeV_wide {d : Int} {p : Ptr_} (hd : 3 ≤ d ∧ d ≤ 4) (h : sizeV d p = true) : sizeV 4 p = true := by
 have hm := mostV_wide hd
 simp only [sizeV, inV, Bool.and_eq_true, decide_eq_true_eq] at h ⊢
 exact ⟨⟨h.1.1, by omega⟩, h.2⟩
theorem ptrV_wide {d : Int} {p : Ptr_} (h : ptrV d p = true) : ptrV 4 p = true := by
 simp only [ptrV, Bool.and_eq_true, Bool.or_eq_true] at h ⊢
 obtain ⟨hd, h⟩ := h
 have hd2 := poolV_iff.1 hd
 refine ⟨rfl, h.imp id fun h => ⟨sizeV_wide hd2 h.1, chk_mono (placeF_wide hd2.2) h.2⟩⟩
end Go.Sx

namespace Go.Sx
open Go
theorem dig_toNat {k : Int} (h0 : 0 ≤ k) (h1 : k < 10) : ((UInt8.ofNat (48 + k).toNat).toNat : Int) = 48 + k := by
 obtain ⟨u, rfl⟩ := Int.eq_ofNat_of_zero_le h0
 have hu : u < 10 := by omega
 rw [show (48 + (u : Int)).toNat = 48 + u by omega, UInt8.toNat_ofNat']
 omega
theorem itoa_ind {P : Int → Prop} (h0 : ∀ n, 0 ≤ n → n < 10 → P n) (h1 : ∀ n, 0 ≤ n → ¬ n < 10 → P (n / 10) → P n) : ∀ n, 0 ≤ n → P n := by
 have : ∀ (k : Nat) (n : Int), 0 ≤ n → n < k → P n := by
  intro k
  induction k with
  | zero => intro n h hk; omega
  | succ k ih =>
   intro n h hk
   by_cases hn : n < 10
   ·exact h0 n h hn
   ·exact h1 n h hn (ih (n / 10) (by omega) (by omega))
 intro n hn
 exact this (n.toNat + 1) n hn (by omega)
theorem itoaV_dig : ∀ n : Int, 0 ≤ n → ∀ c ∈ itoaV n, 48 ≤ c.toNat ∧ c.toNat ≤ 57 := by
 refine itoa_ind ?_ ?_
 ·intro n h h2 c hc
  rw [itoaV_small h h2, List.mem_singleton] at hc
  have := dig_toNat h h2
  subst hc
  omega
 ·intro n h h2 ih c hc
  rw [itoaV_big h h2] at hc
  rcases List.mem_append.1 hc with hc | hc
  ·exact ih c hc
  ·rw [List.mem_singleton] at hc
   have := dig_toNat (k := n % 10) (by omega) (by omega)
   subst hc
   omega
theorem itoaV_lenk : ∀ (k : Nat) (n : Int), 0 ≤ n → n < 10 ^ (k + 1) → 1 ≤ (itoaV n).length ∧ (itoaV n).length ≤ k + 1 := by
 intro k
 induction k with
 | zero => intro n h h2; rw [itoaV_small h (by simpa using h2)]; simp
 | succ k ih =>
  intro n h h2
  by_cases hn : n < 10
  ·rw [itoaV_small h hn]; simp
  ·rw [itoaV_big h hn]
   rw [Int.pow_succ] at h2
   have := ih (n / 10) (by omega) (by omega)
   simp only [List.length_append, List.length_cons, List.length_nil]
   omega
def cutGo (a : UInt8) : Str → Str → List Str
 | cur, [] => [cur]
 | cur, c :: r => if c = a then cur :: cutGo a [] r else cutGo a (cur ++ [c]) r
def cutV (a : UInt8) (s : Str) : List Str := cutGo a [] s
theorem cutGo_word {a : UInt8} : ∀ {w cur r : Str}, (∀ c ∈ w, c ≠ a) → cutGo a cur (w ++ r) = cutGo a (cur ++ w) r := by
 intro w
 induction w with
 | nil => intro cur r _; simp
 | cons c w ih =>
  intro cur r h
  rw [List.cons_append]
  simp only [cutGo]
  rw [if_neg (h c List.mem_cons_self), ih (fun x hx => h x (List.mem_cons_of_mem _ hx)), List.append_assoc, List.singleton_append]
theorem cutGo_at {a : UInt8} {cur r : Str} : cutGo a cur (a :: r) = cur :: cutGo a [] r := by simp [cutGo]
theorem cut_lines {a : UInt8} : ∀ {ls : List Str}, (∀ l ∈ ls, ∀ c ∈ l, c ≠ a) → cutV a (catGo (fun l => l ++ [a]) ls) = ls ++ [[]] := by
 intro ls
 induction ls with
 | nil => intro _; rfl
 | cons l ls ih =>
  intro h
  have ih2 := ih (fun x hx => h x (List.mem_cons_of_mem _ hx))
  unfold cutV at ih2 ⊢
  simp only [catGo]
  rw [List.append_assoc, cutGo_word (h l List.mem_cons_self), List.nil_append, List.singleton_append, cutGo_at, ih2]
  rfl
theorem cut_tail {a : UInt8} : ∀ {ws : List Str} {cur : Str}, (∀ w ∈ ws, ∀ c ∈ w, c ≠ a) → cutGo a cur (Lib.joinTail [a] ws) = cur :: ws := by
 intro ws
 induction ws with
 | nil => intro cur _; rfl
 | cons w ws ih =>
  intro cur h
  have e : Lib.joinTail [a] (w :: ws) = a :: (w ++ Lib.joinTail [a] ws) := by simp [Lib.joinTail]
  rw [e, cutGo_at, cutGo_word (h w List.mem_cons_self), List.nil_append, ih (fun x hx => h x (List.mem_cons_of_mem _ hx))]
theorem cut_join {a : UInt8} {w : Str} {ws : List Str} (h : ∀ x ∈ w :: ws, ∀ c ∈ x, c ≠ a) : cutV a (Lib.join (w :: ws) [a]) = w :: ws := by
 unfold cutV
 rw [Lib.join_cons, cutGo_word (h w List.mem_cons_self), List.nil_append, cut_tail (fun x hx => h x (List.mem_cons_of_mem _ hx))]
def nR : Str := [114, 111, 111, 116]
def nV : Str := [118, 111, 108]
def nS : Str := [115, 117, 109]
def nN : Str := [110, 111, 110, 101]
def lineW (ws : List Str) : Str := Lib.join ws [32] ++ [10]
def pW (p : Ptr_) : List Str := if noneV p = true then [nN] else wordsV p
def vW (v : Vol_) : List (List Str) := [nV, v.1] :: v.2.map pW
def rW (r : Root_) : List (List Str) := [nR, itoaV r.1] :: r.2.flatMap vW
theorem cat_append {α : Type} {f : α → Str} {a b : List α} : catGo f (a ++ b) = catGo f a ++ catGo f b := by
 induction a with
 | nil => rfl
 | cons x a ih => simp only [List.cons_append, catGo, ih, List.append_assoc]
theorem cat_map {α β : Type} {f : β → Str} {g : α → β} {l : List α} : catGo f (l.map g) = catGo (fun x => f (g x)) l := by
 induction l with
 | nil => rfl
 | cons x l ih => simp only [List.map_cons, catGo, ih]
theorem cat_flat {α β : Type} {f : β → Str} {g : α → List β} {l : List α} : catGo f (l.flatMap g) = catGo (fun x => catGo f (g x)) l := by
 induction l with
 | nil => rfl
 | cons x l ih => rw [List.flatMap_cons, cat_append, ih]; rfl
theorem cat_congr {α : Type} {f g : α → Str} {l : List α} (h : ∀ x, f x = g x) : catGo f l = catGo g l := by rw [show f = g from funext h]
theorem lineV_W (p : Ptr_) : lineV p = lineW (pW p) := by
 unfold lineV lineW pW
 split
 ·rw [Lib.join_one]; rfl
 ·rfl
theorem join_two (a b s : Str) : Lib.join [a, b] s = a ++ s ++ b := by rw [Lib.join_cons]; simp [Lib.joinTail]
theorem volT_W (v : Vol_) : volT v = catGo lineW (vW v) := by
 unfold volT vW
 simp only [catGo]
 rw [cat_map, cat_congr lineV_W]
 congr 1
 rw [lineW, join_two]
 rfl
theorem body_W (r : Root_) : bodyV r = catGo lineW (rW r) := by
 unfold bodyV rW
 simp only [catGo]
 rw [cat_flat, cat_congr volT_W]
 congr 1
 rw [lineW, join_two]
 rfl
theorem seal_W (r : Root_) : sealV (bodyV r) = catGo lineW (rW r ++ [[nS, itoaV (weighV (bodyV r))]]) := by
 rw [cat_append, ← body_W]
 unfold sealV
 simp only [catGo]
 rw [lineW, join_two, List.append_nil, List.append_assoc, List.append_assoc, List.append_assoc]
 rfl
def Cl (w : Str) : Prop := ∀ c ∈ w, c ≠ 32 ∧ c ≠ 10
theorem cl_num {n : Int} (h : 0 ≤ n) : Cl (itoaV n) := by
 intro c hc
 have := itoaV_dig n h c hc
 refine ⟨?_, ?_⟩ <;> · rintro rfl; revert this; decide
theorem cl_name {s : Str} (h : s.all lower = true) : Cl s := by
 intro c hc
 have := List.all_eq_true.1 h c hc
 refine ⟨?_, ?_⟩ <;> · rintro rfl; revert this; decide
theorem cl_app {a b : Str} (ha : Cl a) (hb : Cl b) : Cl (a ++ b) := fun c hc => (List.mem_append.1 hc).elim (ha c) (hb c)
theorem cl_lit {s : Str} (h : (s.all fun c => decide (c ≠ 32 ∧ c ≠ 10)) = true) : Cl s := fun c hc => of_decide_eq_true (List.all_eq_true.1 h c hc)
def LOk (ws : List Str) : Prop := ws ≠ [] ∧ ∀ w ∈ ws, Cl w
theorem lok_two {a b : Str} (ha : Cl a) (hb : Cl b) : LOk [a, b] := ⟨by simp, fun w hw => by
 simp only [List.mem_cons, List.not_mem_nil, or_false] at hw
 rcases hw with rfl | rfl
 ·exact ha
 ·exact hb⟩
theorem cut_line {ws : List Str} (h : LOk ws) : cutV 32 (Lib.join ws [32]) = ws := by
 cases ws with
 | nil => exact absurd rfl h.1
 | cons w ws => exact cut_join fun x hx c hc => (h.2 x hx c hc).1
theorem join_no10 {ws : List Str} (h : LOk ws) : ∀ c ∈ Lib.join ws [32], c ≠ 10 := by
 cases ws with
 | nil => exact absurd rfl h.1
 | cons w ws =>
  intro c hc
  rw [Lib.join_cons] at hc
  rcases List.mem_append.1 hc with hc | hc
  ·exact (h.2 w List.mem_cons_self c hc).2
  ·simp only [Lib.joinTail, List.mem_flatten, List.mem_map] at hc
   obtain ⟨l, ⟨x, hx, rfl⟩, hc⟩ := hc
   rcases List.mem_append.1 hc with hc | hc
   ·rw [List.mem_singleton] at hc; subst hc; decide
   ·exact (h.2 x (List.mem_cons_of_mem _ hx) c hc).2
theorem ptrV_wide2 {d : Int} {p : Ptr_} (h : ptrV d p = true) (hn : ¬ noneV p = true) : (0 ≤ p.1 ∧ p.1 ≤ 9) ∧ (0 ≤ p.2.1 ∧ p.2.1 ≤ 1000000000) ∧ ∀ a ∈ p.2.2, placeV 4 a = true := by
 have h4 := ptrV_wide h
 simp only [ptrV, Bool.and_eq_true, Bool.or_eq_true] at h4
 rcases h4.2 with h1 | h1
 ·exact absurd h1 hn
 ·obtain ⟨h1, h2⟩ := h1
  simp only [sizeV, inV, Bool.and_eq_true, decide_eq_true_eq] at h1
  have hm : mostV 4 = 9 := by decide
  refine ⟨by omega, by omega, fun a ha => ?_⟩
  obtain ⟨i, hi, rfl⟩ := List.getElem_of_mem ha
  have := chk_iff.1 h2 i hi
  simp only [placeF, Bool.and_eq_true] at this
  exact this.1
theorem none_eq {p : Ptr_} (h : noneV p = true) : p = (0, 0, []) := by
 simp only [noneV, Bool.and_eq_true, decide_eq_true_eq] at h
 obtain ⟨a, b, c⟩ := p
 obtain ⟨rfl, rfl, h3⟩ := h
 have h4 : c = [] := List.eq_nil_of_length_eq_zero h3
 rw [h4]
theorem lok_W {d : Int} {p : Ptr_} (h : ptrV d p = true) : LOk (pW p) := by
 unfold pW
 split
 ·exact ⟨by simp, fun w hw => by rw [List.mem_singleton.1 hw]; exact cl_lit (by decide)⟩
 ·rename_i hn
  obtain ⟨h1, h2, h3⟩ := ptrV_wide2 h hn
  refine ⟨by simp [wordsV], fun w hw => ?_⟩
  rcases List.mem_append.1 hw with hw | hw
  ·simp only [List.mem_cons, List.not_mem_nil, or_false] at hw
   rcases hw with rfl | rfl | rfl
   ·exact cl_lit (by decide)
   ·exact cl_num h1.1
   ·exact cl_num h2.1
  ·obtain ⟨a, ha, rfl⟩ := List.mem_map.1 hw
   have h4 := h3 a ha
   simp only [placeV, Bool.and_eq_true, decide_eq_true_eq] at h4
   exact cl_app (cl_app (cl_num h4.1) (cl_lit (by decide))) (cl_num h4.2.2.1)
theorem root_parts {d : Int} {r : Root_} (h : rootV d r = true) : (0 ≤ r.1 ∧ r.1 ≤ 100000) ∧ (∀ v ∈ r.2, nameV v.1 = true ∧ v.2.length = 3 ∧ ∀ p ∈ v.2, ptrV d p = true) ∧ r.2.length ≤ 4 := by
 simp only [rootV, volsV, inV, Bool.and_eq_true, decide_eq_true_eq] at h
 refine ⟨h.2.1, fun v hv => ?_, h.2.2.1.2⟩
 obtain ⟨i, hi, rfl⟩ := List.getElem_of_mem hv
 have := chk_iff.1 h.2.2.1.1 i hi
 simp only [volF, Bool.and_eq_true, decide_eq_true_eq, List.all_eq_true] at this
 exact ⟨this.1, this.2.1, this.2.2.2⟩
theorem weighGo_nn : ∀ (s : Str) (i : Nat), 0 ≤ weighGo s i := by
 intro s
 induction s with
 | nil => intro i; exact Int.le_refl _
 | cons c s ih =>
  intro i
  simp only [weighGo]
  have := ih (i + 1)
  have h1 : (0 : Int) ≤ (c.toNat : Int) * (65536 + (i : Int) + 1) := Int.mul_nonneg (by omega) (by omega)
  omega
theorem lok_root {d : Int} {r : Root_} (h : rootV d r = true) : ∀ ws ∈ rW r ++ [[nS, itoaV (weighV (bodyV r))]], LOk ws := by
 obtain ⟨h1, h2, _⟩ := root_parts h
 intro ws hws
 rcases List.mem_append.1 hws with hws | hws
 ·unfold rW at hws
  rcases List.mem_cons.1 hws with rfl | hws
  ·exact lok_two (cl_lit (by decide)) (cl_num h1.1)
  ·obtain ⟨v, hv, hws⟩ := List.mem_flatMap.1 hws
   obtain ⟨a, _, c⟩ := h2 v hv
   unfold vW at hws
   rcases List.mem_cons.1 hws with rfl | hws
   ·refine lok_two (cl_lit (by decide)) (cl_name ?_)
    simp only [nameV, Bool.and_eq_true] at a
    exact a.2
   ·obtain ⟨p, hp, rfl⟩ := List.mem_map.1 hws
    exact lok_W (c p hp)
 ·rw [List.mem_singleton.1 hws]
  exact lok_two (cl_lit (by decide)) (cl_num (weighGo_nn _ _))
theorem seal_ne {s : Str} : sealV s ≠ [] := by unfold sealV; simp
theorem rootT_nil {d : Int} {r : Root_} : rootT d r = [] ↔ ¬ rootV d r = true := by
 unfold rootT
 split
 ·rename_i h
  exact ⟨fun e => absurd e seal_ne, fun e => absurd h e⟩
 ·rename_i h
  exact ⟨fun _ => h, fun _ => rfl⟩
end Go.Sx

namespace Go.Sx
open Go
theorem cutGo_cons {a : UInt8} : ∀ {s cur : Str}, cutGo a cur s = (match cutGo a [] s with | [] => [] | w :: ws => (cur ++ w) :: ws) := by
 intro s
 induction s with
 | nil => intro cur; simp [cutGo]
 | cons c s ih =>
  intro cur
  simp only [cutGo]
  split
  ·simp
  ·rw [ih (cur := cur ++ [c]), ih (cur := [] ++ [c])]
   cases cutGo a [] s with
   | nil => rfl
   | cons w ws => simp
theorem cutV_ne {a : UInt8} {s : Str} : cutV a s ≠ [] := by
 unfold cutV
 induction s with
 | nil => simp [cutGo]
 | cons c s ih =>
  simp only [cutGo]
  split
  ·simp
  ·rw [cutGo_cons]
   cases h : cutGo a [] s with
   | nil => exact absurd h ih
   | cons w ws => simp
theorem index_miss_cut {a : UInt8} : ∀ {s : Str}, Lib.index s [a] = -1 → cutV a s = [s] := by
 intro s
 induction s with
 | nil => intro _; rfl
 | cons c s ih =>
  intro h
  unfold Lib.index at h
  by_cases hc : c = a
  ·subst hc; simp [List.isPrefixOf] at h
  ·have hp : ([a] : List UInt8).isPrefixOf (c :: s) = false := by simp [List.isPrefixOf, Ne.symm hc]
   rw [hp] at h
   by_cases hm : Lib.index s [a] = -1
   ·have := ih hm
    unfold cutV at this ⊢
    simp only [cutGo]
    rw [if_neg hc, cutGo_cons, this]
    rfl
   ·have hge := Lib.index_ge s [a]
    simp [hm] at h <;> omega
theorem index_hit_cut {a : UInt8} : ∀ {s : Str} {i : Nat}, Lib.index s [a] = i → cutV a s = s.take i :: cutV a (s.drop (i + 1)) := by
 intro s
 induction s with
 | nil => intro i h; simp [Lib.index] at h <;> omega
 | cons c s ih =>
  intro i h
  unfold Lib.index at h
  by_cases hc : c = a
  ·subst hc
   simp [List.isPrefixOf] at h
   obtain rfl : i = 0 := by omega
   unfold cutV
   simp [cutGo]
  ·have hp : ([a] : List UInt8).isPrefixOf (c :: s) = false := by simp [List.isPrefixOf, Ne.symm hc]
   rw [hp] at h
   by_cases hm : Lib.index s [a] = -1
   ·simp [hm] at h <;> omega
   ·have hge := Lib.index_ge s [a]
    simp [hm] at h
    obtain ⟨j, rfl⟩ : ∃ j, i = j + 1 := ⟨i - 1, by omega⟩
    have := ih (i := j) (by omega)
    unfold cutV at this ⊢
    simp only [cutGo]
    rw [if_neg hc, cutGo_cons, this]
    rfl
theorem splitK_cut {a : UInt8} : ∀ (k : Nat) (s : Str), Lib.count s [a] = k → Lib.splitK [a] 0 k s = cutV a s := by
 intro k
 induction k with
 | zero =>
  intro s h
  show [s] = _
  by_cases hm : Lib.index s [a] = -1
  ·exact (index_miss_cut hm).symm
  ·have hge := Lib.index_ge s [a]
   obtain ⟨i, hi⟩ : ∃ i : Nat, Lib.index s [a] = i := ⟨(Lib.index s [a]).toNat, by omega⟩
   have := Lib.count_hit (by simp) hi
   omega
 | succ k ih =>
  intro s h
  by_cases hm : Lib.index s [a] = -1
  ·have := Lib.count_miss hm; omega
  ·have hge := Lib.index_ge s [a]
   obtain ⟨i, hi⟩ : ∃ i : Nat, Lib.index s [a] = i := ⟨(Lib.index s [a]).toNat, by omega⟩
   have hc := Lib.count_hit (by simp) hi
   simp only [List.length_cons, List.length_nil, Nat.zero_add] at hc
   unfold Lib.splitK
   rw [if_neg (by simp [hm]), hi, index_hit_cut hi, ← ih (s.drop (i + 1)) (by omega)]
   simp
theorem split_cut {a : UInt8} {s : Str} : (Lib.splitB (mkS [a]) 0 (Lib.countB (mkS s) (mkS [a])) (mkS s)).map (·.data.toList) = cutV a s := by
 rw [Lib.splitB_data]
 exact splitK_cut _ s rfl
def atoN (s : Str) : Int := match Lib.atoiAll s with | .ok v => v | .range => Lib.atoiSat s | _ => 0
def atoE (s : Str) : Nat := match Lib.atoiAll s with | .ok _ => 0 | _ => 2
theorem decFrom_itoa : ∀ n : Int, 0 ≤ n → ∀ r, Lib.decFrom 0 (itoaV n ++ r) = Lib.decFrom n.toNat r := by
 refine itoa_ind ?_ ?_
 ·intro n h h2 r
  have hd := dig_toNat h h2
  rw [itoaV_small h h2, List.singleton_append]
  simp only [Lib.decFrom, Lib.digitVal]
  rw [if_pos (by omega)]
  simp only
  congr 1
  omega
 ·intro n h h2 ih r
  have hd := dig_toNat (k := n % 10) (by omega) (by omega)
  rw [itoaV_big h h2, List.append_assoc, ih, List.singleton_append]
  simp only [Lib.decFrom, Lib.digitVal]
  rw [if_pos (by omega)]
  simp only
  congr 1
  omega
theorem atoi_itoa {n : Int} (h : 0 ≤ n) (h2 : n < 1000000000000) : Lib.atoiAll (itoaV n) = .ok n := by
 have hl := itoaV_lenk 11 n h (by omega)
 rw [Lib.atoiAll_short _ (by omega)]
 have hd := decFrom_itoa n h []
 rw [List.append_nil] at hd
 have hdig := itoaV_dig n h
 cases hi : itoaV n with
 | nil => rw [hi] at hl; simp at hl
 | cons b r =>
  rw [hi] at hd hdig
  have hb := hdig b List.mem_cons_self
  have e1 : ¬ b = 45 := by rintro rfl; revert hb; decide
  have e2 : ¬ b = 43 := by rintro rfl; revert hb; decide
  simp only [Lib.atoi, beq_iff_eq]
  rw [if_neg e1, if_neg e2]
  unfold Lib.decNat
  simp only [List.isEmpty_cons, Bool.false_eq_true, if_false]
  rw [hd]
  simp only [Lib.decFrom, Option.map, Lib.NumEnd.ofOption]
  congr 1
  omega
theorem atoN_itoa {n : Int} (h : 0 ≤ n) (h2 : n < 1000000000000) : atoN (itoaV n) = n ∧ atoE (itoaV n) = 0 := by
 unfold atoN atoE
 rw [atoi_itoa h h2]
 exact ⟨rfl, rfl⟩
theorem cut_word {w r : Str} {a : UInt8} (h : ∀ c ∈ w, c ≠ a) : Lib.index (w ++ a :: r) [a] = (w.length : Int) := by
 induction w with
 | nil => unfold Lib.index; simp [List.isPrefixOf]
 | cons c w ih =>
  have hc : ¬ c = a := h c List.mem_cons_self
  have hp : ([a] : List UInt8).isPrefixOf (c :: (w ++ a :: r)) = false := by simp [List.isPrefixOf, Ne.symm hc]
  rw [List.cons_append]
  unfold Lib.index
  rw [hp, ih (fun x hx => h x (List.mem_cons_of_mem _ hx))]
  have : ((w.length : Int) == -1) = false := by rw [beq_eq_false_iff_ne]; omega
  simp [this]
theorem cut_at {w r : Str} {a : UInt8} (h : ∀ c ∈ w, c ≠ a) : Lib.cut (w ++ a :: r) [a] = (w, r, true) := by
 unfold Lib.cut
 rw [cut_word h, if_pos (by omega)]
 simp
abbrev RdS := List Str × Nat
def wordsI (first : Str) (s : RdS) : List Str × RdS :=
 if s.1.length = 0 then ([], (s.1, 1))
 else ((cutV 32 (s.1.getD 0 [])).drop 1, (s.1.drop 1, if (cutV 32 (s.1.getD 0 [])).getD 0 [] = first then s.2 else 1))
def numI (w : Str) (s : RdS) : Int × RdS := (atoN w, (s.1, if atoE w = 0 then s.2 else 1))
def onlyI (ws : List Str) (s : RdS) : Str × RdS := if ws.length = 1 then (ws.getD 0 [], s) else ([], (s.1, 1))
def nextI (first : Str) (s : RdS) : Bool := if s.1.length = 0 then false else Lib.hasPrefix (s.1.getD 0 [] ++ [32]) (first ++ [32])
def plcsI : List Str → List Plc → RdS → List Plc × RdS
 | [], out, s => (out, s)
 | w :: ws, out, s => plcsI ws (out ++ [(atoN (Lib.cut w [46]).1, atoN (Lib.cut w [46]).2.1)]) (numI (Lib.cut w [46]).2.1 (numI (Lib.cut w [46]).1 s).2).2
def ptrI (s : RdS) : Ptr_ × RdS :=
 if nextI nN s = true then ((0, 0, []), (wordsI nN s).2)
 else
  let ws := (wordsI tPtr s).1
  let s1 := (wordsI tPtr s).2
  if ws.length < 2 then ((0, 0, []), (s1.1, 1))
  else
   let s3 := (numI (ws.getD 1 []) (numI (ws.getD 0 []) s1).2).2
   let q := plcsI (ws.drop 2) [] s3
   ((atoN (ws.getD 0 []), atoN (ws.getD 1 []), q.1), q.2)
def blksI : Nat → List Ptr_ → RdS → List Ptr_ × RdS
 | 0, out, s => (out, s)
 | n + 1, out, s => blksI n (out ++ [(ptrI s).1]) (ptrI s).2
def volsI : Nat → List Vol_ → RdS → List Vol_ × RdS
 | 0, out, s => (out, s)
 | n + 1, out, s =>
  if s.2 = 0 ∧ nextI nV s = true then
   let w := wordsI nV s
   let o := onlyI w.1 w.2
   let q := blksI 3 [] o.2
   volsI n (out ++ [(o.1, q.1)]) q.2
  else (out, s)
def rootI (s : RdS) : Root_ × RdS :=
 let w := wordsI nR s
 let o := onlyI w.1 w.2
 let n := numI o.1 o.2
 let q := volsI s.1.length [] n.2
 ((n.1, q.1), q.2)
def readI (d : Int) (t : Str) : Root_ × Bool :=
 if 700 < t.length ∨ t = [] then ((0, []), false)
 else
  let q := rootI (cutV 10 t, 0)
  if q.2.2 = 1 ∨ rootT d q.1 ≠ t then ((0, []), false) else (q.1, true)
end Go.Sx

namespace Go.Sx
open Go
structure RdOk (s : RdS) : Prop where
 ln : ∀ l ∈ s.1, l.length ≤ 700
 num : s.1.length ≤ 701
 er : s.2 ≤ 1
theorem words_ok {f : Str} {s : RdS} (h : RdOk s) : RdOk (wordsI f s).2 ∧ (wordsI f s).2.1.length ≤ s.1.length ∧ (0 < s.1.length → (wordsI f s).2.1.length < s.1.length) := by
 obtain ⟨h1, h2, h3⟩ := h
 unfold wordsI
 split
 ·exact ⟨⟨h1, h2, Nat.le_refl _⟩, Nat.le_refl _, fun h => by omega⟩
 ·refine ⟨⟨fun l hl => h1 l (List.mem_of_mem_drop hl), by simp only [List.length_drop]; omega, ?_⟩, by simp only [List.length_drop]; omega, fun _ => by simp only [List.length_drop]; omega⟩
  simp only
  split <;> omega
theorem cutGo_len' {a : UInt8} : ∀ {s cur : Str}, ∀ x ∈ cutGo a cur s, x.length ≤ cur.length + s.length := by
 intro s
 induction s with
 | nil => intro cur x hx; rw [List.mem_singleton.1 hx]; exact Nat.le_add_right _ _
 | cons c s ih =>
  intro cur x hx
  simp only [cutGo] at hx
  split at hx
  ·rcases List.mem_cons.1 hx with rfl | hx
   ·exact Nat.le_add_right _ _
   ·have := ih x hx
    simp only [List.length_nil, List.length_cons] at this ⊢
    omega
  ·have := ih x hx
   simp only [List.length_append, List.length_cons, List.length_nil] at this ⊢
   omega
theorem words_len {f : Str} {s : RdS} (h : RdOk s) : (∀ w ∈ (wordsI f s).1, w.length ≤ 700) ∧ (wordsI f s).1.length ≤ 701 := by
 unfold wordsI
 split
 ·simp
 ·rename_i hne
  have hlt : 0 < s.1.length := by omega
  have h0 : (s.1.getD 0 []).length ≤ 700 := by
   rw [List.getD_eq_getElem?_getD, gE hlt]
   exact h.1 _ (List.getElem_mem hlt)
  refine ⟨fun w hw => ?_, ?_⟩
  ·have := cutGo_len' w (List.mem_of_mem_drop hw)
   simp only [List.length_nil] at this
   omega
  ·have : ∀ (s cur : Str), (cutGo 32 cur s).length ≤ s.length + 1 := by
    intro s
    induction s with
    | nil => intro cur; simp [cutGo]
    | cons c s ih =>
     intro cur
     simp only [cutGo]
     split
     ·have := ih []
      simp only [List.length_cons]
      omega
     ·have := ih (cur ++ [c])
      simp only [List.length_cons]
      omega
   have h1 := this (s.1.getD 0 []) []
   simp only [List.length_drop]
   unfold cutV
   omega
theorem plcs_next {l : List Str} {i : Nat} {out : List Plc} {s : RdS} {v : List Plc × RdS} (hlt : i < l.length) (h : plcsI (l.drop i) out s = v) : plcsI (l.drop (i + 1)) (out ++ [(atoN (Lib.cut (l.getD i []) [46]).1, atoN (Lib.cut (l.getD i []) [46]).2.1)]) (numI (Lib.cut (l.getD i []) [46]).2.1 (numI (Lib.cut (l.getD i []) [46]).1 s).2).2 = v := by
 rw [List.drop_eq_getElem_cons hlt] at h
 rw [List.getD_eq_getElem?_getD, gE hlt]
 exact h
theorem plcs_end {l : List Str} {out : List Plc} {s : RdS} {v : List Plc × RdS} (h : plcsI (l.drop l.length) out s = v) : (out, s) = v := by
 rw [List.drop_length] at h
 exact h
theorem num_ok {f : Str} {s : RdS} (h : RdOk s) : RdOk (numI f s).2 ∧ (numI f s).2.1 = s.1 := by
 obtain ⟨h1, h2, h3⟩ := h
 unfold numI
 refine ⟨⟨h1, h2, ?_⟩, rfl⟩
 simp only
 split <;> omega
theorem only_ok {ws : List Str} {s : RdS} (h : RdOk s) : RdOk (onlyI ws s).2 ∧ (onlyI ws s).2.1 = s.1 := by
 obtain ⟨h1, h2, h3⟩ := h
 unfold onlyI
 split
 ·exact ⟨⟨h1, h2, h3⟩, rfl⟩
 ·exact ⟨⟨h1, h2, Nat.le_refl _⟩, rfl⟩
theorem plcs_ok : ∀ {ws : List Str} {out : List Plc} {s : RdS}, RdOk s → RdOk (plcsI ws out s).2 ∧ (plcsI ws out s).2.1 = s.1 := by
 intro ws
 induction ws with
 | nil => intro out s h; exact ⟨h, rfl⟩
 | cons w ws ih =>
  intro out s h
  simp only [plcsI]
  obtain ⟨a1, a2⟩ := num_ok (f := (Lib.cut w [46]).1) h
  obtain ⟨b1, b2⟩ := num_ok (f := (Lib.cut w [46]).2.1) a1
  obtain ⟨c1, c2⟩ := ih (out := out ++ [(atoN (Lib.cut w [46]).1, atoN (Lib.cut w [46]).2.1)]) b1
  exact ⟨c1, c2.trans (b2.trans a2)⟩
theorem ptrI_ok {s : RdS} (h : RdOk s) : RdOk (ptrI s).2 ∧ (ptrI s).2.1.length ≤ s.1.length := by
 unfold ptrI
 split
 ·exact ⟨(words_ok h).1, (words_ok h).2.1⟩
 ·obtain ⟨a1, a2, _⟩ := words_ok (f := tPtr) h
  simp only
  split
  ·exact ⟨⟨a1.1, a1.2, Nat.le_refl _⟩, a2⟩
  ·obtain ⟨b1, b2⟩ := num_ok (f := (wordsI tPtr s).1.getD 0 []) a1
   obtain ⟨c1, c2⟩ := num_ok (f := (wordsI tPtr s).1.getD 1 []) b1
   obtain ⟨d1, d2⟩ := plcs_ok (ws := (wordsI tPtr s).1.drop 2) (out := []) c1
   refine ⟨d1, ?_⟩
   rw [d2, c2, b2]
   exact a2
theorem blksI_ok : ∀ (n : Nat) (out : List Ptr_) (s : RdS), RdOk s → RdOk (blksI n out s).2 ∧ (blksI n out s).2.1.length ≤ s.1.length := by
 intro n
 induction n with
 | zero => intro out s h; exact ⟨h, Nat.le_refl _⟩
 | succ n ih =>
  intro out s h
  simp only [blksI]
  obtain ⟨a1, a2⟩ := ptrI_ok h
  obtain ⟨b1, b2⟩ := ih (out ++ [(ptrI s).1]) _ a1
  exact ⟨b1, by omega⟩
theorem nextI_pos {f : Str} {s : RdS} (h : nextI f s = true) : 0 < s.1.length := by
 unfold nextI at h
 split at h
 ·cases h
 ·omega
theorem volsI_stop {n : Nat} {vs : List Vol_} {s : RdS} (h : ¬ (s.2 = 0 ∧ nextI nV s = true)) : volsI n vs s = (vs, s) := by
 cases n with
 | zero => rfl
 | succ n => simp only [volsI]; rw [if_neg h]
theorem cut_ok {t : Str} (h : t.length ≤ 700) : RdOk (cutV 10 t, 0) := by
 refine ⟨fun l hl => ?_, ?_, Nat.zero_le _⟩
 ·have := cutGo_len' l hl
  simp only [List.length_nil] at this
  omega
 ·have : ∀ (s cur : Str), (cutGo 10 cur s).length ≤ s.length + 1 := by
   intro s
   induction s with
   | nil => intro cur; simp [cutGo]
   | cons c s ih =>
    intro cur
    simp only [cutGo]
    split
    ·have := ih []
     simp only [List.length_cons]
     omega
    ·have := ih (cur ++ [c])
     simp only [List.length_cons]
     omega
  have h1 := this t []
  show (cutGo 10 [] t).length ≤ 701
  omega
theorem volsI_ok : ∀ (n : Nat) (out : List Vol_) (s : RdS), RdOk s → RdOk (volsI n out s).2 := by
 intro n
 induction n with
 | zero => intro out s h; exact h
 | succ n ih =>
  intro out s h
  simp only [volsI]
  split
  ·exact ih _ _ (blksI_ok 3 [] _ (only_ok (words_ok h).1).1).1
  ·exact h
theorem rootI_ok {s : RdS} (h : RdOk s) : RdOk (rootI s).2 := volsI_ok _ _ _ (num_ok (only_ok (words_ok h).1).1).1
theorem only_len {ws : List Str} {s : RdS} (h : ∀ w ∈ ws, w.length ≤ 700) : (onlyI ws s).1.length ≤ 700 := by
 unfold onlyI
 split
 ·rename_i h1
  have hlt : 0 < ws.length := by omega
  show (ws.getD 0 []).length ≤ 700
  rw [List.getD_eq_getElem?_getD, gE hlt]
  exact h _ (List.getElem_mem hlt)
 ·exact Nat.zero_le _
end Go.Sx

namespace Go.Proofs
open Go.RowKit Go.Shelf
attribute [local go_sem] Oper.semAt_some
def volUp {α : Type} (f : Nat → α) (k : Nat) : List α := (List.range k).map f
theorem volUp_succ {α : Type} (f : Nat → α) (k : Nat) : volUp f (k + 1) = volUp f k ++ [f k] := by simp [volUp, List.range_succ]
theorem volUp_length {α : Type} (f : Nat → α) (k : Nat) : (volUp f k).length = k := by simp [volUp]
theorem vol_new (W : World) (v : Value) (t : TypeId) : (W.alloc (.cells #[v] t)).cell? ⟨W.heap.size, 0, none⟩ = some v ∧ (W.alloc (.cells #[v] t)).frozen? ⟨W.heap.size, 0, none⟩ = false := by
 have h : (W.alloc (.cells #[v] t)).heap[W.heap.size]? = some (.cells #[v] t (0, 0)) := World.alloc_heap_new W (.cells #[v] t)
 constructor
 ·rw [World.cell?, h]; rfl
 ·rw [World.frozen?, h]; rfl
theorem vol_cell {W : World} {a : Addr} {v : Value} (o : Obj) (h : W.cell? a = some v) : (W.alloc o).cell? a = some v := cell_kept h (World.grownBy_alloc W o none) (fun r e => by cases e)
theorem vol_frozen {W : World} {a : Addr} {v : Value} (o : Obj) (h : W.cell? a = some v) (hf : W.frozen? a = false) : (W.alloc o).frozen? a = false := (frozen_kept h (World.grownBy_alloc W o none) (fun r e => by cases e)).trans hf
abbrev volE (x : Nat × UInt8) : Array Value := #[.int .i64 ((x.1 : Int) + 1), .int .u8 (x.2.toNat : Int)]
set_option maxRecDepth 100000 in
set_option maxHeartbeats 1000000 in
theorem vol308_in (F : Fence) (n : Nat) (h8 : F.fn 308) (hro : F.round = none) (hn : 1 ≤ n) (l Bs n₀ : Nat) (s : ByteArray) (hreach : s.size ≤ 140737488355328) (hb : Bs < n₀) (J Jx : List (Nat × UInt8) → World → Prop)
  (hY : ∀ pre x W, J pre W → pre.length < s.size → YieldAt F (n - 1) Tryz.prog l (volE x) W fun e W' =>
   (e = .returned (.bool true) ∧ J (pre ++ [x]) W' ∧ Below n₀ W W') ∨ (e = .returned (.bool false) ∧ Jx (pre ++ [x]) W'))
  (W : World) (hBs : W.cell? ⟨Bs, 0, none⟩ = some (.string s)) (h0 : J [] W) :
  CallsIn F n Tryz.prog 308 #[.func (.yield l) #[] #[], .pointer (some ⟨Bs, 0, none⟩)] W fun e W' => (∃ v, e = .returned v) ∧
   ((∃ ys, ys = volUp (fun j => (j, s.data[j]?.getD 0)) s.size ∧ J ys W') ∨ (∃ pre, (∃ k, k ≤ s.size ∧ pre = volUp (fun j => (j, s.data[j]?.getD 0)) k) ∧ Jx pre W')) := by
 refine callsIn_of_wp Tryz.func308 rfl h8 ?_ hro
 simp only [Tryz.ntmps308, List.size_toArray, List.length_cons, List.length_nil, Nat.reduceAdd, Nat.reduceSub, Array.replicate_succ, Array.replicate_zero, List.push_toArray, List.append_toArray, List.nil_append, List.cons_append]
 gi_wp2
 gi_loopw [6] (fun i wr => ∃ k : Nat, k ≤ s.size ∧ i = .int .i64 k ∧ J (volUp (fun j => (j, s.data[j]?.getD 0)) k) wr ∧ Below n₀ W wr)
  (fun i _ => s.size - (intOf i).toNat)
 case atStart => exact ⟨0, Nat.zero_le _, rfl, h0, Below.refl _ _⟩
 case round =>
  obtain ⟨k, hk, rfl, hJs, hnx⟩ := hrel
  have hcx : wr.cell? ⟨Bs, 0, none⟩ = some (.string s) := (hnx.cell (p := ⟨Bs, 0, none⟩) hb).trans hBs
  by_cases hlt : k < s.size
  ·obtain ⟨fn, tmps, assign, body, hy, hR⟩ := hY _ (k, s.data[k]?.getD 0) wr hJs (by rw [volUp_length]; exact hlt)
   dsimp only [volE] at hy
   have e : s.data[k]?.getD 0 = s[k]'hlt := by
    have h : k < s.data.size := hlt
    rw [Array.getElem?_eq_getElem h]
    rfl
   rw [e] at hy
   gi_wp2
   refine hR.mono ?_
   rintro e W3 (⟨rfl, hJ3, hk3⟩ | ⟨rfl, hJx3⟩)
   ·gi_wp2
    go_roundw
    case rel => exact ⟨k + 1, by omega, by simp, by rw [volUp_succ]; exact hJ3, hnx.trans hk3⟩
    case measure => simp [intOf]; omega
   ·gi_wp2
    refine bodyPost_ret (results_none rfl _ _ _) rfl ?_
    exact ⟨⟨_, rfl⟩, .inr ⟨_, ⟨k + 1, by omega, (volUp_succ _ _).symm⟩, hJx3⟩⟩
  ·obtain rfl : k = s.size := by omega
   gi_wp2
   go_end0
   exact ⟨⟨_, rfl⟩, .inl ⟨_, rfl, hJs⟩⟩
theorem vol_stops (F : Fence) (n : Nat) (h8 : F.fn 308) (hro : F.round = none) (hn : 1 ≤ n) (Bs n₀ : Nat) (s : ByteArray) (hreach : s.size ≤ 140737488355328) (w : World) (hn₀ : n₀ ≤ w.heap.size) (hb : Bs < n₀) (hc : w.cell? ⟨Bs, 0, none⟩ = some (.string s)) :
  SeqStopsK F n Tryz.prog 308 #[.pointer (some ⟨Bs, 0, none⟩)] volE (Below n₀) (fun xs => xs = volUp (fun j => (j, s.data[j]?.getD 0)) s.size)
   (fun pre => ∃ k, k ≤ s.size ∧ pre = volUp (fun j => (j, s.data[j]?.getD 0)) k) s.size w := fun l J Jx W hW _ _ hY h0 =>
 vol308_in F n h8 hro hn l Bs n₀ s hreach hb J Jx hY W ((hW.cell (p := ⟨Bs, 0, none⟩) (Nat.lt_of_lt_of_le hb hn₀)).trans hc) h0
set_option maxRecDepth 100000 in
set_option maxHeartbeats 2000000 in
theorem vol235_in (F : Fence) (n : Nat) (h : F.fn 235) (hro : F.round = none) (s : ByteArray) (w : World) :
  CallsIn F n Tryz.prog 235 #[.string s] w fun e W' => e = .returned (.func (.func 308) #[] #[.pointer (some ⟨w.heap.size, 0, none⟩)]) ∧ W' = w.alloc (.cells #[.string s] 9) := by
 refine callsIn_of_wp Tryz.func235 rfl h ?_ hro
 simp only [Tryz.ntmps235, List.size_toArray, List.length_cons, List.length_nil, Nat.reduceAdd, Nat.reduceSub, Array.replicate_succ, Array.replicate_zero, List.push_toArray, List.append_toArray, List.nil_append, List.cons_append]
 gi_wp2
 go_ret
 exact ⟨rfl, rfl⟩
def volOk (s : ByteArray) : Bool := !(s.size == 0) && decide (s.size ≤ 3) && s.data.toList.all (fun c => decide (97 ≤ c.toNat) && decide (c.toNat ≤ 122))
def volP (c : UInt8) : Bool := decide (97 ≤ c.toNat) && decide (c.toNat ≤ 122)
def volA (pre : List (Nat × UInt8)) : Bool := pre.all (fun y => volP y.2)
theorem vol_take (s : ByteArray) (k : Nat) (hk : k ≤ s.size) : volA (volUp (fun j => (j, s.data[j]?.getD 0)) k) = (s.data.toList.take k).all volP := by
 have h : (volUp (fun j => (j, s.data[j]?.getD 0)) k).map (·.2) = s.data.toList.take k := by
  apply List.ext_getElem
  ·have : k ≤ s.data.size := hk
   simp [volUp]; omega
  ·intro i h1 h2
   have h3 : i < s.data.size := by rw [List.length_take, Array.length_toList] at h2; omega
   simp [volUp]
   rw [Array.getElem?_eq_getElem h3]; rfl
 rw [← h, List.all_map]; rfl
theorem vol_good {pre : List (Nat × UInt8)} {x : Nat × UInt8} (h : volA pre = true) (h1 : 97 ≤ (x.2.toNat : Int)) (h2 : (x.2.toNat : Int) ≤ 122) : volA (pre ++ [x]) = true := by
 unfold volA at *; rw [List.all_append, h]; simp [volP]; omega
theorem vol_bad {pre : List (Nat × UInt8)} {x : Nat × UInt8} (h : (x.2.toNat : Int) < 97 ∨ 122 < (x.2.toNat : Int)) : volA (pre ++ [x]) = false := by
 unfold volA; rw [List.all_append]; simp [volP]; omega
theorem vol_yes {s : ByteArray} (h0 : s.size ≠ 0) (h3 : s.size ≤ 3) (h : volA (volUp (fun j => (j, s.data[j]?.getD 0)) s.size) = true) : volOk s = true := by
 rw [vol_take s s.size (Nat.le_refl _)] at h
 rw [List.take_of_length_le (by simp)] at h
 unfold volOk
 rw [show (fun c : UInt8 => decide (97 ≤ c.toNat) && decide (c.toNat ≤ 122)) = volP from rfl, h]
 simp [h0, h3]
theorem vol_no {s : ByteArray} {pre : List (Nat × UInt8)} (hp : ∃ k, k ≤ s.size ∧ pre = volUp (fun j => (j, s.data[j]?.getD 0)) k) (h : volA pre = false) : volOk s = false := by
 obtain ⟨k, hk, rfl⟩ := hp
 rw [vol_take s k hk] at h
 unfold volOk
 rw [show (fun c : UInt8 => decide (97 ≤ c.toNat) && decide (c.toNat ≤ 122)) = volP from rfl]
 have : s.data.toList.all volP = false := by
  rw [← List.take_append_drop k s.data.toList, List.all_append, h]; rfl
 rw [this]; simp
set_option maxRecDepth 100000 in
set_option maxHeartbeats 2000000 in
theorem vol212_in (F : Fence) (n : Nat) (h212 : F.fn 212) (h235 : F.fn 235) (h308 : F.fn 308) (hro : F.round = none) (hn : 3 ≤ n) (s : ByteArray) (hreach : s.size ≤ 140737488355328) (w : World) :
  CallsIn F n Tryz.prog 212 #[.string s] w fun e W' => e = .returned (.bool (volOk s)) ∧ Below w.heap.size w W' := by
 have h1 : 1 ≤ n := by omega
 refine callsIn_of_wp_marks Tryz.func212 rfl h212 ?_ hro
 simp only [Tryz.ntmps212, List.size_toArray, List.length_cons, List.length_nil, Nat.reduceAdd, Nat.reduceSub, Array.replicate_succ, Array.replicate_zero, List.push_toArray, List.append_toArray, List.nil_append, List.cons_append]
 gi_wp2_with (gi_at_call 235; refine (vol235_in F (n - 1) h235 hro _ _).mono ?_; rintro e w' ⟨rfl, rfl⟩)
 ·rename_i hs
  have hs0 : s.data.toList = [] := by rw [← ByteArray.toList_eq]; exact hs
  have c1 := vol_new w (.bool false) 4
  refine ⟨.bool false, by simp [results, Tryz.f212, go_sem, c1.1], ?_, (Below.refl _ w).alloc (Nat.le_refl _) _⟩
  have : s.size = 0 := by have := congrArg List.length hs0; simpa using this
  simp [volOk, this]
 ·rename_i hs hd
  have c1 := vol_new w (.bool false) 4
  refine ⟨.bool false, by simp [results, Tryz.f212, go_sem, c1.1], ?_, (Below.refl _ w).alloc (Nat.le_refl _) _⟩
  have : 3 < s.size := by
   rcases hd with h | h
   ·exact absurd (List.isEmpty_iff.1 h) hs
   ·omega
  simp [volOk]
  intro _ h3
  omega
 ·rename_i hs hd _ _
  have hs3 : s.size ≤ 3 := by omega
  have hs0 : s.size ≠ 0 := fun h => hs (by rw [ByteArray.toList_eq]; exact List.eq_nil_of_length_eq_zero (by simpa using h))
  have c1 := vol_new w (.bool false) 4
  have c2 := vol_new (w.alloc (.cells #[.bool false] 4)) (.string s) 9
  simp only [World.size_alloc] at c2
  have hB0 : Below w.heap.size w ((w.alloc (.cells #[.bool false] 4)).alloc (.cells #[.string s] 9)) := ((Below.refl _ w).alloc (Nat.le_refl _) _).alloc (by simp) _
  refine wpIn_rangeFunc_ownF hro h1 (gf := 308) (lb := #[.pointer (some ⟨w.heap.size + 1, 0, none⟩)]) rfl h308 (enters_of Tryz.func308 (by kernel_rfl) rfl)
   (vol_stops F (n - 1) h308 hro (by omega) (w.heap.size + 1) (w.heap.size + 2) s hreach _ (by simp) (by omega) c2.1) belowK_t (belowK_b (by simp)) (Below.refl _ _) (fun _ => rfl)
   (fun pre W => ((volA pre = true) ∧ W.cell? ⟨w.heap.size, 0, none⟩ = some (.bool false) ∧ W.frozen? ⟨w.heap.size, 0, none⟩ = false) ∧ Below w.heap.size w W)
   (fun c pre W => (c = .ret ∧ (volA pre = false) ∧ W.cell? ⟨w.heap.size, 0, none⟩ = some (.bool false)) ∧ Below w.heap.size w W)
   (OwnFrom.and (Own.from (fun s A B row hs hg hr => ⟨hs.1, cell_kept hs.2.1 hg hr, (frozen_kept hs.2.1 hg hr).trans hs.2.2⟩) _) (ownFrom_below (Nat.le_refl _) (by simp; omega)))
   (fun c => OwnFrom.and (Own.from (fun s A B row hs hg hr => ⟨hs.1, hs.2.1, cell_kept hs.2.2 hg hr⟩) _) (ownFrom_below (Nat.le_refl _) (by simp; omega)))
   ⟨⟨rfl, vol_cell _ c1.1, vol_frozen _ c1.1 c1.2⟩, hB0⟩
   (fun x => { tmps := #[.string s, undef, .pointer (some ⟨w.heap.size, 0, none⟩), undef, .int .u8 (x.2.toNat : Int), .string s, .bool false, .bool false, .string s, .int .i64 s.size, .bool (decide (3 < (s.size : Int))), .bool (decide (3 < (s.size : Int))), .string s, .func (.func 308) #[] #[.pointer (some ⟨w.heap.size + 1, 0, none⟩)], .int .i64 ((x.1 : Int) + 1), .int .u8 (x.2.toNat : Int), undef, undef, undef, undef, undef, undef], defers := [] }) ?assign ?body ?done ?stop
  case assign =>
   intro l x W K hK
   gi_wp2
   exact hK
  case body =>
   rintro l pre x W ⟨⟨hp, hcr, hfr⟩, hB⟩ _
   gi_wp2
   all_goals first
    | exact ⟨KeepsOthers.setCell _ _ _, ⟨rfl, vol_bad (by omega), World.cell?_setCell_same' _ _ _ (by rw [hcr]; rfl)⟩, hB.setCell (p := ⟨w.heap.size, 0, none⟩) (by simp) _⟩
    | exact ⟨KeepsOthers.refl _, Below.refl _ _, ⟨vol_good hp (by omega) (by omega), hcr, hfr⟩, hB⟩
  case done =>
   rintro D ys W hD rfl ⟨⟨hne, hcr, hfr⟩, hB⟩ hK
   gi_wp2
   have hK' := (KeepsOthers.setCell W ⟨w.heap.size, 0, none⟩ (.bool true)).same D _ hK rfl
   refine ⟨by simp, .inl ⟨_, _, rfl, run_takeDeferred hK', ?_⟩⟩
   have hc5 := cell_kept (World.cell?_setCell_same' W ⟨w.heap.size, 0, none⟩ (.bool true) (by rw [hcr]; rfl)) (grownBy_putObj' _ D (.deferred none)) (fun r e => by cases e; exact ⟨_, hK', rfl⟩)
   refine ⟨.bool true, ?_, ?_, (hB.setCell (p := ⟨w.heap.size, 0, none⟩) (by simp) _).trans (belowK_b (w := w) (Nat.le_refl _) _ D _ _ (by simp at hD; omega) hK' rfl rfl)⟩
   ·simp [results, Tryz.f212, go_sem, hc5]
   ·rw [vol_yes hs0 hs3 hne]
  case stop =>
   rintro D c pre W hD hpre ⟨⟨rfl, hin, hcr⟩, hB⟩ hK
   gi_wp2
   refine ⟨by simp, .inl ⟨_, _, rfl, run_takeDeferred hK, ?_⟩⟩
   have hc5 := cell_kept hcr (grownBy_putObj' _ D (.deferred none)) (fun r e => by cases e; exact ⟨_, hK, rfl⟩)
   refine ⟨.bool false, ?_, ?_, hB.trans (belowK_b (w := w) (Nat.le_refl _) W D _ _ (by simp at hD; omega) hK rfl rfl)⟩
   ·simp [results, Tryz.f212, go_sem, hc5]
   ·rw [vol_no hpre hin]
end Go.Proofs

namespace Go.Proofs
open Go.RowKit Go.Shelf
attribute [local go_sem] Oper.semAt_some
abbrev WX := { x : Nat × UInt8 // x.1 < 1000000 }
abbrev weiE (x : WX) : Array Value := volE x.val
def weiF (s : ByteArray) (j : Nat) : WX := ⟨(min j 999999, s.data[j]?.getD 0), by show min j 999999 < 1000000; omega⟩
set_option maxRecDepth 100000 in
set_option maxHeartbeats 1000000 in
theorem weiB_in (F : Fence) (n : Nat) (h8 : F.fn 308) (hro : F.round = none) (hn : 1 ≤ n) (l Bs : Nat) (s : ByteArray) (hreach : s.size ≤ 1000000) (J Jx : List WX → World → Prop)
  (hY : ∀ pre x W, J pre W → pre.length < s.size → YieldAt F (n - 1) Tryz.prog l (weiE x) W fun e W' =>
   (e = .returned (.bool true) ∧ J (pre ++ [x]) W' ∧ W'.heap[Bs]? = W.heap[Bs]?) ∨ (e = .returned (.bool false) ∧ Jx (pre ++ [x]) W'))
  (W : World) (hBs : W.cell? ⟨Bs, 0, none⟩ = some (.string s)) (h0 : J [] W) :
  CallsIn F n Tryz.prog 308 #[.func (.yield l) #[] #[], .pointer (some ⟨Bs, 0, none⟩)] W fun e W' => (∃ v, e = .returned v) ∧
   ((∃ ys, ys = volUp (weiF s) s.size ∧ J ys W') ∨ (∃ pre, (∃ k, k ≤ s.size ∧ pre = volUp (weiF s) k) ∧ Jx pre W')) := by
 refine callsIn_of_wp Tryz.func308 rfl h8 ?_ hro
 simp only [Tryz.ntmps308, List.size_toArray, List.length_cons, List.length_nil, Nat.reduceAdd, Nat.reduceSub, Array.replicate_succ, Array.replicate_zero, List.push_toArray, List.append_toArray, List.nil_append, List.cons_append]
 gi_wp2
 gi_loopw [6] (fun i wr => ∃ k : Nat, k ≤ s.size ∧ i = .int .i64 k ∧ J (volUp (weiF s) k) wr ∧ wr.heap[Bs]? = W.heap[Bs]?)
  (fun i _ => s.size - (intOf i).toNat)
 case atStart => exact ⟨0, Nat.zero_le _, rfl, h0, rfl⟩
 case round =>
  obtain ⟨k, hk, rfl, hJs, hnx⟩ := hrel
  have hcx : wr.cell? ⟨Bs, 0, none⟩ = some (.string s) := by
   have : wr.cell? ⟨Bs, 0, none⟩ = W.cell? ⟨Bs, 0, none⟩ := by simp only [World.cell?, hnx]
   exact this.trans hBs
  by_cases hlt : k < s.size
  ·obtain ⟨fn, tmps, assign, body, hy, hR⟩ := hY _ (weiF s k) wr hJs (by rw [volUp_length]; exact hlt)
   dsimp only [weiE, volE, weiF] at hy
   rw [show min k 999999 = k by omega] at hy
   have e : s.data[k]?.getD 0 = s[k]'hlt := by
    have h : k < s.data.size := hlt
    rw [Array.getElem?_eq_getElem h]
    rfl
   rw [e] at hy
   gi_wp2
   refine hR.mono ?_
   rintro e W3 (⟨rfl, hJ3, hk3⟩ | ⟨rfl, hJx3⟩)
   ·gi_wp2
    go_roundw
    case rel => exact ⟨k + 1, by omega, by simp, by rw [volUp_succ]; exact hJ3, hk3.trans hnx⟩
    case measure => simp [intOf]; omega
   ·gi_wp2
    refine bodyPost_ret (results_none rfl _ _ _) rfl ?_
    exact ⟨⟨_, rfl⟩, .inr ⟨_, ⟨k + 1, by omega, (volUp_succ _ _).symm⟩, hJx3⟩⟩
  ·obtain rfl : k = s.size := by omega
   gi_wp2
   go_end0
   exact ⟨⟨_, rfl⟩, .inl ⟨_, rfl, hJs⟩⟩
theorem wei_stops (F : Fence) (n : Nat) (h8 : F.fn 308) (hro : F.round = none) (hn : 1 ≤ n) (Bs : Nat) (s : ByteArray) (hreach : s.size ≤ 1000000) (w : World) (hb : Bs < w.heap.size) (hc : w.cell? ⟨Bs, 0, none⟩ = some (.string s)) :
  SeqStopsK F n Tryz.prog 308 #[.pointer (some ⟨Bs, 0, none⟩)] weiE (fun W W' => W'.heap[Bs]? = W.heap[Bs]?) (fun xs => xs = volUp (weiF s) s.size)
   (fun pre => ∃ k, k ≤ s.size ∧ pre = volUp (weiF s) k) s.size w := fun l J Jx W hW _ _ hY h0 =>
 weiB_in F n h8 hro hn l Bs s hreach J Jx hY W ((hW.cell (p := ⟨Bs, 0, none⟩) hb).trans hc) h0
def weiS (pre : List WX) : Int := pre.foldl (fun a x => a + (x.val.2.toNat : Int) * (65536 + ((x.val.1 : Int) + 1))) 0
theorem weiS_add (pre : List WX) (x : WX) : weiS (pre ++ [x]) = weiS pre + (x.val.2.toNat : Int) * (65536 + ((x.val.1 : Int) + 1)) := by simp [weiS]
theorem wei_one (x : WX) : 0 ≤ (x.val.2.toNat : Int) * (65536 + ((x.val.1 : Int) + 1)) ∧ (x.val.2.toNat : Int) * (65536 + ((x.val.1 : Int) + 1)) ≤ 300000000 := by
 have h1 : x.val.2.toNat < 256 := x.val.2.toNat_lt
 have h2 := x.property
 refine ⟨Int.mul_nonneg (by omega) (by omega), ?_⟩
 have := Int.mul_le_mul (a := (x.val.2.toNat : Int)) (b := 65536 + ((x.val.1 : Int) + 1)) (c := 255) (d := 1065536) (by omega) (by omega) (by omega) (by omega)
 omega
theorem weiS_bd : ∀ (n : Nat) (pre : List WX), pre.length = n → 0 ≤ weiS pre ∧ weiS pre ≤ (pre.length : Int) * 300000000 := by
 intro n
 induction n with
 | zero => intro pre h; rw [List.eq_nil_of_length_eq_zero h]; simp [weiS]
 | succ n ih =>
  intro pre h
  have hne : pre ≠ [] := by rintro rfl; cases h
  obtain ⟨q, x, rfl⟩ : ∃ q x, pre = q ++ [x] := ⟨pre.dropLast, pre.getLast hne, (List.dropLast_concat_getLast hne).symm⟩
  have h1 := ih q (by simpa using h)
  have h2 := wei_one x
  rw [weiS_add]
  simp only [List.length_append, List.length_cons, List.length_nil]
  push_cast
  omega
def weiUp (s : ByteArray) (k : Nat) : List WX := volUp (weiF s) k
set_option maxRecDepth 100000 in
set_option maxHeartbeats 2000000 in
theorem wei_in (F : Fence) (n : Nat) (h41 : F.fn 152) (h53 : F.fn 235) (h55 : F.fn 308) (hro : F.round = none) (hn : 3 ≤ n) (s : ByteArray) (hreach : s.size ≤ 1000000) (w : World) :
  CallsIn F n Tryz.prog 152 #[.string s] w fun e W' => e = .returned (.int .i64 (weiS (weiUp s s.size))) ∧ Below w.heap.size w W' := by
 have h1 : 1 ≤ n := by omega
 refine callsIn_of_wp_marks Tryz.func152 rfl h41 ?_ hro
 simp only [Tryz.ntmps152, List.size_toArray, List.length_cons, List.length_nil, Nat.reduceAdd, Nat.reduceSub, Array.replicate_succ, Array.replicate_zero, List.push_toArray, List.append_toArray, List.nil_append, List.cons_append]
 gi_wp2_with (gi_at_call 235; refine (vol235_in F (n - 1) h53 hro _ _).mono ?_; rintro e w' ⟨rfl, rfl⟩)
 have c1 := vol_new w (.int .i64 0) 3
 have c2 := vol_new (w.alloc (.cells #[.int .i64 0] 3)) (.string s) 9
 simp only [World.size_alloc] at c2
 have hB0 : Below w.heap.size w ((w.alloc (.cells #[.int .i64 0] 3)).alloc (.cells #[.string s] 9)) := ((Below.refl _ w).alloc (Nat.le_refl _) _).alloc (by simp) _
 refine wpIn_rangeFunc_ownF hro h1 (gf := 308) (lb := #[.pointer (some ⟨w.heap.size + 1, 0, none⟩)]) rfl h55 (enters_of Tryz.func308 (by kernel_rfl) rfl)
  (wei_stops F (n - 1) h55 hro (by omega) (w.heap.size + 1) s hreach _ (by simp) c2.1) (fun h k => k.trans h) (fun W l o o' hl _ _ _ => World.putObj_heap_other (by simp at hl; omega)) (Below.refl _ _) (fun _ => rfl)
  (fun pre W => (W.cell? ⟨w.heap.size, 0, none⟩ = some (.int .i64 (weiS pre)) ∧ W.frozen? ⟨w.heap.size, 0, none⟩ = false) ∧ Below w.heap.size w W)
  (fun _ _ _ => False)
  (OwnFrom.and (Own.from (fun s A B row hs hg hr => ⟨cell_kept hs.1 hg hr, (frozen_kept hs.1 hg hr).trans hs.2⟩) _) (ownFrom_below (Nat.le_refl _) (by simp; omega)))
  (fun c => Own.from (fun s A B row hs hg hr => hs) _)
  ⟨⟨vol_cell _ c1.1, vol_frozen _ c1.1 c1.2⟩, hB0⟩
  (fun x => { tmps := #[.string s, undef, .int .i64 0, .pointer (some ⟨w.heap.size, 0, none⟩), .int .i64 ((x.val.1 : Int) + 1), .int .u8 (x.val.2.toNat : Int), .string s, .func (.func 308) #[] #[.pointer (some ⟨w.heap.size + 1, 0, none⟩)], .int .i64 ((x.val.1 : Int) + 1), .int .u8 (x.val.2.toNat : Int), undef, undef, undef, undef, undef, undef, undef, undef], defers := [] }) ?assign ?body ?done ?stop
 case assign =>
  intro l x W K hK
  gi_wp2
  exact hK
 case body =>
  rintro l pre x W ⟨⟨hcr, hfr⟩, hB⟩ hlt
  have hb := weiS_bd _ pre rfl
  have hb1 := wei_one x
  have hu : x.val.2.toNat < 256 := x.val.2.toNat_lt
  have hp := x.property
  gi_wp2
  exact ⟨KeepsOthers.setCell _ _ _, Below.heap_setCell _ _ _ _ (by show w.heap.size + 1 ≠ w.heap.size; omega), ⟨by rw [weiS_add]; exact World.cell?_setCell_same' _ _ _ (by rw [hcr]; rfl), by rw [World.frozen?_setCell]; exact hfr⟩, hB.setCell (p := ⟨w.heap.size, 0, none⟩) (by simp) _⟩
 case done =>
  rintro D ys W hD rfl ⟨⟨hcr, hfr⟩, hB⟩ hK
  gi_wp2
  refine ⟨by simp, .inl ⟨_, _, rfl, run_takeDeferred hK, ?_⟩⟩
  refine ⟨.int .i64 (weiS (weiUp s s.size)), ?_, rfl, hB.trans (belowK_b (w := w) (Nat.le_refl _) _ D _ _ (by simp at hD; omega) hK rfl rfl)⟩
  simp [results, Tryz.f152, go_sem, weiUp]
 case stop =>
  rintro D c pre W hD hpre h hK
  exact h.elim
end Go.Proofs

namespace Go.Sx
open Go
set_option maxRecDepth 100000
set_option linter.unusedVariables false
set_option linter.unusedSimpArgs false
abbrev T_Put : Ty := (.pr .bool (.pr (.int .i64) .str))
abbrev T_Disk : Ty := (.pr (.int .i64) (.pr (.sl .str) (.pr (.sl .str) (.pr (.sl .bool) (.sl T_Put)))))
abbrev T_Place : Ty := (.pr (.int .i64) (.int .i64))
abbrev T_Ptr : Ty := (.pr (.int .i64) (.pr (.int .i64) (.sl T_Place)))
abbrev T_Got : Ty := (.pr .str (.sl (.int .i64)))
abbrev TL_Put : Ty := (.pr .bool (.pr (.int .i64) .str))
abbrev TL_Disk : Ty := (.pr (.int .i64) (.pr (.sl .str) (.pr (.sl .str) (.pr (.sl .bool) (.sl TL_Put)))))
abbrev TL_Place : Ty := (.pr (.int .i64) (.int .i64))
abbrev TL_Ptr : Ty := (.pr (.int .i64) (.pr (.int .i64) (.sl TL_Place)))
abbrev T_Vol : Ty := (.pr .str (.sl T_Ptr))
abbrev T_Root : Ty := (.pr (.int .i64) (.sl T_Vol))
abbrev T_Pool : Ty := (.pr (.sl T_Disk) (.pr .bool (.pr T_Root T_Root)))
abbrev T_Shelf : Ty := (.pr .str (.sl .str))
abbrev T_Model : Ty := (.sl T_Shelf)
abbrev T_World : Ty := (.pr T_Pool (.pr T_Model (.pr T_Model (.pr T_Model .bool))))
abbrev TL_Vol : Ty := (.pr .str (.sl TL_Ptr))
abbrev TL_Root : Ty := (.pr (.int .i64) (.sl TL_Vol))
abbrev TL_Pool : Ty := (.pr (.sl TL_Disk) (.pr .bool (.pr TL_Root TL_Root)))
abbrev T_harmed : Ty := (.pr (.int .i64) (.arr 12 .bool))
abbrev T_drive : Ty := (.pr T_harmed (.pr (.arr 12 .str) (.pr (.arr 2 .str) .pt)))
abbrev T_refused : Ty := (.int .i64)
abbrev T_l6Rd : Ty := (.pr (.sl (.int .u8)) (.int .i64))
abbrev T_column : Ty := (.pr (.int .i64) .str)
abbrev T_waiting : Ty := (.pr T_Put .pt)
abbrev T_broken : Ty := (.int .i64)
abbrev T_rootReader : Ty := (.pr (.sl .str) .er)
def tt : TT := [⟨2, (.int .i64), false, 0, 0, 8, []⟩, ⟨3, (.int .i64), false, 0, 0, 8, []⟩, ⟨4, .bool, false, 0, 0, 1, []⟩, ⟨5, (.int .u8), false, 0, 0, 1, []⟩, ⟨6, (.int .u8), false, 0, 0, 1, []⟩, ⟨7, (.pr (.int .i64) (.pr (.int .i64) (.pr .bool (.int .u8)))), true, 4, 0, 24, [2, 3, 4, 6]⟩, ⟨8, (.pr (.int .i64) (.pr (.int .i64) (.pr .bool (.int .u8)))), true, 4, 0, 24, [2, 3, 4, 6]⟩, ⟨9, .str, false, 0, 0, 16, []⟩, ⟨10, .str, false, 0, 0, 16, []⟩, ⟨11, .str, false, 0, 0, 16, []⟩, ⟨12, (.int .u64), false, 0, 0, 8, []⟩, ⟨13, (.pr .str (.int .u64)), true, 2, 0, 24, [9, 12]⟩, ⟨14, (.pr .str (.int .u64)), true, 2, 0, 24, [9, 12]⟩, ⟨21, (.int .i32), false, 0, 0, 4, []⟩, ⟨22, (.sl (.int .u8)), false, 0, 5, 24, []⟩, ⟨23, (.sl T_Disk), false, 0, 37, 24, []⟩, ⟨24, (.sl T_Place), false, 0, 39, 24, []⟩, ⟨25, (.pr (.int .i64) (.pr (.int .i64) (.sl T_Place))), true, 3, 0, 40, [3, 3, 24]⟩, ⟨26, T_Ptr, true, 3, 0, 40, [3, 3, 24]⟩, ⟨32, (.sl (.int .i64)), false, 0, 3, 24, []⟩, ⟨33, (.sl .str), false, 0, 9, 24, []⟩, ⟨34, (.sl .bool), false, 0, 4, 24, []⟩, ⟨35, (.sl T_Put), false, 0, 153, 24, []⟩, ⟨36, (.pr (.int .i64) (.pr (.sl .str) (.pr (.sl .str) (.pr (.sl .bool) (.sl T_Put))))), true, 5, 0, 104, [3, 33, 33, 34, 35]⟩, ⟨37, T_Disk, true, 5, 0, 104, [3, 33, 33, 34, 35]⟩, ⟨38, (.pr (.int .i64) (.int .i64)), true, 2, 0, 16, [3, 3]⟩, ⟨39, T_Place, true, 2, 0, 16, [3, 3]⟩, ⟨40, (.pr .str (.sl (.int .i64))), true, 2, 0, 40, [9, 32]⟩, ⟨41, T_Got, true, 2, 0, 40, [9, 32]⟩, ⟨58, (.sl TL_Disk), false, 0, 142, 24, []⟩, ⟨59, (.sl TL_Place), false, 0, 223, 24, []⟩, ⟨60, (.pr (.int .i64) (.pr (.int .i64) (.sl TL_Place))), true, 3, 0, 40, [3, 3, 59]⟩, ⟨61, TL_Ptr, true, 3, 0, 40, [3, 3, 59]⟩, ⟨71, (.sl T_Vol), false, 0, 231, 24, []⟩, ⟨72, (.pr (.int .i64) (.sl T_Vol)), true, 2, 0, 32, [3, 71]⟩, ⟨73, T_Root, true, 2, 0, 32, [3, 71]⟩, ⟨74, (.pr (.sl T_Disk) (.pr .bool (.pr T_Root T_Root))), true, 4, 0, 96, [23, 4, 73, 73]⟩, ⟨75, T_Pool, true, 4, 0, 96, [23, 4, 73, 73]⟩, ⟨81, (.sl T_Shelf), false, 0, 245, 24, []⟩, ⟨82, (.sl T_Shelf), true, 1, 0, 24, [81]⟩, ⟨83, T_Model, true, 1, 0, 24, [81]⟩, ⟨84, (.pr T_Pool (.pr T_Model (.pr T_Model (.pr T_Model .bool)))), true, 5, 0, 176, [75, 83, 83, 83, 4]⟩, ⟨85, T_World, true, 5, 0, 176, [75, 83, 83, 83, 4]⟩, ⟨90, (.sl TL_Vol), false, 0, 318, 24, []⟩, ⟨91, (.pr (.int .i64) (.sl TL_Vol)), true, 2, 0, 32, [3, 90]⟩, ⟨92, TL_Root, true, 2, 0, 32, [3, 90]⟩, ⟨93, (.pr (.sl TL_Disk) (.pr .bool (.pr TL_Root TL_Root))), true, 4, 0, 96, [58, 4, 92, 92]⟩, ⟨94, TL_Pool, true, 4, 0, 96, [58, 4, 92, 92]⟩, ⟨102, .pt, false, 0, 0, 8, []⟩, ⟨124, .pt, false, 0, 0, 8, []⟩, ⟨125, (.arr 12 .bool), true, 0, 4, 12, []⟩, ⟨126, (.pr (.int .i64) (.arr 12 .bool)), true, 2, 0, 24, [3, 125]⟩, ⟨127, T_harmed, true, 2, 0, 24, [3, 125]⟩, ⟨128, (.arr 12 .str), true, 0, 9, 192, []⟩, ⟨129, (.arr 2 .str), true, 0, 9, 32, []⟩, ⟨130, .pt, false, 0, 0, 8, []⟩, ⟨131, (.pr T_harmed (.pr (.arr 12 .str) (.pr (.arr 2 .str) .pt))), true, 4, 0, 256, [127, 128, 129, 130]⟩, ⟨132, T_drive, true, 4, 0, 256, [127, 128, 129, 130]⟩, ⟨140, (.sl TL_Put), false, 0, 296, 24, []⟩, ⟨141, (.pr (.int .i64) (.pr (.sl .str) (.pr (.sl .str) (.pr (.sl .bool) (.sl TL_Put))))), true, 5, 0, 104, [3, 33, 33, 34, 140]⟩, ⟨142, TL_Disk, true, 5, 0, 104, [3, 33, 33, 34, 140]⟩, ⟨152, (.pr .bool (.pr (.int .i64) .str)), true, 3, 0, 32, [4, 3, 9]⟩, ⟨153, T_Put, true, 3, 0, 32, [4, 3, 9]⟩, ⟨177, .pt, false, 0, 0, 8, []⟩, ⟨178, .pt, false, 0, 0, 8, []⟩, ⟨181, (.int .i64), true, 1, 0, 8, [3]⟩, ⟨182, T_refused, true, 1, 0, 8, [3]⟩, ⟨184, (.pr (.sl (.int .u8)) (.int .i64)), true, 2, 0, 32, [22, 3]⟩, ⟨185, T_l6Rd, true, 2, 0, 32, [22, 3]⟩, ⟨195, (.int .u64), false, 0, 0, 8, []⟩, ⟨198, (.int .u32), false, 0, 0, 4, []⟩, ⟨203, (.pr (.int .i64) .str), true, 2, 0, 24, [3, 9]⟩, ⟨204, T_column, true, 2, 0, 24, [3, 9]⟩, ⟨216, (.pr T_Put .pt), true, 2, 0, 40, [153, 130]⟩, ⟨217, T_waiting, true, 2, 0, 40, [153, 130]⟩, ⟨223, TL_Place, true, 2, 0, 16, [3, 3]⟩, ⟨229, (.sl T_Ptr), false, 0, 26, 24, []⟩, ⟨230, (.pr .str (.sl T_Ptr)), true, 2, 0, 40, [9, 229]⟩, ⟨231, T_Vol, true, 2, 0, 40, [9, 229]⟩, ⟨244, (.pr .str (.sl .str)), true, 2, 0, 40, [9, 33]⟩, ⟨245, T_Shelf, true, 2, 0, 40, [9, 33]⟩, ⟨257, T_broken, true, 1, 0, 8, [3]⟩, ⟨275, (.int .i64), false, 0, 0, 8, []⟩, ⟨279, (.int .u64), false, 0, 0, 8, []⟩, ⟨296, TL_Put, true, 3, 0, 32, [4, 3, 9]⟩, ⟨302, .pt, false, 0, 0, 8, []⟩, ⟨304, .er, false, 0, 0, 16, []⟩, ⟨305, (.pr (.sl .str) .er), true, 2, 0, 40, [33, 304]⟩, ⟨306, T_rootReader, true, 2, 0, 40, [33, 304]⟩, ⟨316, (.sl TL_Ptr), false, 0, 61, 24, []⟩, ⟨317, (.pr .str (.sl TL_Ptr)), true, 2, 0, 40, [9, 316]⟩, ⟨318, TL_Vol, true, 2, 0, 40, [9, 316]⟩, ⟨337, (.int .u8), false, 0, 0, 1, []⟩, ⟨365, (.arr 256 .bool), true, 0, 4, 256, []⟩, ⟨366, (.arr 256 .bool), true, 0, 4, 256, []⟩, ⟨372, (.arr 24 (.int .u8)), true, 0, 5, 24, []⟩, ⟨390, (.sl .er), false, 0, 304, 24, []⟩, ⟨403, (.arr 20 (.int .u64)), true, 0, 195, 160, []⟩, ⟨404, (.arr 65 (.int .u8)), true, 0, 5, 65, []⟩, ⟨408, (.int .i64), false, 0, 0, 8, []⟩, ⟨417, (.int .i64), false, 0, 0, 8, []⟩, ⟨423, (.int .u64), false, 0, 0, 8, []⟩, ⟨428, (.arr 256 (.int .u8)), true, 0, 5, 256, []⟩, ⟨429, (.pr (.int .u8) (.int .u8)), true, 2, 0, 2, [5, 5]⟩, ⟨430, (.pr (.int .u8) (.int .u8)), true, 2, 0, 2, [5, 5]⟩, ⟨431, (.arr 16 (.pr (.int .u8) (.int .u8))), true, 0, 430, 32, []⟩, ⟨433, (.arr 32 (.int .u8)), true, 0, 5, 32, []⟩, ⟨434, (.arr 64 (.int .u8)), true, 0, 5, 64, []⟩, ⟨438, (.pr .str (.pr .str .er)), true, 3, 0, 48, [9, 9, 304]⟩, ⟨439, (.pr .str (.pr .str .er)), true, 3, 0, 48, [9, 9, 304]⟩, ⟨446, .str, true, 1, 0, 16, [9]⟩, ⟨447, .str, true, 1, 0, 16, [9]⟩, ⟨453, (.int .u8), false, 0, 0, 1, []⟩, ⟨454, (.int .u8), false, 0, 0, 1, []⟩, ⟨456, (.int .i32), false, 0, 0, 4, []⟩, ⟨457, (.int .i32), false, 0, 0, 4, []⟩, ⟨466, (.pr .str (.int .u8)), true, 2, 0, 24, [9, 454]⟩, ⟨467, (.pr .str (.int .u8)), true, 2, 0, 24, [9, 454]⟩, ⟨470, (.int .u16), false, 0, 0, 2, []⟩, ⟨471, (.pr (.int .i32) (.pr (.int .u16) (.pr (.int .u16) (.pr (.int .u32) (.int .u32))))), true, 5, 0, 16, [456, 470, 470, 198, 198]⟩, ⟨472, (.pr (.int .i32) (.pr (.int .u16) (.pr (.int .u16) (.pr (.int .u32) (.int .u32))))), true, 5, 0, 16, [456, 470, 470, 198, 198]⟩, ⟨473, (.sl (.pr (.int .i32) (.pr (.int .i32) (.pr (.int .i32) (.int .i32))))), false, 0, 476, 24, []⟩, ⟨474, (.int .i32), false, 0, 0, 4, []⟩, ⟨475, (.pr (.int .i32) (.pr (.int .i32) (.pr (.int .i32) (.int .i32)))), true, 4, 0, 16, [456, 457, 474, 474]⟩, ⟨476, (.pr (.int .i32) (.pr (.int .i32) (.pr (.int .i32) (.int .i32)))), true, 4, 0, 16, [456, 457, 474, 474]⟩, ⟨22, (.sl (.int .u8)), false, 0, 5, 24, []⟩]
theorem ttok : TtOk Proofs.Tryz.prog tt := by
 refine ⟨?_, by kernel_rfl⟩
 intro te h
 simp only [tt, List.mem_cons, List.not_mem_nil, or_false] at h
 rcases h with rfl | rfl | rfl | rfl | rfl | rfl | rfl | rfl | rfl | rfl | rfl | rfl | rfl | rfl | rfl | rfl | rfl | rfl | rfl | rfl | rfl | rfl | rfl | rfl | rfl | rfl | rfl | rfl | rfl | rfl | rfl | rfl | rfl | rfl | rfl | rfl | rfl | rfl | rfl | rfl | rfl | rfl | rfl | rfl | rfl | rfl | rfl | rfl | rfl | rfl | rfl | rfl | rfl | rfl | rfl | rfl | rfl | rfl | rfl | rfl | rfl | rfl | rfl | rfl | rfl | rfl | rfl | rfl | rfl | rfl | rfl | rfl | rfl | rfl | rfl | rfl | rfl | rfl | rfl | rfl | rfl | rfl | rfl | rfl | rfl | rfl | rfl | rfl | rfl | rfl | rfl | rfl | rfl | rfl | rfl | rfl | rfl | rfl | rfl | rfl | rfl | rfl | rfl | rfl | rfl | rfl | rfl | rfl | rfl | rfl | rfl | rfl | rfl | rfl | rfl | rfl | rfl | rfl | rfl | rfl | rfl | rfl | rfl | rfl | rfl | rfl <;> exact ⟨by kernel_rfl, by kernel_rfl, by kernel_rfl, by kernel_rfl⟩
def mt : MT := [(233, 39, 26), (241, 3, 4), (246, 9, 3), (39, 39, 0), (153, 153, 0)]
theorem mtok : MtOk Proofs.Tryz.prog mt := .cons (by kernel_rfl) (.cons (by kernel_rfl) (.cons (by kernel_rfl) (.eqs (by kernel_rfl) (.eqs (by kernel_rfl) (.nil)))))
instance : Jg Proofs.Tryz.prog := loneJ _
end Go.Sx

namespace Go.Sx
open Go
set_option maxRecDepth 100000
set_option linter.unusedVariables false
set_option linter.unusedSimpArgs false
set_option maxHeartbeats 2000000
def cPool : Ctr := ⟨80, [.val false TI pF], fun x => True, fun x => (sBool (poolV x.1), [])⟩
theorem cPool_ok : CtrOk Proofs.Tryz.prog cPool := by
 have hP := (Prg.none ttok mtok)
 refine ctr_of_body hP cPool (fn := Proofs.Tryz.f80) (rts := [.tmp 2]) Proofs.Tryz.func80 rfl (by kernel_rfl) rfl rfl ?_
 rintro ⟨(n : Int), ⟨⟩⟩ _ hpre
 try dsimp only [Ty.den, Mode.den, mdens] at hpre
 refine ⟨rfl, ?_⟩
 refine sw_seq (xr hP 1 rfl (sw_seq ?_))
 refine sw_dec hP 2 [] 2 rfl (fun g1_2 => ?_) (fun g1_2 => ?_)
 ·refine xd hP 2 [(2, true)] rfl (sw_ret ⟨.inl rfl, _, rfl, ?_⟩)
  simp [conj, poolV, inV] at *
  try omega
 ·refine xd hP 2 [(2, false)] rfl (sw_ret ⟨.inl rfl, _, rfl, ?_⟩)
  simp [conj, poolV, inV] at *
  try omega
def cNone : Ctr := ⟨142, [.val true T_Ptr (.all .b)], fun x => True, fun x => (sBool (noneV x.1), [])⟩
theorem cNone_ok : CtrOk Proofs.Tryz.prog cNone := by
 have hP := (Prg.none ttok mtok)
 refine ctr_of_body hP cNone (fn := Proofs.Tryz.f142) (rts := [.tmp 2]) Proofs.Tryz.func142 rfl (by kernel_rfl) rfl rfl ?_
 rintro ⟨⟨(sz : Int), (sm : Int), (pl : List Plc)⟩, ⟨⟩⟩ _ hpre
 try dsimp only [Ty.den, Mode.den, mdens] at hpre
 refine ⟨rfl, ?_⟩
 refine sw_seq (xr hP 1 rfl (sw_seq ?_))
 refine sw_dec hP 2 [] 3 rfl (fun g1_3 => ?_) (fun g1_3 => ?_)
 ·refine sw_dec hP 2 [(3, true)] 8 rfl (fun g1_8 => ?_) (fun g1_8 => ?_)
  ·refine xd hP 2 [(3, true), (8, true)] rfl (sw_ret ⟨.inl rfl, _, rfl, ?_⟩)
   simp [conj, noneV, *]
  ·refine xd hP 2 [(3, true), (8, false)] rfl (sw_ret ⟨.inl rfl, _, rfl, ?_⟩)
   simp [conj, noneV, *]
 ·refine xd hP 2 [(3, false)] rfl (sw_ret ⟨.inl rfl, _, rfl, ?_⟩)
  simp [conj, noneV, *]
def cMost : Ctr := ⟨171, [.val false TI pF], fun x => poolV x.1 = true, fun x => (sInt .i64 (mostV x.1), [])⟩
theorem cMost_ok : CtrOk Proofs.Tryz.prog cMost := by
 have hP := (Prg.none ttok mtok)
 refine ctr_of_body hP cMost (fn := Proofs.Tryz.f171) (rts := [.tmp 2]) Proofs.Tryz.func171 rfl (by kernel_rfl) rfl rfl ?_
 rintro ⟨(d : Int), ⟨⟩⟩ _ hpre
 try dsimp only [Ty.den, Mode.den, mdens] at hpre
 refine ⟨rfl, ?_⟩
 replace hpre : poolV d = true := hpre
 have hb : 3 ≤ d ∧ d ≤ 4 := by simpa [poolV, inV] using hpre
 have hmm := sMin_bd d hb
 refine sw_seq (xr hP 1 rfl (sw_seq (xg hP 2 [] rfl ?_ ?_)))
 ·simp only [cj, cl]
  try dsimp only [Ty.den, Ty.dflt]
  repeat' apply And.intro
  all_goals first | omega | (show _ ≤ 3 * sMin 3 (d - 1); omega) | (show 3 * sMin 3 (d - 1) ≤ _; omega)
 refine sw_ret ⟨.inl rfl, _, rfl, ?_⟩
 simp [conj, mostV]
def cCols : Ctr := ⟨172, [.val false TI pF], fun x => 0 ≤ x.1 ∧ x.1 ≤ 1000000, fun x => (sInt .i64 (colsV x.1), [])⟩
theorem cCols_ok : CtrOk Proofs.Tryz.prog cCols := by
 have hP := (Prg.none ttok mtok)
 refine ctr_of_body hP cCols (fn := Proofs.Tryz.f172) (rts := [.tmp 2]) Proofs.Tryz.func172 rfl (by kernel_rfl) rfl rfl ?_
 rintro ⟨(n : Int), ⟨⟩⟩ _ ⟨h0, h1⟩
 try dsimp only [Ty.den, Mode.den, mdens] at h0
 try dsimp only [Ty.den, Mode.den, mdens] at h1
 refine ⟨rfl, ?_⟩
 have hq := colsV_bd h0 h1
 unfold colsV at hq
 refine sw_seq (xr hP 1 rfl (sw_seq (xg hP 2 [] rfl ?_ ?_)))
 ·simp only [cj, cl]
  try dsimp only [Ty.den, Ty.dflt]
  repeat' apply And.intro
  all_goals first | rfl | omega | assumption | trivial
 refine sw_ret ⟨.inl rfl, _, rfl, ?_⟩
 simp [conj, colsV]
def cPlOk : Ctr := ⟨173, [.val true T_Place pF, .val false TI pF], fun x => True, fun x => (sBool (placeV x.2.1 x.1), [])⟩
theorem cPlOk_ok : CtrOk Proofs.Tryz.prog cPlOk := by
 have hP := (Prg.none ttok mtok)
 refine ctr_of_body hP cPlOk (fn := Proofs.Tryz.f173) (rts := [.tmp 4]) Proofs.Tryz.func173 rfl (by kernel_rfl) rfl rfl ?_
 rintro ⟨⟨(a : Int), (b : Int)⟩, (d : Int), ⟨⟩⟩ _ hpre
 try dsimp only [Ty.den, Mode.den, mdens] at hpre
 refine ⟨rfl, ?_⟩
 refine sw_seq (xr hP 1 rfl (sw_seq ?_))
 refine sw_dec hP 2 [] 3 rfl (fun g1_3 => ?_) (fun g1_3 => ?_)
 ·refine sw_dec hP 2 [(3, true)] 9 rfl (fun g1_9 => ?_) (fun g1_9 => ?_)
  ·refine sw_dec hP 2 [(3, true), (9, true)] 14 rfl (fun g1_14 => ?_) (fun g1_14 => ?_)
   ·refine xd hP 2 [(3, true), (9, true), (14, true)] rfl (sw_ret ⟨.inl rfl, _, rfl, ?_⟩)
    simp [conj, placeV, *]
   ·refine xd hP 2 [(3, true), (9, true), (14, false)] rfl (sw_ret ⟨.inl rfl, _, rfl, ?_⟩)
    simp [conj, placeV, *]
  ·refine xd hP 2 [(3, true), (9, false)] rfl (sw_ret ⟨.inl rfl, _, rfl, ?_⟩)
   simp [conj, placeV, *]
 ·refine xd hP 2 [(3, false)] rfl (sw_ret ⟨.inl rfl, _, rfl, ?_⟩)
  simp [conj, placeV, *]
def cPtr1 : Ctr := ⟨175, [.val true T_Place pF, .rp T_Place pF], fun x => True, fun x => (sBool (decide (x.1.1 = x.2.1.1)), [])⟩
theorem cPtr1_ok : CtrOk Proofs.Tryz.prog cPtr1 := by
 have hP := (Prg.none ttok mtok)
 refine ctr_of_body hP cPtr1 (fn := Proofs.Tryz.f175) (rts := [.tmp 3]) Proofs.Tryz.func175 rfl (by kernel_rfl) rfl rfl ?_
 rintro ⟨⟨(a : Int), (b : Int)⟩, ⟨(c : Int), (e : Int)⟩, ⟨⟩⟩ _ hpre
 try dsimp only [Ty.den, Mode.den, mdens] at hpre
 refine ⟨rfl, ?_⟩
 refine sw_seq (xr hP 1 rfl (sw_seq (xr hP 2 rfl (sw_ret ⟨.inl rfl, _, rfl, ?_⟩))))
 simp [conj]
def cIdxPl : Ctr := ⟨268, [.val false (.sl T_Place) (.all .b), .clo 175 [(false, T_Place, pF)]], fun _ => True, fun x => (sInt .i64 (idxF (fun q : Plc => decide (q.1 = x.2.1.1.1)) x.1), [])⟩
theorem cIdxPl_ok : CtrOk Proofs.Tryz.prog cIdxPl := by
 have hP := ((Prg.none ttok mtok).and cPtr1_ok)
 refine ctr_of_body hP cIdxPl (fn := Proofs.Tryz.f268) (rts := [.tmp 4]) Proofs.Tryz.func268 rfl (by kernel_rfl) rfl rfl ?_
 rintro ⟨(l : List Plc), ⟨(y : Plc), ⟨⟩⟩, ⟨⟩⟩ ⟨hdl, _⟩ hpre
 try dsimp only [Ty.den, Mode.den, mdens] at hpre
 refine ⟨rfl, ?_⟩
 have hml : l.length ≤ 140737488355328 := hdl.1
 refine sw_seq (xr hP 1 rfl (sw_seq (sw_seq (xr hP 2 rfl (sw_block (sw_loop (ι := Nat) (fun i => ⟨[.v false [.d (.sl T_Place) (.all .b) l], .fn 175 [.rpt .b T_Place pF y], .j, .j, .j, .j, .j, sInt .i64 (l.length : Int), sInt .i64 (i : Int), .j, .j, .j, .j, .j, .j, .j, .j, .j, .j], [], 2, []⟩) (fun i => l.length - i) (fun i => i ≤ l.length ∧ idxFGo (fun q : Plc => decide (q.1 = y.1)) (l.drop i) i = idxF (fun q : Plc => decide (q.1 = y.1)) l) 0 ⟨?_, ?_⟩ ?_))))))
 ·exact ⟨Nat.zero_le _, rfl⟩
 ·refine ent_ok rfl ?_
  first | trivial | (simp [conj]; done) | (simp [conj] at *; (try dsimp only [Ty.den, Ty.dflt] at *); omega)
 ·rintro i ⟨hi, hgo⟩
  refine sw_seq (xr hP 3 rfl (sw_seq (sw_cond rfl (fun c2 => ?_) (fun c2 => ?_))))
  ·have hlt : i < l.length := by simpa using c2
   refine sw_skip (sw_seq (sw_block (sw_seq (xr hP 4 rfl (sw_seq (xg hP 5 [] rfl ?_ ?_))))))
   ·simp [conj, maxL]
    try dsimp only [Ty.den, Ty.dflt]
    try simp only [rd_eta]
    repeat' apply And.intro
    all_goals first | assumption | omega | exact trivial
   refine sw_cond rfl (fun c4 => ?_) (fun c4 => ?_)
   ·replace c4 : (fun q : Plc => decide (q.1 = y.1)) l[i] = true := by simpa [gE hlt] using c4
    refine sw_seq (xr hP 6 rfl (sw_ret ⟨.inl rfl, _, rfl, ?_⟩))
    simp [conj, idxF_hit hlt hgo c4]
   ·replace c4 : (fun q : Plc => decide (q.1 = y.1)) l[i] = false := by simpa [gE hlt] using c4
    refine sw_skip (xr hP 6 rfl (⟨i + 1, ?_, ?_, ent_ok rfl ?_⟩))
    ·exact ⟨hlt, idxF_next hlt hgo c4⟩
    ·omega
    ·simp [conj, maxL]
     try dsimp only [Ty.den, Ty.dflt]
     try simp only [rd_eta]
     repeat' apply And.intro
     all_goals first | rfl | assumption | omega
  ·obtain rfl : i = l.length := by simp at c2; omega
   refine sw_exit (sw_seq (xr hP 4 rfl (sw_ret ⟨.inl rfl, _, rfl, ?_⟩)))
   simp [conj, idxF_end hgo]
def cContPl : Ctr := ⟨174, [.val false (.sl T_Place) (.all .b), .clo 175 [(false, T_Place, pF)]], fun _ => True, fun x => (sBool (List.any x.1 (fun q : Plc => decide (q.1 = x.2.1.1.1))), [])⟩
theorem cContPl_ok : CtrOk Proofs.Tryz.prog cContPl := by
 have hP := ((Prg.none ttok mtok).and cIdxPl_ok)
 refine ctr_of_body hP cContPl (fn := Proofs.Tryz.f174) (rts := [.tmp 4]) Proofs.Tryz.func174 rfl (by kernel_rfl) rfl rfl ?_
 rintro ⟨(l : List Plc), ⟨(y : Plc), ⟨⟩⟩, ⟨⟩⟩ _ hpre
 try dsimp only [Ty.den, Mode.den, mdens] at hpre
 refine ⟨rfl, ?_⟩
 refine sw_seq (xr hP 1 rfl (sw_seq (xr hP 2 rfl (sw_ret ⟨.inl rfl, _, rfl, ?_⟩))))
 simp [conj]
 exact idxF_any
def cPtrOk : Ctr := ⟨89, [.val false TI pF, .val true T_Ptr (.all .b)], fun x => True, fun x => (sBool (ptrV x.1 x.2.1), [])⟩
theorem cPtrOk_ok : CtrOk Proofs.Tryz.prog cPtrOk := by
 have hP := (((((((Prg.none ttok mtok).and cPool_ok).and cNone_ok).and cMost_ok).and cCols_ok).and cPlOk_ok).and cContPl_ok)
 refine ctr_of_body hP cPtrOk (fn := Proofs.Tryz.f89) (rts := [.tmp 4]) Proofs.Tryz.func89 rfl (by kernel_rfl) rfl rfl ?_
 rintro ⟨(d : Int), ⟨(sz : Int), (sm : Int), (pl : List Plc)⟩, ⟨⟩⟩ ⟨_, ⟨_, _, hpl0⟩, _⟩ _
 try dsimp only [Ty.den, Mode.den, mdens] at _
 refine ⟨rfl, ?_⟩
 have hml : pl.length ≤ 140737488355328 := hpl0.1
 refine sw_seq (xr hP 1 rfl (sw_seq (sw_seq (xg hP 2 [] rfl ?_ ?_))))
 ·simp [conj, maxL]
  try dsimp only [Ty.den, Ty.dflt]
  try simp only [rd_eta]
  repeat' apply And.intro
  all_goals first | rfl | assumption | omega | trivial
 refine sw_cond rfl (fun c1 => ?_) (fun c1 => ?_)
 ·replace c1 : poolV d = false := by simpa using c1
  refine sw_seq (xr hP 3 rfl (sw_ret ⟨.inl rfl, _, rfl, ?_⟩))
  simp [conj, ptrV, c1]
 ·replace c1 : poolV d = true := by simpa using c1
  have hb : 3 ≤ d ∧ d ≤ 4 := by simpa [poolV, inV] using c1
  have hmm := sMin_bd d hb
  have hmv : mostV d = 3 * (d - 1) := by unfold mostV; rw [hmm]
  refine sw_skip (sw_seq (sw_seq (xg hP 3 [] rfl ?_ ?_)))
  ·simp [conj, maxL]
   try dsimp only [Ty.den, Ty.dflt]
   try simp only [rd_eta]
   repeat' apply And.intro
   all_goals first | rfl | assumption | omega | trivial
  refine sw_cond rfl (fun c3 => ?_) (fun c3 => ?_)
  ·replace c3 : noneV ((sz, sm, pl) : Ptr_) = true := c3
   refine sw_seq (xr hP 4 rfl (sw_ret ⟨.inl rfl, _, rfl, ?_⟩))
   simp [conj, ptrV, c1, c3]
  ·replace c3 : noneV ((sz, sm, pl) : Ptr_) = false := c3
   refine sw_skip (sw_seq (sw_seq ?_))
   refine sw_dec hP 4 [] 3 rfl (fun g5_3 => ?_) (fun g5_3 => ?_)
   ·have hsz : sizeV d ((sz, sm, pl) : Ptr_) = false := by
      have h : sz < 1 := of_decide_eq_true g5_3
      simp [sizeV, inV]; omega
    refine xg hP 4 [(3, true)] rfl ?_ ?_
    ·simp only [cj, cl]
     try dsimp only [Ty.den, Ty.dflt]
     repeat' apply And.intro
     all_goals first | trivial | assumption | omega | (show 0 ≤ sz; omega) | (show sz ≤ 1000000; omega) | exact decide_eq_false g5_3 | exact decide_eq_false g5_10 | exact decide_eq_false g5_15 | exact decide_eq_false g5_20
    refine sw_condT rfl (sw_seq (xr hP 5 rfl (sw_ret ⟨.inl rfl, _, rfl, ?_⟩)))
    simp [conj, ptrV, c1, c3, hsz]
   ·replace g5_3 : ¬ sz < 1 := of_decide_eq_false g5_3
    refine sw_dec hP 4 [(3, false)] 10 rfl (fun g5_10 => ?_) (fun g5_10 => ?_)
    ·have hsz : sizeV d ((sz, sm, pl) : Ptr_) = false := by
       have h : mostV d < sz := of_decide_eq_true g5_10
       simp [sizeV, inV]; omega
     refine xg hP 4 [(3, false), (10, true)] rfl ?_ ?_
     ·simp only [cj, cl]
      try dsimp only [Ty.den, Ty.dflt]
      repeat' apply And.intro
      all_goals first | trivial | assumption | omega | (show 0 ≤ sz; omega) | (show sz ≤ 1000000; omega) | exact decide_eq_false g5_3 | exact decide_eq_false g5_10 | exact decide_eq_false g5_15 | exact decide_eq_false g5_20
     refine sw_condT rfl (sw_seq (xr hP 5 rfl (sw_ret ⟨.inl rfl, _, rfl, ?_⟩)))
     simp [conj, ptrV, c1, c3, hsz]
    ·replace g5_10 : ¬ mostV d < sz := of_decide_eq_false g5_10
     refine sw_dec hP 4 [(3, false), (10, false)] 15 rfl (fun g5_15 => ?_) (fun g5_15 => ?_)
     ·have hsz : sizeV d ((sz, sm, pl) : Ptr_) = false := by
        have h : sm < 0 := of_decide_eq_true g5_15
        simp [sizeV, inV]; omega
      refine xg hP 4 [(3, false), (10, false), (15, true)] rfl ?_ ?_
      ·simp only [cj, cl]
       try dsimp only [Ty.den, Ty.dflt]
       repeat' apply And.intro
       all_goals first | trivial | assumption | omega | (show 0 ≤ sz; omega) | (show sz ≤ 1000000; omega) | exact decide_eq_false g5_3 | exact decide_eq_false g5_10 | exact decide_eq_false g5_15 | exact decide_eq_false g5_20
      refine sw_condT rfl (sw_seq (xr hP 5 rfl (sw_ret ⟨.inl rfl, _, rfl, ?_⟩)))
      simp [conj, ptrV, c1, c3, hsz]
     ·replace g5_15 : ¬ sm < 0 := of_decide_eq_false g5_15
      refine sw_dec hP 4 [(3, false), (10, false), (15, false)] 20 rfl (fun g5_20 => ?_) (fun g5_20 => ?_)
      ·have hsz : sizeV d ((sz, sm, pl) : Ptr_) = false := by
         have h : 1000000000 < sm := of_decide_eq_true g5_20
         simp [sizeV, inV]; omega
       refine xg hP 4 [(3, false), (10, false), (15, false), (20, true)] rfl ?_ ?_
       ·simp only [cj, cl]
        try dsimp only [Ty.den, Ty.dflt]
        repeat' apply And.intro
        all_goals first | trivial | assumption | omega | (show 0 ≤ sz; omega) | (show sz ≤ 1000000; omega) | exact decide_eq_false g5_3 | exact decide_eq_false g5_10 | exact decide_eq_false g5_15 | exact decide_eq_false g5_20
       refine sw_condT rfl (sw_seq (xr hP 5 rfl (sw_ret ⟨.inl rfl, _, rfl, ?_⟩)))
       simp [conj, ptrV, c1, c3, hsz]
      ·replace g5_20 : ¬ 1000000000 < sm := of_decide_eq_false g5_20
       have hcb := colsV_bd (n := sz) (by omega) (by omega)
       refine xg hP 4 [(3, false), (10, false), (15, false), (20, false)] rfl ?_ ?_
       ·simp only [cj, cl]
        try dsimp only [Ty.den, Ty.dflt]
        repeat' apply And.intro
        all_goals first | trivial | assumption | omega | (show 0 ≤ sz; omega) | (show sz ≤ 1000000; omega) | exact decide_eq_false g5_3 | exact decide_eq_false g5_10 | exact decide_eq_false g5_15 | exact decide_eq_false g5_20
       refine sw_cond rfl (fun c5 => ?_) (fun c5 => ?_)
       ·have hsz : sizeV d ((sz, sm, pl) : Ptr_) = false := by
          have h : (!decide ((pl.length : Int) = colsV sz + 1)) = true := c5
          simp [sizeV] at h ⊢; intros; omega
        refine sw_seq (xr hP 5 rfl (sw_ret ⟨.inl rfl, _, rfl, ?_⟩))
        simp [conj, ptrV, c1, c3, hsz]
       ·have hsz : sizeV d ((sz, sm, pl) : Ptr_) = true := by
          have h : (!decide ((pl.length : Int) = colsV sz + 1)) = false := c5
          simp [sizeV, inV] at h ⊢; omega
        refine sw_skip (sw_seq (sw_seq (xr hP 5 rfl (sw_block (sw_loop (ι := Nat) (fun i => ⟨[sInt .i64 d, .j, .j, .v false [.ptr ⟨1, 0, 0⟩ 0], .j, .j, .j, .j, .j, .j, .j, .j, .j, .j, .j, .j, .j, .j, .j, .j, .j, .j, .j, .j, .j, .j, .j, .j, .j, .j, .j, .j, .j, .j, .j, .j, .j, .j, .j, .j, .j, .j, .j, .v false [.d (.sl T_Place) (.all .b) pl], sInt .i64 (pl.length : Int), sInt .i64 (i : Int), .j, .j, .j, .j, .j, .j, .j, .j, .j, .j, .j, .j, .j, .j, .j, .j, .j], [(⟨1, 0, 0⟩, .var [.d TI pF sz, .d TI pF sm, .d (.sl T_Place) (.all .b) pl])], 5, []⟩) (fun i => pl.length - i) (fun i => i ≤ pl.length ∧ chkGo (placeF d) (pl.take i) (pl.drop i) = chk (placeF d) pl) 0 ⟨?_, ?_⟩ ?_)))))
        ·exact ⟨Nat.zero_le _, rfl⟩
        ·refine ent_ok rfl ?_
         simp [conj]
        ·rintro i ⟨hi, hgo⟩
         refine sw_seq (xr hP 6 rfl (sw_seq (sw_cond rfl (fun c8 => ?_) (fun c8 => ?_))))
         ·have hlt : i < pl.length := by simpa using c8
          refine sw_skip (sw_seq (sw_block (sw_seq (xr hP 7 rfl (sw_seq ?_)))))
          refine sw_dec hP 8 [] 4 rfl (fun g10_4 => ?_) (fun g10_4 => ?_)
          ·replace g10_4 : placeV d pl[i] = false := by simpa [gE hlt] using g10_4
           have hf : placeF d (pl.take i) pl[i] = false := by simp [placeF, g10_4]
           refine xg hP 8 [(4, true)] rfl ?_ ?_
           ·simp [conj, gE hlt]
            repeat' apply And.intro
            all_goals first | trivial | assumption | omega
           refine sw_condT rfl (sw_seq (xr hP 9 rfl (sw_ret ⟨.inl rfl, _, rfl, ?_⟩)))
           have hv := chk_hit hlt hgo hf
           simp [conj, ptrV, c1, c3, hsz, hv]
          ·replace g10_4 : placeV d pl[i] = true := by simpa [gE hlt] using g10_4
           refine xg hP 8 [(4, false)] rfl ?_ ?_
           ·simp [conj, gE hlt]
            repeat' apply And.intro
            all_goals first | trivial | assumption | omega
           refine sw_cond rfl (fun c10 => ?_) (fun c10 => ?_)
           ·have hf : placeF d (pl.take i) pl[i] = false := by
              have h : (pl.take i).any (fun q => decide (q.1 = pl[i].1)) = true := by simpa [gE hlt] using c10
              unfold placeF; rw [h]; simp
            refine sw_seq (xr hP 9 rfl (sw_ret ⟨.inl rfl, _, rfl, ?_⟩))
            have hv := chk_hit hlt hgo hf
            simp [conj, ptrV, c1, c3, hsz, hv]
           ·have hf : placeF d (pl.take i) pl[i] = true := by
              have h : (pl.take i).any (fun q => decide (q.1 = pl[i].1)) = false := by simpa [gE hlt] using c10
              unfold placeF; rw [h, g10_4]; rfl
            refine sw_skip (xr hP 9 rfl (⟨i + 1, ?_, ?_, ent_ok rfl ?_⟩))
            ·exact ⟨hlt, chk_next hlt hgo hf⟩
            ·omega
            ·simp [conj]
         ·obtain rfl : i = pl.length := by simp at c8; omega
          refine sw_exit (sw_seq (xr hP 7 rfl (sw_ret ⟨.inl rfl, _, rfl, ?_⟩)))
          have hv := chk_end hgo
          simp [conj, ptrV, c1, c3, hsz, hv]
end Go.Sx

namespace Go.Sx
open Go Go.RowKit
theorem volOk_eq (s : Str) : Proofs.volOk (mkS s) = nameV s := by
 have h : (mkS s).size = s.length := rfl
 have h2 : (mkS s).data.toList = s := rfl
 unfold Proofs.volOk nameV inV
 rw [h, h2, show (fun c : UInt8 => decide (97 ≤ c.toNat) && decide (c.toNat ≤ 122)) = lower from rfl]
 congr 1
 cases s with
 | nil => rfl
 | cons a l =>
  have e1 : ((a :: l).length == 0) = false := rfl
  rw [e1]
  simp only [Bool.not_false, Bool.true_and, List.length_cons]
  have e2 : decide ((1 : Int) ≤ ((l.length + 1 : Nat) : Int)) = true := by simp; omega
  rw [e2, Bool.true_and]
  exact decide_eq_decide.2 (by omega)
theorem ctr_of_below {P : Program} {c : Ctr} {fn : Func} {body : Code} (hf : P.funcs[c.f]? = some fn) (hb : fn.body = some body) (hn : (fn.name == "runtime.NumGoroutine") = false) (href : noRefs c.ins = true)
  (h : ∀ G w args x, (∀ b, G.g b ≠ .no → b < w.heap.size) → Amb P G.g w → ArgsOk G w 0 c.ins x args → c.pre x → Calls P c.f args.toArray w fun e w' => ∃ v, e = .returned v ∧ Below w.heap.size w w' ∧ (∀ G', MtS G' w' (c.post x).1 v) ∧ (c.post x).2 = []) : @CtrOk P (loneJ P) c := by
 intro G V w args x hbnd hlv ham hargs hpre
 have hrun : (callFunc c.f args.toArray).run P w = .ok (.enter c.f args.toArray) w := by
  have hn' : ¬ fn.name = "runtime.NumGoroutine" := by simpa using hn
  simp [callFunc, hf, hn', hb]
 refine ⟨_, _, hrun, .inr (.inl ⟨rfl, ?_⟩)⟩
 intro cs
 obtain ⟨e, w', fr, ⟨v, rfl, hB, hm, hp⟩, h1, h2, h3⟩ := h G w args x hbnd ham hargs hpre cs
 refine ⟨_, w', fr, ?_, h1, h2, h3⟩
 let G' : Gh := ⟨fun _ => .bool false, G.g⟩
 have hk : ∀ b, G.g b ≠ .no → w'.heap[b]? = w.heap[b]? := fun b hb => hB.block b (hbnd b hb)
 refine ⟨fun _ => True, G', fun _ _ _ => trivial, ⟨fun _ h => h.elim, ⟨fun b hb => ⟨hb, hk b (by rw [hb]; simp)⟩, fun b hb => ⟨hb, hk b (by rw [hb]; simp)⟩⟩, fun b j q hg _ => ⟨hg, hk b (by rw [hg]; simp)⟩, fun b hlt hb => ⟨hB.block b hlt, hb⟩, fun b hb => Nat.lt_of_lt_of_le (hbnd b hb) hB.size, fun _ _ => rfl, hB.os, hB.tape, hB.output, hB.size, fun _ _ h => h⟩, fun _ => rfl, ?_, hm G', ?_⟩
 ·rw [noRefs_ptr href]; intro p hp; cases hp
 ·rw [hp]; intro i R hi; cases hi
def cVol : Ctr := ⟨212, [.val false .str pF], fun _ => True, fun x => (sBool (nameV x.1), [])⟩
theorem cVol_ok : CtrOk Proofs.Tryz.prog cVol := by
 refine ctr_of_below (fn := Proofs.Tryz.f212) Proofs.Tryz.func212 rfl rfl rfl ?_
 rintro G w args ⟨(s : Str), ⟨⟩⟩ _ _ ⟨v, vs, rfl, ⟨_, cs, rfl, _, ⟨rfl, hl⟩⟩, rfl⟩ _
 have h := Proofs.vol212_in Fence.wide 3 trivial trivial trivial rfl (Nat.le_refl _) (mkS s) (by exact hl) w
 refine (callsIn_wide.1 h).mono ?_
 rintro e w' ⟨rfl, hB⟩
 refine ⟨_, rfl, hB, fun G' => ?_, rfl⟩
 rw [volOk_eq]
 exact MtS.ofBool
end Go.Sx

namespace Go.Sx
open Go Go.RowKit
theorem weighGo_app : ∀ (l : Str) (i : Nat) (c : UInt8), weighGo (l ++ [c]) i = weighGo l i + (c.toNat : Int) * (65536 + ((i + l.length : Nat) : Int) + 1) := by
 intro l
 induction l with
 | nil => intro i c; simp [weighGo]
 | cons a l ih =>
  intro i c
  simp only [List.cons_append, weighGo, ih, List.length_cons]
  rw [show i + 1 + l.length = i + (l.length + 1) by omega]
  omega
theorem weiS_weigh (l : Str) (hl : l.length ≤ 1000000) : ∀ k, k ≤ l.length → Proofs.weiS (Proofs.weiUp (mkS l) k) = weighGo (l.take k) 0 := by
 intro k
 induction k with
 | zero => intro _; rfl
 | succ k ih =>
  intro hk
  have hlt : k < l.length := hk
  rw [Proofs.weiUp, Proofs.volUp_succ, Proofs.weiS_add, List.take_succ_eq_append_getElem hlt, weighGo_app, ← ih (by omega)]
  have e1 : (Proofs.weiF (mkS l) k).val = (k, l[k]) := by
   show (min k 999999, (mkS l).data[k]?.getD 0) = _
   have : (mkS l).data[k]? = some l[k] := by simp [mkS, hlt]
   rw [this]
   simp
   omega
  rw [e1, List.length_take]
  simp only
  rw [show ((0 + min k l.length : Nat) : Int) = (k : Int) by omega]
  rw [Proofs.weiUp]
  congr 1
def cWeigh : Ctr := ⟨152, [.val false .str pF], fun x => List.length x.1 ≤ 1000000, fun x => (sInt .i64 (weighV x.1), [])⟩
theorem weighV_bd {s : Str} (h : s.length ≤ 1000000) : 0 ≤ weighV s ∧ weighV s ≤ (s.length : Int) * 300000000 := by
 have h1 := weiS_weigh s h s.length (Nat.le_refl _)
 rw [List.take_length] at h1
 have h2 := Proofs.weiS_bd _ (Proofs.weiUp (mkS s) s.length) rfl
 rw [h1] at h2
 rw [show (Proofs.weiUp (mkS s) s.length).length = s.length from Proofs.volUp_length _ _] at h2
 exact h2
theorem cWeigh_ok : CtrOk Proofs.Tryz.prog cWeigh := by
 refine ctr_of_below (fn := Proofs.Tryz.f152) Proofs.Tryz.func152 rfl rfl rfl ?_
 rintro G w args ⟨(s : Str), ⟨⟩⟩ _ _ ⟨v, vs, rfl, ⟨_, cs, rfl, _, ⟨rfl, hl⟩⟩, rfl⟩ hpre
 replace hpre : s.length ≤ 1000000 := hpre
 have h := Proofs.wei_in Fence.wide 3 trivial trivial trivial rfl (Nat.le_refl _) (mkS s) (by exact hpre) w
 refine (callsIn_wide.1 h).mono ?_
 rintro e w' ⟨rfl, hB⟩
 refine ⟨_, rfl, hB, fun G' => ?_, rfl⟩
 rw [show (mkS s).size = s.length from rfl, weiS_weigh s hpre _ (Nat.le_refl _), List.take_length]
 have := weighV_bd hpre
 show MtS G' w' (sInt .i64 (weighV s)) (.int .i64 (weighV s))
 exact .ofInt (by rw [inR_i64]; omega)
theorem grown_below (w : World) (k : Nat) (os : Array Obj) : Below w.heap.size w (Sort.grow (w.drewN k) os) :=
 ⟨rfl, rfl, rfl, by show w.heap.size ≤ (w.heap ++ os).size; rw [Array.size_append]; omega, fun j hj => by
  show (w.heap ++ os)[j]? = w.heap[j]?
  exact Array.getElem?_append_left hj⟩
end Go.Sx
