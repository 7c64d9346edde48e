/- Several texts, one behind the other. -/
import Derived.Test.YtkbgdpdldoopmaaGreatDoorSxZ
import Derived.SizedLaws
import Derived.OpenShut
import Derived.Test.YtkbgdpdldoopmaaGreatDoorSxTtoSxY
import GoSem.ClaimWide
import Derived.WideShapes
import Derived.Handed
import Derived.Shelf.Vars
import Derived.RowKitTokens
import Derived.ChangeVars
import Derived.Test.YtkbgdpdldoopmaaGreatDoorProg
import Derived.Lib.ItoaLen
import Derived.Lib.Join
set_option linter.all false
/- An argument, as the form reads it, in the shapes of Sx. -/
namespace Go.Sx
open Go Go.RowKit
section
variable {P : Program} {tt : TT} {G : Gh} {w : World}
theorem fldChk_pr {a b : Ty} {n : Nat} : ∀ {r : List TypeId} {f : Nat}, fldChk tt (.pr a b) (n + 2) (f + 1) r = fldChk tt b (n + 1) f r := by
  intro r
  induction r with
  | nil => intro f; rfl
  | cons t r ih =>
    intro f
    simp only [fldChk, ih]
    rw [show (fieldTy (.pr a b) pF (n + 2) (f + 1) 0).1 = (fieldTy b pF (n + 1) f 0).1 from fieldTy_ty b pF.r pF (n + 1) f _ 0]
theorem st_tr : ∀ (n : Nat) (T : Ty) (fts : List TypeId) (cs : List Value), fts.length = n + 1 → fldChk tt T (n + 1) 0 fts = true → cs.length = T.size →
    (∀ (f : Nat) (t : TypeId) (te : TE), fts[f]? = some t → ttOf tt t = some te → ∃ y, ∀ id p, Tr G w te.T pF id p ((cs.drop (fieldOff T (n + 1) f)).take te.T.size) y) → ∃ y, ∀ id p, Tr G w T pF id p cs y := by
  have base : ∀ (n : Nat) (T : Ty) (fts : List TypeId) (cs : List Value), fts.length = n + 1 → fldChk tt T (n + 1) 0 fts = true → cs.length = T.size → (fieldTy T pF (n + 1) 0 0).1 = T → fieldOff T (n + 1) 0 = 0 →
      (∀ (f : Nat) (t : TypeId) (te : TE), fts[f]? = some t → ttOf tt t = some te → ∃ y, ∀ id p, Tr G w te.T pF id p ((cs.drop (fieldOff T (n + 1) f)).take te.T.size) y) → ∃ y, ∀ id p, Tr G w T pF id p cs y := by
    intro n T fts cs hlen hchk hcs hT hoff h
    cases fts with
    | nil => cases hlen
    | cons t r =>
      simp only [fldChk, Bool.and_eq_true, hT] at hchk
      obtain ⟨te, hte, hteT, _⟩ := elChk_spec hchk.1
      obtain ⟨y, hy⟩ := h 0 t te rfl hte
      subst hteT
      refine ⟨y, fun id p => ?_⟩
      have := hy id p
      rw [hoff, List.drop_zero, List.take_of_length_le (Nat.le_of_eq hcs)] at this
      exact this
  intro n
  induction n with
  | zero => intro T fts cs h1 h2 h3 h4; exact base 0 T fts cs h1 h2 h3 (by cases T <;> rfl) (by cases T <;> rfl) h4
  | succ n ih =>
    intro T fts cs h1 h2 h3 h4
    cases T with
    | pr a b =>
      cases fts with
      | nil => cases h1
      | cons t r =>
        simp only [fldChk, Bool.and_eq_true] at h2
        obtain ⟨te, hte, hteT, _⟩ := elChk_spec h2.1
        obtain ⟨y, hy⟩ := h4 0 t te rfl hte
        have ha : te.T = a := hteT
        obtain ⟨z, hz⟩ := ih b r (cs.drop a.size) (by simpa using h1) (by rw [← fldChk_pr (a := a)]; exact h2.2) (by rw [List.length_drop, h3]; simp [Ty.size]) fun f t' te' hf hte' => by
          obtain ⟨u, hu⟩ := h4 (f + 1) t' te' (by simpa using hf) hte'
          refine ⟨u, fun id p => ?_⟩
          have := hu id p
          rw [show fieldOff (.pr a b) (n + 1 + 1) (f + 1) = a.size + fieldOff b (n + 1) f by
            show (fieldTy b pF (n + 1) f (0 + a.size)).2.2 = _
            rw [fieldTy_off, Nat.zero_add]] at this
          rwa [List.drop_drop]
        subst ha
        refine ⟨(y, z), fun id p => ⟨cs.take te.T.size, cs.drop te.T.size, (List.take_append_drop _ _).symm, ?_, hz id (p ++ [1])⟩⟩
        have := hy id (p ++ [0])
        rwa [show fieldOff (.pr te.T b) (n + 1 + 1) 0 = 0 from rfl, List.drop_zero] at this
    | _ => exact base (n + 1) _ fts cs h1 h2 h3 rfl rfl h4
theorem cellsAt_of {C : Array Value} {o n : Nat} {cs : List Value} (hl : cs.length = n) (h : ∀ i, i < n → C[o + i]? = cs[i]?) : cellsAt C o n = cs := by
  apply List.ext_getElem?
  intro i
  unfold cellsAt
  by_cases hi : i < n
  · rw [List.getElem?_take_of_lt hi, List.getElem?_drop, Array.getElem?_toList]
    exact h i hi
  · rw [List.getElem?_eq_none (by rw [List.length_take]; omega), List.getElem?_eq_none (by omega)]
theorem weightsAll_mem {H : Type} {e : TypeId} : ∀ {ds : List (DataW H)} {d : DataW H}, d ∈ ds → ∀ n ∈ d.weights P e, n ∈ DataW.weightsAll P e ds := by
  intro ds
  induction ds with
  | nil => intro d h; cases h
  | cons a r ih =>
    intro d h n hn
    simp only [DataW.weightsAll, List.mem_append]
    rcases List.mem_cons.1 h with rfl | h
    · exact .inl hn
    · exact .inr (ih h n hn)
theorem cellsOf_at (T : TtOk P tt) {t : TypeId} {te : TE} (h : ttOf tt t = some te) : P.cellsOf t = te.T.size := by
  obtain ⟨i, hi, _, hs, _⟩ := info_at T h
  simp [Program.cellsOf, hi, hs]
theorem bytesOf_at (T : TtOk P tt) {t : TypeId} {te : TE} (h : ttOf tt t = some te) : P.bytesOf t = te.by_ := by
  obtain ⟨i, hi, _, _, hb⟩ := info_at T h
  simp [Program.bytesOf, hi, hb]
/-- no pointer is reached from a value of the type -/
def noPtT (tt : TT) : Nat → TypeId → Bool
  | 0, _ => false
  | m + 1, t => match ttOf tt t with
    | none => false
    | some te => (match te.fts with
      | [] => (match te.T with
        | .sl _ | .arr _ _ => noPtT tt m te.el
        | .pt | .er => false
        | _ => true)
      | a :: r => (a :: r).all (noPtT tt m))
theorem tr_of_trod {H : Type} {enc : TypeId × Value → H} (T : TtOk P tt) (hby : (tt.all fun te => Nat.blt 0 te.by_) = true) (hper : ∀ b, b < w.heap.size → G.g b = .per) :
    ∀ (fuel : Nat) (m : Nat) (t : TypeId) (te : TE) (cs : List Value) (x : DataW H × List MemPlace), noPtT tt m t = true → ttOf tt t = some te → DataW.trod enc P w 0 (fun _ => true) true fuel t cs = some x → (∀ n ∈ x.1.weights P t, n ≤ reachBytes) →
      ∃ y, ∀ id p, Tr G w te.T pF id p cs y := by
  intro fuel
  induction fuel with
  | zero => intro m t te cs x _ _ h; simp [DataW.trod] at h
  | succ fuel ih =>
    intro m t te cs x hnp ht h hwt
    cases m with
    | zero => cases hnp
    | succ m =>
    unfold noPtT at hnp
    rw [ht] at hnp
    simp only at hnp
    obtain ⟨d, hd, hdi⟩ := und_at T ht
    obtain ⟨hok, _, hchk⟩ := T.at ht
    have hrl := reachBytes_lt
    unfold teChk at hchk
    unfold TE.di at hdi
    cases hf : te.fts with
    | nil =>
      rw [hf] at hchk hdi hnp
      simp only at hchk hdi hnp
      cases hT : te.T with
      | int k =>
        rw [hT] at hdi
        have hu : P.underlying t = some (.int k) := by rw [hd]; cases d <;> simp [dinfo] at hdi; rw [hdi]
        obtain ⟨n, rfl, _, hwf⟩ := DataW.trod_int hu h
        exact ⟨n, fun _ _ => ⟨rfl, by simp only [Lit.wf, Bool.and_eq_true, decide_eq_true_eq] at hwf; exact hwf⟩⟩
      | bool =>
        rw [hT] at hdi
        have hu : P.underlying t = some .bool := by rw [hd]; cases d <;> simp [dinfo] at hdi; rfl
        obtain ⟨b, rfl, _⟩ := DataW.trod_bool hu h
        exact ⟨b, fun _ _ => rfl⟩
      | str =>
        rw [hT] at hdi
        have hu : P.underlying t = some .string := by rw [hd]; cases d <;> simp [dinfo] at hdi; rfl
        obtain ⟨b, rfl, rfl, _⟩ := DataW.trod_string hu h
        have := hwt b.data.toList.length (by simp [DataW.weights])
        exact ⟨b.data.toList, fun _ _ => ⟨rfl, by show _ ≤ 140737488355328; omega⟩⟩
      | sl e =>
        rw [hT] at hdi hchk hnp
        have hu : P.underlying t = some (.slice te.el) := by rw [hd]; cases d <;> simp [dinfo] at hdi; rw [hdi]
        obtain ⟨te', hte', he', hsz⟩ := elChk_spec hchk
        subst he'
        have hco := cellsOf_at T hte'
        have hbo := bytesOf_at T hte'
        have hb1 : 0 < te'.by_ := by have := List.all_eq_true.1 hby te' (ttOf_mem hte').1; simpa [Nat.blt_eq] using this
        rcases DataW.trod_slice hu h with ⟨rfl, _⟩ | ⟨a, len, cap, elems, rest, n, hn, rfl, rfl, _, hlc, _, hlen, hel, hsp, _⟩
        · exact ⟨[], fun _ _ => ⟨none, 0, 0, rfl, rfl, Nat.le_refl _, Nat.zero_le _, fun _ => noO_p _, .inl ⟨fun _ => rfl, rfl⟩⟩⟩
        · cases hn
          obtain ⟨hrl2, hrest⟩ := hsp rfl
          have hw0 := hwt ((elems.length + rest.length) * P.bytesOf te.el) (by simp [DataW.weights, hu])
          have hcap : cap ≤ maxL := by
            show cap ≤ 140737488355328
            rw [hlen, hrl2, hbo] at hw0
            have : cap * 1 ≤ cap * te'.by_ := Nat.mul_le_mul_left _ hb1
            have : len + (cap - len) = cap := by omega
            rw [this] at hw0
            omega
          -- every place's cells
          have hall : ∀ i, i < cap → ∃ cs', w.cells? 0 (a.add (i * te'.T.size)) te'.T.size = some cs' := by
            intro i hi
            by_cases hil : i < len
            · have := hel i hil
              rw [hco, List.getElem?_eq_getElem (by omega)] at this
              obtain ⟨cs', h1, _⟩ := Option.bind_eq_some_iff.1 this
              exact ⟨cs', h1⟩
            · have := hrest (i - len) (by omega)
              rw [hco, List.getElem?_eq_getElem (by omega), show len + (i - len) = i by omega] at this
              obtain ⟨cs', h1, _⟩ := Option.bind_eq_some_iff.1 this
              exact ⟨cs', h1⟩
          have hels : ∀ i, i < len → ∃ y, ∃ cs', w.cells? 0 (a.add (i * te'.T.size)) te'.T.size = some cs' ∧ ∀ id p, Tr G w te'.T pF id p cs' y := by
            intro i hi
            have := hel i hi
            rw [hco, List.getElem?_eq_getElem (by omega)] at this
            obtain ⟨cs', h1, h2⟩ := Option.bind_eq_some_iff.1 this
            obtain ⟨y, hy⟩ := ih m te.el te' cs' _ hnp hte' h2 fun m hm => hwt m (by
              simp only [DataW.weights, hu, List.mem_cons, List.mem_append]
              exact .inr (.inl (weightsAll_mem (List.mem_map.2 ⟨_, List.getElem_mem (by omega), rfl⟩) m hm)))
            exact ⟨y, cs', h1, hy⟩
          by_cases hc0 : cap = 0
          · subst hc0
            have : len = 0 := by omega
            subst this
            exact ⟨[], fun _ _ => ⟨some a, 0, 0, rfl, rfl, Nat.le_refl _, Nat.zero_le _, fun _ => noO_p _, .inl ⟨(fun e => by cases e), rfl⟩⟩⟩
          · have hpos : 0 < te'.T.size := Nat.pos_of_ne_zero hsz
            obtain ⟨b, off, sp⟩ := a
            obtain ⟨c0, hc0'⟩ := hall 0 (by omega)
            obtain ⟨_, hl0, hcell0⟩ := World.cells?_some hc0'
            have h00 := hcell0 0 hpos
            rw [Nat.zero_mul, show (({ block := b, off := off, spot := sp } : Addr).add 0).add 0 = ⟨b, off, sp⟩ by simp [Addr.add], List.getElem?_eq_getElem (by omega)] at h00
            have hheap : ∃ C tt' fz, w.heap[b]? = some (.cells C tt' fz) ∧ sp = none := by
              unfold World.cell? at h00
              split at h00
              · rename_i C tt' fz hh
                refine ⟨C, tt', fz, hh, ?_⟩
                cases sp with
                | none => rfl
                | some _ => simp at h00
              · cases h00
            obtain ⟨C, tt', fz, hh, rfl⟩ := hheap
            have hC : ∀ i cs', w.cells? 0 ((⟨b, off, none⟩ : Addr).add (i * te'.T.size)) te'.T.size = some cs' → cs'.length = te'.T.size ∧ ∀ k, k < te'.T.size → C[off + i * te'.T.size + k]? = cs'[k]? := by
              intro i cs' hcs
              obtain ⟨_, hl1, hc1⟩ := World.cells?_some hcs
              refine ⟨hl1, fun k hk => ?_⟩
              have := hc1 k hk
              rw [addr_add, addr_add] at this
              rw [← this, World.cell?, hh]
              rfl
            have hsize : off + cap * te'.T.size ≤ C.size := by
              obtain ⟨c1, hc1⟩ := hall (cap - 1) (by omega)
              obtain ⟨hl1, hg⟩ := hC _ _ hc1
              have := hg (te'.T.size - 1) (by omega)
              rw [List.getElem?_eq_getElem (by omega)] at this
              have h3 := (Array.getElem?_eq_some_iff.1 this).1
              have h4 : cap * te'.T.size = (cap - 1) * te'.T.size + te'.T.size := by
                rw [← Nat.succ_mul]; congr 1; omega
              omega
            have hlsz : off + len * te'.T.size ≤ C.size := by
              have := Nat.mul_le_mul_right te'.T.size hlc
              omega
            refine ⟨(List.range len).map fun i => if h : i < len then Classical.choose (hels i h) else te'.T.dflt, fun id p => ⟨some ⟨b, off, none⟩, len, cap, rfl, by simp, hlc, Nat.le_trans hlc hcap, fun _ => noO_p _, .inr ⟨b, off, C, tt', fz, rfl, hper b (Array.getElem?_eq_some_iff.1 hh).1, hh, hlsz, (fun e => by cases e), fun j y hy => ?_⟩⟩⟩
            rw [List.getElem?_map, Option.map_eq_some_iff] at hy
            obtain ⟨i, hi, rfl⟩ := hy
            have hil := (List.getElem?_eq_some_iff.1 hi).1
            rw [List.length_range] at hil
            rw [List.getElem?_range hil] at hi
            cases hi
            rw [dif_pos hil]
            obtain ⟨cs', h1, h2⟩ := Classical.choose_spec (hels j hil)
            obtain ⟨hl1, hg⟩ := hC _ _ h1
            rw [cellsAt_of hl1 hg]
            exact h2 id _
      | arr n e =>
        rw [hT] at hdi hchk hnp
        have hu : P.underlying t = some (.array n te.el) := by rw [hd]; cases d <;> simp [dinfo] at hdi; obtain ⟨rfl, rfl⟩ := hdi; rfl
        obtain ⟨te', hte', he', hsz⟩ := elChk_spec hchk
        subst he'
        have hco := cellsOf_at T hte'
        have hct := cellsOf_at T ht
        rw [hT] at hct
        obtain ⟨xs, m, hn, rfl, hlen, hxl, hel⟩ := DataW.trod_array hu h
        cases hn
        have hels : ∀ i, i < n → ∃ y, ∀ id p, Tr G w te'.T pF id p ((cs.drop (i * te'.T.size)).take te'.T.size) y := by
          intro i hi
          have := hel i hi
          rw [hco, List.getElem?_eq_getElem (by omega)] at this
          exact ih m te.el te' _ _ hnp hte' this fun k hk => hwt k (by
            simp only [DataW.weights, hu]
            exact weightsAll_mem (List.mem_map.2 ⟨_, List.getElem_mem (by omega), rfl⟩) k hk)
        refine ⟨(List.range n).map fun i => if h : i < n then Classical.choose (hels i h) else te'.T.dflt, fun id p => ⟨by rw [hlen, hct]; rfl, by simp, fun j y hy => ?_⟩⟩
        rw [List.getElem?_map, Option.map_eq_some_iff] at hy
        obtain ⟨i, hi, rfl⟩ := hy
        have hil := (List.getElem?_eq_some_iff.1 hi).1
        rw [List.length_range] at hil
        rw [List.getElem?_range hil] at hi
        cases hi
        rw [dif_pos hil]
        exact Classical.choose_spec (hels j hil) default []
      | pr a b => rw [hT] at hchk; cases hchk
      | pt => rw [hT] at hnp; cases hnp
      | er => rw [hT] at hnp; cases hnp
    | cons t0 r =>
      rw [hf] at hchk hdi hnp
      simp only at hchk hdi hnp
      have hu : ∃ fs : Array Field, P.underlying t = some (.struct fs) ∧ fs.toList.map (fun f => (f.offset, f.type)) = offsFrom te.T te.nf 0 (t0 :: r) := by
        rw [hd]; cases d <;> simp [dinfo] at hdi; exact ⟨_, rfl, hdi⟩
      obtain ⟨fs, hu, hfs⟩ := hu
      have hnf := hok.nf
      rw [hf] at hnf
      have hct := cellsOf_at T ht
      obtain ⟨xs, n, hn, rfl, hlen, hxl, hel⟩ := DataW.trod_struct hu h
      cases hn
      have hoffs : ∀ (l : List TypeId) (k j : Nat) (t' : TypeId), l[j]? = some t' → (offsFrom te.T te.nf k l)[j]? = some (fieldOff te.T te.nf (k + j), t') := by
        intro l
        induction l with
        | nil => intro k j t' h; cases h
        | cons a l ihl =>
          intro k j t' h
          cases j with
          | zero => simp only [List.getElem?_cons_zero, Option.some.injEq] at h; subst h; simp [offsFrom]
          | succ j =>
            simp only [List.getElem?_cons_succ] at h
            simp only [offsFrom, List.getElem?_cons_succ]
            rw [ihl (k + 1) j t' h]
            congr 3; omega
      refine st_tr r.length te.T (t0 :: r) cs (by simp) (by rw [← (by simpa using hnf : te.nf = r.length + 1)]; exact hchk) (by rw [hlen, hct]) fun f t' te' hft hte' => ?_
      have h1 := hoffs (t0 :: r) 0 f t' hft
      rw [← hfs, List.getElem?_map, Option.map_eq_some_iff] at h1
      obtain ⟨fd, hfd, hfe⟩ := h1
      simp only [Prod.mk.injEq, Nat.zero_add] at hfe
      have hfd' : fs[f]? = some fd := by rwa [Array.getElem?_toList] at hfd
      have := hel f fd hfd'
      have hfl : f < xs.length := by rw [hxl]; exact (Array.getElem?_eq_some_iff.1 hfd').1
      rw [hfe.1, hfe.2, cellsOf_at T hte', List.getElem?_eq_getElem hfl] at this
      rw [(by simpa using hnf : te.nf = r.length + 1)] at this
      exact ih m t' te' _ _ (List.all_eq_true.1 hnp t' (List.mem_of_getElem? hft)) hte' this fun k hk => hwt k (by
        simp only [DataW.weights, hu]
        refine DataW.weights_mem_each (j := f) (t := t') (d := (xs[f]).1) ?_ ?_ k hk
        · rw [List.getElem?_map, hfd]; simp [hfe.2]
        · rw [List.getElem?_map, List.getElem?_eq_getElem hfl]; rfl)
end
end Go.Sx

/- The reader, and texts drawn from it: plain law. -/
namespace Go.Sx
open Go

@[simp] theorem inR_i64 {n : Int} : inR .i64 n ↔ -9223372036854775808 ≤ n ∧ n ≤ 9223372036854775807 := by simp [inR, IntKind.min, IntKind.max, IntKind.signed, IntKind.bits]
@[simp] theorem inR_u8 {n : Int} : inR .u8 n ↔ 0 ≤ n ∧ n ≤ 255 := by simp [inR, IntKind.min, IntKind.max, IntKind.signed, IntKind.bits]
abbrev TB : Ty := .sl (.int .u8)
abbrev TI : Ty := .int .i64
abbrev Rd := List Int × Int
abbrev rdA (r : Rd) : Res := .var [.d TB pF r.1, .d TI pF r.2]
theorem rd_eta (R : Rd) : (R.1, R.2) = R := rfl
def BOk (b : List Int) : Prop := ∀ v ∈ b, 0 ≤ v ∧ v ≤ 255
/-- where the reader stands, within bounds -/
structure ROk (r : Rd) (m : Int) : Prop where
  b : BOk r.1
  len : r.1.length ≤ 2000
  p0 : 0 ≤ r.2
  p1 : r.2 + m ≤ 1099511627776
def pickX (b : List Int) (p : Int) : Int := b.getD (p.tmod b.length).toNat 0 * 131 + b.getD ((p * 7 + 3).tmod b.length).toNat 0 * 1117 + p * 29 + p.tdiv b.length * 53
def pickV (b : List Int) (p n : Int) : Int :=
  if n < 1 then 0 else if b.length = 0 then 0 else if p < b.length then (b.getD p.toNat 0).tmod n else (bitsOp .xor .i64 (pickX b p) ((pickX b p).tdiv 64)).tmod n
def pk (r : Rd) (n : Int) : Int := pickV r.1 r.2 n
def nx (r : Rd) : Rd := (r.1, r.2 + 1)
theorem ROk.nx {r : Rd} {m m' : Int} (h : ROk r m) (hm : m' + 1 ≤ m) : ROk (nx r) m' := ⟨h.b, h.len, by have := h.p0; simp only [Sx.nx]; omega, by have := h.p1; simp only [Sx.nx]; omega⟩
theorem ROk.le {r : Rd} {m m' : Int} (h : ROk r m) (hm : m' ≤ m) : ROk r m' := ⟨h.b, h.len, h.p0, by have := h.p1; omega⟩
theorem getD_b {b : List Int} (h : BOk b) (i : Nat) : 0 ≤ b.getD i 0 ∧ b.getD i 0 ≤ 255 := by
  rw [List.getD_eq_getElem?_getD]
  cases hc : b[i]? with
  | none => simp
  | some v => exact h v (List.mem_of_getElem? hc)
theorem pickX_bd {r : Rd} {m : Int} (h : ROk r m) (hm : 0 ≤ m) : 0 ≤ pickX r.1 r.2 ∧ pickX r.1 r.2 ≤ 1000000000000000 := by
  unfold pickX
  have h1 := getD_b h.b (r.2.tmod r.1.length).toNat
  have h2 := getD_b h.b ((r.2 * 7 + 3).tmod r.1.length).toNat
  have h0 := h.p0
  have h3 : 0 ≤ r.2.tdiv r.1.length ∧ r.2.tdiv r.1.length ≤ r.2 := ⟨Int.tdiv_nonneg h0 (Int.natCast_nonneg _), Int.tdiv_le_self _ h0⟩
  have h4 := h.p1
  omega
theorem xor_bd {x : Int} (h : 0 ≤ x) (h2 : x ≤ 1000000000000000) : 0 ≤ bitsOp .xor .i64 x (x.tdiv 64) := by
  have h3 : 0 ≤ x.tdiv 64 ∧ x.tdiv 64 ≤ x := ⟨Int.tdiv_nonneg h (by omega), Int.tdiv_le_self _ h⟩
  obtain ⟨a, rfl⟩ := Int.eq_ofNat_of_zero_le h
  obtain ⟨c, hc⟩ := Int.eq_ofNat_of_zero_le h3.1
  rw [hc]
  have ha : a < 2 ^ 63 := by simp only [Nat.reducePow]; omega
  have hc' : c < 2 ^ 63 := by simp only [Nat.reducePow]; omega
  have e1 : (BitVec.ofInt 64 (a : Int)).toNat = a := by rw [BitVec.toNat_ofInt]; simp only [Nat.reducePow] at ha ⊢; omega
  have e2 : (BitVec.ofInt 64 (c : Int)).toNat = c := by rw [BitVec.toNat_ofInt]; simp only [Nat.reducePow] at hc' ⊢; omega
  have hx := Nat.xor_lt_two_pow ha hc'
  have hb : bitsOp .xor .i64 (a : Int) (c : Int) = IntKind.wrap .i64 ((BitVec.ofInt 64 (a : Int)).toNat ^^^ (BitVec.ofInt 64 (c : Int)).toNat : Nat) := by
    show IntKind.wrap .i64 ((BitVec.ofInt 64 (a : Int) ^^^ BitVec.ofInt 64 (c : Int)).toNat : Nat) = _
    rw [BitVec.toNat_xor]
  rw [hb, e1, e2, wrap_in]
  · omega
  · simp only [inR, IntKind.min, IntKind.max, IntKind.signed, IntKind.bits]
    simp only [Nat.reducePow] at hx
    constructor <;> simp <;> omega
theorem pk_bd {r : Rd} {m n : Int} (h : ROk r m) (hm : 0 ≤ m) (hn : 1 ≤ n) : 0 ≤ pk r n ∧ pk r n < n := by
  unfold pk pickV
  rw [if_neg (by omega)]
  split
  · omega
  · split
    · exact ⟨Int.tmod_nonneg _ (getD_b h.b _).1, Int.tmod_lt_of_pos _ (by omega)⟩
    · have h1 := pickX_bd h hm
      exact ⟨Int.tmod_nonneg _ (xor_bd h1.1 h1.2), Int.tmod_lt_of_pos _ (by omega)⟩


theorem tmod_ix {a n : Int} (h : 0 ≤ a) (hn : 0 < n) : 0 ≤ a.tmod n ∧ a.tmod n < n := ⟨Int.tmod_nonneg _ h, Int.tmod_lt_of_pos _ hn⟩
theorem getD_b' {b : List Int} (h : BOk b) (i : Nat) : 0 ≤ b[i]?.getD 0 ∧ b[i]?.getD 0 ≤ 255 := by rw [← List.getD_eq_getElem?_getD]; exact getD_b h i
def textGo : Nat → Rd → List Int → List Int × Rd
  | 0, r, out => (out, r)
  | k + 1, r, out => textGo k (nx (nx r)) (out ++ [(([97, 98, 122, 0, 255, 128] : List Int).getD (pk r 6).toNat 0 + pk (nx r) 3) % 256])
def textV (r : Rd) (most : Int) : Str := ofBytes (textGo (pk r (most + 1)).toNat (nx r) []).1
def textR (r : Rd) (most : Int) : Rd := (textGo (pk r (most + 1)).toNat (nx r) []).2
theorem textGo_len : ∀ (k : Nat) (r : Rd) (out : List Int), (textGo k r out).1.length = out.length + k := by
  intro k
  induction k with
  | zero => intro r out; rfl
  | succ k ih => intro r out; simp only [textGo]; rw [ih]; simp; omega
theorem textGo_rd : ∀ (k : Nat) (r : Rd) (out : List Int), (textGo k r out).2 = (r.1, r.2 + 2 * k) := by
  intro k
  induction k with
  | zero => intro r out; simp [textGo]
  | succ k ih => intro r out; simp only [textGo]; rw [ih]; simp [nx]; omega
theorem textV_len {r : Rd} {m most : Int} (h : ROk r m) (hm : 0 ≤ m) (h0 : 0 ≤ most) : ((textV r most).length : Int) ≤ most := by
  unfold textV ofBytes
  rw [List.length_map, textGo_len]
  have := pk_bd h hm (n := most + 1) (by omega)
  simp
  omega
theorem textR_ok {r : Rd} {m m' most : Int} (h : ROk r m) (hm : 0 ≤ m) (h0 : 0 ≤ most) (hm' : m' + 1 + 2 * most ≤ m) : ROk (textR r most) m' := by
  unfold textR
  rw [textGo_rd]
  have := pk_bd h hm (n := most + 1) (by omega)
  have h0 := h.p0
  have h1 := h.p1
  refine ⟨h.b, h.len, ?_, ?_⟩ <;> simp only [nx] <;> omega


end Go.Sx

/- From a contract to the call that a statement speaks of. -/
namespace Go.Sx
open Go Go.RowKit
theorem rowAt_off {P : Program} {fits : TypeId → Bool} : ∀ {d : Nat} {e : TypeId} {count off n : Nat}, rowAt P fits d e count off n = true → off ≤ count * P.cellsOf e := by
  intro d e count off n h
  cases d with
  | zero => simp [rowAt] at h
  | succ d =>
    unfold rowAt at h
    simp only at h
    split at h
    · cases h
    · rename_i hs
      have hm := Nat.div_add_mod off (P.cellsOf e)
      have hlt := Nat.mod_lt off (Nat.pos_of_ne_zero hs)
      rcases Bool.or_eq_true _ _ ▸ h with h1 | h1
      · simp only [Bool.and_eq_true, beq_iff_eq, decide_eq_true_eq] at h1
        have h2 : off / P.cellsOf e ≤ count := by omega
        have h3 := Nat.mul_le_mul_right (P.cellsOf e) h2
        rw [Nat.mul_comm (off / P.cellsOf e)] at h3
        omega
      · simp only [Bool.and_eq_true, decide_eq_true_eq] at h1
        have h2 : off / P.cellsOf e + 1 ≤ count := by omega
        have h3 := Nat.mul_le_mul_right (P.cellsOf e) h2
        rw [Nat.add_mul, Nat.one_mul, Nat.mul_comm (off / P.cellsOf e)] at h3
        omega
theorem has_off {P : Program} {w : World} {r : Reach} {base : Nat} {a : Addr} {e : TypeId} {n : Nat} {k : IntKind} (he : P.underlying e = some (.int k)) (h : w.has P r base a e n) : a.spot = none ∧ ∃ C t fz, w.heap[a.block]? = some (.cells C t fz) ∧ a.off ≤ C.size := by
  obtain ⟨_, hs, row, cells, hsh, hl⟩ := h
  refine ⟨hs, ?_⟩
  unfold World.shape? at hsh
  split at hsh
  · rename_i C t fz hh
    cases hsh
    refine ⟨C, row, fz, hh, ?_⟩
    unfold liesAt at hl
    split at hl
    · cases hl
    · simp only [he, Bool.or_false] at hl
      exact Nat.le_trans (rowAt_off hl) (Nat.div_mul_le_self _ _)
  · cases hsh
/-- what the walk is told of a slice of bytes that came in -/
def IsRow (w : World) (a : Option Addr) (len cap : Nat) (zs : List Int) : Prop :=
  (a = none ∧ len = 0 ∧ cap = 0 ∧ zs = []) ∨
  ∃ x, a = some x ∧ len ≤ cap ∧ cap ≤ maxL ∧ zs.length = cap ∧ (∀ i, i < zs.length → w.cell? (x.add i) = some (.int .u8 (zs.getD i 0))) ∧ (∀ n ∈ zs, (Lit.int .u8 n).wf = true) ∧ x.spot = none ∧ ∃ C t fz, w.heap[x.block]? = some (.cells C t fz) ∧ x.off ≤ C.size
theorem wf_u8 {n : Int} (h : (Lit.int .u8 n).wf = true) : inR .u8 n := by
  simp only [Lit.wf, Bool.and_eq_true, decide_eq_true_eq] at h
  exact h
end Go.Sx

/- From a law's contract to its call, arguments of any shapes. -/
namespace Go.Sx
open Go Go.RowKit
/-- everything that lies, lies for ever -/
def perG (w : World) : Gh := ⟨fun _ => .bool false, fun b => if b < w.heap.size then .per else .no⟩
def ArgIn (w : World) (te : TE) (v : Value) : Prop := v = mkV te.ag v.cells.toList ∧ (te.ag = false → v.cells.toList.length = 1) ∧ ∃ y, ∀ id p, Tr (perG w) w te.T pF id p v.cells.toList y
theorem mkV_one {v : Value} (h : ∀ cs, v ≠ .agg cs) : v = mkV false v.cells.toList ∧ v.cells.toList.length = 1 := by
  have hv : v.cells = #[v] := by cases v <;> first | rfl | exact absurd rfl (h _)
  exact ⟨by simp [mkV, hv], by simp [hv]⟩
theorem arg_in {P : Program} {tt : TT} {w : World} {H : Type} {enc : TypeId × Value → H} (T : TtOk P tt) (hby : (tt.all fun te => Nat.blt 0 te.by_) = true) {t : TypeId} {te : TE} (hnp : noPtT tt 30 t = true) (ht : ttOf tt t = some te) {v : Value} {r : Reach} {base : Nat} (hval : Value.okWide P w r base t v)
    {d : DataW H} {p : List MemPlace} (hd : DataW.Trod enc P w 0 (fun _ => true) true t v d p) (hwt : ∀ n ∈ d.weights P t, n ≤ reachBytes) : ArgIn w te v := by
  obtain ⟨fuel, hf⟩ := hd
  have htr := tr_of_trod (G := perG w) T hby (fun b hb => by simp [perG, hb]) fuel 30 t te _ _ hnp ht hf hwt
  obtain ⟨dd, hdd, hdi⟩ := und_at T ht
  obtain ⟨hok, _, _⟩ := T.at ht
  have hag := hok.ag
  rw [← hdi] at hag
  refine (fun h => ⟨h.1, h.2, htr⟩ : (v = mkV te.ag v.cells.toList ∧ (te.ag = false → v.cells.toList.length = 1)) → _) ?_
  have key : te.ag = false → (∀ cs, v ≠ .agg cs) → v = mkV te.ag v.cells.toList ∧ (te.ag = false → v.cells.toList.length = 1) := fun h h2 => by
    rw [h]; exact ⟨(mkV_one h2).1, fun _ => (mkV_one h2).2⟩
  unfold Value.okWide at hval
  rw [hdd] at hval
  cases dd with
  | struct fs =>
    obtain ⟨cs, rfl, _⟩ := hval
    have : te.ag = true := hag
    rw [this]; exact ⟨by simp [mkV, Value.cells], fun h => by cases h⟩
  | array n e =>
    obtain ⟨cs, rfl, _⟩ := hval
    have : te.ag = true := hag
    rw [this]; exact ⟨by simp [mkV, Value.cells], fun h => by cases h⟩
  | _ =>
    refine key hag fun cs hc => ?_
    subst hc
    simp only [Cell.okWide, hdd, Cell.ok] at hval
def valIns : List TE → List Mode
  | [] => []
  | te :: r => .val te.ag te.T pF :: valIns r
def ArgsIn (w : World) : List TE → List Value → Prop
  | [], vs => vs = []
  | te :: r, vs => ∃ v vs', vs = v :: vs' ∧ ArgIn w te v ∧ ArgsIn w r vs'
theorem args_ok {w : World} : ∀ {tes : List TE} {k : Nat} {vs : List Value}, ArgsIn w tes vs → ∃ x, ArgsOk (perG w) w k (valIns tes) x vs := by
  intro tes
  induction tes with
  | nil => intro k vs h; exact ⟨(), h⟩
  | cons te r ih =>
    intro k vs h
    obtain ⟨v, vs', rfl, ⟨h1, h2, y, h3⟩, h4⟩ := h
    obtain ⟨x, hx⟩ := ih (k := k + 1) h4
    exact ⟨(y, x), v, vs', rfl, ⟨noO_p te.T, _, h1, h2, h3 default []⟩, hx⟩
theorem amb_mk {P : Program} {w : World} (he : ErrOk (perG w).g w) (h : ∀ nm Q, (nm, Q) ∈ ambTab → ∀ b, P.globalNamed nm = some b → ∃ C t fz, w.heap[b]? = some (.cells C t fz) ∧ Q C.toList) : Amb P (perG w).g w := by
  refine ⟨?_, he⟩
  intro nm Q hm b hb
  obtain ⟨C, t, fz, h1, h2⟩ := h nm Q hm b hb
  have hlt : b < w.heap.size := by
    rcases Nat.lt_or_ge b w.heap.size with h | h
    · exact h
    · rw [Array.getElem?_eq_none h] at h1; cases h1
  exact ⟨.inr (by simp [perG, hlt]), C, t, fz, h1, h2⟩
theorem var_block {P : Program} {w : World} {nm : String} {cs : Array Value} {b : Nat} (hb : P.globalNamed nm = some b) (h : w.var? P nm = some cs) : ∃ C t fz, w.heap[b]? = some (.cells C t fz) ∧ C = cs := by
  unfold World.var? at h
  rw [hb] at h
  simp only [Option.bind_some] at h
  split at h
  · rename_i C t fz hh
    cases h
    exact ⟨_, _, _, hh, rfl⟩
  · cases h
theorem shaped_int {P : Program} {w : World} {g : Nat} {t : TypeId} {zero : Array Value} {k : IntKind}
    (h : w.ShapedOpen P) (hg : g < P.globals.size) (h0 : ((begin P (fun _ _ => 0) default).world.heap[g]?).bind Obj.row? = some (zero, t)) (hz : zero.size = 1)
    (hb : P.buildable t = true) (hc : P.cellTypes P.depth t = some [t]) (hu : P.underlying t = some (.int k)) : ∃ C t fz, w.heap[g]? = some (.cells C t fz) ∧ ∃ m, C.toList = [.int k m] := by
  obtain ⟨m, hm⟩ := Proofs.cell_of_shapedOpen_int h hg h0 hz hb hc hu
  obtain ⟨cs, hh, hs, _⟩ := h.1 g zero t hg h0
  refine ⟨cs, t, (0, 0), hh, m, ?_⟩
  have h1 : cs.toList.length = 1 := by rw [Array.length_toList]; omega
  have h2 : cs[0]? = some (.int k m) := by simpa [World.cell?, hh] using hm
  match hl : cs.toList, h1 with
  | [v], _ =>
    have : cs.toList[0]? = some (.int k m) := by rw [Array.getElem?_toList]; exact h2
    rw [hl] at this
    simpa using this
/-- the kit's law for rows that list variables, with the world's shape handed on -/
theorem returns_laid_shaped {H : Type} {enc : TypeId × Value → H} {a : Assume} {C : Checked} {os : Os} {f : FuncId} {fn : Func} {s : ChangeSpec} {conds : List PathCond} {apart fresh handsOn again : Bool} {X : World → Array Value → Prop}
    (hX : ∀ (w w' : World) (args : Array Value), w.heap = w'.heap → X w args → X w' args)
    (own : ownKnob C.prog.godebug = none) (started : os.Started) (noInit : C.prog.inits.idxOf? f = none) (hfn : C.prog.funcs[f]? = some fn)
    (witness : ∃ (w : World) (tape : Tape) (i : Input), w.os = os ∧ (w.forCall tape i).Shaped C.prog ∧ i.vars = [] ∧ Input.okWide C.prog (w.forCall tape i) .any w.heap.size f i ∧
      ((s.pre enc C.prog fn conds apart (w.forCall tape i).memory i.args ∧ X (w.forCall tape i).memory i.args) ∧ sizedMet enc C.prog fn (OpenSpec.ofChange s) apart (w.forCall tape i).memory i.args) ∧ a.holds C.prog (lone (Frame.enter C.prog f i.args .normal) [] (w.forCall tape i)))
    (contract : ∀ (W : World) (base : Nat) (args : Array Value) (ds gs : List (DataW H)) (before : List MemPlace),
      (∀ (j : Nat) t v, fn.params[j]? = some t → args[j]? = some v → Value.okWide C.prog W .any base t v) →
      DataW.Whole enc C.prog fn.params.toList s.vars apart W args.toList ds gs before →
      conds.all (PathCond.test C.prog ⟨fn.params.toList, ds, s.plain.varTypes C.prog, gs⟩) = true →
      (DataW.weightsEach C.prog (fn.params.toList ++ s.plain.varTypes C.prog) (ds ++ gs)).all (· ≤ reachBytes) = true → X W args → W.ShapedOpen C.prog →
      a.holds C.prog (lone (Frame.enter C.prog f args .normal) [] W) →
      Calls C.prog f args W fun e W' => ∃ v, e = .returned v ∧ s.post enc C.prog fn apart fresh handsOn again W args v W') :
    ReturnsInHanded a C os f .any (fun w args => (s.pre enc C.prog fn conds apart w args ∧ X w args) ∧ sizedMet enc C.prog fn (OpenSpec.ofChange s) apart w args) (s.post enc C.prog fn apart fresh handsOn again) := by
  refine returnsInHanded_of_calls own started noInit witness ?_
  intro w tape i _ hsh _ hok hpre hholds
  obtain ⟨_, _, _, fn', hfn', _, _, _, _, hval⟩ := hok
  have e : fn' = fn := Option.some.inj (hfn'.symm.trans hfn)
  subst e
  obtain ⟨⟨⟨ds, gs, before, hw, hc⟩, hx⟩, hz⟩ := hpre
  have hw' := DataW.Whole.of_heap (w' := w.forCall tape i) (by rfl) hw
  refine (contract (w.forCall tape i) w.heap.size i.args ds gs before hval hw' hc (hz.weights hw) (hX _ _ _ (by rfl) hx) hsh hholds).mono fun e W' ⟨v, he, hp⟩ => ?_
  subst he
  exact ChangeSpec.post_blind hp
theorem law_callsN {P : Program} {f : FuncId} {c : Ctr} {tes : List TE} (hc : c = ⟨f, valIns tes, fun _ => True, fun _ => (sBool true, [])⟩) (h : CtrOk P c) {fn : Func} {body : Code} (hf : P.funcs[f]? = some fn) (hb : fn.body = some body) (hn : (fn.name == "runtime.NumGoroutine") = false)
    (args : List Value) (w : World) (ham : Amb P (perG w).g w) (hw : ArgsIn w tes args) : Calls P f args.toArray w fun e w' => e = .returned (.bool true) ∧ Below w.heap.size w w' := by
  subst hc
  obtain ⟨x, hargs⟩ := args_ok (k := 0) hw
  have hbnd : ∀ b, (perG w).g b ≠ .no → b < w.heap.size := fun b hb => by
    by_cases h : b < w.heap.size
    · exact h
    · exact absurd (by simp [perG, h]) hb
  obtain ⟨n, w1, hrun, hres⟩ := h (perG w) w _ _ hbnd ham hargs trivial
  have hrun' : (callFunc f args.toArray).run P w = .ok (.enter f args.toArray) w := by
    have hn' : ¬ fn.name = "runtime.NumGoroutine" := by simpa using hn
    simp [callFunc, hf, hn', hb]
  have heq : (Result.ok n w1 : Result Next) = .ok (.enter f args.toArray) w := hrun.symm.trans hrun'
  injection heq with e1 e2
  subst e1; subst e2
  rcases hres with ⟨v, hv, _⟩ | ⟨_, hcalls⟩ | ⟨row, as_, hv, _⟩
  · cases hv
  · refine hcalls.mono ?_
    intro e w' he
    cases e with
    | returned v =>
      obtain ⟨G', hch, _, _, hm, _⟩ := he
      refine ⟨by rw [hm.boolV], hch.os, hch.tape, hch.output, hch.size, fun k hk => ?_⟩
      exact (hch.pb.per k (by simp [perG, hk])).2
    | panicked c => exact he.elim
    | outgrown => exact he.elim
  · cases hv
/-- a variable of an interface type reads behind the call as it read -/
theorem vars_after {H : Type} {enc : TypeId × Value → H} {P : Program} {W W' : World} {n : String} {g t : Nat} {csv : Array Value} {fuel : Nat} {d : DataW H} {p : List MemPlace} {ms : Array (String × TypeId)} {x : Value}
    (hg : P.globalNamed n = some g) (ht : (P.globals[g]?).map (·.type) = some t) (hv : W.var? P n = some csv) (hd : DataW.trod enc P W 0 (fun _ => true) true fuel t csv.toList = some (d, p)) (bel : Below W.heap.size W W')
    (hi : P.underlying t = some (.interface ms)) (hx : csv = #[x]) (ix : IsIface x) : DataW.TrodVars enc P W' (fun b => decide (b < W.heap.size)) [n] [d] (MemPlace.row ⟨g, 0, none⟩ csv.size ++ []) := by
  subst hx
  cases fuel with
  | zero => simp [DataW.trod] at hd
  | succ m =>
    rw [show (#[x] : Array Value).toList = [x] from rfl, trod_held hi ix m] at hd
    cases hd
    have hv' : W'.var? P n = some #[x] := by
      rw [← hv]
      unfold World.var?
      rw [hg]
      simp only [Option.bind_some]
      rw [bel.block g (by
        unfold World.var? at hv
        rw [hg] at hv
        simp only [Option.bind_some] at hv
        rcases Nat.lt_or_ge g W.heap.size with h | h
        · exact h
        · rw [Array.getElem?_eq_none h] at hv; cases hv)]
    exact Go.ChangeShapes.trodVars_mk1 hg ht hv' (trod_held hi ix m)
theorem err_mk {w : World} {C : Array Value} {t : TypeId} {fz : Nat × Nat} {A : Addr} (h : w.heap[errB]? = some (.cells C t fz)) (h2 : C.toList = [.iface errT (.pointer (some A))]) : ErrOk (perG w).g w := by
  have hlt : errB < w.heap.size := by
    rcases Nat.lt_or_ge errB w.heap.size with h' | h'
    · exact h'
    · rw [Array.getElem?_eq_none h'] at h; cases h
  exact ⟨by simp [perG, hlt], C, t, fz, A, h, h2⟩
end Go.Sx

namespace Go.Sx
open Go
set_option maxRecDepth 100000
set_option linter.unusedVariables false
set_option linter.unusedSimpArgs false
abbrev T_Place : Ty := (.pr (.int .i64) (.int .i64))
abbrev T_Ptr : Ty := (.pr (.int .i64) (.pr (.int .i64) (.sl T_Place)))
abbrev T_Vol : Ty := (.pr .str (.sl T_Ptr))
abbrev T_Root : Ty := (.pr (.int .i64) (.sl T_Vol))
abbrev T_rootReader : Ty := (.pr (.sl .str) .er)
abbrev T_l6Rd : Ty := (.pr (.sl (.int .u8)) (.int .i64))
def tt : TT := [⟨2, (.int .i64), false, 0, 0, 8, []⟩, ⟨3, (.int .i64), false, 0, 0, 8, []⟩, ⟨4, .bool, false, 0, 0, 1, []⟩, ⟨5, (.int .u8), false, 0, 0, 1, []⟩, ⟨6, (.int .u8), false, 0, 0, 1, []⟩, ⟨7, (.pr (.int .i64) (.pr (.int .i64) (.pr .bool (.int .u8)))), true, 4, 0, 24, [2, 3, 4, 6]⟩, ⟨8, (.pr (.int .i64) (.pr (.int .i64) (.pr .bool (.int .u8)))), true, 4, 0, 24, [2, 3, 4, 6]⟩, ⟨9, .str, false, 0, 0, 16, []⟩, ⟨10, .str, false, 0, 0, 16, []⟩, ⟨11, .str, false, 0, 0, 16, []⟩, ⟨12, (.int .u64), false, 0, 0, 8, []⟩, ⟨13, (.pr .str (.int .u64)), true, 2, 0, 24, [9, 12]⟩, ⟨14, (.pr .str (.int .u64)), true, 2, 0, 24, [9, 12]⟩, ⟨21, (.int .i32), false, 0, 0, 4, []⟩, ⟨22, (.sl (.int .u8)), false, 0, 5, 24, []⟩, ⟨23, (.sl T_Vol), false, 0, 53, 24, []⟩, ⟨24, (.pr (.int .i64) (.sl T_Vol)), true, 2, 0, 32, [3, 23]⟩, ⟨25, T_Root, true, 2, 0, 32, [3, 23]⟩, ⟨42, .pt, false, 0, 0, 8, []⟩, ⟨43, (.sl .str), false, 0, 9, 24, []⟩, ⟨46, .er, false, 0, 0, 16, []⟩, ⟨47, (.pr (.sl .str) .er), true, 2, 0, 40, [43, 46]⟩, ⟨48, T_rootReader, true, 2, 0, 40, [43, 46]⟩, ⟨51, (.sl T_Ptr), false, 0, 57, 24, []⟩, ⟨52, (.pr .str (.sl T_Ptr)), true, 2, 0, 40, [9, 51]⟩, ⟨53, T_Vol, true, 2, 0, 40, [9, 51]⟩, ⟨55, (.sl T_Place), false, 0, 63, 24, []⟩, ⟨56, (.pr (.int .i64) (.pr (.int .i64) (.sl T_Place))), true, 3, 0, 40, [3, 3, 55]⟩, ⟨57, T_Ptr, true, 3, 0, 40, [3, 3, 55]⟩, ⟨62, (.pr (.int .i64) (.int .i64)), true, 2, 0, 16, [3, 3]⟩, ⟨63, T_Place, true, 2, 0, 16, [3, 3]⟩, ⟨69, .pt, false, 0, 0, 8, []⟩, ⟨93, (.pr (.sl (.int .u8)) (.int .i64)), true, 2, 0, 32, [22, 3]⟩, ⟨94, T_l6Rd, true, 2, 0, 32, [22, 3]⟩, ⟨96, (.sl (.int .i64)), false, 0, 3, 24, []⟩, ⟨119, (.sl .er), false, 0, 46, 24, []⟩, ⟨142, (.arr 24 (.int .u8)), true, 0, 5, 24, []⟩, ⟨143, (.int .u64), false, 0, 0, 8, []⟩, ⟨149, (.int .u64), false, 0, 0, 8, []⟩, ⟨150, (.int .i64), false, 0, 0, 8, []⟩, ⟨157, (.arr 20 (.int .u64)), true, 0, 143, 160, []⟩, ⟨158, (.int .u32), false, 0, 0, 4, []⟩, ⟨159, (.arr 65 (.int .u8)), true, 0, 5, 65, []⟩, ⟨164, (.arr 256 (.int .u8)), true, 0, 5, 256, []⟩, ⟨165, (.pr (.int .u8) (.int .u8)), true, 2, 0, 2, [5, 5]⟩, ⟨166, (.pr (.int .u8) (.int .u8)), true, 2, 0, 2, [5, 5]⟩, ⟨167, (.arr 16 (.pr (.int .u8) (.int .u8))), true, 0, 166, 32, []⟩, ⟨173, (.pr .str (.pr .str .er)), true, 3, 0, 48, [9, 9, 46]⟩, ⟨174, (.pr .str (.pr .str .er)), true, 3, 0, 48, [9, 9, 46]⟩, ⟨180, .str, true, 1, 0, 16, [9]⟩, ⟨181, .str, true, 1, 0, 16, [9]⟩, ⟨182, (.arr 32 (.int .u8)), true, 0, 5, 32, []⟩, ⟨183, (.arr 64 (.int .u8)), true, 0, 5, 64, []⟩, ⟨190, (.int .u8), false, 0, 0, 1, []⟩, ⟨191, (.int .u8), false, 0, 0, 1, []⟩, ⟨193, (.int .i32), false, 0, 0, 4, []⟩, ⟨194, (.int .i32), false, 0, 0, 4, []⟩, ⟨203, (.pr .str (.int .u8)), true, 2, 0, 24, [9, 191]⟩, ⟨204, (.pr .str (.int .u8)), true, 2, 0, 24, [9, 191]⟩, ⟨207, (.int .u16), false, 0, 0, 2, []⟩, ⟨208, (.pr (.int .i32) (.pr (.int .u16) (.pr (.int .u16) (.pr (.int .u32) (.int .u32))))), true, 5, 0, 16, [193, 207, 207, 158, 158]⟩, ⟨209, (.pr (.int .i32) (.pr (.int .u16) (.pr (.int .u16) (.pr (.int .u32) (.int .u32))))), true, 5, 0, 16, [193, 207, 207, 158, 158]⟩, ⟨210, (.sl (.pr (.int .i32) (.pr (.int .i32) (.pr (.int .i32) (.int .i32))))), false, 0, 213, 24, []⟩, ⟨211, (.int .i32), false, 0, 0, 4, []⟩, ⟨212, (.pr (.int .i32) (.pr (.int .i32) (.pr (.int .i32) (.int .i32)))), true, 4, 0, 16, [193, 194, 211, 211]⟩, ⟨213, (.pr (.int .i32) (.pr (.int .i32) (.pr (.int .i32) (.int .i32)))), true, 4, 0, 16, [193, 194, 211, 211]⟩, ⟨22, (.sl (.int .u8)), false, 0, 5, 24, []⟩]
theorem ttok : TtOk Proofs.Tryz.prog tt := by
  refine ⟨?_, by kernel_rfl⟩
  intro te h
  simp only [tt, List.mem_cons, List.not_mem_nil, or_false] at h
  rcases h with rfl | rfl | rfl | rfl | rfl | rfl | rfl | rfl | rfl | rfl | rfl | rfl | rfl | rfl | rfl | rfl | rfl | rfl | rfl | rfl | rfl | rfl | rfl | rfl | rfl | rfl | rfl | rfl | rfl | rfl | rfl | rfl | rfl | rfl | rfl | rfl | rfl | rfl | rfl | rfl | rfl | rfl | rfl | rfl | rfl | rfl | rfl | rfl | rfl | rfl | rfl | rfl | rfl | rfl | rfl | rfl | rfl | rfl | rfl | rfl | rfl | rfl | rfl | rfl | rfl | rfl | rfl <;> exact ⟨by kernel_rfl, by kernel_rfl, by kernel_rfl, by kernel_rfl⟩
def mt : MT := [(60, 63, 57), (63, 63, 0)]
theorem mtok : MtOk Proofs.Tryz.prog mt := .cons (by kernel_rfl) (.eqs (by kernel_rfl) (.nil))
end Go.Sx

/- Lists searched: plain law. -/
namespace Go.Sx
open Go
theorem drop_at {α : Type} {l : List α} {i : Nat} (h : i < l.length) : l.drop i = l[i] :: l.drop (i + 1) := by simp
def idxFGo {α : Type} (p : α → Bool) : List α → Nat → Int
  | [], _ => -1
  | s :: r, i => if p s then (i : Int) else idxFGo p r (i + 1)
def idxF {α : Type} (p : α → Bool) (l : List α) : Int := idxFGo p l 0
theorem idxF_next {α : Type} {p : α → Bool} {l : List α} {i : Nat} {v : Int} (hlt : i < l.length) (h : idxFGo p (l.drop i) i = v) (hp : p l[i] = false) : idxFGo p (l.drop (i + 1)) (i + 1) = v := by
  rw [drop_at hlt] at h; simpa [idxFGo, hp] using h
theorem idxF_hit {α : Type} {p : α → Bool} {l : List α} {i : Nat} {v : Int} (hlt : i < l.length) (h : idxFGo p (l.drop i) i = v) (hp : p l[i] = true) : v = i := by
  rw [drop_at hlt] at h; simp [idxFGo, hp] at h; exact h.symm
theorem idxF_end {α : Type} {p : α → Bool} {l : List α} {j : Nat} {v : Int} (h : idxFGo p (l.drop l.length) j = v) : v = -1 := by
  rw [List.drop_length] at h; exact h.symm
theorem idxFGo_any {α : Type} {p : α → Bool} : ∀ {l : List α} {i : Nat}, decide (0 ≤ idxFGo p l i) = l.any p := by
  intro l
  induction l with
  | nil => intro i; rfl
  | cons s r ih =>
    intro i
    simp only [idxFGo, List.any_cons]
    by_cases hp : p s = true
    · simp [hp]
    · simpa [hp] using ih
theorem idxF_any {α : Type} {p : α → Bool} {l : List α} : decide (0 ≤ idxF p l) = l.any p := idxFGo_any
end Go.Sx

/- Loops over lists: plain law. -/
namespace Go.Sx
open Go
/-- each element is looked at, with those before it -/
def chkGo {α : Type} (f : List α → α → Bool) : List α → List α → Bool
  | _, [] => true
  | pre, x :: r => f pre x && chkGo f (pre ++ [x]) r
def chk {α : Type} (f : List α → α → Bool) (l : List α) : Bool := chkGo f [] l
theorem chk_next {α : Type} {f : List α → α → Bool} {l : List α} {i : Nat} {v : Bool} (hlt : i < l.length) (h : chkGo f (l.take i) (l.drop i) = v) (hf : f (l.take i) l[i] = true) : chkGo f (l.take (i + 1)) (l.drop (i + 1)) = v := by
  rw [drop_at hlt] at h
  simp only [chkGo, hf, Bool.true_and] at h
  rwa [List.take_succ_eq_append_getElem hlt]
theorem chk_hit {α : Type} {f : List α → α → Bool} {l : List α} {i : Nat} {v : Bool} (hlt : i < l.length) (h : chkGo f (l.take i) (l.drop i) = v) (hf : f (l.take i) l[i] = false) : v = false := by
  rw [drop_at hlt] at h
  simp only [chkGo, hf, Bool.false_and] at h
  exact h.symm
theorem chk_end {α : Type} {f : List α → α → Bool} {l pre : List α} {v : Bool} (h : chkGo f pre (l.drop l.length) = v) : v = true := by
  rw [List.drop_length] at h; exact h.symm
theorem chkGo_iff {α : Type} {f : List α → α → Bool} : ∀ {l pre : List α}, chkGo f pre l = true ↔ ∀ i (h : i < l.length), f (pre ++ l.take i) l[i] = true := by
  intro l
  induction l with
  | nil => intro pre; simp [chkGo]
  | cons x r ih =>
    intro pre
    simp only [chkGo, Bool.and_eq_true, ih]
    constructor
    · rintro ⟨h1, h2⟩ i hi
      cases i with
      | zero => simpa using h1
      | succ i => have := h2 i (by simpa using hi); simpa using this
    · intro h
      have h0 := h 0 (Nat.zero_lt_succ _)
      simp only [List.take_zero, List.append_nil, List.getElem_cons_zero] at h0
      refine ⟨h0, fun i hi => ?_⟩
      have := h (i + 1) (by simpa using hi)
      simpa using this
theorem chk_iff {α : Type} {f : List α → α → Bool} {l : List α} : chk f l = true ↔ ∀ i (h : i < l.length), f (l.take i) l[i] = true := by
  unfold chk; rw [chkGo_iff]; simp
theorem any_next {α : Type} {p : α → Bool} {l : List α} {i : Nat} (hlt : i < l.length) (h : (l.take i).any p = false) (hp : p l[i] = false) : (l.take (i + 1)).any p = false := by
  rw [List.take_succ_eq_append_getElem hlt, List.any_append, h]; simp [hp]
theorem any_hit {α : Type} {p : α → Bool} {l : List α} {k i : Nat} (hk : k < i) (hlt : k < l.length) (hp : p l[k] = true) : (l.take i).any p = true := by
  rw [List.any_eq_true]
  exact ⟨l[k], List.mem_take_iff_getElem.2 ⟨k, by omega, rfl⟩, hp⟩
theorem any_hit' {α : Type} {p : α → Bool} {l : List α} {k : Nat} (hlt : k < l.length) (hp : p l[k] = true) : l.any p = true := by
  rw [List.any_eq_true]
  exact ⟨l[k], List.getElem_mem hlt, hp⟩
theorem any_end {α : Type} {p : α → Bool} {l : List α} (h : (l.take l.length).any p = false) : l.any p = false := by rwa [List.take_length] at h
/-- lists compared -/
theorem eqL_next {α : Type} [DecidableEq α] {a b : List α} {i : Nat} {v : Bool} (h1 : i < a.length) (h2 : i < b.length) (h : decide (a.drop i = b.drop i) = v) (he : a[i] = b[i]) : decide (a.drop (i + 1) = b.drop (i + 1)) = v := by
  rw [drop_at h1, drop_at h2] at h
  simp only [List.cons.injEq, he, true_and] at h
  exact h
theorem eqL_hit {α : Type} [DecidableEq α] {a b : List α} {i : Nat} {v : Bool} (h1 : i < a.length) (h2 : i < b.length) (h : decide (a.drop i = b.drop i) = v) (he : ¬ a[i] = b[i]) : v = false := by
  rw [drop_at h1, drop_at h2] at h
  simp only [List.cons.injEq, he, false_and, decide_false] at h
  exact h.symm
theorem eqL_end {α : Type} [DecidableEq α] {a b : List α} {v : Bool} (hl : a.length = b.length) (h : decide (a.drop a.length = b.drop a.length) = v) : v = true := by
  rw [List.drop_length, hl, List.drop_length] at h
  exact h.symm.trans (by simp)
theorem eqL_len {α : Type} [DecidableEq α] {a b : List α} (h : ¬ a.length = b.length) : decide (a = b) = false := by
  simp only [decide_eq_false_iff_not]
  exact fun e => h (by rw [e])
/-- texts put together, one behind the other -/
def catGo {α : Type} (f : α → Str) : List α → Str
  | [] => []
  | x :: r => f x ++ catGo f r
theorem cat_next {α : Type} {f : α → Str} {l : List α} {i : Nat} {o v : Str} (hlt : i < l.length) (h : o ++ catGo f (l.drop i) = v) : (o ++ f l[i]) ++ catGo f (l.drop (i + 1)) = v := by
  rw [drop_at hlt] at h
  simpa [catGo] using h
theorem cat_end {α : Type} {f : α → Str} {l : List α} {o v : Str} (h : o ++ catGo f (l.drop l.length) = v) : o = v := by
  rw [List.drop_length] at h; simpa [catGo] using h
theorem cat_len {α : Type} {f : α → Str} {m : Nat} : ∀ {l : List α}, (∀ x ∈ l, (f x).length ≤ m) → (catGo f l).length ≤ l.length * m := by
  intro l
  induction l with
  | nil => intro _; simp [catGo]
  | cons x r ih =>
    intro h
    have h1 := h x List.mem_cons_self
    have h2 := ih fun y hy => h y (List.mem_cons_of_mem _ hy)
    simp only [catGo, List.length_append, List.length_cons]
    rw [Nat.add_mul]
    omega
/-- lists put together -/
theorem flat_next {α β : Type} {f : α → List β} {l : List α} {i : Nat} (hlt : i < l.length) : (l.take i).flatMap f ++ f l[i] = (l.take (i + 1)).flatMap f := by
  rw [List.take_succ_eq_append_getElem hlt]; simp only [List.flatMap_append, List.flatMap_cons, List.flatMap_nil, List.append_nil]
end Go.Sx

/- Roots: what the program and the reference compute of them, plain. -/
namespace Go.Sx
open Go
abbrev Plc := Int × Int
abbrev Ptr_ := Int × Int × List Plc
abbrev Vol_ := Str × List Ptr_
abbrev Root_ := Int × List Vol_
def inV (n lo hi : Int) : Bool := decide (lo ≤ n) && decide (n ≤ hi)
def lower (c : UInt8) : Bool := decide (97 ≤ c.toNat) && decide (c.toNat ≤ 122)
def nameV (s : Str) : Bool := inV s.length 1 3 && s.all lower
def poolV (d : Int) : Bool := inV d 3 4
def noneV (p : Ptr_) : Bool := decide (p.1 = 0) && (decide (p.2.1 = 0) && decide (p.2.2.length = 0))
def mostV (d : Int) : Int := 3 * sMin 3 (d - 1)
def colsV (n : Int) : Int := (n + 3 - 1).tdiv 3
def placeV (d : Int) (a : Plc) : Bool := decide (0 ≤ a.1) && (decide (a.1 < d) && (decide (0 ≤ a.2) && decide (a.2 < 12)))
/-- a place is one of a pool, on another disk than those before it -/
def placeF (d : Int) (pre : List Plc) (a : Plc) : Bool := placeV d a && !(pre.any fun q => decide (q.1 = a.1))
def sizeV (d : Int) (p : Ptr_) : Bool := inV p.1 1 (mostV d) && (inV p.2.1 0 1000000000 && decide ((p.2.2.length : Int) = colsV p.1 + 1))
def ptrV (d : Int) (p : Ptr_) : Bool := poolV d && (noneV p || (sizeV d p && chk (placeF d) p.2.2))
def ptrW (d : Int) (p : Ptr_) : Bool := if p.1 = 0 then decide (p.2.1 = 0) && decide (p.2.2.length = 0) else sizeV d p && chk (placeF d) p.2.2
def blksOf (l : List Vol_) : List Ptr_ := l.flatMap (·.2)
def volF (d : Int) (pre : List Vol_) (v : Vol_) : Bool := nameV v.1 && (decide (v.2.length = 3) && (!(pre.any fun w => decide (w.1 = v.1)) && v.2.all (ptrV d)))
def volsV (d : Int) (l : List Vol_) : Bool := chk (volF d) l && decide (l.length ≤ 4)
def pairsOf (l : List Ptr_) : List (Plc × Ptr_) := l.flatMap fun p => p.2.2.map fun a => (a, p)
abbrev PK : Ty := .pr (.int .i64) (.int .i64)
/-- the owner of each place -/
def ownGo : List (Plc × Ptr_) → List (Plc × Ptr_) → Bool
  | _, [] => true
  | m, (a, p) :: r => (match mget PK m a with | some q => decide (p = q) | none => true) && ownGo (mset PK m a p) r
def rootV (d : Int) (r : Root_) : Bool := poolV d && (inV r.1 0 100000 && (volsV d r.2 && ownGo [] (pairsOf (blksOf r.2))))
/-- the reference's -/
def meetV (p q : Ptr_) : Bool := p.2.2.any fun a => q.2.2.any fun b => decide (a = b)
def volG (pre : List Vol_) (v : Vol_) : Bool := nameV v.1 && (decide (v.2.length = 3) && !(pre.any fun w => decide (w.1 = v.1)))
def ptrG (d : Int) (pre : List Ptr_) (p : Ptr_) : Bool := ptrW d p && !(pre.any fun q => meetV p q && !decide (p = q))
def volsS (d : Int) (l : List Vol_) : Bool := chk volG l && chk (ptrG d) (blksOf l)
def rootS (d : Int) (r : Root_) : Bool := poolV d && (inV r.1 0 100000 && (decide (r.2.length ≤ 4) && volsS d r.2))
/-! texts -/
def tRoot : Str := [114, 111, 111, 116, 32]
def tVol : Str := [118, 111, 108, 32]
def tSum : Str := [115, 117, 109, 32]
def tPtr : Str := [112, 116, 114]
def tNone : Str := [110, 111, 110, 101, 10]
def itoaV (n : Int) : Str := Lib.itoa n
def wordV (a : Plc) : Str := itoaV a.1 ++ [46] ++ itoaV a.2
def wordsV (p : Ptr_) : List Str := [tPtr, itoaV p.1, itoaV p.2.1] ++ p.2.2.map wordV
def lineV (p : Ptr_) : Str := if noneV p = true then tNone else Lib.join (wordsV p) [32] ++ [10]
def volT (v : Vol_) : Str := (tVol ++ v.1 ++ [10]) ++ catGo lineV v.2
def bodyV (r : Root_) : Str := (tRoot ++ itoaV r.1 ++ [10]) ++ catGo volT r.2
def weighGo : Str → Nat → Int
  | [], _ => 0
  | c :: r, i => (c.toNat : Int) * (65536 + (i : Int) + 1) + weighGo r (i + 1)
def weighV (s : Str) : Int := weighGo s 0
def sealV (s : Str) : Str := s ++ tSum ++ itoaV (weighV s) ++ [10]
def rootT (d : Int) (r : Root_) : Str := if rootV d r = true then sealV (bodyV r) else []
end Go.Sx

/- Roots: bounds. -/
namespace Go.Sx
open Go
theorem sMin_bd (d : Int) (h : 3 ≤ d ∧ d ≤ 4) : sMin 3 (d - 1) = d - 1 := by
  unfold sMin
  by_cases h4 : d - 1 < 3
  · simp [h4]
  · simp [h4]; omega
theorem colsV_bd {n : Int} (h0 : 0 ≤ n) (h1 : n ≤ 1000000) : 0 ≤ colsV n ∧ colsV n ≤ 1000000 := by
  unfold colsV
  have a : 0 ≤ (n + 3 - 1).tdiv 3 := Int.tdiv_nonneg (by omega) (by decide)
  have b : (n + 3 - 1).tdiv 3 = (n + 3 - 1) / 3 := Int.tdiv_eq_ediv_of_nonneg (by omega)
  omega
theorem not_any {α : Type} {p : α → Bool} {l : List α} : (!(l.any fun x => !p x)) = l.all p := by
  rw [List.all_eq_not_any_not]
def SmallV (l : List Vol_) : Prop := l.length ≤ 100 ∧ ∀ v ∈ l, v.2.length ≤ 100
theorem blks_len' : ∀ {l : List Vol_}, (∀ v ∈ l, v.2.length ≤ 100) → (blksOf l).length ≤ l.length * 100 := by
  intro l
  induction l with
  | nil => intro _; simp [blksOf]
  | cons v r ih =>
    intro h
    have h1 := h v List.mem_cons_self
    have h2 := ih fun y hy => h y (List.mem_cons_of_mem _ hy)
    simp only [blksOf, List.flatMap_cons, List.length_append, List.length_cons] at h2 ⊢
    rw [Nat.add_mul]
    omega
theorem blks_len {l : List Vol_} {i : Nat} (h : SmallV l) : (blksOf (l.take i)).length ≤ 10000 := by
  have h1 := blks_len' (l := l.take i) fun v hv => h.2 v (List.mem_of_mem_take hv)
  have h2 : (l.take i).length ≤ 100 := Nat.le_trans (List.length_take_le' _ _) h.1
  have h3 := Nat.mul_le_mul_right 100 h2
  omega
theorem blks_all {l : List Vol_} (h : SmallV l) : (blksOf l).length ≤ 10000 := by have := blks_len (i := l.length) h; rwa [List.take_length] at this
theorem volsV_small {d : Int} {l : List Vol_} (h : volsV d l = true) : SmallV l := by
  simp only [volsV, Bool.and_eq_true, chk_iff, decide_eq_true_eq] at h
  refine ⟨by omega, fun v hv => ?_⟩
  obtain ⟨i, hi, rfl⟩ := List.getElem_of_mem hv
  have h1 := h.1 i hi
  simp only [volF, Bool.and_eq_true, decide_eq_true_eq] at h1
  omega
theorem own_in {l : List Ptr_} {i : Nat} {m : List (Plc × Ptr_)} {v : Bool} (hlt : i < l.length) (h : ownGo m (pairsOf (l.drop i)) = v) : ownGo m ((l[i].2.2.drop 0).map (fun a => (a, l[i])) ++ pairsOf (l.drop (i + 1))) = v := by
  rw [drop_at hlt] at h
  simp only [pairsOf, List.flatMap_cons, List.drop_zero] at h ⊢
  exact h
theorem own_out {p : Ptr_} {r : List (Plc × Ptr_)} {m : List (Plc × Ptr_)} {v : Bool} (h : ownGo m ((p.2.2.drop p.2.2.length).map (fun a => (a, p)) ++ r) = v) : ownGo m r = v := by
  simpa using h
theorem own_none {p : Ptr_} {r : List (Plc × Ptr_)} {m : List (Plc × Ptr_)} {v : Bool} {j : Nat} (hlj : j < p.2.2.length) (h : ownGo m ((p.2.2.drop j).map (fun a => (a, p)) ++ r) = v) (hq : mget PK m p.2.2[j] = none) : ownGo (mset PK m p.2.2[j] p) ((p.2.2.drop (j + 1)).map (fun a => (a, p)) ++ r) = v := by
  rw [drop_at hlj] at h
  simp only [List.map_cons, List.cons_append, ownGo] at h
  rw [hq] at h
  simpa only [Bool.true_and] using h
theorem own_some {p q : Ptr_} {r : List (Plc × Ptr_)} {m : List (Plc × Ptr_)} {v : Bool} {j : Nat} (hlj : j < p.2.2.length) (h : ownGo m ((p.2.2.drop j).map (fun a => (a, p)) ++ r) = v) (hq : mget PK m p.2.2[j] = some q) (he : p = q) : ownGo (mset PK m p.2.2[j] p) ((p.2.2.drop (j + 1)).map (fun a => (a, p)) ++ r) = v := by
  rw [drop_at hlj] at h
  simp only [List.map_cons, List.cons_append, ownGo] at h
  rw [hq] at h
  subst he
  simpa only [decide_true, Bool.true_and] using h
theorem own_bad {p q : Ptr_} {r : List (Plc × Ptr_)} {m : List (Plc × Ptr_)} {v : Bool} {j : Nat} (hlj : j < p.2.2.length) (h : ownGo m ((p.2.2.drop j).map (fun a => (a, p)) ++ r) = v) (hq : mget PK m p.2.2[j] = some q) (he : ¬ p = q) : v = false := by
  rw [drop_at hlj] at h
  simp only [List.map_cons, List.cons_append, ownGo] at h
  rw [hq] at h
  simp only [he, decide_false, Bool.false_and] at h
  exact h.symm
theorem own_end {l : List Ptr_} {m : List (Plc × Ptr_)} {v : Bool} (h : ownGo m (pairsOf (l.drop l.length)) = v) : v = true := by
  rw [List.drop_length] at h; exact h.symm
theorem blks_pl {l : List Vol_} (h : ∀ v ∈ l, ∀ p ∈ v.2, p.2.2.length ≤ 140737488355328) : ∀ p ∈ blksOf l, p.2.2.length ≤ 140737488355328 := by
  intro p hp
  obtain ⟨v, hv, hp⟩ := List.mem_flatMap.1 hp
  exact h v hv p hp
theorem itoaV_len {n : Int} (h : inR .i64 n) : (itoaV n).length ≤ 21 := by
  rw [inR_i64] at h
  exact Lib.itoa_length_le n h.1 h.2
theorem ptrV_len {d : Int} {p : Ptr_} (h : ptrV d p = true) : p.2.2.length ≤ 4 := by
  simp only [ptrV, Bool.and_eq_true, Bool.or_eq_true] at h
  obtain ⟨h1, h2⟩ := h
  rcases h2 with h2 | h2
  · simp only [noneV, Bool.and_eq_true, decide_eq_true_eq] at h2
    omega
  · have hb : 3 ≤ d ∧ d ≤ 4 := by simpa [poolV, inV] using h1
    have h3 := h2.1
    simp only [sizeV, inV, Bool.and_eq_true, decide_eq_true_eq] at h3
    have hm := sMin_bd d hb
    have h4 : mostV d = 3 * (d - 1) := by unfold mostV; rw [hm]
    have h5 : colsV p.1 = (p.1 + 3 - 1) / 3 := Int.tdiv_eq_ediv_of_nonneg (by omega)
    omega
theorem wordV_len {a : Plc} (h : inR .i64 a.1 ∧ inR .i64 a.2) : (wordV a).length ≤ 43 := by
  have h1 := itoaV_len h.1
  have h2 := itoaV_len h.2
  simp only [wordV, List.length_append, List.length_cons, List.length_nil]
  omega
theorem words_next {pl : List Plc} {i : Nat} (h : i < pl.length) : List.take i (List.map wordV pl) ++ [itoaV pl[i].1 ++ 46 :: itoaV pl[i].2] = List.take (i + 1) (List.map wordV pl) := by
  have h2 : i < (pl.map wordV).length := by simpa using h
  rw [List.take_succ_eq_append_getElem h2]
  simp only [List.getElem_map, wordV, List.append_assoc, List.cons_append, List.nil_append]
theorem joinTail_len {sep : Str} {m : Nat} : ∀ {l : List Str}, (∀ x ∈ l, x.length ≤ m) → (Lib.joinTail sep l).length ≤ l.length * (sep.length + m) := by
  intro l
  induction l with
  | nil => intro _; simp [Lib.joinTail]
  | cons x r ih =>
    intro h
    have h1 := h x List.mem_cons_self
    have h2 := ih fun y hy => h y (List.mem_cons_of_mem _ hy)
    simp only [Lib.joinTail, List.map_cons, List.flatten_cons, List.length_append, List.length_cons] at h2 ⊢
    rw [Nat.add_mul]
    omega
theorem join_len {sz sm : Int} {pl : List Plc} (h1 : inR .i64 sz) (h2 : inR .i64 sm) (h3 : ∀ a ∈ pl, inR .i64 a.1 ∧ inR .i64 a.2) (h4 : pl.length ≤ 4) : (Lib.join (wordsV (sz, sm, pl)) [32]).length ≤ 290 := by
  rw [show wordsV (sz, sm, pl) = tPtr :: (itoaV sz :: itoaV sm :: pl.map wordV) from rfl, Lib.join_cons, List.length_append]
  have := joinTail_len (sep := [32]) (m := 43) (l := itoaV sz :: itoaV sm :: pl.map wordV) fun x hx => by
    rcases List.mem_cons.1 hx with rfl | hx
    · have := itoaV_len h1; omega
    · rcases List.mem_cons.1 hx with rfl | hx
      · have := itoaV_len h2; omega
      · obtain ⟨a, ha, rfl⟩ := List.mem_map.1 hx
        exact wordV_len (h3 a ha)
  simp only [List.length_cons, List.length_map, List.length_nil] at this
  simp only [tPtr, List.length_cons, List.length_nil]
  omega
/-- a root within bounds -/
def SmallR (l : List Vol_) : Prop := l.length ≤ 4 ∧ ∀ v ∈ l, v.1.length ≤ 3 ∧ v.2.length = 3 ∧ ∀ p ∈ v.2, ∃ d, ptrV d p = true
theorem rootV_small {d : Int} {r : Root_} (h : rootV d r = true) : SmallR r.2 := by
  simp only [rootV, volsV, Bool.and_eq_true, chk_iff, decide_eq_true_eq] at h
  refine ⟨by omega, fun v hv => ?_⟩
  obtain ⟨i, hi, rfl⟩ := List.getElem_of_mem hv
  have h1 := h.2.2.1.1 i hi
  simp only [volF, nameV, inV, Bool.and_eq_true, decide_eq_true_eq, List.all_eq_true] at h1
  exact ⟨by omega, by omega, fun p hp => ⟨d, h1.2.2.2 p hp⟩⟩
theorem lineV_len' {d : Int} {p : Ptr_} (h1 : inR .i64 p.1) (h2 : inR .i64 p.2.1) (h3 : ∀ a ∈ p.2.2, inR .i64 a.1 ∧ inR .i64 a.2) (h : ptrV d p = true) : (lineV p).length ≤ 300 := by
  unfold lineV
  split
  · simp [tNone]
  · rw [List.length_append]
    have : (Lib.join (wordsV p) [32]).length ≤ 290 := join_len h1 h2 h3 (ptrV_len h)
    simp only [List.length_cons, List.length_nil]
    omega
theorem vol_in {l : List Vol_} {i : Nat} {o v : Str} (hlt : i < l.length) (h : o ++ catGo volT (l.drop i) = v) : ((o ++ (tVol ++ l[i].1 ++ [10])) ++ catGo lineV (l[i].2.drop 0)) ++ catGo volT (l.drop (i + 1)) = v := by
  rw [drop_at hlt] at h
  rw [List.drop_zero]
  simp only [catGo, volT] at h
  simpa only [List.append_assoc] using h
theorem vol_line {l : List Ptr_} {j : Nat} {o r v : Str} (hlj : j < l.length) (h : (o ++ catGo lineV (l.drop j)) ++ r = v) : ((o ++ lineV l[j]) ++ catGo lineV (l.drop (j + 1))) ++ r = v := by
  rw [drop_at hlj] at h
  simp only [catGo] at h
  simpa only [List.append_assoc] using h
theorem vol_out {l : List Ptr_} {o r v : Str} (h : (o ++ catGo lineV (l.drop l.length)) ++ r = v) : o ++ r = v := by
  rw [List.drop_length] at h
  simpa [catGo] using h
end Go.Sx

/- Roots: what the reference's walks need, plain. -/
namespace Go.Sx
open Go
theorem all_next {α : Type} {p : α → Bool} {l : List α} {i : Nat} {v : Bool} (hlt : i < l.length) (h : (l.drop i).all p = v) (hp : p l[i] = true) : (l.drop (i + 1)).all p = v := by
  rw [drop_at hlt, List.all_cons, hp, Bool.true_and] at h; exact h
theorem all_hit {α : Type} {p : α → Bool} {l : List α} {i : Nat} {v : Bool} (hlt : i < l.length) (h : (l.drop i).all p = v) (hp : p l[i] = false) : v = false := by
  rw [drop_at hlt, List.all_cons, hp, Bool.false_and] at h; exact h.symm
theorem all_end {α : Type} {p : α → Bool} {l : List α} {v : Bool} (h : (l.drop l.length).all p = v) : v = true := by
  rw [List.drop_length] at h; exact h.symm
theorem lower_t {c : UInt8} (h1 : 97 ≤ (c.toNat : Int)) (h2 : (c.toNat : Int) ≤ 122) : lower c = true := by simp [lower]; omega
theorem lower_l {c : UInt8} (h1 : (c.toNat : Int) < 97) : lower c = false := by simp [lower]; omega
theorem lower_h {c : UInt8} (h1 : 122 < (c.toNat : Int)) : lower c = false := by simp [lower]; omega
theorem placeV_no1 {d : Int} {a : Plc} (h : inV a.1 0 (d - 1) = false) : placeV d a = false := by
  simp only [inV, placeV, Bool.and_eq_false_iff, decide_eq_false_iff_not] at h ⊢
  omega
theorem placeV_no2 {d : Int} {a : Plc} (h : inV a.2 0 11 = false) : placeV d a = false := by
  simp only [inV, placeV, Bool.and_eq_false_iff, decide_eq_false_iff_not] at h ⊢
  omega
theorem placeV_yes {d : Int} {a : Plc} (h1 : inV a.1 0 (d - 1) = true) (h2 : inV a.2 0 11 = true) : placeV d a = true := by
  simp only [inV, placeV, Bool.and_eq_true, decide_eq_true_eq] at h1 h2 ⊢
  omega
theorem volG_small {l : List Vol_} (h : chk volG l = true) (h4 : l.length ≤ 4) : SmallV l := by
  refine ⟨by omega, fun v hv => ?_⟩
  obtain ⟨i, hi, rfl⟩ := List.getElem_of_mem hv
  have h1 := chk_iff.1 h i hi
  simp only [volG, Bool.and_eq_true, decide_eq_true_eq] at h1
  omega
theorem itoaV_small {n : Int} (h : 0 ≤ n) (h2 : n < 10) : itoaV n = [UInt8.ofNat (48 + n).toNat] := by
  obtain ⟨u, rfl⟩ := Int.eq_ofNat_of_zero_le h
  unfold itoaV
  rw [Lib.itoa_nonneg, Lib.decDigits_one (by omega)]
  congr 2
theorem itoaV_big {n : Int} (h : 0 ≤ n) (h2 : ¬ n < 10) : itoaV n = itoaV (n / 10) ++ [UInt8.ofNat (48 + n % 10).toNat] := by
  obtain ⟨u, rfl⟩ := Int.eq_ofNat_of_zero_le h
  unfold itoaV
  rw [Lib.itoa_nonneg, show ((u : Int) / 10) = ((u / 10 : Nat) : Int) by omega, Lib.itoa_nonneg, Lib.decDigits, dif_neg (by omega)]
  congr 3
def wordS (a : Plc) : Str := [32] ++ wordV a
theorem words_join {sz sm : Int} {pl : List Plc} : Lib.join (wordsV (sz, sm, pl)) [32] = (tPtr ++ [32] ++ itoaV sz ++ [32] ++ itoaV sm) ++ catGo wordS (pl.drop 0) := by
  rw [show wordsV (sz, sm, pl) = tPtr :: (itoaV sz :: itoaV sm :: pl.map wordV) from rfl, Lib.join_cons, List.drop_zero]
  have h : ∀ q : List Plc, Lib.joinTail [32] (q.map wordV) = catGo wordS q := by
    intro q
    induction q with
    | nil => rfl
    | cons a q ih => simp only [List.map_cons, Lib.joinTail, List.flatten_cons, catGo, wordS] at ih ⊢; rw [ih]
  rw [← h]
  simp [Lib.joinTail]
theorem ptrV_none {d : Int} {p : Ptr_} (h : ptrV d p = true) (h0 : p.1 = 0) : noneV p = true := by
  simp only [ptrV, Bool.and_eq_true, Bool.or_eq_true] at h
  rcases h.2 with h2 | h2
  · exact h2
  · have h3 := h2.1
    simp only [sizeV, inV, Bool.and_eq_true, decide_eq_true_eq] at h3
    omega
theorem ptrV_pos {d : Int} {p : Ptr_} (h : ptrV d p = true) (h0 : ¬ p.1 = 0) : 0 ≤ p.1 ∧ 0 ≤ p.2.1 ∧ ∀ a ∈ p.2.2, 0 ≤ a.1 ∧ 0 ≤ a.2 := by
  simp only [ptrV, Bool.and_eq_true, Bool.or_eq_true] at h
  rcases h.2 with h2 | h2
  · simp only [noneV, Bool.and_eq_true, decide_eq_true_eq] at h2
    exact absurd h2.1 h0
  · have h3 := h2.1
    simp only [sizeV, inV, Bool.and_eq_true, decide_eq_true_eq] at h3
    refine ⟨by omega, by omega, fun a ha => ?_⟩
    obtain ⟨i, hi, rfl⟩ := List.getElem_of_mem ha
    have h4 := chk_iff.1 h2.2 i hi
    simp only [placeF, placeV, Bool.and_eq_true, decide_eq_true_eq] at h4
    omega
theorem rootV_txg {d : Int} {r : Root_} (h : rootV d r = true) : 0 ≤ r.1 := by
  simp only [rootV, inV, Bool.and_eq_true, decide_eq_true_eq] at h
  exact h.2.1.1
theorem weigh_one {c : UInt8} {i : Nat} (h : i < 1000000) : 0 ≤ (c.toNat : Int) * (65536 + (i : Int) + 1) ∧ (c.toNat : Int) * (65536 + (i : Int) + 1) ≤ 300000000 := by
  have h1 : c.toNat < 256 := c.toNat_lt
  refine ⟨Int.mul_nonneg (by omega) (by omega), ?_⟩
  have := Int.mul_le_mul (a := (c.toNat : Int)) (b := 65536 + (i : Int) + 1) (c := 255) (d := 1065536) (by omega) (by omega) (by omega) (by omega)
  omega
theorem weigh_next {s : Str} {i : Nat} {n v : Int} (hlt : i < s.length) (h : n + weighGo (s.drop i) i = v) : (n + (s[i].toNat : Int) * (65536 + (i : Int) + 1)) + weighGo (s.drop (i + 1)) (i + 1) = v := by
  rw [drop_at hlt] at h
  simp only [weighGo] at h
  omega
theorem weigh_end {s : Str} {n v : Int} (h : n + weighGo (s.drop s.length) s.length = v) : v = n := by
  rw [List.drop_length] at h; simp only [weighGo] at h; omega
end Go.Sx

namespace Go.Sx
open Go
set_option maxRecDepth 100000
set_option linter.unusedVariables false
set_option linter.unusedSimpArgs false
set_option maxHeartbeats 2000000

def cIn : Ctr := ⟨44, [.val false TI pF, .val false TI pF, .val false TI pF], fun x => True, fun x => (sBool (inV x.1 x.2.1 x.2.2.1), [])⟩
theorem cIn_ok : CtrOk Proofs.Tryz.prog cIn := by
  have hP := (Prg.none ttok mtok)
  refine ctr_of_body hP cIn (fn := Proofs.Tryz.f44) (rts := [.tmp 6]) Proofs.Tryz.func44 rfl (by kernel_rfl) rfl rfl ?_
  rintro ⟨(n : Int), (lo : Int), (hi : Int), ⟨⟩⟩ _ _
  try dsimp only [Ty.den, Mode.den, mdens] at _
  refine ⟨rfl, ?_⟩
  refine sw_seq ?_
  refine sw_region hP 1 [] rfl (by kernel_rfl) (fun _ => by kernel_rfl) (by first | trivial | (simp [conj]; done) | (simp [conj] at *; (try dsimp only [Ty.den, Ty.dflt] at *); omega)) ?_
  refine sw_seq ?_
  refine sw_dec hP 2 [] 3 rfl (fun g1_3 => ?_) (fun g1_3 => ?_)
  · skip
    refine sw_region hP 2 [(3, true)] rfl (by kernel_rfl) (fun _ => by kernel_rfl) (by first | trivial | (simp [conj]; done) | (simp [conj] at *; (try dsimp only [Ty.den, Ty.dflt] at *); omega)) ?_
    refine sw_ret ⟨.inl rfl, _, rfl, ?_⟩
    simp [conj] at *
    simp [inV, *]
    try omega
  · skip
    refine sw_region hP 2 [(3, false)] rfl (by kernel_rfl) (fun _ => by kernel_rfl) (by first | trivial | (simp [conj]; done) | (simp [conj] at *; (try dsimp only [Ty.den, Ty.dflt] at *); omega)) ?_
    refine sw_ret ⟨.inl rfl, _, rfl, ?_⟩
    simp [conj] at *
    simp [inV, *]
    try omega

def cDisks : Ctr := ⟨43, [.val false TI pF], fun x => True, fun x => (sBool (poolV x.1), [])⟩
theorem cDisks_ok : CtrOk Proofs.Tryz.prog cDisks := by
  have hP := ((Prg.none ttok mtok).and cIn_ok)
  refine ctr_of_body hP cDisks (fn := Proofs.Tryz.f43) (rts := [.tmp 2]) Proofs.Tryz.func43 rfl (by kernel_rfl) rfl rfl ?_
  rintro ⟨(n : Int), ⟨⟩⟩ _ _
  try dsimp only [Ty.den, Mode.den, mdens] at _
  refine ⟨rfl, ?_⟩
  refine sw_seq ?_
  refine sw_region hP 1 [] rfl (by kernel_rfl) (fun _ => by kernel_rfl) (by first | trivial | (simp [conj]; done) | (simp [conj] at *; (try dsimp only [Ty.den, Ty.dflt] at *); omega)) ?_
  refine sw_seq ?_
  refine sw_region hP 2 [] rfl (by kernel_rfl) (fun _ => by kernel_rfl) ?_ ?_
  · skip
    simp only [conj, List.nil_append, List.cons_append, List.append_nil, List.append_assoc, inR_i64, true_and, and_true, Int.toNat_natCast]
    try dsimp only [Ty.den, Ty.dflt]
    repeat' apply And.intro
    all_goals first | trivial | assumption | omega | exact decide_eq_true ‹_› | exact decide_eq_false ‹_› | (simp [*]; done)
  refine sw_ret ⟨.inl rfl, _, rfl, ?_⟩
  simp [conj, poolV]

def cName : Ctr := ⟨73, [.val false .str pF], fun x => True, fun x => (sBool (nameV x.1), [])⟩
theorem cName_ok : CtrOk Proofs.Tryz.prog cName := by
  have hP := ((Prg.none ttok mtok).and cIn_ok)
  refine ctr_of_body hP cName (fn := Proofs.Tryz.f73) (rts := [.tmp 2]) Proofs.Tryz.func73 rfl (by kernel_rfl) rfl rfl ?_
  rintro ⟨(s : Str), ⟨⟩⟩ ⟨hds, _⟩ hpre
  try dsimp only [Ty.den, Mode.den, mdens] at hpre
  refine ⟨rfl, ?_⟩
  have hml : s.length ≤ 140737488355328 := hds
  refine sw_seq ?_
  refine sw_region hP 1 [] rfl (by kernel_rfl) (fun _ => by kernel_rfl) (by first | trivial | (simp [conj]; done) | (simp [conj] at *; (try dsimp only [Ty.den, Ty.dflt] at *); omega)) ?_
  refine sw_seq ?_
  refine sw_seq ?_
  refine sw_region hP 2 [] rfl (by kernel_rfl) (fun _ => by kernel_rfl) ?_ ?_
  · skip
    exact trivial
  refine sw_cond rfl (fun c1 => ?_) (fun c1 => ?_)
  · skip
    refine sw_seq ?_
    refine sw_region hP 3 [] rfl (by kernel_rfl) (fun _ => by kernel_rfl) (by first | trivial | (simp [conj]; done) | (simp [conj] at *; (try dsimp only [Ty.den, Ty.dflt] at *); omega)) ?_
    refine sw_ret ⟨.inl rfl, _, rfl, ?_⟩
    first | (simp at c1; simp [conj, nameV, c1]; done) | (simp [List.getElem?_eq_getElem hlt] at g6_4; simp only [conj, nameV, hin, all_hit hlt hgo (lower_l g6_4)]; rfl) | (simp [List.getElem?_eq_getElem hlt] at c6; simp only [conj, nameV, hin, all_hit hlt hgo (lower_h c6)]; rfl) | (simp only [conj, nameV, hin, all_end hgo]; rfl)
  · skip
    refine sw_skip ?_
    refine sw_seq ?_
    refine sw_seq ?_
    refine sw_region hP 3 [] rfl (by kernel_rfl) (fun _ => by kernel_rfl) (by first | trivial | (simp [conj]; done) | (simp [conj] at *; (try dsimp only [Ty.den, Ty.dflt] at *); omega)) ?_
    refine sw_block ?_
    refine sw_loop (ι := Nat) (fun i => ⟨[.v false [.d .str pF s], .junk, .junk, sInt .i64 (i : Int), .junk, .junk, .junk, .junk, .junk, .junk, .junk, .junk, .junk, .junk, .junk, .junk, .junk, .junk, .junk, .junk, .junk, .junk, .junk, .junk], [], 3, []⟩) (fun i => s.length - i) (fun i => i ≤ s.length ∧ (inV s.length 1 3 = true) ∧ (s.drop i).all lower = s.all lower) 0 ⟨?_, ?_⟩ ?_
    · skip
      refine ⟨Nat.zero_le _, ?_, rfl⟩
      simpa using c1
    · refine ent_ok rfl ?_
      first | trivial | (simp [conj]; done) | (simp [conj] at *; (try dsimp only [Ty.den, Ty.dflt] at *); omega)
    · rintro i ⟨hi, hin, hgo⟩
      refine sw_seq ?_
      refine sw_seq ?_
      refine sw_region hP 4 [] rfl (by kernel_rfl) (fun _ => by kernel_rfl) (by first | trivial | (simp [conj]; done) | (simp [conj] at *; (try dsimp only [Ty.den, Ty.dflt] at *); omega)) ?_
      refine sw_cond rfl (fun c4 => ?_) (fun c4 => ?_)
      · skip
        have hlt : i < s.length := by simpa using c4
        refine sw_skip ?_
        refine sw_seq ?_
        refine sw_block ?_
        refine sw_seq ?_
        refine sw_dec hP 5 [] 4 rfl (fun g6_4 => ?_) (fun g6_4 => ?_)
        · skip
          refine sw_region hP 5 [(4, true)] rfl (by kernel_rfl) (fun _ => by kernel_rfl) (by first | trivial | (simp [conj]; done) | (simp [conj] at *; (try dsimp only [Ty.den, Ty.dflt] at *); omega)) ?_
          refine sw_condT rfl ?_
          refine sw_seq ?_
          refine sw_region hP 6 [] rfl (by kernel_rfl) (fun _ => by kernel_rfl) (by first | trivial | (simp [conj]; done) | (simp [conj] at *; (try dsimp only [Ty.den, Ty.dflt] at *); omega)) ?_
          refine sw_ret ⟨.inl rfl, _, rfl, ?_⟩
          first | (simp at c1; simp [conj, nameV, c1]; done) | (simp [List.getElem?_eq_getElem hlt] at g6_4; simp only [conj, nameV, hin, all_hit hlt hgo (lower_l g6_4)]; rfl) | (simp [List.getElem?_eq_getElem hlt] at c6; simp only [conj, nameV, hin, all_hit hlt hgo (lower_h c6)]; rfl) | (simp only [conj, nameV, hin, all_end hgo]; rfl)
        · skip
          refine sw_region hP 5 [(4, false)] rfl (by kernel_rfl) (fun _ => by kernel_rfl) (by first | trivial | (simp [conj]; done) | (simp [conj] at *; (try dsimp only [Ty.den, Ty.dflt] at *); omega)) ?_
          refine sw_cond rfl (fun c6 => ?_) (fun c6 => ?_)
          · skip
            refine sw_seq ?_
            refine sw_region hP 6 [] rfl (by kernel_rfl) (fun _ => by kernel_rfl) (by first | trivial | (simp [conj]; done) | (simp [conj] at *; (try dsimp only [Ty.den, Ty.dflt] at *); omega)) ?_
            refine sw_ret ⟨.inl rfl, _, rfl, ?_⟩
            first | (simp at c1; simp [conj, nameV, c1]; done) | (simp [List.getElem?_eq_getElem hlt] at g6_4; simp only [conj, nameV, hin, all_hit hlt hgo (lower_l g6_4)]; rfl) | (simp [List.getElem?_eq_getElem hlt] at c6; simp only [conj, nameV, hin, all_hit hlt hgo (lower_h c6)]; rfl) | (simp only [conj, nameV, hin, all_end hgo]; rfl)
          · skip
            refine sw_skip ?_
            refine sw_region hP 6 [] rfl (by kernel_rfl) (fun _ => by kernel_rfl) (by first | trivial | (simp [conj]; done) | (simp [conj] at *; (try dsimp only [Ty.den, Ty.dflt] at *); omega)) ?_
            refine ⟨i + 1, ?_, ?_, ent_ok rfl ?_⟩
            · skip
              simp [List.getElem?_eq_getElem hlt] at g6_4 c6
              exact ⟨hlt, hin, all_next hlt hgo (lower_t g6_4 c6)⟩
            · skip
              omega
            · skip
              simp [conj]
      · skip
        obtain rfl : i = s.length := by simp at c4; omega
        refine sw_exit ?_
        refine sw_seq ?_
        refine sw_region hP 5 [] rfl (by kernel_rfl) (fun _ => by kernel_rfl) (by first | trivial | (simp [conj]; done) | (simp [conj] at *; (try dsimp only [Ty.den, Ty.dflt] at *); omega)) ?_
        refine sw_ret ⟨.inl rfl, _, rfl, ?_⟩
        first | (simp at c1; simp [conj, nameV, c1]; done) | (simp [List.getElem?_eq_getElem hlt] at g6_4; simp only [conj, nameV, hin, all_hit hlt hgo (lower_l g6_4)]; rfl) | (simp [List.getElem?_eq_getElem hlt] at c6; simp only [conj, nameV, hin, all_hit hlt hgo (lower_h c6)]; rfl) | (simp only [conj, nameV, hin, all_end hgo]; rfl)

def cColsS : Ctr := ⟨102, [.val false TI pF], fun x => 0 ≤ x.1 ∧ x.1 ≤ 1000000, fun x => (sInt .i64 (colsV x.1), [])⟩
theorem cColsS_ok : CtrOk Proofs.Tryz.prog cColsS := by
  have hP := (Prg.none ttok mtok)
  refine ctr_of_body hP cColsS (fn := Proofs.Tryz.f102) (rts := [.tmp 2]) Proofs.Tryz.func102 rfl (by kernel_rfl) rfl rfl ?_
  rintro ⟨(n : Int), ⟨⟩⟩ _ ⟨h0, h1⟩
  try dsimp only [Ty.den, Mode.den, mdens] at h0
  try dsimp only [Ty.den, Mode.den, mdens] at h1
  refine ⟨rfl, ?_⟩
  have hq := colsV_bd h0 h1
  unfold colsV at hq
  refine sw_seq ?_
  refine sw_region hP 1 [] rfl (by kernel_rfl) (fun _ => by kernel_rfl) (by first | trivial | (simp [conj]; done) | (simp [conj] at *; (try dsimp only [Ty.den, Ty.dflt] at *); omega)) ?_
  refine sw_seq ?_
  refine sw_region hP 2 [] rfl (by kernel_rfl) (fun _ => by kernel_rfl) ?_ ?_
  · skip
    simp only [conj, List.nil_append, List.cons_append, List.append_nil, List.append_assoc, inR_i64, true_and, and_true, Int.toNat_natCast]
    try dsimp only [Ty.den, Ty.dflt]
    repeat' apply And.intro
    all_goals first | rfl | omega | assumption | trivial
  refine sw_ret ⟨.inl rfl, _, rfl, ?_⟩
  simp [conj, colsV]

def cPtrS : Ctr := ⟨75, [.val false TI pF, .val true T_Ptr (.all .b)], fun x => poolV x.1 = true, fun x => (sBool (ptrW x.1 x.2.1), [])⟩
theorem cPtrS_ok : CtrOk Proofs.Tryz.prog cPtrS := by
  have hP := (((Prg.none ttok mtok).and cIn_ok).and cColsS_ok)
  refine ctr_of_body hP cPtrS (fn := Proofs.Tryz.f75) (rts := [.tmp 4]) Proofs.Tryz.func75 rfl (by kernel_rfl) rfl rfl ?_
  rintro ⟨(d : Int), ⟨(sz : Int), (sm : Int), (pl : List Plc)⟩, ⟨⟩⟩ ⟨_, ⟨_, _, hpl0⟩, _⟩ hpre
  try dsimp only [Ty.den, Mode.den, mdens] at hpre
  refine ⟨rfl, ?_⟩
  replace hpre : poolV d = true := hpre
  have hml : pl.length ≤ 140737488355328 := hpl0.1
  have hb : 3 ≤ d ∧ d ≤ 4 := by simpa [poolV, inV] using hpre
  have hmm := sMin_bd d hb
  have hmv : mostV d = 3 * (d - 1) := by unfold mostV; rw [hmm]
  refine sw_seq ?_
  refine sw_region hP 1 [] rfl (by kernel_rfl) (fun _ => by kernel_rfl) (by first | trivial | (simp [conj]; done) | (simp [conj] at *; (try dsimp only [Ty.den, Ty.dflt] at *); omega)) ?_
  refine sw_seq ?_
  refine sw_seq ?_
  refine sw_region hP 2 [] rfl (by kernel_rfl) (fun _ => by kernel_rfl) (by first | trivial | (simp [conj]; done) | (simp [conj] at *; (try dsimp only [Ty.den, Ty.dflt] at *); omega)) ?_
  refine sw_cond rfl (fun c1 => ?_) (fun c1 => ?_)
  · skip
    replace c1 : sz = 0 := of_decide_eq_true c1
    refine sw_seq ?_
    refine sw_dec hP 3 [] 3 rfl (fun g2_3 => ?_) (fun g2_3 => ?_)
    · skip
      replace g2_3 : sm = 0 := of_decide_eq_true g2_3
      refine sw_region hP 3 [(3, true)] rfl (by kernel_rfl) (fun _ => by kernel_rfl) ?_ ?_
      · skip
        simp only [conj, List.nil_append, List.cons_append, List.append_nil, List.append_assoc, inR_i64, true_and, and_true, Int.toNat_natCast]
        try dsimp only [Ty.den, Ty.dflt]
        repeat' apply And.intro
        all_goals first | trivial | assumption | omega | exact decide_eq_true ‹_› | exact decide_eq_false ‹_› | (simp [*]; done)
      refine sw_ret ⟨.inl rfl, _, rfl, ?_⟩
      simp [conj, ptrW, c1, *]
      try omega
    · skip
      replace g2_3 : ¬ sm = 0 := of_decide_eq_false g2_3
      refine sw_region hP 3 [(3, false)] rfl (by kernel_rfl) (fun _ => by kernel_rfl) ?_ ?_
      · skip
        simp only [conj, List.nil_append, List.cons_append, List.append_nil, List.append_assoc, inR_i64, true_and, and_true, Int.toNat_natCast]
        try dsimp only [Ty.den, Ty.dflt]
        repeat' apply And.intro
        all_goals first | trivial | assumption | omega | exact decide_eq_true ‹_› | exact decide_eq_false ‹_› | (simp [*]; done)
      refine sw_ret ⟨.inl rfl, _, rfl, ?_⟩
      simp [conj, ptrW, c1, *]
      try omega
  · skip
    replace c1 : ¬ sz = 0 := of_decide_eq_false c1
    refine sw_skip ?_
    refine sw_seq ?_
    refine sw_seq ?_
    refine sw_dec hP 3 [] 8 rfl (fun g3_8 => ?_) (fun g3_8 => ?_)
    · skip
      have k8 : inV sz 1 (mostV d) = false := by have h : (!inV sz 1 (mostV d)) = true := g3_8; simpa using h
      have hsz : sizeV d ((sz, sm, pl) : Ptr_) = false := by simp [sizeV, k8]
      refine sw_region hP 3 [(8, true)] rfl (by kernel_rfl) (fun _ => by kernel_rfl) ?_ ?_
      · skip
        simp only [conj, List.nil_append, List.cons_append, List.append_nil, List.append_assoc, inR_i64, true_and, and_true, Int.toNat_natCast]
        try dsimp only [Ty.den, Ty.dflt]
        repeat' apply And.intro
        all_goals first | trivial | assumption | omega | (show 0 ≤ sz; omega) | (show sz ≤ 1000000; omega) | (show _ ≤ mostV d; omega) | (show mostV d ≤ _; omega) | exact g3_8 | exact g3_14
      refine sw_condT rfl ?_
      refine sw_seq ?_
      refine sw_region hP 4 [] rfl (by kernel_rfl) (fun _ => by kernel_rfl) (by first | trivial | (simp [conj]; done) | (simp [conj] at *; (try dsimp only [Ty.den, Ty.dflt] at *); omega)) ?_
      refine sw_ret ⟨.inl rfl, _, rfl, ?_⟩
      simp [conj, ptrW, c1, hsz]
    · skip
      have k8 : inV sz 1 (mostV d) = true := by have h : (!inV sz 1 (mostV d)) = false := g3_8; simpa using h
      have hs1 : 1 ≤ sz ∧ sz ≤ mostV d := by simpa [inV] using k8
      have hcb := colsV_bd (n := sz) (by omega) (by omega)
      refine sw_dec hP 3 [(8, false)] 14 rfl (fun g3_14 => ?_) (fun g3_14 => ?_)
      · skip
        have k14 : inV sm 0 1000000000 = false := by have h : (!inV sm 0 1000000000) = true := g3_14; simpa using h
        have hsz : sizeV d ((sz, sm, pl) : Ptr_) = false := by simp [sizeV, k14]
        refine sw_region hP 3 [(8, false), (14, true)] rfl (by kernel_rfl) (fun _ => by kernel_rfl) ?_ ?_
        · skip
          simp only [conj, List.nil_append, List.cons_append, List.append_nil, List.append_assoc, inR_i64, true_and, and_true, Int.toNat_natCast]
          try dsimp only [Ty.den, Ty.dflt]
          repeat' apply And.intro
          all_goals first | trivial | assumption | omega | (show 0 ≤ sz; omega) | (show sz ≤ 1000000; omega) | (show _ ≤ mostV d; omega) | (show mostV d ≤ _; omega) | exact g3_8 | exact g3_14
        refine sw_condT rfl ?_
        refine sw_seq ?_
        refine sw_region hP 4 [] rfl (by kernel_rfl) (fun _ => by kernel_rfl) (by first | trivial | (simp [conj]; done) | (simp [conj] at *; (try dsimp only [Ty.den, Ty.dflt] at *); omega)) ?_
        refine sw_ret ⟨.inl rfl, _, rfl, ?_⟩
        simp [conj, ptrW, c1, hsz]
      · skip
        have k14 : inV sm 0 1000000000 = true := by have h : (!inV sm 0 1000000000) = false := g3_14; simpa using h
        refine sw_region hP 3 [(8, false), (14, false)] rfl (by kernel_rfl) (fun _ => by kernel_rfl) ?_ ?_
        · skip
          simp only [conj, List.nil_append, List.cons_append, List.append_nil, List.append_assoc, inR_i64, true_and, and_true, Int.toNat_natCast]
          try dsimp only [Ty.den, Ty.dflt]
          repeat' apply And.intro
          all_goals first | trivial | assumption | omega | (show 0 ≤ sz; omega) | (show sz ≤ 1000000; omega) | (show _ ≤ mostV d; omega) | (show mostV d ≤ _; omega) | exact g3_8 | exact g3_14
        refine sw_cond rfl (fun c3 => ?_) (fun c3 => ?_)
        · skip
          have hsz : sizeV d ((sz, sm, pl) : Ptr_) = false := by
            have h : (!decide ((pl.length : Int) = colsV sz + 1)) = true := c3
            simp [sizeV] at h ⊢; intros; omega
          refine sw_seq ?_
          refine sw_region hP 4 [] rfl (by kernel_rfl) (fun _ => by kernel_rfl) (by first | trivial | (simp [conj]; done) | (simp [conj] at *; (try dsimp only [Ty.den, Ty.dflt] at *); omega)) ?_
          refine sw_ret ⟨.inl rfl, _, rfl, ?_⟩
          simp [conj, ptrW, c1, hsz]
        · skip
          have hsz : sizeV d ((sz, sm, pl) : Ptr_) = true := by
            have h : (!decide ((pl.length : Int) = colsV sz + 1)) = false := c3
            simp [sizeV, k8, k14] at h ⊢; omega
          refine sw_skip ?_
          refine sw_seq ?_
          refine sw_seq ?_
          refine sw_region hP 4 [] rfl (by kernel_rfl) (fun _ => by kernel_rfl) (by first | trivial | (simp [conj]; done) | (simp [conj] at *; (try dsimp only [Ty.den, Ty.dflt] at *); omega)) ?_
          refine sw_block ?_
          refine sw_loop (ι := Nat) (fun i => ⟨[sInt .i64 d, .junk, .junk, .v false [.ptr ⟨1, 0, 0⟩ 0], .junk, sInt .i64 (i : Int), .junk, .junk, .junk, .junk, .junk, .junk, .junk, .junk, .junk, .junk, .junk, .junk, .junk, .junk, .junk, .junk, .junk, .junk, .junk, .junk, .junk, .junk, .junk, .junk, .junk, .junk, .junk, .junk, .junk, .junk, .junk, .junk, .junk, .junk, .junk, .junk, .junk, .junk, .junk, .junk, .junk, .junk, .junk, .junk, .junk, .junk, .junk, .junk, .junk, .junk, .junk, .junk, .junk, .junk, .junk, .junk, .junk, .junk, .junk, .junk, .junk, .junk, .junk, .junk, .junk, .junk, .junk, .junk, .junk, .junk, .junk, .junk, .junk, .junk, .junk, .junk, .junk, .junk, .junk, .junk, .junk, .junk], [(⟨1, 0, 0⟩, .var [.d TI pF sz, .d TI pF sm, .d (.sl T_Place) (.all .b) pl])], 4, []⟩) (fun i => pl.length - i) (fun i => i ≤ pl.length ∧ chkGo (placeF d) (pl.take i) (pl.drop i) = chk (placeF d) pl) 0 ⟨?_, ?_⟩ ?_
          · skip
            exact ⟨Nat.zero_le _, rfl⟩
          · refine ent_ok rfl ?_
            simp [conj]
          · rintro i ⟨hi, hgo⟩
            refine sw_seq ?_
            refine sw_seq ?_
            refine sw_region hP 5 [] rfl (by kernel_rfl) (fun _ => by kernel_rfl) (by first | trivial | (simp [conj]; done) | (simp [conj] at *; (try dsimp only [Ty.den, Ty.dflt] at *); omega)) ?_
            refine sw_cond rfl (fun c6 => ?_) (fun c6 => ?_)
            · skip
              have hlt : i < pl.length := by simpa using c6
              refine sw_skip ?_
              refine sw_seq ?_
              refine sw_block ?_
              refine sw_seq ?_
              refine sw_seq ?_
              refine sw_dec hP 6 [] 10 rfl (fun g8_10 => ?_) (fun g8_10 => ?_)
              · skip
                replace g8_10 : inV pl[i].1 0 (d - 1) = false := by simpa [List.getElem?_eq_getElem hlt] using g8_10
                have hf : placeF d (pl.take i) pl[i] = false := by simp [placeF, placeV_no1 g8_10]
                refine sw_region hP 6 [(10, true)] rfl (by kernel_rfl) (fun _ => by kernel_rfl) ?_ ?_
                · skip
                  simp [conj, List.getElem?_eq_getElem hlt]
                  repeat' apply And.intro
                  all_goals first | omega | assumption | (simp [*]; done) | trivial
                refine sw_condT rfl ?_
                refine sw_seq ?_
                refine sw_region hP 7 [] rfl (by kernel_rfl) (fun _ => by kernel_rfl) (by first | trivial | (simp [conj]; done) | (simp [conj] at *; (try dsimp only [Ty.den, Ty.dflt] at *); omega)) ?_
                refine sw_ret ⟨.inl rfl, _, rfl, ?_⟩
                have hv := chk_hit hlt hgo hf
                simp [conj, ptrW, c1, hsz, hv]
              · skip
                replace g8_10 : inV pl[i].1 0 (d - 1) = true := by simpa [List.getElem?_eq_getElem hlt] using g8_10
                refine sw_region hP 6 [(10, false)] rfl (by kernel_rfl) (fun _ => by kernel_rfl) ?_ ?_
                · skip
                  simp [conj, List.getElem?_eq_getElem hlt]
                  repeat' apply And.intro
                  all_goals first | omega | assumption | (simp [*]; done) | trivial
                refine sw_cond rfl (fun c8 => ?_) (fun c8 => ?_)
                · skip
                  replace c8 : inV pl[i].2 0 11 = false := by simpa [List.getElem?_eq_getElem hlt] using c8
                  have hf : placeF d (pl.take i) pl[i] = false := by simp [placeF, placeV_no2 c8]
                  refine sw_seq ?_
                  refine sw_region hP 7 [] rfl (by kernel_rfl) (fun _ => by kernel_rfl) (by first | trivial | (simp [conj]; done) | (simp [conj] at *; (try dsimp only [Ty.den, Ty.dflt] at *); omega)) ?_
                  refine sw_ret ⟨.inl rfl, _, rfl, ?_⟩
                  have hv := chk_hit hlt hgo hf
                  simp [conj, ptrW, c1, hsz, hv]
                · skip
                  replace c8 : inV pl[i].2 0 11 = true := by simpa [List.getElem?_eq_getElem hlt] using c8
                  have hpv : placeV d pl[i] = true := placeV_yes g8_10 c8
                  refine sw_skip ?_
                  refine sw_seq ?_
                  refine sw_region hP 7 [] rfl (by kernel_rfl) (fun _ => by kernel_rfl) (by first | trivial | (simp [conj]; done) | (simp [conj] at *; (try dsimp only [Ty.den, Ty.dflt] at *); omega)) ?_
                  refine sw_block ?_
                  refine sw_loop (ι := Nat) (fun k => ⟨[sInt .i64 d, .junk, .junk, .v false [.ptr ⟨1, 0, 0⟩ 0], .junk, sInt .i64 (i : Int), sInt .i64 (k : Int), .junk, .junk, .junk, .junk, .junk, .junk, .junk, .junk, .junk, .junk, .junk, .junk, .junk, .junk, .junk, .junk, .junk, .junk, .junk, .junk, .junk, .junk, .junk, .junk, .junk, .junk, .junk, .junk, .junk, .junk, .junk, .junk, .junk, .junk, .junk, .junk, .junk, .junk, .junk, .junk, .junk, .junk, .junk, .junk, .junk, .junk, .junk, .junk, .junk, .junk, .junk, .junk, .junk, .junk, .junk, .junk, .junk, .junk, .junk, .junk, .junk, .junk, .junk, .junk, .junk, .junk, .junk, .junk, .junk, .junk, .junk, .junk, .junk, .junk, .junk, .junk, .junk, .junk, .junk, .junk, .junk], [(⟨1, 0, 0⟩, .var [.d TI pF sz, .d TI pF sm, .d (.sl T_Place) (.all .b) pl])], 7, []⟩) (fun k => i - k) (fun k => k ≤ i ∧ (pl.take k).any (fun q : Plc => decide (q.1 = pl[i].1)) = false) 0 ⟨?_, ?_⟩ ?_
                  · skip
                    exact ⟨Nat.zero_le _, rfl⟩
                  · refine ent_ok rfl ?_
                    simp [conj]
                  · rintro k ⟨hk, hgk⟩
                    refine sw_seq ?_
                    refine sw_seq ?_
                    refine sw_region hP 8 [] rfl (by kernel_rfl) (fun _ => by kernel_rfl) (by first | trivial | (simp [conj]; done) | (simp [conj] at *; (try dsimp only [Ty.den, Ty.dflt] at *); omega)) ?_
                    refine sw_cond rfl (fun c11 => ?_) (fun c11 => ?_)
                    · skip
                      have hki : k < i := by simpa using c11
                      have hlk : k < pl.length := by omega
                      refine sw_skip ?_
                      refine sw_seq ?_
                      refine sw_block ?_
                      refine sw_seq ?_
                      refine sw_region hP 9 [] rfl (by kernel_rfl) (fun _ => by kernel_rfl) ?_ ?_
                      · skip
                        simp [conj, List.getElem?_eq_getElem hlt, List.getElem?_eq_getElem hlk]
                        repeat' apply And.intro
                        all_goals first | omega | trivial
                      refine sw_cond rfl (fun c13 => ?_) (fun c13 => ?_)
                      · skip
                        replace c13 : (fun q : Plc => decide (q.1 = pl[i].1)) pl[k] = true := by simpa [List.getElem?_eq_getElem hlt, List.getElem?_eq_getElem hlk] using c13
                        have hf : placeF d (pl.take i) pl[i] = false := by unfold placeF; rw [any_hit hki hlk c13]; simp
                        refine sw_seq ?_
                        refine sw_region hP 10 [] rfl (by kernel_rfl) (fun _ => by kernel_rfl) (by first | trivial | (simp [conj]; done) | (simp [conj] at *; (try dsimp only [Ty.den, Ty.dflt] at *); omega)) ?_
                        refine sw_ret ⟨.inl rfl, _, rfl, ?_⟩
                        have hv := chk_hit hlt hgo hf
                        simp [conj, ptrW, c1, hsz, hv]
                      · skip
                        replace c13 : (fun q : Plc => decide (q.1 = pl[i].1)) pl[k] = false := by simpa [List.getElem?_eq_getElem hlt, List.getElem?_eq_getElem hlk] using c13
                        refine sw_skip ?_
                        refine sw_region hP 10 [] rfl (by kernel_rfl) (fun _ => by kernel_rfl) (by first | trivial | (simp [conj]; done) | (simp [conj] at *; (try dsimp only [Ty.den, Ty.dflt] at *); omega)) ?_
                        refine ⟨k + 1, ?_, ?_, ent_ok rfl ?_⟩
                        · skip
                          exact ⟨hki, any_next hlk hgk c13⟩
                        · skip
                          omega
                        · skip
                          simp [conj]
                    · skip
                      obtain rfl : k = i := by simp at c11; omega
                      have hf : placeF d (pl.take k) pl[k] = true := by unfold placeF; rw [hpv, hgk]; rfl
                      refine sw_exit ?_
                      refine sw_region hP 9 [] rfl (by kernel_rfl) (fun _ => by kernel_rfl) (by first | trivial | (simp [conj]; done) | (simp [conj] at *; (try dsimp only [Ty.den, Ty.dflt] at *); omega)) ?_
                      refine ⟨k + 1, ?_, ?_, ent_ok rfl ?_⟩
                      · skip
                        exact ⟨hlt, chk_next hlt hgo hf⟩
                      · skip
                        omega
                      · skip
                        simp [conj]
            · skip
              obtain rfl : i = pl.length := by simp at c6; omega
              refine sw_exit ?_
              refine sw_seq ?_
              refine sw_region hP 6 [] rfl (by kernel_rfl) (fun _ => by kernel_rfl) (by first | trivial | (simp [conj]; done) | (simp [conj] at *; (try dsimp only [Ty.den, Ty.dflt] at *); omega)) ?_
              refine sw_ret ⟨.inl rfl, _, rfl, ?_⟩
              have hv := chk_end hgo
              simp [conj, ptrW, c1, hsz, hv]

def cMeet : Ctr := ⟨76, [.val true T_Ptr (.all .b), .val true T_Ptr (.all .b)], fun x => True, fun x => (sBool (meetV x.1 x.2.1), [])⟩
theorem cMeet_ok : CtrOk Proofs.Tryz.prog cMeet := by
  have hP := (Prg.none ttok mtok)
  refine ctr_of_body hP cMeet (fn := Proofs.Tryz.f76) (rts := [.tmp 4]) Proofs.Tryz.func76 rfl (by kernel_rfl) rfl rfl ?_
  rintro ⟨⟨(sz : Int), (sm : Int), (pl : List Plc)⟩, ⟨(sz2 : Int), (sm2 : Int), (pl2 : List Plc)⟩, ⟨⟩⟩ ⟨⟨_, _, h1⟩, ⟨_, _, h2⟩, _⟩ _
  try dsimp only [Ty.den, Mode.den, mdens] at _
  refine ⟨rfl, ?_⟩
  have hm1 : pl.length ≤ 140737488355328 := h1.1
  have hm2 : pl2.length ≤ 140737488355328 := h2.1
  refine sw_seq ?_
  refine sw_region hP 1 [] rfl (by kernel_rfl) (fun _ => by kernel_rfl) (by first | trivial | (simp [conj]; done) | (simp [conj] at *; (try dsimp only [Ty.den, Ty.dflt] at *); omega)) ?_
  refine sw_seq ?_
  refine sw_seq ?_
  refine sw_region hP 2 [] rfl (by kernel_rfl) (fun _ => by kernel_rfl) (by first | trivial | (simp [conj]; done) | (simp [conj] at *; (try dsimp only [Ty.den, Ty.dflt] at *); omega)) ?_
  refine sw_block ?_
  refine sw_loop (ι := Nat) (fun i => ⟨[.junk, .junk, .v false [.ptr ⟨1, 0, 0⟩ 0], .v false [.ptr ⟨1, 1, 0⟩ 0], .junk, sInt .i64 (i : Int), .junk, .junk, .junk, .junk, .junk, .junk, .junk, .junk, .junk, .junk, .junk, .junk, .junk, .junk, .junk, .junk, .junk, .junk, .junk, .junk, .junk, .junk, .junk, .junk, .junk, .junk], [(⟨1, 0, 0⟩, .var [.d TI pF sz, .d TI pF sm, .d (.sl T_Place) (.all .b) pl]), (⟨1, 1, 0⟩, .var [.d TI pF sz2, .d TI pF sm2, .d (.sl T_Place) (.all .b) pl2])], 2, []⟩) (fun i => pl.length - i) (fun i => i ≤ pl.length ∧ (pl.take i).any (fun a : Plc => pl2.any fun b => decide (a = b)) = false) 0 ⟨?_, ?_⟩ ?_
  · skip
    exact ⟨Nat.zero_le _, rfl⟩
  · refine ent_ok rfl ?_
    simp [conj]
  · rintro i ⟨hi, hgo⟩
    refine sw_seq ?_
    refine sw_seq ?_
    refine sw_region hP 3 [] rfl (by kernel_rfl) (fun _ => by kernel_rfl) (by first | trivial | (simp [conj]; done) | (simp [conj] at *; (try dsimp only [Ty.den, Ty.dflt] at *); omega)) ?_
    refine sw_cond rfl (fun c2 => ?_) (fun c2 => ?_)
    · skip
      have hlt : i < pl.length := by simpa using c2
      refine sw_skip ?_
      refine sw_seq ?_
      refine sw_block ?_
      refine sw_seq ?_
      refine sw_region hP 4 [] rfl (by kernel_rfl) (fun _ => by kernel_rfl) (by first | trivial | (simp [conj]; done) | (simp [conj] at *; (try dsimp only [Ty.den, Ty.dflt] at *); omega)) ?_
      refine sw_block ?_
      refine sw_loop (ι := Nat) (fun k => ⟨[.junk, .junk, .v false [.ptr ⟨1, 0, 0⟩ 0], .v false [.ptr ⟨1, 1, 0⟩ 0], .junk, sInt .i64 (i : Int), sInt .i64 (k : Int), .junk, .junk, .junk, .junk, .junk, .junk, .junk, .junk, .junk, .junk, .junk, .junk, .junk, .junk, .junk, .junk, .junk, .junk, .junk, .junk, .junk, .junk, .junk, .junk, .junk], [(⟨1, 0, 0⟩, .var [.d TI pF sz, .d TI pF sm, .d (.sl T_Place) (.all .b) pl]), (⟨1, 1, 0⟩, .var [.d TI pF sz2, .d TI pF sm2, .d (.sl T_Place) (.all .b) pl2])], 4, []⟩) (fun k => pl2.length - k) (fun k => k ≤ pl2.length ∧ (pl2.take k).any (fun b : Plc => decide (pl[i] = b)) = false) 0 ⟨?_, ?_⟩ ?_
      · skip
        exact ⟨Nat.zero_le _, rfl⟩
      · refine ent_ok rfl ?_
        simp [conj]
      · rintro k ⟨hk, hgk⟩
        refine sw_seq ?_
        refine sw_seq ?_
        refine sw_region hP 5 [] rfl (by kernel_rfl) (fun _ => by kernel_rfl) (by first | trivial | (simp [conj]; done) | (simp [conj] at *; (try dsimp only [Ty.den, Ty.dflt] at *); omega)) ?_
        refine sw_cond rfl (fun c5 => ?_) (fun c5 => ?_)
        · skip
          have hlk : k < pl2.length := by simpa using c5
          refine sw_skip ?_
          refine sw_seq ?_
          refine sw_block ?_
          refine sw_seq ?_
          refine sw_region hP 6 [] rfl (by kernel_rfl) (fun _ => by kernel_rfl) ?_ ?_
          · skip
            simp [conj, List.getElem?_eq_getElem hlt, List.getElem?_eq_getElem hlk]
            repeat' apply And.intro
            all_goals first | omega | trivial
          refine sw_cond rfl (fun c7 => ?_) (fun c7 => ?_)
          · skip
            have he : (fun b : Plc => decide (pl[i] = b)) pl2[k] = true := by
              have h := c7
              simp [List.getElem?_eq_getElem hlt, List.getElem?_eq_getElem hlk] at h
              simp only [decide_eq_true_eq]
              exact Prod.ext h.1 h.2
            have hv : meetV ((sz, sm, pl) : Ptr_) (sz2, sm2, pl2) = true := any_hit' (p := (fun a : Plc => pl2.any fun b => decide (a = b))) hlt (any_hit' (p := (fun b : Plc => decide (pl[i] = b))) hlk he)
            refine sw_seq ?_
            refine sw_region hP 7 [] rfl (by kernel_rfl) (fun _ => by kernel_rfl) (by first | trivial | (simp [conj]; done) | (simp [conj] at *; (try dsimp only [Ty.den, Ty.dflt] at *); omega)) ?_
            refine sw_ret ⟨.inl rfl, _, rfl, ?_⟩
            simp [conj, hv]
          · skip
            have he : (fun b : Plc => decide (pl[i] = b)) pl2[k] = false := by
              simp only [decide_eq_false_iff_not]
              intro e
              simp [List.getElem?_eq_getElem hlt, List.getElem?_eq_getElem hlk, e] at c7
            refine sw_skip ?_
            refine sw_region hP 7 [] rfl (by kernel_rfl) (fun _ => by kernel_rfl) (by first | trivial | (simp [conj]; done) | (simp [conj] at *; (try dsimp only [Ty.den, Ty.dflt] at *); omega)) ?_
            refine ⟨k + 1, ?_, ?_, ent_ok rfl ?_⟩
            · skip
              exact ⟨hlk, any_next hlk hgk he⟩
            · skip
              omega
            · skip
              simp [conj]
        · skip
          obtain rfl : k = pl2.length := by simp at c5; omega
          have hf := any_end hgk
          refine sw_exit ?_
          refine sw_region hP 6 [] rfl (by kernel_rfl) (fun _ => by kernel_rfl) (by first | trivial | (simp [conj]; done) | (simp [conj] at *; (try dsimp only [Ty.den, Ty.dflt] at *); omega)) ?_
          refine ⟨i + 1, ?_, ?_, ent_ok rfl ?_⟩
          · skip
            exact ⟨hlt, any_next hlt hgo hf⟩
          · skip
            omega
          · skip
            simp [conj]
    · skip
      obtain rfl : i = pl.length := by simp at c2; omega
      refine sw_exit ?_
      refine sw_seq ?_
      refine sw_region hP 4 [] rfl (by kernel_rfl) (fun _ => by kernel_rfl) (by first | trivial | (simp [conj]; done) | (simp [conj] at *; (try dsimp only [Ty.den, Ty.dflt] at *); omega)) ?_
      refine sw_ret ⟨.inl rfl, _, rfl, ?_⟩
      have hv : meetV ((sz, sm, pl) : Ptr_) (sz2, sm2, pl2) = false := any_end hgo
      simp [conj, hv]

def cSameS : Ctr := ⟨77, [.val true T_Ptr (.all .b), .val true T_Ptr (.all .b)], fun x => True, fun x => (sBool (decide ((x.1 : Ptr_) = x.2.1)), [])⟩
theorem cSameS_ok : CtrOk Proofs.Tryz.prog cSameS := by
  have hP := (Prg.none ttok mtok)
  refine ctr_of_body hP cSameS (fn := Proofs.Tryz.f77) (rts := [.tmp 4]) Proofs.Tryz.func77 rfl (by kernel_rfl) rfl rfl ?_
  rintro ⟨⟨(sz : Int), (sm : Int), (pl : List Plc)⟩, ⟨(sz2 : Int), (sm2 : Int), (pl2 : List Plc)⟩, ⟨⟩⟩ ⟨⟨_, _, h1⟩, ⟨_, _, h2⟩, _⟩ _
  try dsimp only [Ty.den, Mode.den, mdens] at _
  refine ⟨rfl, ?_⟩
  have hm1 : pl.length ≤ 140737488355328 := h1.1
  have hm2 : pl2.length ≤ 140737488355328 := h2.1
  refine sw_seq ?_
  refine sw_region hP 1 [] rfl (by kernel_rfl) (fun _ => by kernel_rfl) (by first | trivial | (simp [conj]; done) | (simp [conj] at *; (try dsimp only [Ty.den, Ty.dflt] at *); omega)) ?_
  refine sw_seq ?_
  refine sw_seq ?_
  refine sw_dec hP 2 [] 5 rfl (fun g1_5 => ?_) (fun g1_5 => ?_)
  · skip
    have k5 : ¬ sz = sz2 := by simpa using g1_5
    refine sw_region hP 2 [(5, true)] rfl (by kernel_rfl) (fun _ => by kernel_rfl) ?_ ?_
    · skip
      simp only [conj, List.nil_append, List.cons_append, List.append_nil, List.append_assoc, inR_i64, true_and, and_true, Int.toNat_natCast]
      try dsimp only [Ty.den, Ty.dflt]
      repeat' apply And.intro
      all_goals first | trivial | exact g1_5 | exact g1_12 | assumption
    refine sw_condT rfl ?_
    refine sw_seq ?_
    refine sw_region hP 3 [] rfl (by kernel_rfl) (fun _ => by kernel_rfl) (by first | trivial | (simp [conj]; done) | (simp [conj] at *; (try dsimp only [Ty.den, Ty.dflt] at *); omega)) ?_
    refine sw_ret ⟨.inl rfl, _, rfl, ?_⟩
    simp [conj, Prod.ext_iff, k5]
  · skip
    have k5 : sz = sz2 := by simpa using g1_5
    refine sw_dec hP 2 [(5, false)] 12 rfl (fun g1_12 => ?_) (fun g1_12 => ?_)
    · skip
      have k12 : ¬ sm = sm2 := by simpa using g1_12
      refine sw_region hP 2 [(5, false), (12, true)] rfl (by kernel_rfl) (fun _ => by kernel_rfl) ?_ ?_
      · skip
        simp only [conj, List.nil_append, List.cons_append, List.append_nil, List.append_assoc, inR_i64, true_and, and_true, Int.toNat_natCast]
        try dsimp only [Ty.den, Ty.dflt]
        repeat' apply And.intro
        all_goals first | trivial | exact g1_5 | exact g1_12 | assumption
      refine sw_condT rfl ?_
      refine sw_seq ?_
      refine sw_region hP 3 [] rfl (by kernel_rfl) (fun _ => by kernel_rfl) (by first | trivial | (simp [conj]; done) | (simp [conj] at *; (try dsimp only [Ty.den, Ty.dflt] at *); omega)) ?_
      refine sw_ret ⟨.inl rfl, _, rfl, ?_⟩
      simp [conj, Prod.ext_iff, k12]
    · skip
      have k12 : sm = sm2 := by simpa using g1_12
      refine sw_region hP 2 [(5, false), (12, false)] rfl (by kernel_rfl) (fun _ => by kernel_rfl) ?_ ?_
      · skip
        simp only [conj, List.nil_append, List.cons_append, List.append_nil, List.append_assoc, inR_i64, true_and, and_true, Int.toNat_natCast]
        try dsimp only [Ty.den, Ty.dflt]
        repeat' apply And.intro
        all_goals first | trivial | exact g1_5 | exact g1_12 | assumption
      refine sw_cond rfl (fun c1 => ?_) (fun c1 => ?_)
      · skip
        replace c1 : ¬ pl.length = pl2.length := by simp at c1; omega
        refine sw_seq ?_
        refine sw_region hP 3 [] rfl (by kernel_rfl) (fun _ => by kernel_rfl) (by first | trivial | (simp [conj]; done) | (simp [conj] at *; (try dsimp only [Ty.den, Ty.dflt] at *); omega)) ?_
        refine sw_ret ⟨.inl rfl, _, rfl, ?_⟩
        have hv := eqL_len c1
        replace hv : ¬ pl = pl2 := of_decide_eq_false hv
        simp [conj, Prod.ext_iff, hv]
      · skip
        replace c1 : pl.length = pl2.length := by simp at c1; omega
        refine sw_skip ?_
        refine sw_seq ?_
        refine sw_seq ?_
        refine sw_region hP 3 [] rfl (by kernel_rfl) (fun _ => by kernel_rfl) (by first | trivial | (simp [conj]; done) | (simp [conj] at *; (try dsimp only [Ty.den, Ty.dflt] at *); omega)) ?_
        refine sw_block ?_
        refine sw_loop (ι := Nat) (fun i => ⟨[.junk, .junk, .v false [.ptr ⟨1, 0, 0⟩ 0], .v false [.ptr ⟨1, 1, 0⟩ 0], .junk, sInt .i64 (i : Int), .junk, .junk, .junk, .junk, .junk, .junk, .junk, .junk, .junk, .junk, .junk, .junk, .junk, .junk, .junk, .junk, .junk, .junk, .junk, .junk, .junk, .junk, .junk, .junk, .junk, .junk, .junk, .junk, .junk, .junk, .junk, .junk, .junk, .junk, .junk, .junk, .junk, .junk, .junk], [(⟨1, 0, 0⟩, .var [.d TI pF sz, .d TI pF sm, .d (.sl T_Place) (.all .b) pl]), (⟨1, 1, 0⟩, .var [.d TI pF sz2, .d TI pF sm2, .d (.sl T_Place) (.all .b) pl2])], 3, []⟩) (fun i => pl.length - i) (fun i => i ≤ pl.length ∧ decide (pl.drop i = pl2.drop i) = decide (pl = pl2)) 0 ⟨?_, ?_⟩ ?_
        · skip
          exact ⟨Nat.zero_le _, rfl⟩
        · refine ent_ok rfl ?_
          simp [conj]
        · rintro i ⟨hi, hgo⟩
          refine sw_seq ?_
          refine sw_seq ?_
          refine sw_region hP 4 [] rfl (by kernel_rfl) (fun _ => by kernel_rfl) (by first | trivial | (simp [conj]; done) | (simp [conj] at *; (try dsimp only [Ty.den, Ty.dflt] at *); omega)) ?_
          refine sw_cond rfl (fun c4 => ?_) (fun c4 => ?_)
          · skip
            have hlt : i < pl.length := by simpa using c4
            have hlt2 : i < pl2.length := by omega
            refine sw_skip ?_
            refine sw_seq ?_
            refine sw_block ?_
            refine sw_seq ?_
            refine sw_region hP 5 [] rfl (by kernel_rfl) (fun _ => by kernel_rfl) ?_ ?_
            · skip
              simp [conj, List.getElem?_eq_getElem hlt, List.getElem?_eq_getElem hlt2]
              repeat' apply And.intro
              all_goals first | omega | trivial
            refine sw_cond rfl (fun c6 => ?_) (fun c6 => ?_)
            · skip
              replace c6 : ¬ pl[i] = pl2[i] := by intro e; simp [List.getElem?_eq_getElem hlt, List.getElem?_eq_getElem hlt2, e] at c6
              refine sw_seq ?_
              refine sw_region hP 6 [] rfl (by kernel_rfl) (fun _ => by kernel_rfl) (by first | trivial | (simp [conj]; done) | (simp [conj] at *; (try dsimp only [Ty.den, Ty.dflt] at *); omega)) ?_
              refine sw_ret ⟨.inl rfl, _, rfl, ?_⟩
              have hv := eqL_hit hlt hlt2 hgo c6
              replace hv : ¬ pl = pl2 := of_decide_eq_false hv
              simp [conj, Prod.ext_iff, hv]
            · skip
              replace c6 : pl[i] = pl2[i] := by have h := c6; simp [List.getElem?_eq_getElem hlt, List.getElem?_eq_getElem hlt2] at h; exact Prod.ext h.1 h.2
              refine sw_skip ?_
              refine sw_region hP 6 [] rfl (by kernel_rfl) (fun _ => by kernel_rfl) (by first | trivial | (simp [conj]; done) | (simp [conj] at *; (try dsimp only [Ty.den, Ty.dflt] at *); omega)) ?_
              refine ⟨i + 1, ?_, ?_, ent_ok rfl ?_⟩
              · skip
                exact ⟨hlt, eqL_next hlt hlt2 hgo c6⟩
              · skip
                omega
              · skip
                simp [conj]
          · skip
            obtain rfl : i = pl.length := by simp at c4; omega
            refine sw_exit ?_
            refine sw_seq ?_
            refine sw_region hP 5 [] rfl (by kernel_rfl) (fun _ => by kernel_rfl) (by first | trivial | (simp [conj]; done) | (simp [conj] at *; (try dsimp only [Ty.den, Ty.dflt] at *); omega)) ?_
            refine sw_ret ⟨.inl rfl, _, rfl, ?_⟩
            have hv := eqL_end c1 hgo
            replace hv : pl = pl2 := of_decide_eq_true hv
            simp [conj, k5, k12, hv]

def cAll : Ctr := ⟨74, [.val true T_Root (.all .b)], fun x => SmallV x.1.2, fun x => (.v false [.own ⟨1, 0, 0⟩], [(⟨1, 0, 0⟩, .sl T_Ptr (.all .b) (blksOf x.1.2))])⟩
theorem cAll_ok : CtrOk Proofs.Tryz.prog cAll := by
  have hP := (Prg.none ttok mtok)
  refine ctr_of_body hP cAll (fn := Proofs.Tryz.f74) (rts := [.tmp 2]) Proofs.Tryz.func74 rfl (by kernel_rfl) rfl rfl ?_
  rintro ⟨⟨(tg : Int), (l : List Vol_)⟩, ⟨⟩⟩ _ hpre
  try dsimp only [Ty.den, Mode.den, mdens] at hpre
  refine ⟨rfl, ?_⟩
  replace hpre : SmallV l := hpre
  have hml : l.length ≤ 100 := hpre.1
  refine sw_seq ?_
  refine sw_region hP 1 [] rfl (by kernel_rfl) (fun _ => by kernel_rfl) (by first | trivial | (simp [conj]; done) | (simp [conj] at *; (try dsimp only [Ty.den, Ty.dflt] at *); omega)) ?_
  refine sw_seq ?_
  refine sw_region hP 2 [] rfl (by kernel_rfl) (fun _ => by kernel_rfl) (by first | trivial | (simp [conj]; done) | (simp [conj] at *; (try dsimp only [Ty.den, Ty.dflt] at *); omega)) ?_
  refine sw_seq ?_
  refine sw_seq ?_
  refine sw_region hP 3 [] rfl (by kernel_rfl) (fun _ => by kernel_rfl) (by first | trivial | (simp [conj]; done) | (simp [conj] at *; (try dsimp only [Ty.den, Ty.dflt] at *); omega)) ?_
  refine sw_block ?_
  refine sw_loop (ι := Nat) (fun i => ⟨[.junk, .v false [.ptr ⟨1, 0, 0⟩ 0], .junk, .v false [.own ⟨0, 9, 0⟩], sInt .i64 (i : Int), .junk, .junk, .junk, .junk, .junk, .junk, .junk, .junk, .junk, .junk, .junk, .junk, .junk, .junk, .junk, .junk, .junk], [(⟨1, 0, 0⟩, .var [.d TI pF tg, .d (.sl T_Vol) (.all .b) l]), (⟨0, 9, 0⟩, .sl T_Ptr (.all .b) (blksOf (l.take i)))], 3, []⟩) (fun i => l.length - i) (fun i => i ≤ l.length) 0 ⟨?_, ?_⟩ ?_
  · skip
    exact Nat.zero_le _
  · refine ent_ok rfl ?_
    simp [conj, blksOf]
  · rintro i hi
    refine sw_seq ?_
    refine sw_seq ?_
    refine sw_region hP 4 [] rfl (by kernel_rfl) (fun _ => by kernel_rfl) (by first | trivial | (simp [conj]; done) | (simp [conj] at *; (try dsimp only [Ty.den, Ty.dflt] at *); omega)) ?_
    refine sw_cond rfl (fun c3 => ?_) (fun c3 => ?_)
    · skip
      have hlt : i < l.length := by simpa using c3
      have hb1 := blks_len hpre (i := i)
      have hb2 := hpre.2 _ (List.getElem_mem hlt)
      refine sw_skip ?_
      refine sw_seq ?_
      refine sw_block ?_
      refine sw_region hP 5 [] rfl (by kernel_rfl) (fun _ => by kernel_rfl) ?_ ?_
      · skip
        simp [conj, maxL, List.getElem?_eq_getElem hlt]
        omega
      refine sw_region hP 6 [] rfl (by kernel_rfl) (fun _ => by kernel_rfl) (by first | trivial | (simp [conj]; done) | (simp [conj] at *; (try dsimp only [Ty.den, Ty.dflt] at *); omega)) ?_
      refine ⟨i + 1, ?_, ?_, ent_ok rfl ?_⟩
      · skip
        exact hlt
      · skip
        omega
      · skip
        simp [conj, List.getElem?_eq_getElem hlt]
        exact flat_next hlt
    · skip
      obtain rfl : i = l.length := by simp at c3; omega
      refine sw_exit ?_
      refine sw_seq ?_
      refine sw_region hP 5 [] rfl (by kernel_rfl) (fun _ => by kernel_rfl) (by first | trivial | (simp [conj]; done) | (simp [conj] at *; (try dsimp only [Ty.den, Ty.dflt] at *); omega)) ?_
      refine sw_ret ⟨.inl rfl, _, rfl, ?_⟩
      simp [conj]
end Go.Sx

namespace Go.Sx
open Go
set_option maxRecDepth 100000
set_option linter.unusedVariables false
set_option linter.unusedSimpArgs false
set_option maxHeartbeats 2000000

def cVolsS : Ctr := ⟨45, [.val false TI pF, .val true T_Root (.all .b)], fun x => poolV x.1 = true ∧ List.length x.2.1.2 ≤ 4, fun x => (sBool (volsS x.1 x.2.1.2), [])⟩
theorem cVolsS_ok : CtrOk Proofs.Tryz.prog cVolsS := by
  have hP := ((((((Prg.none ttok mtok).and cName_ok).and cAll_ok).and cPtrS_ok).and cMeet_ok).and cSameS_ok)
  refine ctr_of_body hP cVolsS (fn := Proofs.Tryz.f45) (rts := [.tmp 4]) Proofs.Tryz.func45 rfl (by kernel_rfl) rfl rfl ?_
  rintro ⟨(d : Int), ⟨(tg : Int), (l : List Vol_)⟩, ⟨⟩⟩ ⟨_, ⟨_, hl0⟩, _⟩ ⟨hd1, h4⟩
  try dsimp only [Ty.den, Mode.den, mdens] at hd1
  try dsimp only [Ty.den, Mode.den, mdens] at h4
  refine ⟨rfl, ?_⟩
  replace hd1 : poolV d = true := hd1
  replace h4 : l.length ≤ 4 := h4
  refine sw_seq ?_
  refine sw_region hP 1 [] rfl (by kernel_rfl) (fun _ => by kernel_rfl) (by first | trivial | (simp [conj]; done) | (simp [conj] at *; (try dsimp only [Ty.den, Ty.dflt] at *); omega)) ?_
  refine sw_seq ?_
  refine sw_seq ?_
  refine sw_region hP 2 [] rfl (by kernel_rfl) (fun _ => by kernel_rfl) (by first | trivial | (simp [conj]; done) | (simp [conj] at *; (try dsimp only [Ty.den, Ty.dflt] at *); omega)) ?_
  refine sw_block ?_
  refine sw_loop (ι := Nat) (fun i => ⟨[sInt .i64 d, .junk, .junk, .v false [.ptr ⟨1, 0, 0⟩ 0], .junk, sInt .i64 (i : Int), .junk, .junk, .junk, .junk, .junk, .junk, .junk, .junk, .junk, .junk, .junk, .junk, .junk, .junk, .junk, .junk, .junk, .junk, .junk, .junk, .junk, .junk, .junk, .junk, .junk, .junk, .junk, .junk, .junk, .junk, .junk, .junk, .junk, .junk, .junk, .junk, .junk, .junk, .junk, .junk, .junk, .junk, .junk, .junk, .junk, .junk, .junk, .junk, .junk, .junk, .junk, .junk, .junk, .junk, .junk, .junk, .junk, .junk, .junk, .junk, .junk, .junk, .junk, .junk, .junk, .junk, .junk, .junk, .junk, .junk, .junk, .junk, .junk, .junk, .junk, .junk, .junk, .junk, .junk, .junk, .junk, .junk, .junk, .junk, .junk, .junk, .junk, .junk], [(⟨1, 0, 0⟩, .var [.d TI pF tg, .d (.sl T_Vol) (.all .b) l])], 2, []⟩) (fun i => l.length - i) (fun i => i ≤ l.length ∧ chkGo volG (l.take i) (l.drop i) = chk volG l) 0 ⟨?_, ?_⟩ ?_
  · skip
    exact ⟨Nat.zero_le _, rfl⟩
  · refine ent_ok rfl ?_
    simp [conj]
  · rintro i ⟨hi, hgo⟩
    refine sw_seq ?_
    refine sw_seq ?_
    refine sw_region hP 3 [] rfl (by kernel_rfl) (fun _ => by kernel_rfl) (by first | trivial | (simp [conj]; done) | (simp [conj] at *; (try dsimp only [Ty.den, Ty.dflt] at *); omega)) ?_
    refine sw_cond rfl (fun c2 => ?_) (fun c2 => ?_)
    · skip
      have hlt : i < l.length := by simpa using c2
      have hml2 : l[i].2.length ≤ 140737488355328 := (hl0.2 _ (List.getElem_mem hlt)).2.1
      refine sw_skip ?_
      refine sw_seq ?_
      refine sw_block ?_
      refine sw_seq ?_
      refine sw_seq ?_
      refine sw_dec hP 4 [] 8 rfl (fun g4_8 => ?_) (fun g4_8 => ?_)
      · skip
        have k8 : nameV l[i].1 = false := by simpa [List.getElem?_eq_getElem hlt] using g4_8
        have hf : volG (l.take i) l[i] = false := by simp [volG, k8]
        refine sw_region hP 4 [(8, true)] rfl (by kernel_rfl) (fun _ => by kernel_rfl) ?_ ?_
        · skip
          simp [conj, List.getElem?_eq_getElem hlt]
          repeat' apply And.intro
          all_goals first | omega | assumption | (simp [*]; done) | trivial
        refine sw_condT rfl ?_
        refine sw_seq ?_
        refine sw_region hP 5 [] rfl (by kernel_rfl) (fun _ => by kernel_rfl) (by first | trivial | (simp [conj]; done) | (simp [conj] at *; (try dsimp only [Ty.den, Ty.dflt] at *); omega)) ?_
        refine sw_ret ⟨.inl rfl, _, rfl, ?_⟩
        have hv := chk_hit hlt hgo hf
        simp [conj, volsS, hv]
      · skip
        have k8 : nameV l[i].1 = true := by simpa [List.getElem?_eq_getElem hlt] using g4_8
        refine sw_region hP 4 [(8, false)] rfl (by kernel_rfl) (fun _ => by kernel_rfl) ?_ ?_
        · skip
          simp [conj, List.getElem?_eq_getElem hlt]
          repeat' apply And.intro
          all_goals first | omega | assumption | (simp [*]; done) | trivial
        refine sw_cond rfl (fun c4 => ?_) (fun c4 => ?_)
        · skip
          replace c4 : ¬ l[i].2.length = 3 := by
            have h := c4
            simp [List.getElem?_eq_getElem hlt] at h
            omega
          have hf : volG (l.take i) l[i] = false := by simp [volG, c4]
          refine sw_seq ?_
          refine sw_region hP 5 [] rfl (by kernel_rfl) (fun _ => by kernel_rfl) (by first | trivial | (simp [conj]; done) | (simp [conj] at *; (try dsimp only [Ty.den, Ty.dflt] at *); omega)) ?_
          refine sw_ret ⟨.inl rfl, _, rfl, ?_⟩
          have hv := chk_hit hlt hgo hf
          simp [conj, volsS, hv]
        · skip
          replace c4 : l[i].2.length = 3 := by
            have h := c4
            simp [List.getElem?_eq_getElem hlt] at h
            omega
          refine sw_skip ?_
          refine sw_seq ?_
          refine sw_region hP 5 [] rfl (by kernel_rfl) (fun _ => by kernel_rfl) (by first | trivial | (simp [conj]; done) | (simp [conj] at *; (try dsimp only [Ty.den, Ty.dflt] at *); omega)) ?_
          refine sw_block ?_
          refine sw_loop (ι := Nat) (fun k => ⟨[sInt .i64 d, .junk, .junk, .v false [.ptr ⟨1, 0, 0⟩ 0], .junk, sInt .i64 (i : Int), sInt .i64 (k : Int), .junk, .junk, .junk, .junk, .junk, .junk, .junk, .junk, .junk, .junk, .junk, .junk, .junk, .junk, .junk, .junk, .junk, .junk, .junk, .junk, .junk, .junk, .junk, .junk, .junk, .junk, .junk, .junk, .junk, .junk, .junk, .junk, .junk, .junk, .junk, .junk, .junk, .junk, .junk, .junk, .junk, .junk, .junk, .junk, .junk, .junk, .junk, .junk, .junk, .junk, .junk, .junk, .junk, .junk, .junk, .junk, .junk, .junk, .junk, .junk, .junk, .junk, .junk, .junk, .junk, .junk, .junk, .junk, .junk, .junk, .junk, .junk, .junk, .junk, .junk, .junk, .junk, .junk, .junk, .junk, .junk, .junk, .junk, .junk, .junk, .junk, .junk], [(⟨1, 0, 0⟩, .var [.d TI pF tg, .d (.sl T_Vol) (.all .b) l])], 5, []⟩) (fun k => i - k) (fun k => k ≤ i ∧ (l.take k).any (fun w : Vol_ => decide (w.1 = l[i].1)) = false) 0 ⟨?_, ?_⟩ ?_
          · skip
            exact ⟨Nat.zero_le _, rfl⟩
          · refine ent_ok rfl ?_
            simp [conj]
          · rintro k ⟨hk, hgk⟩
            refine sw_seq ?_
            refine sw_seq ?_
            refine sw_region hP 6 [] rfl (by kernel_rfl) (fun _ => by kernel_rfl) (by first | trivial | (simp [conj]; done) | (simp [conj] at *; (try dsimp only [Ty.den, Ty.dflt] at *); omega)) ?_
            refine sw_cond rfl (fun c7 => ?_) (fun c7 => ?_)
            · skip
              have hki : k < i := by simpa using c7
              have hlk : k < l.length := by omega
              refine sw_skip ?_
              refine sw_seq ?_
              refine sw_block ?_
              refine sw_seq ?_
              refine sw_region hP 7 [] rfl (by kernel_rfl) (fun _ => by kernel_rfl) ?_ ?_
              · skip
                simp [conj, List.getElem?_eq_getElem hlt, List.getElem?_eq_getElem hlk]
                repeat' apply And.intro
                all_goals first | omega | trivial
              refine sw_cond rfl (fun c9 => ?_) (fun c9 => ?_)
              · skip
                replace c9 : (fun w : Vol_ => decide (w.1 = l[i].1)) l[k] = true := by simpa [List.getElem?_eq_getElem hlt, List.getElem?_eq_getElem hlk] using c9
                have hf : volG (l.take i) l[i] = false := by unfold volG; rw [any_hit hki hlk c9]; simp
                refine sw_seq ?_
                refine sw_region hP 8 [] rfl (by kernel_rfl) (fun _ => by kernel_rfl) (by first | trivial | (simp [conj]; done) | (simp [conj] at *; (try dsimp only [Ty.den, Ty.dflt] at *); omega)) ?_
                refine sw_ret ⟨.inl rfl, _, rfl, ?_⟩
                have hv := chk_hit hlt hgo hf
                simp [conj, volsS, hv]
              · skip
                replace c9 : (fun w : Vol_ => decide (w.1 = l[i].1)) l[k] = false := by simpa [List.getElem?_eq_getElem hlt, List.getElem?_eq_getElem hlk] using c9
                refine sw_skip ?_
                refine sw_region hP 8 [] rfl (by kernel_rfl) (fun _ => by kernel_rfl) (by first | trivial | (simp [conj]; done) | (simp [conj] at *; (try dsimp only [Ty.den, Ty.dflt] at *); omega)) ?_
                refine ⟨k + 1, ?_, ?_, ent_ok rfl ?_⟩
                · skip
                  exact ⟨hki, any_next hlk hgk c9⟩
                · skip
                  omega
                · skip
                  simp [conj]
            · skip
              obtain rfl : k = i := by simp at c7; omega
              have hf : volG (l.take k) l[k] = true := by unfold volG; rw [k8, hgk, c4]; rfl
              refine sw_exit ?_
              refine sw_region hP 7 [] rfl (by kernel_rfl) (fun _ => by kernel_rfl) (by first | trivial | (simp [conj]; done) | (simp [conj] at *; (try dsimp only [Ty.den, Ty.dflt] at *); omega)) ?_
              refine ⟨k + 1, ?_, ?_, ent_ok rfl ?_⟩
              · skip
                exact ⟨hlt, chk_next hlt hgo hf⟩
              · skip
                omega
              · skip
                simp [conj]
    · skip
      obtain rfl : i = l.length := by simp at c2; omega
      have hvg : chk volG l = true := chk_end hgo
      have hsv := volG_small hvg h4
      have hbl := blks_all hsv
      refine sw_exit ?_
      refine sw_seq ?_
      refine sw_region hP 4 [] rfl (by kernel_rfl) (fun _ => by kernel_rfl) ?_ ?_
      · skip
        simp [conj, maxL]
        try dsimp only [Ty.den, Ty.dflt]
        try simp only [rd_eta]
        exact hsv
      refine sw_seq ?_
      refine sw_seq ?_
      refine sw_region hP 5 [] rfl (by kernel_rfl) (fun _ => by kernel_rfl) (by first | trivial | (simp [conj]; done) | (simp [conj] at *; (try dsimp only [Ty.den, Ty.dflt] at *); omega)) ?_
      refine sw_block ?_
      refine sw_loop (ι := Nat) (fun n => ⟨[sInt .i64 d, .junk, .junk, .v false [.ptr ⟨1, 0, 0⟩ 0], .junk, .junk, .junk, .v false [.own ⟨0, 9, 0⟩], sInt .i64 (n : Int), .junk, .junk, .junk, .junk, .junk, .junk, .junk, .junk, .junk, .junk, .junk, .junk, .junk, .junk, .junk, .junk, .junk, .junk, .junk, .junk, .junk, .junk, .junk, .junk, .junk, .junk, .junk, .junk, .junk, .junk, .junk, .junk, .junk, .junk, .junk, .junk, .junk, .junk, .junk, .junk, .junk, .junk, .junk, .junk, .junk, .junk, .junk, .junk, .junk, .junk, .junk, .junk, .junk, .junk, .junk, .junk, .junk, .junk, .junk, .junk, .junk, .junk, .junk, .junk, .junk, .junk, .junk, .junk, .junk, .junk, .junk, .junk, .junk, .junk, .junk, .junk, .junk, .junk, .junk, .junk, .junk, .junk, .junk, .junk, .junk], [(⟨1, 0, 0⟩, .var [.d TI pF tg, .d (.sl T_Vol) (.all .b) l]), (⟨0, 9, 0⟩, .sl T_Ptr (.all .b) (blksOf l))], 5, []⟩) (fun n => (blksOf l).length - n) (fun n => n ≤ (blksOf l).length ∧ chkGo (ptrG d) ((blksOf l).take n) ((blksOf l).drop n) = chk (ptrG d) (blksOf l)) 0 ⟨?_, ?_⟩ ?_
      · skip
        exact ⟨Nat.zero_le _, rfl⟩
      · refine ent_ok rfl ?_
        simp [conj]
      · rintro n ⟨hn, hgn⟩
        refine sw_seq ?_
        refine sw_seq ?_
        refine sw_region hP 6 [] rfl (by kernel_rfl) (fun _ => by kernel_rfl) (by first | trivial | (simp [conj]; done) | (simp [conj] at *; (try dsimp only [Ty.den, Ty.dflt] at *); omega)) ?_
        refine sw_cond rfl (fun c13 => ?_) (fun c13 => ?_)
        · skip
          have hln : n < (blksOf l).length := by simpa using c13
          refine sw_skip ?_
          refine sw_seq ?_
          refine sw_block ?_
          refine sw_seq ?_
          refine sw_seq ?_
          refine sw_region hP 7 [] rfl (by kernel_rfl) (fun _ => by kernel_rfl) ?_ ?_
          · skip
            simp [conj, List.getElem?_eq_getElem hln]
            repeat' apply And.intro
            all_goals first | omega | exact hd1 | trivial
          refine sw_cond rfl (fun c15 => ?_) (fun c15 => ?_)
          · skip
            replace c15 : ptrW d (blksOf l)[n] = false := by simpa [List.getElem?_eq_getElem hln] using c15
            have hf : ptrG d ((blksOf l).take n) (blksOf l)[n] = false := by simp [ptrG, c15]
            refine sw_seq ?_
            refine sw_region hP 8 [] rfl (by kernel_rfl) (fun _ => by kernel_rfl) (by first | trivial | (simp [conj]; done) | (simp [conj] at *; (try dsimp only [Ty.den, Ty.dflt] at *); omega)) ?_
            refine sw_ret ⟨.inl rfl, _, rfl, ?_⟩
            have hv := chk_hit hln hgn hf
            simp [conj, volsS, hvg, hv]
          · skip
            replace c15 : ptrW d (blksOf l)[n] = true := by simpa [List.getElem?_eq_getElem hln] using c15
            refine sw_skip ?_
            refine sw_seq ?_
            refine sw_region hP 8 [] rfl (by kernel_rfl) (fun _ => by kernel_rfl) (by first | trivial | (simp [conj]; done) | (simp [conj] at *; (try dsimp only [Ty.den, Ty.dflt] at *); omega)) ?_
            refine sw_block ?_
            refine sw_loop (ι := Nat) (fun m => ⟨[sInt .i64 d, .junk, .junk, .v false [.ptr ⟨1, 0, 0⟩ 0], .junk, .junk, .junk, .v false [.own ⟨0, 9, 0⟩], sInt .i64 (n : Int), sInt .i64 (m : Int), .junk, .junk, .junk, .junk, .junk, .junk, .junk, .junk, .junk, .junk, .junk, .junk, .junk, .junk, .junk, .junk, .junk, .junk, .junk, .junk, .junk, .junk, .junk, .junk, .junk, .junk, .junk, .junk, .junk, .junk, .junk, .junk, .junk, .junk, .junk, .junk, .junk, .junk, .junk, .junk, .junk, .junk, .junk, .junk, .junk, .junk, .junk, .junk, .junk, .junk, .junk, .junk, .junk, .junk, .junk, .junk, .junk, .junk, .junk, .junk, .junk, .junk, .junk, .junk, .junk, .junk, .junk, .junk, .junk, .junk, .junk, .junk, .junk, .junk, .junk, .junk, .junk, .junk, .junk, .junk, .junk, .junk, .junk, .junk], [(⟨1, 0, 0⟩, .var [.d TI pF tg, .d (.sl T_Vol) (.all .b) l]), (⟨0, 9, 0⟩, .sl T_Ptr (.all .b) (blksOf l))], 8, []⟩) (fun m => n - m) (fun m => m ≤ n ∧ ((blksOf l).take m).any (fun q : Ptr_ => meetV (blksOf l)[n] q && !decide ((blksOf l)[n] = q)) = false) 0 ⟨?_, ?_⟩ ?_
            · skip
              exact ⟨Nat.zero_le _, rfl⟩
            · refine ent_ok rfl ?_
              simp [conj]
            · rintro m ⟨hm, hgm⟩
              refine sw_seq ?_
              refine sw_seq ?_
              refine sw_region hP 9 [] rfl (by kernel_rfl) (fun _ => by kernel_rfl) (by first | trivial | (simp [conj]; done) | (simp [conj] at *; (try dsimp only [Ty.den, Ty.dflt] at *); omega)) ?_
              refine sw_cond rfl (fun c18 => ?_) (fun c18 => ?_)
              · skip
                have hmn : m < n := by simpa using c18
                have hlm : m < (blksOf l).length := by omega
                refine sw_skip ?_
                refine sw_seq ?_
                refine sw_block ?_
                refine sw_seq ?_
                refine sw_dec hP 10 [] 9 rfl (fun g20_9 => ?_) (fun g20_9 => ?_)
                · skip
                  have k9 : meetV (blksOf l)[n] (blksOf l)[m] = true := by simpa [List.getElem?_eq_getElem hln, List.getElem?_eq_getElem hlm] using g20_9
                  refine sw_region hP 10 [(9, true)] rfl (by kernel_rfl) (fun _ => by kernel_rfl) ?_ ?_
                  · skip
                    simp [conj, List.getElem?_eq_getElem hln, List.getElem?_eq_getElem hlm]
                    repeat' apply And.intro
                    all_goals first | omega | assumption | exact k9 | trivial
                  refine sw_cond rfl (fun c20 => ?_) (fun c20 => ?_)
                  · skip
                    replace c20 : ¬ (blksOf l)[n] = (blksOf l)[m] := by
                      intro e
                      simp [List.getElem?_eq_getElem hln, List.getElem?_eq_getElem hlm, e] at c20
                    have hq : (fun q : Ptr_ => meetV (blksOf l)[n] q && !decide ((blksOf l)[n] = q)) (blksOf l)[m] = true := by simp only [k9]; simp [c20]
                    have hf : ptrG d ((blksOf l).take n) (blksOf l)[n] = false := by unfold ptrG; rw [any_hit hmn hlm hq]; simp
                    refine sw_seq ?_
                    refine sw_region hP 11 [] rfl (by kernel_rfl) (fun _ => by kernel_rfl) (by first | trivial | (simp [conj]; done) | (simp [conj] at *; (try dsimp only [Ty.den, Ty.dflt] at *); omega)) ?_
                    refine sw_ret ⟨.inl rfl, _, rfl, ?_⟩
                    have hv := chk_hit hln hgn hf
                    simp [conj, volsS, hvg, hv]
                  · skip
                    replace c20 : (blksOf l)[n] = (blksOf l)[m] := by
                      have h := c20
                      simp [List.getElem?_eq_getElem hln, List.getElem?_eq_getElem hlm] at h
                      exact Prod.ext h.1 (Prod.ext h.2.1 h.2.2)
                    have hq : (fun q : Ptr_ => meetV (blksOf l)[n] q && !decide ((blksOf l)[n] = q)) (blksOf l)[m] = false := by simp only [c20]; simp
                    refine sw_skip ?_
                    refine sw_region hP 11 [] rfl (by kernel_rfl) (fun _ => by kernel_rfl) (by first | trivial | (simp [conj]; done) | (simp [conj] at *; (try dsimp only [Ty.den, Ty.dflt] at *); omega)) ?_
                    refine ⟨m + 1, ?_, ?_, ent_ok rfl ?_⟩
                    · skip
                      exact ⟨hmn, any_next hlm hgm hq⟩
                    · skip
                      omega
                    · skip
                      simp [conj]
                · skip
                  have k9 : meetV (blksOf l)[n] (blksOf l)[m] = false := by simpa [List.getElem?_eq_getElem hln, List.getElem?_eq_getElem hlm] using g20_9
                  have hq : (fun q : Ptr_ => meetV (blksOf l)[n] q && !decide ((blksOf l)[n] = q)) (blksOf l)[m] = false := by simp only [k9]; rfl
                  refine sw_region hP 10 [(9, false)] rfl (by kernel_rfl) (fun _ => by kernel_rfl) ?_ ?_
                  · skip
                    simp [conj, List.getElem?_eq_getElem hln, List.getElem?_eq_getElem hlm]
                    repeat' apply And.intro
                    all_goals first | omega | assumption | exact k9 | trivial
                  refine sw_condF rfl ?_
                  refine sw_skip ?_
                  refine sw_region hP 11 [] rfl (by kernel_rfl) (fun _ => by kernel_rfl) (by first | trivial | (simp [conj]; done) | (simp [conj] at *; (try dsimp only [Ty.den, Ty.dflt] at *); omega)) ?_
                  refine ⟨m + 1, ?_, ?_, ent_ok rfl ?_⟩
                  · skip
                    exact ⟨hmn, any_next hlm hgm hq⟩
                  · skip
                    omega
                  · skip
                    simp [conj]
              · skip
                obtain rfl : m = n := by simp at c18; omega
                have hf : ptrG d ((blksOf l).take m) (blksOf l)[m] = true := by unfold ptrG; rw [c15, hgm]; rfl
                refine sw_exit ?_
                refine sw_region hP 10 [] rfl (by kernel_rfl) (fun _ => by kernel_rfl) (by first | trivial | (simp [conj]; done) | (simp [conj] at *; (try dsimp only [Ty.den, Ty.dflt] at *); omega)) ?_
                refine ⟨m + 1, ?_, ?_, ent_ok rfl ?_⟩
                · skip
                  exact ⟨hln, chk_next hln hgn hf⟩
                · skip
                  omega
                · skip
                  simp [conj]
        · skip
          obtain rfl : n = (blksOf l).length := by simp at c13; omega
          refine sw_exit ?_
          refine sw_seq ?_
          refine sw_region hP 7 [] rfl (by kernel_rfl) (fun _ => by kernel_rfl) (by first | trivial | (simp [conj]; done) | (simp [conj] at *; (try dsimp only [Ty.den, Ty.dflt] at *); omega)) ?_
          refine sw_ret ⟨.inl rfl, _, rfl, ?_⟩
          have hv := chk_end hgn
          simp [conj, volsS, hvg, hv]

def cRootOkS : Ctr := ⟨19, [.val false TI pF, .val true T_Root (.all .b)], fun x => True, fun x => (sBool (rootS x.1 x.2.1), [])⟩
theorem cRootOkS_ok : CtrOk Proofs.Tryz.prog cRootOkS := by
  have hP := ((((Prg.none ttok mtok).and cDisks_ok).and cIn_ok).and cVolsS_ok)
  refine ctr_of_body hP cRootOkS (fn := Proofs.Tryz.f19) (rts := [.tmp 4]) Proofs.Tryz.func19 rfl (by kernel_rfl) rfl rfl ?_
  rintro ⟨(d : Int), ⟨(tg : Int), (l : List Vol_)⟩, ⟨⟩⟩ _ _
  try dsimp only [Ty.den, Mode.den, mdens] at _
  refine ⟨rfl, ?_⟩
  refine sw_seq ?_
  refine sw_region hP 1 [] rfl (by kernel_rfl) (fun _ => by kernel_rfl) (by first | trivial | (simp [conj]; done) | (simp [conj] at *; (try dsimp only [Ty.den, Ty.dflt] at *); omega)) ?_
  refine sw_seq ?_
  refine sw_dec hP 2 [] 2 rfl (fun g1_2 => ?_) (fun g1_2 => ?_)
  · skip
    have k2 : poolV d = true := g1_2
    refine sw_dec hP 2 [(2, true)] 7 rfl (fun g1_7 => ?_) (fun g1_7 => ?_)
    · skip
      have k7 : inV tg 0 100000 = true := g1_7
      refine sw_dec hP 2 [(2, true), (7, true)] 13 rfl (fun g1_13 => ?_) (fun g1_13 => ?_)
      · skip
        have k13 : l.length ≤ 4 := by have h := g1_13; simp at h; omega
        refine sw_region hP 2 [(2, true), (7, true), (13, true)] rfl (by kernel_rfl) (fun _ => by kernel_rfl) ?_ ?_
        · skip
          simp only [conj, List.nil_append, List.cons_append, List.append_nil, List.append_assoc, inR_i64, true_and, and_true, Int.toNat_natCast]
          try dsimp only [Ty.den, Ty.dflt]
          repeat' apply And.intro
          all_goals first | trivial | exact g1_2 | exact g1_7 | exact g1_13 | assumption | exact k2 | exact k13
        refine sw_ret ⟨.inl rfl, _, rfl, ?_⟩
        simp [conj, rootS, *]
      · skip
        have k13 : ¬ l.length ≤ 4 := by have h := g1_13; simp at h; omega
        refine sw_region hP 2 [(2, true), (7, true), (13, false)] rfl (by kernel_rfl) (fun _ => by kernel_rfl) ?_ ?_
        · skip
          simp only [conj, List.nil_append, List.cons_append, List.append_nil, List.append_assoc, inR_i64, true_and, and_true, Int.toNat_natCast]
          try dsimp only [Ty.den, Ty.dflt]
          repeat' apply And.intro
          all_goals first | trivial | exact g1_2 | exact g1_7 | exact g1_13 | assumption | exact k2 | exact k13
        refine sw_ret ⟨.inl rfl, _, rfl, ?_⟩
        simp [conj, rootS, *]
    · skip
      have k7 : inV tg 0 100000 = false := g1_7
      refine sw_region hP 2 [(2, true), (7, false)] rfl (by kernel_rfl) (fun _ => by kernel_rfl) ?_ ?_
      · skip
        simp only [conj, List.nil_append, List.cons_append, List.append_nil, List.append_assoc, inR_i64, true_and, and_true, Int.toNat_natCast]
        try dsimp only [Ty.den, Ty.dflt]
        repeat' apply And.intro
        all_goals first | trivial | exact g1_2 | exact g1_7 | exact g1_13 | assumption | exact k2 | exact k13
      refine sw_ret ⟨.inl rfl, _, rfl, ?_⟩
      simp [conj, rootS, *]
  · skip
    have k2 : poolV d = false := g1_2
    refine sw_region hP 2 [(2, false)] rfl (by kernel_rfl) (fun _ => by kernel_rfl) ?_ ?_
    · skip
      simp only [conj, List.nil_append, List.cons_append, List.append_nil, List.append_assoc, inR_i64, true_and, and_true, Int.toNat_natCast]
      try dsimp only [Ty.den, Ty.dflt]
      repeat' apply And.intro
      all_goals first | trivial | exact g1_2 | exact g1_7 | exact g1_13 | assumption | exact k2 | exact k13
    refine sw_ret ⟨.inl rfl, _, rfl, ?_⟩
    simp [conj, rootS, *]

def cDecK (k : Nat) : Ctr := ⟨21, [.val false TI pF], fun x => 0 ≤ x.1 ∧ 1 ≤ k ∧ x.1 < 10 ^ k, fun x => (sStr (itoaV x.1), [])⟩
theorem cDecK_ok : ∀ k, CtrOk Proofs.Tryz.prog (cDecK k) := by
  intro k
  induction k with
  | zero =>
    rintro G w args ⟨(n : Int), ⟨⟩⟩ _ _ _ ⟨_, h1, _⟩
    exact absurd h1 (by decide)
  | succ k ih =>
    have hP := ((Prg.none ttok mtok).and ih)
    refine ctr_of_body hP (cDecK (k + 1)) (fn := Proofs.Tryz.f21) (rts := [.tmp 2]) Proofs.Tryz.func21 rfl (by kernel_rfl) rfl rfl ?_
    rintro ⟨(n : Int), ⟨⟩⟩ ⟨hn0, _⟩ ⟨h0, _, h1⟩
    try dsimp only [Ty.den, Mode.den, mdens] at h0
    try dsimp only [Ty.den, Mode.den, mdens] at _
    try dsimp only [Ty.den, Mode.den, mdens] at h1
    refine ⟨rfl, ?_⟩
    replace hn0 : inR .i64 n := hn0
    rw [inR_i64] at hn0
    replace h0 : 0 ≤ n := h0
    replace h1 : n < 10 ^ (k + 1) := h1
    rw [Int.pow_succ] at h1
    have hq : n.tdiv 10 = n / 10 := Int.tdiv_eq_ediv_of_nonneg h0
    have hr : n.tmod 10 = n % 10 := Int.tmod_eq_emod_of_nonneg h0
    have hlq : (itoaV (n.tdiv 10)).length ≤ 21 := itoaV_len (by rw [inR_i64]; omega)
    refine sw_seq ?_
    refine sw_region hP 1 [] rfl (by kernel_rfl) (fun _ => by kernel_rfl) (by first | trivial | (simp [conj]; done) | (simp [conj] at *; (try dsimp only [Ty.den, Ty.dflt] at *); omega)) ?_
    refine sw_seq ?_
    refine sw_seq ?_
    refine sw_region hP 2 [] rfl (by kernel_rfl) (fun _ => by kernel_rfl) (by first | trivial | (simp [conj]; done) | (simp [conj] at *; (try dsimp only [Ty.den, Ty.dflt] at *); omega)) ?_
    refine sw_cond rfl (fun c1 => ?_) (fun c1 => ?_)
    · skip
      have h : n < -9223372036854775807 := of_decide_eq_true c1
      omega
    · skip
      refine sw_skip ?_
      refine sw_seq ?_
      refine sw_seq ?_
      refine sw_region hP 3 [] rfl (by kernel_rfl) (fun _ => by kernel_rfl) (by first | trivial | (simp [conj]; done) | (simp [conj] at *; (try dsimp only [Ty.den, Ty.dflt] at *); omega)) ?_
      refine sw_cond rfl (fun c3 => ?_) (fun c3 => ?_)
      · skip
        have h : n < 0 := of_decide_eq_true c3
        omega
      · skip
        refine sw_skip ?_
        refine sw_seq ?_
        refine sw_seq ?_
        refine sw_region hP 4 [] rfl (by kernel_rfl) (fun _ => by kernel_rfl) (by first | trivial | (simp [conj]; done) | (simp [conj] at *; (try dsimp only [Ty.den, Ty.dflt] at *); omega)) ?_
        refine sw_cond rfl (fun c5 => ?_) (fun c5 => ?_)
        · skip
          replace c5 : n < 10 := of_decide_eq_true c5
          refine sw_seq ?_
          refine sw_region hP 5 [] rfl (by kernel_rfl) (fun _ => by kernel_rfl) ?_ ?_
          · skip
            simp only [conj, List.nil_append, List.cons_append, List.append_nil, List.append_assoc, inR_i64, inR_u8, true_and, and_true, Int.toNat_natCast]
            try dsimp only [Ty.den, Ty.dflt]
            repeat' apply And.intro
            all_goals first | omega | trivial
          refine sw_ret ⟨.inl rfl, _, rfl, ?_⟩
          simp [conj, ofBytes]
          exact (itoaV_small h0 c5).symm
        · skip
          replace c5 : ¬ n < 10 := of_decide_eq_false c5
          have hk : 1 ≤ k := by
            rcases k with _ | k
            · simp at h1; omega
            · omega
          refine sw_skip ?_
          refine sw_seq ?_
          refine sw_region hP 5 [] rfl (by kernel_rfl) (fun _ => by kernel_rfl) ?_ ?_
          · skip
            simp only [conj, List.nil_append, List.cons_append, List.append_nil, List.append_assoc, inR_i64, inR_u8, true_and, and_true, Int.toNat_natCast]
            try dsimp only [Ty.den, Ty.dflt]
            repeat' apply And.intro
            all_goals first | omega | (show 0 ≤ n.tdiv 10; omega) | (show n.tdiv 10 < 10 ^ k; omega) | (show _ ≤ n.tdiv 10; omega) | (show n.tdiv 10 ≤ _; omega) | (show _ ≤ 48 + n.tmod 10; omega) | (show 48 + n.tmod 10 ≤ _; omega) | trivial | exact hk | (show (itoaV (n.tdiv 10)).length + 1 ≤ 140737488355328; omega) | trace_state
          refine sw_ret ⟨.inl rfl, _, rfl, ?_⟩
          simp [conj, ofBytes]
          rw [itoaV_big h0 c5, hq, hr]
def cDec : Ctr := ⟨(cDecK 0).f, [.val false TI pF], fun x => 0 ≤ x.1, fun x => (sStr (itoaV x.1), [])⟩
theorem cDec_ok : CtrOk Proofs.Tryz.prog cDec := by
  rintro G w args ⟨(n : Int), ⟨⟩⟩ hb ha hargs h0
  have hn : inR .i64 n := by
    obtain ⟨v, vs, _, ⟨_, cs, _, _, ⟨_, hn⟩⟩, _⟩ := hargs
    exact hn
  rw [inR_i64] at hn
  exact cDecK_ok 19 G w args (n, ()) hb ha hargs ⟨h0, by decide, by show n < (10 : Int) ^ 19; rw [show (10 : Int) ^ 19 = 10000000000000000000 by decide]; omega⟩

def cLineS : Ctr := ⟨46, [.val true T_Ptr (.all .b)], fun x => ∃ d, ptrV d x.1 = true, fun x => (sStr (lineV x.1), [])⟩
theorem cLineS_ok : CtrOk Proofs.Tryz.prog cLineS := by
  have hP := ((Prg.none ttok mtok).and cDec_ok)
  refine ctr_of_body hP cLineS (fn := Proofs.Tryz.f46) (rts := [.tmp 2]) Proofs.Tryz.func46 rfl (by kernel_rfl) rfl rfl ?_
  rintro ⟨⟨(sz : Int), (sm : Int), (pl : List Plc)⟩, ⟨⟩⟩ ⟨⟨hz0, hm0, hpl0⟩, _⟩ ⟨d, hpre⟩
  try dsimp only [Ty.den, Mode.den, mdens] at d
  try dsimp only [Ty.den, Mode.den, mdens] at hpre
  refine ⟨rfl, ?_⟩
  replace hpre : ptrV d ((sz, sm, pl) : Ptr_) = true := hpre
  have hl4 : pl.length ≤ 4 := ptrV_len hpre
  have hi1 : (itoaV sz).length ≤ 21 := itoaV_len hz0
  have hi2 : (itoaV sm).length ≤ 21 := itoaV_len hm0
  refine sw_seq ?_
  refine sw_region hP 1 [] rfl (by kernel_rfl) (fun _ => by kernel_rfl) (by first | trivial | (simp [conj]; done) | (simp [conj] at *; (try dsimp only [Ty.den, Ty.dflt] at *); omega)) ?_
  refine sw_seq ?_
  refine sw_seq ?_
  refine sw_region hP 2 [] rfl (by kernel_rfl) (fun _ => by kernel_rfl) (by first | trivial | (simp [conj]; done) | (simp [conj] at *; (try dsimp only [Ty.den, Ty.dflt] at *); omega)) ?_
  refine sw_cond rfl (fun c1 => ?_) (fun c1 => ?_)
  · skip
    replace c1 : sz = 0 := of_decide_eq_true c1
    have hnn : noneV ((sz, sm, pl) : Ptr_) = true := ptrV_none hpre c1
    refine sw_seq ?_
    refine sw_region hP 3 [] rfl (by kernel_rfl) (fun _ => by kernel_rfl) (by first | trivial | (simp [conj]; done) | (simp [conj] at *; (try dsimp only [Ty.den, Ty.dflt] at *); omega)) ?_
    refine sw_ret ⟨.inl rfl, _, rfl, ?_⟩
    simp [conj, lineV, hnn, bytesL]
    rfl
  · skip
    replace c1 : ¬ sz = 0 := of_decide_eq_false c1
    have hnn : noneV ((sz, sm, pl) : Ptr_) = false := by simp [noneV, c1]
    obtain ⟨hp1, hp2, hp3⟩ := ptrV_pos hpre c1
    refine sw_skip ?_
    refine sw_seq ?_
    refine sw_region hP 3 [] rfl (by kernel_rfl) (fun _ => by kernel_rfl) ?_ ?_
    · skip
      simp [conj, maxL, bytesL]
      repeat' apply And.intro
      all_goals first | omega | exact hp1 | exact hp2 | trivial
    refine sw_seq ?_
    refine sw_seq ?_
    refine sw_region hP 4 [] rfl (by kernel_rfl) (fun _ => by kernel_rfl) (by first | trivial | (simp [conj]; done) | (simp [conj] at *; (try dsimp only [Ty.den, Ty.dflt] at *); omega)) ?_
    refine sw_block ?_
    refine sw_loop (ι := Nat × Str) (fun ⟨i, o⟩ => ⟨[.junk, .v false [.ptr ⟨1, 0, 0⟩ 0], .junk, sStr o, sInt .i64 (i : Int), .junk, .junk, .junk, .junk, .junk, .junk, .junk, .junk, .junk, .junk, .junk, .junk, .junk, .junk, .junk, .junk, .junk, .junk, .junk, .junk, .junk, .junk, .junk, .junk, .junk, .junk, .junk, .junk, .junk, .junk, .junk, .junk, .junk, .junk, .junk, .junk, .junk, .junk, .junk, .junk], [(⟨1, 0, 0⟩, .var [.d TI pF sz, .d TI pF sm, .d (.sl T_Place) (.all .b) pl])], 4, []⟩) (fun ⟨i, o⟩ => pl.length - i) (fun ⟨i, o⟩ => i ≤ pl.length ∧ o ++ catGo wordS (pl.drop i) = (Lib.join (wordsV ((sz, sm, pl) : Ptr_)) [32]) ∧ o.length ≤ 50 + i * 50) (0, tPtr ++ [32] ++ itoaV sz ++ [32] ++ itoaV sm) ⟨?_, ?_⟩ ?_
    · skip
      exact ⟨Nat.zero_le _, words_join.symm, by simp [tPtr]; omega⟩
    · refine ent_ok rfl ?_
      simp [conj, bytesL]
      rfl
    · rintro ⟨i, o⟩ ⟨hi, hgo, hol⟩
      refine sw_seq ?_
      refine sw_seq ?_
      refine sw_region hP 5 [] rfl (by kernel_rfl) (fun _ => by kernel_rfl) (by first | trivial | (simp [conj]; done) | (simp [conj] at *; (try dsimp only [Ty.den, Ty.dflt] at *); omega)) ?_
      refine sw_cond rfl (fun c5 => ?_) (fun c5 => ?_)
      · skip
        have hlt : i < pl.length := by simpa using c5
        have hin := hpl0.2 _ (List.getElem_mem hlt)
        have hpp := hp3 _ (List.getElem_mem hlt)
        have hi3 : (itoaV pl[i].1).length ≤ 21 := itoaV_len hin.1
        have hi4 : (itoaV pl[i].2).length ≤ 21 := itoaV_len hin.2
        refine sw_skip ?_
        refine sw_seq ?_
        refine sw_block ?_
        refine sw_region hP 6 [] rfl (by kernel_rfl) (fun _ => by kernel_rfl) ?_ ?_
        · skip
          simp [conj, maxL, bytesL, List.getElem?_eq_getElem hlt]
          repeat' apply And.intro
          all_goals first | omega | exact hpp.1 | exact hpp.2 | trivial
        refine sw_region hP 7 [] rfl (by kernel_rfl) (fun _ => by kernel_rfl) (by first | trivial | (simp [conj]; done) | (simp [conj] at *; (try dsimp only [Ty.den, Ty.dflt] at *); omega)) ?_
        refine ⟨(i + 1, o ++ wordS pl[i]), ?_, ?_, ent_ok rfl ?_⟩
        · skip
          exact ⟨hlt, cat_next hlt hgo, by simp [wordS, wordV]; omega⟩
        · skip
          show pl.length - (i + 1) < pl.length - i
          omega
        · skip
          simp [conj, bytesL, wordS, wordV, List.getElem?_eq_getElem hlt]
      · skip
        obtain rfl : i = pl.length := by simp at c5; omega
        have hv := cat_end hgo
        subst hv
        refine sw_exit ?_
        refine sw_seq ?_
        refine sw_region hP 6 [] rfl (by kernel_rfl) (fun _ => by kernel_rfl) ?_ ?_
        · skip
          simp [conj, maxL, bytesL]
          repeat' apply And.intro
          all_goals first | omega | trivial
        refine sw_ret ⟨.inl rfl, _, rfl, ?_⟩
        simp [conj, lineV, hnn, bytesL]

def cTextS : Ctr := ⟨20, [.val true T_Root (.all .b)], fun x => ∃ d, rootV d x.1 = true, fun x => (sStr (bodyV x.1), [])⟩
theorem cTextS_ok : CtrOk Proofs.Tryz.prog cTextS := by
  have hP := (((Prg.none ttok mtok).and cDec_ok).and cLineS_ok)
  refine ctr_of_body hP cTextS (fn := Proofs.Tryz.f20) (rts := [.tmp 2]) Proofs.Tryz.func20 rfl (by kernel_rfl) rfl rfl ?_
  rintro ⟨⟨(tg : Int), (l : List Vol_)⟩, ⟨⟩⟩ ⟨⟨ht0, hl0⟩, _⟩ ⟨d, hpre⟩
  try dsimp only [Ty.den, Mode.den, mdens] at d
  try dsimp only [Ty.den, Mode.den, mdens] at hpre
  refine ⟨rfl, ?_⟩
  replace hpre : rootV d ((tg, l) : Root_) = true := hpre
  have hs := rootV_small hpre
  have ht1 : 0 ≤ tg := rootV_txg hpre
  have hi1 : (itoaV tg).length ≤ 21 := itoaV_len ht0
  have hml : l.length ≤ 4 := hs.1
  refine sw_seq ?_
  refine sw_region hP 1 [] rfl (by kernel_rfl) (fun _ => by kernel_rfl) (by first | trivial | (simp [conj]; done) | (simp [conj] at *; (try dsimp only [Ty.den, Ty.dflt] at *); omega)) ?_
  refine sw_seq ?_
  refine sw_region hP 2 [] rfl (by kernel_rfl) (fun _ => by kernel_rfl) ?_ ?_
  · skip
    simp [conj, maxL, bytesL]
    repeat' apply And.intro
    all_goals first | omega | exact ht1 | trivial
  refine sw_seq ?_
  refine sw_seq ?_
  refine sw_region hP 3 [] rfl (by kernel_rfl) (fun _ => by kernel_rfl) (by first | trivial | (simp [conj]; done) | (simp [conj] at *; (try dsimp only [Ty.den, Ty.dflt] at *); omega)) ?_
  refine sw_block ?_
  refine sw_loop (ι := Nat × Str) (fun ⟨i, o⟩ => ⟨[.junk, .v false [.ptr ⟨1, 0, 0⟩ 0], .junk, sStr o, sInt .i64 (i : Int), .junk, .junk, .junk, .junk, .junk, .junk, .junk, .junk, .junk, .junk, .junk, .junk, .junk, .junk, .junk, .junk, .junk, .junk, .junk, .junk, .junk, .junk, .junk, .junk, .junk, .junk, .junk, .junk, .junk, .junk, .junk, .junk, .junk, .junk, .junk, .junk, .junk, .junk, .junk, .junk, .junk, .junk, .junk, .junk, .junk, .junk, .junk], [(⟨1, 0, 0⟩, .var [.d TI pF tg, .d (.sl T_Vol) (.all .b) l])], 3, []⟩) (fun ⟨i, o⟩ => l.length - i) (fun ⟨i, o⟩ => i ≤ l.length ∧ o ++ catGo volT (l.drop i) = bodyV ((tg, l) : Root_) ∧ o.length ≤ 27 + i * 1000) (0, tRoot ++ itoaV tg ++ [10]) ⟨?_, ?_⟩ ?_
  · skip
    exact ⟨Nat.zero_le _, rfl, by simp [tRoot]; omega⟩
  · refine ent_ok rfl ?_
    simp [conj, bytesL]
    try rfl
  · rintro ⟨i, o⟩ ⟨hi, hgo, hol⟩
    refine sw_seq ?_
    refine sw_seq ?_
    refine sw_region hP 4 [] rfl (by kernel_rfl) (fun _ => by kernel_rfl) (by first | trivial | (simp [conj]; done) | (simp [conj] at *; (try dsimp only [Ty.den, Ty.dflt] at *); omega)) ?_
    refine sw_cond rfl (fun c3 => ?_) (fun c3 => ?_)
    · skip
      have hlt : i < l.length := by simpa using c3
      obtain ⟨hn3, hb3, hpv⟩ := hs.2 _ (List.getElem_mem hlt)
      refine sw_skip ?_
      refine sw_seq ?_
      refine sw_block ?_
      refine sw_seq ?_
      refine sw_region hP 5 [] rfl (by kernel_rfl) (fun _ => by kernel_rfl) ?_ ?_
      · skip
        simp [conj, maxL, bytesL, List.getElem?_eq_getElem hlt]
        repeat' apply And.intro
        all_goals first | omega | trivial
      refine sw_seq ?_
      refine sw_region hP 6 [] rfl (by kernel_rfl) (fun _ => by kernel_rfl) (by first | trivial | (simp [conj]; done) | (simp [conj] at *; (try dsimp only [Ty.den, Ty.dflt] at *); omega)) ?_
      refine sw_block ?_
      refine sw_loop (ι := Nat × Str) (fun ⟨j, o⟩ => ⟨[.junk, .v false [.ptr ⟨1, 0, 0⟩ 0], .junk, sStr o, sInt .i64 (i : Int), sInt .i64 (j : Int), .junk, .junk, .junk, .junk, .junk, .junk, .junk, .junk, .junk, .junk, .junk, .junk, .junk, .junk, .junk, .junk, .junk, .junk, .junk, .junk, .junk, .junk, .junk, .junk, .junk, .junk, .junk, .junk, .junk, .junk, .junk, .junk, .junk, .junk, .junk, .junk, .junk, .junk, .junk, .junk, .junk, .junk, .junk, .junk, .junk, .junk], [(⟨1, 0, 0⟩, .var [.d TI pF tg, .d (.sl T_Vol) (.all .b) l])], 6, []⟩) (fun ⟨j, o⟩ => l[i].2.length - j) (fun ⟨j, o⟩ => j ≤ l[i].2.length ∧ (o ++ catGo lineV (l[i].2.drop j)) ++ catGo volT (l.drop (i + 1)) = bodyV ((tg, l) : Root_) ∧ o.length ≤ 27 + i * 1000 + 8 + j * 300) (0, o ++ (tVol ++ l[i].1 ++ [10])) ⟨?_, ?_⟩ ?_
      · skip
        exact ⟨Nat.zero_le _, vol_in hlt hgo, by simp [tVol]; omega⟩
      · refine ent_ok rfl ?_
        simp [conj, bytesL, List.getElem?_eq_getElem hlt]
        try rfl
      · rintro ⟨j, o⟩ ⟨hj, hgo2, hol2⟩
        refine sw_seq ?_
        refine sw_seq ?_
        refine sw_region hP 7 [] rfl (by kernel_rfl) (fun _ => by kernel_rfl) ?_ ?_
        · skip
          simp [conj, List.getElem?_eq_getElem hlt]
          repeat' apply And.intro
          all_goals first | omega | trivial
        refine sw_cond rfl (fun c7 => ?_) (fun c7 => ?_)
        · skip
          have hlj : j < l[i].2.length := by
            have h := c7
            simp [List.getElem?_eq_getElem hlt] at h
            omega
          have hpj := hpv _ (List.getElem_mem hlj)
          obtain ⟨dd, hpd⟩ := hpj
          have hok := (hl0.2 _ (List.getElem_mem hlt)).2.2 _ (List.getElem_mem hlj)
          have hll := lineV_len' hok.1 hok.2.1 hok.2.2.2 hpd
          refine sw_skip ?_
          refine sw_seq ?_
          refine sw_block ?_
          refine sw_region hP 8 [] rfl (by kernel_rfl) (fun _ => by kernel_rfl) ?_ ?_
          · skip
            simp [conj, maxL, List.getElem?_eq_getElem hlt, List.getElem?_eq_getElem hlj]
            repeat' apply And.intro
            all_goals first | omega | exact ⟨dd, hpd⟩ | (have h : List.length (lineV l[i].2[j]) ≤ 300 := hll; show o.length + List.length (lineV l[i].2[j]) ≤ 140737488355328; omega) | trivial
          refine sw_region hP 9 [] rfl (by kernel_rfl) (fun _ => by kernel_rfl) (by first | trivial | (simp [conj]; done) | (simp [conj] at *; (try dsimp only [Ty.den, Ty.dflt] at *); omega)) ?_
          refine ⟨(j + 1, o ++ lineV l[i].2[j]), ?_, ?_, ent_ok rfl ?_⟩
          · skip
            exact ⟨hlj, vol_line hlj hgo2, by simp; omega⟩
          · skip
            show l[i].2.length - (j + 1) < l[i].2.length - j
            omega
          · skip
            simp [conj, List.getElem?_eq_getElem hlt, List.getElem?_eq_getElem hlj]
        · skip
          obtain rfl : j = l[i].2.length := by
            have h := c7
            simp [List.getElem?_eq_getElem hlt] at h
            omega
          refine sw_exit ?_
          refine sw_region hP 8 [] rfl (by kernel_rfl) (fun _ => by kernel_rfl) (by first | trivial | (simp [conj]; done) | (simp [conj] at *; (try dsimp only [Ty.den, Ty.dflt] at *); omega)) ?_
          refine ⟨(i + 1, o), ?_, ?_, ent_ok rfl ?_⟩
          · skip
            exact ⟨hlt, vol_out hgo2, by show o.length ≤ 27 + (i + 1) * 1000; omega⟩
          · skip
            show l.length - (i + 1) < l.length - i
            omega
          · skip
            simp [conj]
    · skip
      obtain rfl : i = l.length := by simp at c3; omega
      have hv := cat_end hgo
      subst hv
      refine sw_exit ?_
      refine sw_seq ?_
      refine sw_region hP 5 [] rfl (by kernel_rfl) (fun _ => by kernel_rfl) (by first | trivial | (simp [conj]; done) | (simp [conj] at *; (try dsimp only [Ty.den, Ty.dflt] at *); omega)) ?_
      refine sw_ret ⟨.inl rfl, _, rfl, ?_⟩
      simp [conj]

def cCheck : Ctr := ⟨22, [.val false .str pF], fun x => List.length x.1 ≤ 1000000, fun x => (sInt .i64 (weighV x.1), [])⟩
theorem cCheck_ok : CtrOk Proofs.Tryz.prog cCheck := by
  have hP := (Prg.none ttok mtok)
  refine ctr_of_body hP cCheck (fn := Proofs.Tryz.f22) (rts := [.tmp 2]) Proofs.Tryz.func22 rfl (by kernel_rfl) rfl rfl ?_
  rintro ⟨(s : Str), ⟨⟩⟩ _ hpre
  try dsimp only [Ty.den, Mode.den, mdens] at hpre
  refine ⟨rfl, ?_⟩
  replace hpre : s.length ≤ 1000000 := hpre
  refine sw_seq ?_
  refine sw_region hP 1 [] rfl (by kernel_rfl) (fun _ => by kernel_rfl) (by first | trivial | (simp [conj]; done) | (simp [conj] at *; (try dsimp only [Ty.den, Ty.dflt] at *); omega)) ?_
  refine sw_seq ?_
  refine sw_region hP 2 [] rfl (by kernel_rfl) (fun _ => by kernel_rfl) (by first | trivial | (simp [conj]; done) | (simp [conj] at *; (try dsimp only [Ty.den, Ty.dflt] at *); omega)) ?_
  refine sw_seq ?_
  refine sw_seq ?_
  refine sw_region hP 3 [] rfl (by kernel_rfl) (fun _ => by kernel_rfl) (by first | trivial | (simp [conj]; done) | (simp [conj] at *; (try dsimp only [Ty.den, Ty.dflt] at *); omega)) ?_
  refine sw_block ?_
  refine sw_loop (ι := Nat × Int) (fun ⟨i, n⟩ => ⟨[sStr s, .junk, .junk, sInt .i64 n, sInt .i64 (i : Int), .junk, .junk, .junk, .junk, .junk, .junk, .junk, .junk, .junk, .junk, .junk, .junk, .junk, .junk, .junk, .junk, .junk], [], 3, []⟩) (fun ⟨i, n⟩ => s.length - i) (fun ⟨i, n⟩ => i ≤ s.length ∧ n + weighGo (s.drop i) i = weighV s ∧ 0 ≤ n ∧ n ≤ (i : Int) * 300000000) (0, 0) ⟨?_, ?_⟩ ?_
  · skip
    exact ⟨Nat.zero_le _, by simp [weighV], by decide, by decide⟩
  · refine ent_ok rfl ?_
    simp [conj]
  · rintro ⟨i, n⟩ ⟨hi, hgo, hn0, hn1⟩
    refine sw_seq ?_
    refine sw_seq ?_
    refine sw_region hP 4 [] rfl (by kernel_rfl) (fun _ => by kernel_rfl) (by first | trivial | (simp [conj]; done) | (simp [conj] at *; (try dsimp only [Ty.den, Ty.dflt] at *); omega)) ?_
    refine sw_cond rfl (fun c3 => ?_) (fun c3 => ?_)
    · skip
      have hlt : i < s.length := by simpa using c3
      have hone := weigh_one (c := s[i]) (i := i) (by omega)
      refine sw_skip ?_
      refine sw_seq ?_
      refine sw_block ?_
      refine sw_region hP 5 [] rfl (by kernel_rfl) (fun _ => by kernel_rfl) ?_ ?_
      · skip
        simp [conj, List.getElem?_eq_getElem hlt]
        have hu : s[i].toNat < 256 := s[i].toNat_lt
        repeat' apply And.intro
        all_goals omega
      refine sw_region hP 6 [] rfl (by kernel_rfl) (fun _ => by kernel_rfl) (by first | trivial | (simp [conj]; done) | (simp [conj] at *; (try dsimp only [Ty.den, Ty.dflt] at *); omega)) ?_
      refine ⟨(i + 1, n + (s[i].toNat : Int) * (65536 + (i : Int) + 1)), ?_, ?_, ent_ok rfl ?_⟩
      · skip
        exact ⟨hlt, weigh_next hlt hgo, by show 0 ≤ n + (s[i].toNat : Int) * (65536 + (i : Int) + 1); omega, by show n + (s[i].toNat : Int) * (65536 + (i : Int) + 1) ≤ ((i + 1 : Nat) : Int) * 300000000; omega⟩
      · skip
        show s.length - (i + 1) < s.length - i
        omega
      · skip
        simp [conj, List.getElem?_eq_getElem hlt]
    · skip
      obtain rfl : i = s.length := by simp at c3; omega
      have hv := weigh_end hgo
      refine sw_exit ?_
      refine sw_seq ?_
      refine sw_region hP 5 [] rfl (by kernel_rfl) (fun _ => by kernel_rfl) (by first | trivial | (simp [conj]; done) | (simp [conj] at *; (try dsimp only [Ty.den, Ty.dflt] at *); omega)) ?_
      refine sw_ret ⟨.inl rfl, _, rfl, ?_⟩
      simp [conj, hv]
end Go.Sx

/- Roots: the program's test is the reference's. -/
namespace Go.Sx
open Go
theorem keyPK (x y : Plc) : keyEq PK x y = decide (x = y) := by
  simp only [keyEq]
  refine Bool.eq_iff_iff.2 ?_
  simp only [Bool.and_eq_true, decide_eq_true_eq]
  exact ⟨fun h => Prod.ext h.1 h.2, fun h => by rw [h]; exact ⟨rfl, rfl⟩⟩
theorem mget_mset {m : List (Plc × Ptr_)} {a b : Plc} {p : Ptr_} : mget PK (mset PK m a p) b = if b = a then some p else mget PK m b := by
  induction m with
  | nil =>
    simp only [mset, mget]
    rw [keyPK]
    by_cases h : b = a <;> simp [h]
  | cons e m ih =>
    simp only [mset]
    rw [keyPK]
    by_cases h : a = e.1
    · simp only [h, decide_true, cond_true, mget]
      rw [keyPK]
      by_cases h2 : b = e.1 <;> simp [h2]
    · simp only [h, decide_false, cond_false, mget]
      rw [keyPK, ih]
      by_cases h2 : b = e.1
      · have h3 : ¬ b = a := fun e2 => h (e2.symm.trans h2)
        simp [h2, h3]
        intro e2
        exact absurd e2.symm h
      · simp [h2]
theorem own_iff : ∀ {l m : List (Plc × Ptr_)}, ownGo m l = true ↔ (∀ e ∈ l, ∀ q, mget PK m e.1 = some q → e.2 = q) ∧ ∀ e ∈ l, ∀ f ∈ l, e.1 = f.1 → e.2 = f.2 := by
  intro l
  induction l with
  | nil => intro m; simp [ownGo]
  | cons c r ih =>
    intro m
    obtain ⟨a, p⟩ := c
    simp only [ownGo, Bool.and_eq_true]
    rw [ih]
    constructor
    · rintro ⟨h1, h2, h3⟩
      have ha : ∀ q, mget PK m a = some q → p = q := fun q hq => by rw [hq] at h1; simpa using h1
      have hp : ∀ e ∈ r, e.1 = a → e.2 = p := fun e he hea => h2 e he p (by rw [mget_mset, if_pos hea])
      refine ⟨fun e he q hq => ?_, fun e he f hf hef => ?_⟩
      · rcases List.mem_cons.1 he with rfl | he
        · exact ha q hq
        · by_cases hea : e.1 = a
          · rw [hp e he hea]; exact ha q (by rw [← hea]; exact hq)
          · exact h2 e he q (by rw [mget_mset, if_neg hea]; exact hq)
      · rcases List.mem_cons.1 he with rfl | he <;> rcases List.mem_cons.1 hf with rfl | hf
        · rfl
        · exact (hp f hf hef.symm).symm
        · exact hp e he hef
        · exact h3 e he f hf hef
    · rintro ⟨h1, h2⟩
      refine ⟨?_, fun e he q hq => ?_, fun e he f hf => h2 e (List.mem_cons_of_mem _ he) f (List.mem_cons_of_mem _ hf)⟩
      · cases hq : mget PK m a with
        | none => rfl
        | some q => have := h1 (a, p) List.mem_cons_self q hq; simpa using this
      · rw [mget_mset] at hq
        by_cases hea : e.1 = a
        · rw [if_pos hea] at hq
          cases hq
          exact h2 e (List.mem_cons_of_mem _ he) (a, p) List.mem_cons_self hea
        · rw [if_neg hea] at hq
          exact h1 e (List.mem_cons_of_mem _ he) q hq
theorem mem_pairs {ps : List Ptr_} {e : Plc × Ptr_} : e ∈ pairsOf ps ↔ e.2 ∈ ps ∧ e.1 ∈ e.2.2.2 := by
  obtain ⟨a, p⟩ := e
  simp only [pairsOf, List.mem_flatMap, List.mem_map, Prod.mk.injEq]
  constructor
  · rintro ⟨q, hq, b, hb, rfl, rfl⟩
    exact ⟨hq, hb⟩
  · rintro ⟨h1, h2⟩
    exact ⟨p, h1, a, h2, rfl, rfl⟩
theorem meet_iff {p q : Ptr_} : meetV p q = true ↔ ∃ a, a ∈ p.2.2 ∧ a ∈ q.2.2 := by
  simp only [meetV, List.any_eq_true, decide_eq_true_eq]
  constructor
  · rintro ⟨a, ha, b, hb, rfl⟩; exact ⟨a, ha, hb⟩
  · rintro ⟨a, ha, hb⟩; exact ⟨a, ha, a, hb, rfl⟩
theorem own_meet {ps : List Ptr_} : ownGo [] (pairsOf ps) = true ↔ ∀ i (h : i < ps.length), ∀ q ∈ ps.take i, meetV ps[i] q = true → ps[i] = q := by
  rw [own_iff]
  constructor
  · rintro ⟨_, h2⟩ i hi q hq hm
    obtain ⟨a, ha, hb⟩ := meet_iff.1 hm
    exact h2 (a, ps[i]) (mem_pairs.2 ⟨List.getElem_mem hi, ha⟩) (a, q) (mem_pairs.2 ⟨List.mem_of_mem_take hq, hb⟩) rfl
  · intro h
    refine ⟨fun e _ q hq => by simp [mget] at hq, fun e he f hf hef => ?_⟩
    obtain ⟨e1, e2⟩ := mem_pairs.1 he
    obtain ⟨f1, f2⟩ := mem_pairs.1 hf
    obtain ⟨i, hi, hie⟩ := List.getElem_of_mem e1
    obtain ⟨k, hk, hkf⟩ := List.getElem_of_mem f1
    rw [← hie] at e2 ⊢
    rw [← hkf] at f2 ⊢
    rcases Nat.lt_trichotomy i k with hlt | rfl | hlt
    · refine (h k hk ps[i] (List.mem_take_iff_getElem.2 ⟨i, by omega, rfl⟩) (meet_iff.2 ⟨f.1, f2, ?_⟩)).symm
      rw [← hef]; exact e2
    · rfl
    · refine h i hi ps[k] (List.mem_take_iff_getElem.2 ⟨k, by omega, rfl⟩) (meet_iff.2 ⟨e.1, e2, ?_⟩)
      rw [hef]; exact f2
theorem ptrV_W {d : Int} {p : Ptr_} (h : poolV d = true) : ptrV d p = ptrW d p := by
  unfold ptrV ptrW
  rw [h, Bool.true_and]
  by_cases h0 : p.1 = 0
  · rw [if_pos h0]
    have h1 : sizeV d p = false := by simp [sizeV, inV, h0]
    rw [h1]
    simp [noneV, h0]
  · rw [if_neg h0]
    simp [noneV, h0]
theorem volF_G {d : Int} {pre : List Vol_} {v : Vol_} : volF d pre v = (volG pre v && v.2.all (ptrV d)) := by
  simp only [volF, volG, Bool.and_assoc]
theorem chk_volF {d : Int} {l : List Vol_} : chk (volF d) l = true ↔ chk volG l = true ∧ ∀ p ∈ blksOf l, ptrV d p = true := by
  simp only [chk_iff, volF_G, Bool.and_eq_true, List.all_eq_true]
  constructor
  · intro h
    refine ⟨fun i hi => (h i hi).1, fun p hp => ?_⟩
    obtain ⟨v, hv, hp⟩ := List.mem_flatMap.1 hp
    obtain ⟨i, hi, rfl⟩ := List.getElem_of_mem hv
    exact (h i hi).2 p hp
  · rintro ⟨h1, h2⟩ i hi
    exact ⟨h1 i hi, fun p hp => h2 p (List.mem_flatMap.2 ⟨l[i], List.getElem_mem hi, hp⟩)⟩
theorem chk_ptrG {d : Int} {ps : List Ptr_} : chk (ptrG d) ps = true ↔ (∀ p ∈ ps, ptrW d p = true) ∧ ∀ i (h : i < ps.length), ∀ q ∈ ps.take i, meetV ps[i] q = true → ps[i] = q := by
  simp only [chk_iff, ptrG, Bool.and_eq_true]
  constructor
  · intro h
    refine ⟨fun p hp => ?_, fun i hi q hq hm => ?_⟩
    · obtain ⟨i, hi, rfl⟩ := List.getElem_of_mem hp
      exact (h i hi).1
    · have h2 := (h i hi).2
      simp only [Bool.not_eq_true', List.any_eq_false, Bool.and_eq_true, not_and] at h2
      have := h2 q hq hm
      simpa using this
  · rintro ⟨h1, h2⟩ i hi
    refine ⟨h1 _ (List.getElem_mem hi), ?_⟩
    simp only [Bool.not_eq_true', List.any_eq_false, Bool.and_eq_true, not_and]
    intro q hq hm
    have := h2 i hi q hq hm
    simpa using this
theorem rootV_S {d : Int} {r : Root_} : rootV d r = rootS d r := by
  unfold rootV rootS
  cases hp : poolV d with
  | false => rfl
  | true =>
    simp only [Bool.true_and]
    congr 1
    refine Bool.eq_iff_iff.2 ?_
    simp only [volsV, volsS, Bool.and_eq_true, chk_volF, chk_ptrG, own_meet, decide_eq_true_eq]
    have hw : (∀ p ∈ blksOf r.2, ptrV d p = true) ↔ ∀ p ∈ blksOf r.2, ptrW d p = true := by simp only [ptrV_W hp]
    rw [hw]
    constructor
    · rintro ⟨⟨⟨a, b⟩, c⟩, e⟩; exact ⟨c, a, b, e⟩
    · rintro ⟨c, a, b, e⟩; exact ⟨⟨⟨a, b⟩, c⟩, e⟩
theorem line_all {l : List Vol_} (h : ∀ v ∈ l, ∀ p ∈ v.2, inR .i64 p.1 ∧ inR .i64 p.2.1 ∧ ∀ a ∈ p.2.2, inR .i64 a.1 ∧ inR .i64 a.2) (hs : SmallR l) : ∀ v ∈ l, (volT v).length ≤ 1000 := by
  intro v hv
  obtain ⟨h1, h2, h3⟩ := hs.2 v hv
  have h4 := cat_len (f := lineV) (m := 300) (l := v.2) fun p hp => by
    obtain ⟨d, hd⟩ := h3 p hp
    obtain ⟨a, b, c⟩ := h v hv p hp
    exact lineV_len' a b c hd
  unfold volT
  simp only [List.length_append, List.length_cons, List.length_nil, tVol]
  rw [h2] at h4
  omega
theorem body_len {d tg : Int} {l : List Vol_} (h0 : inR .i64 tg) (h : ∀ v ∈ l, ∀ p ∈ v.2, inR .i64 p.1 ∧ inR .i64 p.2.1 ∧ ∀ a ∈ p.2.2, inR .i64 a.1 ∧ inR .i64 a.2) (hr : rootV d ((tg, l) : Root_) = true) : (bodyV ((tg, l) : Root_)).length ≤ 5000 := by
  have hs := rootV_small hr
  have h4 := cat_len (f := volT) (m := 1000) (l := l) (line_all h hs)
  have h5 : l.length ≤ 4 := hs.1
  have h6 := itoaV_len h0
  unfold bodyV
  simp only [List.length_append, List.length_cons, List.length_nil, tRoot]
  omega
end Go.Sx
