/- Symbolic execution, part G: addresses of elements, parts of slices and strings, conversions. -/
import Derived.Test.YtbnmeeajooljmaaSxF
set_option linter.all false
namespace Go.Sx
open Go Go.RowKit
theorem condR0 {b : Bool} {α : Type} {x : Req α} {lk : Id → Option Res} {r : α × List Id} (h : (bif b then x else .fail).exec lk = some r) : b = true ∧ x.exec lk = some r := by
  cases b with
  | true => exact ⟨rfl, h⟩
  | false => exact exec_fail h
theorem idx_lt {β : Type} {l : List β} {n : Int} (h0 : 0 ≤ n) (h1 : n < (l.length : Int)) : n.toNat < l.length := by omega
section
variable {P : Program} {tt : TT} (T : TtOk P tt) {old : Id → Prop} {G : Gh} {w : World} {lk : Id → Option Res} (hb : ∀ b, G.g b ≠ .no → b < w.heap.size)
include T
theorem run_indexAt {t el : TypeId} {e : Ty} {by_ : Nat} (h : slT tt t = some (e, el, by_)) {b o n c : Nat} {k : IntKind} {i : Int} (h0 : 0 ≤ i) (h1 : i < (n : Int)) (w : World) :
    (Instr.indexAt t (.slice (some ⟨b, o, none⟩) n c) (.int k i)).run P w = .ok (.pointer (some ⟨b, o + i.toNat * e.size, none⟩)) w := by
  obtain ⟨h2, h3, te, h4, h5, _⟩ := slT_spec T h
  simp [Instr.indexAt, run_underlying h2, asIntOf, h0, h1, run_size_at T h4, h5, addr_add]
include hb
theorem does_indexAddr {t0 : TypeId} {x i : SV} {vx vi : Value} {e : Eff} {t : List Id} (hrs : ∀ id R, lk id = some R → ResOk G w id R) (hx : (sIndexAddr tt t0 x i).exec lk = some (e, t)) (hv : ∀ p ∈ e.vc, p)
    (mx : MtS G w x vx) (mi : MtS G w i vi) : Does P old G w (do pure (.value (← Instr.indexAt t0 vx vi))) e := by
  unfold sIndexAddr at hx
  split at hx
  · exact exec_fail hx
  · rename_i e0 el by_ hsl
    split at hx
    · split at hx
      · rename_i F k F' n T1 l1 e1 l
        cases hty : Ty.beq e1 e0 with
        | false => rw [hty] at hx; exact exec_fail hx
        | true =>
          have := Ty.eq_of_beq hty
          subst this
          rw [hty] at hx
          obtain ⟨rfl, _⟩ := exec_ok hx
          obtain ⟨h0, h1⟩ : 0 ≤ n ∧ n < (List.length l : Int) := hv _ List.mem_cons_self
          obtain ⟨rfl, _⟩ := mi.int
          obtain ⟨hno, A, m, c, rfl, htr⟩ := mx.slice
          obtain ⟨hm, hc, _⟩ := htr.sl_len
          subst hm
          have hn := idx_lt (β := e1.den) h0 h1
          obtain ⟨A', n', c', hcs, _, _, _, _, hblk⟩ := htr
          simp only [List.cons.injEq, Value.slice.injEq, and_true] at hcs
          obtain ⟨rfl, rfl, rfl⟩ := hcs
          simp only [Ty.noO, Bool.and_eq_true, Bool.not_eq_true'] at hno
          rcases hblk with ⟨_, hz⟩ | ⟨b, off, C, tb, fz, rfl, hl, hh, hs, _, hj⟩
          · exact absurd (Nat.lt_of_lt_of_le hn hc) (by rw [hz]; exact Nat.not_lt_zero _)
          · have hmul : (n.toNat + 1) * e1.size ≤ List.length l * e1.size := Nat.mul_le_mul_right _ hn
            rw [Nat.add_mul, Nat.one_mul] at hmul
            refine .pure hb (v := .pointer (some ⟨b, off + n.toNat * e1.size, none⟩)) (by simp [run_indexAt T hsl h0 h1]) (.of1 rfl ⟨hno.2, hno.1, b, off + n.toNat * e1.size, C, tb, fz, rfl, ?_, hh, by omega, ?_⟩)
            · exact (labOk_keep (.refl G w) hno.1 hl).1
            · have hg : (l : List e1.den)[n.toNat]? = some (List.getD l n.toNat e1.dflt) := by rw [List.getD, List.getElem?_eq_getElem hn]; rfl
              exact (hj n.toNat _ hg).keep (.refl G w) hno.2
      · exact exec_fail hx
    · rename_i id k F' n
      obtain ⟨t', hx, _⟩ := exec_need hx
      have hv1 := mx.own
      obtain ⟨rfl, _⟩ := mi.int
      subst hv1
      split at hx
      · rename_i e1 f l hlk
        cases hty : Ty.beq e1 e0 with
        | false => rw [hty] at hx; exact exec_fail hx
        | true =>
          have := Ty.eq_of_beq hty
          subst this
          rw [hty] at hx
          obtain ⟨rfl, _⟩ := exec_ok hx
          obtain ⟨h0, h1⟩ : 0 ≤ n ∧ n < (List.length l : Int) := hv _ List.mem_cons_self
          obtain ⟨A, m, c, hρ, htr⟩ := (hrs _ _ hlk).slice
          obtain ⟨hm, hc, _⟩ := htr.sl_len
          subst hm
          obtain ⟨A', n', c', hcs, _, _, _, _, hblk⟩ := htr
          simp only [List.cons.injEq, Value.slice.injEq, and_true] at hcs
          obtain ⟨rfl, rfl, rfl⟩ := hcs
          rcases hblk with ⟨_, hz⟩ | ⟨b, off, C, tb, fz, rfl, hl, hh, hs, _, hj⟩
          · exact absurd (Nat.lt_of_lt_of_le (idx_lt (β := e1.den) h0 h1) hc) (by rw [hz]; exact Nat.not_lt_zero _)
          · exact .pure hb (v := .pointer (some ⟨b, off + n.toNat * e1.size, none⟩)) (by simp [hρ, run_indexAt T hsl h0 h1]) (.of1 rfl ⟨b, off, _, c, hρ, rfl⟩)
      · rename_i e1 f l j cs hlk
        cases hty : Ty.beq e1 e0 with
        | false => rw [hty] at hx; exact exec_fail hx
        | true =>
          have := Ty.eq_of_beq hty
          subst this
          rw [hty] at hx
          obtain ⟨rfl, _⟩ := exec_ok hx
          obtain ⟨h0, h1⟩ : 0 ≤ n ∧ n < (List.length l : Int) := hv _ List.mem_cons_self
          obtain ⟨b, off, C, tb, m, c, hρ, rfl, _⟩ := hrs _ _ hlk
          exact .pure hb (v := .pointer (some ⟨b, off + n.toNat * e1.size, none⟩)) (by simp [hρ, run_indexAt T hsl h0 h1]) (.of1 rfl ⟨b, off, _, c, hρ, rfl⟩)
      · rename_i sz l hlk
        replace ⟨hsz, hx⟩ := condR0 hx
        have hsz := Nat.eq_of_beq_eq_true hsz
        subst hsz
        obtain ⟨rfl, _⟩ := exec_ok hx
        obtain ⟨h0, h1⟩ : 0 ≤ n ∧ n < (List.length l : Int) := hv _ List.mem_cons_self
        obtain ⟨A, m, c, hρ, rfl, hc, _, hblk⟩ := hrs _ _ hlk
        rcases hblk with ⟨_, hz⟩ | ⟨b, off, C, tb, rfl, _⟩
        · exact absurd (Nat.lt_of_lt_of_le (idx_lt h0 h1) hc) (by rw [hz]; exact Nat.not_lt_zero _)
        · exact .pure hb (v := .pointer (some ⟨b, off + n.toNat * e0.size, none⟩)) (by simp [hρ, run_indexAt T hsl h0 h1]) (.of1 rfl ⟨b, off, _, c, hρ, rfl⟩)
      · rename_i l hlk
        cases hty : Ty.beq e0 (.int .u8) with
        | false => rw [hty] at hx; exact exec_fail hx
        | true =>
          have := Ty.eq_of_beq hty
          subst this
          rw [hty] at hx
          obtain ⟨rfl, _⟩ := exec_ok hx
          obtain ⟨h0, h1⟩ : 0 ≤ n ∧ n < (List.length l : Int) := hv _ List.mem_cons_self
          obtain ⟨b, C, tb, fz, c, hρ, _⟩ := hrs _ _ hlk
          exact .pure hb (v := .pointer (some ⟨b, 0 + n.toNat * (Ty.int .u8).size, none⟩)) (by simp [hρ, run_indexAt T hsl h0 h1]) (.of1 rfl ⟨b, 0, _, c, hρ, rfl⟩)
      · exact exec_fail hx
    · exact exec_fail hx
end

/-! ### Parts -/
section
variable {P : Program}
/-- the two ends of a part, as the machine finds them -/
def endsOk (len : Nat) (lo hi : Option Int) : Prop := match lo, hi with
  | some a, some b => 0 ≤ a ∧ a ≤ b ∧ b ≤ (len : Int)
  | none, some b => 0 ≤ b ∧ b ≤ (len : Int)
  | some a, none => 0 ≤ a ∧ a ≤ (len : Int)
  | none, none => True
def loOf (lo : Option Int) : Nat := match lo with | some a => a.toNat | none => 0
def hiOf (len : Nat) (hi : Option Int) : Nat := match hi with | some b => b.toNat | none => len
theorem run_sliceBounds {isS : Bool} {len cap : Nat} {lo hi : Option Int} {vlo vhi : Option Value} (hc : len ≤ cap) (hlo : ∀ v, vlo = some v → ∃ k a, lo = some a ∧ v = .int k a) (hlo' : vlo = none → lo = none)
    (hhi : ∀ v, vhi = some v → ∃ k a, hi = some a ∧ v = .int k a) (hhi' : vhi = none → hi = none) (h : endsOk len lo hi) (w : World) :
    (Instr.sliceBounds isS len cap vlo vhi none).run P w = .ok (loOf lo, hiOf len hi, cap) w ∧ loOf lo ≤ hiOf len hi ∧ hiOf len hi ≤ len := by
  cases vlo with
  | none =>
    rw [hlo' rfl] at h ⊢
    cases vhi with
    | none => rw [hhi' rfl] at h ⊢; simp [Instr.sliceBounds, loOf, hiOf]
    | some v =>
      obtain ⟨k, b, rfl, rfl⟩ := hhi v rfl
      obtain ⟨h1, h2⟩ := h
      have h3 : b ≤ (cap : Int) := by omega
      refine ⟨?_, by simp [loOf], by simp only [hiOf]; omega⟩
      simp [Instr.sliceBounds, Instr.sliceBound, asIntOf, h1, h3, loOf, hiOf]
  | some u =>
    obtain ⟨k, a, rfl, rfl⟩ := hlo u rfl
    cases vhi with
    | none =>
      rw [hhi' rfl] at h ⊢
      obtain ⟨h1, h2⟩ := h
      refine ⟨?_, by simp only [loOf, hiOf]; omega, by simp [hiOf]⟩
      simp [Instr.sliceBounds, Instr.sliceBound, asIntOf, h1, h2, loOf, hiOf]
    | some v =>
      obtain ⟨k', b, rfl, rfl⟩ := hhi v rfl
      obtain ⟨h1, h2, h3⟩ := h
      have h4 : b ≤ (cap : Int) := by omega
      have h5 : 0 ≤ b := by omega
      have h6 : a ≤ (b.toNat : Int) := by omega
      refine ⟨?_, by simp only [loOf, hiOf]; omega, by simp only [hiOf]; omega⟩
      have h7 : ((b.toNat : Nat) : Int) = b := by omega
      simp only [Instr.sliceBounds, Instr.sliceBound, asIntOf, Sem.run_bind, Sem.run_pure, Result.andThen_ok, Sem.run_ite, h1, h4, h5, h6, and_self, if_true, loOf, hiOf]
theorem sliceL_eq {β : Type} (l : List β) (lo hi : Option Int) (h : endsOk l.length lo hi) : (sliceL l lo hi).1 = (l.take (hiOf l.length hi)).drop (loOf lo) := by
  cases lo <;> cases hi <;> simp [sliceL, loOf, hiOf]
theorem sliceL_vc {β : Type} {l : List β} {lo hi : Option Int} (h : ∀ p ∈ (sliceL l lo hi).2, p) (_cap : Nat) : endsOk l.length lo hi := by
  cases lo <;> cases hi <;> first
    | trivial
    | (have := h _ List.mem_cons_self; exact this)
end
section
variable {P : Program} {tt : TT} (T : TtOk P tt) {old : Id → Prop} {G : Gh} {w : World} {lk : Id → Option Res} (hb : ∀ b, G.g b ≠ .no → b < w.heap.size)
theorem asI_spec {x : Option SV} {o : Option Int} (h : asI x = some o) {v : Option Value} (m : ∀ s, x = some s → ∃ u, v = some u ∧ MtS G w s u) (m' : x = none → v = none) :
    (∀ u, v = some u → ∃ k a, o = some a ∧ u = .int k a) ∧ (v = none → o = none) := by
  unfold asI at h
  split at h
  · cases h; rw [m' rfl]; exact ⟨(fun u h => by cases h), (fun _ => rfl)⟩
  · rename_i k F n
    cases h
    obtain ⟨u, rfl, hu⟩ := m _ rfl
    exact ⟨(fun u' h => by cases h; exact ⟨k, n, rfl, hu.int.1⟩), (fun h => by cases h)⟩
  · cases h
/-- a part of a slice lies where it lay -/
theorem Tr.part {e : Ty} {F : Fl} {A : Option Addr} {n c a b : Nat} {l : List e.den} (h0 : Ty.noO (.sl e) F = true) (h : Tr G w (.sl e) F default [] [.slice A n c] l) (hab : a ≤ b) (hbn : b ≤ n) :
    Tr G w (.sl e) F default [] [.slice (if c = a then A else A.map (·.add (a * e.size))) (b - a) (c - a)] ((l.take b).drop a) := by
  obtain ⟨A', n', c', hcs, hn, hc, hm, hwf, hblk⟩ := h
  simp only [List.cons.injEq, Value.slice.injEq, and_true] at hcs
  obtain ⟨rfl, rfl, rfl⟩ := hcs
  simp only [Ty.noO, Bool.and_eq_true, Bool.not_eq_true'] at h0
  refine ⟨_, _, _, rfl, ?_, by omega, by omega, hwf, ?_⟩
  · rw [List.length_drop, List.length_take]; omega
  · rcases hblk with ⟨_, rfl⟩ | ⟨blk, off, C, tb, fz, rfl, hl, hh, hs, hw, hj⟩
    · have : a = 0 := by omega
      subst this
      exact .inl ⟨(fun e => by rw [e] at h0; cases h0.1), rfl⟩
    · by_cases hca : c = a
      · rw [if_pos hca]
        refine .inr ⟨blk, off, C, tb, fz, rfl, hl, hh, ?_, (fun e => by rw [e] at h0; cases h0.1), fun j x hx => ?_⟩
        · have : b - a = 0 := by omega
          rw [this, Nat.zero_mul]
          omega
        · exfalso
          have := (List.getElem?_eq_some_iff.1 hx).1
          simp only [List.length_drop, List.length_take] at this
          omega
      · rw [if_neg hca]
        refine .inr ⟨blk, off + a * e.size, C, tb, fz, by simp [addr_add], hl, hh, ?_, (fun e => by rw [e] at h0; cases h0.1), fun j x hx => ?_⟩
        · have h1 : (a + (b - a)) * e.size ≤ n * e.size := Nat.mul_le_mul_right _ (by omega)
          rw [Nat.add_mul] at h1
          omega
        · rw [List.getElem?_drop] at hx
          have hlt := (List.getElem?_eq_some_iff.1 hx).1
          simp only [List.length_take] at hlt
          rw [List.getElem?_take_of_lt (by omega)] at hx
          have := hj (a + j) x hx
          rw [Nat.add_mul, ← Nat.add_assoc] at this
          exact this.keep (.refl G w) h0.2
omit T hb in
theorem mkS_extract (l : Str) {a b : Nat} (_h : a ≤ b) (h2 : b ≤ l.length) : (mkS l).extract a b = mkS ((l.take b).drop a) := by
  apply ByteArray.ext
  apply Array.ext'
  simp only [ByteArray.data_extract, mkS, List.extract_toArray]
  rw [List.extract_eq_take_drop, List.drop_take]
include T hb
/-- what a part's bounds must be -/
def subOk (top n : Nat) : Option Int → Option Int → Prop
  | none, none => True
  | some a, none => 0 ≤ a ∧ a ≤ (n : Int)
  | none, some b => 0 ≤ b ∧ b ≤ (top : Int)
  | some a, some b => 0 ≤ a ∧ a ≤ b ∧ b ≤ (top : Int)
omit T hb in
theorem run_subBounds {n c top : Nat} (hc : n ≤ c) (htop : top ≤ c) {lo hi : Option Int} {vlo vhi : Option Value} (hlo : ∀ v, vlo = some v → ∃ k a, lo = some a ∧ v = .int k a) (hlo' : vlo = none → lo = none)
    (hhi : ∀ v, vhi = some v → ∃ k a, hi = some a ∧ v = .int k a) (hhi' : vhi = none → hi = none) (h : subOk top n lo hi) (w : World) :
    (Instr.sliceBounds true n c vlo vhi none).run P w = .ok (loOf lo, hiOf n hi, c) w ∧ loOf lo ≤ hiOf n hi ∧ hiOf n hi ≤ c ∧ (top ≤ n → hiOf n hi ≤ n) := by
  cases hi with
  | none =>
    have hv : vhi = none := by
      cases vhi with
      | none => rfl
      | some v => obtain ⟨_, _, h, _⟩ := hhi v rfl; cases h
    obtain ⟨h1, h2, h3⟩ := run_sliceBounds (P := P) (isS := true) hc hlo hlo' hhi hhi' (by cases lo <;> exact h) w
    exact ⟨h1, h2, by simp only [hiOf]; omega, fun _ => h3⟩
  | some b =>
    cases vhi with
    | none => have := hhi' rfl; cases this
    | some v =>
      obtain ⟨h1, h2, h3⟩ := run_sliceBounds (P := P) (isS := true) htop hlo hlo' hhi hhi' (by cases lo <;> exact h) w
      have e : Instr.sliceBounds true n c vlo (some v) none = Instr.sliceBounds true top c vlo (some v) none := rfl
      simp only [hiOf] at h1 h2 h3 ⊢
      exact ⟨by rw [e]; exact h1, h2, by omega, fun h => by omega⟩
omit T hb in
theorem sSub_eq {id : Id} {sz top n : Nat} {inn : Bool} {a b : Option Int} {e : Eff} {t : List Id} (h : (sSub id sz top n inn a b).exec lk = some (e, t)) : ∃ vc, e = ⟨.v false [.sub id (loOf a) (hiOf n b) sz inn], [], vc⟩ ∧ ((∀ p ∈ vc, p) → subOk top n a b) := by
  cases a <;> cases b <;> (obtain ⟨rfl, _⟩ := exec_ok h; refine ⟨_, rfl, fun h => ?_⟩) <;> first
    | trivial
    | exact h _ List.mem_cons_self
theorem does_slice {t0 : TypeId} {x : SV} {lo hi : Option SV} {v : Value} {vlo vhi : Option Value} {e : Eff} {t : List Id} (hrs : ∀ id R, lk id = some R → ResOk G w id R) (hx : (sSlice tt t0 x lo hi).exec lk = some (e, t)) (hv : ∀ p ∈ e.vc, p)
    (mx : MtS G w x v) (mlo : ∀ s, lo = some s → ∃ u, vlo = some u ∧ MtS G w s u) (mlo' : lo = none → vlo = none) (mhi : ∀ s, hi = some s → ∃ u, vhi = some u ∧ MtS G w s u) (mhi' : hi = none → vhi = none) :
    Does P old G w (do pure (.value (← Instr.sliceAt t0 v vlo vhi none))) e := by
  unfold sSlice at hx
  split at hx
  · rename_i a b ha hb'
    obtain ⟨l1, l2⟩ := asI_spec ha mlo mlo'
    obtain ⟨u1, u2⟩ := asI_spec hb' mhi mhi'
    split at hx
    · split at hx
      · rename_i F l
        cases hs : isStrT tt t0 with
        | false => rw [hs] at hx; exact exec_fail hx
        | true =>
          rw [hs] at hx
          generalize hq : sliceL (β := UInt8) l a b = q at hx
          obtain ⟨m, vc⟩ := q
          obtain ⟨rfl, _⟩ := exec_ok hx
          obtain ⟨rfl, hlen⟩ := mx.str
          have hends := sliceL_vc (β := UInt8) (l := l) (lo := a) (hi := b) (by rw [hq]; exact hv) (List.length l)
          obtain ⟨hr, hle, hle2⟩ := run_sliceBounds (P := P) (isS := false) (Nat.le_refl _) l1 l2 u1 u2 hends w
          have heq := sliceL_eq (β := UInt8) l a b hends
          rw [hq] at heq
          simp only at heq
          refine .pure hb (v := .string (mkS m)) ?_ (.ofStr ?_)
          · rw [heq, ← mkS_extract l hle hle2]
            simp [Instr.sliceAt, Instr.slice, run_underlying (strT T hs), mkS_size, hr]
          · rw [heq, List.length_drop, List.length_take]
            exact Nat.le_trans (Nat.sub_le _ _) (Nat.le_trans (Nat.min_le_right _ _) hlen)
      · rename_i F e1 l
        split at hx
        · rename_i e0 el by_ hsl
          cases hty : Ty.beq e1 e0 with
          | false => rw [hty] at hx; exact exec_fail hx
          | true =>
            have := Ty.eq_of_beq hty
            subst this
            rw [hty] at hx
            generalize hq : sliceL (β := e1.den) l a b = q at hx
            obtain ⟨mm, vc⟩ := q
            obtain ⟨rfl, _⟩ := exec_ok hx
            obtain ⟨hno, A, m, c, rfl, htr⟩ := mx.slice
            obtain ⟨hm, hc, hmx⟩ := htr.sl_len
            subst hm
            have hends := sliceL_vc (β := e1.den) (l := l) (lo := a) (hi := b) (by rw [hq]; exact hv) c
            obtain ⟨hr, hle, hle2⟩ := run_sliceBounds (P := P) (isS := true) hc l1 l2 u1 u2 hends w
            have heq := sliceL_eq (β := e1.den) l a b hends
            rw [hq] at heq
            simp only at heq
            obtain ⟨h2, h3, te, h4, h5, _⟩ := slT_spec T hsl
            have hp := htr.part hno hle hle2
            refine .pure hb (v := .slice (if c = loOf a then A else A.map (·.add (loOf a * e1.size))) (hiOf (List.length l) b - loOf a) (c - loOf a)) ?_ (.ofSlice hno ?_)
            · simp [Instr.sliceAt, Instr.slice, run_underlying h2, hr, run_size_at T h4, h5]
            · rw [heq]; exact hp
        · exact exec_fail hx
      · exact exec_fail hx
    · -- a part of what is owned
      rename_i id
      split at hx
      · rename_i e0 el by_ hsl
        replace ⟨t', hx, _⟩ := exec_need hx
        have hv1 := mx.own
        split at hx
        · rename_i e1 f l hlk
          replace ⟨hty, hx⟩ := condR0 hx
          have := Ty.eq_of_beq hty
          subst this
          obtain ⟨A, m, c, hρ, htr⟩ := (hrs _ _ hlk).slice
          obtain ⟨hm, hc, _⟩ := htr.sl_len
          subst hm
          obtain ⟨h2, h3, te, h4, h5, _⟩ := slT_spec T hsl
          have fin : ∀ {top : Nat} {inn : Bool} {t : List Id}, top ≤ c → (inn = true → top ≤ l.length) → (sSub id e1.size top l.length inn a b).exec lk = some (e, t) → Does P old G w (do pure (.value (← Instr.sliceAt t0 v vlo vhi none))) e := by
            intro top inn t htop hinn hx
            obtain ⟨vc, rfl, hok⟩ := sSub_eq hx
            obtain ⟨hr, hle, hlc, hin⟩ := run_subBounds (P := P) hc htop l1 l2 u1 u2 (hok hv) w
            refine .pure hb (v := .slice (if c = loOf a then A else A.map (·.add (loOf a * e1.size))) (hiOf l.length b - loOf a) (c - loOf a)) ?_ (.of1 rfl ⟨A, l.length, c, hρ, hle, hlc, fun h => hin (hinn h), rfl⟩)
            rw [hv1, hρ]
            simp [Instr.sliceAt, Instr.slice, run_underlying h2, hr, run_size_at T h4, h5]
          replace ⟨t'', hx, _⟩ := exec_need hx
          split at hx
          · rename_i i k hlk2
            replace ⟨hi, hx⟩ := condR0 hx
            have hi := Id.eq_of_beq hi
            subst hi
            obtain ⟨A', n', c', hρ', hk⟩ := hrs _ _ hlk2
            rw [hρ] at hρ'
            cases hρ'
            refine fin ?_ (fun h => by cases h) hx
            cases Nat.ble l.length k <;> simp only [cond_true, cond_false] <;> first | exact hk | exact hc
          · exact fin hc (fun _ => Nat.le_refl _) hx
        · exact exec_fail hx
      · exact exec_fail hx
    · exact exec_fail hx
  · exact exec_fail hx
include T hb in
theorem does_slice3 {t0 : TypeId} {x a b m : SV} {v va vb vm : Value} {e : Eff} {t : List Id} (hrs : ∀ id R, lk id = some R → ResOk G w id R) (hx : (sSlice3 tt t0 x a b m).exec lk = some (e, t)) (hv : ∀ p ∈ e.vc, p)
    (mx : MtS G w x v) (ma : MtS G w a va) (mb : MtS G w b vb) (mm : MtS G w m vm) : Does P old G w (do pure (.value (← Instr.sliceAt t0 v (some va) (some vb) (some vm)))) e := by
  unfold sSlice3 at hx
  split at hx
  · rename_i id ka Fa a kb Fb b km Fm m
    split at hx
    · rename_i q hsl
      obtain ⟨e0, el, by_⟩ := q
      replace ⟨t', hx, _⟩ := exec_need hx
      have hv1 := mx.own
      split at hx
      · rename_i e1 f l hlk
        obtain ⟨rfl, _⟩ := exec_ok hx
        obtain ⟨h0, h1, h2, h3⟩ : 0 ≤ a ∧ a ≤ b ∧ b ≤ m ∧ m ≤ (l.length : Int) := hv _ List.mem_cons_self
        obtain ⟨A, n, c, hρ, htr⟩ := (hrs _ _ hlk).slice
        obtain ⟨hm, hc, _⟩ := htr.sl_len
        subst hm
        obtain ⟨g2, g3, te, g4, g5, _⟩ := slT_spec T hsl
        obtain ⟨rfl, _⟩ := ma.int
        obtain ⟨rfl, _⟩ := mb.int
        obtain ⟨rfl, _⟩ := mm.int
        obtain ⟨a', rfl⟩ := Int.eq_ofNat_of_zero_le h0
        obtain ⟨b', rfl⟩ := Int.eq_ofNat_of_zero_le (Int.le_trans h0 h1)
        obtain ⟨m', rfl⟩ := Int.eq_ofNat_of_zero_le (Int.le_trans h0 (Int.le_trans h1 h2))
        have e0' : m' ≤ l.length := Int.ofNat_le.1 h3
        have e1 : m' ≤ c := Nat.le_trans e0' hc
        have e2 : b' ≤ m' := Int.ofNat_le.1 h2
        have e3 : a' ≤ b' := Int.ofNat_le.1 h1
        refine .pure hb (v := .slice (if m' = a' then A else A.map (·.add (a' * te.T.size))) (b' - a') (m' - a')) ?_ trivial
        rw [hv1, hρ]
        simp [Instr.sliceAt, Instr.slice, run_underlying g2, run_size_at T g4, Instr.sliceBounds, Instr.sliceBound, asIntOf, e1, e2, e3]
      · exact exec_fail hx
    · exact exec_fail hx
  · exact exec_fail hx
end
end Go.Sx
