/- Symbolic execution, part J: loads and stores. -/
import Derived.Test.YtbnmeeajooljmaaSxI
set_option linter.all false
namespace Go.Sx
open Go Go.RowKit

section
variable {P : Program} {tt : TT} (T : TtOk P tt) {old : Id → Prop} {G : Gh} {w : World} {lk : Id → Option Res} (hb : ∀ b, G.g b ≠ .no → b < w.heap.size) (h1 : RhoOk G)
theorem cellsAt_part {C : Array Value} {o n off k : Nat} (h : off + k ≤ n) : ((cellsAt C o n).drop off).take k = cellsAt C (o + off) k := (cellsAt_sub C o n h).symm
/-- a load out of a block -/
theorem load_block (T : TtOk P tt) {t0 : TypeId} {te : TE} (h : ttOf tt t0 = some te) {b o : Nat} {C : Array Value} {t' : TypeId} {fz : Nat × Nat} (hh : w.heap[b]? = some (.cells C t' fz)) (hs : o + te.T.size ≤ C.size)
    (h1 : RhoOk G) {l : List At} {s : SV} {tr : List Id} (m : MtL G w l (cellsAt C o te.T.size)) (hx : (SV.ofTy te.ag l).exec lk = some (s, tr)) :
    ∃ v, (Instr.loadAt t0 (.pointer (some ⟨b, o, none⟩))).run P w = .ok v w ∧ MtS G w s v :=
  ⟨_, run_load_at T h hh hs, ofTy_sound h1 m (fun ha => by rw [cellsAt_len hs]; exact size_one T h ha) hx⟩
include T hb h1 in
theorem does_load {t0 : TypeId} {idb : Id} {x : SV} {v : Value} {e : Eff} {t : List Id} (hfr : ∀ k, ¬ old (idb.plus k)) (hrs : ∀ id R, lk id = some R → ResOk G w id R ∧ old id ∧ ∀ j ∈ R.ids, old j)
    (hx : (sLoad tt t0 idb x).exec lk = some (e, t)) (hv : ∀ p ∈ e.vc, p) (m : MtS G w x v) : Does P old G w (do pure (.value (← Instr.loadAt t0 v))) e := by
  have fin : ∀ {s : SV} {vc : List Prop}, (∃ u, (Instr.loadAt t0 v).run P w = .ok u w ∧ MtS G w s u) → Does P old G w (do pure (.value (← Instr.loadAt t0 v))) ⟨s, [], vc⟩ := by
    rintro s vc ⟨u, h1, h2⟩
    exact .pure hb (v := u) (by simp [h1]) h2
  unfold sLoad at hx
  split at hx
  · exact exec_fail hx
  rename_i t1 T0 ag nf el by_ fts hte
  split at hx
  · -- a variable
    rename_i id off
    replace ⟨t', hx, _⟩ := exec_need hx
    split at hx
    · rename_i cs hlk
      split at hx
      · rename_i l hl
        replace ⟨s, t1', t2', hs, hx, _⟩ := exec_bind hx
        obtain ⟨rfl, rfl⟩ := exec_ok hx
        obtain ⟨b, C, tt', hρ, hg, hh, hm⟩ := varOf_at hlk (fun R h => (hrs id R h).1)
        obtain ⟨b', hρ', hv'⟩ := m.at1.2
        rw [hρ] at hρ'
        cases hρ'
        simp only [List.cons.injEq, and_true] at hv'
        subst hv'
        obtain ⟨h3, h4⟩ := takeA_sound hm hl
        exact fin (load_block T hte hh (by simpa using h3) h1 h4 hs)
      · exact exec_fail hx
    · exact exec_fail hx
  · -- memory that stays
    rename_i o T' F y
    replace ⟨hTT, hx⟩ := beqT hx
    subst hTT
    replace ⟨s, t1', t2', hs, hx, _⟩ := exec_bind hx
    obtain ⟨rfl, rfl⟩ := exec_ok hx
    obtain ⟨h0, ho, b, off, C, tt', fz, hv', hl, hh, hsz, htr⟩ := m.at1.2
    simp only [List.cons.injEq, and_true] at hv'
    subst hv'
    exact fin (load_block T hte hh hsz h1 (atomsOf_sound _ _ _ _ _ _ h0 htr) hs)
  · -- an element of a slice that is owned
    rename_i id i sz off T'
    replace ⟨hTT, hx⟩ := beqT hx
    subst hTT
    replace ⟨t', hx, _⟩ := exec_need hx
    obtain ⟨b, o, n, c, hρ, hv'⟩ := m.at1.2
    simp only [List.cons.injEq, and_true] at hv'
    subst hv'
    split at hx
    · rename_i e' f y hlk
      replace ⟨hsz, hx⟩ := condR hx
      have hsz := Nat.eq_of_beq_eq_true hsz
      subst hsz
      obtain ⟨hR, hold, _⟩ := hrs id _ hlk
      split at hx
      · exact exec_fail hx
      rename_i F hF
      split at hx
      · -- nothing owned in it
        rename_i hO
        split at hx
        · rename_i z hz
          replace ⟨s, t1', t2', hs, hx, _⟩ := exec_bind hx
          obtain ⟨rfl, rfl⟩ := exec_ok hx
          have hi : i < y.length := hv _ List.mem_cons_self
          obtain ⟨A, n', c', hcs, hn, hc, hm, hwf, h⟩ := hR
          rw [hρ] at hcs
          simp only [List.cons.injEq, Value.slice.injEq, and_true] at hcs
          obtain ⟨rfl, rfl, rfl⟩ := hcs
          rcases h with ⟨h, _⟩ | ⟨b', off', C, tt', fz, hA, hl, hh, hs', hw, hj⟩
          · cases h rfl
          simp only [Option.some.injEq, Addr.mk.injEq, and_true] at hA
          obtain ⟨rfl, rfl⟩ := hA
          have hy : (y : List e'.den)[i]? = some (y.getD i e'.dflt) := by rw [List.getD_eq_getElem?_getD, List.getElem?_eq_getElem hi]; rfl
          obtain ⟨h3, id', p', h4⟩ := part_at _ _ _ _ _ _ _ _ _ _ (hj i _ hy) hz hF
          rw [cellsAt_part h3] at h4
          have hle : (i + 1) * e'.size ≤ n * e'.size := Nat.mul_le_mul_right _ (by omega)
          rw [Nat.succ_mul] at hle
          exact fin (load_block T hte hh (by simp only; omega) h1 (atomsOf_sound _ _ _ _ _ _ hO h4) hs)
        · exact exec_fail hx
      · -- laid open
        cases hop : openOf e' f (y.getD i e'.dflt) idb with
        | mk cs us =>
        rw [hop] at hx
        simp only at hx
        split at hx
        · rename_i l hl
          replace ⟨s, t1', t2', hs, hx, _⟩ := exec_bind hx
          obtain ⟨rfl, rfl⟩ := exec_ok hx
          have hi : i < y.length := hv _ List.mem_cons_self
          obtain ⟨G', hc, hR', hus⟩ := lay_open hb hi hold hfr hR hop h1
          have hR'' := hR'
          obtain ⟨b', o', C, tt', n', c', hρ', h2, h3, h4, h5, h6, h7, h8, h9, h10⟩ := hR'
          have hρ2 := hc.rho id hold
          rw [hρ', hρ] at hρ2
          cases hρ2
          obtain ⟨h11, h12⟩ := takeA_sound h10 hl
          have hle : (i + 1) * e'.size ≤ c * e'.size := Nat.mul_le_mul_right _ (by omega)
          rw [Nat.succ_mul] at hle
          rw [cellsAt_len (by omega)] at h11
          rw [cellsAt_part h11] at h12
          obtain ⟨u, hu1, hu2⟩ := load_block (te := ⟨t1, T', ag, nf, el, by_, fts⟩) T hte h7 (by simp only; omega) (hc.one h1) h12 hs
          refine ⟨_, u, w, G', by simp [hu1], .inl rfl, hc.le (fun j hj => by simp [hj]), hu2, fun j R hj => ?_⟩
          rcases List.mem_cons.1 hj with hj | hj
          · cases hj
            exact hR''
          · exact hus j R hj
        · exact exec_fail hx
    · rename_i e' f y j cs hlk
      replace ⟨hsz, hx⟩ := condR hx
      have hsz := Nat.eq_of_beq_eq_true hsz
      subst hsz
      split at hx
      · rename_i l hl
        replace ⟨s, t1', t2', hs, hx, _⟩ := exec_bind hx
        obtain ⟨rfl, rfl⟩ := exec_ok hx
        have hi : i = j := hv _ List.mem_cons_self
        subst hi
        obtain ⟨b', o', C, tt', n', c', hρ', h2, h3, h4, h5, h6, h7, h8, h9, h10⟩ := (hrs id _ hlk).1
        rw [hρ] at hρ'
        cases hρ'
        obtain ⟨h11, h12⟩ := takeA_sound h10 hl
        have hle : (i + 1) * e'.size ≤ c * e'.size := Nat.mul_le_mul_right _ (by omega)
        rw [Nat.succ_mul] at hle
        rw [cellsAt_len (by omega)] at h11
        rw [cellsAt_part h11] at h12
        exact fin (load_block (te := ⟨t1, T', ag, nf, el, by_, fts⟩) T hte h7 (by simp only; omega) h1 h12 hs)
      · exact exec_fail hx
    · -- one of several
      rename_i sz' css hlk
      replace ⟨hE, hx⟩ := condR hx
      simp only [Bool.and_eq_true] at hE
      have e1 := Nat.eq_of_beq_eq_true hE.1
      have e2 := Nat.eq_of_beq_eq_true hE.2.1
      have e3 := Nat.eq_of_beq_eq_true hE.2.2
      subst e1
      subst e2
      subst e3
      replace ⟨pk, t1', t2', hpk, hx, _⟩ := exec_bind hx
      split at hx
      · rename_i ys
        replace ⟨s, t3', t4', hs, hx, _⟩ := exec_bind hx
        obtain ⟨rfl, rfl⟩ := exec_ok hx
        have hi : i < ys.length := hv _ List.mem_cons_self
        obtain ⟨A, n', c', hρ', hn, hc, hm, h⟩ := (hrs id _ hlk).1
        rw [hρ] at hρ'
        cases hρ'
        rcases h with ⟨h, _⟩ | ⟨b', off', C, tt', hA, hg, hh, hsz, hels⟩
        · cases h
        cases hA
        obtain ⟨hlen, hp⟩ := packEach_sound (fun l cs x r ids lent t => pack_sound (fun id R h => (hrs id R h).1) T' pF l cs x r ids lent t) css (fun k => cellsAt C (o + k * T'.size) T'.size) 0 ys [] [] _ (fun k l hk => by rw [Nat.zero_add]; exact MtEls.get hels hk) hpk
        obtain ⟨mm, hmm, htr⟩ := hp List.nodup_nil
        have hy : ys[i]? = some (ys.getD i T'.dflt) := by rw [List.getD_eq_getElem?_getD, List.getElem?_eq_getElem hi]; rfl
        have h4 := htr G w default [] ⟨.refl G w, fun b i q pos _ hp => absurd ((hmm i).1 (by rw [hp]; simp)) (by simp), fun b i q _ hi => absurd hi (by simp)⟩ i _ hy
        simp only [Nat.zero_add] at h4
        have hle : (i + 1) * T'.size ≤ c * T'.size := Nat.mul_le_mul_right _ (by omega)
        rw [Nat.succ_mul] at hle
        exact fin (load_block (te := ⟨t1, T', ag, nf, el, by_, fts⟩) T hte hh (by simp only; omega) h1 (by rw [Nat.add_zero]; exact atomsOf_sound _ _ _ _ _ _ (noO_p _) h4) hs)
      · exact exec_fail hx
    · -- a byte
      rename_i l hlk
      replace ⟨hE, hx⟩ := condR hx
      simp only [Bool.and_eq_true] at hE
      have e1 := Nat.eq_of_beq_eq_true hE.1
      have e2 := Nat.eq_of_beq_eq_true hE.2.1
      have e3 := Ty.eq_of_beq hE.2.2
      subst e1
      subst e2
      subst e3
      split at hx
      · obtain ⟨rfl, rfl⟩ := exec_ok hx
        have hi : i < l.length := hv _ List.mem_cons_self
        obtain ⟨b', C, tt', fz, c', hρ', h2, h3, h4, h5, h6, h7, h8⟩ := (hrs id _ hlk).1
        rw [hρ] at hρ'
        cases hρ'
        have hg : l[i]? = some (l.getD i 0) := by rw [List.getD_eq_getElem?_getD, List.getElem?_eq_getElem hi]; rfl
        obtain ⟨h9, h10⟩ := h8 i _ hg
        have hc1 : cellsAt C (0 + i * 1 + 0) 1 = [.int .u8 (l.getD i 0)] := by
          unfold cellsAt
          have h11 : i < C.toList.length := by rw [Array.length_toList]; omega
          rw [show 0 + i * 1 + 0 = i by omega, List.drop_eq_getElem_cons h11]
          have h12 : C.toList[i]? = some (.int .u8 (l.getD i 0)) := by rw [Array.getElem?_toList]; exact h9
          rw [List.getElem?_eq_getElem h11] at h12
          rw [Option.some.inj h12]
          rfl
        exact fin (load_block (lk := lk) (te := ⟨t1, .int .u8, false, nf, el, by_, fts⟩) (tr := []) T hte h5 (by simp only [Ty.size]; omega) h1 (l := [.d (.int .u8) pF (l.getD i 0)]) (.one ⟨rfl, hc1, h10⟩) rfl)
      · exact exec_fail hx
    · exact exec_fail hx
  · exact exec_fail hx

theorem Chg.wk {old' chg : Id → Prop} {G' : Gh} {w' : World} (h : Chg (fun _ => True) chg G G' w w') : Chg old' chg G G' w w' :=
  ⟨fun id _ => h.rho id trivial, h.pb, h.own, h.no, h.bnd, h.one, h.os, h.tape, h.output, h.size⟩
theorem over_size {C : Array Value} {o : Nat} {vs : List Value} (h : o + vs.length ≤ C.size) : (over C o vs).size = C.size := by
  simp [over]; omega
theorem over_get {C : Array Value} {o : Nat} {vs : List Value} (h : o + vs.length ≤ C.size) (k : Nat) : (over C o vs)[k]? = if k < o then C[k]? else if k < o + vs.length then vs[k - o]? else C[k]? := by
  have hl : (C.toList.take o).length = o := by rw [List.length_take, Array.length_toList]; omega
  simp only [over, List.getElem?_toArray]
  split
  · rename_i h1
    rw [List.append_assoc, List.getElem?_append_left (by omega), List.getElem?_take_of_lt h1, Array.getElem?_toList]
  · split
    · rw [List.append_assoc, List.getElem?_append_right (by omega), hl, List.getElem?_append_left (by omega)]
    · rw [List.getElem?_append_right (by rw [List.length_append]; omega), List.length_append, hl, List.getElem?_drop, Array.getElem?_toList]
      congr 1
      omega
theorem cellsAt_get? (C : Array Value) (o n k : Nat) : (cellsAt C o n)[k]? = if k < n then C[o + k]? else none := by
  unfold cellsAt
  rw [List.getElem?_take]
  split
  · rw [List.getElem?_drop, Array.getElem?_toList]
  · rfl
theorem cellsAt_over_out {C : Array Value} {o : Nat} {vs : List Value} (h : o + vs.length ≤ C.size) {o' n' : Nat} (hd : o' + n' ≤ o ∨ o + vs.length ≤ o') : cellsAt (over C o vs) o' n' = cellsAt C o' n' := by
  refine List.ext_getElem? fun k => ?_
  rw [cellsAt_get?, cellsAt_get?]
  split
  · rw [over_get h]
    split
    · rfl
    · rw [if_neg (by omega)]
  · rfl
theorem cellsAt_over_in {C : Array Value} {o off n : Nat} {vs : List Value} (hn : off + vs.length ≤ n) (h : o + n ≤ C.size) : cellsAt (over C (o + off) vs) o n = (cellsAt C o n).take off ++ vs ++ (cellsAt C o n).drop (off + vs.length) := by
  have hl : ((cellsAt C o n).take off).length = off := by rw [List.length_take, cellsAt_len h]; omega
  refine List.ext_getElem? fun k => ?_
  rw [cellsAt_get?]
  split
  · rename_i hk
    rw [over_get (by omega)]
    split
    · rw [List.append_assoc, List.getElem?_append_left (by omega), List.getElem?_take_of_lt (by omega), cellsAt_get?, if_pos hk]
    · split
      · rw [List.append_assoc, List.getElem?_append_right (by omega), hl, List.getElem?_append_left (by omega)]
        congr 1
        omega
      · rw [List.getElem?_append_right (by rw [List.length_append]; omega), List.length_append, hl, List.getElem?_drop, cellsAt_get?, if_pos (by omega)]
        congr 1
        omega
  · rw [List.getElem?_append_right (by rw [List.length_append]; omega), List.length_append, hl, List.getElem?_drop, cellsAt_get?, if_neg (by omega)]
theorem over_toList {C : Array Value} {o : Nat} {vs : List Value} : (over C o vs).toList = C.toList.take o ++ vs ++ C.toList.drop (o + vs.length) := by simp [over]

theorem partSet_base {T T' : Ty} {F F' : Fl} {id : Id} {p : List Nat} {cs ds : List Value} {x z : T.den} {q : T'.den} {off : Nat} (h : Tr G w T F id p cs x)
    (hz : (bif Nat.beq off 0 && Ty.beq T T' then some (tcast T' T q) else none) = some z) (hF : (bif Nat.beq off 0 && Ty.beq T T' then some F else none) = some F') (hq : Tr G w T' F' id p ds q) :
    Tr G w T F id p (cs.take off ++ ds ++ cs.drop (off + ds.length)) z := by
  cases hc : (Nat.beq off 0 && Ty.beq T T') with
  | false => rw [hc] at hz; cases hz
  | true =>
    rw [hc] at hz hF
    simp only [cond_true, Option.some.injEq] at hz hF
    simp only [Bool.and_eq_true] at hc
    have h0 := Nat.eq_of_beq_eq_true hc.1
    have hT := Ty.eq_of_beq hc.2
    subst h0; subst hT; subst hF
    rw [tcast_self] at hz
    subst hz
    rw [List.take_zero, List.nil_append, List.drop_of_length_le (by rw [h.len, hq.len]; omega), List.append_nil]
    exact hq
theorem partFl_in : ∀ {T : Ty} {F : Fl} {off : Nat} {T' : Ty} {F' : Fl}, partFl T F off T' = some F' → off + T'.size ≤ T.size := by
  have base : ∀ {T : Ty} {F : Fl} {off : Nat} {T' : Ty} {F' : Fl}, (bif Nat.beq off 0 && Ty.beq T T' then some F else none) = some F' → off + T'.size ≤ T.size := by
    intro T F off T' F' hF
    cases hc : (Nat.beq off 0 && Ty.beq T T') with
    | true =>
      simp only [Bool.and_eq_true] at hc
      have h0 := Nat.eq_of_beq_eq_true hc.1
      have hT := Ty.eq_of_beq hc.2
      subst h0; subst hT
      omega
    | false => rw [hc] at hF; cases hF
  intro T
  induction T with
  | pr a b iha ihb =>
    intro F off T' F' hF
    simp only [partFl] at hF
    cases hc : (Nat.beq off 0 && Ty.beq (.pr a b) T') with
    | true => exact base (T := .pr a b) (F := F) (by rw [hc]; rw [hc] at hF; exact hF)
    | false =>
      rw [hc] at hF
      simp only [cond_false] at hF
      cases hlt : Nat.blt off a.size with
      | true => rw [hlt] at hF; have := iha hF; simp only [Ty.size]; omega
      | false =>
        rw [hlt] at hF
        have := ihb hF
        have hge : a.size ≤ off := by
          rcases Nat.lt_or_ge off a.size with h | h
          · rw [show Nat.blt off a.size = true from by rw [Nat.blt_eq]; exact h] at hlt; cases hlt
          · exact h
        simp only [Ty.size]; omega
  | _ => intro F off T' F' hF; exact base hF
theorem partSet_sound : ∀ (T : Ty) (F : Fl) (id : Id) (p : List Nat) (cs ds : List Value) (x z : T.den) (off : Nat) (T' : Ty) (q : T'.den) (F' : Fl), Tr G w T F id p cs x → partSet T x off T' q = some z → partFl T F off T' = some F' →
    (∀ id p, Tr G w T' F' id p ds q) → off + ds.length ≤ T.size → Tr G w T F id p (cs.take off ++ ds ++ cs.drop (off + ds.length)) z := by
  intro T
  induction T with
  | pr a b iha ihb =>
    intro F id p cs ds x z off T' q F' h hz hF hq hin
    simp only [partSet, partFl] at hz hF
    cases hc : (Nat.beq off 0 && Ty.beq (.pr a b) T') with
    | true => rw [hc] at hz hF; exact partSet_base h (by rw [hc]; exact hz) (by rw [hc]; exact hF) (hq id p)
    | false =>
      rw [hc] at hz hF
      simp only [cond_false] at hz hF
      obtain ⟨c1, c2, rfl, h1, h2⟩ := h
      have hl := h1.len
      cases hlt : Nat.blt off a.size with
      | true =>
        rw [hlt] at hz hF
        simp only [cond_true] at hz hF
        split at hz
        · rename_i z1 hz1
          cases hz
          have hds : off + ds.length ≤ a.size := by
            rw [(hq id p).len]
            exact partFl_in hF
          have h3 := iha _ _ _ _ _ _ _ _ _ _ _ h1 hz1 hF hq hds
          refine ⟨_, c2, ?_, h3, h2⟩
          rw [List.take_append_of_le_length (by omega), List.drop_append_of_le_length (by omega), List.append_assoc, List.append_assoc, List.append_assoc]
        · cases hz
      | false =>
        rw [hlt] at hz hF
        simp only [cond_false] at hz hF
        have hge : a.size ≤ off := by
          rcases Nat.lt_or_ge off a.size with h | h
          · rw [show Nat.blt off a.size = true from by rw [Nat.blt_eq]; exact h] at hlt; cases hlt
          · exact h
        split at hz
        · rename_i z1 hz1
          cases hz
          have h3 := ihb _ _ _ _ _ _ _ _ _ _ _ h2 hz1 hF hq (by simp only [Ty.size] at hin; omega)
          refine ⟨c1, _, ?_, h1, h3⟩
          rw [List.take_append, List.take_of_length_le (by omega), hl, List.drop_append, List.drop_of_length_le (by omega), List.nil_append, hl, List.append_assoc, List.append_assoc, List.append_assoc]
          congr 4
          omega
        · cases hz
  | int k => intro F id p cs ds x z off T' q F' h hz hF hq _; exact partSet_base h hz hF (hq id p)
  | bool => intro F id p cs ds x z off T' q F' h hz hF hq _; exact partSet_base h hz hF (hq id p)
  | pt => intro F id p cs ds x z off T' q F' h hz hF hq _; exact partSet_base h hz hF (hq id p)
  | str => intro F id p cs ds x z off T' q F' h hz hF hq _; exact partSet_base h hz hF (hq id p)
  | sl e ih => intro F id p cs ds x z off T' q F' h hz hF hq _; exact partSet_base h hz hF (hq id p)
  | arr n e ih => intro F id p cs ds x z off T' q F' h hz hF hq _; exact partSet_base h hz hF (hq id p)

theorem idsL_append (l m : List At) : idsL (l ++ m) = idsL l ++ idsL m := by
  induction l with
  | nil => rfl
  | cons a r ih => simp only [List.cons_append, idsL, ih, List.append_assoc]
theorem putA_ids : ∀ {l : List At} {off : Nat} {vs m : List At}, putA l off vs = some m → ∀ j ∈ idsL m, j ∈ idsL l ∨ j ∈ idsL vs := by
  intro l
  induction l with
  | nil =>
    intro off vs m h j hj
    match off, vs with
    | 0, [] => simp only [putA, Option.some.injEq] at h; subst h; cases hj
    | 0, _ :: _ => simp [putA] at h
    | off + 1, _ => simp [putA] at h
  | cons a r ih =>
    intro off vs m h j hj
    match off, vs with
    | 0, [] => simp only [putA, Option.some.injEq] at h; subst h; exact .inl hj
    | 0, v :: vs =>
      simp only [putA] at h
      cases hb : Nat.beq a.size v.size with
      | false => rw [hb] at h; cases h
      | true =>
        rw [hb] at h
        simp only [cond_true] at h
        split at h
        · rename_i y hy
          cases h
          simp only [idsL, List.mem_append] at hj ⊢
          rcases hj with hj | hj
          · exact .inr (.inl hj)
          · exact (ih hy j hj).elim (fun h => .inl (.inr h)) (fun h => .inr (.inr h))
        · cases h
    | off + 1, vs =>
      simp only [putA] at h
      cases hb : Nat.ble a.size (off + 1) with
      | false => rw [hb] at h; cases h
      | true =>
        rw [hb] at h
        simp only [cond_true] at h
        split at h
        · rename_i y hy
          cases h
          simp only [idsL, List.mem_append] at hj ⊢
          rcases hj with hj | hj
          · exact .inl (.inl hj)
          · exact (ih hy j hj).elim (fun h => .inl (.inr h)) (fun h => .inr h)
        · cases h
theorem fitsT_spec {t0 : TypeId} {ag' : Bool} {l : List At} (h : fitsT tt t0 (.v ag' l) = true) : ∃ te, ttOf tt t0 = some te ∧ te.T.size = sizeL l := by
  unfold fitsT at h
  split at h
  · rename_i t1 T0 ag nf el by_ fts ag2 l2 hte hy
    cases hy
    simp only [Bool.and_eq_true] at h
    exact ⟨_, hte, Nat.eq_of_beq_eq_true h.2⟩
  · cases h
theorem openOf_ids : ∀ {T : Ty} {F : Fl} {x : T.den} {n : Id} {j : Id} {R : Option Res}, (j, R) ∈ (openOf T F x n).2 → ∃ k, j = n.plus k := by
  intro T
  induction T with
  | pr a b iha ihb =>
    intro F x n j R h
    simp only [openOf, List.mem_append] at h
    rcases h with h | h
    · exact iha h
    · obtain ⟨k, rfl⟩ := ihb h
      exact ⟨_, Id.plus_plus n _ _⟩
  | sl e ih =>
    intro F x n j R h
    simp only [openOf] at h
    split at h
    · simp only [List.mem_singleton, Prod.mk.injEq] at h
      exact ⟨0, h.1⟩
    · cases h
  | _ => intro F x n j R h; cases h
/-- the element that is laid open is written -/
theorem store_slo (hb : ∀ b, G.g b ≠ .no → b < w.heap.size) {id : Id} {e : Ty} {f : Fl} {y : List e.den} {i off : Nat} {cs l cs' : List At} {ds : List Value} (hR : ResOk G w id (.slo e f y i cs)) (m : MtL G w l ds) (hp : putA cs off l = some cs') :
    ∃ b o n c C t, G.ρ id = .slice (some ⟨b, o, none⟩) n c ∧ w.heap[b]? = some (.cells C t (0, 0)) ∧ o + i * e.size + off + ds.length ≤ C.size ∧
      Chg old (fun j => j = id) G G w (w.setRow b (over C (o + i * e.size + off) ds)) ∧ ResOk G (w.setRow b (over C (o + i * e.size + off) ds)) id (.slo e f y i cs') := by
  obtain ⟨b, o, C, t, n, c, hρ, h2, h3, h4, h5, h6, h7, h8, h9, h10⟩ := hR
  obtain ⟨h11, h12⟩ := putA_sound h10 m hp
  have hle : (i + 1) * e.size ≤ c * e.size := Nat.mul_le_mul_right _ (by omega)
  rw [Nat.succ_mul] at hle
  rw [cellsAt_len (by omega)] at h11
  have hc : ∀ {old : Id → Prop}, Chg old (fun j => j = id) G G w (w.setRow b (over C (o + i * e.size + off) ds)) := .setRow (chg := fun j => j = id) hb h6 rfl _
  have hsz := over_size (C := C) (o := o + i * e.size + off) (vs := ds) (by omega)
  refine ⟨b, o, n, c, C, t, hρ, h7, by omega, hc, b, o, _, t, n, c, hρ, h2, h3, h4, h5, h6, setRow_heap w b _ _ t _ h7, by rw [hsz]; exact h8, fun k z hk hz => ?_, ?_⟩
  · have hkn : k < y.length := (List.getElem?_eq_some_iff.1 hz).1
    have h13 := h9 k z hk hz
    rw [cellsAt_over_out (by omega)]
    · refine Tr.mono (hc (old := old)).pb (fun b' q hq => ⟨hq, setRow_other w b b' _ (fun e' => ?_)⟩) h13
      rw [e', h6] at hq
      cases hq
    · rcases Nat.lt_or_gt_of_ne hk with hlt | hgt
      · have : (k + 1) * e.size ≤ i * e.size := Nat.mul_le_mul_right _ (by omega)
        rw [Nat.succ_mul] at this
        omega
      · have : (i + 1) * e.size ≤ k * e.size := Nat.mul_le_mul_right _ (by omega)
        rw [Nat.succ_mul] at this
        omega
  · rw [cellsAt_over_in (by omega) (by omega)]
    exact h12.keep (old := fun _ => True) hc (fun _ _ => trivial)
/-- a store of one cell that is not frozen -/
theorem run_store_byte (T : TtOk P tt) {t : TypeId} {te : TE} (h : ttOf tt t = some te) {b i : Nat} {C : Array Value} {t' : TypeId} {fz : Nat × Nat} {u x : Value} (hh : w.heap[b]? = some (.cells C t' fz)) (hi : i < C.size) (hf : i < fz.1)
    (h1 : x.oneCell' = true) (hu : u.cells.toList = [x]) (hs : te.T.size = 1) : (Instr.storeAt t (.pointer (some ⟨b, i, none⟩)) u).run P w = .ok () (w.setRow b (C.setIfInBounds i x)) := by
  have hcell : w.cell? ⟨b, i, none⟩ = some C[i] := by simp [World.cell?, hh, hi]
  have hfro : w.frozen? ⟨b, i, none⟩ = false := by
    obtain ⟨lo, hi'⟩ := fz
    simp only [World.frozen?, hh, Bool.and_eq_false_iff, decide_eq_false_iff_not]
    left
    simp only at hf
    omega
  have hadd : (⟨b, i, none⟩ : Addr).add 0 = ⟨b, i, none⟩ := by simp [Addr.add]
  have hst : (storeCells ⟨b, i, none⟩ u.cells.toList 0).run P w = .ok () (w.setRow b (C.setIfInBounds i x)) := by
    rw [hu]
    simp only [storeCells]
    rw [Sem.run_bind, hadd, run_store P w _ x _ h1, hcell]
    simp [hfro, setCell_eq_setRow w b i C t' fz x hh]
  have hz : u.cells.size = te.T.size := by rw [hs, ← Array.length_toList, hu]; rfl
  unfold Instr.storeAt Instr.sureAddr storeVar
  simp [run_size_at T h, hz, hst]
include T hb h1 in
theorem does_store {t0 : TypeId} {idb : Id} {x y : SV} {v u : Value} {e : Eff} {t : List Id} (hfr : ∀ k, ¬ old (idb.plus k)) (hrs : ∀ id R, lk id = some R → ResOk G w id R ∧ old id ∧ ∀ j ∈ R.ids, old j)
    (hyo : ∀ j ∈ y.ids, old j) (hf : fitsT tt t0 y = true) (hx : (sStore idb x y).exec lk = some (e, t)) (hv : ∀ p ∈ e.vc, p) (m : MtS G w x v) (my : MtS G w y u) : Does P old G w (do Instr.storeAt t0 v u; pure .skip) e := by
  have fin : ∀ {b o : Nat} {C : Array Value} {t' : TypeId} {ag' : Bool} {l : List At} {G' : Gh}, y = .v ag' l → v = .pointer (some ⟨b, o, none⟩) → w.heap[b]? = some (.cells C t' (0, 0)) → o + u.cells.toList.length ≤ C.size →
      (Instr.storeAt t0 v u).run P w = .ok () (w.setRow b (over C o u.cells.toList)) := by
    rintro b o C t' ag' l G' rfl rfl hh hs
    obtain ⟨te, hte, hsz⟩ := fitsT_spec hf
    have hm := MtV.cells my
    have hl := hm.len
    exact run_store_at T hte hh (by omega) (by omega) (hm.one' h1)
  unfold sStore at hx
  split at hx
  · -- a variable
    rename_i id off ag l
    replace ⟨t', hx, _⟩ := exec_need hx
    have hm := MtV.cells my
    split at hx
    · rename_i cs hlk
      split at hx
      · rename_i cs' hcs
        obtain ⟨rfl, rfl⟩ := exec_ok hx
        obtain ⟨b, C, tt', hρ, hg, hh, hmc⟩ := (hrs id _ hlk).1
        obtain ⟨b', hρ', hv'⟩ := m.at1.2
        rw [hρ] at hρ'
        cases hρ'
        simp only [List.cons.injEq, and_true] at hv'
        obtain ⟨h3, h4⟩ := putA_sound hmc hm hcs
        have hrun := fin (G' := G) rfl hv' hh (by simpa using h3)
        have hc : ∀ {old : Id → Prop}, Chg old (fun j => j = id) G G w (w.setRow b (over C off u.cells.toList)) := .setRow (chg := fun j => j = id) hb hg rfl _
        refine ⟨_, undef, _, G, by simp [hrun], .inr ⟨rfl, rfl, rfl⟩, hc.le (fun j hj => by simp [hj]), trivial, fun j R hj => ?_⟩
        simp only [List.mem_singleton, Prod.mk.injEq, Option.some.injEq] at hj
        obtain ⟨rfl, rfl⟩ := hj
        exact ⟨b, _, tt', hρ, hg, setRow_heap w b _ _ tt' _ hh, by rw [over_toList]; exact h4.keep (old := fun _ => True) hc (fun _ _ => trivial)⟩
      · exact exec_fail hx
    · exact exec_fail hx
  · -- an element of a slice that is owned
    rename_i id i sz off T' ag l
    replace ⟨t', hx, _⟩ := exec_need hx
    have hm := MtV.cells my
    obtain ⟨b, o, n, c, hρ, hv'⟩ := m.at1.2
    simp only [List.cons.injEq, and_true] at hv'
    split at hx
    · rename_i e' f z hlk
      replace ⟨hsz, hx⟩ := condR hx
      have hsz := Nat.eq_of_beq_eq_true hsz
      subst hsz
      obtain ⟨hR, hold, _⟩ := hrs id _ hlk
      split at hx
      · exact exec_fail hx
      rename_i F hF
      split at hx
      · -- nothing owned in it
        rename_i hO
        replace ⟨pk, t1', t2', hpk, hx, _⟩ := exec_bind hx
        split at hx
        · rename_i q
          split at hx
          · rename_i z' hz
            obtain ⟨rfl, rfl⟩ := exec_ok hx
            have hi : i < z.length := hv _ List.mem_cons_self
            obtain ⟨c1, c2, hds, hc1, hc2, hpacks⟩ := pack_sound (fun id R h => (hrs id R h).1) _ _ _ _ _ _ _ _ _ hm hpk
            rw [show c2 = [] from hc2, List.append_nil] at hds
            subst hds
            obtain ⟨mm, hmm, htr⟩ := hpacks List.nodup_nil
            obtain ⟨A, n', c', hcs, hn, hc, hml, hwf, h⟩ := hR
            rw [hρ] at hcs
            simp only [List.cons.injEq, Value.slice.injEq, and_true] at hcs
            obtain ⟨rfl, rfl, rfl⟩ := hcs
            rcases h with ⟨h, _⟩ | ⟨b', off', C, tt', fz, hA, hl, hh, hs', hw, hj⟩
            · cases h rfl
            simp only [Option.some.injEq, Addr.mk.injEq, and_true] at hA
            obtain ⟨rfl, rfl⟩ := hA
            have hy : (z : List e'.den)[i]? = some (z.getD i e'.dflt) := by rw [List.getD_eq_getElem?_getD, List.getElem?_eq_getElem hi]; rfl
            have hel := hj i _ hy
            obtain ⟨rfl, hs''⟩ := hw rfl
            have hle : (i + 1) * e'.size ≤ n * e'.size := Nat.mul_le_mul_right _ (by omega)
            rw [Nat.succ_mul] at hle
            have hpf := partFl_in hF
            have hrun := fin (G' := G) rfl hv' hh (by omega)
            have hchg : ∀ {old : Id → Prop}, Chg old (fun j => j = id) G G w (w.setRow b (over C (o + i * e'.size + off) u.cells.toList)) := .setRow (chg := fun j => j = id) hb hl rfl _
            refine ⟨_, undef, _, G, by simp [hrun], .inr ⟨rfl, rfl, rfl⟩, hchg.le (fun j hj => by simp [hj]), trivial, fun j R hj' => ?_⟩
            simp only [List.mem_singleton, Prod.mk.injEq, Option.some.injEq] at hj'
            obtain ⟨rfl, rfl⟩ := hj'
            have hov : o + i * e'.size + off + u.cells.toList.length ≤ C.size := by omega
            have oth : ∀ {b' : Nat} {k : Nat} {q : List Nat}, G.g b' = .own j (([] ++ [k]) ++ q) → (w.setRow b (over C (o + i * e'.size + off) u.cells.toList)).heap[b']? = w.heap[b']? := fun {b' k q} hq => setRow_other w b b' _ (fun e0 => by
              rw [e0, show G.g b = .own j [] from hl] at hq
              simp at hq)
            refine ⟨_, n, c, by rw [hρ], by rw [List.length_set]; exact hn, hc, hml, hwf, .inr ⟨b, o, _, tt', (0, 0), rfl, hl, setRow_heap w b _ _ tt' _ hh, by rw [over_size hov]; exact hs', fun _ => ⟨rfl, by rw [over_size hov]; exact hs''⟩, fun k zk hk => ?_⟩⟩
            have hk' : (z.set i z')[k]? = some zk := hk
            rw [List.getElem?_set] at hk'
            split at hk'
            · rename_i hik
              subst hik
              cases hk'
              rw [cellsAt_over_in (by omega) (by omega)]
              refine partSet_sound _ _ _ _ _ _ _ _ _ _ _ _ (Tr.mono (hchg (old := old)).pb (fun b' q hq => ⟨hq, oth hq⟩) hel) hz hF (fun id' p' => ?_) (by omega)
              exact htr G _ id' p' ⟨(hchg (old := old)).pb, fun b' i' q' pos _ hm' => absurd ((hmm i').1 (by rw [hm']; simp)) (by simp), fun b' i' q' _ hm' => absurd hm' (by simp)⟩
            · rename_i hik
              rw [cellsAt_over_out hov]
              · exact Tr.mono (hchg (old := old)).pb (fun b' q hq => ⟨hq, oth hq⟩) (hj k zk hk')
              · rcases Nat.lt_or_gt_of_ne hik with hlt | hgt
                · have : (i + 1) * e'.size ≤ k * e'.size := Nat.mul_le_mul_right _ (by omega)
                  rw [Nat.succ_mul] at this
                  omega
                · have : (k + 1) * e'.size ≤ i * e'.size := Nat.mul_le_mul_right _ (by omega)
                  rw [Nat.succ_mul] at this
                  omega
          · exact exec_fail hx
        · exact exec_fail hx
      · -- laid open
        cases hop : openOf e' f (z.getD i e'.dflt) idb with
        | mk cs us =>
        rw [hop] at hx
        simp only at hx
        split at hx
        · rename_i cs' hcs
          obtain ⟨rfl, rfl⟩ := exec_ok hx
          have hi : i < z.length := hv _ List.mem_cons_self
          obtain ⟨G', hc, hR', hus⟩ := lay_open hb hi hold hfr hR hop h1
          have hm' : MtL G' w l u.cells.toList := hm.keep hc hyo
          obtain ⟨b', o', n', c', C, tt', hρ', hh, hin, hchg, hR''⟩ := store_slo (old := fun _ => True) hc.bnd hR' hm' hcs
          have hρ2 := hc.rho id hold
          rw [hρ', hρ] at hρ2
          cases hρ2
          have hrun := fin (G' := G) rfl hv' hh hin
          refine ⟨_, undef, _, G', by simp [hrun], .inr ⟨rfl, rfl, rfl⟩, ((hc.trans (Chg.wk hchg))).le (fun j hj => by simp [hj]), trivial, fun j R hj => ?_⟩
          rcases List.mem_cons.1 hj with hj | hj
          · cases hj
            exact hR''
          · exact (hus j R hj).keep hchg trivial (fun _ _ => trivial) (fun hji => by
              obtain ⟨k, rfl⟩ := openOf_ids (show (j, some R) ∈ (openOf e' f (z.getD i e'.dflt) idb).2 by rw [hop]; exact hj)
              exact hfr k (hji ▸ hold))
        · exact exec_fail hx
    · rename_i e' f z j cs hlk
      replace ⟨hsz, hx⟩ := condR hx
      have hsz := Nat.eq_of_beq_eq_true hsz
      subst hsz
      split at hx
      · rename_i cs' hcs
        obtain ⟨rfl, rfl⟩ := exec_ok hx
        have hi : i = j := hv _ List.mem_cons_self
        subst hi
        obtain ⟨b', o', n', c', C, tt', hρ', hh, hin, hchg, hR''⟩ := store_slo (old := fun _ => True) hb (hrs id _ hlk).1 hm hcs
        rw [hρ] at hρ'
        cases hρ'
        have hrun := fin (G' := G) rfl hv' hh hin
        refine ⟨_, undef, _, G, by simp [hrun], .inr ⟨rfl, rfl, rfl⟩, (Chg.wk hchg).le (fun j hj => by simp [hj]), trivial, fun j R hj => ?_⟩
        simp only [List.mem_singleton, Prod.mk.injEq, Option.some.injEq] at hj
        obtain ⟨rfl, rfl⟩ := hj
        exact hR''
      · exact exec_fail hx
    · -- a byte
      rename_i z hlk
      replace ⟨hE, hx⟩ := condR hx
      simp only [Bool.and_eq_true] at hE
      have e1 := Nat.eq_of_beq_eq_true hE.1
      have e2 := Nat.eq_of_beq_eq_true hE.2
      subst e1
      subst e2
      split at hx
      · rename_i F' x
        obtain ⟨rfl, rfl⟩ := exec_ok hx
        have hi : i < z.length := hv _ List.mem_cons_self
        obtain ⟨b', C, tt', fz, c', hρ', h2, h3, h4, h5, h6, h7, h8⟩ := (hrs id _ hlk).1
        have hρ0 := hρ
        rw [hρ] at hρ'
        cases hρ'
        subst hv'
        obtain ⟨te, hte, hsz⟩ := fitsT_spec hf
        obtain ⟨c1, c2, hcs, ⟨_, hx1, hx2⟩, hc2⟩ := hm
        have hu : u.cells.toList = [.int .u8 x] := by rw [hcs, hx1, show c2 = [] from hc2]; rfl
        have hrun : (Instr.storeAt t0 (.pointer (some ⟨b, 0 + i * 1 + 0, none⟩)) u).run P w = .ok () (w.setRow b (C.setIfInBounds i (.int .u8 x))) := by
          have e0 : 0 + i * 1 + 0 = i := by omega
          rw [e0]
          exact run_store_byte T hte h5 (by omega) (by omega) rfl hu (by rw [hsz]; rfl)
        have hchg : ∀ {old : Id → Prop}, Chg old (fun j => j = id) G G w (w.setRow b (C.setIfInBounds i (.int .u8 x))) := .setRow (chg := fun j => j = id) hb h4 rfl _
        refine ⟨_, undef, _, G, by rw [Sem.run_bind, hrun]; rfl, .inr ⟨rfl, rfl, rfl⟩, hchg.le (fun j hj => by simp [hj]), trivial, fun j R hj => ?_⟩
        simp only [List.mem_singleton, Prod.mk.injEq, Option.some.injEq] at hj
        obtain ⟨rfl, rfl⟩ := hj
        refine ⟨b, _, tt', fz, c, by rw [hρ0, List.length_set], by rw [List.length_set]; exact h2, by rw [List.length_set]; exact h3, h4, setRow_heap w b _ _ tt' _ h5, by rw [List.length_set]; exact h6, by rw [List.length_set, Array.size_setIfInBounds]; exact h7, fun k y hy => ?_⟩
        rw [List.getElem?_set] at hy
        rw [Array.getElem?_setIfInBounds]
        split at hy
        · rename_i hik
          subst hik
          cases hy
          exact ⟨by rw [if_pos rfl, if_pos (by omega)], hx2⟩
        · rename_i hik
          rw [if_neg hik]
          exact h8 k y hy
      · exact exec_fail hx
    · exact exec_fail hx
  · exact exec_fail hx
end
end Go.Sx
