/- Several texts, one behind the other. -/
import Derived.Test.YtkjdeihmefhkpaaGreatDoorSxAtoSxE
import Derived.Laws.Small
import Derived.Laws.Concat
set_option linter.all false
namespace Go.Sx
open Go Go.RowKit
def Does (P : Program) (old : Id → Prop) (G : Gh) (w : World) (s : Sem Next) (e : Eff) : Prop :=
 ∃ n v w' G', s.run P w = .ok n w' ∧ (n = .value v ∨ (n = .skip ∧ v = undef ∧ e.dst = .junk)) ∧ Chg old (fun id => id ∈ e.upd.map (·.1)) G G' w w' ∧ MtS G' w' e.dst v ∧
  ∀ id R, (id, some R) ∈ e.upd → ResOk G' w' id R
theorem Chg.refl {old chg : Id → Prop} {G : Gh} {w : World} (hb : ∀ b, G.g b ≠ .no → b < w.heap.size) : Chg old chg G G w w :=
 ⟨fun _ _ => rfl, .refl G w, fun _ _ _ h _ => ⟨h, rfl⟩, fun b _ h => ⟨rfl, h⟩, hb, fun h => h, rfl, rfl, rfl, Nat.le_refl _, fun _ _ h => h⟩
theorem Does.pure {P : Program} {old : Id → Prop} {G : Gh} {w : World} {s : Sem Next} {sv : SV} {vc : List Prop} {v : Value} (hb : ∀ b, G.g b ≠ .no → b < w.heap.size)
  (h : s.run P w = .ok (.value v) w) (m : MtS G w sv v) : Does P old G w s ⟨sv, [], vc⟩ :=
 ⟨_, v, w, G, h, .inl rfl, .refl hb, m, fun _ _ h => by cases h⟩
section
variable {P : Program} {old : Id → Prop} {G : Gh} {w : World}
theorem MtS.at1 {a : At} {v : Value} (h : MtS G w (.v false [a]) v) : v.oneCell' = true ∧ MtA G w a [v] := ⟨h.1, h.2.one_inv⟩
theorem MtS.of1 {a : At} {v : Value} (h1 : v.oneCell' = true) (h : MtA G w a [v]) : MtS G w (.v false [a]) v := ⟨h1, .one h⟩
theorem MtS.int {k : IntKind} {F : Fl} {n : Int} {v : Value} (h : MtS G w (.v false [.d (.int k) F n]) v) : v = .int k n ∧ inR k n := by
 have := h.at1.2.2
 exact ⟨by simpa using this.1, this.2⟩
theorem MtS.ofInt {k : IntKind} {n : Int} (h : inR k n) : MtS G w (sInt k n) (.int k n) := .of1 rfl ⟨rfl, rfl, h⟩
theorem MtS.boolV {F : Fl} {b : Bool} {v : Value} (h : MtS G w (.v false [.d .bool F b]) v) : v = .bool b := by
 have := h.at1.2.2
 simpa using (show [v] = [Value.bool b] from this)
theorem MtS.ofBool {b : Bool} : MtS G w (sBool b) (.bool b) := .of1 rfl ⟨rfl, rfl⟩
theorem MtS.kb {b : Bool} {v : Value} (h : MtS G w (.v false [.kb b]) v) : v = .bool b := by simpa using (show [v] = [Value.bool b] from h.at1.2)
theorem MtS.ofKb {b : Bool} : MtS G w (.v false [.kb b]) (.bool b) := .of1 rfl rfl
theorem MtS.str {F : Fl} {s : Str} {v : Value} (h : MtS G w (.v false [.d .str F s]) v) : v = .string (mkS s) ∧ s.length ≤ maxL := by
 have := h.at1.2.2
 exact ⟨by simpa using this.1, this.2⟩
theorem MtS.ofStr {s : Str} (h : s.length ≤ maxL) : MtS G w (sStr s) (.string (mkS s)) := .of1 rfl ⟨rfl, rfl, h⟩
theorem MtS.asB {s : SV} {b : Bool} {v : Value} (hs : asB s = some b) (h : MtS G w s v) : v = .bool b := by
 unfold Sx.asB at hs
 split at hs
 ·cases hs; exact h.boolV
 ·cases hs; exact h.kb
 ·cases hs
theorem exec_ok {α : Type} {lk : Id → Option Res} {a b : α} {t : List Id} (h : (Req.ok a).exec lk = some (b, t)) : a = b ∧ t = [] := by
 simp [Req.ok, Req.exec] at h; exact h
theorem exec_fail {α : Type} {lk : Id → Option Res} {b : α} {t : List Id} {Q : Prop} (h : (Req.fail : Req α).exec lk = some (b, t)) : Q := by
 simp [Req.fail, Req.exec] at h
theorem exec_need {α : Type} {lk : Id → Option Res} {i : Id} {k : Option Res → Req α} {b : α} {t : List Id} (h : (Req.need i k).exec lk = some (b, t)) : ∃ t', (k (lk i)).exec lk = some (b, t') ∧ t = i :: t' := by
 simp only [Req.exec] at h
 split at h
 ·cases h
 ·rename_i a t' h'; cases h; exact ⟨t', h', rfl⟩
theorem exec_bind {α β : Type} {lk : Id → Option Res} {f : α → Req β} {b : β} : ∀ {x : Req α} {t : List Id}, (x.bind f).exec lk = some (b, t) → ∃ a t1 t2, x.exec lk = some (a, t1) ∧ (f a).exec lk = some (b, t2) ∧ t = t1 ++ t2 := by
 intro x
 induction x with
 | ret o =>
  intro t h
  cases o with
  | none => exact exec_fail h
  | some a => exact ⟨a, [], t, rfl, h, rfl⟩
 | need i k ih =>
  intro t h
  obtain ⟨t', h', rfl⟩ := exec_need h
  obtain ⟨a, t1, t2, h1, h2, rfl⟩ := ih _ h'
  exact ⟨a, i :: t1, t2, by simp [Req.exec, h1], h2, rfl⟩
end
section
variable {P : Program} {old : Id → Prop} {G : Gh} {w : World} {lk : Id → Option Res}
theorem wrap_in {k : IntKind} {n : Int} (h : inR k n) : k.wrap n = n := by
 obtain ⟨h1, h2⟩ := h
 cases k <;> simp [IntKind.min, IntKind.max, IntKind.signed, IntKind.bits] at h1 h2 <;> simp [IntKind.wrap, IntKind.signed, IntKind.bits] <;> omega
theorem wrap_inR (k : IntKind) (n : Int) : inR k (k.wrap n) := by
 cases k <;> simp [inR, IntKind.min, IntKind.max, IntKind.wrap, IntKind.signed, IntKind.bits] <;> omega
theorem fdiv_inR {k : IntKind} {a : Int} (h : inR k a) (n : Nat) : inR k (a.fdiv (2 ^ n)) := by
 have hd : (0 : Int) < 2 ^ n := Int.pow_pos (by decide)
 rw [Int.fdiv_eq_ediv_of_nonneg _ (Int.le_of_lt hd)]
 have h0 : k.min ≤ 0 ∧ 0 ≤ k.max := by cases k <;> simp [IntKind.min, IntKind.max, IntKind.signed, IntKind.bits]
 obtain ⟨h1, h2⟩ := h
 by_cases ha : 0 ≤ a
 ·have := Int.ediv_le_self (2 ^ n) ha
  have := Int.ediv_nonneg ha (Int.le_of_lt hd)
  exact ⟨by omega, by omega⟩
 ·have h3 : a ≤ a / 2 ^ n := by
   rw [Int.le_ediv_iff_mul_le hd]
   have h5 := Int.mul_nonneg (show 0 ≤ -a by omega) (show (0 : Int) ≤ 2 ^ n - 1 by omega)
   rw [Int.mul_sub, Int.neg_mul] at h5
   omega
  have h4 : a / 2 ^ n ≤ 0 := by
   have := Int.ediv_le_ediv hd (show a ≤ 0 by omega)
   simpa using this
  exact ⟨by omega, by omega⟩
theorem tmod_inR {k : IntKind} {a b : Int} (h : inR k a) : inR k (a.tmod b) := by
 have h0 : k.min ≤ 0 ∧ 0 ≤ k.max := by cases k <;> simp [IntKind.min, IntKind.max, IntKind.signed, IntKind.bits]
 obtain ⟨h1, h2⟩ := h
 by_cases ha : 0 ≤ a
 ·have e1 := Int.tmod_nonneg b ha
  have e2 : a.tmod b ≤ a := by
   have := Int.natAbs_tmod a b
   have := Nat.mod_le a.natAbs b.natAbs
   omega
  exact ⟨by omega, by omega⟩
 ·have e1 : (-a).tmod b = -(a.tmod b) := Int.neg_tmod a b
  have e3 := Int.tmod_nonneg b (show 0 ≤ -a by omega)
  have e2 : (-a).tmod b ≤ -a := by
   have := Int.natAbs_tmod (-a) b
   have := Nat.mod_le (-a).natAbs b.natAbs
   omega
  exact ⟨by omega, by omega⟩
theorem does_binI (hb : ∀ b, G.g b ≠ .no → b < w.heap.size) {op : BinOp} {xT : TypeId} {k k' : IntKind} {a b : Int} {e : Eff} {t : List Id} (ha : inR k a) (hb' : inR k' b)
  (hx : (sBinI op k k' a b).exec lk = some (e, t)) (hv : ∀ p ∈ e.vc, p) : Does P old G w (do pure (.value (← binOp op xT (.int k a) (.int k' b)))) e := by
 unfold sBinI at hx
 split at hx
 ·obtain ⟨rfl, _⟩ := exec_ok hx
  have h0 : 0 ≤ b := hv _ (by simp)
  exact .pure hb (by simp [binOp, Op.shift, show ¬ b < 0 by omega]) (.ofInt (fdiv_inR ha _))
 ·obtain ⟨rfl, _⟩ := exec_ok hx
  have h0 : 0 ≤ b := hv _ (by simp)
  have h1 : inR k (a * 2 ^ (min b.toNat k.bits)) := hv _ (by simp)
  exact .pure hb (by simp [binOp, Op.shift, show ¬ b < 0 by omega, wrap_in h1]) (.ofInt h1)
 ·rename_i o hn1 hn2
  cases hk : Nat.beq (kindNo k) (kindNo k') with
  | false => rw [hk] at hx; exact exec_fail hx
  | true =>
   rw [hk] at hx
   have hkk := kindNo_inj (Nat.eq_of_beq_eq_true hk)
   subst hkk
   simp only [cond_true] at hx
   split at hx <;> first
    | exact exec_fail hx
    | (
      split at hx
      ·obtain ⟨rfl, _⟩ := exec_ok hx
       have e : IntKind.wrap .u8 (a + b) = (a + b) % 256 := by simp [IntKind.wrap, IntKind.signed, IntKind.bits]
       exact .pure hb (by simp [binOp, Op.intArith, e]) (.ofInt (by rw [← e]; exact wrap_inR _ _))
      ·obtain ⟨rfl, _⟩ := exec_ok hx
       have h1 : inR _ _ := hv _ List.mem_cons_self
       exact .pure hb (by simp [binOp, Op.intArith, wrap_in h1]) (.ofInt h1))
    | (obtain ⟨rfl, _⟩ := exec_ok hx; first
      | (
        have h1 : inR _ _ := hv _ List.mem_cons_self
        exact .pure hb (by simp [binOp, Op.intArith, wrap_in h1]) (.ofInt h1))
      | (
        have h1 : b ≠ 0 := hv _ List.mem_cons_self
        have h2 : inR _ _ := hv _ (List.mem_cons_of_mem _ List.mem_cons_self)
        exact .pure hb (by simp [binOp, Op.intDiv, h1, wrap_in h2]) (.ofInt h2))
      | (
        have h1 : b ≠ 0 := hv _ List.mem_cons_self
        exact .pure hb (by simp [binOp, Op.intDiv, h1]) (.ofInt (tmod_inR ha)))
      | exact .pure hb (by simp [binOp, Op.intBits, bitsOp]) (.ofInt (wrap_inR _ _))
      | exact .pure hb (by simp [binOp, Op.intCmp] <;> first | rfl | exact Bool.eq_iff_iff.2 (by simp)) .ofBool)
theorem mkS_toList (s : Str) : (mkS s).toList = s := by rw [ByteArray.toList_eq]; simp [mkS]
theorem mkS_size (s : Str) : (mkS s).size = s.length := by simp [mkS, ByteArray.size]
theorem mkS_append (a b : Str) : mkS a ++ mkS b = mkS (a ++ b) := by
 apply ByteArray.ext
 simp [mkS]
theorem str_eq (a b : Str) : ((mkS a).toList == (mkS b).toList) = decide (a = b) := by rw [mkS_toList, mkS_toList]; exact Bool.eq_iff_iff.2 (by simp)
theorem does_binS (hb : ∀ b, G.g b ≠ .no → b < w.heap.size) {op : BinOp} {xT : TypeId} {a b : Str} {e : Eff} {t : List Id}
  (hx : (sBinS op a b).exec lk = some (e, t)) (hv : ∀ p ∈ e.vc, p) : Does P old G w (do pure (.value (← binOp op xT (.string (mkS a)) (.string (mkS b))))) e := by
 unfold sBinS at hx
 split at hx
 ·obtain ⟨rfl, _⟩ := exec_ok hx
  have h1 : a.length + b.length ≤ maxL := hv _ List.mem_cons_self
  have h2 := run_string_add_sum (P := P) w (mkS a) (mkS b) (by rw [mkS_size, mkS_size]; simp only [maxL] at h1; omega)
  exact .pure hb (v := .string (mkS (a ++ b))) (by simp [binOp, h2, mkS_append]) (.ofStr (by simpa using h1))
 ·obtain ⟨rfl, _⟩ := exec_ok hx
  exact .pure hb (v := .bool (decide (a = b))) (by simp [binOp, Op.stringOp, str_eq]) .ofBool
 ·obtain ⟨rfl, _⟩ := exec_ok hx
  exact .pure hb (v := .bool (!decide (a = b))) (by simp [binOp, Op.stringOp, str_eq]) .ofBool
 ·exact exec_fail hx
theorem boolT {tt : TT} (T : TtOk P tt) {xT : TypeId} (hT : isBoolT tt xT = true) : P.underlying xT = some .bool := by
 unfold isBoolT at hT
 split at hT
 ·rename_i t nf el by_ fts hte
  obtain ⟨d, hd, hi⟩ := und_at T hte
  obtain ⟨r, _, _⟩ := T.at hte
  have ha := r.ag
  unfold TE.di at hi ha
  cases fts with
  | nil => cases d <;> simp [dinfo] at hi; exact hd
  | cons y ys => simp [DI.agg] at ha
 ·cases hT
theorem does_binB {tt : TT} (T : TtOk P tt) {xT : TypeId} (hT : isBoolT tt xT = true) (hb : ∀ b, G.g b ≠ .no → b < w.heap.size) {op : BinOp} {a b : Bool} {e : Eff} {t : List Id}
  (hx : (sBinB op a b).exec lk = some (e, t)) : Does P old G w (do pure (.value (← binOp op xT (.bool a) (.bool b)))) e := by
 have hu := run_equal_bool (P := P) w xT a b (boolT T hT)
 unfold sBinB at hx
 split at hx
 ·obtain ⟨rfl, _⟩ := exec_ok hx
  exact .pure hb (v := .bool (a == b)) (by simp [binOp, hu]) .ofBool
 ·obtain ⟨rfl, _⟩ := exec_ok hx
  exact .pure hb (v := .bool (!(a == b))) (by simp [binOp, hu]) .ofBool
 ·exact exec_fail hx
end
theorem MtVs.nth {G : Gh} {w : World} {l : List (Bool × List At)} : ∀ {vs : List Value} {i : Nat} {ag : Bool} {v : List At}, MtVs G w l vs → nth l i = some (ag, v) → ∃ u, vs[i]? = some u ∧ MtV G w ag v u := by
 induction l with
 | nil => intro vs i ag v _ h; cases h
 | cons a r ih =>
  intro vs i ag v m h
  obtain ⟨ag', l'⟩ := a
  obtain ⟨u, vs', rfl, h1, h2⟩ := m
  cases i with
  | zero => simp only [Sx.nth, Option.some.injEq, Prod.mk.injEq] at h; obtain ⟨rfl, rfl⟩ := h; exact ⟨u, rfl, h1⟩
  | succ i => obtain ⟨u', h3, h4⟩ := ih h2 h; exact ⟨u', by simpa using h3, h4⟩
section
variable {P : Program} {old : Id → Prop} {G : Gh} {w : World} {lk : Id → Option Res} (hb : ∀ b, G.g b ≠ .no → b < w.heap.size)
include hb
theorem does_val {s : SV} {v : Value} {e : Eff} {t : List Id} (hx : (Eff.val s).exec lk = some (e, t)) (m : MtS G w s v) : Does P old G w (pure (.value v)) e := by
 obtain ⟨rfl, _⟩ := exec_ok hx
 exact .pure hb (by simp) m
theorem does_not {x : SV} {v : Value} {e : Eff} {t : List Id} (hx : (sNot x).exec lk = some (e, t)) (m : MtS G w x v) : Does P old G w (do pure (.value (← Op.unary .not v))) e := by
 unfold sNot at hx
 split at hx
 ·obtain ⟨rfl, _⟩ := exec_ok hx
  rw [m.kb]
  exact .pure hb (by simp [Op.unary]) .ofKb
 ·obtain ⟨rfl, _⟩ := exec_ok hx
  rw [m.boolV]
  exact .pure hb (by simp [Op.unary]) .ofBool
 ·exact exec_fail hx
theorem does_neg {x : SV} {v : Value} {e : Eff} {t : List Id} (hx : (sNeg x).exec lk = some (e, t)) (hv : ∀ p ∈ e.vc, p) (m : MtS G w x v) : Does P old G w (do pure (.value (← Op.unary .neg v))) e := by
 unfold sNeg at hx
 split at hx
 ·rename_i k F n
  obtain ⟨rfl, _⟩ := exec_ok hx
  have h1 : inR k (-n) := hv _ List.mem_cons_self
  obtain ⟨rfl, _⟩ := m.int
  exact .pure hb (by simp [Op.unary, Op.intArith, wrap_in h1]) (.ofInt h1)
 ·exact exec_fail hx
theorem does_pick {c a b : SV} {vc va vb : Value} {e : Eff} {t : List Id} (hx : (sPick c a b).exec lk = some (e, t)) (mc : MtS G w c vc) (ma : MtS G w a va) (mb : MtS G w b vb) :
  Does P old G w (do pure (.value (if ← Go.asBool vc then va else vb))) e := by
 unfold sPick at hx
 split at hx
 ·obtain ⟨rfl, _⟩ := exec_ok hx
  rw [mc.kb]
  exact .pure hb (by simp [Go.asBool]) ma
 ·obtain ⟨rfl, _⟩ := exec_ok hx
  rw [mc.kb]
  exact .pure hb (by simp [Go.asBool]) mb
 ·split at hx
  ·rename_i p q h1 h2
   obtain ⟨rfl, _⟩ := exec_ok hx
   rw [mc.boolV, ma.asB h1, mb.asB h2]
   rename_i x _ _ _
   refine .pure hb (v := .bool (bif x then p else q)) ?_ .ofBool
   cases x <;> simp [Go.asBool]
  ·exact exec_fail hx
 ·exact exec_fail hx
theorem does_extract {x : SV} {i : Nat} {v : Value} {e : Eff} {t : List Id} (hx : (sExtract x i).exec lk = some (e, t)) (m : MtS G w x v) : Does P old G w (do pure (.value (← Instr.extract v i))) e := by
 unfold sExtract at hx
 split at hx
 ·split at hx
  ·rename_i l ag u hn
   obtain ⟨rfl, _⟩ := exec_ok hx
   obtain ⟨vs, rfl, h1⟩ := m
   obtain ⟨u', h2, h3⟩ := MtVs.nth h1 hn
   exact .pure hb (v := u') (by simp [Instr.extract, h2]) h3
  ·exact exec_fail hx
 ·exact exec_fail hx
theorem does_nilCheck {x : SV} {v : Value} {e : Eff} {t : List Id} (hx : (sNilCheck x).exec lk = some (e, t)) (m : MtS G w x v) : ∃ b, v = .pointer (some b) ∧ Does P old G w (pure (.value v)) e := by
 unfold sNilCheck at hx
 split at hx
 ·obtain ⟨b, _, h2⟩ := m.at1.2
  exact ⟨_, by simpa using h2, does_val hb hx m⟩
 ·obtain ⟨b, o, n, c, _, h2⟩ := m.at1.2
  exact ⟨_, by simpa using h2, does_val hb hx m⟩
 ·obtain ⟨_, _, b, o, C, t, fz, h2, _⟩ := m.at1.2
  exact ⟨_, by simpa using h2, does_val hb hx m⟩
 ·exact exec_fail hx
end
section
variable {P : Program} {tt : TT} (T : TtOk P tt)
include T
theorem di_plain {t : TypeId} {te : TE} (h : ttOf tt t = some te) (ha : te.ag = false) : te.fts = [] := by
 obtain ⟨r, _, _⟩ := T.at h
 have h1 := r.ag
 rw [ha] at h1
 unfold TE.di at h1
 cases hf : te.fts with
 | nil => rfl
 | cons x xs => rw [hf] at h1; simp [DI.agg] at h1
theorem strT {t : TypeId} (h : isStrT tt t = true) : P.underlying t = some .string := by
 unfold isStrT at h
 split at h
 ·rename_i t' nf el by_ fts hte
  obtain ⟨d, hd, hi⟩ := und_at T hte
  have hf := di_plain T hte rfl
  simp only at hf
  subst hf
  cases d <;> simp [dinfo, TE.di] at hi
  exact hd
 ·cases h
theorem slT_spec {t : TypeId} {e : Ty} {el : TypeId} {by_ : Nat} (h : slT tt t = some (e, el, by_)) : P.underlying t = some (.slice el) ∧ e.size ≠ 0 ∧ ∃ te, ttOf tt el = some te ∧ te.T = e ∧ te.by_ = by_ := by
 unfold slT at h
 split at h
 ·rename_i t' e' nf el' by' fts hte
  obtain ⟨d, hd, hi⟩ := und_at T hte
  obtain ⟨_, _, c⟩ := T.at hte
  have hf := di_plain T hte rfl
  simp only at hf
  subst hf
  split at h
  ·rename_i te2 T2 a2 n2 el2 by2 f2 hel
   simp only [Option.some.injEq, Prod.mk.injEq] at h
   obtain ⟨rfl, rfl, rfl⟩ := h
   have c' : elChk tt el' e' = true := c
   obtain ⟨te3, h3, h4, h5⟩ := elChk_spec c'
   rw [hel] at h3
   cases h3
   simp only at h4
   subst h4
   refine ⟨?_, h5, _, hel, rfl, rfl⟩
   cases d <;> simp [dinfo, TE.di] at hi
   rw [hd, hi]
  ·cases h
 ·cases h
end
section
variable {P : Program} {old : Id → Prop} {G : Gh} {w : World} {lk : Id → Option Res}
theorem MtS.slice {e : Ty} {F : Fl} {l : List e.den} {v : Value} (h : MtS G w (.v false [.d (.sl e) F l]) v) : Ty.noO (.sl e) F = true ∧ ∃ A n c, v = .slice A n c ∧ Tr G w (.sl e) F default [] [.slice A n c] l := by
 obtain ⟨h0, h1⟩ := h.at1.2
 obtain ⟨A, n, c, hcs, r⟩ := h1
 have hv : v = .slice A n c := by simpa using hcs
 exact ⟨h0, A, n, c, hv, A, n, c, rfl, r⟩
theorem MtS.ofSlice {e : Ty} {F : Fl} {l : List e.den} {A : Option Addr} {n c : Nat} (h0 : Ty.noO (.sl e) F = true) (h : Tr G w (.sl e) F default [] [.slice A n c] l) : MtS G w (.v false [.d (.sl e) F l]) (.slice A n c) :=
 .of1 rfl ⟨h0, h⟩
theorem MtS.own {id : Id} {v : Value} (h : MtS G w (.v false [.own id]) v) : v = G.ρ id := by
 simpa using (show [v] = [G.ρ id] from h.at1.2)
theorem Tr.sl_len {e : Ty} {F : Fl} {id : Id} {p : List Nat} {A : Option Addr} {n c : Nat} {l : List e.den} (h : Tr G w (.sl e) F id p [.slice A n c] l) : n = l.length ∧ n ≤ c ∧ n ≤ maxL := by
 obtain ⟨A', n', c', hcs, h1, h2, h3, _, _⟩ := h
 simp only [List.cons.injEq, Value.slice.injEq, and_true] at hcs
 obtain ⟨rfl, rfl, rfl⟩ := hcs
 exact ⟨h1, h2, h3⟩
theorem len_in {n : Nat} (h : n ≤ maxL) : inR .i64 (n : Int) := by
 simp only [maxL] at h
 simp [inR, IntKind.min, IntKind.max, IntKind.signed, IntKind.bits]
 omega
theorem ResOk.slice {id : Id} {e : Ty} {f : Fl} {x : List e.den} (h : ResOk G w id (.sl e f x)) : ∃ A n c, G.ρ id = .slice A n c ∧ Tr G w (.sl e) (.sl .w f) id [] [.slice A n c] x := by
 obtain ⟨A, n, c, hcs, r⟩ := (show Tr G w (.sl e) (.sl .w f) id [] [G.ρ id] x from h)
 have hv : G.ρ id = .slice A n c := by simpa using hcs
 exact ⟨A, n, c, hv, A, n, c, rfl, r⟩
variable (hb : ∀ b, G.g b ≠ .no → b < w.heap.size)
include hb
theorem does_len {tt : TT} (T : TtOk P tt) {t0 ty : TypeId} {x : SV} {v : Value} {e : Eff} {t : List Id} (hrs : ∀ id R, lk id = some R → ResOk G w id R)
  (hx : (sLen tt t0 x).exec lk = some (e, t)) (m : MtS G w x v) : Does P old G w (do pure (.value (← Builtin.len_ #[t0] ty #[v]))) e := by
 have sl : isSlT tt t0 = true → ∃ el, P.underlying t0 = some (.slice el) := fun h => by
  unfold isSlT at h
  split at h
  ·rename_i q hq
   obtain ⟨e', el, by_⟩ := q
   exact ⟨el, (slT_spec T hq).1⟩
  ·cases h
 unfold sLen at hx
 split at hx
 ·split at hx
  ·rename_i l
   cases hs : isStrT tt t0 with
   | false => rw [hs] at hx; exact exec_fail hx
   | true =>
    rw [hs] at hx
    obtain ⟨rfl, _⟩ := exec_ok hx
    obtain ⟨rfl, hl⟩ := m.str
    exact .pure hb (v := .int .i64 (List.length l)) (by simp [Builtin.len_, run_underlying (strT T hs), goInt, mkS_size]) (.ofInt (len_in hl))
  ·rename_i e' l
   cases hs : isSlT tt t0 with
   | false => rw [hs] at hx; exact exec_fail hx
   | true =>
    rw [hs] at hx
    obtain ⟨rfl, _⟩ := exec_ok hx
    obtain ⟨_, A, n, c, rfl, htr⟩ := m.slice
    obtain ⟨el, hel⟩ := sl hs
    obtain ⟨rfl, _, h3⟩ := htr.sl_len
    exact .pure hb (v := .int .i64 (List.length l)) (by simp [Builtin.len_, run_underlying hel, goInt]) (.ofInt (len_in h3))
  ·exact exec_fail hx
 ·cases hs : isSlT tt t0 with
  | false => rw [hs] at hx; exact exec_fail hx
  | true =>
   rw [hs] at hx
   obtain ⟨rfl, _⟩ := exec_ok hx
   obtain ⟨el, hel⟩ := sl hs
   have hv : v = .slice none 0 0 := by simpa using (show [v] = [Value.slice none 0 0] from m.at1.2)
   subst hv
   exact .pure hb (v := .int .i64 0) (by simp [Builtin.len_, run_underlying hel, goInt]) (.ofInt (by simp [inR, IntKind.min, IntKind.max, IntKind.signed, IntKind.bits]))
 ·rename_i id
  cases hs : isSlT tt t0 with
  | false => rw [hs] at hx; exact exec_fail hx
  | true =>
   rw [hs] at hx
   obtain ⟨el, hel⟩ := sl hs
   obtain ⟨t', hx, _⟩ := exec_need hx
   have hv := m.own
   subst hv
   split at hx
   ·rename_i e' f l hlk
    obtain ⟨rfl, _⟩ := exec_ok hx
    obtain ⟨A, n, c, hv, htr⟩ := (hrs _ _ hlk).slice
    obtain ⟨rfl, _, h3⟩ := htr.sl_len
    exact .pure hb (v := .int .i64 (List.length l)) (by simp [Builtin.len_, run_underlying hel, goInt, hv]) (.ofInt (len_in h3))
   ·rename_i e' f l j cs hlk
    obtain ⟨rfl, _⟩ := exec_ok hx
    obtain ⟨b, off, C, t, n, c, hv, rfl, _, h3, _⟩ := hrs _ _ hlk
    exact .pure hb (v := .int .i64 (List.length l)) (by simp [Builtin.len_, run_underlying hel, goInt, hv]) (.ofInt (len_in h3))
   ·rename_i sz l hlk
    obtain ⟨rfl, _⟩ := exec_ok hx
    obtain ⟨A, n, c, hv, rfl, _, h3, _⟩ := hrs _ _ hlk
    exact .pure hb (v := .int .i64 (List.length l)) (by simp [Builtin.len_, run_underlying hel, goInt, hv]) (.ofInt (len_in h3))
   ·exact exec_fail hx
 ·exact exec_fail hx
omit hb in
theorem mkS_get (l : Str) (i : Nat) (h : i < l.length) : (mkS l)[i]? = some (l.getD i 0) := by
 have h2 : i < (mkS l).size := by rw [mkS_size]; exact h
 rw [getElem?_pos (mkS l) i h2]
 simp only [List.getD, List.getElem?_eq_getElem h, Option.getD_some]
 rfl
omit hb in
theorem run_index_str {t0 : TypeId} (hu : P.underlying t0 = some .string) {l : Str} {k : IntKind} {n : Int} (h0 : 0 ≤ n) (h1 : n < (l.length : Int)) :
  (Instr.index t0 (.string (mkS l)) (.int k n)).run P w = .ok (.int .u8 ((l.getD n.toNat 0).toNat : Int)) w := by
 have hn : n.toNat < l.length := by omega
 simp [Instr.index, run_underlying hu, asIntOf, h0, mkS_get l n.toNat hn]
omit hb in
theorem u8_in (c : UInt8) : inR .u8 (c.toNat : Int) := by
 have := c.toNat_lt
 simp [inR, IntKind.min, IntKind.max, IntKind.signed, IntKind.bits]
 omega
theorem does_index {tt : TT} (T : TtOk P tt) {t0 : TypeId} {x i : SV} {vx vi : Value} {e : Eff} {t : List Id} (hx : (sIndex tt t0 x i).exec lk = some (e, t)) (hv : ∀ p ∈ e.vc, p)
  (mx : MtS G w x vx) (mi : MtS G w i vi) : Does P old G w (do pure (.value (← Instr.index t0 vx vi))) e := by
 unfold sIndex at hx
 split at hx
 ·rename_i F l k F' n
  cases hs : isStrT tt t0 with
  | false => rw [hs] at hx; exact exec_fail hx
  | true =>
   rw [hs] at hx
   obtain ⟨rfl, _⟩ := exec_ok hx
   obtain ⟨h0, h1⟩ : 0 ≤ n ∧ n < (List.length l : Int) := hv _ List.mem_cons_self
   obtain ⟨rfl, _⟩ := mx.str
   obtain ⟨rfl, _⟩ := mi.int
   exact .pure hb (v := .int .u8 ((List.getD l n.toNat 0).toNat : Int)) (by simp [run_index_str (strT T hs) h0 h1]) (.ofInt (u8_in _))
 ·exact exec_fail hx
end
theorem fieldTy_off : ∀ (T : Ty) (F : Fl) (n f off : Nat), (fieldTy T F n f off).2.2 = off + fieldOff T n f := by
 intro T
 induction T with
 | pr a b _ ihb =>
  intro F n f off
  match n, f with
  | 0, f => simp [fieldTy, fieldOff]
  | 1, f => simp [fieldTy, fieldOff]
  | n + 2, 0 => simp [fieldTy, fieldOff]
  | n + 2, f + 1 =>
   simp only [fieldTy, fieldOff]
   rw [ihb, ihb (pF.r) (n + 1) f (0 + a.size)]
   omega
 | _ => intro F n f off; match n with | 0 => simp [fieldTy, fieldOff] | 1 => simp [fieldTy, fieldOff] | n + 2 => simp [fieldTy, fieldOff]
theorem fieldTy_ty : ∀ (T : Ty) (F F' : Fl) (n f off off' : Nat), (fieldTy T F n f off).1 = (fieldTy T F' n f off').1 := by
 intro T
 induction T with
 | pr a b _ ihb =>
  intro F F' n f off off'
  match n, f with
  | 0, f => simp [fieldTy]
  | 1, f => simp [fieldTy]
  | n + 2, 0 => simp [fieldTy]
  | n + 2, f + 1 => simp only [fieldTy]; exact ihb _ _ _ _ _ _
 | _ => intro F F' n f off off'; match n with | 0 => simp [fieldTy] | 1 => simp [fieldTy] | n + 2 => simp [fieldTy]
theorem fieldTy_fl : ∀ (T : Ty) (F : Fl) (n f off off' : Nat), (fieldTy T F n f off).2.1 = (fieldTy T F n f off').2.1 := by
 intro T
 induction T with
 | pr a b _ ihb =>
  intro F n f off off'
  match n, f with
  | 0, f => simp [fieldTy]
  | 1, f => simp [fieldTy]
  | n + 2, 0 => simp [fieldTy]
  | n + 2, f + 1 => simp only [fieldTy]; exact ihb _ _ _ _ _
 | _ => intro F n f off off'; match n with | 0 => simp [fieldTy] | 1 => simp [fieldTy] | n + 2 => simp [fieldTy]
theorem fieldTy_noO : ∀ (T : Ty) (F : Fl) (n f off : Nat), T.noO F = true → (fieldTy T F n f off).1.noO (fieldTy T F n f off).2.1 = true := by
 intro T
 induction T with
 | pr a b _ ihb =>
  intro F n f off h
  have h' := h
  simp only [Ty.noO, Bool.and_eq_true] at h
  match n, f with
  | 0, f => simp only [fieldTy]; exact h'
  | 1, f => simp only [fieldTy]; exact h'
  | n + 2, 0 => simp only [fieldTy]; exact h.1
  | n + 2, f + 1 => simp only [fieldTy]; exact ihb _ _ _ _ h.2
 | _ => intro F n f off h; match n with | 0 => simpa only [fieldTy] using h | 1 => simpa only [fieldTy] using h | n + 2 => simpa only [fieldTy] using h
theorem fieldOf_base {G : Gh} {w : World} {α : Type} {T : Ty} {F : Fl} {n f : Nat} {id : Id} {p : List Nat} {cs : List Value} {x : T.den} (h : Tr G w T F id p cs x)
  (e : ∀ k : (T' : Ty) → Fl → T'.den → α, fieldOf T F n f x k = k T F x) (e' : fieldTy T F n f 0 = (T, F, 0)) (e2 : fieldOff T n f = 0) :
  ∃ (T' : Ty) (F' : Fl) (y : T'.den) (p' : List Nat), (∀ k : (T' : Ty) → Fl → T'.den → α, fieldOf T F n f x k = k T' F' y) ∧ (fieldTy T F n f 0).1 = T' ∧ (fieldTy T F n f 0).2.1 = F' ∧
   fieldOff T n f + T'.size ≤ T.size ∧ Tr G w T' F' id p' ((cs.drop (fieldOff T n f)).take T'.size) y := by
 have hl := h.len
 exact ⟨T, F, x, p, e, by rw [e'], by rw [e'], by omega, by rw [e2, List.drop_zero, ← hl, List.take_length]; exact h⟩
theorem fieldOf_spec {G : Gh} {w : World} {α : Type} : ∀ (T : Ty) (F : Fl) (n f : Nat) (id : Id) (p : List Nat) (cs : List Value) (x : T.den), Tr G w T F id p cs x →
  ∃ (T' : Ty) (F' : Fl) (y : T'.den) (p' : List Nat), (∀ k : (T' : Ty) → Fl → T'.den → α, fieldOf T F n f x k = k T' F' y) ∧ (fieldTy T F n f 0).1 = T' ∧ (fieldTy T F n f 0).2.1 = F' ∧
   fieldOff T n f + T'.size ≤ T.size ∧ Tr G w T' F' id p' ((cs.drop (fieldOff T n f)).take T'.size) y := by
 intro T
 induction T with
 | pr a b _ ihb =>
  intro F n f id p cs x h
  match n, f with
  | 0, f => exact fieldOf_base h (fun k => rfl) rfl rfl
  | 1, f => exact fieldOf_base h (fun k => rfl) rfl rfl
  | n + 2, 0 =>
   obtain ⟨c1, c2, rfl, h1, h2⟩ := h
   have hl1 := h1.len
   refine ⟨a, F.l, x.1, p ++ [0], fun k => rfl, rfl, rfl, by simp [fieldOff, fieldTy, Ty.size], ?_⟩
   rw [show fieldOff (.pr a b) (n + 2) 0 = 0 from rfl, List.drop_zero, ← hl1, List.take_left]
   exact h1
  | n + 2, f + 1 =>
   obtain ⟨c1, c2, rfl, h1, h2⟩ := h
   have hl1 := h1.len
   obtain ⟨T', F', y, p', e1, e2, e3, e4, e5⟩ := ihb F.r (n + 1) f id (p ++ [1]) c2 x.2 h2
   have hoff : fieldOff (.pr a b) (n + 2) (f + 1) = a.size + fieldOff b (n + 1) f := by
    simp only [fieldOff, fieldTy]
    rw [fieldTy_off]
    simp [fieldOff]
   refine ⟨T', F', y, p', e1, ?_, ?_, ?_, ?_⟩
   ·rw [← e2]; simp only [fieldTy]; exact fieldTy_ty _ _ _ _ _ _ _
   ·rw [← e3]; simp only [fieldTy]; exact fieldTy_fl _ _ _ _ _ _
   ·rw [hoff]; simp only [Ty.size]; omega
   ·rw [hoff, ← hl1, ← List.drop_drop, List.drop_left]; exact e5
 | int k => intro F n f id p cs x h; match n with | 0 => exact fieldOf_base h (fun k => rfl) rfl rfl | 1 => exact fieldOf_base h (fun k => rfl) rfl rfl | n + 2 => exact fieldOf_base h (fun k => rfl) rfl rfl
 | bool => intro F n f id p cs x h; match n with | 0 => exact fieldOf_base h (fun k => rfl) rfl rfl | 1 => exact fieldOf_base h (fun k => rfl) rfl rfl | n + 2 => exact fieldOf_base h (fun k => rfl) rfl rfl
 | str => intro F n f id p cs x h; match n with | 0 => exact fieldOf_base h (fun k => rfl) rfl rfl | 1 => exact fieldOf_base h (fun k => rfl) rfl rfl | n + 2 => exact fieldOf_base h (fun k => rfl) rfl rfl
 | sl e _ => intro F n f id p cs x h; match n with | 0 => exact fieldOf_base h (fun k => rfl) rfl rfl | 1 => exact fieldOf_base h (fun k => rfl) rfl rfl | n + 2 => exact fieldOf_base h (fun k => rfl) rfl rfl
 | arr m e _ => intro F n f id p cs x h; match n with | 0 => exact fieldOf_base h (fun k => rfl) rfl rfl | 1 => exact fieldOf_base h (fun k => rfl) rfl rfl | n + 2 => exact fieldOf_base h (fun k => rfl) rfl rfl
 | pt => intro F n f id p cs x h; match n with | 0 => exact fieldOf_base h (fun k => rfl) rfl rfl | 1 => exact fieldOf_base h (fun k => rfl) rfl rfl | n + 2 => exact fieldOf_base h (fun k => rfl) rfl rfl
 | er => intro F n f id p cs x h; match n with | 0 => exact fieldOf_base h (fun k => rfl) rfl rfl | 1 => exact fieldOf_base h (fun k => rfl) rfl rfl | n + 2 => exact fieldOf_base h (fun k => rfl) rfl rfl
theorem cellsAt_sub (C : Array Value) (o n : Nat) {o' n' : Nat} (h : o' + n' ≤ n) : cellsAt C (o + o') n' = ((cellsAt C o n).drop o').take n' := by
 unfold cellsAt
 rw [List.drop_take, List.take_take, List.drop_drop]
 congr 1
 omega
theorem offsFrom_get (T : Ty) (nf : Nat) : ∀ (l : List TypeId) (f k : Nat), (offsFrom T nf f l)[k]? = (l[k]?).map fun t => (fieldOff T nf (f + k), t) := by
 intro l
 induction l with
 | nil => intro f k; simp [offsFrom]
 | cons t r ih =>
  intro f k
  cases k with
  | zero => simp [offsFrom]
  | succ k => simp only [offsFrom, List.getElem?_cons_succ]; rw [ih]; congr 2; rw [show f + 1 + k = f + (k + 1) by omega]
theorem fldChk_get {tt : TT} {T : Ty} {nf : Nat} : ∀ {l : List TypeId} {f k : Nat} {t : TypeId}, fldChk tt T nf f l = true → l[k]? = some t → elChk tt t (fieldTy T pF nf (f + k) 0).1 = true := by
 intro l
 induction l with
 | nil => intro f k t _ h; simp at h
 | cons u r ih =>
  intro f k t hc h
  simp only [fldChk, Bool.and_eq_true] at hc
  cases k with
  | zero => simp at h; subst h; exact hc.1
  | succ k =>
   have := ih hc.2 (by simpa using h)
   rwa [show f + 1 + k = f + (k + 1) by omega] at this
section
variable {P : Program} {tt : TT} (T : TtOk P tt)
include T
theorem field_at {t : TypeId} {te : TE} (h : ttOf tt t = some te) {f : Nat} (hf : f < te.nf) : ∃ (fs : Array Field) (fd : Field), P.underlying t = some (.struct fs) ∧ fs[f]? = some fd ∧ fd.offset = fieldOff te.T te.nf f ∧
  ∃ te', ttOf tt fd.type = some te' ∧ te'.T = (fieldTy te.T pF te.nf f 0).1 ∧ te'.T.size ≠ 0 := by
 obtain ⟨r, _, c⟩ := T.at h
 obtain ⟨d, hd, hi⟩ := und_at T h
 have hn := r.nf
 unfold TE.di at hi
 unfold teChk at c
 cases hfs : te.fts with
 | nil => rw [hfs] at hn; simp at hn; omega
 | cons x xs =>
  rw [hfs] at hi c hn
  cases d with
  | struct fs =>
   simp only [dinfo, DI.st.injEq] at hi
   obtain ⟨ft, hft⟩ : ∃ ft, (x :: xs)[f]? = some ft := ⟨_, List.getElem?_eq_getElem (by omega)⟩
   have hg := offsFrom_get te.T te.nf (x :: xs) 0 f
   rw [← hi, hft, List.getElem?_map] at hg
   simp only [Option.map_some, Option.map_eq_some_iff, Nat.zero_add] at hg
   obtain ⟨fd, h1, h2⟩ := hg
   simp only [Prod.mk.injEq] at h2
   have hc := fldChk_get c hft
   rw [Nat.zero_add] at hc
   obtain ⟨te', h3, h4, h5⟩ := elChk_spec hc
   exact ⟨fs, fd, hd, by simpa using h1, h2.1, te', by rw [h2.2]; exact h3, h4, by rw [h4]; exact h5⟩
  | _ => simp [dinfo] at hi
theorem run_fieldAt {t : TypeId} {te : TE} (h : ttOf tt t = some te) {f : Nat} (hf : f < te.nf) (w : World) (b o : Nat) :
  (Instr.fieldAt t (.pointer (some ⟨b, o, none⟩)) f).run P w = .ok (.pointer (some ⟨b, o + fieldOff te.T te.nf f, none⟩)) w := by
 obtain ⟨fs, fd, h1, h2, h3, te', h4, h5, h6⟩ := field_at T h hf
 simp [Instr.fieldAt, run_underlying h1, h2, Instr.sureAddr, fieldPlace, run_size_at T h4, h6, addr_add, h3]
end
section
variable {P : Program} {tt : TT} (T : TtOk P tt) {old : Id → Prop} {G : Gh} {w : World} {lk : Id → Option Res} (hb : ∀ b, G.g b ≠ .no → b < w.heap.size)
include T hb
theorem does_fieldAddr {t0 : TypeId} {f : Nat} {x : SV} {v : Value} {e : Eff} {t : List Id} (hx : (sFieldAddr tt t0 f x).exec lk = some (e, t)) (m : MtS G w x v) :
  Does P old G w (do pure (.value (← Instr.fieldAt t0 v f))) e := by
 unfold sFieldAddr at hx
 split at hx
 ·exact exec_fail hx
 ·rename_i t' T0 ag nf el by_ fts hte
  cases hlt : Nat.blt f nf with
  | false => rw [hlt] at hx; exact exec_fail hx
  | true =>
   rw [hlt] at hx
   have hf : f < nf := by simpa [Nat.blt_eq] using hlt
   have hrun := run_fieldAt T hte (f := f) hf w
   simp only at hrun
   simp only [cond_true] at hx
   split at hx
   ·rename_i id off
    obtain ⟨rfl, _⟩ := exec_ok hx
    obtain ⟨b, h1, h2⟩ := m.at1.2
    have hv : v = .pointer (some ⟨b, off, none⟩) := by simpa using h2
    subst hv
    refine .pure hb (v := .pointer (some ⟨b, off + fieldOff T0 nf f, none⟩)) (by simp [hrun]) (.of1 rfl ⟨b, h1, ?_⟩)
    rw [fieldTy_off]
   ·rename_i o Tp F y
    cases hty : Ty.beq Tp T0 with
    | false => rw [hty] at hx; exact exec_fail hx
    | true =>
     have := Ty.eq_of_beq hty
     subst this
     rw [hty] at hx
     simp only [cond_true] at hx
     obtain ⟨h0, ho, b, off, C, tb, fz, h2, h3, h4, h5, h6⟩ := m.at1.2
     have hv : v = .pointer (some ⟨b, off, none⟩) := by simpa using h2
     subst hv
     obtain ⟨T', F', y', p', e1, e2, e3, e4, e5⟩ := fieldOf_spec (α := Req Eff) Tp F nf f default [] _ y h6
     rw [e1] at hx
     obtain ⟨rfl, _⟩ := exec_ok hx
     have hno : T'.noO F' = true := by rw [← e2, ← e3]; exact fieldTy_noO _ _ _ _ _ h0
     refine .pure hb (v := .pointer (some ⟨b, off + fieldOff Tp nf f, none⟩)) (by simp [hrun]) (.of1 rfl ⟨hno, ho, b, off + fieldOff Tp nf f, C, tb, fz, rfl, h3, h4, by omega, ?_⟩)
     rw [cellsAt_sub C off Tp.size e4]
     exact e5.keep (.refl G w) hno
   ·rename_i id i sz off Tp
    cases hty : Ty.beq Tp T0 with
    | false => rw [hty] at hx; exact exec_fail hx
    | true =>
     have := Ty.eq_of_beq hty
     subst this
     rw [hty] at hx
     obtain ⟨rfl, _⟩ := exec_ok hx
     obtain ⟨b, o, n, c, h1, h2⟩ := m.at1.2
     have hv : v = .pointer (some ⟨b, o + i * sz + off, none⟩) := by simpa using h2
     subst hv
     refine .pure hb (v := .pointer (some ⟨b, o + i * sz + off + fieldOff Tp nf f, none⟩)) (by simp [hrun]) (.of1 rfl ⟨b, o, n, c, h1, ?_⟩)
     rw [fieldTy_off, Nat.add_assoc]
   ·exact exec_fail hx
end
end Go.Sx

namespace Go.Sx
open Go Go.RowKit
theorem condR0 {b : Bool} {α : Type} {x : Req α} {lk : Id → Option Res} {r : α × List Id} (h : (bif b then x else .fail).exec lk = some r) : b = true ∧ x.exec lk = some r := by
 cases b with
 | true => exact ⟨rfl, h⟩
 | false => exact exec_fail h
theorem idx_lt {β : Type} {l : List β} {n : Int} (h0 : 0 ≤ n) (h1 : n < (l.length : Int)) : n.toNat < l.length := by omega
section
variable {P : Program} {tt : TT} (T : TtOk P tt) {old : Id → Prop} {G : Gh} {w : World} {lk : Id → Option Res} (hb : ∀ b, G.g b ≠ .no → b < w.heap.size)
include T
theorem run_indexAt {t el : TypeId} {e : Ty} {by_ : Nat} (h : slT tt t = some (e, el, by_)) {b o n c : Nat} {k : IntKind} {i : Int} (h0 : 0 ≤ i) (h1 : i < (n : Int)) (w : World) :
  (Instr.indexAt t (.slice (some ⟨b, o, none⟩) n c) (.int k i)).run P w = .ok (.pointer (some ⟨b, o + i.toNat * e.size, none⟩)) w := by
 obtain ⟨h2, h3, te, h4, h5, _⟩ := slT_spec T h
 simp [Instr.indexAt, run_underlying h2, asIntOf, h0, h1, run_size_at T h4, h5, addr_add]
include hb
theorem does_indexAddr {t0 : TypeId} {x i : SV} {vx vi : Value} {e : Eff} {t : List Id} (hrs : ∀ id R, lk id = some R → ResOk G w id R) (hx : (sIndexAddr tt t0 x i).exec lk = some (e, t)) (hv : ∀ p ∈ e.vc, p)
  (mx : MtS G w x vx) (mi : MtS G w i vi) : Does P old G w (do pure (.value (← Instr.indexAt t0 vx vi))) e := by
 unfold sIndexAddr at hx
 split at hx
 ·exact exec_fail hx
 ·rename_i e0 el by_ hsl
  split at hx
  ·split at hx
   ·rename_i F k F' n T1 l1 e1 l
    cases hty : Ty.beq e1 e0 with
    | false => rw [hty] at hx; exact exec_fail hx
    | true =>
     have := Ty.eq_of_beq hty
     subst this
     rw [hty] at hx
     obtain ⟨rfl, _⟩ := exec_ok hx
     obtain ⟨h0, h1⟩ : 0 ≤ n ∧ n < (List.length l : Int) := hv _ List.mem_cons_self
     obtain ⟨rfl, _⟩ := mi.int
     obtain ⟨hno, A, m, c, rfl, htr⟩ := mx.slice
     obtain ⟨hm, hc, _⟩ := htr.sl_len
     subst hm
     have hn := idx_lt (β := e1.den) h0 h1
     obtain ⟨A', n', c', hcs, _, _, _, _, hblk⟩ := htr
     simp only [List.cons.injEq, Value.slice.injEq, and_true] at hcs
     obtain ⟨rfl, rfl, rfl⟩ := hcs
     simp only [Ty.noO, Bool.and_eq_true, Bool.not_eq_true'] at hno
     rcases hblk with ⟨_, hz⟩ | ⟨b, off, C, tb, fz, rfl, hl, hh, hs, _, hj⟩
     ·exact absurd (Nat.lt_of_lt_of_le hn hc) (by rw [hz]; exact Nat.not_lt_zero _)
     ·have hmul : (n.toNat + 1) * e1.size ≤ List.length l * e1.size := Nat.mul_le_mul_right _ hn
      rw [Nat.add_mul, Nat.one_mul] at hmul
      refine .pure hb (v := .pointer (some ⟨b, off + n.toNat * e1.size, none⟩)) (by simp [run_indexAt T hsl h0 h1]) (.of1 rfl ⟨hno.2, hno.1, b, off + n.toNat * e1.size, C, tb, fz, rfl, ?_, hh, by omega, ?_⟩)
      ·exact (labOk_keep (.refl G w) hno.1 hl).1
      ·have hg : (l : List e1.den)[n.toNat]? = some (List.getD l n.toNat e1.dflt) := by rw [List.getD, List.getElem?_eq_getElem hn]; rfl
       exact (hj n.toNat _ hg).keep (.refl G w) hno.2
   ·exact exec_fail hx
  ·rename_i id k F' n
   obtain ⟨t', hx, _⟩ := exec_need hx
   have hv1 := mx.own
   obtain ⟨rfl, _⟩ := mi.int
   subst hv1
   split at hx
   ·rename_i e1 f l hlk
    cases hty : Ty.beq e1 e0 with
    | false => rw [hty] at hx; exact exec_fail hx
    | true =>
     have := Ty.eq_of_beq hty
     subst this
     rw [hty] at hx
     obtain ⟨rfl, _⟩ := exec_ok hx
     obtain ⟨h0, h1⟩ : 0 ≤ n ∧ n < (List.length l : Int) := hv _ List.mem_cons_self
     obtain ⟨A, m, c, hρ, htr⟩ := (hrs _ _ hlk).slice
     obtain ⟨hm, hc, _⟩ := htr.sl_len
     subst hm
     obtain ⟨A', n', c', hcs, _, _, _, _, hblk⟩ := htr
     simp only [List.cons.injEq, Value.slice.injEq, and_true] at hcs
     obtain ⟨rfl, rfl, rfl⟩ := hcs
     rcases hblk with ⟨_, hz⟩ | ⟨b, off, C, tb, fz, rfl, hl, hh, hs, _, hj⟩
     ·exact absurd (Nat.lt_of_lt_of_le (idx_lt (β := e1.den) h0 h1) hc) (by rw [hz]; exact Nat.not_lt_zero _)
     ·exact .pure hb (v := .pointer (some ⟨b, off + n.toNat * e1.size, none⟩)) (by simp [hρ, run_indexAt T hsl h0 h1]) (.of1 rfl ⟨b, off, _, c, hρ, rfl⟩)
   ·rename_i e1 f l j cs hlk
    cases hty : Ty.beq e1 e0 with
    | false => rw [hty] at hx; exact exec_fail hx
    | true =>
     have := Ty.eq_of_beq hty
     subst this
     rw [hty] at hx
     obtain ⟨rfl, _⟩ := exec_ok hx
     obtain ⟨h0, h1⟩ : 0 ≤ n ∧ n < (List.length l : Int) := hv _ List.mem_cons_self
     obtain ⟨b, off, C, tb, m, c, hρ, rfl, _⟩ := hrs _ _ hlk
     exact .pure hb (v := .pointer (some ⟨b, off + n.toNat * e1.size, none⟩)) (by simp [hρ, run_indexAt T hsl h0 h1]) (.of1 rfl ⟨b, off, _, c, hρ, rfl⟩)
   ·rename_i sz l hlk
    replace ⟨hsz, hx⟩ := condR0 hx
    have hsz := Nat.eq_of_beq_eq_true hsz
    subst hsz
    obtain ⟨rfl, _⟩ := exec_ok hx
    obtain ⟨h0, h1⟩ : 0 ≤ n ∧ n < (List.length l : Int) := hv _ List.mem_cons_self
    obtain ⟨A, m, c, hρ, rfl, hc, _, hblk⟩ := hrs _ _ hlk
    rcases hblk with ⟨_, hz⟩ | ⟨b, off, C, tb, rfl, _⟩
    ·exact absurd (Nat.lt_of_lt_of_le (idx_lt h0 h1) hc) (by rw [hz]; exact Nat.not_lt_zero _)
    ·exact .pure hb (v := .pointer (some ⟨b, off + n.toNat * e0.size, none⟩)) (by simp [hρ, run_indexAt T hsl h0 h1]) (.of1 rfl ⟨b, off, _, c, hρ, rfl⟩)
   ·rename_i l hlk
    cases hty : Ty.beq e0 (.int .u8) with
    | false => rw [hty] at hx; exact exec_fail hx
    | true =>
     have := Ty.eq_of_beq hty
     subst this
     rw [hty] at hx
     obtain ⟨rfl, _⟩ := exec_ok hx
     obtain ⟨h0, h1⟩ : 0 ≤ n ∧ n < (List.length l : Int) := hv _ List.mem_cons_self
     obtain ⟨b, C, tb, fz, c, hρ, _⟩ := hrs _ _ hlk
     exact .pure hb (v := .pointer (some ⟨b, 0 + n.toNat * (Ty.int .u8).size, none⟩)) (by simp [hρ, run_indexAt T hsl h0 h1]) (.of1 rfl ⟨b, 0, _, c, hρ, rfl⟩)
   ·exact exec_fail hx
  ·exact exec_fail hx
end
section
variable {P : Program}
def endsOk (len : Nat) (lo hi : Option Int) : Prop := match lo, hi with
 | some a, some b => 0 ≤ a ∧ a ≤ b ∧ b ≤ (len : Int)
 | none, some b => 0 ≤ b ∧ b ≤ (len : Int)
 | some a, none => 0 ≤ a ∧ a ≤ (len : Int)
 | none, none => True
def loOf (lo : Option Int) : Nat := match lo with | some a => a.toNat | none => 0
def hiOf (len : Nat) (hi : Option Int) : Nat := match hi with | some b => b.toNat | none => len
theorem run_sliceBounds {isS : Bool} {len cap : Nat} {lo hi : Option Int} {vlo vhi : Option Value} (hc : len ≤ cap) (hlo : ∀ v, vlo = some v → ∃ k a, lo = some a ∧ v = .int k a) (hlo' : vlo = none → lo = none)
  (hhi : ∀ v, vhi = some v → ∃ k a, hi = some a ∧ v = .int k a) (hhi' : vhi = none → hi = none) (h : endsOk len lo hi) (w : World) :
  (Instr.sliceBounds isS len cap vlo vhi none).run P w = .ok (loOf lo, hiOf len hi, cap) w ∧ loOf lo ≤ hiOf len hi ∧ hiOf len hi ≤ len := by
 cases vlo with
 | none =>
  rw [hlo' rfl] at h ⊢
  cases vhi with
  | none => rw [hhi' rfl] at h ⊢; simp [Instr.sliceBounds, loOf, hiOf]
  | some v =>
   obtain ⟨k, b, rfl, rfl⟩ := hhi v rfl
   obtain ⟨h1, h2⟩ := h
   have h3 : b ≤ (cap : Int) := by omega
   refine ⟨?_, by simp [loOf], by simp only [hiOf]; omega⟩
   simp [Instr.sliceBounds, Instr.sliceBound, asIntOf, h1, h3, loOf, hiOf]
 | some u =>
  obtain ⟨k, a, rfl, rfl⟩ := hlo u rfl
  cases vhi with
  | none =>
   rw [hhi' rfl] at h ⊢
   obtain ⟨h1, h2⟩ := h
   refine ⟨?_, by simp only [loOf, hiOf]; omega, by simp [hiOf]⟩
   simp [Instr.sliceBounds, Instr.sliceBound, asIntOf, h1, h2, loOf, hiOf]
  | some v =>
   obtain ⟨k', b, rfl, rfl⟩ := hhi v rfl
   obtain ⟨h1, h2, h3⟩ := h
   have h4 : b ≤ (cap : Int) := by omega
   have h5 : 0 ≤ b := by omega
   have h6 : a ≤ (b.toNat : Int) := by omega
   refine ⟨?_, by simp only [loOf, hiOf]; omega, by simp only [hiOf]; omega⟩
   have h7 : ((b.toNat : Nat) : Int) = b := by omega
   simp only [Instr.sliceBounds, Instr.sliceBound, asIntOf, Sem.run_bind, Sem.run_pure, Result.andThen_ok, Sem.run_ite, h1, h4, h5, h6, and_self, if_true, loOf, hiOf]
theorem sliceL_eq {β : Type} (l : List β) (lo hi : Option Int) (h : endsOk l.length lo hi) : (sliceL l lo hi).1 = (l.take (hiOf l.length hi)).drop (loOf lo) := by
 cases lo <;> cases hi <;> simp [sliceL, loOf, hiOf]
theorem sliceL_vc {β : Type} {l : List β} {lo hi : Option Int} (h : ∀ p ∈ (sliceL l lo hi).2, p) (_cap : Nat) : endsOk l.length lo hi := by
 cases lo <;> cases hi <;> first
  | trivial
  | (have := h _ List.mem_cons_self; exact this)
end
section
variable {P : Program} {tt : TT} (T : TtOk P tt) {old : Id → Prop} {G : Gh} {w : World} {lk : Id → Option Res} (hb : ∀ b, G.g b ≠ .no → b < w.heap.size)
theorem asI_spec {x : Option SV} {o : Option Int} (h : asI x = some o) {v : Option Value} (m : ∀ s, x = some s → ∃ u, v = some u ∧ MtS G w s u) (m' : x = none → v = none) :
  (∀ u, v = some u → ∃ k a, o = some a ∧ u = .int k a) ∧ (v = none → o = none) := by
 unfold asI at h
 split at h
 ·cases h; rw [m' rfl]; exact ⟨(fun u h => by cases h), (fun _ => rfl)⟩
 ·rename_i k F n
  cases h
  obtain ⟨u, rfl, hu⟩ := m _ rfl
  exact ⟨(fun u' h => by cases h; exact ⟨k, n, rfl, hu.int.1⟩), (fun h => by cases h)⟩
 ·cases h
theorem Tr.part {e : Ty} {F : Fl} {A : Option Addr} {n c a b : Nat} {l : List e.den} (h0 : Ty.noO (.sl e) F = true) (h : Tr G w (.sl e) F default [] [.slice A n c] l) (hab : a ≤ b) (hbn : b ≤ n) :
  Tr G w (.sl e) F default [] [.slice (if c = a then A else A.map (·.add (a * e.size))) (b - a) (c - a)] ((l.take b).drop a) := by
 obtain ⟨A', n', c', hcs, hn, hc, hm, hwf, hblk⟩ := h
 simp only [List.cons.injEq, Value.slice.injEq, and_true] at hcs
 obtain ⟨rfl, rfl, rfl⟩ := hcs
 simp only [Ty.noO, Bool.and_eq_true, Bool.not_eq_true'] at h0
 refine ⟨_, _, _, rfl, ?_, by omega, by omega, hwf, ?_⟩
 ·rw [List.length_drop, List.length_take]; omega
 ·rcases hblk with ⟨_, rfl⟩ | ⟨blk, off, C, tb, fz, rfl, hl, hh, hs, hw, hj⟩
  ·have : a = 0 := by omega
   subst this
   exact .inl ⟨(fun e => by rw [e] at h0; cases h0.1), rfl⟩
  ·by_cases hca : c = a
   ·rw [if_pos hca]
    refine .inr ⟨blk, off, C, tb, fz, rfl, hl, hh, ?_, (fun e => by rw [e] at h0; cases h0.1), fun j x hx => ?_⟩
    ·have : b - a = 0 := by omega
     rw [this, Nat.zero_mul]
     omega
    ·exfalso
     have := (List.getElem?_eq_some_iff.1 hx).1
     simp only [List.length_drop, List.length_take] at this
     omega
   ·rw [if_neg hca]
    refine .inr ⟨blk, off + a * e.size, C, tb, fz, by simp [addr_add], hl, hh, ?_, (fun e => by rw [e] at h0; cases h0.1), fun j x hx => ?_⟩
    ·have h1 : (a + (b - a)) * e.size ≤ n * e.size := Nat.mul_le_mul_right _ (by omega)
     rw [Nat.add_mul] at h1
     omega
    ·rw [List.getElem?_drop] at hx
     have hlt := (List.getElem?_eq_some_iff.1 hx).1
     simp only [List.length_take] at hlt
     rw [List.getElem?_take_of_lt (by omega)] at hx
     have := hj (a + j) x hx
     rw [Nat.add_mul, ← Nat.add_assoc] at this
     exact this.keep (.refl G w) h0.2
omit T hb in
theorem mkS_extract (l : Str) {a b : Nat} (_h : a ≤ b) (h2 : b ≤ l.length) : (mkS l).extract a b = mkS ((l.take b).drop a) := by
 apply ByteArray.ext
 apply Array.ext'
 simp only [ByteArray.data_extract, mkS, List.extract_toArray]
 rw [List.extract_eq_take_drop, List.drop_take]
include T hb
def subOk (top n : Nat) : Option Int → Option Int → Prop
 | none, none => True
 | some a, none => 0 ≤ a ∧ a ≤ (n : Int)
 | none, some b => 0 ≤ b ∧ b ≤ (top : Int)
 | some a, some b => 0 ≤ a ∧ a ≤ b ∧ b ≤ (top : Int)
omit T hb in
theorem run_subBounds {n c top : Nat} (hc : n ≤ c) (htop : top ≤ c) {lo hi : Option Int} {vlo vhi : Option Value} (hlo : ∀ v, vlo = some v → ∃ k a, lo = some a ∧ v = .int k a) (hlo' : vlo = none → lo = none)
  (hhi : ∀ v, vhi = some v → ∃ k a, hi = some a ∧ v = .int k a) (hhi' : vhi = none → hi = none) (h : subOk top n lo hi) (w : World) :
  (Instr.sliceBounds true n c vlo vhi none).run P w = .ok (loOf lo, hiOf n hi, c) w ∧ loOf lo ≤ hiOf n hi ∧ hiOf n hi ≤ c ∧ (top ≤ n → hiOf n hi ≤ n) := by
 cases hi with
 | none =>
  have hv : vhi = none := by
   cases vhi with
   | none => rfl
   | some v => obtain ⟨_, _, h, _⟩ := hhi v rfl; cases h
  obtain ⟨h1, h2, h3⟩ := run_sliceBounds (P := P) (isS := true) hc hlo hlo' hhi hhi' (by cases lo <;> exact h) w
  exact ⟨h1, h2, by simp only [hiOf]; omega, fun _ => h3⟩
 | some b =>
  cases vhi with
  | none => have := hhi' rfl; cases this
  | some v =>
   obtain ⟨h1, h2, h3⟩ := run_sliceBounds (P := P) (isS := true) htop hlo hlo' hhi hhi' (by cases lo <;> exact h) w
   have e : Instr.sliceBounds true n c vlo (some v) none = Instr.sliceBounds true top c vlo (some v) none := rfl
   simp only [hiOf] at h1 h2 h3 ⊢
   exact ⟨by rw [e]; exact h1, h2, by omega, fun h => by omega⟩
omit T hb in
theorem sSub_eq {id : Id} {sz top n : Nat} {inn : Bool} {a b : Option Int} {e : Eff} {t : List Id} (h : (sSub id sz top n inn a b).exec lk = some (e, t)) : ∃ vc, e = ⟨.v false [.sub id (loOf a) (hiOf n b) sz inn], [], vc⟩ ∧ ((∀ p ∈ vc, p) → subOk top n a b) := by
 cases a <;> cases b <;> (obtain ⟨rfl, _⟩ := exec_ok h; refine ⟨_, rfl, fun h => ?_⟩) <;> first
  | trivial
  | exact h _ List.mem_cons_self
theorem does_slice {t0 : TypeId} {x : SV} {lo hi : Option SV} {v : Value} {vlo vhi : Option Value} {e : Eff} {t : List Id} (hrs : ∀ id R, lk id = some R → ResOk G w id R) (hx : (sSlice tt t0 x lo hi).exec lk = some (e, t)) (hv : ∀ p ∈ e.vc, p)
  (mx : MtS G w x v) (mlo : ∀ s, lo = some s → ∃ u, vlo = some u ∧ MtS G w s u) (mlo' : lo = none → vlo = none) (mhi : ∀ s, hi = some s → ∃ u, vhi = some u ∧ MtS G w s u) (mhi' : hi = none → vhi = none) :
  Does P old G w (do pure (.value (← Instr.sliceAt t0 v vlo vhi none))) e := by
 unfold sSlice at hx
 split at hx
 ·rename_i a b ha hb'
  obtain ⟨l1, l2⟩ := asI_spec ha mlo mlo'
  obtain ⟨u1, u2⟩ := asI_spec hb' mhi mhi'
  split at hx
  ·split at hx
   ·rename_i F l
    cases hs : isStrT tt t0 with
    | false => rw [hs] at hx; exact exec_fail hx
    | true =>
     rw [hs] at hx
     generalize hq : sliceL (β := UInt8) l a b = q at hx
     obtain ⟨m, vc⟩ := q
     obtain ⟨rfl, _⟩ := exec_ok hx
     obtain ⟨rfl, hlen⟩ := mx.str
     have hends := sliceL_vc (β := UInt8) (l := l) (lo := a) (hi := b) (by rw [hq]; exact hv) (List.length l)
     obtain ⟨hr, hle, hle2⟩ := run_sliceBounds (P := P) (isS := false) (Nat.le_refl _) l1 l2 u1 u2 hends w
     have heq := sliceL_eq (β := UInt8) l a b hends
     rw [hq] at heq
     simp only at heq
     refine .pure hb (v := .string (mkS m)) ?_ (.ofStr ?_)
     ·rw [heq, ← mkS_extract l hle hle2]
      simp [Instr.sliceAt, Instr.slice, run_underlying (strT T hs), mkS_size, hr]
     ·rw [heq, List.length_drop, List.length_take]
      exact Nat.le_trans (Nat.sub_le _ _) (Nat.le_trans (Nat.min_le_right _ _) hlen)
   ·rename_i F e1 l
    split at hx
    ·rename_i e0 el by_ hsl
     cases hty : Ty.beq e1 e0 with
     | false => rw [hty] at hx; exact exec_fail hx
     | true =>
      have := Ty.eq_of_beq hty
      subst this
      rw [hty] at hx
      generalize hq : sliceL (β := e1.den) l a b = q at hx
      obtain ⟨mm, vc⟩ := q
      obtain ⟨rfl, _⟩ := exec_ok hx
      obtain ⟨hno, A, m, c, rfl, htr⟩ := mx.slice
      obtain ⟨hm, hc, hmx⟩ := htr.sl_len
      subst hm
      have hends := sliceL_vc (β := e1.den) (l := l) (lo := a) (hi := b) (by rw [hq]; exact hv) c
      obtain ⟨hr, hle, hle2⟩ := run_sliceBounds (P := P) (isS := true) hc l1 l2 u1 u2 hends w
      have heq := sliceL_eq (β := e1.den) l a b hends
      rw [hq] at heq
      simp only at heq
      obtain ⟨h2, h3, te, h4, h5, _⟩ := slT_spec T hsl
      have hp := htr.part hno hle hle2
      refine .pure hb (v := .slice (if c = loOf a then A else A.map (·.add (loOf a * e1.size))) (hiOf (List.length l) b - loOf a) (c - loOf a)) ?_ (.ofSlice hno ?_)
      ·simp [Instr.sliceAt, Instr.slice, run_underlying h2, hr, run_size_at T h4, h5]
      ·rw [heq]; exact hp
    ·exact exec_fail hx
   ·exact exec_fail hx
  ·
   rename_i id
   split at hx
   ·rename_i e0 el by_ hsl
    replace ⟨t', hx, _⟩ := exec_need hx
    have hv1 := mx.own
    split at hx
    ·rename_i e1 f l hlk
     replace ⟨hty, hx⟩ := condR0 hx
     have := Ty.eq_of_beq hty
     subst this
     obtain ⟨A, m, c, hρ, htr⟩ := (hrs _ _ hlk).slice
     obtain ⟨hm, hc, _⟩ := htr.sl_len
     subst hm
     obtain ⟨h2, h3, te, h4, h5, _⟩ := slT_spec T hsl
     have fin : ∀ {top : Nat} {inn : Bool} {t : List Id}, top ≤ c → (inn = true → top ≤ l.length) → (sSub id e1.size top l.length inn a b).exec lk = some (e, t) → Does P old G w (do pure (.value (← Instr.sliceAt t0 v vlo vhi none))) e := by
      intro top inn t htop hinn hx
      obtain ⟨vc, rfl, hok⟩ := sSub_eq hx
      obtain ⟨hr, hle, hlc, hin⟩ := run_subBounds (P := P) hc htop l1 l2 u1 u2 (hok hv) w
      refine .pure hb (v := .slice (if c = loOf a then A else A.map (·.add (loOf a * e1.size))) (hiOf l.length b - loOf a) (c - loOf a)) ?_ (.of1 rfl ⟨A, l.length, c, hρ, hle, hlc, fun h => hin (hinn h), rfl⟩)
      rw [hv1, hρ]
      simp [Instr.sliceAt, Instr.slice, run_underlying h2, hr, run_size_at T h4, h5]
     replace ⟨t'', hx, _⟩ := exec_need hx
     split at hx
     ·rename_i i k hlk2
      replace ⟨hi, hx⟩ := condR0 hx
      have hi := Id.eq_of_beq hi
      subst hi
      obtain ⟨A', n', c', hρ', hk⟩ := hrs _ _ hlk2
      rw [hρ] at hρ'
      cases hρ'
      refine fin ?_ (fun h => by cases h) hx
      cases Nat.ble l.length k <;> simp only [cond_true, cond_false] <;> first | exact hk | exact hc
     ·exact fin hc (fun _ => Nat.le_refl _) hx
    ·exact exec_fail hx
   ·exact exec_fail hx
  ·exact exec_fail hx
 ·exact exec_fail hx
include T hb in
theorem does_slice3 {t0 : TypeId} {x a b m : SV} {v va vb vm : Value} {e : Eff} {t : List Id} (hrs : ∀ id R, lk id = some R → ResOk G w id R) (hx : (sSlice3 tt t0 x a b m).exec lk = some (e, t)) (hv : ∀ p ∈ e.vc, p)
  (mx : MtS G w x v) (ma : MtS G w a va) (mb : MtS G w b vb) (mm : MtS G w m vm) : Does P old G w (do pure (.value (← Instr.sliceAt t0 v (some va) (some vb) (some vm)))) e := by
 unfold sSlice3 at hx
 split at hx
 ·rename_i id ka Fa a kb Fb b km Fm m
  split at hx
  ·rename_i q hsl
   obtain ⟨e0, el, by_⟩ := q
   replace ⟨t', hx, _⟩ := exec_need hx
   have hv1 := mx.own
   split at hx
   ·rename_i e1 f l hlk
    obtain ⟨rfl, _⟩ := exec_ok hx
    obtain ⟨h0, h1, h2, h3⟩ : 0 ≤ a ∧ a ≤ b ∧ b ≤ m ∧ m ≤ (l.length : Int) := hv _ List.mem_cons_self
    obtain ⟨A, n, c, hρ, htr⟩ := (hrs _ _ hlk).slice
    obtain ⟨hm, hc, _⟩ := htr.sl_len
    subst hm
    obtain ⟨g2, g3, te, g4, g5, _⟩ := slT_spec T hsl
    obtain ⟨rfl, _⟩ := ma.int
    obtain ⟨rfl, _⟩ := mb.int
    obtain ⟨rfl, _⟩ := mm.int
    obtain ⟨a', rfl⟩ := Int.eq_ofNat_of_zero_le h0
    obtain ⟨b', rfl⟩ := Int.eq_ofNat_of_zero_le (Int.le_trans h0 h1)
    obtain ⟨m', rfl⟩ := Int.eq_ofNat_of_zero_le (Int.le_trans h0 (Int.le_trans h1 h2))
    have e0' : m' ≤ l.length := Int.ofNat_le.1 h3
    have e1 : m' ≤ c := Nat.le_trans e0' hc
    have e2 : b' ≤ m' := Int.ofNat_le.1 h2
    have e3 : a' ≤ b' := Int.ofNat_le.1 h1
    refine .pure hb (v := .slice (if m' = a' then A else A.map (·.add (a' * te.T.size))) (b' - a') (m' - a')) ?_ trivial
    rw [hv1, hρ]
    simp [Instr.sliceAt, Instr.slice, run_underlying g2, run_size_at T g4, Instr.sliceBounds, Instr.sliceBound, asIntOf, e1, e2, e3]
   ·exact exec_fail hx
  ·exact exec_fail hx
 ·exact exec_fail hx
end
end Go.Sx

namespace Go.Sx
open Go Go.RowKit
theorem Id.plus_zero (a : Id) : a.plus 0 = a := rfl
theorem Id.plus_plus (a : Id) (m n : Nat) : (a.plus m).plus n = a.plus (m + n) := by cases a; simp [Id.plus, Nat.add_assoc]
theorem hasN_iff {l : List Id} {n : Id} : hasN l n = true ↔ n ∈ l := by
 induction l with
 | nil => simp [hasN]
 | cons x xs ih =>
  simp only [hasN, Bool.or_eq_true, ih, List.mem_cons]
  constructor
  ·rintro (h | h)
   ·exact .inl (Id.eq_of_beq h).symm
   ·exact .inr h
  ·rintro (rfl | h)
   ·exact .inl (Id.beq_self _)
   ·exact .inr h
theorem nodupN_iff {l : List Id} : nodupN l = true ↔ l.Nodup := by
 induction l with
 | nil => simp [nodupN]
 | cons x xs ih =>
  simp only [nodupN, Bool.and_eq_true, Bool.not_eq_true', ih, List.nodup_cons]
  constructor
  ·rintro ⟨h1, h2⟩
   exact ⟨(fun h => by rw [hasN_iff.2 h] at h1; cases h1), h2⟩
  ·rintro ⟨h1, h2⟩
   refine ⟨?_, h2⟩
   cases h : hasN xs x with
   | false => rfl
   | true => exact absurd (hasN_iff.1 h) h1
def relab : (T : Ty) → Fl → Id → List Nat → Option (Id × List Nat)
 | .sl _, F, n, q => match F.hd with
  | .w => some (n, q)
  | _ => none
 | .pr a b, F, n, q => match q with
  | 0 :: q' => relab a F.l n q'
  | 1 :: q' => relab b F.r (n.plus a.size) q'
  | _ => none
 | _, _, _, _ => none
theorem Tr.fl {G : Gh} {w : World} {e : Ty} {F F' : Fl} {id : Id} {p : List Nat} {cs : List Value} {x : List e.den} (h1 : F.hd = F'.hd) (h2 : F.el = F'.el) (h : Tr G w (.sl e) F id p cs x) : Tr G w (.sl e) F' id p cs x := by
 obtain ⟨A, n, c, hcs, hn, hc, hm, hwf, hb⟩ := h
 rw [h1, h2] at hwf
 refine ⟨A, n, c, hcs, hn, hc, hm, hwf, ?_⟩
 rcases hb with hb | ⟨b, off, C, t, fz, hA, hl, hh, hs, hw, hj⟩
 ·exact .inl ⟨fun e => hb.1 (by rw [h1]; exact e), hb.2⟩
 ·rw [h1] at hl hw
  rw [h2] at hj
  exact .inr ⟨b, off, C, t, fz, hA, hl, hh, hs, hw, hj⟩
theorem open_sound {G G' : Gh} {w w' : World} (hk : KeepPB G G' w w') : ∀ (T : Ty) (F : Fl) (id : Id) (p : List Nat) (cs : List Value) (x : T.den) (n : Id), Tr G w T F id p cs x →
  (∀ b q i r, G.g b = .own id (p ++ q) → relab T F n q = some (i, r) → G'.g b = .own i r ∧ w'.heap[b]? = w.heap[b]?) →
  (∀ (k : Nat) (v : Value), cs[k]? = some v → G'.ρ (n.plus k) = v) →
  MtL G' w' (openOf T F x n).1 cs ∧ ∀ i R, (i, some R) ∈ (openOf T F x n).2 → ResOk G' w' i R := by
 intro T
 induction T with
 | int k => intro F id p cs x n h _ _; exact ⟨.one ⟨rfl, h⟩, by simp [openOf]⟩
 | bool => intro F id p cs x n h _ _; exact ⟨.one ⟨rfl, h⟩, by simp [openOf]⟩
 | str => intro F id p cs x n h _ _; exact ⟨.one ⟨rfl, h⟩, by simp [openOf]⟩
 | arr k e _ => intro F id p cs x n h _ _; exact ⟨.one ⟨rfl, Tr.keep (T := .arr k e) (id := id) (p := p) hk rfl h⟩, by simp [openOf]⟩
 | pt => intro F id p cs x n h _ _; exact ⟨.one (a := .nilp) h, by simp [openOf]⟩
 | er => intro F id p cs x n h _ _; exact ⟨.one ⟨rfl, ErC.keep hk h⟩, by simp [openOf]⟩
 | sl e _ =>
  intro F id p cs x n h hr hρ
  have h' := h
  obtain ⟨A, m, c, hcs, hm, hc, hmx, hwf, hb⟩ := h
  unfold openOf
  cases hF : F.hd with
  | w =>
   simp only
   have h0 := hρ 0 (.slice A m c) (by rw [hcs]; rfl)
   rw [Id.plus_zero] at h0
   refine ⟨.one (show cs = [G'.ρ n] by rw [h0, hcs]), fun i R hi => ?_⟩
   simp only [List.mem_singleton, Prod.mk.injEq, Option.some.injEq] at hi
   obtain ⟨rfl, rfl⟩ := hi
   show Tr G' w' (.sl e) (.sl .w F.el) i [] [G'.ρ i] x
   rw [h0, ← hcs]
   refine Tr.fl (F := F) (by rw [hF]; rfl) rfl (Tr.mono hk (fun b q hq => ?_) h')
   exact hr b q i q hq (by simp [relab, hF])
  | p =>
   have h0 : Ty.noO (.sl e) F = true := by simp [Ty.noO, hF, Fo.isO, hwf (by rw [hF]; rfl)]
   exact ⟨.one ⟨h0, Tr.keep hk h0 h'⟩, by simp⟩
  | b =>
   have h0 : Ty.noO (.sl e) F = true := by simp [Ty.noO, hF, Fo.isO, hwf (by rw [hF]; rfl)]
   exact ⟨.one ⟨h0, Tr.keep hk h0 h'⟩, by simp⟩
 | pr a b iha ihb =>
  intro F id p cs x n h hr hρ
  obtain ⟨c1, c2, rfl, h1, h2⟩ := h
  have hl := h1.len
  obtain ⟨m1, r1⟩ := iha F.l id (p ++ [0]) c1 x.1 n h1 (fun b q i r hq hi => hr b (0 :: q) i r (by simpa using hq) (by simpa [relab] using hi))
   (fun k v hk => hρ k v (by rw [List.getElem?_append_left (List.getElem?_eq_some_iff.1 hk).1]; exact hk))
  obtain ⟨m2, r2⟩ := ihb F.r id (p ++ [1]) c2 x.2 (n.plus a.size) h2 (fun b q i r hq hi => hr b (1 :: q) i r (by simpa using hq) (by simpa [relab] using hi))
   (fun k v hk => by
    rw [Id.plus_plus]
    exact hρ (a.size + k) v (by rw [List.getElem?_append_right (by omega)]; rw [hl]; simpa using hk))
  simp only [openOf]
  refine ⟨m1.append m2, fun i R hi => ?_⟩
  rcases List.mem_append.1 hi with hi | hi
  ·exact r1 i R hi
  ·exact r2 i R hi
structure Takes (G G' : Gh) (w w' : World) (m : Id → Option (List Nat)) (lent : List Id) (id : Id) (p : List Nat) : Prop where
 pb : KeepPB G G' w w'
 own : ∀ b i q pos, G.g b = .own i q → m i = some pos → G'.g b = .own id (p ++ pos ++ q) ∧ w'.heap[b]? = w.heap[b]?
 lend : ∀ b i q, G.g b = .own i q → i ∈ lent → G'.g b = .bor ∧ w'.heap[b]? = w.heap[b]?
theorem Tr.lendK {G G' : Gh} {w w' : World} (hk : KeepPB G G' w w') {T : Ty} {F F' : Fl} {id id' : Id} {p p' : List Nat} {cs : List Value} {x : T.den}
  (ho : ∀ b q, G.g b = .own id (p ++ q) → G'.g b = .bor ∧ w'.heap[b]? = w.heap[b]?) (hf : flR Fo.lend T F F' = true) (h : Tr G w T F id p cs x) : Tr G' w' T F' id' p' cs x := by
 classical
 let Gm : Gh := ⟨G.ρ, fun b => match G.g b with | .own i q => if i = id ∧ ∃ q', q = p ++ q' then .bor else .own i q | l => l⟩
 have h1 : Tr Gm w T F' id' p' cs x := by
  refine Tr.lend (G' := Gm) ⟨fun b hb => by simp [Gm, hb], fun b hb => by simp [Gm, hb]⟩ (fun b q hq => ?_) hf h
  simp only [Gm, hq]
  simp
 refine Tr.keep (G := Gm) (G' := G') ⟨fun b hb => ?_, fun b hb => ?_⟩ (noO_lend hf) h1
 ·simp only [Gm] at hb
  split at hb
  ·split at hb <;> cases hb
  ·exact hk.per b hb
 ·simp only [Gm] at hb
  split at hb
  ·rename_i i q hq
   split at hb
   ·rename_i hc
    obtain ⟨rfl, q', rfl⟩ := hc
    exact ho b q' hq
   ·cases hb
  ·exact hk.bor b hb
def Packs (G : Gh) (w : World) (e : Ty) (f : Fl) (c : List Value) (x : e.den) (ids lent : List Id) : Prop :=
 ids.Nodup → ∃ m : Id → Option (List Nat), (∀ i, m i ≠ none ↔ i ∈ ids) ∧
  ∀ (G' : Gh) (w' : World) (id : Id) (p : List Nat), Takes G G' w w' m lent id p → Tr G' w' e f id p c x
theorem Packs.keepL {G : Gh} {w : World} {e : Ty} {f : Fl} {c : List Value} {x : e.den} (h0 : e.noO f = true) (h : Tr G w e f default [] c x) : Packs G w e f c x [] [] :=
 fun _ => ⟨fun _ => none, by simp, fun G' w' id p ht => h.keep ht.pb h0⟩
theorem MtEls.get {G : Gh} {w : World} {sz : Nat} {C : Array Value} : ∀ {css : List (List At)} {off k : Nat} {l : List At}, MtEls G w sz C off css → css[k]? = some l → MtL G w l (cellsAt C (off + k * sz) sz) := by
 intro css
 induction css with
 | nil => intro off k l _ h; simp at h
 | cons a r ih =>
  intro off k l hm h
  cases k with
  | zero => simp at h; subst h; simpa using hm.1
  | succ k =>
   have := ih hm.2 (by simpa using h)
   rwa [show off + sz + k * sz = off + (k + 1) * sz by rw [Nat.add_mul]; omega] at this
def PackOk (G : Gh) (w : World) (lk : Id → Option Res) (e : Ty) (f : Fl) : Prop :=
 ∀ (l : List At) (cs : List Value) (x : e.den) (r : List At) (ids lent : List Id) (t : List Id),
  MtL G w l cs → (pack e f l).exec lk = some (⟨x, r, ids, lent⟩, t) → ∃ c1 c2, cs = c1 ++ c2 ∧ c1.length = e.size ∧ MtL G w r c2 ∧ Packs G w e f c1 x ids lent
theorem packEach_sound {G : Gh} {w : World} {lk : Id → Option Res} {e : Ty} {f : Fl} (ih : PackOk G w lk e f) : ∀ (css : List (List At)) (cells : Nat → List Value) (k0 : Nat) (ys : List e.den) (ids lent : List Id) (t : List Id),
  (∀ k l, css[k]? = some l → MtL G w l (cells (k0 + k))) → (packEach (pack e f) css).exec lk = some ((ys, ids, lent), t) →
  ys.length = css.length ∧ (ids.Nodup → ∃ m : Id → Option (List Nat), (∀ i, m i ≠ none ↔ i ∈ ids) ∧
   ∀ (G' : Gh) (w' : World) (id : Id) (p : List Nat), Takes G G' w w' m lent id p → ∀ k y, ys[k]? = some y → Tr G' w' e f id (p ++ [k0 + k]) (cells (k0 + k)) y) := by
 intro css
 induction css with
 | nil =>
  intro cells k0 ys ids lent t _ hx
  obtain ⟨hp, _⟩ := exec_ok hx
  cases hp
  exact ⟨rfl, fun _ => ⟨fun _ => none, by simp, fun G' w' id p _ k y h => by simp at h⟩⟩
 | cons l css ihl =>
  intro cells k0 ys ids lent t hm hx
  simp only [packEach] at hx
  obtain ⟨⟨y, r1, ids1, w1⟩, t1, t2, hx1, hx2, rfl⟩ := exec_bind hx
  cases r1 with
  | cons a as => exact exec_fail hx2
  | nil =>
   obtain ⟨⟨ys', ids2, w2⟩, t3, t4, hx3, hx4, rfl⟩ := exec_bind hx2
   obtain ⟨hp, _⟩ := exec_ok hx4
   cases hp
   obtain ⟨c1, c2, hc, hl1, hm1, hp1⟩ := ih _ _ _ _ _ _ _ (hm 0 l rfl) hx1
   have hc2 : c2 = [] := hm1
   subst hc2
   rw [List.append_nil, Nat.add_zero] at hc
   subst hc
   obtain ⟨hlen, hp2⟩ := ihl cells (k0 + 1) ys' ids2 w2 t3 (fun k l' h => by have := hm (k + 1) l' (by simpa using h); rwa [show k0 + (k + 1) = k0 + 1 + k by omega] at this) hx3
   refine ⟨by simp [hlen], fun hnd => ?_⟩
   obtain ⟨n1, n2, hdis⟩ := List.nodup_append.1 hnd
   obtain ⟨m1, hm1', ht1⟩ := hp1 n1
   obtain ⟨m2, hm2', ht2⟩ := hp2 n2
   refine ⟨fun i => match m1 i with | some q => some (k0 :: q) | none => m2 i, fun i => ?_, fun G' w' id p ht k z hz => ?_⟩
   ·have a1 := hm1' i
    have a2 := hm2' i
    show (match m1 i with | some q => some (k0 :: q) | none => m2 i) ≠ none ↔ _
    rw [List.mem_append]
    cases h1 : m1 i with
    | some q => exact ⟨fun _ => Or.inl (a1.1 (by rw [h1]; simp)), fun _ => by simp⟩
    | none =>
     rw [h1] at a1
     have : i ∉ ids1 := fun h => (a1.2 h) rfl
     simp only [this, false_or, ← a2]
   ·cases k with
    | zero =>
     simp only [List.getElem?_cons_zero, Option.some.injEq] at hz
     subst hz
     refine ht1 G' w' id (p ++ [k0]) ⟨ht.pb, fun b i q pos hb hi => ?_, fun b i q hb hi => ht.lend b i q hb (List.mem_append_left _ hi)⟩
     have := ht.own b i q (k0 :: pos) hb (by simp [hi])
     simpa using this
    | succ k =>
     rw [show k0 + (k + 1) = k0 + 1 + k by omega]
     refine ht2 G' w' id p ⟨ht.pb, fun b i q pos hb hi => ht.own b i q pos hb ?_, fun b i q hb hi => ht.lend b i q hb (List.mem_append_right _ hi)⟩ k z (by simpa using hz)
     have h1 : m1 i = none := by
      cases h1 : m1 i with
      | none => rfl
      | some q' => exact absurd rfl (hdis i ((hm1' i).1 (by rw [h1]; simp)) i ((hm2' i).1 (by rw [hi]; simp)))
     simp [h1, hi]
section
variable {G : Gh} {w : World}
theorem takeA_sound : ∀ {l : List At} {off n : Nat} {cs : List Value} {m : List At}, MtL G w l cs → takeA l off n = some m → off + n ≤ cs.length ∧ MtL G w m ((cs.drop off).take n) := by
 intro l
 induction l with
 | nil =>
  intro off n cs m h hx
  rw [show cs = [] from h]
  match off, n with
  | 0, 0 => simp only [takeA, Option.some.injEq] at hx; subst hx; exact ⟨by simp, rfl⟩
  | 0, n + 1 => simp [takeA] at hx
  | off + 1, n => simp [takeA] at hx
 | cons a r ih =>
  intro off n cs m h hx
  obtain ⟨c1, c2, rfl, h1, h2⟩ := h
  have hl := h1.len
  match off, n with
  | 0, 0 => simp only [takeA, Option.some.injEq] at hx; subst hx; exact ⟨by simp, by simp only [List.drop_zero, List.take_zero]; rfl⟩
  | 0, n + 1 =>
   simp only [takeA] at hx
   cases hb : Nat.ble a.size (n + 1) with
   | false => rw [hb] at hx; cases hx
   | true =>
    rw [hb] at hx
    have hle : a.size ≤ n + 1 := Nat.le_of_ble_eq_true hb
    simp only [cond_true] at hx
    split at hx
    ·rename_i y hy
     cases hx
     obtain ⟨h3, h4⟩ := ih h2 hy
     refine ⟨by rw [List.length_append]; omega, ?_⟩
     rw [List.drop_zero, List.take_append, List.take_of_length_le (by omega), hl]
     exact ⟨c1, _, rfl, h1, by simpa using h4⟩
    ·cases hx
  | off + 1, n =>
   simp only [takeA] at hx
   cases hb : Nat.ble a.size (off + 1) with
   | false => rw [hb] at hx; cases hx
   | true =>
    rw [hb] at hx
    have hle : a.size ≤ off + 1 := Nat.le_of_ble_eq_true hb
    simp only [cond_true] at hx
    obtain ⟨h3, h4⟩ := ih h2 hx
    refine ⟨by rw [List.length_append]; omega, ?_⟩
    rw [List.drop_append, List.drop_of_length_le (by omega), List.nil_append, hl]
    exact h4
end
theorem flR_le_p : ∀ {T : Ty} {F : Fl}, T.noO F = true → flR Fo.le T pF F = true := by
 intro T
 induction T with
 | sl e ih =>
  intro F h
  simp only [Ty.noO, Bool.and_eq_true, Bool.not_eq_true'] at h
  simp only [flR, Bool.and_eq_true]
  refine ⟨?_, ih h.2⟩
  have h1 := h.1
  cases hF : F.hd <;> rw [hF] at h1 <;> first | rfl | cases h1
 | pr a b iha ihb =>
  intro F h
  simp only [Ty.noO, Bool.and_eq_true] at h
  simp only [flR, Bool.and_eq_true]
  exact ⟨iha h.1, ihb h.2⟩
 | _ => intro F _; rfl
theorem pack_sound {G : Gh} {w : World} {lk : Id → Option Res} (hrs : ∀ id R, lk id = some R → ResOk G w id R) : ∀ (e : Ty) (f : Fl) (l : List At) (cs : List Value) (x : e.den) (r : List At) (ids lent : List Id) (t : List Id),
  MtL G w l cs → (pack e f l).exec lk = some (⟨x, r, ids, lent⟩, t) → ∃ c1 c2, cs = c1 ++ c2 ∧ c1.length = e.size ∧ MtL G w r c2 ∧ Packs G w e f c1 x ids lent := by
 intro e
 induction e with
 | int k =>
  intro f l cs x r ids lent t hm hx
  simp only [pack] at hx
  split at hx
  ·rename_i k' F n r'
   cases hk : Nat.beq (kindNo k) (kindNo k') with
   | false => rw [hk] at hx; exact exec_fail hx
   | true =>
    rw [hk] at hx
    have := kindNo_inj (Nat.eq_of_beq_eq_true hk)
    subst this
    obtain ⟨hp, _⟩ := exec_ok hx
    cases hp
    obtain ⟨c1, c2, rfl, h1, h2⟩ := hm
    exact ⟨c1, c2, rfl, h1.2.len, h2, .keepL rfl h1.2⟩
  ·exact exec_fail hx
 | bool =>
  intro f l cs x r ids lent t hm hx
  simp only [pack] at hx
  split at hx
  ·obtain ⟨hp, _⟩ := exec_ok hx
   cases hp
   obtain ⟨c1, c2, rfl, h1, h2⟩ := hm
   exact ⟨c1, c2, rfl, h1.2.len, h2, .keepL rfl h1.2⟩
  ·obtain ⟨hp, _⟩ := exec_ok hx
   cases hp
   obtain ⟨c1, c2, rfl, h1, h2⟩ := hm
   exact ⟨c1, c2, rfl, h1.len, h2, .keepL rfl h1⟩
  ·exact exec_fail hx
 | str =>
  intro f l cs x r ids lent t hm hx
  simp only [pack] at hx
  split at hx
  ·obtain ⟨hp, _⟩ := exec_ok hx
   cases hp
   obtain ⟨c1, c2, rfl, h1, h2⟩ := hm
   exact ⟨c1, c2, rfl, h1.2.len, h2, .keepL rfl h1.2⟩
  ·exact exec_fail hx
 | arr n e ih =>
  intro f l cs x r ids lent t hm hx
  simp only [pack] at hx
  split at hx
  ·rename_i T F y r'
   cases hT : T.beq (.arr n e) with
   | false => rw [hT] at hx; exact exec_fail hx
   | true =>
    rw [hT] at hx
    have := Ty.eq_of_beq hT
    subst this
    obtain ⟨hp, _⟩ := exec_ok hx
    rw [tcast_self] at hp
    cases hp
    obtain ⟨c1, c2, rfl, h1, h2⟩ := hm
    exact ⟨c1, c2, rfl, h1.2.len, h2, .keepL rfl h1.2⟩
  ·exact exec_fail hx
 | pt =>
  intro f l cs x r ids lent t hm hx
  simp only [pack] at hx
  split at hx
  ·obtain ⟨hp, _⟩ := exec_ok hx
   cases hp
   obtain ⟨c1, c2, rfl, h1, h2⟩ := hm
   exact ⟨c1, c2, rfl, by rw [show c1 = _ from h1]; rfl, h2, fun _ => ⟨fun _ => none, by simp, fun G' w' id p _ => h1⟩⟩
  ·exact exec_fail hx
 | er =>
  intro f l cs x r ids lent t hm hx
  simp only [pack] at hx
  split at hx
  ·obtain ⟨hp, _⟩ := exec_ok hx
   cases hp
   obtain ⟨c1, c2, rfl, h1, h2⟩ := hm
   exact ⟨c1, c2, rfl, h1.2.len, h2, .keepL rfl h1.2⟩
  ·exact exec_fail hx
 | pr a b iha ihb =>
  intro f l cs x r ids lent t hm hx
  simp only [pack] at hx
  obtain ⟨⟨y, r1, ids1, w1⟩, t1, t2, hx1, hx2, rfl⟩ := exec_bind hx
  obtain ⟨⟨y2, r2, ids2, w2⟩, t3, t4, hx3, hx4, rfl⟩ := exec_bind hx2
  obtain ⟨hp, _⟩ := exec_ok hx4
  cases hp
  obtain ⟨c1, d1, rfl, hl1, hm1, hp1⟩ := iha _ _ _ _ _ _ _ _ hm hx1
  obtain ⟨c2, d2, rfl, hl2, hm2, hp2⟩ := ihb _ _ _ _ _ _ _ _ hm1 hx3
  refine ⟨c1 ++ c2, d2, by rw [List.append_assoc], by rw [List.length_append, hl1, hl2]; rfl, hm2, fun hnd => ?_⟩
  obtain ⟨n1, n2, hdis⟩ := List.nodup_append.1 hnd
  obtain ⟨m1, hm1', ht1⟩ := hp1 n1
  obtain ⟨m2, hm2', ht2⟩ := hp2 n2
  refine ⟨fun i => match m1 i with | some q => some (0 :: q) | none => (m2 i).map (1 :: ·), fun i => ?_, fun G' w' id p ht => ⟨c1, c2, rfl, ht1 G' w' id (p ++ [0]) ⟨ht.pb, fun b i q pos hb hi => ?_, fun b i q hb hi => ht.lend b i q hb (List.mem_append_left _ hi)⟩,
   ht2 G' w' id (p ++ [1]) ⟨ht.pb, fun b i q pos hb hi => ?_, fun b i q hb hi => ht.lend b i q hb (List.mem_append_right _ hi)⟩⟩⟩
  ·have a1 := hm1' i
   have a2 := hm2' i
   show (match m1 i with | some q => some (0 :: q) | none => (m2 i).map (1 :: ·)) ≠ none ↔ _
   rw [List.mem_append]
   cases h1 : m1 i with
   | some q => exact ⟨fun _ => Or.inl (a1.1 (by rw [h1]; simp)), fun _ => by simp⟩
   | none =>
    rw [h1] at a1
    have : i ∉ ids1 := fun h => (a1.2 h) rfl
    simp only [this, false_or, ← a2]
    cases m2 i <;> simp
  ·have := ht.own b i q (0 :: pos) hb (by simp [hi])
   simpa using this
  ·have h1 : m1 i = none := by
    cases h1 : m1 i with
    | none => rfl
    | some q' => exact absurd rfl (hdis i ((hm1' i).1 (by rw [h1]; simp)) i ((hm2' i).1 (by rw [hi]; simp)))
   have := ht.own b i q (1 :: pos) hb (by simp [h1, hi])
   simpa using this
 | sl e ih =>
  intro f l cs x r ids lent t hm hx
  have ih' : PackOk G w lk e f.el := ih f.el
  simp only [pack] at hx
  cases hwf : !(f.hd.isO || e.noO f.el) with
  | true => rw [hwf] at hx; exact exec_fail hx
  | false =>
   rw [hwf] at hx
   simp only [Bool.not_eq_eq_eq_not, Bool.not_false, Bool.or_eq_true] at hwf
   have hwf' : f.hd.isO = false → e.noO f.el = true := fun h => by rcases hwf with h' | h'; (rw [h] at h'; cases h'); exact h'
   simp only [cond_false] at hx
   split at hx
   ·
    rename_i id off n sz r'
    replace ⟨t', hx, _⟩ := exec_need hx
    split at hx
    ·rename_i hhd
     split at hx
     ·rename_i vcs hlk
      obtain ⟨b', C, tb, q1, q2, q3, q4⟩ := varOf_at hlk (hrs id)
      split at hx
      ·rename_i n' e' F' y htk
       cases hT : Ty.beq e' e && (Nat.beq n' n && (Nat.beq sz e.size && Nat.ble n 1024)) with
       | false => rw [hT] at hx; exact exec_fail hx
       | true =>
        rw [hT] at hx
        simp only [Bool.and_eq_true] at hT
        obtain ⟨t1, t2, t3, t4⟩ := hT
        have := Ty.eq_of_beq t1
        subst this
        have t2 := Nat.eq_of_beq_eq_true t2
        have t3 := Nat.eq_of_beq_eq_true t3
        have t4 := Nat.le_of_ble_eq_true t4
        subst t2
        subst t3
        obtain ⟨hp, _⟩ := exec_ok hx
        rw [tcast_self] at hp
        cases hp
        obtain ⟨c1, c2, rfl, h1, h2⟩ := hm
        obtain ⟨b, g1, g2⟩ := h1
        rw [g1] at q1
        cases q1
        obtain ⟨k1, k2⟩ := takeA_sound q4 htk
        obtain ⟨_, k3, k4, k5⟩ := k2.one_inv
        have hnw : f.hd.isO = false := by rw [hhd]; rfl
        refine ⟨c1, c2, rfl, by rw [g2]; rfl, h2, fun _ => ⟨fun _ => none, by simp, fun G' w' id' p ht => ?_⟩⟩
        have hl : G'.g b' = .bor ∧ w'.heap[b']? = w.heap[b']? := q2.elim (fun q2 => ht.lend b' id [] q2 (by simp)) (fun q2 => ht.pb.bor b' q2)
        refine ⟨_, _, _, g2, k4.symm, Nat.le_refl _, by simp only [maxL]; omega, hwf', .inr ⟨b', off, C, tb, (0, 0), rfl, by rw [hhd]; exact .inr hl.1, by rw [hl.2]; exact q3, by simpa using k1, (fun h => by rw [hhd] at h; cases h), fun j x hx => ?_⟩⟩
        have hj : j < n' := by have := (List.getElem?_eq_some_iff.1 hx).1; rw [k4] at this; exact this
        have hmul : (j + 1) * e'.size ≤ n' * e'.size := Nat.mul_le_mul_right _ hj
        rw [Nat.add_mul, Nat.one_mul] at hmul
        have := k5 j x hx
        rw [show ((C.toList.drop off).take (n' * e'.size)) = cellsAt C off (n' * e'.size) from rfl, ← cellsAt_sub C off (n' * e'.size) (by omega)] at this
        exact Tr.le (flR_le_p (hwf' hnw)) (this.keep ht.pb (noO_p e'))
      ·exact exec_fail hx
     ·exact exec_fail hx
    ·exact exec_fail hx
   ·
    rename_i T F y r'
    cases hT : T.beq (.sl e) && flR Fo.le (.sl e) F f with
    | false => rw [hT] at hx; exact exec_fail hx
    | true =>
     rw [hT] at hx
     simp only [Bool.and_eq_true] at hT
     have := Ty.eq_of_beq hT.1
     subst this
     obtain ⟨hp, _⟩ := exec_ok hx
     rw [tcast_self] at hp
     cases hp
     obtain ⟨c1, c2, rfl, h1, h2⟩ := hm
     exact ⟨c1, c2, rfl, h1.2.len, h2, .keepL (noO_le hT.2 h1.1) (h1.2.le hT.2)⟩
   ·
    obtain ⟨hp, _⟩ := exec_ok hx
    cases hp
    obtain ⟨c1, c2, rfl, h1, h2⟩ := hm
    refine ⟨c1, c2, rfl, by rw [show c1 = _ from h1]; rfl, h2, fun _ => ⟨fun _ => none, by simp, fun G' w' id p _ => ?_⟩⟩
    exact ⟨none, 0, 0, h1, rfl, Nat.le_refl _, by simp [maxL], hwf', .inl ⟨fun _ => rfl, rfl⟩⟩
   ·rename_i id r'
    obtain ⟨c1, c2, rfl, h1, h2⟩ := hm
    have h1' : c1 = [G.ρ id] := h1
    subst h1'
    obtain ⟨t', hx, _⟩ := exec_need hx
    split at hx
    ·
     rename_i hhd
     split at hx
     ·rename_i e' f' y hlk
      cases hT : e'.beq e && flR Fo.le e f' f.el with
      | false => rw [hT] at hx; exact exec_fail hx
      | true =>
       rw [hT] at hx
       simp only [Bool.and_eq_true] at hT
       have := Ty.eq_of_beq hT.1
       subst this
       obtain ⟨hp, _⟩ := exec_ok hx
       rw [tcast_self] at hp
       cases hp
       refine ⟨_, c2, rfl, rfl, h2, fun _ => ⟨fun i => if i = id then some [] else none, fun i => by simp, fun G' w' id0 p ht => ?_⟩⟩
       have hr : Tr G w (.sl e') (.sl .w f') id [] [G.ρ id] y := hrs id _ hlk
       have hr1 : Tr G w (.sl e') f id [] [G.ρ id] y := Tr.le (F := .sl .w f') (by show (Fo.le .w f.hd && flR Fo.le e' f' f.el) = true; rw [hhd, hT.2]; rfl) hr
       refine Tr.mono ht.pb (fun b q hq => ?_) hr1
       have := ht.own b id q [] (by simpa using hq) (by simp)
       simpa using this
     ·rename_i e' f' y j css hlk
      cases hT : e'.beq e && flR Fo.le e f' f.el with
      | false => rw [hT] at hx; exact exec_fail hx
      | true =>
       rw [hT] at hx
       simp only [Bool.and_eq_true] at hT
       have := Ty.eq_of_beq hT.1
       subst this
       simp only [cond_true] at hx
       obtain ⟨⟨z, r1, ids1, w1⟩, t1, t2, hx1, hx2, rfl⟩ := exec_bind hx
       cases r1 with
       | cons a as => exact exec_fail hx2
       | nil =>
        obtain ⟨hp, _⟩ := exec_ok hx2
        rw [tcast_self] at hp
        cases hp
        obtain ⟨b, off, C, tb, n, c, hρ, hn, hc, hmx, hj, hlb, hh, hs, hel, hcs⟩ := hrs id _ hlk
        obtain ⟨d1, d2, hd, hl1, hm1, hp1⟩ := ih _ _ _ _ _ _ _ _ hcs hx1
        have hd2 : d2 = [] := hm1
        subst hd2
        rw [List.append_nil] at hd
        subst hd
        refine ⟨_, c2, rfl, rfl, h2, fun hnd => ?_⟩
        obtain ⟨hni, hnd'⟩ := List.nodup_cons.1 hnd
        obtain ⟨m1, hm1', ht1⟩ := hp1 hnd'
        refine ⟨fun i => if i = id then some [] else (m1 i).map (j :: ·), fun i => ?_, fun G' w' id0 p ht => ?_⟩
        ·by_cases hi : i = id
         ·subst hi; simp
         ·simp only [if_neg hi, List.mem_cons, hi, false_or, ← hm1' i]
          cases m1 i <;> simp
        ·have hob := ht.own b id [] [] hlb (by simp)
         simp only [List.append_nil] at hob
         refine ⟨some ⟨b, off, none⟩, n, c, by rw [hρ], by rw [hn]; exact List.length_set.symm, hc, hmx, hwf', .inr ⟨b, off, C, tb, (0, 0), rfl, by rw [hhd]; exact hob.1, by rw [hob.2]; exact hh, ?_, fun _ => ⟨rfl, hs⟩, fun k u hu => ?_⟩⟩
         ·exact Nat.le_trans (Nat.add_le_add_left (Nat.mul_le_mul_right _ hc) _) hs
         ·by_cases hk : k = j
          ·subst hk
           rw [List.getElem?_set_self (by rw [← hn]; exact hj)] at hu
           cases hu
           refine ht1 G' w' id0 (p ++ [k]) ⟨ht.pb, fun b i q pos hb hi => ?_, fun b i q hb hi => ht.lend b i q hb hi⟩
           have hne : i ≠ id := fun e => hni (e ▸ (hm1' i).1 (by rw [hi]; simp))
           have := ht.own b i q (k :: pos) hb (by simp [hne, hi])
           simpa using this
          ·rw [List.getElem?_set_ne (Ne.symm hk)] at hu
           refine Tr.mono ht.pb (fun b' q hq => ?_) ((hel k u hk hu).le hT.2)
           have := ht.own b' id ([k] ++ q) [] (by simpa using hq) (by simp)
           simpa using this
     ·rename_i sz css hlk
      cases hsz : Nat.beq sz e.size with
      | false => rw [hsz] at hx; exact exec_fail hx
      | true =>
       rw [hsz] at hx
       have := Nat.eq_of_beq_eq_true hsz
       subst this
       simp only [cond_true] at hx
       obtain ⟨⟨ys, ids1, w1⟩, t1, t2, hx1, hx2, rfl⟩ := exec_bind hx
       obtain ⟨hp, _⟩ := exec_ok hx2
       cases hp
       obtain ⟨A, n, c, hρ, hn, hc, hmx, hblk⟩ := hrs id _ hlk
       rcases hblk with ⟨rfl, rfl⟩ | ⟨b, off, C, tb, rfl, hlb, hh, hs, hel⟩
       ·have hn0 : n = 0 := by omega
        subst hn0
        have : css = [] := List.eq_nil_of_length_eq_zero hn.symm
        subst this
        obtain ⟨hp, _⟩ := exec_ok hx1
        cases hp
        refine ⟨_, c2, rfl, rfl, h2, fun _ => ⟨fun i => if i = id then some [] else none, fun i => by simp, fun G' w' id0 p ht => ?_⟩⟩
        exact ⟨none, 0, 0, by rw [hρ], rfl, Nat.le_refl _, hmx, hwf', .inl ⟨fun _ => rfl, rfl⟩⟩
       ·obtain ⟨hlen, hpe⟩ := packEach_sound ih' css (fun k => cellsAt C (off + k * e.size) e.size) 0 ys ids1 w1 t1 (fun k l hl => by simpa using hel.get hl) hx1
        refine ⟨_, c2, rfl, rfl, h2, fun hnd => ?_⟩
        obtain ⟨hni, hnd'⟩ := List.nodup_cons.1 hnd
        obtain ⟨m1, hm1', ht1⟩ := hpe hnd'
        refine ⟨fun i => if i = id then some [] else m1 i, fun i => ?_, fun G' w' id0 p ht => ?_⟩
        ·by_cases hi : i = id
         ·subst hi; simp
         ·show (if i = id then some [] else m1 i) ≠ none ↔ _
          rw [if_neg hi, List.mem_cons]
          exact ⟨fun h => Or.inr ((hm1' i).1 h), fun h => (hm1' i).2 (h.resolve_left hi)⟩
        ·have hob := ht.own b id [] [] hlb (by simp)
         simp only [List.append_nil] at hob
         have hte := ht1 G' w' id0 p ⟨ht.pb, fun b i q pos hb hi => ht.own b i q pos hb (by
          have hne : i ≠ id := fun e => hni (e ▸ (hm1' i).1 (by rw [hi]; simp))
          simp [hne, hi]), ht.lend⟩
         refine ⟨some ⟨b, off, none⟩, n, c, by rw [hρ], by rw [hn]; exact hlen.symm, hc, hmx, hwf', .inr ⟨b, off, C, tb, (0, 0), rfl, by rw [hhd]; exact hob.1, by rw [hob.2]; exact hh, ?_, fun _ => ⟨rfl, hs⟩, fun k u hu => ?_⟩⟩
         ·exact Nat.le_trans (Nat.add_le_add_left (Nat.mul_le_mul_right _ hc) _) hs
         ·have := hte k u hu
          simpa using this
     ·exact exec_fail hx
    ·
     rename_i hhd
     have hno : e.noO f.el = true := hwf' (by rw [hhd]; rfl)
     split at hx
     ·rename_i e' f' y hlk
      cases hT : e'.beq e && flR Fo.lend e f' f.el with
      | false => rw [hT] at hx; exact exec_fail hx
      | true =>
       rw [hT] at hx
       simp only [Bool.and_eq_true] at hT
       have := Ty.eq_of_beq hT.1
       subst this
       obtain ⟨hp, _⟩ := exec_ok hx
       rw [tcast_self] at hp
       cases hp
       refine ⟨_, c2, rfl, rfl, h2, fun _ => ⟨fun _ => none, fun i => by simp, fun G' w' id0 p ht => ?_⟩⟩
       have hr : Tr G w (.sl e') (.sl .w f') id [] [G.ρ id] y := hrs id _ hlk
       exact Tr.lendK ht.pb (fun b q hq => ht.lend b id _ hq (by simp)) (by show (Fo.lend .w f.hd && flR Fo.lend e' f' f.el) = true; rw [hhd, hT.2]; rfl) hr
     ·rename_i e' f' y j css hlk
      cases hT : e'.beq e && flR Fo.lend e f' f.el with
      | false => rw [hT] at hx; exact exec_fail hx
      | true =>
       rw [hT] at hx
       simp only [Bool.and_eq_true] at hT
       have := Ty.eq_of_beq hT.1
       subst this
       simp only [cond_true] at hx
       obtain ⟨⟨z, r1, ids1, w1⟩, t1, t2, hx1, hx2, rfl⟩ := exec_bind hx
       split at hx2
       ·rename_i z' w2 heq
        cases heq
        obtain ⟨hp, _⟩ := exec_ok hx2
        rw [tcast_self] at hp
        cases hp
        obtain ⟨b, off, C, tb, n, c, hρ, hn, hc, hmx, hj, hlb, hh, hs, hel, hcs⟩ := hrs id _ hlk
        obtain ⟨d1, d2, hd, hl1, hm1, hp1⟩ := ih _ _ _ _ _ _ _ _ hcs hx1
        have hd2 : d2 = [] := hm1
        subst hd2
        rw [List.append_nil] at hd
        subst hd
        refine ⟨_, c2, rfl, rfl, h2, fun hnd => ?_⟩
        obtain ⟨m1, hm1', ht1⟩ := hp1 hnd
        have hm1n : ∀ i, m1 i = none := fun i => Decidable.byContradiction fun h => by have := (hm1' i).1 h; simp at this
        refine ⟨fun _ => none, fun i => by simp, fun G' w' id0 p ht => ?_⟩
        have hob := ht.lend b id [] hlb (by simp)
        refine ⟨some ⟨b, off, none⟩, n, c, by rw [hρ], by rw [hn]; exact List.length_set.symm, hc, hmx, hwf', .inr ⟨b, off, C, tb, (0, 0), rfl, by rw [hhd]; exact .inr hob.1, by rw [hob.2]; exact hh, ?_, fun _ => ⟨rfl, hs⟩, fun k u hu => ?_⟩⟩
        ·exact Nat.le_trans (Nat.add_le_add_left (Nat.mul_le_mul_right _ hc) _) hs
        ·by_cases hk : k = j
         ·subst hk
          rw [List.getElem?_set_self (by rw [← hn]; exact hj)] at hu
          cases hu
          exact ht1 G' w' id0 (p ++ [k]) ⟨ht.pb, (fun b i q pos hb hi => by rw [hm1n] at hi; cases hi), fun b i q hb hi => ht.lend b i q hb (List.mem_cons_of_mem _ hi)⟩
         ·rw [List.getElem?_set_ne (Ne.symm hk)] at hu
          exact Tr.lendK ht.pb (fun b' q hq => ht.lend b' id _ hq (by simp)) hT.2 (hel k u hk hu)
       ·exact exec_fail hx2
     ·rename_i sz css hlk
      cases hsz : Nat.beq sz e.size with
      | false => rw [hsz] at hx; exact exec_fail hx
      | true =>
       rw [hsz] at hx
       have := Nat.eq_of_beq_eq_true hsz
       subst this
       simp only [cond_true] at hx
       obtain ⟨⟨ys, ids1, w1⟩, t1, t2, hx1, hx2, rfl⟩ := exec_bind hx
       split at hx2
       ·rename_i ys' w2 heq
        cases heq
        obtain ⟨hp, _⟩ := exec_ok hx2
        cases hp
        obtain ⟨A, n, c, hρ, hn, hc, hmx, hblk⟩ := hrs id _ hlk
        rcases hblk with ⟨rfl, rfl⟩ | ⟨b, off, C, tb, rfl, hlb, hh, hs, hel⟩
        ·have hn0 : n = 0 := by omega
         subst hn0
         have : css = [] := List.eq_nil_of_length_eq_zero hn.symm
         subst this
         obtain ⟨hp, _⟩ := exec_ok hx1
         cases hp
         refine ⟨_, c2, rfl, rfl, h2, fun _ => ⟨fun _ => none, fun i => by simp, fun G' w' id0 p ht => ?_⟩⟩
         exact ⟨none, 0, 0, by rw [hρ], rfl, Nat.le_refl _, hmx, hwf', .inl ⟨fun _ => rfl, rfl⟩⟩
        ·obtain ⟨hlen, hpe⟩ := packEach_sound ih' css (fun k => cellsAt C (off + k * e.size) e.size) 0 x [] w1 t1 (fun k l hl => by simpa using hel.get hl) hx1
         refine ⟨_, c2, rfl, rfl, h2, fun hnd => ?_⟩
         obtain ⟨m1, hm1', ht1⟩ := hpe hnd
         have hm1n : ∀ i, m1 i = none := fun i => Decidable.byContradiction fun h => by have := (hm1' i).1 h; simp at this
         refine ⟨fun _ => none, fun i => by simp, fun G' w' id0 p ht => ?_⟩
         have hob := ht.lend b id [] hlb (by simp)
         have hte := ht1 G' w' id0 p ⟨ht.pb, (fun b i q pos hb hi => by rw [hm1n] at hi; cases hi), fun b i q hb hi => ht.lend b i q hb (List.mem_cons_of_mem _ hi)⟩
         refine ⟨some ⟨b, off, none⟩, n, c, by rw [hρ], by rw [hn]; exact hlen.symm, hc, hmx, hwf', .inr ⟨b, off, C, tb, (0, 0), rfl, by rw [hhd]; exact .inr hob.1, by rw [hob.2]; exact hh, ?_, fun _ => ⟨rfl, hs⟩, fun k u hu => ?_⟩⟩
         ·exact Nat.le_trans (Nat.add_le_add_left (Nat.mul_le_mul_right _ hc) _) hs
         ·have := hte k u hu
          simpa using this
       ·exact exec_fail hx2
     ·exact exec_fail hx
    ·exact exec_fail hx
   ·
    rename_i id lo hi sz inn r'
    obtain ⟨c1, c2, rfl, h1, h2⟩ := hm
    obtain ⟨A, n, c, hρ, hlh, hhc, hin, h1'⟩ := h1
    subst h1'
    replace ⟨t', hx, _⟩ := exec_need hx
    split at hx
    ·rename_i hhd
     have hno : e.noO f.el = true := hwf' (by rw [hhd]; rfl)
     split at hx
     ·rename_i e' f' y hlk
      cases hT : e'.beq e && flR Fo.lend e f' f.el && (Nat.beq sz e.size && inn) with
      | false => rw [hT] at hx; exact exec_fail hx
      | true =>
       rw [hT] at hx
       simp only [Bool.and_eq_true] at hT
       obtain ⟨⟨hT1, hT2⟩, hT3, hT4⟩ := hT
       have := Ty.eq_of_beq hT1
       subst this
       have := Nat.eq_of_beq_eq_true hT3
       subst this
       obtain ⟨hp, _⟩ := exec_ok hx
       rw [tcast_self] at hp
       cases hp
       refine ⟨_, c2, rfl, rfl, h2, fun _ => ⟨fun _ => none, fun i => by simp, fun G' w' id0 p ht => ?_⟩⟩
       have hr : Tr G w (.sl e') (.sl .w f') id [] [G.ρ id] y := hrs id _ hlk
       have h3 : Tr G' w' (.sl e') f default [] [G.ρ id] y := Tr.lendK ht.pb (fun b q hq => ht.lend b id _ hq (by simp)) (by show (Fo.lend .w f.hd && flR Fo.lend e' f' f.el) = true; rw [hhd, hT2]; rfl) hr
       rw [hρ] at h3
       have h0 : Ty.noO (.sl e') f = true := by simp only [Ty.noO, Bool.and_eq_true]; exact ⟨by rw [hhd]; rfl, hno⟩
       exact (h3.part h0 hlh (hin hT4)).keep (.refl G' w') h0
     ·exact exec_fail hx
    ·exact exec_fail hx
   ·exact exec_fail hx
end Go.Sx

namespace Go.Sx
open Go Go.RowKit
section
variable {G : Gh} {w : World}
theorem putA_sound : ∀ {l : List At} {off : Nat} {vs : List At} {cs ds : List Value} {m : List At}, MtL G w l cs → MtL G w vs ds → putA l off vs = some m →
  off + ds.length ≤ cs.length ∧ MtL G w m (cs.take off ++ ds ++ cs.drop (off + ds.length)) := by
 intro l
 induction l with
 | nil =>
  intro off vs cs ds m h hv hx
  rw [show cs = [] from h]
  match off, vs with
  | 0, [] =>
   simp only [putA, Option.some.injEq] at hx
   subst hx
   rw [show ds = [] from hv]
   exact ⟨by simp, rfl⟩
  | 0, _ :: _ => simp [putA] at hx
  | off + 1, _ => simp [putA] at hx
 | cons a r ih =>
  intro off vs cs ds m h hv hx
  have h' := h
  obtain ⟨c1, c2, rfl, h1, h2⟩ := h
  have hl := h1.len
  match off, vs with
  | 0, [] =>
   simp only [putA, Option.some.injEq] at hx
   subst hx
   rw [show ds = [] from hv]
   exact ⟨by simp, by simpa using h'⟩
  | 0, v :: vs =>
   simp only [putA] at hx
   cases hb : Nat.beq a.size v.size with
   | false => rw [hb] at hx; cases hx
   | true =>
    rw [hb] at hx
    have he : a.size = v.size := Nat.eq_of_beq_eq_true hb
    simp only [cond_true] at hx
    split at hx
    ·rename_i y hy
     cases hx
     obtain ⟨d1, d2, rfl, hv1, hv2⟩ := hv
     have hvl := hv1.len
     obtain ⟨h3, h4⟩ := ih h2 hv2 hy
     refine ⟨by simp only [List.length_append]; omega, ?_⟩
     have e1 : (c1 ++ c2).drop (0 + (d1 ++ d2).length) = c2.drop (0 + d2.length) := by
      rw [List.length_append, Nat.zero_add, Nat.zero_add, List.drop_append, List.drop_of_length_le (by omega), List.nil_append]
      congr 1
      omega
     rw [e1]
     simp only [List.take_zero, List.nil_append] at h4 ⊢
     exact ⟨d1, d2 ++ c2.drop (0 + d2.length), by rw [List.append_assoc], hv1, h4⟩
    ·cases hx
  | off + 1, vs =>
   simp only [putA] at hx
   cases hb : Nat.ble a.size (off + 1) with
   | false => rw [hb] at hx; cases hx
   | true =>
    rw [hb] at hx
    have hle : a.size ≤ off + 1 := Nat.le_of_ble_eq_true hb
    simp only [cond_true] at hx
    split at hx
    ·rename_i y hy
     cases hx
     obtain ⟨h3, h4⟩ := ih h2 hv hy
     refine ⟨by rw [List.length_append]; omega, ?_⟩
     have e1 : (c1 ++ c2).take (off + 1) = c1 ++ c2.take (off + 1 - a.size) := by
      rw [List.take_append, List.take_of_length_le (by omega), hl]
     have e2 : (c1 ++ c2).drop (off + 1 + ds.length) = c2.drop (off + 1 - a.size + ds.length) := by
      rw [List.drop_append, List.drop_of_length_le (by omega), List.nil_append]
      congr 1
      omega
     rw [e1, e2, List.append_assoc, List.append_assoc]
     exact ⟨c1, _, rfl, h1, by rw [← List.append_assoc]; exact h4⟩
    ·cases hx
theorem Tr.one : ∀ {T : Ty} {F : Fl} {id : Id} {p : List Nat} {cs : List Value} {x : T.den}, Tr G w T F id p cs x → ∀ v ∈ cs, v.oneCell' = true := by
 intro T
 induction T with
 | int k => intro F id p cs x h v hv; rw [h.1] at hv; simp at hv; subst hv; rfl
 | bool => intro F id p cs x h v hv; rw [show cs = _ from h] at hv; simp at hv; subst hv; rfl
 | pt => intro F id p cs x h v hv; rw [show cs = _ from h] at hv; simp at hv; subst hv; rfl
 | er =>
  intro F id p cs x h v hv
  obtain ⟨u, rfl, h⟩ := h
  simp at hv
  subst hv
  rcases h with ⟨_, rfl⟩ | ⟨_, _, _, _, _, _, _, _, rfl⟩ | ⟨_, _, _, rfl⟩ <;> rfl
 | str => intro F id p cs x h v hv; rw [h.1] at hv; simp at hv; subst hv; rfl
 | sl e ih => intro F id p cs x h v hv; obtain ⟨A, n, c, h, _⟩ := h; rw [h] at hv; simp at hv; subst hv; rfl
 | arr n e ih =>
  intro F id p cs x h v hv
  obtain ⟨h1, h2, h3⟩ := h
  obtain ⟨i, hi, rfl⟩ := List.getElem_of_mem hv
  rw [h1] at hi
  have hs : 0 < e.size := by
   rcases Nat.eq_zero_or_pos e.size with h0 | h0
   ·rw [h0] at hi; omega
   ·exact h0
  have hd : i / e.size < n := by rw [Nat.div_lt_iff_lt_mul hs]; exact hi
  have hm := Nat.mod_lt i hs
  have hx := h3 (i / e.size) (x[i / e.size]'(by rw [h2]; exact hd)) (List.getElem?_eq_getElem _)
  refine ih hx _ (List.mem_iff_getElem?.2 ⟨i % e.size, ?_⟩)
  rw [List.getElem?_take_of_lt hm, List.getElem?_drop]
  have := Nat.div_add_mod i e.size
  rw [Nat.mul_comm] at this
  rw [this]
  exact List.getElem?_eq_getElem _
 | pr a b iha ihb =>
  intro F id p cs x h v hv
  obtain ⟨c1, c2, rfl, h1, h2⟩ := h
  rcases List.mem_append.1 hv with hv | hv
  ·exact iha h1 v hv
  ·exact ihb h2 v hv
end
section
variable {G : Gh} {w : World}
theorem MtA.one (hρ : RhoOk G) {a : At} {cs : List Value} (h : MtA G w a cs) : ∀ v ∈ cs, v.oneCell' = true := by
 intro v hv
 cases a with
 | d T F x => exact h.2.one v hv
 | kb b => rw [show cs = _ from h] at hv; simp at hv; subst hv; rfl
 | nils => rw [show cs = _ from h] at hv; simp at hv; subst hv; rfl
 | own id => rw [show cs = _ from h] at hv; simp at hv; subst hv; exact hρ id
 | ptr id off => obtain ⟨b, _, h⟩ := h; rw [h] at hv; simp at hv; subst hv; rfl
 | opt id i sz off T => obtain ⟨b, o, n, c, _, h⟩ := h; rw [h] at hv; simp at hv; subst hv; rfl
 | rpt o T F x => obtain ⟨_, _, b, off, C, t, fz, h, _⟩ := h; rw [h] at hv; simp at hv; subst hv; rfl
 | nilp => rw [show cs = _ from h] at hv; simp at hv; subst hv; rfl
 | junk => obtain ⟨u, hu, h⟩ := h; rw [h] at hv; simp at hv; subst hv; exact hu
 | anyb P => obtain ⟨b, h, _⟩ := h; rw [h] at hv; simp at hv; subst hv; rfl
 | sub id lo hi sz inn => obtain ⟨A, n, c, _, _, _, _, h⟩ := h; rw [h] at hv; simp at hv; subst hv; rfl
 | chp id i => obtain ⟨ps, A, _, _, h⟩ := h; rw [h] at hv; simp at hv; subst hv; rfl
 | chf id i off => obtain ⟨ps, b, _, _, h⟩ := h; rw [h] at hv; simp at hv; subst hv; rfl
 | lnk id0 off id i sz => rcases h with ⟨_, b, _, h⟩ | ⟨k, ps, b, _, _, _, h⟩ <;> (rw [h] at hv; simp at hv; subst hv; rfl)
 | vp id off i n e => obtain ⟨b, _, h⟩ := h; rw [h] at hv; simp at hv; subst hv; rfl
 | vsl id off n sz => obtain ⟨b, _, h⟩ := h; rw [h] at hv; simp at hv; subst hv; rfl
theorem MtL.one' (hρ : RhoOk G) : ∀ {l : List At} {cs : List Value}, MtL G w l cs → ∀ v ∈ cs, v.oneCell' = true := by
 intro l
 induction l with
 | nil => intro cs h v hv; rw [show cs = [] from h] at hv; cases hv
 | cons a r ih =>
  intro cs h v hv
  obtain ⟨c1, c2, rfl, h1, h2⟩ := h
  rcases List.mem_append.1 hv with hv | hv
  ·exact h1.one hρ v hv
  ·exact ih h2 v hv
end
section
variable {old chg : Id → Prop} {G : Gh} {w : World}
theorem heap_alloc_new' (w : World) (o : Obj) : (w.alloc o).heap[w.heap.size]? = some o := by simp only [World.alloc]; exact Array.getElem?_push_size
theorem run_newObj' {P : Program} (w : World) (o : Obj) : (newObj o).run P w = .ok w.heap.size (w.alloc o) := rfl
theorem heap_alloc_get (w : World) (o : Obj) {b : Nat} (h : b < w.heap.size) : (w.alloc o).heap[b]? = w.heap[b]? := Below.heap_alloc w o b h
theorem Chg.alloc (hb : ∀ b, G.g b ≠ .no → b < w.heap.size) (o : Obj) {f : Id → Value} {lab : Lab} (hf : ∀ id, old id → f id = G.ρ id) (h1 : RhoOk G → ∀ id, (f id).oneCell' = true) :
  Chg old chg G ⟨f, fun b => if b = w.heap.size then lab else G.g b⟩ w (w.alloc o) := by
 have ne : ∀ b, G.g b ≠ .no → b ≠ w.heap.size := fun b h e => by have := hb b h; omega
 refine ⟨hf, ⟨fun b h => ?_, fun b h => ?_⟩, fun b id p h _ => ?_, fun b hlt h => ?_, fun b h => ?_, h1, rfl, rfl, rfl, by simp, fun b hlt h => by simp only; rw [if_neg (by omega)]; exact h⟩
 ·have hn := hb b (by rw [h]; simp)
  exact ⟨by simp only; rw [if_neg (by omega)]; exact h, heap_alloc_get w o hn⟩
 ·have hn := hb b (by rw [h]; simp)
  exact ⟨by simp only; rw [if_neg (by omega)]; exact h, heap_alloc_get w o hn⟩
 ·have hn := hb b (by rw [h]; simp)
  exact ⟨by simp only; rw [if_neg (by omega)]; exact h, heap_alloc_get w o hn⟩
 ·exact ⟨heap_alloc_get w o hlt, by simp only; rw [if_neg (by omega), h]⟩
 ·simp only at h
  rw [World.size_alloc]
  split at h
  ·omega
  ·have := hb b h; omega
theorem setRow_get (w : World) (g : Nat) (cs : Array Value) {b : Nat} (h : b ≠ g) : (w.setRow g cs).heap[b]? = w.heap[b]? := setRow_other w g b cs h
theorem setRow_size (w : World) (g : Nat) (cs : Array Value) : (w.setRow g cs).heap.size = w.heap.size := by simp [World.setRow]
theorem Chg.setRow (hb : ∀ b, G.g b ≠ .no → b < w.heap.size) {blk : Nat} {id0 : Id} {p0 : List Nat} (hl : G.g blk = .own id0 p0) (hc : chg id0) (cs : Array Value) : Chg old chg G G w (w.setRow blk cs) := by
 refine ⟨fun _ _ => rfl, ⟨fun b h => ⟨h, setRow_get w blk cs (fun e => by rw [e, hl] at h; cases h)⟩, fun b h => ⟨h, setRow_get w blk cs (fun e => by rw [e, hl] at h; cases h)⟩⟩, fun b id p h hn => ⟨h, setRow_get w blk cs (fun e => ?_)⟩,
  fun b _ h => ⟨setRow_get w blk cs (fun e => by rw [e, hl] at h; cases h), h⟩, fun b h => by rw [setRow_size]; exact hb b h, fun h => h, rfl, rfl, rfl, by rw [setRow_size]; exact Nat.le_refl _, fun _ _ h => h⟩
 rw [e, hl] at h
 cases h
 exact hn hc
end
section
variable {P : Program} {tt : TT} (T : TtOk P tt) {old : Id → Prop} {G : Gh} {w : World} {lk : Id → Option Res} (hb : ∀ b, G.g b ≠ .no → b < w.heap.size) (h1 : RhoOk G)
theorem MtV.cells {ag : Bool} {l : List At} {v : Value} (h : MtV G w ag l v) : MtL G w l v.cells.toList := by
 cases ag with
 | true => obtain ⟨cs, rfl, h⟩ := h; simpa [Value.cells] using h
 | false =>
  have : v.cells = #[v] := by cases v <;> first | rfl | (simp [MtV, Value.oneCell'] at h)
  rw [this]
  exact h.2
theorem take_flatten {α : Type} {s : Nat} {c : List α} (hc : c.length = s) : ∀ {n j : Nat} (t : List α), j < n → (((List.replicate n c).flatten ++ t).drop (j * s)).take s = c := by
 intro n
 induction n with
 | zero => intro j t h; omega
 | succ n ih =>
  intro j t h
  rw [List.replicate_succ, List.flatten_cons, List.append_assoc]
  cases j with
  | zero => rw [Nat.zero_mul, List.drop_zero, List.take_append_of_le_length (by omega), List.take_of_length_le (by omega)]
  | succ j =>
   rw [Nat.succ_mul, Nat.add_comm, ← List.drop_drop, ← hc, List.drop_left, hc]
   exact ih t (by omega)
theorem Tr.zero : ∀ (T : Ty) {F : Fl} {id : Id} {p : List Nat}, T.noO F = true → Tr G w T F id p (zeroCells T) T.dflt := by
 intro T
 induction T with
 | int k => intro F id p _; exact ⟨rfl, show inR k (0 : Int) by cases k <;> simp [inR, IntKind.min, IntKind.max, IntKind.signed, IntKind.bits]⟩
 | bool => intro F id p _; rfl
 | pt => intro F id p _; rfl
 | er => intro F id p _; exact ⟨_, rfl, .inl ⟨rfl, rfl⟩⟩
 | str => intro F id p _; exact ⟨rfl, Nat.zero_le _⟩
 | sl e ih =>
  intro F id p h
  simp only [Ty.noO, Bool.and_eq_true] at h
  exact ⟨none, 0, 0, rfl, rfl, Nat.le_refl _, by simp [maxL], fun _ => h.2, .inl ⟨fun _ => rfl, rfl⟩⟩
 | pr a b iha ihb =>
  intro F id p h
  simp only [Ty.noO, Bool.and_eq_true] at h
  exact ⟨_, _, rfl, iha h.1, ihb h.2⟩
 | arr n e ih =>
  intro F id p _
  have hl : (zeroCells e).length = e.size := Tr.len (ih (F := pF) (id := default) (p := []) (noO_p e))
  refine ⟨?_, List.length_replicate, fun j x hx => ?_⟩
  ·show ((List.replicate n (zeroCells e)).flatten).length = _
   rw [List.length_flatten, List.map_replicate, List.sum_replicate_nat, hl]
  ·have hx' : (List.replicate n e.dflt)[j]? = some x := hx
   rw [List.getElem?_replicate] at hx'
   split at hx'
   ·rename_i hj
    cases hx'
    have := take_flatten hl [] hj
    rw [List.append_nil] at this
    show Tr G w e pF default [] ((((List.replicate n (zeroCells e)).flatten).drop _).take _) _
    rw [this]
    exact ih (noO_p e)
   ·cases hx'
theorem zeroOf_sound : ∀ Tz : Ty, MtL G w (zeroOf Tz) (zeroCells Tz) := by
 intro Tz
 induction Tz with
 | int k => exact .one ⟨rfl, rfl, by cases k <;> simp [inR, IntKind.min, IntKind.max, IntKind.signed, IntKind.bits]⟩
 | bool => exact .one ⟨rfl, rfl⟩
 | str => exact .one ⟨rfl, rfl, by simp⟩
 | sl e => exact .one rfl
 | pt => exact .one rfl
 | er => exact .one ⟨rfl, _, rfl, .inl ⟨rfl, rfl⟩⟩
 | pr a b iha ihb => exact iha.append ihb
 | arr n e ih => exact .one ⟨rfl, Tr.zero (.arr n e) (F := pF) rfl⟩
include hb in
theorem does_new {id : Id} (hid : ¬ old id) {l : List At} {cs : Array Value} {t : TypeId} {s : Sem Next} (hids : ∀ j ∈ idsL l, old j) (hr : s.run P w = .ok (.value (.pointer (some ⟨w.heap.size, 0, none⟩))) (w.alloc (.cells cs t))) (m : MtL G w l cs.toList) :
  Does P old G w s ⟨atom (.ptr id 0), [(id, some (.var l))], []⟩ := by
 have hc : Chg old (fun i => i ∈ ([(id, some (Res.var l))] : List (Id × Option Res)).map (·.1)) G ⟨fun i => if i = id then .pointer (some ⟨w.heap.size, 0, none⟩) else G.ρ i, fun b => if b = w.heap.size then .own id [] else G.g b⟩ w (w.alloc (.cells cs t)) :=
  .alloc hb _ (fun i hi => by rw [if_neg (fun (e : i = id) => hid (e ▸ hi))]) (fun h1 i => by split <;> first | rfl | exact h1 i)
 refine ⟨_, _, _, _, hr, .inl rfl, hc, .of1 rfl ⟨w.heap.size, by simp, rfl⟩, fun i R hi => ?_⟩
 simp only [List.mem_singleton, Prod.mk.injEq, Option.some.injEq] at hi
 obtain ⟨rfl, rfl⟩ := hi
 exact ⟨w.heap.size, cs, t, by simp, by simp, heap_alloc_new' w _, m.keep hc hids⟩
include hb in
theorem does_box {id : Id} (hid : ¬ old id) {ag : Bool} {l : List At} {v : Value} {t : TypeId} (hids : ∀ j ∈ idsL l, old j) (m : MtS G w (.v ag l) v) :
  Does P old G w (do pure (.value (← Instr.box t v))) ⟨atom (.ptr id 0), [(id, some (.var l))], []⟩ :=
 does_new hb hid hids (cs := v.cells) (t := t) (by simp [Instr.box, newVar, newRow, run_newObj']) (MtV.cells m)
theorem zero_ids : ∀ T : Ty, idsL (zeroOf T) = [] := by
 intro T
 induction T with
 | pr a b iha ihb =>
  show idsL (zeroOf a ++ zeroOf b) = []
  have : ∀ l m : List At, idsL (l ++ m) = idsL l ++ idsL m := by
   intro l m
   induction l with
   | nil => rfl
   | cons a r ih => simp only [List.cons_append, idsL, ih, List.append_assoc]
  rw [this, iha, ihb]; rfl
 | _ => rfl
theorem mkV_cells {te : TE} {t : TypeId} (T : TtOk P tt) (h : ttOf tt t = some te) : (mkV te.ag (zeroCells te.T)).cells = (zeroCells te.T).toArray := by
 cases ha : te.ag with
 | true => rfl
 | false =>
  have h1 := size_one T h ha
  have hl := (zeroOf_sound (G := ⟨fun _ => undef, fun _ => .no⟩) (w := default) te.T)
  unfold mkV
  cases hT : te.T with
  | pr a b =>
   exfalso
   obtain ⟨r, _, c⟩ := T.at h
   have h1 := r.ag
   rw [ha] at h1
   unfold TE.di at h1
   unfold teChk at c
   cases hf : te.fts with
   | nil => rw [hf, hT] at c; simp at c
   | cons x xs => rw [hf] at h1; simp [DI.agg] at h1
  | arr n e =>
   exfalso
   obtain ⟨r, _, c⟩ := T.at h
   have h1 := r.ag
   rw [ha] at h1
   unfold TE.di at h1
   cases hf : te.fts with
   | nil => rw [hf, hT] at h1; simp [DI.agg] at h1
   | cons x xs => rw [hf] at h1; simp [DI.agg] at h1
  | int k => rfl
  | bool => rfl
  | str => rfl
  | sl e => rfl
  | pt => rfl
  | er => rfl
include hb in
theorem does_alloc (T : TtOk P tt) {id : Id} (hid : ¬ old id) {t : TypeId} {te : TE} (h : ttOf tt t = some te) :
  Does P old G w (do pure (.value (← Instr.alloc t true (.tuple #[])))) ⟨atom (.ptr id 0), [(id, some (.var (zeroOf te.T)))], []⟩ :=
 does_new hb hid (by rw [zero_ids]; intro j hj; cases hj) (cs := (zeroCells te.T).toArray) (t := t) (by simp [Instr.alloc, newVar, newRow, run_newObj', run_zero_at T h, mkV_cells T h]) (zeroOf_sound te.T)
theorem ofTy_sound (h1 : RhoOk G) {ag : Bool} {l : List At} {cs : List Value} {s : SV} {t' : List Id} (m : MtL G w l cs) (hl : ag = false → cs.length = 1) (hx : (SV.ofTy ag l).exec lk = some (s, t')) : MtS G w s (mkV ag cs) := by
 cases ag with
 | true => obtain ⟨rfl, _⟩ := exec_ok hx; exact ⟨cs, rfl, m⟩
 | false =>
  have hl := hl rfl
  match l, cs with
  | [a], [v] =>
   obtain ⟨rfl, _⟩ := exec_ok hx
   exact ⟨m.one' h1 v (by simp), m⟩
  | [], _ => exact exec_fail hx
  | _ :: _ :: _, _ => exact exec_fail hx
  | [_], [] => simp at hl
  | [_], _ :: _ :: _ => simp at hl
theorem atomsOf_sound : ∀ (T : Ty) (F : Fl) (id : Id) (p : List Nat) (cs : List Value) (x : T.den), T.noO F = true → Tr G w T F id p cs x → MtL G w (atomsOf T F x) cs := by
 intro T
 induction T with
 | pr a b iha ihb =>
  intro F id p cs x h0 h
  simp only [Ty.noO, Bool.and_eq_true] at h0
  obtain ⟨c1, c2, rfl, h1, h2⟩ := h
  exact (iha _ _ _ _ _ h0.1 h1).append (ihb _ _ _ _ _ h0.2 h2)
 | int k => intro F id p cs x h0 h; exact .one ⟨rfl, h⟩
 | bool => intro F id p cs x h0 h; exact .one ⟨rfl, h⟩
 | pt => intro F id p cs x h0 h; exact .one h
 | er => intro F id p cs x h0 h; exact .one ⟨rfl, h⟩
 | str => intro F id p cs x h0 h; exact .one ⟨rfl, h⟩
 | sl e ih => intro F id p cs x h0 h; exact .one ⟨h0, h.keep (.refl G w) h0⟩
 | arr n e ih => intro F id p cs x h0 h; exact .one ⟨rfl, h⟩
theorem beqT {a b : Ty} {α : Type} {x : Req α} {r : α × List Id} (h : (bif Ty.beq a b then x else .fail).exec lk = some r) : a = b ∧ x.exec lk = some r := by
 cases hb : Ty.beq a b with
 | false => rw [hb] at h; exact exec_fail (b := r.1) (t := r.2) h
 | true => rw [hb] at h; exact ⟨Ty.eq_of_beq hb, h⟩
theorem condR {b : Bool} {α : Type} {x : Req α} {r : α × List Id} (h : (bif b then x else .fail).exec lk = some r) : b = true ∧ x.exec lk = some r := by
 cases b with
 | false => exact exec_fail (b := r.1) (t := r.2) h
 | true => exact ⟨rfl, h⟩
theorem part_base {T T' : Ty} {F : Fl} {id : Id} {p : List Nat} {cs : List Value} {x : T.den} {off : Nat} {z : T'.den} {F' : Fl} (h : Tr G w T F id p cs x)
  (hz : (bif Nat.beq off 0 && Ty.beq T T' then some (tcast T T' x) else none) = some z) (hF : (bif Nat.beq off 0 && Ty.beq T T' then some F else none) = some F') :
  off + T'.size ≤ T.size ∧ ∃ id' p', Tr G w T' F' id' p' ((cs.drop off).take T'.size) z := by
 cases hc : (Nat.beq off 0 && Ty.beq T T') with
 | false => rw [hc] at hz; cases hz
 | true =>
  rw [hc] at hz hF
  simp only [cond_true, Option.some.injEq] at hz hF
  simp only [Bool.and_eq_true] at hc
  have h0 := Nat.eq_of_beq_eq_true hc.1
  have hT := Ty.eq_of_beq hc.2
  subst h0; subst hT; subst hF
  rw [tcast_self] at hz
  subst hz
  refine ⟨by omega, id, p, ?_⟩
  rw [List.drop_zero, List.take_of_length_le (by rw [h.len]; exact Nat.le_refl _)]
  exact h
theorem part_at : ∀ (T : Ty) (F : Fl) (id : Id) (p : List Nat) (cs : List Value) (x : T.den) (off : Nat) (T' : Ty) (z : T'.den) (F' : Fl), Tr G w T F id p cs x → partOf T x off T' = some z → partFl T F off T' = some F' →
  off + T'.size ≤ T.size ∧ ∃ id' p', Tr G w T' F' id' p' ((cs.drop off).take T'.size) z := by
 intro T
 induction T with
 | pr a b iha ihb =>
  intro F id p cs x off T' z F' h hz hF
  simp only [partOf, partFl] at hz hF
  cases hc : (Nat.beq off 0 && Ty.beq (.pr a b) T') with
  | true => rw [hc] at hz hF; exact part_base h (by rw [hc]; exact hz) (by rw [hc]; exact hF)
  | false =>
   rw [hc] at hz hF
   simp only [cond_false] at hz hF
   obtain ⟨c1, c2, rfl, h1, h2⟩ := h
   have hl := h1.len
   cases hlt : Nat.blt off a.size with
   | true =>
    rw [hlt] at hz hF
    obtain ⟨h3, id', p', h4⟩ := iha _ _ _ _ _ _ _ _ _ h1 hz hF
    refine ⟨by simp only [Ty.size]; omega, id', p', ?_⟩
    rw [List.drop_append_of_le_length (by omega), List.take_append_of_le_length (by rw [List.length_drop]; omega)]
    exact h4
   | false =>
    rw [hlt] at hz hF
    have hge : a.size ≤ off := by
     rcases Nat.lt_or_ge off a.size with h | h
     ·rw [show Nat.blt off a.size = true from by rw [Nat.blt_eq]; exact h] at hlt; cases hlt
     ·exact h
    obtain ⟨h3, id', p', h4⟩ := ihb _ _ _ _ _ _ _ _ _ h2 hz hF
    refine ⟨by simp only [Ty.size]; omega, id', p', ?_⟩
    rw [List.drop_append, List.drop_of_length_le (by omega), List.nil_append, hl]
    exact h4
 | int k => intro F id p cs x off T' z F' h hz hF; exact part_base h hz hF
 | bool => intro F id p cs x off T' z F' h hz hF; exact part_base h hz hF
 | pt => intro F id p cs x off T' z F' h hz hF; exact part_base h hz hF
 | er => intro F id p cs x off T' z F' h hz hF; exact part_base h hz hF
 | str => intro F id p cs x off T' z F' h hz hF; exact part_base h hz hF
 | sl e ih => intro F id p cs x off T' z F' h hz hF; exact part_base h hz hF
 | arr n e ih => intro F id p cs x off T' z F' h hz hF; exact part_base h hz hF
theorem Chg.trans {chg : Id → Prop} {G1 G2 : Gh} {w1 w2 : World} (h : Chg old chg G G1 w w1) (k : Chg old chg G1 G2 w1 w2) : Chg old chg G G2 w w2 := by
 refine ⟨fun id hi => (k.rho id hi).trans (h.rho id hi), h.pb.trans k.pb, fun b id p hg hc => ?_, fun b hl hg => ?_, k.bnd, fun h1 => k.one (h.one h1), k.os.trans h.os, k.tape.trans h.tape, k.output.trans h.output, Nat.le_trans h.size k.size, fun b hl hg => k.out b (Nat.lt_of_lt_of_le hl h.size) (h.out b hl hg)⟩
 ·obtain ⟨h1, h2⟩ := h.own b id p hg hc
  obtain ⟨h3, h4⟩ := k.own b id p h1 hc
  exact ⟨h3, h4.trans h2⟩
 ·obtain ⟨h1, h2⟩ := h.no b hl hg
  have hl' := Nat.lt_of_lt_of_le hl h.size
  exact ⟨((k.no b hl' h2).1).trans h1, (k.no b hl' h2).2⟩
theorem Chg.le {chg chg' : Id → Prop} {G' : Gh} {w' : World} (hc : ∀ i, chg i → chg' i) (h : Chg old chg G G' w w') : Chg old chg' G G' w w' :=
 ⟨h.rho, h.pb, fun b id p hg hn => h.own b id p hg (fun hi => hn (hc id hi)), h.no, h.bnd, h.one, h.os, h.tape, h.output, h.size, h.out⟩
include hb in
theorem lay_open {id idb : Id} {e : Ty} {f : Fl} {y : List e.den} {i : Nat} {cs : List At} {us : List (Id × Option Res)} (hi : i < y.length) (hold : old id) (hfr : ∀ k, ¬ old (idb.plus k)) (hr : ResOk G w id (.sl e f y))
  (ho : openOf e f (y.getD i e.dflt) idb = (cs, us)) (hone : RhoOk G) :
  ∃ G', Chg old (fun j => j = id) G G' w w ∧ ResOk G' w id (.slo e f y i cs) ∧ ∀ j R, (j, some R) ∈ us → ResOk G' w j R := by
 classical
 obtain ⟨A, n, c, hcs, hn, hc, hm, hwf, h⟩ := hr
 rcases h with ⟨_, h⟩ | ⟨b, off, C, t, fz, hA, hl, hh, hs, hw, hj⟩
 ·subst h; exfalso; omega
 have hfl : (Fl.sl Fo.w f).hd = .w := rfl
 have hfe : (Fl.sl Fo.w f).el = f := rfl
 obtain ⟨rfl, hs'⟩ := hw hfl
 rw [hfl] at hl
 rw [hfe] at hj
 simp only [List.nil_append] at hj
 have hy : y[i]? = some (y.getD i e.dflt) := by rw [List.getD_eq_getElem?_getD, List.getElem?_eq_getElem hi]; rfl
 have hel := hj i _ hy
 have hin : off + i * e.size + e.size ≤ C.size := by
  have : (i + 1) * e.size ≤ c * e.size := Nat.mul_le_mul_right _ (by omega)
  rw [Nat.succ_mul] at this
  omega
 have hlen := cellsAt_len hin
 let ρ' : Id → Value := fun j => if h : ∃ k, k < e.size ∧ j = idb.plus k then (cellsAt C (off + i * e.size) e.size).getD h.choose (.bool false) else G.ρ j
 have hρo : ∀ j, old j → ρ' j = G.ρ j := fun j hj => by
  simp only [ρ']
  rw [dif_neg]
  rintro ⟨k, _, rfl⟩
  exact hfr k hj
 have hρn : ∀ k v, (cellsAt C (off + i * e.size) e.size)[k]? = some v → ρ' (idb.plus k) = v := fun k v hv => by
  have hk : k < e.size := by
   have := (List.getElem?_eq_some_iff.1 hv).1
   omega
  have hex : ∃ k', k' < e.size ∧ idb.plus k = idb.plus k' := ⟨k, hk, rfl⟩
  simp only [ρ']
  rw [dif_pos hex]
  have h1 := hex.choose_spec.2
  have : hex.choose = k := by
   cases idb
   simp [Id.plus] at h1 ⊢
   have := h1
   omega
  rw [this, List.getD_eq_getElem?_getD, hv]
  rfl
 let g' : Nat → Lab := fun b' => match G.g b' with
  | .own j q => if j = id then (match q with
    | k :: q' => if k = i then (match relab e f idb q' with | some (j', r) => .own j' r | none => .own j q) else .own j q
    | [] => .own j q) else .own j q
  | l => l
 have hg_own : ∀ b' q j' r, G.g b' = .own id ([i] ++ q) → relab e f idb q = some (j', r) → g' b' = .own j' r := fun b' q j' r h1 h2 => by simp [g', h1, h2]
 have hg_oth : ∀ b' j q, G.g b' = .own j q → (j = id → ∀ q', q ≠ i :: q') → g' b' = .own j q := fun b' j q h1 h2 => by
  simp only [g', h1]
  split
  ·rename_i hji
   cases q with
   | nil => rfl
   | cons k q' =>
    simp only
    rw [if_neg]
    rintro rfl
    exact h2 hji q' rfl
  ·rfl
 have hpb : KeepPB G ⟨ρ', g'⟩ w w := ⟨fun b' h => ⟨by simp [g', h], rfl⟩, fun b' h => ⟨by simp [g', h], rfl⟩⟩
 have hopen := open_sound hpb e f id [i] _ _ idb hel (fun b' q j' r h1 h2 => ⟨hg_own b' q j' r h1 h2, rfl⟩) hρn
 rw [ho] at hopen
 refine ⟨⟨ρ', g'⟩, ⟨hρo, hpb, fun b' j q h1 h2 => ⟨hg_oth b' j q h1 (fun h => absurd h h2), rfl⟩, fun b' _ h1 => ⟨rfl, by simp [g', h1]⟩, fun b' h1 => ?_, fun _ j => ?_, rfl, rfl, rfl, Nat.le_refl _, fun b' _ h1 => by simp [g', h1]⟩,
  ⟨b, off, C, t, n, c, ?_, hn, hc, hm, by omega, hg_oth b id [] hl (fun _ q' => by simp), hh, hs', fun k z hk hz => ?_, hopen.1⟩, hopen.2⟩
 ·refine hb b' fun h2 => h1 ?_
  simp [g', h2]
 ·simp only [ρ']
  split
  ·rename_i hex
   rw [List.getD_eq_getElem?_getD]
   cases hv : (cellsAt C (off + i * e.size) e.size)[hex.choose]? with
   | none => rfl
   | some v => exact hel.one v (List.mem_of_getElem? hv)
  ·exact hone j
 ·show ρ' id = _
  rw [hρo id hold, ← hA]
  simpa using hcs
 ·refine Tr.mono hpb (fun b' q h1 => ⟨hg_oth b' id _ h1 (fun _ q' h => ?_), rfl⟩) (hj k z hz)
  simp at h
  exact hk h.1
end
end Go.Sx

namespace Go.Sx
open Go Go.RowKit
section
variable {P : Program} {tt : TT} (T : TtOk P tt) {old : Id → Prop} {G : Gh} {w : World} {lk : Id → Option Res} (hb : ∀ b, G.g b ≠ .no → b < w.heap.size) (h1 : RhoOk G)
theorem cellsAt_part {C : Array Value} {o n off k : Nat} (h : off + k ≤ n) : ((cellsAt C o n).drop off).take k = cellsAt C (o + off) k := (cellsAt_sub C o n h).symm
theorem load_block (T : TtOk P tt) {t0 : TypeId} {te : TE} (h : ttOf tt t0 = some te) {b o : Nat} {C : Array Value} {t' : TypeId} {fz : Nat × Nat} (hh : w.heap[b]? = some (.cells C t' fz)) (hs : o + te.T.size ≤ C.size)
  (h1 : RhoOk G) {l : List At} {s : SV} {tr : List Id} (m : MtL G w l (cellsAt C o te.T.size)) (hx : (SV.ofTy te.ag l).exec lk = some (s, tr)) :
  ∃ v, (Instr.loadAt t0 (.pointer (some ⟨b, o, none⟩))).run P w = .ok v w ∧ MtS G w s v :=
 ⟨_, run_load_at T h hh hs, ofTy_sound h1 m (fun ha => by rw [cellsAt_len hs]; exact size_one T h ha) hx⟩
include T hb h1 in
theorem does_load {t0 : TypeId} {idb : Id} {x : SV} {v : Value} {e : Eff} {t : List Id} (hfr : ∀ k, ¬ old (idb.plus k)) (hrs : ∀ id R, lk id = some R → ResOk G w id R ∧ old id ∧ ∀ j ∈ R.ids, old j)
  (hx : (sLoad tt t0 idb x).exec lk = some (e, t)) (hv : ∀ p ∈ e.vc, p) (m : MtS G w x v) : Does P old G w (do pure (.value (← Instr.loadAt t0 v))) e := by
 have fin : ∀ {s : SV} {vc : List Prop}, (∃ u, (Instr.loadAt t0 v).run P w = .ok u w ∧ MtS G w s u) → Does P old G w (do pure (.value (← Instr.loadAt t0 v))) ⟨s, [], vc⟩ := by
  rintro s vc ⟨u, h1, h2⟩
  exact .pure hb (v := u) (by simp [h1]) h2
 unfold sLoad at hx
 split at hx
 ·exact exec_fail hx
 rename_i t1 T0 ag nf el by_ fts hte
 split at hx
 ·
  rename_i id off
  replace ⟨t', hx, _⟩ := exec_need hx
  split at hx
  ·rename_i cs hlk
   split at hx
   ·rename_i l hl
    replace ⟨s, t1', t2', hs, hx, _⟩ := exec_bind hx
    obtain ⟨rfl, rfl⟩ := exec_ok hx
    obtain ⟨b, C, tt', hρ, hg, hh, hm⟩ := varOf_at hlk (fun R h => (hrs id R h).1)
    obtain ⟨b', hρ', hv'⟩ := m.at1.2
    rw [hρ] at hρ'
    cases hρ'
    simp only [List.cons.injEq, and_true] at hv'
    subst hv'
    obtain ⟨h3, h4⟩ := takeA_sound hm hl
    exact fin (load_block T hte hh (by simpa using h3) h1 h4 hs)
   ·exact exec_fail hx
  ·exact exec_fail hx
 ·
  rename_i o T' F y
  replace ⟨hTT, hx⟩ := beqT hx
  subst hTT
  replace ⟨s, t1', t2', hs, hx, _⟩ := exec_bind hx
  obtain ⟨rfl, rfl⟩ := exec_ok hx
  obtain ⟨h0, ho, b, off, C, tt', fz, hv', hl, hh, hsz, htr⟩ := m.at1.2
  simp only [List.cons.injEq, and_true] at hv'
  subst hv'
  exact fin (load_block T hte hh hsz h1 (atomsOf_sound _ _ _ _ _ _ h0 htr) hs)
 ·
  rename_i id i sz off T'
  replace ⟨hTT, hx⟩ := beqT hx
  subst hTT
  replace ⟨t', hx, _⟩ := exec_need hx
  obtain ⟨b, o, n, c, hρ, hv'⟩ := m.at1.2
  simp only [List.cons.injEq, and_true] at hv'
  subst hv'
  split at hx
  ·rename_i e' f y hlk
   replace ⟨hsz, hx⟩ := condR hx
   have hsz := Nat.eq_of_beq_eq_true hsz
   subst hsz
   obtain ⟨hR, hold, _⟩ := hrs id _ hlk
   split at hx
   ·exact exec_fail hx
   rename_i F hF
   split at hx
   ·
    rename_i hO
    split at hx
    ·rename_i z hz
     replace ⟨s, t1', t2', hs, hx, _⟩ := exec_bind hx
     obtain ⟨rfl, rfl⟩ := exec_ok hx
     have hi : i < y.length := hv _ List.mem_cons_self
     obtain ⟨A, n', c', hcs, hn, hc, hm, hwf, h⟩ := hR
     rw [hρ] at hcs
     simp only [List.cons.injEq, Value.slice.injEq, and_true] at hcs
     obtain ⟨rfl, rfl, rfl⟩ := hcs
     rcases h with ⟨h, _⟩ | ⟨b', off', C, tt', fz, hA, hl, hh, hs', hw, hj⟩
     ·cases h rfl
     simp only [Option.some.injEq, Addr.mk.injEq, and_true] at hA
     obtain ⟨rfl, rfl⟩ := hA
     have hy : (y : List e'.den)[i]? = some (y.getD i e'.dflt) := by rw [List.getD_eq_getElem?_getD, List.getElem?_eq_getElem hi]; rfl
     obtain ⟨h3, id', p', h4⟩ := part_at _ _ _ _ _ _ _ _ _ _ (hj i _ hy) hz hF
     rw [cellsAt_part h3] at h4
     have hle : (i + 1) * e'.size ≤ n * e'.size := Nat.mul_le_mul_right _ (by omega)
     rw [Nat.succ_mul] at hle
     exact fin (load_block T hte hh (by simp only; omega) h1 (atomsOf_sound _ _ _ _ _ _ hO h4) hs)
    ·exact exec_fail hx
   ·
    cases hop : openOf e' f (y.getD i e'.dflt) idb with
    | mk cs us =>
    rw [hop] at hx
    simp only at hx
    split at hx
    ·rename_i l hl
     replace ⟨s, t1', t2', hs, hx, _⟩ := exec_bind hx
     obtain ⟨rfl, rfl⟩ := exec_ok hx
     have hi : i < y.length := hv _ List.mem_cons_self
     obtain ⟨G', hc, hR', hus⟩ := lay_open hb hi hold hfr hR hop h1
     have hR'' := hR'
     obtain ⟨b', o', C, tt', n', c', hρ', h2, h3, h4, h5, h6, h7, h8, h9, h10⟩ := hR'
     have hρ2 := hc.rho id hold
     rw [hρ', hρ] at hρ2
     cases hρ2
     obtain ⟨h11, h12⟩ := takeA_sound h10 hl
     have hle : (i + 1) * e'.size ≤ c * e'.size := Nat.mul_le_mul_right _ (by omega)
     rw [Nat.succ_mul] at hle
     rw [cellsAt_len (by omega)] at h11
     rw [cellsAt_part h11] at h12
     obtain ⟨u, hu1, hu2⟩ := load_block (te := ⟨t1, T', ag, nf, el, by_, fts⟩) T hte h7 (by simp only; omega) (hc.one h1) h12 hs
     refine ⟨_, u, w, G', by simp [hu1], .inl rfl, hc.le (fun j hj => by simp [hj]), hu2, fun j R hj => ?_⟩
     rcases List.mem_cons.1 hj with hj | hj
     ·cases hj
      exact hR''
     ·exact hus j R hj
    ·exact exec_fail hx
  ·rename_i e' f y j cs hlk
   replace ⟨hsz, hx⟩ := condR hx
   have hsz := Nat.eq_of_beq_eq_true hsz
   subst hsz
   split at hx
   ·rename_i l hl
    replace ⟨s, t1', t2', hs, hx, _⟩ := exec_bind hx
    obtain ⟨rfl, rfl⟩ := exec_ok hx
    have hi : i = j := hv _ List.mem_cons_self
    subst hi
    obtain ⟨b', o', C, tt', n', c', hρ', h2, h3, h4, h5, h6, h7, h8, h9, h10⟩ := (hrs id _ hlk).1
    rw [hρ] at hρ'
    cases hρ'
    obtain ⟨h11, h12⟩ := takeA_sound h10 hl
    have hle : (i + 1) * e'.size ≤ c * e'.size := Nat.mul_le_mul_right _ (by omega)
    rw [Nat.succ_mul] at hle
    rw [cellsAt_len (by omega)] at h11
    rw [cellsAt_part h11] at h12
    exact fin (load_block (te := ⟨t1, T', ag, nf, el, by_, fts⟩) T hte h7 (by simp only; omega) h1 h12 hs)
   ·exact exec_fail hx
  ·
   rename_i sz' css hlk
   replace ⟨hE, hx⟩ := condR hx
   simp only [Bool.and_eq_true] at hE
   have e1 := Nat.eq_of_beq_eq_true hE.1
   have e2 := Nat.eq_of_beq_eq_true hE.2.1
   have e3 := Nat.eq_of_beq_eq_true hE.2.2
   subst e1
   subst e2
   subst e3
   replace ⟨pk, t1', t2', hpk, hx, _⟩ := exec_bind hx
   split at hx
   ·rename_i ys
    replace ⟨s, t3', t4', hs, hx, _⟩ := exec_bind hx
    obtain ⟨rfl, rfl⟩ := exec_ok hx
    have hi : i < ys.length := hv _ List.mem_cons_self
    obtain ⟨A, n', c', hρ', hn, hc, hm, h⟩ := (hrs id _ hlk).1
    rw [hρ] at hρ'
    cases hρ'
    rcases h with ⟨h, _⟩ | ⟨b', off', C, tt', hA, hg, hh, hsz, hels⟩
    ·cases h
    cases hA
    obtain ⟨hlen, hp⟩ := packEach_sound (fun l cs x r ids lent t => pack_sound (fun id R h => (hrs id R h).1) T' pF l cs x r ids lent t) css (fun k => cellsAt C (o + k * T'.size) T'.size) 0 ys [] [] _ (fun k l hk => by rw [Nat.zero_add]; exact MtEls.get hels hk) hpk
    obtain ⟨mm, hmm, htr⟩ := hp List.nodup_nil
    have hy : ys[i]? = some (ys.getD i T'.dflt) := by rw [List.getD_eq_getElem?_getD, List.getElem?_eq_getElem hi]; rfl
    have h4 := htr G w default [] ⟨.refl G w, fun b i q pos _ hp => absurd ((hmm i).1 (by rw [hp]; simp)) (by simp), fun b i q _ hi => absurd hi (by simp)⟩ i _ hy
    simp only [Nat.zero_add] at h4
    have hle : (i + 1) * T'.size ≤ c * T'.size := Nat.mul_le_mul_right _ (by omega)
    rw [Nat.succ_mul] at hle
    exact fin (load_block (te := ⟨t1, T', ag, nf, el, by_, fts⟩) T hte hh (by simp only; omega) h1 (by rw [Nat.add_zero]; exact atomsOf_sound _ _ _ _ _ _ (noO_p _) h4) hs)
   ·exact exec_fail hx
  ·
   rename_i l hlk
   replace ⟨hE, hx⟩ := condR hx
   simp only [Bool.and_eq_true] at hE
   have e1 := Nat.eq_of_beq_eq_true hE.1
   have e2 := Nat.eq_of_beq_eq_true hE.2.1
   have e3 := Ty.eq_of_beq hE.2.2
   subst e1
   subst e2
   subst e3
   split at hx
   ·obtain ⟨rfl, rfl⟩ := exec_ok hx
    have hi : i < l.length := hv _ List.mem_cons_self
    obtain ⟨b', C, tt', fz, c', hρ', h2, h3, h4, h5, h6, h7, h8⟩ := (hrs id _ hlk).1
    rw [hρ] at hρ'
    cases hρ'
    have hg : l[i]? = some (l.getD i 0) := by rw [List.getD_eq_getElem?_getD, List.getElem?_eq_getElem hi]; rfl
    obtain ⟨h9, h10⟩ := h8 i _ hg
    have hc1 : cellsAt C (0 + i * 1 + 0) 1 = [.int .u8 (l.getD i 0)] := by
     unfold cellsAt
     have h11 : i < C.toList.length := by rw [Array.length_toList]; omega
     rw [show 0 + i * 1 + 0 = i by omega, List.drop_eq_getElem_cons h11]
     have h12 : C.toList[i]? = some (.int .u8 (l.getD i 0)) := by rw [Array.getElem?_toList]; exact h9
     rw [List.getElem?_eq_getElem h11] at h12
     rw [Option.some.inj h12]
     rfl
    exact fin (load_block (lk := lk) (te := ⟨t1, .int .u8, false, nf, el, by_, fts⟩) (tr := []) T hte h5 (by simp only [Ty.size]; omega) h1 (l := [.d (.int .u8) pF (l.getD i 0)]) (.one ⟨rfl, hc1, h10⟩) rfl)
   ·exact exec_fail hx
  ·exact exec_fail hx
 ·exact exec_fail hx
theorem Chg.wk {old' chg : Id → Prop} {G' : Gh} {w' : World} (h : Chg (fun _ => True) chg G G' w w') : Chg old' chg G G' w w' :=
 ⟨fun id _ => h.rho id trivial, h.pb, h.own, h.no, h.bnd, h.one, h.os, h.tape, h.output, h.size, h.out⟩
theorem over_size {C : Array Value} {o : Nat} {vs : List Value} (h : o + vs.length ≤ C.size) : (over C o vs).size = C.size := by
 simp [over]; omega
theorem over_get {C : Array Value} {o : Nat} {vs : List Value} (h : o + vs.length ≤ C.size) (k : Nat) : (over C o vs)[k]? = if k < o then C[k]? else if k < o + vs.length then vs[k - o]? else C[k]? := by
 have hl : (C.toList.take o).length = o := by rw [List.length_take, Array.length_toList]; omega
 simp only [over, List.getElem?_toArray]
 split
 ·rename_i h1
  rw [List.append_assoc, List.getElem?_append_left (by omega), List.getElem?_take_of_lt h1, Array.getElem?_toList]
 ·split
  ·rw [List.append_assoc, List.getElem?_append_right (by omega), hl, List.getElem?_append_left (by omega)]
  ·rw [List.getElem?_append_right (by rw [List.length_append]; omega), List.length_append, hl, List.getElem?_drop, Array.getElem?_toList]
   congr 1
   omega
theorem cellsAt_get? (C : Array Value) (o n k : Nat) : (cellsAt C o n)[k]? = if k < n then C[o + k]? else none := by
 unfold cellsAt
 rw [List.getElem?_take]
 split
 ·rw [List.getElem?_drop, Array.getElem?_toList]
 ·rfl
theorem cellsAt_over_out {C : Array Value} {o : Nat} {vs : List Value} (h : o + vs.length ≤ C.size) {o' n' : Nat} (hd : o' + n' ≤ o ∨ o + vs.length ≤ o') : cellsAt (over C o vs) o' n' = cellsAt C o' n' := by
 refine List.ext_getElem? fun k => ?_
 rw [cellsAt_get?, cellsAt_get?]
 split
 ·rw [over_get h]
  split
  ·rfl
  ·rw [if_neg (by omega)]
 ·rfl
theorem cellsAt_over_in {C : Array Value} {o off n : Nat} {vs : List Value} (hn : off + vs.length ≤ n) (h : o + n ≤ C.size) : cellsAt (over C (o + off) vs) o n = (cellsAt C o n).take off ++ vs ++ (cellsAt C o n).drop (off + vs.length) := by
 have hl : ((cellsAt C o n).take off).length = off := by rw [List.length_take, cellsAt_len h]; omega
 refine List.ext_getElem? fun k => ?_
 rw [cellsAt_get?]
 split
 ·rename_i hk
  rw [over_get (by omega)]
  split
  ·rw [List.append_assoc, List.getElem?_append_left (by omega), List.getElem?_take_of_lt (by omega), cellsAt_get?, if_pos hk]
  ·split
   ·rw [List.append_assoc, List.getElem?_append_right (by omega), hl, List.getElem?_append_left (by omega)]
    congr 1
    omega
   ·rw [List.getElem?_append_right (by rw [List.length_append]; omega), List.length_append, hl, List.getElem?_drop, cellsAt_get?, if_pos (by omega)]
    congr 1
    omega
 ·rw [List.getElem?_append_right (by rw [List.length_append]; omega), List.length_append, hl, List.getElem?_drop, cellsAt_get?, if_neg (by omega)]
theorem over_toList {C : Array Value} {o : Nat} {vs : List Value} : (over C o vs).toList = C.toList.take o ++ vs ++ C.toList.drop (o + vs.length) := by simp [over]
theorem partSet_base {T T' : Ty} {F F' : Fl} {id : Id} {p : List Nat} {cs ds : List Value} {x z : T.den} {q : T'.den} {off : Nat} (h : Tr G w T F id p cs x)
  (hz : (bif Nat.beq off 0 && Ty.beq T T' then some (tcast T' T q) else none) = some z) (hF : (bif Nat.beq off 0 && Ty.beq T T' then some F else none) = some F') (hq : Tr G w T' F' id p ds q) :
  Tr G w T F id p (cs.take off ++ ds ++ cs.drop (off + ds.length)) z := by
 cases hc : (Nat.beq off 0 && Ty.beq T T') with
 | false => rw [hc] at hz; cases hz
 | true =>
  rw [hc] at hz hF
  simp only [cond_true, Option.some.injEq] at hz hF
  simp only [Bool.and_eq_true] at hc
  have h0 := Nat.eq_of_beq_eq_true hc.1
  have hT := Ty.eq_of_beq hc.2
  subst h0; subst hT; subst hF
  rw [tcast_self] at hz
  subst hz
  rw [List.take_zero, List.nil_append, List.drop_of_length_le (by rw [h.len, hq.len]; omega), List.append_nil]
  exact hq
theorem partFl_in : ∀ {T : Ty} {F : Fl} {off : Nat} {T' : Ty} {F' : Fl}, partFl T F off T' = some F' → off + T'.size ≤ T.size := by
 have base : ∀ {T : Ty} {F : Fl} {off : Nat} {T' : Ty} {F' : Fl}, (bif Nat.beq off 0 && Ty.beq T T' then some F else none) = some F' → off + T'.size ≤ T.size := by
  intro T F off T' F' hF
  cases hc : (Nat.beq off 0 && Ty.beq T T') with
  | true =>
   simp only [Bool.and_eq_true] at hc
   have h0 := Nat.eq_of_beq_eq_true hc.1
   have hT := Ty.eq_of_beq hc.2
   subst h0; subst hT
   omega
  | false => rw [hc] at hF; cases hF
 intro T
 induction T with
 | pr a b iha ihb =>
  intro F off T' F' hF
  simp only [partFl] at hF
  cases hc : (Nat.beq off 0 && Ty.beq (.pr a b) T') with
  | true => exact base (T := .pr a b) (F := F) (by rw [hc]; rw [hc] at hF; exact hF)
  | false =>
   rw [hc] at hF
   simp only [cond_false] at hF
   cases hlt : Nat.blt off a.size with
   | true => rw [hlt] at hF; have := iha hF; simp only [Ty.size]; omega
   | false =>
    rw [hlt] at hF
    have := ihb hF
    have hge : a.size ≤ off := by
     rcases Nat.lt_or_ge off a.size with h | h
     ·rw [show Nat.blt off a.size = true from by rw [Nat.blt_eq]; exact h] at hlt; cases hlt
     ·exact h
    simp only [Ty.size]; omega
 | _ => intro F off T' F' hF; exact base hF
theorem partSet_sound : ∀ (T : Ty) (F : Fl) (id : Id) (p : List Nat) (cs ds : List Value) (x z : T.den) (off : Nat) (T' : Ty) (q : T'.den) (F' : Fl), Tr G w T F id p cs x → partSet T x off T' q = some z → partFl T F off T' = some F' →
  (∀ id p, Tr G w T' F' id p ds q) → off + ds.length ≤ T.size → Tr G w T F id p (cs.take off ++ ds ++ cs.drop (off + ds.length)) z := by
 intro T
 induction T with
 | pr a b iha ihb =>
  intro F id p cs ds x z off T' q F' h hz hF hq hin
  simp only [partSet, partFl] at hz hF
  cases hc : (Nat.beq off 0 && Ty.beq (.pr a b) T') with
  | true => rw [hc] at hz hF; exact partSet_base h (by rw [hc]; exact hz) (by rw [hc]; exact hF) (hq id p)
  | false =>
   rw [hc] at hz hF
   simp only [cond_false] at hz hF
   obtain ⟨c1, c2, rfl, h1, h2⟩ := h
   have hl := h1.len
   cases hlt : Nat.blt off a.size with
   | true =>
    rw [hlt] at hz hF
    simp only [cond_true] at hz hF
    split at hz
    ·rename_i z1 hz1
     cases hz
     have hds : off + ds.length ≤ a.size := by
      rw [(hq id p).len]
      exact partFl_in hF
     have h3 := iha _ _ _ _ _ _ _ _ _ _ _ h1 hz1 hF hq hds
     refine ⟨_, c2, ?_, h3, h2⟩
     rw [List.take_append_of_le_length (by omega), List.drop_append_of_le_length (by omega), List.append_assoc, List.append_assoc, List.append_assoc]
    ·cases hz
   | false =>
    rw [hlt] at hz hF
    simp only [cond_false] at hz hF
    have hge : a.size ≤ off := by
     rcases Nat.lt_or_ge off a.size with h | h
     ·rw [show Nat.blt off a.size = true from by rw [Nat.blt_eq]; exact h] at hlt; cases hlt
     ·exact h
    split at hz
    ·rename_i z1 hz1
     cases hz
     have h3 := ihb _ _ _ _ _ _ _ _ _ _ _ h2 hz1 hF hq (by simp only [Ty.size] at hin; omega)
     refine ⟨c1, _, ?_, h1, h3⟩
     rw [List.take_append, List.take_of_length_le (by omega), hl, List.drop_append, List.drop_of_length_le (by omega), List.nil_append, hl, List.append_assoc, List.append_assoc, List.append_assoc]
     congr 4
     omega
    ·cases hz
 | int k => intro F id p cs ds x z off T' q F' h hz hF hq _; exact partSet_base h hz hF (hq id p)
 | bool => intro F id p cs ds x z off T' q F' h hz hF hq _; exact partSet_base h hz hF (hq id p)
 | pt => intro F id p cs ds x z off T' q F' h hz hF hq _; exact partSet_base h hz hF (hq id p)
 | er => intro F id p cs ds x z off T' q F' h hz hF hq _; exact partSet_base h hz hF (hq id p)
 | str => intro F id p cs ds x z off T' q F' h hz hF hq _; exact partSet_base h hz hF (hq id p)
 | sl e ih => intro F id p cs ds x z off T' q F' h hz hF hq _; exact partSet_base h hz hF (hq id p)
 | arr n e ih => intro F id p cs ds x z off T' q F' h hz hF hq _; exact partSet_base h hz hF (hq id p)
theorem idsL_append (l m : List At) : idsL (l ++ m) = idsL l ++ idsL m := by
 induction l with
 | nil => rfl
 | cons a r ih => simp only [List.cons_append, idsL, ih, List.append_assoc]
theorem fitsT_spec {t0 : TypeId} {ag' : Bool} {l : List At} (h : fitsT tt t0 (.v ag' l) = true) : ∃ te, ttOf tt t0 = some te ∧ te.T.size = sizeL l := by
 unfold fitsT at h
 split at h
 ·rename_i t1 T0 ag nf el by_ fts ag2 l2 hte hy
  cases hy
  simp only [Bool.and_eq_true] at h
  exact ⟨_, hte, Nat.eq_of_beq_eq_true h.2⟩
 ·cases h
theorem openOf_ids : ∀ {T : Ty} {F : Fl} {x : T.den} {n : Id} {j : Id} {R : Option Res}, (j, R) ∈ (openOf T F x n).2 → ∃ k, j = n.plus k := by
 intro T
 induction T with
 | pr a b iha ihb =>
  intro F x n j R h
  simp only [openOf, List.mem_append] at h
  rcases h with h | h
  ·exact iha h
  ·obtain ⟨k, rfl⟩ := ihb h
   exact ⟨_, Id.plus_plus n _ _⟩
 | sl e ih =>
  intro F x n j R h
  simp only [openOf] at h
  split at h
  ·simp only [List.mem_singleton, Prod.mk.injEq] at h
   exact ⟨0, h.1⟩
  ·cases h
 | _ => intro F x n j R h; cases h
theorem store_slo (hb : ∀ b, G.g b ≠ .no → b < w.heap.size) {id : Id} {e : Ty} {f : Fl} {y : List e.den} {i off : Nat} {cs l cs' : List At} {ds : List Value} (hR : ResOk G w id (.slo e f y i cs)) (m : MtL G w l ds) (hp : putA cs off l = some cs') :
  ∃ b o n c C t, G.ρ id = .slice (some ⟨b, o, none⟩) n c ∧ w.heap[b]? = some (.cells C t (0, 0)) ∧ o + i * e.size + off + ds.length ≤ C.size ∧
   Chg old (fun j => j = id) G G w (w.setRow b (over C (o + i * e.size + off) ds)) ∧ ResOk G (w.setRow b (over C (o + i * e.size + off) ds)) id (.slo e f y i cs') := by
 obtain ⟨b, o, C, t, n, c, hρ, h2, h3, h4, h5, h6, h7, h8, h9, h10⟩ := hR
 obtain ⟨h11, h12⟩ := putA_sound h10 m hp
 have hle : (i + 1) * e.size ≤ c * e.size := Nat.mul_le_mul_right _ (by omega)
 rw [Nat.succ_mul] at hle
 rw [cellsAt_len (by omega)] at h11
 have hc : ∀ {old : Id → Prop}, Chg old (fun j => j = id) G G w (w.setRow b (over C (o + i * e.size + off) ds)) := .setRow (chg := fun j => j = id) hb h6 rfl _
 have hsz := over_size (C := C) (o := o + i * e.size + off) (vs := ds) (by omega)
 refine ⟨b, o, n, c, C, t, hρ, h7, by omega, hc, b, o, _, t, n, c, hρ, h2, h3, h4, h5, h6, setRow_heap w b _ _ t _ h7, by rw [hsz]; exact h8, fun k z hk hz => ?_, ?_⟩
 ·have hkn : k < y.length := (List.getElem?_eq_some_iff.1 hz).1
  have h13 := h9 k z hk hz
  rw [cellsAt_over_out (by omega)]
  ·refine Tr.mono (hc (old := old)).pb (fun b' q hq => ⟨hq, setRow_other w b b' _ (fun e' => ?_)⟩) h13
   rw [e', h6] at hq
   cases hq
  ·rcases Nat.lt_or_gt_of_ne hk with hlt | hgt
   ·have : (k + 1) * e.size ≤ i * e.size := Nat.mul_le_mul_right _ (by omega)
    rw [Nat.succ_mul] at this
    omega
   ·have : (i + 1) * e.size ≤ k * e.size := Nat.mul_le_mul_right _ (by omega)
    rw [Nat.succ_mul] at this
    omega
 ·rw [cellsAt_over_in (by omega) (by omega)]
  exact h12.keep (old := fun _ => True) hc (fun _ _ => trivial)
theorem run_store_byte (T : TtOk P tt) {t : TypeId} {te : TE} (h : ttOf tt t = some te) {b i : Nat} {C : Array Value} {t' : TypeId} {fz : Nat × Nat} {u x : Value} (hh : w.heap[b]? = some (.cells C t' fz)) (hi : i < C.size) (hf : i < fz.1)
  (h1 : x.oneCell' = true) (hu : u.cells.toList = [x]) (hs : te.T.size = 1) : (Instr.storeAt t (.pointer (some ⟨b, i, none⟩)) u).run P w = .ok () (w.setRow b (C.setIfInBounds i x)) := by
 have hcell : w.cell? ⟨b, i, none⟩ = some C[i] := by simp [World.cell?, hh, hi]
 have hfro : w.frozen? ⟨b, i, none⟩ = false := by
  obtain ⟨lo, hi'⟩ := fz
  simp only [World.frozen?, hh, Bool.and_eq_false_iff, decide_eq_false_iff_not]
  left
  simp only at hf
  omega
 have hadd : (⟨b, i, none⟩ : Addr).add 0 = ⟨b, i, none⟩ := by simp [Addr.add]
 have hst : (storeCells ⟨b, i, none⟩ u.cells.toList 0).run P w = .ok () (w.setRow b (C.setIfInBounds i x)) := by
  rw [hu]
  simp only [storeCells]
  rw [Sem.run_bind, hadd, run_store P w _ x _ h1, hcell]
  simp [hfro, setCell_eq_setRow w b i C t' fz x hh]
 have hz : u.cells.size = te.T.size := by rw [hs, ← Array.length_toList, hu]; rfl
 unfold Instr.storeAt Instr.sureAddr storeVar
 simp [run_size_at T h, hz, hst]
include T hb h1 in
theorem does_store {t0 : TypeId} {idb : Id} {x y : SV} {v u : Value} {e : Eff} {t : List Id} (hfr : ∀ k, ¬ old (idb.plus k)) (hrs : ∀ id R, lk id = some R → ResOk G w id R ∧ old id ∧ ∀ j ∈ R.ids, old j)
  (hyo : ∀ j ∈ y.ids, old j) (hf : fitsT tt t0 y = true) (hx : (sStore idb x y).exec lk = some (e, t)) (hv : ∀ p ∈ e.vc, p) (m : MtS G w x v) (my : MtS G w y u) : Does P old G w (do Instr.storeAt t0 v u; pure .skip) e := by
 have fin : ∀ {b o : Nat} {C : Array Value} {t' : TypeId} {ag' : Bool} {l : List At} {G' : Gh}, y = .v ag' l → v = .pointer (some ⟨b, o, none⟩) → w.heap[b]? = some (.cells C t' (0, 0)) → o + u.cells.toList.length ≤ C.size →
   (Instr.storeAt t0 v u).run P w = .ok () (w.setRow b (over C o u.cells.toList)) := by
  rintro b o C t' ag' l G' rfl rfl hh hs
  obtain ⟨te, hte, hsz⟩ := fitsT_spec hf
  have hm := MtV.cells my
  have hl := hm.len
  exact run_store_at T hte hh (by omega) (by omega) (hm.one' h1)
 unfold sStore at hx
 split at hx
 ·
  rename_i id off ag l
  replace ⟨t', hx, _⟩ := exec_need hx
  have hm := MtV.cells my
  split at hx
  ·rename_i cs hlk
   split at hx
   ·rename_i cs' hcs
    obtain ⟨rfl, rfl⟩ := exec_ok hx
    obtain ⟨b, C, tt', hρ, hg, hh, hmc⟩ := (hrs id _ hlk).1
    obtain ⟨b', hρ', hv'⟩ := m.at1.2
    rw [hρ] at hρ'
    cases hρ'
    simp only [List.cons.injEq, and_true] at hv'
    obtain ⟨h3, h4⟩ := putA_sound hmc hm hcs
    have hrun := fin (G' := G) rfl hv' hh (by simpa using h3)
    have hc : ∀ {old : Id → Prop}, Chg old (fun j => j = id) G G w (w.setRow b (over C off u.cells.toList)) := .setRow (chg := fun j => j = id) hb hg rfl _
    refine ⟨_, undef, _, G, by simp [hrun], .inr ⟨rfl, rfl, rfl⟩, hc.le (fun j hj => by simp [hj]), trivial, fun j R hj => ?_⟩
    simp only [List.mem_singleton, Prod.mk.injEq, Option.some.injEq] at hj
    obtain ⟨rfl, rfl⟩ := hj
    exact ⟨b, _, tt', hρ, hg, setRow_heap w b _ _ tt' _ hh, by rw [over_toList]; exact h4.keep (old := fun _ => True) hc (fun _ _ => trivial)⟩
   ·exact exec_fail hx
  ·exact exec_fail hx
 ·
  rename_i id i sz off T' ag l
  replace ⟨t', hx, _⟩ := exec_need hx
  have hm := MtV.cells my
  obtain ⟨b, o, n, c, hρ, hv'⟩ := m.at1.2
  simp only [List.cons.injEq, and_true] at hv'
  split at hx
  ·rename_i e' f z hlk
   replace ⟨hsz, hx⟩ := condR hx
   have hsz := Nat.eq_of_beq_eq_true hsz
   subst hsz
   obtain ⟨hR, hold, _⟩ := hrs id _ hlk
   split at hx
   ·exact exec_fail hx
   rename_i F hF
   split at hx
   ·
    rename_i hO
    replace ⟨pk, t1', t2', hpk, hx, _⟩ := exec_bind hx
    split at hx
    ·rename_i q
     split at hx
     ·rename_i z' hz
      obtain ⟨rfl, rfl⟩ := exec_ok hx
      have hi : i < z.length := hv _ List.mem_cons_self
      obtain ⟨c1, c2, hds, hc1, hc2, hpacks⟩ := pack_sound (fun id R h => (hrs id R h).1) _ _ _ _ _ _ _ _ _ hm hpk
      rw [show c2 = [] from hc2, List.append_nil] at hds
      subst hds
      obtain ⟨mm, hmm, htr⟩ := hpacks List.nodup_nil
      obtain ⟨A, n', c', hcs, hn, hc, hml, hwf, h⟩ := hR
      rw [hρ] at hcs
      simp only [List.cons.injEq, Value.slice.injEq, and_true] at hcs
      obtain ⟨rfl, rfl, rfl⟩ := hcs
      rcases h with ⟨h, _⟩ | ⟨b', off', C, tt', fz, hA, hl, hh, hs', hw, hj⟩
      ·cases h rfl
      simp only [Option.some.injEq, Addr.mk.injEq, and_true] at hA
      obtain ⟨rfl, rfl⟩ := hA
      have hy : (z : List e'.den)[i]? = some (z.getD i e'.dflt) := by rw [List.getD_eq_getElem?_getD, List.getElem?_eq_getElem hi]; rfl
      have hel := hj i _ hy
      obtain ⟨rfl, hs''⟩ := hw rfl
      have hle : (i + 1) * e'.size ≤ n * e'.size := Nat.mul_le_mul_right _ (by omega)
      rw [Nat.succ_mul] at hle
      have hpf := partFl_in hF
      have hrun := fin (G' := G) rfl hv' hh (by omega)
      have hchg : ∀ {old : Id → Prop}, Chg old (fun j => j = id) G G w (w.setRow b (over C (o + i * e'.size + off) u.cells.toList)) := .setRow (chg := fun j => j = id) hb hl rfl _
      refine ⟨_, undef, _, G, by simp [hrun], .inr ⟨rfl, rfl, rfl⟩, hchg.le (fun j hj => by simp [hj]), trivial, fun j R hj' => ?_⟩
      simp only [List.mem_singleton, Prod.mk.injEq, Option.some.injEq] at hj'
      obtain ⟨rfl, rfl⟩ := hj'
      have hov : o + i * e'.size + off + u.cells.toList.length ≤ C.size := by omega
      have oth : ∀ {b' : Nat} {k : Nat} {q : List Nat}, G.g b' = .own j (([] ++ [k]) ++ q) → (w.setRow b (over C (o + i * e'.size + off) u.cells.toList)).heap[b']? = w.heap[b']? := fun {b' k q} hq => setRow_other w b b' _ (fun e0 => by
       rw [e0, show G.g b = .own j [] from hl] at hq
       simp at hq)
      refine ⟨_, n, c, by rw [hρ], by rw [List.length_set]; exact hn, hc, hml, hwf, .inr ⟨b, o, _, tt', (0, 0), rfl, hl, setRow_heap w b _ _ tt' _ hh, by rw [over_size hov]; exact hs', fun _ => ⟨rfl, by rw [over_size hov]; exact hs''⟩, fun k zk hk => ?_⟩⟩
      have hk' : (z.set i z')[k]? = some zk := hk
      rw [List.getElem?_set] at hk'
      split at hk'
      ·rename_i hik
       subst hik
       cases hk'
       rw [cellsAt_over_in (by omega) (by omega)]
       refine partSet_sound _ _ _ _ _ _ _ _ _ _ _ _ (Tr.mono (hchg (old := old)).pb (fun b' q hq => ⟨hq, oth hq⟩) hel) hz hF (fun id' p' => ?_) (by omega)
       exact htr G _ id' p' ⟨(hchg (old := old)).pb, fun b' i' q' pos _ hm' => absurd ((hmm i').1 (by rw [hm']; simp)) (by simp), fun b' i' q' _ hm' => absurd hm' (by simp)⟩
      ·rename_i hik
       rw [cellsAt_over_out hov]
       ·exact Tr.mono (hchg (old := old)).pb (fun b' q hq => ⟨hq, oth hq⟩) (hj k zk hk')
       ·rcases Nat.lt_or_gt_of_ne hik with hlt | hgt
        ·have : (i + 1) * e'.size ≤ k * e'.size := Nat.mul_le_mul_right _ (by omega)
         rw [Nat.succ_mul] at this
         omega
        ·have : (k + 1) * e'.size ≤ i * e'.size := Nat.mul_le_mul_right _ (by omega)
         rw [Nat.succ_mul] at this
         omega
     ·exact exec_fail hx
    ·exact exec_fail hx
   ·
    cases hop : openOf e' f (z.getD i e'.dflt) idb with
    | mk cs us =>
    rw [hop] at hx
    simp only at hx
    split at hx
    ·rename_i cs' hcs
     obtain ⟨rfl, rfl⟩ := exec_ok hx
     have hi : i < z.length := hv _ List.mem_cons_self
     obtain ⟨G', hc, hR', hus⟩ := lay_open hb hi hold hfr hR hop h1
     have hm' : MtL G' w l u.cells.toList := hm.keep hc hyo
     obtain ⟨b', o', n', c', C, tt', hρ', hh, hin, hchg, hR''⟩ := store_slo (old := fun _ => True) hc.bnd hR' hm' hcs
     have hρ2 := hc.rho id hold
     rw [hρ', hρ] at hρ2
     cases hρ2
     have hrun := fin (G' := G) rfl hv' hh hin
     refine ⟨_, undef, _, G', by simp [hrun], .inr ⟨rfl, rfl, rfl⟩, ((hc.trans (Chg.wk hchg))).le (fun j hj => by simp [hj]), trivial, fun j R hj => ?_⟩
     rcases List.mem_cons.1 hj with hj | hj
     ·cases hj
      exact hR''
     ·exact (hus j R hj).keep hchg trivial (fun _ _ => trivial) (fun hji => by
       obtain ⟨k, rfl⟩ := openOf_ids (show (j, some R) ∈ (openOf e' f (z.getD i e'.dflt) idb).2 by rw [hop]; exact hj)
       exact hfr k (hji ▸ hold))
    ·exact exec_fail hx
  ·rename_i e' f z j cs hlk
   replace ⟨hsz, hx⟩ := condR hx
   have hsz := Nat.eq_of_beq_eq_true hsz
   subst hsz
   split at hx
   ·rename_i cs' hcs
    obtain ⟨rfl, rfl⟩ := exec_ok hx
    have hi : i = j := hv _ List.mem_cons_self
    subst hi
    obtain ⟨b', o', n', c', C, tt', hρ', hh, hin, hchg, hR''⟩ := store_slo (old := fun _ => True) hb (hrs id _ hlk).1 hm hcs
    rw [hρ] at hρ'
    cases hρ'
    have hrun := fin (G' := G) rfl hv' hh hin
    refine ⟨_, undef, _, G, by simp [hrun], .inr ⟨rfl, rfl, rfl⟩, (Chg.wk hchg).le (fun j hj => by simp [hj]), trivial, fun j R hj => ?_⟩
    simp only [List.mem_singleton, Prod.mk.injEq, Option.some.injEq] at hj
    obtain ⟨rfl, rfl⟩ := hj
    exact hR''
   ·exact exec_fail hx
  ·
   rename_i z hlk
   replace ⟨hE, hx⟩ := condR hx
   simp only [Bool.and_eq_true] at hE
   have e1 := Nat.eq_of_beq_eq_true hE.1
   have e2 := Nat.eq_of_beq_eq_true hE.2
   subst e1
   subst e2
   split at hx
   ·rename_i F' x
    obtain ⟨rfl, rfl⟩ := exec_ok hx
    have hi : i < z.length := hv _ List.mem_cons_self
    obtain ⟨b', C, tt', fz, c', hρ', h2, h3, h4, h5, h6, h7, h8⟩ := (hrs id _ hlk).1
    have hρ0 := hρ
    rw [hρ] at hρ'
    cases hρ'
    subst hv'
    obtain ⟨te, hte, hsz⟩ := fitsT_spec hf
    obtain ⟨c1, c2, hcs, ⟨_, hx1, hx2⟩, hc2⟩ := hm
    have hu : u.cells.toList = [.int .u8 x] := by rw [hcs, hx1, show c2 = [] from hc2]; rfl
    have hrun : (Instr.storeAt t0 (.pointer (some ⟨b, 0 + i * 1 + 0, none⟩)) u).run P w = .ok () (w.setRow b (C.setIfInBounds i (.int .u8 x))) := by
     have e0 : 0 + i * 1 + 0 = i := by omega
     rw [e0]
     exact run_store_byte T hte h5 (by omega) (by omega) rfl hu (by rw [hsz]; rfl)
    have hchg : ∀ {old : Id → Prop}, Chg old (fun j => j = id) G G w (w.setRow b (C.setIfInBounds i (.int .u8 x))) := .setRow (chg := fun j => j = id) hb h4 rfl _
    refine ⟨_, undef, _, G, by rw [Sem.run_bind, hrun]; rfl, .inr ⟨rfl, rfl, rfl⟩, hchg.le (fun j hj => by simp [hj]), trivial, fun j R hj => ?_⟩
    simp only [List.mem_singleton, Prod.mk.injEq, Option.some.injEq] at hj
    obtain ⟨rfl, rfl⟩ := hj
    refine ⟨b, _, tt', fz, c, by rw [hρ0, List.length_set], by rw [List.length_set]; exact h2, by rw [List.length_set]; exact h3, h4, setRow_heap w b _ _ tt' _ h5, by rw [List.length_set]; exact h6, by rw [List.length_set, Array.size_setIfInBounds]; exact h7, fun k y hy => ?_⟩
    rw [List.getElem?_set] at hy
    rw [Array.getElem?_setIfInBounds]
    split at hy
    ·rename_i hik
     subst hik
     cases hy
     exact ⟨by rw [if_pos rfl, if_pos (by omega)], hx2⟩
    ·rename_i hik
     rw [if_neg hik]
     exact h8 k y hy
   ·exact exec_fail hx
  ·exact exec_fail hx
 ·exact exec_fail hx
end
end Go.Sx
