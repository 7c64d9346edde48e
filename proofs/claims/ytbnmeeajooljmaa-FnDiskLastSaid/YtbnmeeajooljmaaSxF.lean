/- Symbolic execution, part F: the operations that turn nothing do what the effect says. -/
import Derived.Test.YtbnmeeajooljmaaSxE
import Derived.Laws.Small
import Derived.Laws.Concat
set_option linter.all false
namespace Go.Sx
open Go Go.RowKit

/-- What an operation does, in the world w, is the effect e. -/
def Does (P : Program) (old : Id → Prop) (G : Gh) (w : World) (s : Sem Next) (e : Eff) : Prop :=
  ∃ n v w' G', s.run P w = .ok n w' ∧ (n = .value v ∨ (n = .skip ∧ v = undef ∧ e.dst = .junk)) ∧ Chg old (fun id => id ∈ e.upd.map (·.1)) G G' w w' ∧ MtS G' w' e.dst v ∧
    ∀ id R, (id, some R) ∈ e.upd → ResOk G' w' id R
theorem Chg.refl {old chg : Id → Prop} {G : Gh} {w : World} (hb : ∀ b, G.g b ≠ .no → b < w.heap.size) : Chg old chg G G w w :=
  ⟨fun _ _ => rfl, .refl G w, fun _ _ _ h _ => ⟨h, rfl⟩, fun b _ h => ⟨rfl, h⟩, hb, fun h => h, rfl, rfl, rfl, Nat.le_refl _⟩
/-- an operation that turns nothing -/
theorem Does.pure {P : Program} {old : Id → Prop} {G : Gh} {w : World} {s : Sem Next} {sv : SV} {vc : List Prop} {v : Value} (hb : ∀ b, G.g b ≠ .no → b < w.heap.size)
    (h : s.run P w = .ok (.value v) w) (m : MtS G w sv v) : Does P old G w s ⟨sv, [], vc⟩ :=
  ⟨_, v, w, G, h, .inl rfl, .refl hb, m, fun _ _ h => by cases h⟩

section
variable {P : Program} {old : Id → Prop} {G : Gh} {w : World}
/-- the values of single atoms -/
theorem MtS.at1 {a : At} {v : Value} (h : MtS G w (.v false [a]) v) : v.oneCell' = true ∧ MtA G w a [v] := ⟨h.1, h.2.one_inv⟩
theorem MtS.of1 {a : At} {v : Value} (h1 : v.oneCell' = true) (h : MtA G w a [v]) : MtS G w (.v false [a]) v := ⟨h1, .one h⟩
theorem MtS.int {k : IntKind} {F : Fl} {n : Int} {v : Value} (h : MtS G w (.v false [.d (.int k) F n]) v) : v = .int k n ∧ inR k n := by
  have := h.at1.2.2
  exact ⟨by simpa using this.1, this.2⟩
theorem MtS.ofInt {k : IntKind} {n : Int} (h : inR k n) : MtS G w (sInt k n) (.int k n) := .of1 rfl ⟨rfl, rfl, h⟩
theorem MtS.boolV {F : Fl} {b : Bool} {v : Value} (h : MtS G w (.v false [.d .bool F b]) v) : v = .bool b := by
  have := h.at1.2.2
  simpa using (show [v] = [Value.bool b] from this)
theorem MtS.ofBool {b : Bool} : MtS G w (sBool b) (.bool b) := .of1 rfl ⟨rfl, rfl⟩
theorem MtS.kb {b : Bool} {v : Value} (h : MtS G w (.v false [.kb b]) v) : v = .bool b := by simpa using (show [v] = [Value.bool b] from h.at1.2)
theorem MtS.ofKb {b : Bool} : MtS G w (.v false [.kb b]) (.bool b) := .of1 rfl rfl
theorem MtS.str {F : Fl} {s : Str} {v : Value} (h : MtS G w (.v false [.d .str F s]) v) : v = .string (mkS s) ∧ s.length ≤ maxL := by
  have := h.at1.2.2
  exact ⟨by simpa using this.1, this.2⟩
theorem MtS.ofStr {s : Str} (h : s.length ≤ maxL) : MtS G w (sStr s) (.string (mkS s)) := .of1 rfl ⟨rfl, rfl, h⟩
theorem MtS.asB {s : SV} {b : Bool} {v : Value} (hs : asB s = some b) (h : MtS G w s v) : v = .bool b := by
  unfold Sx.asB at hs
  split at hs
  · cases hs; exact h.boolV
  · cases hs; exact h.kb
  · cases hs
theorem exec_ok {α : Type} {lk : Id → Option Res} {a b : α} {t : List Id} (h : (Req.ok a).exec lk = some (b, t)) : a = b ∧ t = [] := by
  simp [Req.ok, Req.exec] at h; exact h
theorem exec_fail {α : Type} {lk : Id → Option Res} {b : α} {t : List Id} {Q : Prop} (h : (Req.fail : Req α).exec lk = some (b, t)) : Q := by
  simp [Req.fail, Req.exec] at h
theorem exec_need {α : Type} {lk : Id → Option Res} {i : Id} {k : Option Res → Req α} {b : α} {t : List Id} (h : (Req.need i k).exec lk = some (b, t)) : ∃ t', (k (lk i)).exec lk = some (b, t') ∧ t = i :: t' := by
  simp only [Req.exec] at h
  split at h
  · cases h
  · rename_i a t' h'; cases h; exact ⟨t', h', rfl⟩
theorem exec_bind {α β : Type} {lk : Id → Option Res} {f : α → Req β} {b : β} : ∀ {x : Req α} {t : List Id}, (x.bind f).exec lk = some (b, t) → ∃ a t1 t2, x.exec lk = some (a, t1) ∧ (f a).exec lk = some (b, t2) ∧ t = t1 ++ t2 := by
  intro x
  induction x with
  | ret o =>
    intro t h
    cases o with
    | none => exact exec_fail h
    | some a => exact ⟨a, [], t, rfl, h, rfl⟩
  | need i k ih =>
    intro t h
    obtain ⟨t', h', rfl⟩ := exec_need h
    obtain ⟨a, t1, t2, h1, h2, rfl⟩ := ih _ h'
    exact ⟨a, i :: t1, t2, by simp [Req.exec, h1], h2, rfl⟩
theorem mkS_inj {a b : Str} : mkS a = mkS b ↔ a = b := by
  constructor
  · intro h
    have := congrArg (fun x => x.data.toList) h
    simpa [mkS] using this
  · rintro rfl; rfl
end

/-! ### Arithmetic -/
section
variable {P : Program} {old : Id → Prop} {G : Gh} {w : World} {lk : Id → Option Res}
theorem wrap_in {k : IntKind} {n : Int} (h : inR k n) : k.wrap n = n := by
  obtain ⟨h1, h2⟩ := h
  cases k <;> simp [IntKind.min, IntKind.max, IntKind.signed, IntKind.bits] at h1 h2 <;> simp [IntKind.wrap, IntKind.signed, IntKind.bits] <;> omega
theorem wrap_inR (k : IntKind) (n : Int) : inR k (k.wrap n) := by
  cases k <;> simp [inR, IntKind.min, IntKind.max, IntKind.wrap, IntKind.signed, IntKind.bits] <;> omega
theorem fdiv_inR {k : IntKind} {a : Int} (h : inR k a) (n : Nat) : inR k (a.fdiv (2 ^ n)) := by
  have hd : (0 : Int) < 2 ^ n := Int.pow_pos (by decide)
  rw [Int.fdiv_eq_ediv_of_nonneg _ (Int.le_of_lt hd)]
  have h0 : k.min ≤ 0 ∧ 0 ≤ k.max := by cases k <;> simp [IntKind.min, IntKind.max, IntKind.signed, IntKind.bits]
  obtain ⟨h1, h2⟩ := h
  by_cases ha : 0 ≤ a
  · have := Int.ediv_le_self (2 ^ n) ha
    have := Int.ediv_nonneg ha (Int.le_of_lt hd)
    exact ⟨by omega, by omega⟩
  · have h3 : a ≤ a / 2 ^ n := by
      rw [Int.le_ediv_iff_mul_le hd]
      have h5 := Int.mul_nonneg (show 0 ≤ -a by omega) (show (0 : Int) ≤ 2 ^ n - 1 by omega)
      rw [Int.mul_sub, Int.neg_mul] at h5
      omega
    have h4 : a / 2 ^ n ≤ 0 := by
      have := Int.ediv_le_ediv hd (show a ≤ 0 by omega)
      simpa using this
    exact ⟨by omega, by omega⟩
theorem tmod_inR {k : IntKind} {a b : Int} (h : inR k a) : inR k (a.tmod b) := by
  have h0 : k.min ≤ 0 ∧ 0 ≤ k.max := by cases k <;> simp [IntKind.min, IntKind.max, IntKind.signed, IntKind.bits]
  obtain ⟨h1, h2⟩ := h
  by_cases ha : 0 ≤ a
  · have e1 := Int.tmod_nonneg b ha
    have e2 : a.tmod b ≤ a := by
      have := Int.natAbs_tmod a b
      have := Nat.mod_le a.natAbs b.natAbs
      omega
    exact ⟨by omega, by omega⟩
  · have e1 : (-a).tmod b = -(a.tmod b) := Int.neg_tmod a b
    have e3 := Int.tmod_nonneg b (show 0 ≤ -a by omega)
    have e2 : (-a).tmod b ≤ -a := by
      have := Int.natAbs_tmod (-a) b
      have := Nat.mod_le (-a).natAbs b.natAbs
      omega
    exact ⟨by omega, by omega⟩
theorem does_binI (hb : ∀ b, G.g b ≠ .no → b < w.heap.size) {op : BinOp} {xT : TypeId} {k k' : IntKind} {a b : Int} {e : Eff} {t : List Id} (ha : inR k a) (hb' : inR k' b)
    (hx : (sBinI op k k' a b).exec lk = some (e, t)) (hv : ∀ p ∈ e.vc, p) : Does P old G w (do pure (.value (← binOp op xT (.int k a) (.int k' b)))) e := by
  unfold sBinI at hx
  split at hx
  · obtain ⟨rfl, _⟩ := exec_ok hx
    have h0 : 0 ≤ b := hv _ (by simp)
    exact .pure hb (by simp [binOp, Op.shift, show ¬ b < 0 by omega]) (.ofInt (fdiv_inR ha _))
  · obtain ⟨rfl, _⟩ := exec_ok hx
    have h0 : 0 ≤ b := hv _ (by simp)
    have h1 : inR k (a * 2 ^ (min b.toNat k.bits)) := hv _ (by simp)
    exact .pure hb (by simp [binOp, Op.shift, show ¬ b < 0 by omega, wrap_in h1]) (.ofInt h1)
  · rename_i o hn1 hn2
    cases hk : Nat.beq (kindNo k) (kindNo k') with
    | false => rw [hk] at hx; exact exec_fail hx
    | true =>
      rw [hk] at hx
      have hkk := kindNo_inj (Nat.eq_of_beq_eq_true hk)
      subst hkk
      simp only [cond_true] at hx
      split at hx <;> first
        | exact exec_fail hx
        | (split at hx
           · obtain ⟨rfl, _⟩ := exec_ok hx
             have e : IntKind.wrap .u8 (a + b) = (a + b) % 256 := by simp [IntKind.wrap, IntKind.signed, IntKind.bits]
             exact .pure hb (by simp [binOp, Op.intArith, e]) (.ofInt (by rw [← e]; exact wrap_inR _ _))
           · obtain ⟨rfl, _⟩ := exec_ok hx
             have h1 : inR _ _ := hv _ List.mem_cons_self
             exact .pure hb (by simp [binOp, Op.intArith, wrap_in h1]) (.ofInt h1))
        | (obtain ⟨rfl, _⟩ := exec_ok hx; first
            | (have h1 : inR _ _ := hv _ List.mem_cons_self
               exact .pure hb (by simp [binOp, Op.intArith, wrap_in h1]) (.ofInt h1))
            | (have h1 : b ≠ 0 := hv _ List.mem_cons_self
               have h2 : inR _ _ := hv _ (List.mem_cons_of_mem _ List.mem_cons_self)
               exact .pure hb (by simp [binOp, Op.intDiv, h1, wrap_in h2]) (.ofInt h2))
            | (have h1 : b ≠ 0 := hv _ List.mem_cons_self
               exact .pure hb (by simp [binOp, Op.intDiv, h1]) (.ofInt (tmod_inR ha)))
            | exact .pure hb (by simp [binOp, Op.intBits, bitsOp]) (.ofInt (wrap_inR _ _))
            | exact .pure hb (by simp [binOp, Op.intCmp] <;> first | rfl | exact Bool.eq_iff_iff.2 (by simp)) .ofBool)

theorem mkS_toList (s : Str) : (mkS s).toList = s := by rw [ByteArray.toList_eq]; simp [mkS]
theorem mkS_size (s : Str) : (mkS s).size = s.length := by simp [mkS, ByteArray.size]
theorem mkS_append (a b : Str) : mkS a ++ mkS b = mkS (a ++ b) := by
  apply ByteArray.ext
  simp [mkS]
theorem str_eq (a b : Str) : ((mkS a).toList == (mkS b).toList) = decide (a = b) := by rw [mkS_toList, mkS_toList]; exact Bool.eq_iff_iff.2 (by simp)
theorem does_binS (hb : ∀ b, G.g b ≠ .no → b < w.heap.size) {op : BinOp} {xT : TypeId} {a b : Str} {e : Eff} {t : List Id}
    (hx : (sBinS op a b).exec lk = some (e, t)) (hv : ∀ p ∈ e.vc, p) : Does P old G w (do pure (.value (← binOp op xT (.string (mkS a)) (.string (mkS b))))) e := by
  unfold sBinS at hx
  split at hx
  · obtain ⟨rfl, _⟩ := exec_ok hx
    have h1 : a.length + b.length ≤ maxL := hv _ List.mem_cons_self
    have h2 := run_string_add_sum (P := P) w (mkS a) (mkS b) (by rw [mkS_size, mkS_size]; simp only [maxL] at h1; omega)
    exact .pure hb (v := .string (mkS (a ++ b))) (by simp [binOp, h2, mkS_append]) (.ofStr (by simpa using h1))
  · obtain ⟨rfl, _⟩ := exec_ok hx
    exact .pure hb (v := .bool (decide (a = b))) (by simp [binOp, Op.stringOp, str_eq]) .ofBool
  · obtain ⟨rfl, _⟩ := exec_ok hx
    exact .pure hb (v := .bool (!decide (a = b))) (by simp [binOp, Op.stringOp, str_eq]) .ofBool
  · exact exec_fail hx
theorem boolT {tt : TT} (T : TtOk P tt) {xT : TypeId} (hT : isBoolT tt xT = true) : P.underlying xT = some .bool := by
  unfold isBoolT at hT
  split at hT
  · rename_i t nf el by_ fts hte
    obtain ⟨d, hd, hi⟩ := und_at T hte
    obtain ⟨r, _, _⟩ := T.at hte
    have ha := r.ag
    unfold TE.di at hi ha
    cases fts with
    | nil => cases d <;> simp [dinfo] at hi; exact hd
    | cons y ys => simp [DI.agg] at ha
  · cases hT
theorem does_binB {tt : TT} (T : TtOk P tt) {xT : TypeId} (hT : isBoolT tt xT = true) (hb : ∀ b, G.g b ≠ .no → b < w.heap.size) {op : BinOp} {a b : Bool} {e : Eff} {t : List Id}
    (hx : (sBinB op a b).exec lk = some (e, t)) : Does P old G w (do pure (.value (← binOp op xT (.bool a) (.bool b)))) e := by
  have hu := run_equal_bool (P := P) w xT a b (boolT T hT)
  unfold sBinB at hx
  split at hx
  · obtain ⟨rfl, _⟩ := exec_ok hx
    exact .pure hb (v := .bool (a == b)) (by simp [binOp, hu]) .ofBool
  · obtain ⟨rfl, _⟩ := exec_ok hx
    exact .pure hb (v := .bool (!(a == b))) (by simp [binOp, hu]) .ofBool
  · exact exec_fail hx
end

/-! ### The others that turn nothing -/
theorem MtVs.nth {G : Gh} {w : World} {l : List (Bool × List At)} : ∀ {vs : List Value} {i : Nat} {ag : Bool} {v : List At}, MtVs G w l vs → nth l i = some (ag, v) → ∃ u, vs[i]? = some u ∧ MtV G w ag v u := by
  induction l with
  | nil => intro vs i ag v _ h; cases h
  | cons a r ih =>
    intro vs i ag v m h
    obtain ⟨ag', l'⟩ := a
    obtain ⟨u, vs', rfl, h1, h2⟩ := m
    cases i with
    | zero => simp only [Sx.nth, Option.some.injEq, Prod.mk.injEq] at h; obtain ⟨rfl, rfl⟩ := h; exact ⟨u, rfl, h1⟩
    | succ i => obtain ⟨u', h3, h4⟩ := ih h2 h; exact ⟨u', by simpa using h3, h4⟩
section
variable {P : Program} {old : Id → Prop} {G : Gh} {w : World} {lk : Id → Option Res} (hb : ∀ b, G.g b ≠ .no → b < w.heap.size)
include hb
theorem does_val {s : SV} {v : Value} {e : Eff} {t : List Id} (hx : (Eff.val s).exec lk = some (e, t)) (m : MtS G w s v) : Does P old G w (pure (.value v)) e := by
  obtain ⟨rfl, _⟩ := exec_ok hx
  exact .pure hb (by simp) m
theorem does_not {x : SV} {v : Value} {e : Eff} {t : List Id} (hx : (sNot x).exec lk = some (e, t)) (m : MtS G w x v) : Does P old G w (do pure (.value (← Op.unary .not v))) e := by
  unfold sNot at hx
  split at hx
  · obtain ⟨rfl, _⟩ := exec_ok hx
    rw [m.kb]
    exact .pure hb (by simp [Op.unary]) .ofKb
  · obtain ⟨rfl, _⟩ := exec_ok hx
    rw [m.boolV]
    exact .pure hb (by simp [Op.unary]) .ofBool
  · exact exec_fail hx
theorem does_pick {c a b : SV} {vc va vb : Value} {e : Eff} {t : List Id} (hx : (sPick c a b).exec lk = some (e, t)) (mc : MtS G w c vc) (ma : MtS G w a va) (mb : MtS G w b vb) :
    Does P old G w (do pure (.value (if ← Go.asBool vc then va else vb))) e := by
  unfold sPick at hx
  split at hx
  · obtain ⟨rfl, _⟩ := exec_ok hx
    rw [mc.kb]
    exact .pure hb (by simp [Go.asBool]) ma
  · obtain ⟨rfl, _⟩ := exec_ok hx
    rw [mc.kb]
    exact .pure hb (by simp [Go.asBool]) mb
  · split at hx
    · rename_i p q h1 h2
      obtain ⟨rfl, _⟩ := exec_ok hx
      rw [mc.boolV, ma.asB h1, mb.asB h2]
      rename_i x _ _ _
      refine .pure hb (v := .bool (bif x then p else q)) ?_ .ofBool
      cases x <;> simp [Go.asBool]
    · exact exec_fail hx
  · exact exec_fail hx
theorem does_extract {x : SV} {i : Nat} {v : Value} {e : Eff} {t : List Id} (hx : (sExtract x i).exec lk = some (e, t)) (m : MtS G w x v) : Does P old G w (do pure (.value (← Instr.extract v i))) e := by
  unfold sExtract at hx
  split at hx
  · split at hx
    · rename_i l ag u hn
      obtain ⟨rfl, _⟩ := exec_ok hx
      obtain ⟨vs, rfl, h1⟩ := m
      obtain ⟨u', h2, h3⟩ := MtVs.nth h1 hn
      exact .pure hb (v := u') (by simp [Instr.extract, h2]) h3
    · exact exec_fail hx
  · exact exec_fail hx
theorem does_nilCheck {x : SV} {v : Value} {e : Eff} {t : List Id} (hx : (sNilCheck x).exec lk = some (e, t)) (m : MtS G w x v) : ∃ b, v = .pointer (some b) ∧ Does P old G w (pure (.value v)) e := by
  unfold sNilCheck at hx
  split at hx
  · obtain ⟨b, _, h2⟩ := m.at1.2
    exact ⟨_, by simpa using h2, does_val hb hx m⟩
  · obtain ⟨b, o, n, c, _, h2⟩ := m.at1.2
    exact ⟨_, by simpa using h2, does_val hb hx m⟩
  · obtain ⟨_, _, b, o, C, t, fz, h2, _⟩ := m.at1.2
    exact ⟨_, by simpa using h2, does_val hb hx m⟩
  · exact exec_fail hx
end

section
variable {P : Program} {tt : TT} (T : TtOk P tt)
include T
theorem di_plain {t : TypeId} {te : TE} (h : ttOf tt t = some te) (ha : te.ag = false) : te.fts = [] := by
  obtain ⟨r, _, _⟩ := T.at h
  have h1 := r.ag
  rw [ha] at h1
  unfold TE.di at h1
  cases hf : te.fts with
  | nil => rfl
  | cons x xs => rw [hf] at h1; simp [DI.agg] at h1
theorem strT {t : TypeId} (h : isStrT tt t = true) : P.underlying t = some .string := by
  unfold isStrT at h
  split at h
  · rename_i t' nf el by_ fts hte
    obtain ⟨d, hd, hi⟩ := und_at T hte
    have hf := di_plain T hte rfl
    simp only at hf
    subst hf
    cases d <;> simp [dinfo, TE.di] at hi
    exact hd
  · cases h
theorem slT_spec {t : TypeId} {e : Ty} {el : TypeId} {by_ : Nat} (h : slT tt t = some (e, el, by_)) : P.underlying t = some (.slice el) ∧ e.size ≠ 0 ∧ ∃ te, ttOf tt el = some te ∧ te.T = e ∧ te.by_ = by_ := by
  unfold slT at h
  split at h
  · rename_i t' e' nf el' by' fts hte
    obtain ⟨d, hd, hi⟩ := und_at T hte
    obtain ⟨_, _, c⟩ := T.at hte
    have hf := di_plain T hte rfl
    simp only at hf
    subst hf
    split at h
    · rename_i te2 T2 a2 n2 el2 by2 f2 hel
      simp only [Option.some.injEq, Prod.mk.injEq] at h
      obtain ⟨rfl, rfl, rfl⟩ := h
      have c' : elChk tt el' e' = true := c
      obtain ⟨te3, h3, h4, h5⟩ := elChk_spec c'
      rw [hel] at h3
      cases h3
      simp only at h4
      subst h4
      refine ⟨?_, h5, _, hel, rfl, rfl⟩
      cases d <;> simp [dinfo, TE.di] at hi
      rw [hd, hi]
    · cases h
  · cases h
end

section
variable {P : Program} {old : Id → Prop} {G : Gh} {w : World} {lk : Id → Option Res}
theorem MtS.slice {e : Ty} {F : Fl} {l : List e.den} {v : Value} (h : MtS G w (.v false [.d (.sl e) F l]) v) : Ty.noO (.sl e) F = true ∧ ∃ A n c, v = .slice A n c ∧ Tr G w (.sl e) F default [] [.slice A n c] l := by
  obtain ⟨h0, h1⟩ := h.at1.2
  obtain ⟨A, n, c, hcs, r⟩ := h1
  have hv : v = .slice A n c := by simpa using hcs
  exact ⟨h0, A, n, c, hv, A, n, c, rfl, r⟩
theorem MtS.ofSlice {e : Ty} {F : Fl} {l : List e.den} {A : Option Addr} {n c : Nat} (h0 : Ty.noO (.sl e) F = true) (h : Tr G w (.sl e) F default [] [.slice A n c] l) : MtS G w (.v false [.d (.sl e) F l]) (.slice A n c) :=
  .of1 rfl ⟨h0, h⟩
theorem MtS.own {id : Id} {v : Value} (h : MtS G w (.v false [.own id]) v) : v = G.ρ id := by
  simpa using (show [v] = [G.ρ id] from h.at1.2)
theorem Tr.sl_len {e : Ty} {F : Fl} {id : Id} {p : List Nat} {A : Option Addr} {n c : Nat} {l : List e.den} (h : Tr G w (.sl e) F id p [.slice A n c] l) : n = l.length ∧ n ≤ c ∧ n ≤ maxL := by
  obtain ⟨A', n', c', hcs, h1, h2, h3, _, _⟩ := h
  simp only [List.cons.injEq, Value.slice.injEq, and_true] at hcs
  obtain ⟨rfl, rfl, rfl⟩ := hcs
  exact ⟨h1, h2, h3⟩
theorem len_in {n : Nat} (h : n ≤ maxL) : inR .i64 (n : Int) := by
  simp only [maxL] at h
  simp [inR, IntKind.min, IntKind.max, IntKind.signed, IntKind.bits]
  omega
/-- what is owned is a slice of so many elements -/
theorem ResOk.slice {id : Id} {e : Ty} {f : Fl} {x : List e.den} (h : ResOk G w id (.sl e f x)) : ∃ A n c, G.ρ id = .slice A n c ∧ Tr G w (.sl e) (.sl .w f) id [] [.slice A n c] x := by
  obtain ⟨A, n, c, hcs, r⟩ := (show Tr G w (.sl e) (.sl .w f) id [] [G.ρ id] x from h)
  have hv : G.ρ id = .slice A n c := by simpa using hcs
  exact ⟨A, n, c, hv, A, n, c, rfl, r⟩
variable (hb : ∀ b, G.g b ≠ .no → b < w.heap.size)
include hb
theorem does_len {tt : TT} (T : TtOk P tt) {t0 ty : TypeId} {x : SV} {v : Value} {e : Eff} {t : List Id} (hrs : ∀ id R, lk id = some R → ResOk G w id R)
    (hx : (sLen tt t0 x).exec lk = some (e, t)) (m : MtS G w x v) : Does P old G w (do pure (.value (← Builtin.len_ #[t0] ty #[v]))) e := by
  have sl : isSlT tt t0 = true → ∃ el, P.underlying t0 = some (.slice el) := fun h => by
    unfold isSlT at h
    split at h
    · rename_i q hq
      obtain ⟨e', el, by_⟩ := q
      exact ⟨el, (slT_spec T hq).1⟩
    · cases h
  unfold sLen at hx
  split at hx
  · split at hx
    · rename_i l
      cases hs : isStrT tt t0 with
      | false => rw [hs] at hx; exact exec_fail hx
      | true =>
        rw [hs] at hx
        obtain ⟨rfl, _⟩ := exec_ok hx
        obtain ⟨rfl, hl⟩ := m.str
        exact .pure hb (v := .int .i64 (List.length l)) (by simp [Builtin.len_, run_underlying (strT T hs), goInt, mkS_size]) (.ofInt (len_in hl))
    · rename_i e' l
      cases hs : isSlT tt t0 with
      | false => rw [hs] at hx; exact exec_fail hx
      | true =>
        rw [hs] at hx
        obtain ⟨rfl, _⟩ := exec_ok hx
        obtain ⟨_, A, n, c, rfl, htr⟩ := m.slice
        obtain ⟨el, hel⟩ := sl hs
        obtain ⟨rfl, _, h3⟩ := htr.sl_len
        exact .pure hb (v := .int .i64 (List.length l)) (by simp [Builtin.len_, run_underlying hel, goInt]) (.ofInt (len_in h3))
    · exact exec_fail hx
  · cases hs : isSlT tt t0 with
    | false => rw [hs] at hx; exact exec_fail hx
    | true =>
      rw [hs] at hx
      obtain ⟨rfl, _⟩ := exec_ok hx
      obtain ⟨el, hel⟩ := sl hs
      have hv : v = .slice none 0 0 := by simpa using (show [v] = [Value.slice none 0 0] from m.at1.2)
      subst hv
      exact .pure hb (v := .int .i64 0) (by simp [Builtin.len_, run_underlying hel, goInt]) (.ofInt (by simp [inR, IntKind.min, IntKind.max, IntKind.signed, IntKind.bits]))
  · rename_i id
    cases hs : isSlT tt t0 with
    | false => rw [hs] at hx; exact exec_fail hx
    | true =>
      rw [hs] at hx
      obtain ⟨el, hel⟩ := sl hs
      obtain ⟨t', hx, _⟩ := exec_need hx
      have hv := m.own
      subst hv
      split at hx
      · rename_i e' f l hlk
        obtain ⟨rfl, _⟩ := exec_ok hx
        obtain ⟨A, n, c, hv, htr⟩ := (hrs _ _ hlk).slice
        obtain ⟨rfl, _, h3⟩ := htr.sl_len
        exact .pure hb (v := .int .i64 (List.length l)) (by simp [Builtin.len_, run_underlying hel, goInt, hv]) (.ofInt (len_in h3))
      · rename_i e' f l j cs hlk
        obtain ⟨rfl, _⟩ := exec_ok hx
        obtain ⟨b, off, C, t, n, c, hv, rfl, _, h3, _⟩ := hrs _ _ hlk
        exact .pure hb (v := .int .i64 (List.length l)) (by simp [Builtin.len_, run_underlying hel, goInt, hv]) (.ofInt (len_in h3))
      · rename_i sz l hlk
        obtain ⟨rfl, _⟩ := exec_ok hx
        obtain ⟨A, n, c, hv, rfl, _, h3, _⟩ := hrs _ _ hlk
        exact .pure hb (v := .int .i64 (List.length l)) (by simp [Builtin.len_, run_underlying hel, goInt, hv]) (.ofInt (len_in h3))
      · exact exec_fail hx
  · exact exec_fail hx

omit hb in
theorem mkS_get (l : Str) (i : Nat) (h : i < l.length) : (mkS l)[i]? = some (l.getD i 0) := by
  have h2 : i < (mkS l).size := by rw [mkS_size]; exact h
  rw [getElem?_pos (mkS l) i h2]
  simp only [List.getD, List.getElem?_eq_getElem h, Option.getD_some]
  rfl
omit hb in
theorem run_index_str {t0 : TypeId} (hu : P.underlying t0 = some .string) {l : Str} {k : IntKind} {n : Int} (h0 : 0 ≤ n) (h1 : n < (l.length : Int)) :
    (Instr.index t0 (.string (mkS l)) (.int k n)).run P w = .ok (.int .u8 ((l.getD n.toNat 0).toNat : Int)) w := by
  have hn : n.toNat < l.length := by omega
  simp [Instr.index, run_underlying hu, asIntOf, h0, mkS_get l n.toNat hn]
omit hb in
theorem u8_in (c : UInt8) : inR .u8 (c.toNat : Int) := by
  have := c.toNat_lt
  simp [inR, IntKind.min, IntKind.max, IntKind.signed, IntKind.bits]
  omega
theorem does_index {tt : TT} (T : TtOk P tt) {t0 : TypeId} {x i : SV} {vx vi : Value} {e : Eff} {t : List Id} (hx : (sIndex tt t0 x i).exec lk = some (e, t)) (hv : ∀ p ∈ e.vc, p)
    (mx : MtS G w x vx) (mi : MtS G w i vi) : Does P old G w (do pure (.value (← Instr.index t0 vx vi))) e := by
  unfold sIndex at hx
  split at hx
  · rename_i F l k F' n
    cases hs : isStrT tt t0 with
    | false => rw [hs] at hx; exact exec_fail hx
    | true =>
      rw [hs] at hx
      obtain ⟨rfl, _⟩ := exec_ok hx
      obtain ⟨h0, h1⟩ : 0 ≤ n ∧ n < (List.length l : Int) := hv _ List.mem_cons_self
      obtain ⟨rfl, _⟩ := mx.str
      obtain ⟨rfl, _⟩ := mi.int
      exact .pure hb (v := .int .u8 ((List.getD l n.toNat 0).toNat : Int)) (by simp [run_index_str (strT T hs) h0 h1]) (.ofInt (u8_in _))
  · exact exec_fail hx
end

/-! ### Addresses -/

theorem fieldTy_off : ∀ (T : Ty) (F : Fl) (n f off : Nat), (fieldTy T F n f off).2.2 = off + fieldOff T n f := by
  intro T
  induction T with
  | pr a b _ ihb =>
    intro F n f off
    match n, f with
    | 0, f => simp [fieldTy, fieldOff]
    | 1, f => simp [fieldTy, fieldOff]
    | n + 2, 0 => simp [fieldTy, fieldOff]
    | n + 2, f + 1 =>
      simp only [fieldTy, fieldOff]
      rw [ihb, ihb (pF.r) (n + 1) f (0 + a.size)]
      omega
  | _ => intro F n f off; match n with | 0 => simp [fieldTy, fieldOff] | 1 => simp [fieldTy, fieldOff] | n + 2 => simp [fieldTy, fieldOff]
theorem fieldTy_ty : ∀ (T : Ty) (F F' : Fl) (n f off off' : Nat), (fieldTy T F n f off).1 = (fieldTy T F' n f off').1 := by
  intro T
  induction T with
  | pr a b _ ihb =>
    intro F F' n f off off'
    match n, f with
    | 0, f => simp [fieldTy]
    | 1, f => simp [fieldTy]
    | n + 2, 0 => simp [fieldTy]
    | n + 2, f + 1 => simp only [fieldTy]; exact ihb _ _ _ _ _ _
  | _ => intro F F' n f off off'; match n with | 0 => simp [fieldTy] | 1 => simp [fieldTy] | n + 2 => simp [fieldTy]
theorem fieldTy_fl : ∀ (T : Ty) (F : Fl) (n f off off' : Nat), (fieldTy T F n f off).2.1 = (fieldTy T F n f off').2.1 := by
  intro T
  induction T with
  | pr a b _ ihb =>
    intro F n f off off'
    match n, f with
    | 0, f => simp [fieldTy]
    | 1, f => simp [fieldTy]
    | n + 2, 0 => simp [fieldTy]
    | n + 2, f + 1 => simp only [fieldTy]; exact ihb _ _ _ _ _
  | _ => intro F n f off off'; match n with | 0 => simp [fieldTy] | 1 => simp [fieldTy] | n + 2 => simp [fieldTy]
theorem fieldTy_noO : ∀ (T : Ty) (F : Fl) (n f off : Nat), T.noO F = true → (fieldTy T F n f off).1.noO (fieldTy T F n f off).2.1 = true := by
  intro T
  induction T with
  | pr a b _ ihb =>
    intro F n f off h
    have h' := h
    simp only [Ty.noO, Bool.and_eq_true] at h
    match n, f with
    | 0, f => simp only [fieldTy]; exact h'
    | 1, f => simp only [fieldTy]; exact h'
    | n + 2, 0 => simp only [fieldTy]; exact h.1
    | n + 2, f + 1 => simp only [fieldTy]; exact ihb _ _ _ _ h.2
  | _ => intro F n f off h; match n with | 0 => simpa only [fieldTy] using h | 1 => simpa only [fieldTy] using h | n + 2 => simpa only [fieldTy] using h
theorem fieldOf_base {G : Gh} {w : World} {α : Type} {T : Ty} {F : Fl} {n f : Nat} {id : Id} {p : List Nat} {cs : List Value} {x : T.den} (h : Tr G w T F id p cs x)
    (e : ∀ k : (T' : Ty) → Fl → T'.den → α, fieldOf T F n f x k = k T F x) (e' : fieldTy T F n f 0 = (T, F, 0)) (e2 : fieldOff T n f = 0) :
    ∃ (T' : Ty) (F' : Fl) (y : T'.den) (p' : List Nat), (∀ k : (T' : Ty) → Fl → T'.den → α, fieldOf T F n f x k = k T' F' y) ∧ (fieldTy T F n f 0).1 = T' ∧ (fieldTy T F n f 0).2.1 = F' ∧
      fieldOff T n f + T'.size ≤ T.size ∧ Tr G w T' F' id p' ((cs.drop (fieldOff T n f)).take T'.size) y := by
  have hl := h.len
  exact ⟨T, F, x, p, e, by rw [e'], by rw [e'], by omega, by rw [e2, List.drop_zero, ← hl, List.take_length]; exact h⟩
/-- a field of a value that lies in memory -/
theorem fieldOf_spec {G : Gh} {w : World} {α : Type} : ∀ (T : Ty) (F : Fl) (n f : Nat) (id : Id) (p : List Nat) (cs : List Value) (x : T.den), Tr G w T F id p cs x →
    ∃ (T' : Ty) (F' : Fl) (y : T'.den) (p' : List Nat), (∀ k : (T' : Ty) → Fl → T'.den → α, fieldOf T F n f x k = k T' F' y) ∧ (fieldTy T F n f 0).1 = T' ∧ (fieldTy T F n f 0).2.1 = F' ∧
      fieldOff T n f + T'.size ≤ T.size ∧ Tr G w T' F' id p' ((cs.drop (fieldOff T n f)).take T'.size) y := by
  intro T
  induction T with
  | pr a b _ ihb =>
    intro F n f id p cs x h
    match n, f with
    | 0, f => exact fieldOf_base h (fun k => rfl) rfl rfl
    | 1, f => exact fieldOf_base h (fun k => rfl) rfl rfl
    | n + 2, 0 =>
      obtain ⟨c1, c2, rfl, h1, h2⟩ := h
      have hl1 := h1.len
      refine ⟨a, F.l, x.1, p ++ [0], fun k => rfl, rfl, rfl, by simp [fieldOff, fieldTy, Ty.size], ?_⟩
      rw [show fieldOff (.pr a b) (n + 2) 0 = 0 from rfl, List.drop_zero, ← hl1, List.take_left]
      exact h1
    | n + 2, f + 1 =>
      obtain ⟨c1, c2, rfl, h1, h2⟩ := h
      have hl1 := h1.len
      obtain ⟨T', F', y, p', e1, e2, e3, e4, e5⟩ := ihb F.r (n + 1) f id (p ++ [1]) c2 x.2 h2
      have hoff : fieldOff (.pr a b) (n + 2) (f + 1) = a.size + fieldOff b (n + 1) f := by
        simp only [fieldOff, fieldTy]
        rw [fieldTy_off]
        simp [fieldOff]
      refine ⟨T', F', y, p', e1, ?_, ?_, ?_, ?_⟩
      · rw [← e2]; simp only [fieldTy]; exact fieldTy_ty _ _ _ _ _ _ _
      · rw [← e3]; simp only [fieldTy]; exact fieldTy_fl _ _ _ _ _ _
      · rw [hoff]; simp only [Ty.size]; omega
      · rw [hoff, ← hl1, ← List.drop_drop, List.drop_left]; exact e5
  | int k => intro F n f id p cs x h; match n with | 0 => exact fieldOf_base h (fun k => rfl) rfl rfl | 1 => exact fieldOf_base h (fun k => rfl) rfl rfl | n + 2 => exact fieldOf_base h (fun k => rfl) rfl rfl
  | bool => intro F n f id p cs x h; match n with | 0 => exact fieldOf_base h (fun k => rfl) rfl rfl | 1 => exact fieldOf_base h (fun k => rfl) rfl rfl | n + 2 => exact fieldOf_base h (fun k => rfl) rfl rfl
  | str => intro F n f id p cs x h; match n with | 0 => exact fieldOf_base h (fun k => rfl) rfl rfl | 1 => exact fieldOf_base h (fun k => rfl) rfl rfl | n + 2 => exact fieldOf_base h (fun k => rfl) rfl rfl
  | sl e _ => intro F n f id p cs x h; match n with | 0 => exact fieldOf_base h (fun k => rfl) rfl rfl | 1 => exact fieldOf_base h (fun k => rfl) rfl rfl | n + 2 => exact fieldOf_base h (fun k => rfl) rfl rfl
  | arr m e _ => intro F n f id p cs x h; match n with | 0 => exact fieldOf_base h (fun k => rfl) rfl rfl | 1 => exact fieldOf_base h (fun k => rfl) rfl rfl | n + 2 => exact fieldOf_base h (fun k => rfl) rfl rfl
  | pt => intro F n f id p cs x h; match n with | 0 => exact fieldOf_base h (fun k => rfl) rfl rfl | 1 => exact fieldOf_base h (fun k => rfl) rfl rfl | n + 2 => exact fieldOf_base h (fun k => rfl) rfl rfl

theorem cellsAt_sub (C : Array Value) (o n : Nat) {o' n' : Nat} (h : o' + n' ≤ n) : cellsAt C (o + o') n' = ((cellsAt C o n).drop o').take n' := by
  unfold cellsAt
  rw [List.drop_take, List.take_take, List.drop_drop]
  congr 1
  omega

theorem offsFrom_get (T : Ty) (nf : Nat) : ∀ (l : List TypeId) (f k : Nat), (offsFrom T nf f l)[k]? = (l[k]?).map fun t => (fieldOff T nf (f + k), t) := by
  intro l
  induction l with
  | nil => intro f k; simp [offsFrom]
  | cons t r ih =>
    intro f k
    cases k with
    | zero => simp [offsFrom]
    | succ k => simp only [offsFrom, List.getElem?_cons_succ]; rw [ih]; congr 2; rw [show f + 1 + k = f + (k + 1) by omega]
theorem fldChk_get {tt : TT} {T : Ty} {nf : Nat} : ∀ {l : List TypeId} {f k : Nat} {t : TypeId}, fldChk tt T nf f l = true → l[k]? = some t → elChk tt t (fieldTy T pF nf (f + k) 0).1 = true := by
  intro l
  induction l with
  | nil => intro f k t _ h; simp at h
  | cons u r ih =>
    intro f k t hc h
    simp only [fldChk, Bool.and_eq_true] at hc
    cases k with
    | zero => simp at h; subst h; exact hc.1
    | succ k =>
      have := ih hc.2 (by simpa using h)
      rwa [show f + 1 + k = f + (k + 1) by omega] at this
section
variable {P : Program} {tt : TT} (T : TtOk P tt)
include T
/-- a struct's field in the program's types -/
theorem field_at {t : TypeId} {te : TE} (h : ttOf tt t = some te) {f : Nat} (hf : f < te.nf) : ∃ (fs : Array Field) (fd : Field), P.underlying t = some (.struct fs) ∧ fs[f]? = some fd ∧ fd.offset = fieldOff te.T te.nf f ∧
    ∃ te', ttOf tt fd.type = some te' ∧ te'.T = (fieldTy te.T pF te.nf f 0).1 ∧ te'.T.size ≠ 0 := by
  obtain ⟨r, _, c⟩ := T.at h
  obtain ⟨d, hd, hi⟩ := und_at T h
  have hn := r.nf
  unfold TE.di at hi
  unfold teChk at c
  cases hfs : te.fts with
  | nil => rw [hfs] at hn; simp at hn; omega
  | cons x xs =>
    rw [hfs] at hi c hn
    cases d with
    | struct fs =>
      simp only [dinfo, DI.st.injEq] at hi
      obtain ⟨ft, hft⟩ : ∃ ft, (x :: xs)[f]? = some ft := ⟨_, List.getElem?_eq_getElem (by omega)⟩
      have hg := offsFrom_get te.T te.nf (x :: xs) 0 f
      rw [← hi, hft, List.getElem?_map] at hg
      simp only [Option.map_some, Option.map_eq_some_iff, Nat.zero_add] at hg
      obtain ⟨fd, h1, h2⟩ := hg
      simp only [Prod.mk.injEq] at h2
      have hc := fldChk_get c hft
      rw [Nat.zero_add] at hc
      obtain ⟨te', h3, h4, h5⟩ := elChk_spec hc
      exact ⟨fs, fd, hd, by simpa using h1, h2.1, te', by rw [h2.2]; exact h3, h4, by rw [h4]; exact h5⟩
    | _ => simp [dinfo] at hi
theorem run_fieldAt {t : TypeId} {te : TE} (h : ttOf tt t = some te) {f : Nat} (hf : f < te.nf) (w : World) (b o : Nat) :
    (Instr.fieldAt t (.pointer (some ⟨b, o, none⟩)) f).run P w = .ok (.pointer (some ⟨b, o + fieldOff te.T te.nf f, none⟩)) w := by
  obtain ⟨fs, fd, h1, h2, h3, te', h4, h5, h6⟩ := field_at T h hf
  simp [Instr.fieldAt, run_underlying h1, h2, Instr.sureAddr, fieldPlace, run_size_at T h4, h6, addr_add, h3]
end
section
variable {P : Program} {tt : TT} (T : TtOk P tt) {old : Id → Prop} {G : Gh} {w : World} {lk : Id → Option Res} (hb : ∀ b, G.g b ≠ .no → b < w.heap.size)
include T hb
theorem does_fieldAddr {t0 : TypeId} {f : Nat} {x : SV} {v : Value} {e : Eff} {t : List Id} (hx : (sFieldAddr tt t0 f x).exec lk = some (e, t)) (m : MtS G w x v) :
    Does P old G w (do pure (.value (← Instr.fieldAt t0 v f))) e := by
  unfold sFieldAddr at hx
  split at hx
  · exact exec_fail hx
  · rename_i t' T0 ag nf el by_ fts hte
    cases hlt : Nat.blt f nf with
    | false => rw [hlt] at hx; exact exec_fail hx
    | true =>
      rw [hlt] at hx
      have hf : f < nf := by simpa [Nat.blt_eq] using hlt
      have hrun := run_fieldAt T hte (f := f) hf w
      simp only at hrun
      simp only [cond_true] at hx
      split at hx
      · rename_i id off
        obtain ⟨rfl, _⟩ := exec_ok hx
        obtain ⟨b, h1, h2⟩ := m.at1.2
        have hv : v = .pointer (some ⟨b, off, none⟩) := by simpa using h2
        subst hv
        refine .pure hb (v := .pointer (some ⟨b, off + fieldOff T0 nf f, none⟩)) (by simp [hrun]) (.of1 rfl ⟨b, h1, ?_⟩)
        rw [fieldTy_off]
      · rename_i o Tp F y
        cases hty : Ty.beq Tp T0 with
        | false => rw [hty] at hx; exact exec_fail hx
        | true =>
          have := Ty.eq_of_beq hty
          subst this
          rw [hty] at hx
          simp only [cond_true] at hx
          obtain ⟨h0, ho, b, off, C, tb, fz, h2, h3, h4, h5, h6⟩ := m.at1.2
          have hv : v = .pointer (some ⟨b, off, none⟩) := by simpa using h2
          subst hv
          obtain ⟨T', F', y', p', e1, e2, e3, e4, e5⟩ := fieldOf_spec (α := Req Eff) Tp F nf f default [] _ y h6
          rw [e1] at hx
          obtain ⟨rfl, _⟩ := exec_ok hx
          have hno : T'.noO F' = true := by rw [← e2, ← e3]; exact fieldTy_noO _ _ _ _ _ h0
          refine .pure hb (v := .pointer (some ⟨b, off + fieldOff Tp nf f, none⟩)) (by simp [hrun]) (.of1 rfl ⟨hno, ho, b, off + fieldOff Tp nf f, C, tb, fz, rfl, h3, h4, by omega, ?_⟩)
          rw [cellsAt_sub C off Tp.size e4]
          exact e5.keep (.refl G w) hno
      · rename_i id i sz off Tp
        cases hty : Ty.beq Tp T0 with
        | false => rw [hty] at hx; exact exec_fail hx
        | true =>
          have := Ty.eq_of_beq hty
          subst this
          rw [hty] at hx
          obtain ⟨rfl, _⟩ := exec_ok hx
          obtain ⟨b, o, n, c, h1, h2⟩ := m.at1.2
          have hv : v = .pointer (some ⟨b, o + i * sz + off, none⟩) := by simpa using h2
          subst hv
          refine .pure hb (v := .pointer (some ⟨b, o + i * sz + off + fieldOff Tp nf f, none⟩)) (by simp [hrun]) (.of1 rfl ⟨b, o, n, c, h1, ?_⟩)
          rw [fieldTy_off, Nat.add_assoc]
      · exact exec_fail hx
end
end Go.Sx
