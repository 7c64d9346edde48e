/- Symbolic execution, part Nc: arrays of texts, compared. -/
import Derived.Test.YtbnmeeajooljmaaSxNb
set_option linter.all false
namespace Go.Sx
open Go Go.RowKit

section
variable {P : Program} {tt : TT} (T : TtOk P tt) {old : Id → Prop} {G : Gh} {w : World} {lk : Id → Option Res} (hb : ∀ b, G.g b ≠ .no → b < w.heap.size)
theorem arr_cells {n : Nat} {F : Fl} {a : List Str} {v : Value} (m : MtV G w true [.d (.arr n .str) F a] v) : ∃ cs : List Value, v = .agg cs.toArray ∧ a.length = n ∧ ∀ j, j < n → cs[j]? = some (.string (mkS (a.getD j []))) := by
  obtain ⟨cs, rfl, h⟩ := m
  obtain ⟨_, h1, h2, h3⟩ := h.one_inv
  refine ⟨cs, rfl, h2, fun j hj => ?_⟩
  have hja : j < List.length a := by rw [h2]; exact hj
  have := (h3 j (a.getD j []) (by rw [List.getD, List.getElem?_eq_getElem hja]; rfl)).1
  have h4 : ((cs.drop (j * 1)).take 1)[0]? = some (.string (mkS (a.getD j []))) := by
    rw [show (Ty.str).size = 1 from rfl] at this
    rw [this]; rfl
  rw [List.getElem?_take_of_lt (by omega), List.getElem?_drop, Nat.mul_one, Nat.add_zero] at h4
  exact h4
include T in
theorem eqItems_str {el : TypeId} (hs : isStrT tt el = true) (d : Nat) {xs ys : List Value} {a b : List Str} : ∀ (is : List Nat), (∀ j ∈ is, xs[j]? = some (.string (mkS (a.getD j []))) ∧ ys[j]? = some (.string (mkS (b.getD j [])))) →
    (Op.eqItems (d + 1) el 1 xs.toArray ys.toArray is).run P w = .ok (is.all fun j => decide (a.getD j [] = b.getD j [])) w := by
  have hag : (isAgg el).run P w = .ok false w := by
    unfold isStrT at hs
    split at hs
    · rename_i hte; exact run_agg_at T hte w
    · cases hs
  intro is
  induction is with
  | nil => intro _; simp [Op.eqItems]
  | cons j is ih =>
    intro h
    obtain ⟨h1, h2⟩ := h j List.mem_cons_self
    have p1 : (part el xs.toArray (j * 1)).run P w = .ok (.string (mkS (a.getD j []))) w := by
      simp [part, hag, h1]
    have p2 : (part el ys.toArray (j * 1)).run P w = .ok (.string (mkS (b.getD j []))) w := by
      simp [part, hag, h2]
    simp only [Op.eqItems, Sem.run_bind, p1, p2, Result.andThen_ok, run_equalIn_string w d el _ _ (strT T hs), str_eq]
    cases hd : decide (a.getD j [] = b.getD j []) with
    | false => simp only [Bool.not_false, if_true, Sem.run_pure, List.all_cons, hd, Bool.false_and]
    | true =>
      have := ih fun k hk => h k (List.mem_cons_of_mem _ hk)
      simp only [Bool.not_true, Bool.false_eq_true, if_false, List.all_cons, hd, Bool.true_and]
      exact this
theorem all_getD {n : Nat} {a b : List Str} (ha : a.length = n) (hb : b.length = n) : ((List.range n).all fun j => decide (a.getD j [] = b.getD j [])) = decide (a = b) := by
  refine Bool.eq_iff_iff.2 ?_
  simp only [List.all_eq_true, List.mem_range, decide_eq_true_eq]
  constructor
  · intro h
    refine List.ext_getElem (by omega) fun i h1 h2 => ?_
    have := h i (by omega)
    rw [List.getD, List.getD, List.getElem?_eq_getElem h1, List.getElem?_eq_getElem h2] at this
    exact this
  · rintro rfl j _
    rfl
include T hb in
theorem does_binArr {op : BinOp} {xT : TypeId} {ox oy : Operand} {x y : SV} {vx vy : Value} {e : Eff} {t : List Id} (hx : (sBinArr tt xT op x y).exec lk = some (e, t)) (mx : MtS G w x vx) (my : MtS G w y vy) :
    Does P old G w (do pure (.value (← (do eqGuard op xT ox oy vx vy; binOp op xT vx vy)))) e := by
  unfold sBinArr at hx
  split at hx
  · rename_i n el hT
    replace ⟨hs, hx⟩ := condR hx
    split at hx
    · split at hx
      · rename_i F1 F2 T1 a0 T2 b0 m a m' b
        replace ⟨hE, hx⟩ := condR hx
        simp only [Bool.and_eq_true] at hE
        have h1 := Nat.eq_of_beq_eq_true hE.1
        have h2 := Nat.eq_of_beq_eq_true hE.2
        subst h1
        subst h2
        obtain ⟨xs, rfl, la, ga⟩ := arr_cells mx
        obtain ⟨ys, rfl, lb, gb⟩ := arr_cells my
        obtain ⟨hu, _, te, hte, hteT⟩ := arT_spec T hT
        obtain ⟨i, hi, _, hsz, _⟩ := info_at T hte
        have hguard : P.eqGuardType P.depth xT = false := by
          have hd : P.depth = (2 * (P.types.size + Made.depth)) + 1 + 1 := rfl
          rw [hd]
          simp only [Program.eqGuardType, hu, strT T hs]
        have hcell : P.cellsOf el = 1 := by simp [Program.cellsOf, hi, hsz, hteT, Ty.size]
        have heq : (Op.equal xT (.agg xs.toArray) (.agg ys.toArray)).run P w = .ok (decide ((a : List Str) = b)) w := by
          show (Op.equalIn (9998 + 1 + 1) xT _ _).run P w = _
          rw [run_equalIn_array w (9998 + 1) xs.toArray ys.toArray hu hi, hcell, eqItems_str T hs 9998 (a := a) (b := b) _ (fun j hj => ⟨ga j (List.mem_range.1 hj), gb j (List.mem_range.1 hj)⟩), all_getD la lb]
        have hgd := run_eqGuard_agg w op xT ox oy xs.toArray ys.toArray hguard
        split at hx
        · obtain ⟨rfl, _⟩ := exec_ok hx
          exact .pure hb (v := .bool (decide ((a : List Str) = b))) (by simp [hgd, binOp, heq]) .ofBool
        · obtain ⟨rfl, _⟩ := exec_ok hx
          exact .pure hb (v := .bool (!decide ((a : List Str) = b))) (by simp [hgd, binOp, heq]) .ofBool
        · exact exec_fail hx
      · exact exec_fail hx
    · exact exec_fail hx
  · exact exec_fail hx
end
end Go.Sx
