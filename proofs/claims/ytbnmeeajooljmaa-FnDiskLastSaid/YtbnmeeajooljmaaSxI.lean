/- Symbolic execution, part I: variables: making, loading, storing. -/
import Derived.Test.YtbnmeeajooljmaaSxH
set_option linter.all false
namespace Go.Sx
open Go Go.RowKit

section
variable {G : Gh} {w : World}
theorem putA_sound : ∀ {l : List At} {off : Nat} {vs : List At} {cs ds : List Value} {m : List At}, MtL G w l cs → MtL G w vs ds → putA l off vs = some m →
    off + ds.length ≤ cs.length ∧ MtL G w m (cs.take off ++ ds ++ cs.drop (off + ds.length)) := by
  intro l
  induction l with
  | nil =>
    intro off vs cs ds m h hv hx
    rw [show cs = [] from h]
    match off, vs with
    | 0, [] =>
      simp only [putA, Option.some.injEq] at hx
      subst hx
      rw [show ds = [] from hv]
      exact ⟨by simp, rfl⟩
    | 0, _ :: _ => simp [putA] at hx
    | off + 1, _ => simp [putA] at hx
  | cons a r ih =>
    intro off vs cs ds m h hv hx
    have h' := h
    obtain ⟨c1, c2, rfl, h1, h2⟩ := h
    have hl := h1.len
    match off, vs with
    | 0, [] =>
      simp only [putA, Option.some.injEq] at hx
      subst hx
      rw [show ds = [] from hv]
      exact ⟨by simp, by simpa using h'⟩
    | 0, v :: vs =>
      simp only [putA] at hx
      cases hb : Nat.beq a.size v.size with
      | false => rw [hb] at hx; cases hx
      | true =>
        rw [hb] at hx
        have he : a.size = v.size := Nat.eq_of_beq_eq_true hb
        simp only [cond_true] at hx
        split at hx
        · rename_i y hy
          cases hx
          obtain ⟨d1, d2, rfl, hv1, hv2⟩ := hv
          have hvl := hv1.len
          obtain ⟨h3, h4⟩ := ih h2 hv2 hy
          refine ⟨by simp only [List.length_append]; omega, ?_⟩
          have e1 : (c1 ++ c2).drop (0 + (d1 ++ d2).length) = c2.drop (0 + d2.length) := by
            rw [List.length_append, Nat.zero_add, Nat.zero_add, List.drop_append, List.drop_of_length_le (by omega), List.nil_append]
            congr 1
            omega
          rw [e1]
          simp only [List.take_zero, List.nil_append] at h4 ⊢
          exact ⟨d1, d2 ++ c2.drop (0 + d2.length), by rw [List.append_assoc], hv1, h4⟩
        · cases hx
    | off + 1, vs =>
      simp only [putA] at hx
      cases hb : Nat.ble a.size (off + 1) with
      | false => rw [hb] at hx; cases hx
      | true =>
        rw [hb] at hx
        have hle : a.size ≤ off + 1 := Nat.le_of_ble_eq_true hb
        simp only [cond_true] at hx
        split at hx
        · rename_i y hy
          cases hx
          obtain ⟨h3, h4⟩ := ih h2 hv hy
          refine ⟨by rw [List.length_append]; omega, ?_⟩
          have e1 : (c1 ++ c2).take (off + 1) = c1 ++ c2.take (off + 1 - a.size) := by
            rw [List.take_append, List.take_of_length_le (by omega), hl]
          have e2 : (c1 ++ c2).drop (off + 1 + ds.length) = c2.drop (off + 1 - a.size + ds.length) := by
            rw [List.drop_append, List.drop_of_length_le (by omega), List.nil_append]
            congr 1
            omega
          rw [e1, e2, List.append_assoc, List.append_assoc]
          exact ⟨c1, _, rfl, h1, by rw [← List.append_assoc]; exact h4⟩
        · cases hx

/-! the cells of what lies in memory hold one value each -/
theorem Tr.one : ∀ {T : Ty} {F : Fl} {id : Id} {p : List Nat} {cs : List Value} {x : T.den}, Tr G w T F id p cs x → ∀ v ∈ cs, v.oneCell' = true := by
  intro T
  induction T with
  | int k => intro F id p cs x h v hv; rw [h.1] at hv; simp at hv; subst hv; rfl
  | bool => intro F id p cs x h v hv; rw [show cs = _ from h] at hv; simp at hv; subst hv; rfl
  | pt => intro F id p cs x h v hv; rw [show cs = _ from h] at hv; simp at hv; subst hv; rfl
  | str => intro F id p cs x h v hv; rw [h.1] at hv; simp at hv; subst hv; rfl
  | sl e ih => intro F id p cs x h v hv; obtain ⟨A, n, c, h, _⟩ := h; rw [h] at hv; simp at hv; subst hv; rfl
  | arr n e ih =>
    intro F id p cs x h v hv
    obtain ⟨h1, h2, h3⟩ := h
    obtain ⟨i, hi, rfl⟩ := List.getElem_of_mem hv
    rw [h1] at hi
    have hs : 0 < e.size := by
      rcases Nat.eq_zero_or_pos e.size with h0 | h0
      · rw [h0] at hi; omega
      · exact h0
    have hd : i / e.size < n := by rw [Nat.div_lt_iff_lt_mul hs]; exact hi
    have hm := Nat.mod_lt i hs
    have hx := h3 (i / e.size) (x[i / e.size]'(by rw [h2]; exact hd)) (List.getElem?_eq_getElem _)
    refine ih hx _ (List.mem_iff_getElem?.2 ⟨i % e.size, ?_⟩)
    rw [List.getElem?_take_of_lt hm, List.getElem?_drop]
    have := Nat.div_add_mod i e.size
    rw [Nat.mul_comm] at this
    rw [this]
    exact List.getElem?_eq_getElem _
  | pr a b iha ihb =>
    intro F id p cs x h v hv
    obtain ⟨c1, c2, rfl, h1, h2⟩ := h
    rcases List.mem_append.1 hv with hv | hv
    · exact iha h1 v hv
    · exact ihb h2 v hv
end
section
variable {G : Gh} {w : World}
theorem MtA.one (hρ : RhoOk G) {a : At} {cs : List Value} (h : MtA G w a cs) : ∀ v ∈ cs, v.oneCell' = true := by
  intro v hv
  cases a with
  | d T F x => exact h.2.one v hv
  | kb b => rw [show cs = _ from h] at hv; simp at hv; subst hv; rfl
  | nils => rw [show cs = _ from h] at hv; simp at hv; subst hv; rfl
  | own id => rw [show cs = _ from h] at hv; simp at hv; subst hv; exact hρ id
  | ptr id off => obtain ⟨b, _, h⟩ := h; rw [h] at hv; simp at hv; subst hv; rfl
  | opt id i sz off T => obtain ⟨b, o, n, c, _, h⟩ := h; rw [h] at hv; simp at hv; subst hv; rfl
  | rpt o T F x => obtain ⟨_, _, b, off, C, t, fz, h, _⟩ := h; rw [h] at hv; simp at hv; subst hv; rfl
  | nilp => rw [show cs = _ from h] at hv; simp at hv; subst hv; rfl
  | junk => obtain ⟨u, hu, h⟩ := h; rw [h] at hv; simp at hv; subst hv; exact hu
  | anyb P => obtain ⟨b, h, _⟩ := h; rw [h] at hv; simp at hv; subst hv; rfl
  | sub id lo hi sz inn => obtain ⟨A, n, c, _, _, _, _, h⟩ := h; rw [h] at hv; simp at hv; subst hv; rfl
  | chp id i => obtain ⟨ps, A, _, _, h⟩ := h; rw [h] at hv; simp at hv; subst hv; rfl
  | chf id i off => obtain ⟨ps, b, _, _, h⟩ := h; rw [h] at hv; simp at hv; subst hv; rfl
  | lnk id0 off id i sz => rcases h with ⟨_, b, _, h⟩ | ⟨k, ps, b, _, _, _, h⟩ <;> (rw [h] at hv; simp at hv; subst hv; rfl)
  | vp id off i n e => obtain ⟨b, _, h⟩ := h; rw [h] at hv; simp at hv; subst hv; rfl
  | vsl id off n sz => obtain ⟨b, _, h⟩ := h; rw [h] at hv; simp at hv; subst hv; rfl
theorem MtL.one' (hρ : RhoOk G) : ∀ {l : List At} {cs : List Value}, MtL G w l cs → ∀ v ∈ cs, v.oneCell' = true := by
  intro l
  induction l with
  | nil => intro cs h v hv; rw [show cs = [] from h] at hv; cases hv
  | cons a r ih =>
    intro cs h v hv
    obtain ⟨c1, c2, rfl, h1, h2⟩ := h
    rcases List.mem_append.1 hv with hv | hv
    · exact h1.one hρ v hv
    · exact ih h2 v hv
end

/-! ### What turns -/
section
variable {old chg : Id → Prop} {G : Gh} {w : World}
theorem heap_alloc_new' (w : World) (o : Obj) : (w.alloc o).heap[w.heap.size]? = some o := by simp only [World.alloc]; exact Array.getElem?_push_size
theorem run_newObj' {P : Program} (w : World) (o : Obj) : (newObj o).run P w = .ok w.heap.size (w.alloc o) := rfl
theorem heap_alloc_get (w : World) (o : Obj) {b : Nat} (h : b < w.heap.size) : (w.alloc o).heap[b]? = w.heap[b]? := Below.heap_alloc w o b h
/-- a new block; 'f': what the ids stand for, 'lab': whose it is -/
theorem Chg.alloc (hb : ∀ b, G.g b ≠ .no → b < w.heap.size) (o : Obj) {f : Id → Value} {lab : Lab} (hf : ∀ id, old id → f id = G.ρ id) (h1 : RhoOk G → ∀ id, (f id).oneCell' = true) :
    Chg old chg G ⟨f, fun b => if b = w.heap.size then lab else G.g b⟩ w (w.alloc o) := by
  have ne : ∀ b, G.g b ≠ .no → b ≠ w.heap.size := fun b h e => by have := hb b h; omega
  refine ⟨hf, ⟨fun b h => ?_, fun b h => ?_⟩, fun b id p h _ => ?_, fun b hlt h => ?_, fun b h => ?_, h1, rfl, rfl, rfl, by simp⟩
  · have hn := hb b (by rw [h]; simp)
    exact ⟨by simp only; rw [if_neg (by omega)]; exact h, heap_alloc_get w o hn⟩
  · have hn := hb b (by rw [h]; simp)
    exact ⟨by simp only; rw [if_neg (by omega)]; exact h, heap_alloc_get w o hn⟩
  · have hn := hb b (by rw [h]; simp)
    exact ⟨by simp only; rw [if_neg (by omega)]; exact h, heap_alloc_get w o hn⟩
  · exact ⟨heap_alloc_get w o hlt, by simp only; rw [if_neg (by omega), h]⟩
  · simp only at h
    rw [World.size_alloc]
    split at h
    · omega
    · have := hb b h; omega
theorem setRow_get (w : World) (g : Nat) (cs : Array Value) {b : Nat} (h : b ≠ g) : (w.setRow g cs).heap[b]? = w.heap[b]? := setRow_other w g b cs h
theorem setRow_size (w : World) (g : Nat) (cs : Array Value) : (w.setRow g cs).heap.size = w.heap.size := by simp [World.setRow]
/-- a block that belongs to what an id stands for is written -/
theorem Chg.setRow (hb : ∀ b, G.g b ≠ .no → b < w.heap.size) {blk : Nat} {id0 : Id} {p0 : List Nat} (hl : G.g blk = .own id0 p0) (hc : chg id0) (cs : Array Value) : Chg old chg G G w (w.setRow blk cs) := by
  refine ⟨fun _ _ => rfl, ⟨fun b h => ⟨h, setRow_get w blk cs (fun e => by rw [e, hl] at h; cases h)⟩, fun b h => ⟨h, setRow_get w blk cs (fun e => by rw [e, hl] at h; cases h)⟩⟩, fun b id p h hn => ⟨h, setRow_get w blk cs (fun e => ?_)⟩,
    fun b _ h => ⟨setRow_get w blk cs (fun e => by rw [e, hl] at h; cases h), h⟩, fun b h => by rw [setRow_size]; exact hb b h, fun h => h, rfl, rfl, rfl, by rw [setRow_size]; exact Nat.le_refl _⟩
  rw [e, hl] at h
  cases h
  exact hn hc
end
section
variable {P : Program} {tt : TT} (T : TtOk P tt) {old : Id → Prop} {G : Gh} {w : World} {lk : Id → Option Res} (hb : ∀ b, G.g b ≠ .no → b < w.heap.size) (h1 : RhoOk G)
theorem MtV.cells {ag : Bool} {l : List At} {v : Value} (h : MtV G w ag l v) : MtL G w l v.cells.toList := by
  cases ag with
  | true => obtain ⟨cs, rfl, h⟩ := h; simpa [Value.cells] using h
  | false =>
    have : v.cells = #[v] := by cases v <;> first | rfl | (simp [MtV, Value.oneCell'] at h)
    rw [this]
    exact h.2
theorem take_flatten {α : Type} {s : Nat} {c : List α} (hc : c.length = s) : ∀ {n j : Nat} (t : List α), j < n → (((List.replicate n c).flatten ++ t).drop (j * s)).take s = c := by
  intro n
  induction n with
  | zero => intro j t h; omega
  | succ n ih =>
    intro j t h
    rw [List.replicate_succ, List.flatten_cons, List.append_assoc]
    cases j with
    | zero => rw [Nat.zero_mul, List.drop_zero, List.take_append_of_le_length (by omega), List.take_of_length_le (by omega)]
    | succ j =>
      rw [Nat.succ_mul, Nat.add_comm, ← List.drop_drop, ← hc, List.drop_left, hc]
      exact ih t (by omega)
theorem Tr.zero : ∀ (T : Ty) {F : Fl} {id : Id} {p : List Nat}, T.noO F = true → Tr G w T F id p (zeroCells T) T.dflt := by
  intro T
  induction T with
  | int k => intro F id p _; exact ⟨rfl, show inR k (0 : Int) by cases k <;> simp [inR, IntKind.min, IntKind.max, IntKind.signed, IntKind.bits]⟩
  | bool => intro F id p _; rfl
  | pt => intro F id p _; rfl
  | str => intro F id p _; exact ⟨rfl, Nat.zero_le _⟩
  | sl e ih =>
    intro F id p h
    simp only [Ty.noO, Bool.and_eq_true] at h
    exact ⟨none, 0, 0, rfl, rfl, Nat.le_refl _, by simp [maxL], fun _ => h.2, .inl ⟨fun _ => rfl, rfl⟩⟩
  | pr a b iha ihb =>
    intro F id p h
    simp only [Ty.noO, Bool.and_eq_true] at h
    exact ⟨_, _, rfl, iha h.1, ihb h.2⟩
  | arr n e ih =>
    intro F id p _
    have hl : (zeroCells e).length = e.size := Tr.len (ih (F := pF) (id := default) (p := []) (noO_p e))
    refine ⟨?_, List.length_replicate, fun j x hx => ?_⟩
    · show ((List.replicate n (zeroCells e)).flatten).length = _
      rw [List.length_flatten, List.map_replicate, List.sum_replicate_nat, hl]
    · have hx' : (List.replicate n e.dflt)[j]? = some x := hx
      rw [List.getElem?_replicate] at hx'
      split at hx'
      · rename_i hj
        cases hx'
        have := take_flatten hl [] hj
        rw [List.append_nil] at this
        show Tr G w e pF default [] ((((List.replicate n (zeroCells e)).flatten).drop _).take _) _
        rw [this]
        exact ih (noO_p e)
      · cases hx'
theorem zeroOf_sound : ∀ Tz : Ty, MtL G w (zeroOf Tz) (zeroCells Tz) := by
  intro Tz
  induction Tz with
  | int k => exact .one ⟨rfl, rfl, by cases k <;> simp [inR, IntKind.min, IntKind.max, IntKind.signed, IntKind.bits]⟩
  | bool => exact .one ⟨rfl, rfl⟩
  | str => exact .one ⟨rfl, rfl, by simp⟩
  | sl e => exact .one rfl
  | pt => exact .one rfl
  | pr a b iha ihb => exact iha.append ihb
  | arr n e ih => exact .one ⟨rfl, Tr.zero (.arr n e) (F := pF) rfl⟩

include hb in
/-- a new variable -/
theorem does_new {id : Id} (hid : ¬ old id) {l : List At} {cs : Array Value} {t : TypeId} {s : Sem Next} (hids : ∀ j ∈ idsL l, old j) (hr : s.run P w = .ok (.value (.pointer (some ⟨w.heap.size, 0, none⟩))) (w.alloc (.cells cs t))) (m : MtL G w l cs.toList) :
    Does P old G w s ⟨atom (.ptr id 0), [(id, some (.var l))], []⟩ := by
  have hc : Chg old (fun i => i ∈ ([(id, some (Res.var l))] : List (Id × Option Res)).map (·.1)) G ⟨fun i => if i = id then .pointer (some ⟨w.heap.size, 0, none⟩) else G.ρ i, fun b => if b = w.heap.size then .own id [] else G.g b⟩ w (w.alloc (.cells cs t)) :=
    .alloc hb _ (fun i hi => by rw [if_neg (fun (e : i = id) => hid (e ▸ hi))]) (fun h1 i => by split <;> first | rfl | exact h1 i)
  refine ⟨_, _, _, _, hr, .inl rfl, hc, .of1 rfl ⟨w.heap.size, by simp, rfl⟩, fun i R hi => ?_⟩
  simp only [List.mem_singleton, Prod.mk.injEq, Option.some.injEq] at hi
  obtain ⟨rfl, rfl⟩ := hi
  exact ⟨w.heap.size, cs, t, by simp, by simp, heap_alloc_new' w _, m.keep hc hids⟩
include hb in
theorem does_box {id : Id} (hid : ¬ old id) {ag : Bool} {l : List At} {v : Value} {t : TypeId} (hids : ∀ j ∈ idsL l, old j) (m : MtS G w (.v ag l) v) :
    Does P old G w (do pure (.value (← Instr.box t v))) ⟨atom (.ptr id 0), [(id, some (.var l))], []⟩ :=
  does_new hb hid hids (cs := v.cells) (t := t) (by simp [Instr.box, newVar, newRow, run_newObj']) (MtV.cells m)
theorem zero_ids : ∀ T : Ty, idsL (zeroOf T) = [] := by
  intro T
  induction T with
  | pr a b iha ihb => 
    show idsL (zeroOf a ++ zeroOf b) = []
    have : ∀ l m : List At, idsL (l ++ m) = idsL l ++ idsL m := by
      intro l m
      induction l with
      | nil => rfl
      | cons a r ih => simp only [List.cons_append, idsL, ih, List.append_assoc]
    rw [this, iha, ihb]; rfl
  | _ => rfl
theorem mkV_cells {te : TE} {t : TypeId} (T : TtOk P tt) (h : ttOf tt t = some te) : (mkV te.ag (zeroCells te.T)).cells = (zeroCells te.T).toArray := by
  cases ha : te.ag with
  | true => rfl
  | false =>
    have h1 := size_one T h ha
    have hl := (zeroOf_sound (G := ⟨fun _ => undef, fun _ => .no⟩) (w := default) te.T)
    unfold mkV
    cases hT : te.T with
    | pr a b => 
      exfalso
      obtain ⟨r, _, c⟩ := T.at h
      have h1 := r.ag
      rw [ha] at h1
      unfold TE.di at h1
      unfold teChk at c
      cases hf : te.fts with
      | nil => rw [hf, hT] at c; simp at c
      | cons x xs => rw [hf] at h1; simp [DI.agg] at h1
    | arr n e =>
      exfalso
      obtain ⟨r, _, c⟩ := T.at h
      have h1 := r.ag
      rw [ha] at h1
      unfold TE.di at h1
      cases hf : te.fts with
      | nil => rw [hf, hT] at h1; simp [DI.agg] at h1
      | cons x xs => rw [hf] at h1; simp [DI.agg] at h1
    | int k => rfl
    | bool => rfl
    | str => rfl
    | sl e => rfl
    | pt => rfl
include hb in
theorem does_alloc (T : TtOk P tt) {id : Id} (hid : ¬ old id) {t : TypeId} {te : TE} (h : ttOf tt t = some te) :
    Does P old G w (do pure (.value (← Instr.alloc t true (.tuple #[])))) ⟨atom (.ptr id 0), [(id, some (.var (zeroOf te.T)))], []⟩ :=
  does_new hb hid (by rw [zero_ids]; intro j hj; cases hj) (cs := (zeroCells te.T).toArray) (t := t) (by simp [Instr.alloc, newVar, newRow, run_newObj', run_zero_at T h, mkV_cells T h]) (zeroOf_sound te.T)

/-! ### Reading -/
theorem ofTy_sound (h1 : RhoOk G) {ag : Bool} {l : List At} {cs : List Value} {s : SV} {t' : List Id} (m : MtL G w l cs) (hl : ag = false → cs.length = 1) (hx : (SV.ofTy ag l).exec lk = some (s, t')) : MtS G w s (mkV ag cs) := by
  cases ag with
  | true => obtain ⟨rfl, _⟩ := exec_ok hx; exact ⟨cs, rfl, m⟩
  | false =>
    have hl := hl rfl
    match l, cs with
    | [a], [v] =>
      obtain ⟨rfl, _⟩ := exec_ok hx
      exact ⟨m.one' h1 v (by simp), m⟩
    | [], _ => exact exec_fail hx
    | _ :: _ :: _, _ => exact exec_fail hx
    | [_], [] => simp at hl
    | [_], _ :: _ :: _ => simp at hl
theorem atomsOf_sound : ∀ (T : Ty) (F : Fl) (id : Id) (p : List Nat) (cs : List Value) (x : T.den), T.noO F = true → Tr G w T F id p cs x → MtL G w (atomsOf T F x) cs := by
  intro T
  induction T with
  | pr a b iha ihb =>
    intro F id p cs x h0 h
    simp only [Ty.noO, Bool.and_eq_true] at h0
    obtain ⟨c1, c2, rfl, h1, h2⟩ := h
    exact (iha _ _ _ _ _ h0.1 h1).append (ihb _ _ _ _ _ h0.2 h2)
  | int k => intro F id p cs x h0 h; exact .one ⟨rfl, h⟩
  | bool => intro F id p cs x h0 h; exact .one ⟨rfl, h⟩
  | pt => intro F id p cs x h0 h; exact .one h
  | str => intro F id p cs x h0 h; exact .one ⟨rfl, h⟩
  | sl e ih => intro F id p cs x h0 h; exact .one ⟨h0, h.keep (.refl G w) h0⟩
  | arr n e ih => intro F id p cs x h0 h; exact .one ⟨rfl, h⟩
theorem beqT {a b : Ty} {α : Type} {x : Req α} {r : α × List Id} (h : (bif Ty.beq a b then x else .fail).exec lk = some r) : a = b ∧ x.exec lk = some r := by
  cases hb : Ty.beq a b with
  | false => rw [hb] at h; exact exec_fail (b := r.1) (t := r.2) h
  | true => rw [hb] at h; exact ⟨Ty.eq_of_beq hb, h⟩
theorem condR {b : Bool} {α : Type} {x : Req α} {r : α × List Id} (h : (bif b then x else .fail).exec lk = some r) : b = true ∧ x.exec lk = some r := by
  cases b with
  | false => exact exec_fail (b := r.1) (t := r.2) h
  | true => exact ⟨rfl, h⟩
theorem part_base {T T' : Ty} {F : Fl} {id : Id} {p : List Nat} {cs : List Value} {x : T.den} {off : Nat} {z : T'.den} {F' : Fl} (h : Tr G w T F id p cs x)
    (hz : (bif Nat.beq off 0 && Ty.beq T T' then some (tcast T T' x) else none) = some z) (hF : (bif Nat.beq off 0 && Ty.beq T T' then some F else none) = some F') :
    off + T'.size ≤ T.size ∧ ∃ id' p', Tr G w T' F' id' p' ((cs.drop off).take T'.size) z := by
  cases hc : (Nat.beq off 0 && Ty.beq T T') with
  | false => rw [hc] at hz; cases hz
  | true =>
    rw [hc] at hz hF
    simp only [cond_true, Option.some.injEq] at hz hF
    simp only [Bool.and_eq_true] at hc
    have h0 := Nat.eq_of_beq_eq_true hc.1
    have hT := Ty.eq_of_beq hc.2
    subst h0; subst hT; subst hF
    rw [tcast_self] at hz
    subst hz
    refine ⟨by omega, id, p, ?_⟩
    rw [List.drop_zero, List.take_of_length_le (by rw [h.len]; exact Nat.le_refl _)]
    exact h
theorem part_at : ∀ (T : Ty) (F : Fl) (id : Id) (p : List Nat) (cs : List Value) (x : T.den) (off : Nat) (T' : Ty) (z : T'.den) (F' : Fl), Tr G w T F id p cs x → partOf T x off T' = some z → partFl T F off T' = some F' →
    off + T'.size ≤ T.size ∧ ∃ id' p', Tr G w T' F' id' p' ((cs.drop off).take T'.size) z := by
  intro T
  induction T with
  | pr a b iha ihb =>
    intro F id p cs x off T' z F' h hz hF
    simp only [partOf, partFl] at hz hF
    cases hc : (Nat.beq off 0 && Ty.beq (.pr a b) T') with
    | true => rw [hc] at hz hF; exact part_base h (by rw [hc]; exact hz) (by rw [hc]; exact hF)
    | false =>
      rw [hc] at hz hF
      simp only [cond_false] at hz hF
      obtain ⟨c1, c2, rfl, h1, h2⟩ := h
      have hl := h1.len
      cases hlt : Nat.blt off a.size with
      | true =>
        rw [hlt] at hz hF
        obtain ⟨h3, id', p', h4⟩ := iha _ _ _ _ _ _ _ _ _ h1 hz hF
        refine ⟨by simp only [Ty.size]; omega, id', p', ?_⟩
        rw [List.drop_append_of_le_length (by omega), List.take_append_of_le_length (by rw [List.length_drop]; omega)]
        exact h4
      | false =>
        rw [hlt] at hz hF
        have hge : a.size ≤ off := by
          rcases Nat.lt_or_ge off a.size with h | h
          · rw [show Nat.blt off a.size = true from by rw [Nat.blt_eq]; exact h] at hlt; cases hlt
          · exact h
        obtain ⟨h3, id', p', h4⟩ := ihb _ _ _ _ _ _ _ _ _ h2 hz hF
        refine ⟨by simp only [Ty.size]; omega, id', p', ?_⟩
        rw [List.drop_append, List.drop_of_length_le (by omega), List.nil_append, hl]
        exact h4
  | int k => intro F id p cs x off T' z F' h hz hF; exact part_base h hz hF
  | bool => intro F id p cs x off T' z F' h hz hF; exact part_base h hz hF
  | pt => intro F id p cs x off T' z F' h hz hF; exact part_base h hz hF
  | str => intro F id p cs x off T' z F' h hz hF; exact part_base h hz hF
  | sl e ih => intro F id p cs x off T' z F' h hz hF; exact part_base h hz hF
  | arr n e ih => intro F id p cs x off T' z F' h hz hF; exact part_base h hz hF
theorem Chg.trans {chg : Id → Prop} {G1 G2 : Gh} {w1 w2 : World} (h : Chg old chg G G1 w w1) (k : Chg old chg G1 G2 w1 w2) : Chg old chg G G2 w w2 := by
  refine ⟨fun id hi => (k.rho id hi).trans (h.rho id hi), h.pb.trans k.pb, fun b id p hg hc => ?_, fun b hl hg => ?_, k.bnd, fun h1 => k.one (h.one h1), k.os.trans h.os, k.tape.trans h.tape, k.output.trans h.output, Nat.le_trans h.size k.size⟩
  · obtain ⟨h1, h2⟩ := h.own b id p hg hc
    obtain ⟨h3, h4⟩ := k.own b id p h1 hc
    exact ⟨h3, h4.trans h2⟩
  · obtain ⟨h1, h2⟩ := h.no b hl hg
    have hl' := Nat.lt_of_lt_of_le hl h.size
    exact ⟨((k.no b hl' h2).1).trans h1, (k.no b hl' h2).2⟩
theorem Chg.le {chg chg' : Id → Prop} {G' : Gh} {w' : World} (hc : ∀ i, chg i → chg' i) (h : Chg old chg G G' w w') : Chg old chg' G G' w w' :=
  ⟨h.rho, h.pb, fun b id p hg hn => h.own b id p hg (fun hi => hn (hc id hi)), h.no, h.bnd, h.one, h.os, h.tape, h.output, h.size⟩

include hb in
/-- one element of a slice that is owned, laid open -/
theorem lay_open {id idb : Id} {e : Ty} {f : Fl} {y : List e.den} {i : Nat} {cs : List At} {us : List (Id × Option Res)} (hi : i < y.length) (hold : old id) (hfr : ∀ k, ¬ old (idb.plus k)) (hr : ResOk G w id (.sl e f y))
    (ho : openOf e f (y.getD i e.dflt) idb = (cs, us)) (hone : RhoOk G) :
    ∃ G', Chg old (fun j => j = id) G G' w w ∧ ResOk G' w id (.slo e f y i cs) ∧ ∀ j R, (j, some R) ∈ us → ResOk G' w j R := by
  classical
  obtain ⟨A, n, c, hcs, hn, hc, hm, hwf, h⟩ := hr
  rcases h with ⟨_, h⟩ | ⟨b, off, C, t, fz, hA, hl, hh, hs, hw, hj⟩
  · subst h; exfalso; omega
  have hfl : (Fl.sl Fo.w f).hd = .w := rfl
  have hfe : (Fl.sl Fo.w f).el = f := rfl
  obtain ⟨rfl, hs'⟩ := hw hfl
  rw [hfl] at hl
  rw [hfe] at hj
  simp only [List.nil_append] at hj
  have hy : y[i]? = some (y.getD i e.dflt) := by rw [List.getD_eq_getElem?_getD, List.getElem?_eq_getElem hi]; rfl
  have hel := hj i _ hy
  have hin : off + i * e.size + e.size ≤ C.size := by
    have : (i + 1) * e.size ≤ c * e.size := Nat.mul_le_mul_right _ (by omega)
    rw [Nat.succ_mul] at this
    omega
  have hlen := cellsAt_len hin
  -- the cells that the new ids stand for
  let ρ' : Id → Value := fun j => if h : ∃ k, k < e.size ∧ j = idb.plus k then (cellsAt C (off + i * e.size) e.size).getD h.choose (.bool false) else G.ρ j
  have hρo : ∀ j, old j → ρ' j = G.ρ j := fun j hj => by
    simp only [ρ']
    rw [dif_neg]
    rintro ⟨k, _, rfl⟩
    exact hfr k hj
  have hρn : ∀ k v, (cellsAt C (off + i * e.size) e.size)[k]? = some v → ρ' (idb.plus k) = v := fun k v hv => by
    have hk : k < e.size := by
      have := (List.getElem?_eq_some_iff.1 hv).1
      omega
    have hex : ∃ k', k' < e.size ∧ idb.plus k = idb.plus k' := ⟨k, hk, rfl⟩
    simp only [ρ']
    rw [dif_pos hex]
    have h1 := hex.choose_spec.2
    have : hex.choose = k := by
      cases idb
      simp [Id.plus] at h1 ⊢
      have := h1
      omega
    rw [this, List.getD_eq_getElem?_getD, hv]
    rfl
  let g' : Nat → Lab := fun b' => match G.g b' with
    | .own j q => if j = id then (match q with
        | k :: q' => if k = i then (match relab e f idb q' with | some (j', r) => .own j' r | none => .own j q) else .own j q
        | [] => .own j q) else .own j q
    | l => l
  have hg_own : ∀ b' q j' r, G.g b' = .own id ([i] ++ q) → relab e f idb q = some (j', r) → g' b' = .own j' r := fun b' q j' r h1 h2 => by simp [g', h1, h2]
  have hg_oth : ∀ b' j q, G.g b' = .own j q → (j = id → ∀ q', q ≠ i :: q') → g' b' = .own j q := fun b' j q h1 h2 => by
    simp only [g', h1]
    split
    · rename_i hji
      cases q with
      | nil => rfl
      | cons k q' =>
        simp only
        rw [if_neg]
        rintro rfl
        exact h2 hji q' rfl
    · rfl
  have hpb : KeepPB G ⟨ρ', g'⟩ w w := ⟨fun b' h => ⟨by simp [g', h], rfl⟩, fun b' h => ⟨by simp [g', h], rfl⟩⟩
  have hopen := open_sound hpb e f id [i] _ _ idb hel (fun b' q j' r h1 h2 => ⟨hg_own b' q j' r h1 h2, rfl⟩) hρn
  rw [ho] at hopen
  refine ⟨⟨ρ', g'⟩, ⟨hρo, hpb, fun b' j q h1 h2 => ⟨hg_oth b' j q h1 (fun h => absurd h h2), rfl⟩, fun b' _ h1 => ⟨rfl, by simp [g', h1]⟩, fun b' h1 => ?_, fun _ j => ?_, rfl, rfl, rfl, Nat.le_refl _⟩,
    ⟨b, off, C, t, n, c, ?_, hn, hc, hm, by omega, hg_oth b id [] hl (fun _ q' => by simp), hh, hs', fun k z hk hz => ?_, hopen.1⟩, hopen.2⟩
  · refine hb b' fun h2 => h1 ?_
    simp [g', h2]
  · simp only [ρ']
    split
    · rename_i hex
      rw [List.getD_eq_getElem?_getD]
      cases hv : (cellsAt C (off + i * e.size) e.size)[hex.choose]? with
      | none => rfl
      | some v => exact hel.one v (List.mem_of_getElem? hv)
    · exact hone j
  · show ρ' id = _
    rw [hρo id hold, ← hA]
    simpa using hcs
  · refine Tr.mono hpb (fun b' q h1 => ⟨hg_oth b' id _ h1 (fun _ q' h => ?_), rfl⟩) (hj k z hz)
    simp at h
    exact hk h.1
end
end Go.Sx
