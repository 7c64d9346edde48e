/- Symbolic execution, part H: laying a value open into atoms, and packing atoms into a value. -/
import Derived.Test.YtbnmeeajooljmaaSxG
set_option linter.all false
namespace Go.Sx
open Go Go.RowKit

theorem Id.plus_zero (a : Id) : a.plus 0 = a := rfl
theorem Id.plus_plus (a : Id) (m n : Nat) : (a.plus m).plus n = a.plus (m + n) := by cases a; simp [Id.plus, Nat.add_assoc]
theorem hasN_iff {l : List Id} {n : Id} : hasN l n = true ↔ n ∈ l := by
  induction l with
  | nil => simp [hasN]
  | cons x xs ih =>
    simp only [hasN, Bool.or_eq_true, ih, List.mem_cons]
    constructor
    · rintro (h | h)
      · exact .inl (Id.eq_of_beq h).symm
      · exact .inr h
    · rintro (rfl | h)
      · exact .inl (Id.beq_self _)
      · exact .inr h
theorem nodupN_iff {l : List Id} : nodupN l = true ↔ l.Nodup := by
  induction l with
  | nil => simp [nodupN]
  | cons x xs ih =>
    simp only [nodupN, Bool.and_eq_true, Bool.not_eq_true', ih, List.nodup_cons]
    constructor
    · rintro ⟨h1, h2⟩
      exact ⟨(fun h => by rw [hasN_iff.2 h] at h1; cases h1), h2⟩
    · rintro ⟨h1, h2⟩
      refine ⟨?_, h2⟩
      cases h : hasN xs x with
      | false => rfl
      | true => exact absurd (hasN_iff.1 h) h1

/-! ### Laying open -/

/-- where what is owned at a place goes -/
def relab : (T : Ty) → Fl → Id → List Nat → Option (Id × List Nat)
  | .sl _, F, n, q => match F.hd with
    | .w => some (n, q)
    | _ => none
  | .pr a b, F, n, q => match q with
    | 0 :: q' => relab a F.l n q'
    | 1 :: q' => relab b F.r (n.plus a.size) q'
    | _ => none
  | _, _, _, _ => none

theorem Tr.fl {G : Gh} {w : World} {e : Ty} {F F' : Fl} {id : Id} {p : List Nat} {cs : List Value} {x : List e.den} (h1 : F.hd = F'.hd) (h2 : F.el = F'.el) (h : Tr G w (.sl e) F id p cs x) : Tr G w (.sl e) F' id p cs x := by
  obtain ⟨A, n, c, hcs, hn, hc, hm, hwf, hb⟩ := h
  rw [h1, h2] at hwf
  refine ⟨A, n, c, hcs, hn, hc, hm, hwf, ?_⟩
  rcases hb with hb | ⟨b, off, C, t, fz, hA, hl, hh, hs, hw, hj⟩
  · exact .inl ⟨fun e => hb.1 (by rw [h1]; exact e), hb.2⟩
  · rw [h1] at hl hw
    rw [h2] at hj
    exact .inr ⟨b, off, C, t, fz, hA, hl, hh, hs, hw, hj⟩

theorem open_sound {G G' : Gh} {w w' : World} (hk : KeepPB G G' w w') : ∀ (T : Ty) (F : Fl) (id : Id) (p : List Nat) (cs : List Value) (x : T.den) (n : Id), Tr G w T F id p cs x →
    (∀ b q i r, G.g b = .own id (p ++ q) → relab T F n q = some (i, r) → G'.g b = .own i r ∧ w'.heap[b]? = w.heap[b]?) →
    (∀ (k : Nat) (v : Value), cs[k]? = some v → G'.ρ (n.plus k) = v) →
    MtL G' w' (openOf T F x n).1 cs ∧ ∀ i R, (i, some R) ∈ (openOf T F x n).2 → ResOk G' w' i R := by
  intro T
  induction T with
  | int k => intro F id p cs x n h _ _; exact ⟨.one ⟨rfl, h⟩, by simp [openOf]⟩
  | bool => intro F id p cs x n h _ _; exact ⟨.one ⟨rfl, h⟩, by simp [openOf]⟩
  | str => intro F id p cs x n h _ _; exact ⟨.one ⟨rfl, h⟩, by simp [openOf]⟩
  | arr k e _ => intro F id p cs x n h _ _; exact ⟨.one ⟨rfl, Tr.keep (T := .arr k e) (id := id) (p := p) hk rfl h⟩, by simp [openOf]⟩
  | pt => intro F id p cs x n h _ _; exact ⟨.one (a := .nilp) h, by simp [openOf]⟩
  | sl e _ =>
    intro F id p cs x n h hr hρ
    have h' := h
    obtain ⟨A, m, c, hcs, hm, hc, hmx, hwf, hb⟩ := h
    unfold openOf
    cases hF : F.hd with
    | w =>
      simp only
      have h0 := hρ 0 (.slice A m c) (by rw [hcs]; rfl)
      rw [Id.plus_zero] at h0
      refine ⟨.one (show cs = [G'.ρ n] by rw [h0, hcs]), fun i R hi => ?_⟩
      simp only [List.mem_singleton, Prod.mk.injEq, Option.some.injEq] at hi
      obtain ⟨rfl, rfl⟩ := hi
      show Tr G' w' (.sl e) (.sl .w F.el) i [] [G'.ρ i] x
      rw [h0, ← hcs]
      refine Tr.fl (F := F) (by rw [hF]; rfl) rfl (Tr.mono hk (fun b q hq => ?_) h')
      exact hr b q i q hq (by simp [relab, hF])
    | p =>
      have h0 : Ty.noO (.sl e) F = true := by simp [Ty.noO, hF, Fo.isO, hwf (by rw [hF]; rfl)]
      exact ⟨.one ⟨h0, Tr.keep hk h0 h'⟩, by simp⟩
    | b =>
      have h0 : Ty.noO (.sl e) F = true := by simp [Ty.noO, hF, Fo.isO, hwf (by rw [hF]; rfl)]
      exact ⟨.one ⟨h0, Tr.keep hk h0 h'⟩, by simp⟩
  | pr a b iha ihb =>
    intro F id p cs x n h hr hρ
    obtain ⟨c1, c2, rfl, h1, h2⟩ := h
    have hl := h1.len
    obtain ⟨m1, r1⟩ := iha F.l id (p ++ [0]) c1 x.1 n h1 (fun b q i r hq hi => hr b (0 :: q) i r (by simpa using hq) (by simpa [relab] using hi))
      (fun k v hk => hρ k v (by rw [List.getElem?_append_left (List.getElem?_eq_some_iff.1 hk).1]; exact hk))
    obtain ⟨m2, r2⟩ := ihb F.r id (p ++ [1]) c2 x.2 (n.plus a.size) h2 (fun b q i r hq hi => hr b (1 :: q) i r (by simpa using hq) (by simpa [relab] using hi))
      (fun k v hk => by
        rw [Id.plus_plus]
        exact hρ (a.size + k) v (by rw [List.getElem?_append_right (by omega)]; rw [hl]; simpa using hk))
    simp only [openOf]
    refine ⟨m1.append m2, fun i R hi => ?_⟩
    rcases List.mem_append.1 hi with hi | hi
    · exact r1 i R hi
    · exact r2 i R hi

/-! ### Packing -/

/-- what becomes of the labels when what ids stand for is taken into the tree (id, p): what the ids 'm' names go to their places; what is lent is lent -/
structure Takes (G G' : Gh) (w w' : World) (m : Id → Option (List Nat)) (lent : List Id) (id : Id) (p : List Nat) : Prop where
  pb : KeepPB G G' w w'
  own : ∀ b i q pos, G.g b = .own i q → m i = some pos → G'.g b = .own id (p ++ pos ++ q) ∧ w'.heap[b]? = w.heap[b]?
  lend : ∀ b i q, G.g b = .own i q → i ∈ lent → G'.g b = .bor ∧ w'.heap[b]? = w.heap[b]?
theorem Takes.lends {G G' : Gh} {w w' : World} {m : Id → Option (List Nat)} {lent : List Id} {id : Id} {p : List Nat} (h : Takes G G' w w' m lent id p) : Lends G G' w := ⟨fun b hb => (h.pb.per b hb).1, fun b hb => (h.pb.bor b hb).1⟩

/-- lending, with the memory as it is -/
theorem Tr.lendK {G G' : Gh} {w w' : World} (hk : KeepPB G G' w w') {T : Ty} {F F' : Fl} {id id' : Id} {p p' : List Nat} {cs : List Value} {x : T.den}
    (ho : ∀ b q, G.g b = .own id (p ++ q) → G'.g b = .bor ∧ w'.heap[b]? = w.heap[b]?) (hf : flR Fo.lend T F F' = true) (h : Tr G w T F id p cs x) : Tr G' w' T F' id' p' cs x := by
  -- first the labels, in the old memory; then the memory
  classical
  let Gm : Gh := ⟨G.ρ, fun b => match G.g b with | .own i q => if i = id ∧ ∃ q', q = p ++ q' then .bor else .own i q | l => l⟩
  have h1 : Tr Gm w T F' id' p' cs x := by
    refine Tr.lend (G' := Gm) ⟨fun b hb => by simp [Gm, hb], fun b hb => by simp [Gm, hb]⟩ (fun b q hq => ?_) hf h
    simp only [Gm, hq]
    simp
  refine Tr.keep (G := Gm) (G' := G') ⟨fun b hb => ?_, fun b hb => ?_⟩ (noO_lend hf) h1
  · simp only [Gm] at hb
    split at hb
    · split at hb <;> cases hb
    · exact hk.per b hb
  · simp only [Gm] at hb
    split at hb
    · rename_i i q hq
      split at hb
      · rename_i hc
        obtain ⟨rfl, q', rfl⟩ := hc
        exact ho b q' hq
      · cases hb
    · exact hk.bor b hb

/-- atoms packed as a value: it lies as the value, wherever it is taken -/
def Packs (G : Gh) (w : World) (e : Ty) (f : Fl) (c : List Value) (x : e.den) (ids lent : List Id) : Prop :=
  ids.Nodup → ∃ m : Id → Option (List Nat), (∀ i, m i ≠ none ↔ i ∈ ids) ∧
    ∀ (G' : Gh) (w' : World) (id : Id) (p : List Nat), Takes G G' w w' m lent id p → Tr G' w' e f id p c x
theorem Packs.keepL {G : Gh} {w : World} {e : Ty} {f : Fl} {c : List Value} {x : e.den} (h0 : e.noO f = true) (h : Tr G w e f default [] c x) : Packs G w e f c x [] [] :=
  fun _ => ⟨fun _ => none, by simp, fun G' w' id p ht => h.keep ht.pb h0⟩

theorem MtEls.get {G : Gh} {w : World} {sz : Nat} {C : Array Value} : ∀ {css : List (List At)} {off k : Nat} {l : List At}, MtEls G w sz C off css → css[k]? = some l → MtL G w l (cellsAt C (off + k * sz) sz) := by
  intro css
  induction css with
  | nil => intro off k l _ h; simp at h
  | cons a r ih =>
    intro off k l hm h
    cases k with
    | zero => simp at h; subst h; simpa using hm.1
    | succ k =>
      have := ih hm.2 (by simpa using h)
      rwa [show off + sz + k * sz = off + (k + 1) * sz by rw [Nat.add_mul]; omega] at this
/-- each packed -/
def PackOk (G : Gh) (w : World) (lk : Id → Option Res) (e : Ty) (f : Fl) : Prop :=
  ∀ (l : List At) (cs : List Value) (x : e.den) (r : List At) (ids lent : List Id) (t : List Id),
    MtL G w l cs → (pack e f l).exec lk = some (⟨x, r, ids, lent⟩, t) → ∃ c1 c2, cs = c1 ++ c2 ∧ c1.length = e.size ∧ MtL G w r c2 ∧ Packs G w e f c1 x ids lent
theorem packEach_sound {G : Gh} {w : World} {lk : Id → Option Res} {e : Ty} {f : Fl} (ih : PackOk G w lk e f) : ∀ (css : List (List At)) (cells : Nat → List Value) (k0 : Nat) (ys : List e.den) (ids lent : List Id) (t : List Id),
    (∀ k l, css[k]? = some l → MtL G w l (cells (k0 + k))) → (packEach (pack e f) css).exec lk = some ((ys, ids, lent), t) →
    ys.length = css.length ∧ (ids.Nodup → ∃ m : Id → Option (List Nat), (∀ i, m i ≠ none ↔ i ∈ ids) ∧
      ∀ (G' : Gh) (w' : World) (id : Id) (p : List Nat), Takes G G' w w' m lent id p → ∀ k y, ys[k]? = some y → Tr G' w' e f id (p ++ [k0 + k]) (cells (k0 + k)) y) := by
  intro css
  induction css with
  | nil =>
    intro cells k0 ys ids lent t _ hx
    obtain ⟨hp, _⟩ := exec_ok hx
    cases hp
    exact ⟨rfl, fun _ => ⟨fun _ => none, by simp, fun G' w' id p _ k y h => by simp at h⟩⟩
  | cons l css ihl =>
    intro cells k0 ys ids lent t hm hx
    simp only [packEach] at hx
    obtain ⟨⟨y, r1, ids1, w1⟩, t1, t2, hx1, hx2, rfl⟩ := exec_bind hx
    cases r1 with
    | cons a as => exact exec_fail hx2
    | nil =>
      obtain ⟨⟨ys', ids2, w2⟩, t3, t4, hx3, hx4, rfl⟩ := exec_bind hx2
      obtain ⟨hp, _⟩ := exec_ok hx4
      cases hp
      obtain ⟨c1, c2, hc, hl1, hm1, hp1⟩ := ih _ _ _ _ _ _ _ (hm 0 l rfl) hx1
      have hc2 : c2 = [] := hm1
      subst hc2
      rw [List.append_nil, Nat.add_zero] at hc
      subst hc
      obtain ⟨hlen, hp2⟩ := ihl cells (k0 + 1) ys' ids2 w2 t3 (fun k l' h => by have := hm (k + 1) l' (by simpa using h); rwa [show k0 + (k + 1) = k0 + 1 + k by omega] at this) hx3
      refine ⟨by simp [hlen], fun hnd => ?_⟩
      obtain ⟨n1, n2, hdis⟩ := List.nodup_append.1 hnd
      obtain ⟨m1, hm1', ht1⟩ := hp1 n1
      obtain ⟨m2, hm2', ht2⟩ := hp2 n2
      refine ⟨fun i => match m1 i with | some q => some (k0 :: q) | none => m2 i, fun i => ?_, fun G' w' id p ht k z hz => ?_⟩
      · have a1 := hm1' i
        have a2 := hm2' i
        show (match m1 i with | some q => some (k0 :: q) | none => m2 i) ≠ none ↔ _
        rw [List.mem_append]
        cases h1 : m1 i with
        | some q => exact ⟨fun _ => Or.inl (a1.1 (by rw [h1]; simp)), fun _ => by simp⟩
        | none =>
          rw [h1] at a1
          have : i ∉ ids1 := fun h => (a1.2 h) rfl
          simp only [this, false_or, ← a2]
      · cases k with
        | zero =>
          simp only [List.getElem?_cons_zero, Option.some.injEq] at hz
          subst hz
          refine ht1 G' w' id (p ++ [k0]) ⟨ht.pb, fun b i q pos hb hi => ?_, fun b i q hb hi => ht.lend b i q hb (List.mem_append_left _ hi)⟩
          have := ht.own b i q (k0 :: pos) hb (by simp [hi])
          simpa using this
        | succ k =>
          rw [show k0 + (k + 1) = k0 + 1 + k by omega]
          refine ht2 G' w' id p ⟨ht.pb, fun b i q pos hb hi => ht.own b i q pos hb ?_, fun b i q hb hi => ht.lend b i q hb (List.mem_append_right _ hi)⟩ k z (by simpa using hz)
          have h1 : m1 i = none := by
            cases h1 : m1 i with
            | none => rfl
            | some q' => exact absurd rfl (hdis i ((hm1' i).1 (by rw [h1]; simp)) i ((hm2' i).1 (by rw [hi]; simp)))
          simp [h1, hi]

section
variable {G : Gh} {w : World}
theorem takeA_sound : ∀ {l : List At} {off n : Nat} {cs : List Value} {m : List At}, MtL G w l cs → takeA l off n = some m → off + n ≤ cs.length ∧ MtL G w m ((cs.drop off).take n) := by
  intro l
  induction l with
  | nil =>
    intro off n cs m h hx
    rw [show cs = [] from h]
    match off, n with
    | 0, 0 => simp only [takeA, Option.some.injEq] at hx; subst hx; exact ⟨by simp, rfl⟩
    | 0, n + 1 => simp [takeA] at hx
    | off + 1, n => simp [takeA] at hx
  | cons a r ih =>
    intro off n cs m h hx
    obtain ⟨c1, c2, rfl, h1, h2⟩ := h
    have hl := h1.len
    match off, n with
    | 0, 0 => simp only [takeA, Option.some.injEq] at hx; subst hx; exact ⟨by simp, by simp only [List.drop_zero, List.take_zero]; rfl⟩
    | 0, n + 1 =>
      simp only [takeA] at hx
      cases hb : Nat.ble a.size (n + 1) with
      | false => rw [hb] at hx; cases hx
      | true =>
        rw [hb] at hx
        have hle : a.size ≤ n + 1 := Nat.le_of_ble_eq_true hb
        simp only [cond_true] at hx
        split at hx
        · rename_i y hy
          cases hx
          obtain ⟨h3, h4⟩ := ih h2 hy
          refine ⟨by rw [List.length_append]; omega, ?_⟩
          rw [List.drop_zero, List.take_append, List.take_of_length_le (by omega), hl]
          exact ⟨c1, _, rfl, h1, by simpa using h4⟩
        · cases hx
    | off + 1, n =>
      simp only [takeA] at hx
      cases hb : Nat.ble a.size (off + 1) with
      | false => rw [hb] at hx; cases hx
      | true =>
        rw [hb] at hx
        have hle : a.size ≤ off + 1 := Nat.le_of_ble_eq_true hb
        simp only [cond_true] at hx
        obtain ⟨h3, h4⟩ := ih h2 hx
        refine ⟨by rw [List.length_append]; omega, ?_⟩
        rw [List.drop_append, List.drop_of_length_le (by omega), List.nil_append, hl]
        exact h4
end
theorem flR_le_p : ∀ {T : Ty} {F : Fl}, T.noO F = true → flR Fo.le T pF F = true := by
  intro T
  induction T with
  | sl e ih =>
    intro F h
    simp only [Ty.noO, Bool.and_eq_true, Bool.not_eq_true'] at h
    simp only [flR, Bool.and_eq_true]
    refine ⟨?_, ih h.2⟩
    have h1 := h.1
    cases hF : F.hd <;> rw [hF] at h1 <;> first | rfl | cases h1
  | pr a b iha ihb =>
    intro F h
    simp only [Ty.noO, Bool.and_eq_true] at h
    simp only [flR, Bool.and_eq_true]
    exact ⟨iha h.1, ihb h.2⟩
  | _ => intro F _; rfl
theorem pack_sound {G : Gh} {w : World} {lk : Id → Option Res} (hrs : ∀ id R, lk id = some R → ResOk G w id R) : ∀ (e : Ty) (f : Fl) (l : List At) (cs : List Value) (x : e.den) (r : List At) (ids lent : List Id) (t : List Id),
    MtL G w l cs → (pack e f l).exec lk = some (⟨x, r, ids, lent⟩, t) → ∃ c1 c2, cs = c1 ++ c2 ∧ c1.length = e.size ∧ MtL G w r c2 ∧ Packs G w e f c1 x ids lent := by
  intro e
  induction e with
  | int k =>
    intro f l cs x r ids lent t hm hx
    simp only [pack] at hx
    split at hx
    · rename_i k' F n r'
      cases hk : Nat.beq (kindNo k) (kindNo k') with
      | false => rw [hk] at hx; exact exec_fail hx
      | true =>
        rw [hk] at hx
        have := kindNo_inj (Nat.eq_of_beq_eq_true hk)
        subst this
        obtain ⟨hp, _⟩ := exec_ok hx
        cases hp
        obtain ⟨c1, c2, rfl, h1, h2⟩ := hm
        exact ⟨c1, c2, rfl, h1.2.len, h2, .keepL rfl h1.2⟩
    · exact exec_fail hx
  | bool =>
    intro f l cs x r ids lent t hm hx
    simp only [pack] at hx
    split at hx
    · obtain ⟨hp, _⟩ := exec_ok hx
      cases hp
      obtain ⟨c1, c2, rfl, h1, h2⟩ := hm
      exact ⟨c1, c2, rfl, h1.2.len, h2, .keepL rfl h1.2⟩
    · obtain ⟨hp, _⟩ := exec_ok hx
      cases hp
      obtain ⟨c1, c2, rfl, h1, h2⟩ := hm
      exact ⟨c1, c2, rfl, h1.len, h2, .keepL rfl h1⟩
    · exact exec_fail hx
  | str =>
    intro f l cs x r ids lent t hm hx
    simp only [pack] at hx
    split at hx
    · obtain ⟨hp, _⟩ := exec_ok hx
      cases hp
      obtain ⟨c1, c2, rfl, h1, h2⟩ := hm
      exact ⟨c1, c2, rfl, h1.2.len, h2, .keepL rfl h1.2⟩
    · exact exec_fail hx
  | arr n e ih =>
    intro f l cs x r ids lent t hm hx
    simp only [pack] at hx
    split at hx
    · rename_i T F y r'
      cases hT : T.beq (.arr n e) with
      | false => rw [hT] at hx; exact exec_fail hx
      | true =>
        rw [hT] at hx
        have := Ty.eq_of_beq hT
        subst this
        obtain ⟨hp, _⟩ := exec_ok hx
        rw [tcast_self] at hp
        cases hp
        obtain ⟨c1, c2, rfl, h1, h2⟩ := hm
        exact ⟨c1, c2, rfl, h1.2.len, h2, .keepL rfl h1.2⟩
    · exact exec_fail hx
  | pt =>
    intro f l cs x r ids lent t hm hx
    simp only [pack] at hx
    split at hx
    · obtain ⟨hp, _⟩ := exec_ok hx
      cases hp
      obtain ⟨c1, c2, rfl, h1, h2⟩ := hm
      exact ⟨c1, c2, rfl, by rw [show c1 = _ from h1]; rfl, h2, fun _ => ⟨fun _ => none, by simp, fun G' w' id p _ => h1⟩⟩
    · exact exec_fail hx
  | pr a b iha ihb =>
    intro f l cs x r ids lent t hm hx
    simp only [pack] at hx
    obtain ⟨⟨y, r1, ids1, w1⟩, t1, t2, hx1, hx2, rfl⟩ := exec_bind hx
    obtain ⟨⟨y2, r2, ids2, w2⟩, t3, t4, hx3, hx4, rfl⟩ := exec_bind hx2
    obtain ⟨hp, _⟩ := exec_ok hx4
    cases hp
    obtain ⟨c1, d1, rfl, hl1, hm1, hp1⟩ := iha _ _ _ _ _ _ _ _ hm hx1
    obtain ⟨c2, d2, rfl, hl2, hm2, hp2⟩ := ihb _ _ _ _ _ _ _ _ hm1 hx3
    refine ⟨c1 ++ c2, d2, by rw [List.append_assoc], by rw [List.length_append, hl1, hl2]; rfl, hm2, fun hnd => ?_⟩
    obtain ⟨n1, n2, hdis⟩ := List.nodup_append.1 hnd
    obtain ⟨m1, hm1', ht1⟩ := hp1 n1
    obtain ⟨m2, hm2', ht2⟩ := hp2 n2
    refine ⟨fun i => match m1 i with | some q => some (0 :: q) | none => (m2 i).map (1 :: ·), fun i => ?_, fun G' w' id p ht => ⟨c1, c2, rfl, ht1 G' w' id (p ++ [0]) ⟨ht.pb, fun b i q pos hb hi => ?_, fun b i q hb hi => ht.lend b i q hb (List.mem_append_left _ hi)⟩,
      ht2 G' w' id (p ++ [1]) ⟨ht.pb, fun b i q pos hb hi => ?_, fun b i q hb hi => ht.lend b i q hb (List.mem_append_right _ hi)⟩⟩⟩
    · have a1 := hm1' i
      have a2 := hm2' i
      show (match m1 i with | some q => some (0 :: q) | none => (m2 i).map (1 :: ·)) ≠ none ↔ _
      rw [List.mem_append]
      cases h1 : m1 i with
      | some q => exact ⟨fun _ => Or.inl (a1.1 (by rw [h1]; simp)), fun _ => by simp⟩
      | none =>
        rw [h1] at a1
        have : i ∉ ids1 := fun h => (a1.2 h) rfl
        simp only [this, false_or, ← a2]
        cases m2 i <;> simp
    · have := ht.own b i q (0 :: pos) hb (by simp [hi])
      simpa using this
    · have h1 : m1 i = none := by
        cases h1 : m1 i with
        | none => rfl
        | some q' => exact absurd rfl (hdis i ((hm1' i).1 (by rw [h1]; simp)) i ((hm2' i).1 (by rw [hi]; simp)))
      have := ht.own b i q (1 :: pos) hb (by simp [h1, hi])
      simpa using this
  | sl e ih =>
    intro f l cs x r ids lent t hm hx
    have ih' : PackOk G w lk e f.el := ih f.el
    simp only [pack] at hx
    cases hwf : !(f.hd.isO || e.noO f.el) with
    | true => rw [hwf] at hx; exact exec_fail hx
    | false =>
      rw [hwf] at hx
      simp only [Bool.not_eq_eq_eq_not, Bool.not_false, Bool.or_eq_true] at hwf
      have hwf' : f.hd.isO = false → e.noO f.el = true := fun h => by rcases hwf with h' | h'; (rw [h] at h'; cases h'); exact h'
      simp only [cond_false] at hx
      split at hx
      · -- a variable's array
        rename_i id off n sz r'
        replace ⟨t', hx, _⟩ := exec_need hx
        split at hx
        · rename_i hhd
          split at hx
          · rename_i vcs hlk
            obtain ⟨b', C, tb, q1, q2, q3, q4⟩ := varOf_at hlk (hrs id)
            split at hx
            · rename_i n' e' F' y htk
              cases hT : Ty.beq e' e && (Nat.beq n' n && (Nat.beq sz e.size && Nat.ble n 1024)) with
              | false => rw [hT] at hx; exact exec_fail hx
              | true =>
                rw [hT] at hx
                simp only [Bool.and_eq_true] at hT
                obtain ⟨t1, t2, t3, t4⟩ := hT
                have := Ty.eq_of_beq t1
                subst this
                have t2 := Nat.eq_of_beq_eq_true t2
                have t3 := Nat.eq_of_beq_eq_true t3
                have t4 := Nat.le_of_ble_eq_true t4
                subst t2
                subst t3
                obtain ⟨hp, _⟩ := exec_ok hx
                rw [tcast_self] at hp
                cases hp
                obtain ⟨c1, c2, rfl, h1, h2⟩ := hm
                obtain ⟨b, g1, g2⟩ := h1
                rw [g1] at q1
                cases q1
                obtain ⟨k1, k2⟩ := takeA_sound q4 htk
                obtain ⟨_, k3, k4, k5⟩ := k2.one_inv
                have hnw : f.hd.isO = false := by rw [hhd]; rfl
                refine ⟨c1, c2, rfl, by rw [g2]; rfl, h2, fun _ => ⟨fun _ => none, by simp, fun G' w' id' p ht => ?_⟩⟩
                have hl : G'.g b' = .bor ∧ w'.heap[b']? = w.heap[b']? := q2.elim (fun q2 => ht.lend b' id [] q2 (by simp)) (fun q2 => ht.pb.bor b' q2)
                refine ⟨_, _, _, g2, k4.symm, Nat.le_refl _, by simp only [maxL]; omega, hwf', .inr ⟨b', off, C, tb, (0, 0), rfl, by rw [hhd]; exact .inr hl.1, by rw [hl.2]; exact q3, by simpa using k1, (fun h => by rw [hhd] at h; cases h), fun j x hx => ?_⟩⟩
                have hj : j < n' := by have := (List.getElem?_eq_some_iff.1 hx).1; rw [k4] at this; exact this
                have hmul : (j + 1) * e'.size ≤ n' * e'.size := Nat.mul_le_mul_right _ hj
                rw [Nat.add_mul, Nat.one_mul] at hmul
                have := k5 j x hx
                rw [show ((C.toList.drop off).take (n' * e'.size)) = cellsAt C off (n' * e'.size) from rfl, ← cellsAt_sub C off (n' * e'.size) (by omega)] at this
                exact Tr.le (flR_le_p (hwf' hnw)) (this.keep ht.pb (noO_p e'))
            · exact exec_fail hx
          · exact exec_fail hx
        · exact exec_fail hx
      · -- a value that is nobody's, or lent
        rename_i T F y r'
        cases hT : T.beq (.sl e) && flR Fo.le (.sl e) F f with
        | false => rw [hT] at hx; exact exec_fail hx
        | true =>
          rw [hT] at hx
          simp only [Bool.and_eq_true] at hT
          have := Ty.eq_of_beq hT.1
          subst this
          obtain ⟨hp, _⟩ := exec_ok hx
          rw [tcast_self] at hp
          cases hp
          obtain ⟨c1, c2, rfl, h1, h2⟩ := hm
          exact ⟨c1, c2, rfl, h1.2.len, h2, .keepL (noO_le hT.2 h1.1) (h1.2.le hT.2)⟩
      · -- nil
        obtain ⟨hp, _⟩ := exec_ok hx
        cases hp
        obtain ⟨c1, c2, rfl, h1, h2⟩ := hm
        refine ⟨c1, c2, rfl, by rw [show c1 = _ from h1]; rfl, h2, fun _ => ⟨fun _ => none, by simp, fun G' w' id p _ => ?_⟩⟩
        exact ⟨none, 0, 0, h1, rfl, Nat.le_refl _, by simp [maxL], hwf', .inl ⟨fun _ => rfl, rfl⟩⟩
      · rename_i id r'
        obtain ⟨c1, c2, rfl, h1, h2⟩ := hm
        have h1' : c1 = [G.ρ id] := h1
        subst h1'
        obtain ⟨t', hx, _⟩ := exec_need hx
        split at hx
        · -- taken in
          rename_i hhd
          split at hx
          · rename_i e' f' y hlk
            cases hT : e'.beq e && flR Fo.le e f' f.el with
            | false => rw [hT] at hx; exact exec_fail hx
            | true =>
              rw [hT] at hx
              simp only [Bool.and_eq_true] at hT
              have := Ty.eq_of_beq hT.1
              subst this
              obtain ⟨hp, _⟩ := exec_ok hx
              rw [tcast_self] at hp
              cases hp
              refine ⟨_, c2, rfl, rfl, h2, fun _ => ⟨fun i => if i = id then some [] else none, fun i => by simp, fun G' w' id0 p ht => ?_⟩⟩
              have hr : Tr G w (.sl e') (.sl .w f') id [] [G.ρ id] y := hrs id _ hlk
              have hr1 : Tr G w (.sl e') f id [] [G.ρ id] y := Tr.le (F := .sl .w f') (by show (Fo.le .w f.hd && flR Fo.le e' f' f.el) = true; rw [hhd, hT.2]; rfl) hr
              refine Tr.mono ht.pb (fun b q hq => ?_) hr1
              have := ht.own b id q [] (by simpa using hq) (by simp)
              simpa using this
          · rename_i e' f' y j css hlk
            cases hT : e'.beq e && flR Fo.le e f' f.el with
            | false => rw [hT] at hx; exact exec_fail hx
            | true =>
              rw [hT] at hx
              simp only [Bool.and_eq_true] at hT
              have := Ty.eq_of_beq hT.1
              subst this
              simp only [cond_true] at hx
              obtain ⟨⟨z, r1, ids1, w1⟩, t1, t2, hx1, hx2, rfl⟩ := exec_bind hx
              cases r1 with
              | cons a as => exact exec_fail hx2
              | nil =>
                obtain ⟨hp, _⟩ := exec_ok hx2
                rw [tcast_self] at hp
                cases hp
                obtain ⟨b, off, C, tb, n, c, hρ, hn, hc, hmx, hj, hlb, hh, hs, hel, hcs⟩ := hrs id _ hlk
                obtain ⟨d1, d2, hd, hl1, hm1, hp1⟩ := ih _ _ _ _ _ _ _ _ hcs hx1
                have hd2 : d2 = [] := hm1
                subst hd2
                rw [List.append_nil] at hd
                subst hd
                refine ⟨_, c2, rfl, rfl, h2, fun hnd => ?_⟩
                obtain ⟨hni, hnd'⟩ := List.nodup_cons.1 hnd
                obtain ⟨m1, hm1', ht1⟩ := hp1 hnd'
                refine ⟨fun i => if i = id then some [] else (m1 i).map (j :: ·), fun i => ?_, fun G' w' id0 p ht => ?_⟩
                · by_cases hi : i = id
                  · subst hi; simp
                  · simp only [if_neg hi, List.mem_cons, hi, false_or, ← hm1' i]
                    cases m1 i <;> simp
                · have hob := ht.own b id [] [] hlb (by simp)
                  simp only [List.append_nil] at hob
                  refine ⟨some ⟨b, off, none⟩, n, c, by rw [hρ], by rw [hn]; exact List.length_set.symm, hc, hmx, hwf', .inr ⟨b, off, C, tb, (0, 0), rfl, by rw [hhd]; exact hob.1, by rw [hob.2]; exact hh, ?_, fun _ => ⟨rfl, hs⟩, fun k u hu => ?_⟩⟩
                  · exact Nat.le_trans (Nat.add_le_add_left (Nat.mul_le_mul_right _ hc) _) hs
                  · by_cases hk : k = j
                    · subst hk
                      rw [List.getElem?_set_self (by rw [← hn]; exact hj)] at hu
                      cases hu
                      refine ht1 G' w' id0 (p ++ [k]) ⟨ht.pb, fun b i q pos hb hi => ?_, fun b i q hb hi => ht.lend b i q hb hi⟩
                      have hne : i ≠ id := fun e => hni (e ▸ (hm1' i).1 (by rw [hi]; simp))
                      have := ht.own b i q (k :: pos) hb (by simp [hne, hi])
                      simpa using this
                    · rw [List.getElem?_set_ne (Ne.symm hk)] at hu
                      refine Tr.mono ht.pb (fun b' q hq => ?_) ((hel k u hk hu).le hT.2)
                      have := ht.own b' id ([k] ++ q) [] (by simpa using hq) (by simp)
                      simpa using this
          · rename_i sz css hlk
            cases hsz : Nat.beq sz e.size with
            | false => rw [hsz] at hx; exact exec_fail hx
            | true =>
              rw [hsz] at hx
              have := Nat.eq_of_beq_eq_true hsz
              subst this
              simp only [cond_true] at hx
              obtain ⟨⟨ys, ids1, w1⟩, t1, t2, hx1, hx2, rfl⟩ := exec_bind hx
              obtain ⟨hp, _⟩ := exec_ok hx2
              cases hp
              obtain ⟨A, n, c, hρ, hn, hc, hmx, hblk⟩ := hrs id _ hlk
              rcases hblk with ⟨rfl, rfl⟩ | ⟨b, off, C, tb, rfl, hlb, hh, hs, hel⟩
              · have hn0 : n = 0 := by omega
                subst hn0
                have : css = [] := List.eq_nil_of_length_eq_zero hn.symm
                subst this
                obtain ⟨hp, _⟩ := exec_ok hx1
                cases hp
                refine ⟨_, c2, rfl, rfl, h2, fun _ => ⟨fun i => if i = id then some [] else none, fun i => by simp, fun G' w' id0 p ht => ?_⟩⟩
                exact ⟨none, 0, 0, by rw [hρ], rfl, Nat.le_refl _, hmx, hwf', .inl ⟨fun _ => rfl, rfl⟩⟩
              · obtain ⟨hlen, hpe⟩ := packEach_sound ih' css (fun k => cellsAt C (off + k * e.size) e.size) 0 ys ids1 w1 t1 (fun k l hl => by simpa using hel.get hl) hx1
                refine ⟨_, c2, rfl, rfl, h2, fun hnd => ?_⟩
                obtain ⟨hni, hnd'⟩ := List.nodup_cons.1 hnd
                obtain ⟨m1, hm1', ht1⟩ := hpe hnd'
                refine ⟨fun i => if i = id then some [] else m1 i, fun i => ?_, fun G' w' id0 p ht => ?_⟩
                · by_cases hi : i = id
                  · subst hi; simp
                  · show (if i = id then some [] else m1 i) ≠ none ↔ _
                    rw [if_neg hi, List.mem_cons]
                    exact ⟨fun h => Or.inr ((hm1' i).1 h), fun h => (hm1' i).2 (h.resolve_left hi)⟩
                · have hob := ht.own b id [] [] hlb (by simp)
                  simp only [List.append_nil] at hob
                  have hte := ht1 G' w' id0 p ⟨ht.pb, fun b i q pos hb hi => ht.own b i q pos hb (by
                    have hne : i ≠ id := fun e => hni (e ▸ (hm1' i).1 (by rw [hi]; simp))
                    simp [hne, hi]), ht.lend⟩
                  refine ⟨some ⟨b, off, none⟩, n, c, by rw [hρ], by rw [hn]; exact hlen.symm, hc, hmx, hwf', .inr ⟨b, off, C, tb, (0, 0), rfl, by rw [hhd]; exact hob.1, by rw [hob.2]; exact hh, ?_, fun _ => ⟨rfl, hs⟩, fun k u hu => ?_⟩⟩
                  · exact Nat.le_trans (Nat.add_le_add_left (Nat.mul_le_mul_right _ hc) _) hs
                  · have := hte k u hu
                    simpa using this
          · exact exec_fail hx
        · -- lent
          rename_i hhd
          have hno : e.noO f.el = true := hwf' (by rw [hhd]; rfl)
          split at hx
          · rename_i e' f' y hlk
            cases hT : e'.beq e && flR Fo.lend e f' f.el with
            | false => rw [hT] at hx; exact exec_fail hx
            | true =>
              rw [hT] at hx
              simp only [Bool.and_eq_true] at hT
              have := Ty.eq_of_beq hT.1
              subst this
              obtain ⟨hp, _⟩ := exec_ok hx
              rw [tcast_self] at hp
              cases hp
              refine ⟨_, c2, rfl, rfl, h2, fun _ => ⟨fun _ => none, fun i => by simp, fun G' w' id0 p ht => ?_⟩⟩
              have hr : Tr G w (.sl e') (.sl .w f') id [] [G.ρ id] y := hrs id _ hlk
              exact Tr.lendK ht.pb (fun b q hq => ht.lend b id _ hq (by simp)) (by show (Fo.lend .w f.hd && flR Fo.lend e' f' f.el) = true; rw [hhd, hT.2]; rfl) hr
          · rename_i e' f' y j css hlk
            cases hT : e'.beq e && flR Fo.lend e f' f.el with
            | false => rw [hT] at hx; exact exec_fail hx
            | true =>
              rw [hT] at hx
              simp only [Bool.and_eq_true] at hT
              have := Ty.eq_of_beq hT.1
              subst this
              simp only [cond_true] at hx
              obtain ⟨⟨z, r1, ids1, w1⟩, t1, t2, hx1, hx2, rfl⟩ := exec_bind hx
              split at hx2
              · rename_i z' w2 heq
                cases heq
                obtain ⟨hp, _⟩ := exec_ok hx2
                rw [tcast_self] at hp
                cases hp
                obtain ⟨b, off, C, tb, n, c, hρ, hn, hc, hmx, hj, hlb, hh, hs, hel, hcs⟩ := hrs id _ hlk
                obtain ⟨d1, d2, hd, hl1, hm1, hp1⟩ := ih _ _ _ _ _ _ _ _ hcs hx1
                have hd2 : d2 = [] := hm1
                subst hd2
                rw [List.append_nil] at hd
                subst hd
                refine ⟨_, c2, rfl, rfl, h2, fun hnd => ?_⟩
                obtain ⟨m1, hm1', ht1⟩ := hp1 hnd
                have hm1n : ∀ i, m1 i = none := fun i => Decidable.byContradiction fun h => by have := (hm1' i).1 h; simp at this
                refine ⟨fun _ => none, fun i => by simp, fun G' w' id0 p ht => ?_⟩
                have hob := ht.lend b id [] hlb (by simp)
                refine ⟨some ⟨b, off, none⟩, n, c, by rw [hρ], by rw [hn]; exact List.length_set.symm, hc, hmx, hwf', .inr ⟨b, off, C, tb, (0, 0), rfl, by rw [hhd]; exact .inr hob.1, by rw [hob.2]; exact hh, ?_, fun _ => ⟨rfl, hs⟩, fun k u hu => ?_⟩⟩
                · exact Nat.le_trans (Nat.add_le_add_left (Nat.mul_le_mul_right _ hc) _) hs
                · by_cases hk : k = j
                  · subst hk
                    rw [List.getElem?_set_self (by rw [← hn]; exact hj)] at hu
                    cases hu
                    exact ht1 G' w' id0 (p ++ [k]) ⟨ht.pb, (fun b i q pos hb hi => by rw [hm1n] at hi; cases hi), fun b i q hb hi => ht.lend b i q hb (List.mem_cons_of_mem _ hi)⟩
                  · rw [List.getElem?_set_ne (Ne.symm hk)] at hu
                    exact Tr.lendK ht.pb (fun b' q hq => ht.lend b' id _ hq (by simp)) hT.2 (hel k u hk hu)
              · exact exec_fail hx2
          · rename_i sz css hlk
            cases hsz : Nat.beq sz e.size with
            | false => rw [hsz] at hx; exact exec_fail hx
            | true =>
              rw [hsz] at hx
              have := Nat.eq_of_beq_eq_true hsz
              subst this
              simp only [cond_true] at hx
              obtain ⟨⟨ys, ids1, w1⟩, t1, t2, hx1, hx2, rfl⟩ := exec_bind hx
              split at hx2
              · rename_i ys' w2 heq
                cases heq
                obtain ⟨hp, _⟩ := exec_ok hx2
                cases hp
                obtain ⟨A, n, c, hρ, hn, hc, hmx, hblk⟩ := hrs id _ hlk
                rcases hblk with ⟨rfl, rfl⟩ | ⟨b, off, C, tb, rfl, hlb, hh, hs, hel⟩
                · have hn0 : n = 0 := by omega
                  subst hn0
                  have : css = [] := List.eq_nil_of_length_eq_zero hn.symm
                  subst this
                  obtain ⟨hp, _⟩ := exec_ok hx1
                  cases hp
                  refine ⟨_, c2, rfl, rfl, h2, fun _ => ⟨fun _ => none, fun i => by simp, fun G' w' id0 p ht => ?_⟩⟩
                  exact ⟨none, 0, 0, by rw [hρ], rfl, Nat.le_refl _, hmx, hwf', .inl ⟨fun _ => rfl, rfl⟩⟩
                · obtain ⟨hlen, hpe⟩ := packEach_sound ih' css (fun k => cellsAt C (off + k * e.size) e.size) 0 x [] w1 t1 (fun k l hl => by simpa using hel.get hl) hx1
                  refine ⟨_, c2, rfl, rfl, h2, fun hnd => ?_⟩
                  obtain ⟨m1, hm1', ht1⟩ := hpe hnd
                  have hm1n : ∀ i, m1 i = none := fun i => Decidable.byContradiction fun h => by have := (hm1' i).1 h; simp at this
                  refine ⟨fun _ => none, fun i => by simp, fun G' w' id0 p ht => ?_⟩
                  have hob := ht.lend b id [] hlb (by simp)
                  have hte := ht1 G' w' id0 p ⟨ht.pb, (fun b i q pos hb hi => by rw [hm1n] at hi; cases hi), fun b i q hb hi => ht.lend b i q hb (List.mem_cons_of_mem _ hi)⟩
                  refine ⟨some ⟨b, off, none⟩, n, c, by rw [hρ], by rw [hn]; exact hlen.symm, hc, hmx, hwf', .inr ⟨b, off, C, tb, (0, 0), rfl, by rw [hhd]; exact .inr hob.1, by rw [hob.2]; exact hh, ?_, fun _ => ⟨rfl, hs⟩, fun k u hu => ?_⟩⟩
                  · exact Nat.le_trans (Nat.add_le_add_left (Nat.mul_le_mul_right _ hc) _) hs
                  · have := hte k u hu
                    simpa using this
              · exact exec_fail hx2
          · exact exec_fail hx
        · exact exec_fail hx
      · -- a part, lent
        rename_i id lo hi sz inn r'
        obtain ⟨c1, c2, rfl, h1, h2⟩ := hm
        obtain ⟨A, n, c, hρ, hlh, hhc, hin, h1'⟩ := h1
        subst h1'
        replace ⟨t', hx, _⟩ := exec_need hx
        split at hx
        · rename_i hhd
          have hno : e.noO f.el = true := hwf' (by rw [hhd]; rfl)
          split at hx
          · rename_i e' f' y hlk
            cases hT : e'.beq e && flR Fo.lend e f' f.el && (Nat.beq sz e.size && inn) with
            | false => rw [hT] at hx; exact exec_fail hx
            | true =>
              rw [hT] at hx
              simp only [Bool.and_eq_true] at hT
              obtain ⟨⟨hT1, hT2⟩, hT3, hT4⟩ := hT
              have := Ty.eq_of_beq hT1
              subst this
              have := Nat.eq_of_beq_eq_true hT3
              subst this
              obtain ⟨hp, _⟩ := exec_ok hx
              rw [tcast_self] at hp
              cases hp
              refine ⟨_, c2, rfl, rfl, h2, fun _ => ⟨fun _ => none, fun i => by simp, fun G' w' id0 p ht => ?_⟩⟩
              have hr : Tr G w (.sl e') (.sl .w f') id [] [G.ρ id] y := hrs id _ hlk
              have h3 : Tr G' w' (.sl e') f default [] [G.ρ id] y := Tr.lendK ht.pb (fun b q hq => ht.lend b id _ hq (by simp)) (by show (Fo.lend .w f.hd && flR Fo.lend e' f' f.el) = true; rw [hhd, hT2]; rfl) hr
              rw [hρ] at h3
              have h0 : Ty.noO (.sl e') f = true := by simp only [Ty.noO, Bool.and_eq_true]; exact ⟨by rw [hhd]; rfl, hno⟩
              exact (h3.part h0 hlh (hin hT4)).keep (.refl G' w') h0
          · exact exec_fail hx
        · exact exec_fail hx
      · exact exec_fail hx

end Go.Sx
