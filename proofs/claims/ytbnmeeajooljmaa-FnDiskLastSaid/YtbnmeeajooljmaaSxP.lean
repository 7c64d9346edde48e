/- Symbolic execution, part P: contracts of functions: what they say; handing over. -/
import Derived.Test.YtbnmeeajooljmaaSxO
set_option linter.all false
namespace Go.Sx
open Go Go.RowKit

/-- a call of a function, whatever it is -/
def Called (P : Program) (f : FuncId) (args : Array Value) (w : World) (R : Value → World → Prop) : Prop :=
  ∃ n w', (callFunc f args).run P w = .ok n w' ∧ ((∃ v, n = .value v ∧ R v w') ∨ (n = .enter f args ∧ Calls P f args w' fun e w'' => match e with | .returned v => R v w'' | _ => False) ∨ ∃ row as, n = .row row as ∧ Rows P row as w' R)

section
variable (G : Gh) (w : World)
/-- a pointer to a variable, handed over under the name n -/
def RefOk (n : Id) (T : Ty) (F : Fl) (x : T.den) (v : Value) : Prop :=
  ∃ b C t, v = .pointer (some ⟨b, 0, none⟩) ∧ G.g b = .own n [] ∧ w.heap[b]? = some (.cells C t (0, 0)) ∧ Tr G w T F (n.plus 1) [] C.toList x
def CapOk (n : Id) (b : Bool) (T : Ty) (F : Fl) (x : T.den) (v : Value) : Prop := match b with
  | true => RefOk G w n T F x v
  | false => MtA G w (.rpt .b T F x) [v]
def CapsOk (k : Nat) : (l : List (Bool × Ty × Fl)) → Nat → dens l → List Value → Prop
  | [], _, _, vs => vs = []
  | (b, T, F) :: r, c, x, vs => ∃ v vs', vs = v :: vs' ∧ CapOk G w ⟨0, k, 64 * (c + 1)⟩ b T F x.1 v ∧ CapsOk k r (c + 1) x.2 vs'
/-- a value that lies in its cells -/
def ValOk (ag : Bool) (T : Ty) (F : Fl) (id : Id) (x : T.den) (v : Value) (cs : List Value) : Prop := v = mkV ag cs ∧ (ag = false → cs.length = 1) ∧ Tr G w T F id [] cs x
/-- argument number k -/
def ArgOk (k : Nat) : (m : Mode) → m.den → Value → Prop
  | .val ag T F, x, v => T.noO F = true ∧ ∃ cs, ValOk G w ag T F default x v cs
  | .own ag T F, x, v => ∃ cs, ValOk G w ag T F ⟨0, k, 0⟩ x v cs
  | .rp T F, x, v => MtA G w (.rpt .b T F x) [v]
  | .ref T F, x, v => RefOk G w ⟨0, k, 0⟩ T F x v
  | .clo f l, x, v => ∃ vs : List Value, v = .func (.func f) #[] vs.toArray ∧ CapsOk G w k l 0 x vs
  | .mu ag e f, x, v => ∃ cs, ValOk G w ag (.sl e) (.sl .w f) ⟨0, k, 0⟩ x v cs
def ArgsOk : (k : Nat) → (ms : List Mode) → mdens ms → List Value → Prop
  | _, [], _, vs => vs = []
  | k, m :: ms, x, vs => ∃ v vs', vs = v :: vs' ∧ ArgOk G w k m x.1 v ∧ ArgsOk (k + 1) ms x.2 vs'
end
/-- the variables that are handed over: their names and the pointers to them -/
def capsPtr (k : Nat) : List (Bool × Ty × Fl) → Nat → List Value → List (Id × Value)
  | (true, _, _) :: r, c, v :: vs => (⟨0, k, 64 * (c + 1)⟩, v) :: capsPtr k r (c + 1) vs
  | (false, _, _) :: r, c, _ :: vs => capsPtr k r (c + 1) vs
  | _, _, _ => []
def capsV : Value → List Value
  | .func _ _ vs => vs.toList
  | _ => []
def argPtr (k : Nat) : Mode → Value → List (Id × Value)
  | .ref _ _, v => [(⟨0, k, 0⟩, v)]
  | .clo _ l, v => capsPtr k l 0 (capsV v)
  | .mu _ _ _, v => [(⟨0, k, 0⟩, v.cells.toList.headD undef)]
  | _, _ => []
def argsPtr : Nat → List Mode → List Value → List (Id × Value)
  | k, m :: ms, v :: vs => argPtr k m v ++ argsPtr (k + 1) ms vs
  | _, _, _ => []
/-- the contract holds -/
def CtrOk (P : Program) (c : Ctr) : Prop :=
  ∀ (G : Gh) (w : World) (args : List Value) (x : mdens c.ins), (∀ b, G.g b ≠ .no → b < w.heap.size) → ArgsOk G w 0 c.ins x args → c.pre x →
    Called P c.f args.toArray w fun v w' => ∃ G', Chg (fun _ => False) (fun _ => True) G G' w w' ∧ RhoOk G' ∧ (∀ p ∈ argsPtr 0 c.ins args, G'.ρ p.1 = p.2) ∧ MtS G' w' (c.post x).1 v ∧ ∀ i R, (i, R) ∈ (c.post x).2 → ResOk G' w' i R
/-- the same for a call whose arguments are what they are -/
def XOk (P : Program) (c : Xctr) : Prop :=
  ∀ (G : Gh) (w : World) (args : List Value), (∀ b, G.g b ≠ .no → b < w.heap.size) → RhoOk G → MtSs G w c.args args → (∀ i R, (i, R) ∈ resOf c.rs ++ resOf c.ls → ResOk G w i R) →
    Called P c.f args.toArray w fun v w' => ∃ G', Chg (fun _ => False) (fun _ => True) G G' w w' ∧ RhoOk G' ∧ (∀ i ∈ ptrsOf c.args, G'.ρ i = G.ρ i) ∧ MtS G' w' c.post.1 v ∧ ∀ i R, (i, R) ∈ c.post.2 → ResOk G' w' i R
/-! ### Handing over -/
/-- labels as the function that is called sees them -/
structure TakesC (G Gc : Gh) (w : World) (mp : Id → Option (Id × List Nat)) (bw : List Id) : Prop where
  pb : KeepPB G Gc w w
  own : ∀ b i q j pos, G.g b = .own i q → mp i = some (j, pos) → Gc.g b = .own j (pos ++ q)
  lend : ∀ b i q, G.g b = .own i q → i ∈ bw → Gc.g b = .bor
section
variable {G : Gh} {w : World} {lk : Id → Option Res}
theorem TakesC.takes {Gc : Gh} {mp : Id → Option (Id × List Nat)} {bw bw' : List Id} {m : Id → Option (List Nat)} {j : Id} (h : TakesC G Gc w mp bw) (hm : ∀ i pos, m i = some pos → mp i = some (j, pos)) (hb : ∀ i ∈ bw', i ∈ bw) :
    Takes G Gc w w m bw' j [] :=
  ⟨h.pb, fun b i q pos hg hp => ⟨by simpa using h.own b i q j pos hg (hm i pos hp), rfl⟩, fun b i q hg hi => ⟨h.lend b i q hg (hb i hi), rfl⟩⟩
/-- memory that is lent -/
theorem lendAt_sound (hrs : ∀ id R, lk id = some R → ResOk G w id R) {T : Ty} {F : Fl} {a : At} {v : Value} {x : T.den} {bw : List Id} {t : List Id} (hx : (lendAt T F a).exec lk = some ((x, bw), t)) (m : MtA G w a [v]) :
    ∀ (Gc : Gh) (mp : Id → Option (Id × List Nat)) (bw' : List Id), TakesC G Gc w mp bw' → (∀ i ∈ bw, i ∈ bw') → MtA Gc w (.rpt .b T F x) [v] := by
  intro Gc mp bw' h hb
  unfold lendAt at hx
  cases hO : T.noO F with
  | false => rw [hO] at hx; exact exec_fail hx
  | true =>
    rw [hO] at hx
    simp only [Bool.not_true, cond_false] at hx
    split at hx
    · rename_i o T' F' y
      replace ⟨hE, hx⟩ := condR hx
      simp only [Bool.and_eq_true] at hE
      have hT := Ty.eq_of_beq hE.1
      subst hT
      obtain ⟨hp, _⟩ := exec_ok hx
      rw [tcast_self] at hp
      cases hp
      obtain ⟨h0, ho, b, off, C, t', fz, h1, h2, h3, h4, h5⟩ := m
      have hl := labOk_keep h.pb (id' := default) (p' := []) ho h2
      refine ⟨hO, rfl, b, off, C, t', fz, h1, ?_, h3, h4, Tr.le hE.2 (h5.keep h.pb h0)⟩
      cases o with
      | p => exact .inl hl.1
      | b => exact hl.1
      | w => cases ho
    · rename_i id off
      replace ⟨t', hx, _⟩ := exec_need hx
      split at hx
      · rename_i cs hlk
        split at hx
        · rename_i l hl
          replace ⟨pk, t1, t2, hpk, hx, _⟩ := exec_bind hx
          split at hx
          · rename_i y lent
            obtain ⟨hp, _⟩ := exec_ok hx
            cases hp
            obtain ⟨b, C, tt', hρ, hg, hh, hm⟩ := hrs id _ hlk
            obtain ⟨b', hρ', hv'⟩ := m
            rw [hρ] at hρ'
            cases hρ'
            obtain ⟨h3, h4⟩ := takeA_sound hm hl
            obtain ⟨c1, c2, hcs, hc1, hc2, hpacks⟩ := pack_sound hrs _ _ _ _ _ _ _ _ _ h4 hpk
            rw [show c2 = [] from hc2, List.append_nil] at hcs
            obtain ⟨mm, hmm, htr⟩ := hpacks List.nodup_nil
            refine ⟨hO, rfl, b, off, C, tt', (0, 0), hv', .inr (h.lend b id [] hg (hb id (by simp))), hh, by simpa using h3, ?_⟩
            have : cellsAt C off T.size = c1 := hcs
            rw [this]
            exact htr Gc w default [] ⟨h.pb, fun b i q pos _ hp => absurd ((hmm i).1 (by rw [hp]; simp)) (by simp), fun b i q hg hi => ⟨h.lend b i q hg (hb i (by simp [hi])), rfl⟩⟩
          · exact exec_fail hx
        · exact exec_fail hx
      · exact exec_fail hx
    · exact exec_fail hx

theorem MtV.mk {ag : Bool} {l : List At} {v : Value} (h : MtV G w ag l v) : v = mkV ag v.cells.toList ∧ (ag = false → v.cells.toList.length = 1) ∧ MtL G w l v.cells.toList := by
  have hc := MtV.cells h
  cases ag with
  | true => obtain ⟨cs, rfl, _⟩ := h; exact ⟨by simp [mkV, Value.cells], by simp, hc⟩
  | false =>
    have hv : v.cells = #[v] := by cases v <;> first | rfl | (simp [MtV, Value.oneCell'] at h)
    exact ⟨by simp [mkV, hv], by simp [hv], hc⟩
theorem eqB_eq {a b : Bool} (h : eqB a b = true) : a = b := by cases a <;> cases b <;> simp [eqB] at h <;> rfl
def mpU (a b : Id → Option (Id × List Nat)) : Id → Option (Id × List Nat) := fun i => match a i with | some y => some y | none => b i
theorem mpU_l {a b : Id → Option (Id × List Nat)} {i : Id} {y : Id × List Nat} (h : a i = some y) : mpU a b i = some y := by simp [mpU, h]
theorem mpU_r {a b : Id → Option (Id × List Nat)} {i : Id} {y : Id × List Nat} (h : b i = some y) (ha : a i = none) : mpU a b i = some y := by simp [mpU, h, ha]
theorem mpU_iff {a b : Id → Option (Id × List Nat)} {l m : List Id} (ha : ∀ i, a i ≠ none ↔ i ∈ l) (hb : ∀ i, b i ≠ none ↔ i ∈ m) : ∀ i, mpU a b i ≠ none ↔ i ∈ l ++ m := by
  intro i
  rw [List.mem_append, ← ha, ← hb]
  unfold mpU
  cases a i <;> simp
theorem TakesC.sub {Gc : Gh} {mp mp' : Id → Option (Id × List Nat)} {bw : List Id} (h : TakesC G Gc w mp bw) (hm : ∀ i y, mp' i = some y → mp i = some y) : TakesC G Gc w mp' bw :=
  ⟨h.pb, fun b i q j pos hg hp => h.own b i q j pos hg (hm i _ hp), h.lend⟩
theorem not_mem_none {α : Type} {f : Id → Option α} {l : List Id} (h : ∀ i, f i ≠ none ↔ i ∈ l) {i : Id} (hi : i ∉ l) : f i = none := by
  cases hf : f i with
  | none => rfl
  | some y => exact absurd ((h i).1 (by rw [hf]; simp)) hi
/-- what is handed over may be so: the labels that the function sees exist -/
def Took (G : Gh) (w : World) (ids bw : List Id) (refs : List (Id × Id)) (Q : Gh → Prop) : Prop :=
  (ids ++ refs.map (·.1)).Nodup → ∃ mp : Id → Option (Id × List Nat), (∀ i, mp i ≠ none ↔ i ∈ ids ++ refs.map (·.1)) ∧ ∀ (Gc : Gh) (bw' : List Id), TakesC G Gc w mp bw' → (∀ i ∈ bw, i ∈ bw') → Q Gc
theorem Took.none {Q : Gh → Prop} (h : ∀ Gc, Q Gc) : Took G w [] [] [] Q := fun _ => ⟨fun _ => .none, by simp, fun Gc _ _ _ => h Gc⟩
theorem Took.mono {ids bw : List Id} {refs : List (Id × Id)} {Q Q' : Gh → Prop} (h : Took G w ids bw refs Q) (k : ∀ Gc, Q Gc → Q' Gc) : Took G w ids bw refs Q' := fun hn => by
  obtain ⟨mp, h1, h2⟩ := h hn
  exact ⟨mp, h1, fun Gc bw' a b => k Gc (h2 Gc bw' a b)⟩
theorem Took.app {ids bw ids' bw' : List Id} {refs refs' : List (Id × Id)} {Q Q' : Gh → Prop} (h : Took G w ids bw refs Q) (h' : Took G w ids' bw' refs' Q') : Took G w (ids ++ ids') (bw ++ bw') (refs ++ refs') fun Gc => Q Gc ∧ Q' Gc := by
  intro hn
  rw [List.map_append, List.nodup_append] at hn
  obtain ⟨n1, n2, n3⟩ := hn
  rw [List.nodup_append] at n1 n2
  obtain ⟨a1, a2, a3⟩ := n1
  obtain ⟨b1, b2, b3⟩ := n2
  obtain ⟨mp, m1, m2⟩ := h (List.nodup_append.2 ⟨a1, b1, fun x hx y hy => n3 x (List.mem_append_left _ hx) y (List.mem_append_left _ hy)⟩)
  obtain ⟨mp', k1, k2⟩ := h' (List.nodup_append.2 ⟨a2, b2, fun x hx y hy => n3 x (List.mem_append_right _ hx) y (List.mem_append_right _ hy)⟩)
  refine ⟨mpU mp mp', fun i => ?_, fun Gc bw2 hT hb => ⟨m2 Gc bw2 (hT.sub fun i y hy => mpU_l hy) fun i hi => hb i (List.mem_append_left _ hi), k2 Gc bw2 (hT.sub fun i y hy => mpU_r hy (not_mem_none m1 fun hi => ?_)) fun i hi => hb i (List.mem_append_right _ hi)⟩⟩
  · rw [mpU_iff m1 k1 i]
    simp only [List.mem_append, List.map_append]
    constructor
    · rintro ((h | h) | (h | h))
      · exact .inl (.inl h)
      · exact .inr (.inl h)
      · exact .inl (.inr h)
      · exact .inr (.inr h)
    · rintro ((h | h) | (h | h))
      · exact .inl (.inl h)
      · exact .inr (.inl h)
      · exact .inl (.inr h)
      · exact .inr (.inr h)
  · have hj := (k1 i).1 (by rw [hy]; simp)
    rcases List.mem_append.1 hi with p | p <;> rcases List.mem_append.1 hj with q | q
    · exact a3 i p i q rfl
    · exact n3 i (List.mem_append_left _ p) i (List.mem_append_right _ q) rfl
    · exact n3 i (List.mem_append_right _ q) i (List.mem_append_left _ p) rfl
    · exact b3 i p i q rfl
/-- a value out of atoms, under the name j -/
theorem took_pack (hrs : ∀ id R, lk id = some R → ResOk G w id R) {T : Ty} {F : Fl} {l : List At} {cs : List Value} {x : T.den} {ids bw t : List Id} (hm : MtL G w l cs) (hx : (pack T F l).exec lk = some (⟨x, [], ids, bw⟩, t)) (j : Id) :
    Took G w ids bw [] fun Gc => Tr Gc w T F j [] cs x := by
  intro hn
  rw [List.map_nil, List.append_nil] at hn ⊢
  obtain ⟨c1, c2, hcs, hc1, hc2, hpacks⟩ := pack_sound hrs _ _ _ _ _ _ _ _ _ hm hx
  rw [show c2 = [] from hc2, List.append_nil] at hcs
  obtain ⟨mm, hmm, htr⟩ := hpacks hn
  refine ⟨fun i => (mm i).map fun pos => (j, pos), fun i => by rw [← hmm i]; simp, fun Gc bw' hT hb => ?_⟩
  rw [hcs]
  exact htr Gc w _ _ (hT.takes (fun i pos hp => by simp [hp]) hb)
theorem took_lend (hrs : ∀ id R, lk id = some R → ResOk G w id R) {T : Ty} {F : Fl} {a : At} {v : Value} {x : T.den} {bw : List Id} {t : List Id} (hx : (lendAt T F a).exec lk = some ((x, bw), t)) (m : MtA G w a [v]) :
    Took G w [] bw [] fun Gc => MtA Gc w (.rpt .b T F x) [v] := fun _ => ⟨fun _ => .none, by simp, fun Gc bw' hT hb => lendAt_sound hrs hx m Gc _ bw' hT hb⟩
theorem took_ref (hrs : ∀ id R, lk id = some R → ResOk G w id R) {T : Ty} {F : Fl} {a : At} {v : Value} {n : Id} {x : T.den} {ids bw : List Id} {refs : List (Id × Id)} {t : List Id} (hx : (refAt T F a n).exec lk = some ((x, ⟨ids, bw, refs⟩), t)) (m : MtA G w a [v]) :
    (∃ i, refs = [(i, n)] ∧ G.ρ i = v ∧ lk i ≠ none) ∧ Took G w ids bw refs fun Gc => RefOk Gc w n T F x v := by
  unfold refAt at hx
  split at hx
  · rename_i id off
    split at hx
    · replace ⟨t', hx, _⟩ := exec_need hx
      split at hx
      · rename_i cs hlk
        replace ⟨pk, t1, t2, hpk, hx, _⟩ := exec_bind hx
        split at hx
        · rename_i y idsH lent
          obtain ⟨hp, _⟩ := exec_ok hx
          cases hp
          obtain ⟨b, C, tt', hρ, hg, hh, hm⟩ := hrs id _ hlk
          obtain ⟨b', hρ', hv'⟩ := m
          rw [hρ] at hρ'
          cases hρ'
          simp only [List.cons.injEq, and_true] at hv'
          subst hv'
          refine ⟨⟨id, rfl, hρ, by rw [hlk]; simp⟩, fun hn => ?_⟩
          have hn' := List.nodup_append.1 hn
          obtain ⟨mp, m1, m2⟩ := took_pack hrs hm hpk (n.plus 1) (by simpa using hn'.1)
          simp only [List.map_nil, List.append_nil] at m1
          have hni : id ∉ ids := fun h => hn'.2.2 id h id (by simp) rfl
          refine ⟨fun i => if i = id then some (n, []) else mp i, fun i => ?_, fun Gc bw' hT hb => ⟨b, C, tt', rfl, ?_, hh, m2 Gc bw' (hT.sub fun i y hy => ?_) hb⟩⟩
          · simp only [List.mem_append, List.map_cons, List.map_nil, List.mem_cons, List.not_mem_nil, or_false]
            split
            · rename_i e; simp [e]
            · rename_i e; rw [m1]; simp [e]
          · simpa using hT.own b id [] n [] hg (by simp)
          · rw [if_neg]
            · exact hy
            · rintro rfl
              exact hni ((m1 i).1 (by rw [hy]; simp))
        · exact exec_fail hx
      · exact exec_fail hx
    · exact exec_fail hx
  · exact exec_fail hx
theorem took_caps (hrs : ∀ id R, lk id = some R → ResOk G w id R) {k : Nat} : ∀ {l : List (Bool × Ty × Fl)} {c : Nat} {as : List At} {vs : List Value} {x : dens l} {ids bw : List Id} {refs : List (Id × Id)} {t : List Id}, (capAll k l c as).exec lk = some ((x, ⟨ids, bw, refs⟩), t) → MtC G w as vs →
    (capsPtr k l c vs = refs.map (fun p => (p.2, G.ρ p.1)) ∧ ∀ p ∈ refs, lk p.1 ≠ none) ∧ Took G w ids bw refs fun Gc => CapsOk Gc w k l c x vs := by
  intro l
  induction l with
  | nil =>
    intro c as vs x ids bw refs t hx m
    cases as with
    | nil =>
      obtain ⟨hp, _⟩ := exec_ok hx
      cases hp
      rw [show vs = [] from m]
      exact ⟨⟨rfl, by simp⟩, Took.none fun _ => rfl⟩
    | cons a as => exact exec_fail hx
  | cons p r ih =>
    intro c as vs x ids bw refs t hx m
    obtain ⟨b, T, F⟩ := p
    cases as with
    | nil => exact exec_fail hx
    | cons a as =>
      simp only [capAll] at hx
      replace ⟨z, t1, t2, hz, hx, _⟩ := exec_bind hx
      obtain ⟨y, ⟨i1, w1, rf1⟩⟩ := z
      replace ⟨z', t3, t4, hz', hx, _⟩ := exec_bind hx
      obtain ⟨ys, ⟨i2, w2, rf2⟩⟩ := z'
      obtain ⟨hp, _⟩ := exec_ok hx
      cases hp
      obtain ⟨v, vs', rfl, h1, h2, h3⟩ := m
      obtain ⟨⟨k1, k2⟩, k3⟩ := ih hz' h3
      cases b with
      | true =>
        obtain ⟨⟨i, rfl, r1, r2⟩, r3⟩ := took_ref hrs hz h2
        exact ⟨⟨by simp [capsPtr, k1, r1], by simpa using ⟨r2, fun a b => k2 (a, b)⟩⟩, (r3.app k3).mono fun Gc h => ⟨v, vs', rfl, h.1, h.2⟩⟩
      | false =>
        simp only at hz
        replace ⟨z2, t5, t6, hz2, hz, _⟩ := exec_bind hz
        obtain ⟨hp, _⟩ := exec_ok hz
        cases hp
        obtain ⟨y2, w3⟩ := z2
        exact ⟨⟨by simpa [capsPtr] using k1, by simpa using fun a b => k2 (a, b)⟩, ((took_lend hrs hz2 h2).app k3).mono fun Gc h => ⟨v, vs', rfl, h.1, h.2⟩⟩
theorem took_1 (hrs : ∀ id R, lk id = some R → ResOk G w id R) {k : Nat} {md : Mode} {s : SV} {v : Value} {x : md.den} {ids bw : List Id} {refs : List (Id × Id)} {t : List Id} (hx : (match1 k md s).exec lk = some ((x, ⟨ids, bw, refs⟩), t)) (m : MtS G w s v) :
    (argPtr k md v = refs.map (fun p => (p.2, G.ρ p.1)) ∧ ∀ p ∈ refs, lk p.1 ≠ none) ∧ Took G w ids bw refs fun Gc => ArgOk Gc w k md x v := by
  cases md with
  | val ag T F =>
    simp only [match1] at hx
    split at hx
    · rename_i ag' l
      replace ⟨hE, hx⟩ := condR hx
      simp only [Bool.and_eq_true] at hE
      have hag := eqB_eq hE.1
      subst hag
      replace ⟨pk, t1, t2, hpk, hx, _⟩ := exec_bind hx
      split at hx
      · rename_i y lent
        obtain ⟨hp, _⟩ := exec_ok hx
        cases hp
        obtain ⟨hv1, hv2, hv3⟩ := MtV.mk m
        exact ⟨⟨rfl, by simp⟩, (took_pack hrs hv3 hpk default).mono fun Gc h => ⟨hE.2, _, hv1, hv2, h⟩⟩
      · exact exec_fail hx
    · exact exec_fail hx
  | own ag T F =>
    simp only [match1] at hx
    split at hx
    · rename_i ag' l
      replace ⟨hE, hx⟩ := condR hx
      have hag := eqB_eq hE
      subst hag
      replace ⟨pk, t1, t2, hpk, hx, _⟩ := exec_bind hx
      split at hx
      · rename_i y idsH lent
        obtain ⟨hp, _⟩ := exec_ok hx
        cases hp
        obtain ⟨hv1, hv2, hv3⟩ := MtV.mk m
        exact ⟨⟨rfl, by simp⟩, (took_pack hrs hv3 hpk ⟨0, k, 0⟩).mono fun Gc h => ⟨_, hv1, hv2, h⟩⟩
      · exact exec_fail hx
    · exact exec_fail hx
  | rp T F =>
    simp only [match1] at hx
    split at hx
    · rename_i a
      replace ⟨pk, t1, t2, hpk, hx, _⟩ := exec_bind hx
      obtain ⟨hp, _⟩ := exec_ok hx
      cases hp
      obtain ⟨y, lent⟩ := pk
      exact ⟨⟨rfl, by simp⟩, took_lend hrs hpk m.at1.2⟩
    · exact exec_fail hx
  | ref T F =>
    simp only [match1] at hx
    split at hx
    · rename_i a
      obtain ⟨⟨i, rfl, r1, r2⟩, r3⟩ := took_ref hrs hx m.at1.2
      exact ⟨⟨by simp [argPtr, r1], by simpa using r2⟩, r3⟩
    · exact exec_fail hx
  | clo f l =>
    simp only [match1] at hx
    split at hx
    · rename_i f' caps
      replace ⟨hE, hx⟩ := condR hx
      have hf := Nat.eq_of_beq_eq_true hE
      subst hf
      obtain ⟨us, rfl, hm⟩ := m
      obtain ⟨k1, k2⟩ := took_caps hrs hx hm
      exact ⟨by simpa [argPtr, capsV] using k1, k2.mono fun Gc h => ⟨us, rfl, h⟩⟩
    · exact exec_fail hx
  | mu ag e f =>
    simp only [match1] at hx
    split at hx
    · rename_i ag' id
      replace ⟨hE, hx⟩ := condR hx
      have hag := eqB_eq hE
      subst hag
      replace ⟨t', hx, _⟩ := exec_need hx
      split at hx
      · rename_i e0 f0 x0 hlk
        replace ⟨pk, t1, t2, hpk, hx, _⟩ := exec_bind hx
        split at hx
        · rename_i y idsH lent
          split at hx
          · rename_i i
            replace ⟨hi, hx⟩ := condR hx
            have hi := Id.eq_of_beq hi
            subst hi
            obtain ⟨hp, _⟩ := exec_ok hx
            cases hp
            obtain ⟨hv1, hv2, hv3⟩ := MtV.mk m
            have hc : v.cells.toList = [G.ρ i] := hv3.one_inv
            have hk := took_pack hrs hv3 hpk ⟨0, k, 0⟩
            refine ⟨⟨by simp [argPtr, hc], by simpa using by rw [hlk]; simp⟩, Took.mono (Q := fun Gc => Tr Gc w (.sl e) (.sl .w f) ⟨0, k, 0⟩ [] v.cells.toList x) (fun hn => hk hn) fun Gc h => ⟨_, hv1, hv2, h⟩⟩
          · exact exec_fail hx
        · exact exec_fail hx
      · exact exec_fail hx
    · exact exec_fail hx
theorem matchArgs_sound (hrs : ∀ id R, lk id = some R → ResOk G w id R) : ∀ {ms : List Mode} {k : Nat} {vals : List SV} {args : List Value} {x : mdens ms} {ids bw : List Id} {refs : List (Id × Id)} {t : List Id},
    (matchArgs k ms vals).exec lk = some ((x, ⟨ids, bw, refs⟩), t) → MtSs G w vals args → (argsPtr k ms args = refs.map (fun p => (p.2, G.ρ p.1)) ∧ ∀ p ∈ refs, lk p.1 ≠ none) ∧ Took G w ids bw refs fun Gc => ArgsOk Gc w k ms x args := by
  intro ms
  induction ms with
  | nil =>
    intro k vals args x ids bw refs t hx m
    cases vals with
    | nil =>
      obtain ⟨hp, _⟩ := exec_ok hx
      cases hp
      cases args with
      | nil => exact ⟨⟨rfl, by simp⟩, Took.none fun _ => rfl⟩
      | cons _ _ => exact m.elim
    | cons s ss => exact exec_fail hx
  | cons md ms ih =>
    intro k vals args x ids bw refs t hx m
    cases vals with
    | nil => exact exec_fail hx
    | cons s ss =>
      cases args with
      | nil => exact m.elim
      | cons v vs =>
        obtain ⟨mv, ms'⟩ := m
        simp only [matchArgs] at hx
        replace ⟨z, t1, t2, hz, hx, _⟩ := exec_bind hx
        obtain ⟨y, ⟨i1, w1, rf1⟩⟩ := z
        replace ⟨z', t3, t4, hz', hx, _⟩ := exec_bind hx
        obtain ⟨ys, ⟨i2, w2, rf2⟩⟩ := z'
        obtain ⟨hp, _⟩ := exec_ok hx
        cases hp
        obtain ⟨⟨a1, a2⟩, a3⟩ := took_1 hrs hz mv
        obtain ⟨⟨b1, b2⟩, b3⟩ := ih hz' ms'
        exact ⟨⟨by simp [argsPtr, a1, b1], fun p hp => (List.mem_append.1 hp).elim (a2 p) (b2 p)⟩, (a3.app b3).mono fun Gc h => ⟨v, vs, rfl, h.1, h.2⟩⟩
end
end Go.Sx
