/- Symbolic execution, part Q: a call by a contract. -/
import Derived.Test.YtbnmeeajooljmaaSxP
set_option linter.all false
namespace Go.Sx
open Go Go.RowKit

/-- labels without what is lent -/
def dropB (G : Gh) : Gh := ⟨G.ρ, fun b => match G.g b with | .bor => .no | l => l⟩
section
variable {G : Gh} {w : World}
theorem Tr.dropB : ∀ {T : Ty} {F : Fl} {id : Id} {p : List Nat} {cs : List Value} {x : T.den}, flR nbF T F F = true → Tr G w T F id p cs x → Tr (Sx.dropB G) w T F id p cs x := by
  intro T
  induction T with
  | int k => intro F id p cs x _ h; exact h
  | bool => intro F id p cs x _ h; exact h
  | str => intro F id p cs x _ h; exact h
  | sl e ih =>
    intro F id p cs x hf h
    simp only [flR, Bool.and_eq_true] at hf
    obtain ⟨A, n, c, hcs, hn, hc, hm, hwf, h⟩ := h
    refine ⟨A, n, c, hcs, hn, hc, hm, hwf, ?_⟩
    rcases h with h | ⟨b, off, C, t, fz, hA, hl, hh, hs, hw, hj⟩
    · exact .inl h
    · refine .inr ⟨b, off, C, t, fz, hA, ?_, hh, hs, hw, fun j x hx => ih hf.2 (hj j x hx)⟩
      have h1 := hf.1
      cases hF : F.hd with
      | p => rw [hF] at hl; simp only [labOk, Sx.dropB] at hl ⊢; rw [hl]
      | b => rw [hF] at h1; cases h1
      | w => rw [hF] at hl; simp only [labOk, Sx.dropB] at hl ⊢; rw [hl]
  | arr n e ih =>
    intro F id p cs x _ h
    have hp : ∀ T : Ty, flR nbF T pF pF = true := by
      intro T
      induction T with
      | sl e ih => simp only [flR, Bool.and_eq_true]; exact ⟨rfl, ih⟩
      | pr a b iha ihb => simp only [flR, Bool.and_eq_true]; exact ⟨iha, ihb⟩
      | _ => rfl
    exact ⟨h.1, h.2.1, fun j y hy => ih (hp e) (h.2.2 j y hy)⟩
  | pr a b iha ihb =>
    intro F id p cs x hf h
    simp only [flR, Bool.and_eq_true] at hf
    obtain ⟨c1, c2, rfl, h1, h2⟩ := h
    exact ⟨c1, c2, rfl, iha hf.1 h1, ihb hf.2 h2⟩
  | pt => intro F id p cs x _ h; exact h

theorem MtA.dropB {a : At} {cs : List Value} (hn : nbA a = true) (h : MtA G w a cs) : MtA (Sx.dropB G) w a cs := by
  cases a with
  | d T F x => exact ⟨h.1, h.2.dropB hn⟩
  | rpt o T F x =>
    simp only [nbA, Bool.and_eq_true] at hn
    obtain ⟨h0, ho', b, off, C, t, fz, h1, h2, h3, h4, h5⟩ := h
    refine ⟨h0, ho', b, off, C, t, fz, h1, ?_, h3, h4, h5.dropB hn.2⟩
    cases o with
    | p => simp only [labOk, Sx.dropB] at h2 ⊢; rw [h2]
    | b => cases hn.1
    | w => cases ho'
  | _ => exact h
theorem MtL.dropB : ∀ {l : List At} {cs : List Value}, nbL l = true → MtL G w l cs → MtL (Sx.dropB G) w l cs := by
  intro l
  induction l with
  | nil => intro cs _ h; exact h
  | cons a r ih =>
    intro cs hn h
    simp only [nbL, Bool.and_eq_true] at hn
    obtain ⟨c1, c2, h1, h2, h3⟩ := h
    exact ⟨c1, c2, h1, h2.dropB hn.1, ih hn.2 h3⟩
theorem MtV.dropB {ag : Bool} {l : List At} {v : Value} (hn : nbL l = true) (h : MtV G w ag l v) : MtV (Sx.dropB G) w ag l v := by
  cases ag with
  | true => obtain ⟨cs, h1, h2⟩ := h; exact ⟨cs, h1, h2.dropB hn⟩
  | false => exact ⟨h.1, h.2.dropB hn⟩
theorem MtC.dropB : ∀ {l : List At} {vs : List Value}, nbL l = true → MtC G w l vs → MtC (Sx.dropB G) w l vs := by
  intro l
  induction l with
  | nil => intro cs _ h; exact h
  | cons a r ih =>
    intro vs hn h
    simp only [nbL, Bool.and_eq_true] at hn
    obtain ⟨v, vs', h1, h2, h3, h4⟩ := h
    exact ⟨v, vs', h1, h2, h3.dropB hn.1, ih hn.2 h4⟩
theorem MtVs.dropB : ∀ {l : List (Bool × List At)} {vs : List Value}, nbT l = true → MtVs G w l vs → MtVs (Sx.dropB G) w l vs := by
  intro l
  induction l with
  | nil => intro cs _ h; exact h
  | cons a r ih =>
    intro vs hn h
    obtain ⟨ag, l⟩ := a
    simp only [nbT, Bool.and_eq_true] at hn
    obtain ⟨v, vs', h1, h2, h3⟩ := h
    exact ⟨v, vs', h1, h2.dropB hn.1, ih hn.2 h3⟩
theorem MtS.dropB {s : SV} {v : Value} (hn : nbS s = true) (h : MtS G w s v) : MtS (Sx.dropB G) w s v := by
  cases s with
  | v ag l => exact MtV.dropB hn h
  | fn f l => obtain ⟨vs, h1, h2⟩ := h; exact ⟨vs, h1, h2.dropB hn⟩
  | tup l => obtain ⟨vs, h1, h2⟩ := h; exact ⟨vs, h1, h2.dropB hn⟩
  | junk => trivial
theorem MtEls.dropB {sz : Nat} {C : Array Value} : ∀ {l : List (List At)} {off : Nat}, nbE l = true → MtEls G w sz C off l → MtEls (Sx.dropB G) w sz C off l := by
  intro l
  induction l with
  | nil => intro _ _ h; exact h
  | cons a r ih =>
    intro off hn h
    simp only [nbE, Bool.and_eq_true] at hn
    exact ⟨h.1.dropB hn.1, ih hn.2 h.2⟩
theorem flR_nb_p : ∀ T : Ty, flR nbF T pF pF = true := by
  intro T
  induction T with
  | sl e ih => simp only [flR, Bool.and_eq_true]; exact ⟨rfl, ih⟩
  | pr a b iha ihb => simp only [flR, Bool.and_eq_true]; exact ⟨iha, ihb⟩
  | _ => rfl
theorem nbL_app {l m : List At} : nbL (l ++ m) = (nbL l && nbL m) := by
  induction l with
  | nil => rfl
  | cons a l ih => simp [nbL, ih, Bool.and_assoc]
theorem nbL_atomsOf : ∀ {T : Ty} {F : Fl} {x : T.den}, flR nbF T F F = true → nbL (atomsOf T F x) = true := by
  intro T
  induction T with
  | pr a b iha ihb =>
    intro F x h
    simp only [flR, Bool.and_eq_true] at h
    simp only [atomsOf]
    rw [nbL_app, iha h.1, ihb h.2]; rfl
  | sl e ih => intro F x h; simp only [atomsOf, nbL, nbA, Bool.and_true]; exact h
  | arr n e ih => intro F x h; simp only [atomsOf, nbL, nbA, Bool.and_true]; rfl
  | _ => intro F x _; rfl
theorem MpOk.dropB {ak av : Bool} {K V : Ty} {F : Fl} (hF : flR nbF V F F = true) : ∀ {l : List (K.den × V.den)} {es : List MapEntry}, MpOk G w ak av K V F l es → MpOk (Sx.dropB G) w ak av K V F l es := by
  intro l
  induction l with
  | nil => intro es m; exact m
  | cons p l ih =>
    intro es m
    obtain ⟨e, es', h1, h2, h3, h4⟩ := m
    exact ⟨e, es', h1, h2.dropB (nbL_atomsOf (flR_nb_p K)), h3.dropB (nbL_atomsOf hF), ih h4⟩
theorem dropB_own {b : Nat} {id : Id} {p : List Nat} (h : G.g b = .own id p) : (Sx.dropB G).g b = .own id p := by simp only [Sx.dropB]; rw [h]
theorem ResOk.dropB {id : Id} {R : Res} (hn : nbR R = true) (h : ResOk G w id R) : ResOk (Sx.dropB G) w id R := by
  cases R with
  | var cs => obtain ⟨b, C, t, h1, h2, h3, h4⟩ := h; exact ⟨b, C, t, h1, dropB_own h2, h3, h4.dropB hn⟩
  | sl e f x => exact Tr.dropB (by simp only [flR, Bool.and_eq_true]; exact ⟨rfl, hn⟩) h
  | slo e f x j cs =>
    simp only [nbR, Bool.and_eq_true] at hn
    obtain ⟨b, off, C, t, n, c, h1, h2, h3, h4, h5, h6, h7, h8, h9, h10⟩ := h
    exact ⟨b, off, C, t, n, c, h1, h2, h3, h4, h5, dropB_own h6, h7, h8, fun k y hk hy => (h9 k y hk hy).dropB hn.1, h10.dropB hn.2⟩
  | els sz css =>
    obtain ⟨A, n, c, h1, h2, h3, h4, h5⟩ := h
    refine ⟨A, n, c, h1, h2, h3, h4, h5.imp (fun h => h) ?_⟩
    rintro ⟨b, off, C, t, k1, k2, k3, k4, k5⟩
    exact ⟨b, off, C, t, k1, dropB_own k2, k3, k4, k5.dropB hn⟩
  | mp ak av K V F l => obtain ⟨h0, r, es, clk, h1, h2, h3, h4⟩ := h; exact ⟨h0, r, es, clk, h1, dropB_own h2, h3, h4.dropB hn⟩
  | room i k => exact h
  | ch o e l =>
    obtain rfl : o = true := hn
    obtain ⟨ps, h1, h2, h3⟩ := h
    refine ⟨ps, h1, h2, fun k y hy => ?_⟩
    obtain ⟨b, C, t, cs, nx, g1, g2, g3, g4, g5, g6⟩ := h3 k y hy
    exact ⟨b, C, t, cs, nx, g1, g2, dropB_own g3, g4, g5, g6.dropB (flR_nb_p e)⟩
  | lvar cs => cases hn
  | bys l => obtain ⟨b, C, t, fz, c, h1, h2, h3, h4, h5, h6⟩ := h; exact ⟨b, C, t, fz, c, h1, h2, h3, dropB_own h4, h5, h6⟩
  | pre i n => exact h
/-- other names, other labels -/
structure Ren (M : List (Id × Id)) (idb : Id) (G G2 : Gh) (w : World) : Prop where
  pb : KeepPB G G2 w w
  own : ∀ b j q i, G.g b = .own j q → renId M idb j = some i → G2.g b = .own i q
  rho : ∀ j i, renId M idb j = some i → G2.ρ i = G.ρ j
section
variable {M : List (Id × Id)} {idb : Id} {G2 : Gh}
theorem Tr.ren (h : Ren M idb G G2 w) {T : Ty} {F : Fl} {j i : Id} {p : List Nat} {cs : List Value} {x : T.den} (hi : renId M idb j = some i) (m : Tr G w T F j p cs x) : Tr G2 w T F i p cs x :=
  Tr.mono h.pb (fun b q hq => ⟨h.own b j _ i hq hi, rfl⟩) m
theorem MtA.ren (h : Ren M idb G G2 w) {a a' : At} {cs : List Value} (hi : renA M idb a = some a') (m : MtA G w a cs) : MtA G2 w a' cs := by
  cases a with
  | own j =>
    simp only [renA] at hi
    split at hi
    · rename_i i hj; cases hi; rw [show cs = _ from m, ← h.rho _ _ hj]; rfl
    · cases hi
  | ptr j off =>
    simp only [renA] at hi
    split at hi
    · rename_i i hj; cases hi; obtain ⟨b, h1, h2⟩ := m; exact ⟨b, (h.rho _ _ hj).trans h1, h2⟩
    · cases hi
  | opt j k sz off T =>
    simp only [renA] at hi
    split at hi
    · rename_i i hj; cases hi; obtain ⟨b, o, n, c, h1, h2⟩ := m; exact ⟨b, o, n, c, (h.rho _ _ hj).trans h1, h2⟩
    · cases hi
  | d T F x => cases hi; exact ⟨m.1, m.2.keep h.pb m.1⟩
  | rpt o T F x =>
    cases hi
    obtain ⟨h0, ho', b, off, C, t, fz, h1, h2, h3, h4, h5⟩ := m
    have hl := labOk_keep h.pb (id' := default) (p' := []) ho' h2
    exact ⟨h0, ho', b, off, C, t, fz, h1, hl.1, h3, h4, h5.keep h.pb h0⟩
  | kb b => cases hi; exact m
  | nils => cases hi; exact m
  | nilp => cases hi; exact m
  | junk => cases hi; exact m
  | anyb P => cases hi; exact m
  | sub j lo hi' sz inn =>
    simp only [renA] at hi
    split at hi
    · rename_i i hj; cases hi; obtain ⟨A, n, c, h1, h2⟩ := m; exact ⟨A, n, c, (h.rho _ _ hj).trans h1, h2⟩
    · cases hi
  | chp j k =>
    simp only [renA] at hi
    split at hi
    · rename_i i hj; cases hi; obtain ⟨ps, A, h1, h2⟩ := m; exact ⟨ps, A, by rw [h.rho _ _ hj]; exact h1, h2⟩
    · cases hi
  | chf j k off => cases hi
  | lnk j0 off j k sz => cases hi
  | vp j off k n e => cases hi
  | vsl j off n sz => cases hi
theorem MtL.ren (h : Ren M idb G G2 w) : ∀ {l l' : List At} {cs : List Value}, renL M idb l = some l' → MtL G w l cs → MtL G2 w l' cs := by
  intro l
  induction l with
  | nil => intro l' cs hi m; cases hi; exact m
  | cons a r ih =>
    intro l' cs hi m
    simp only [renL] at hi
    split at hi
    · cases hi
    · rename_i a' ha
      split at hi
      · cases hi
      · rename_i r' hr
        cases hi
        obtain ⟨c1, c2, h1, h2, h3⟩ := m
        exact ⟨c1, c2, h1, h2.ren h ha, ih hr h3⟩
theorem MtC.ren (h : Ren M idb G G2 w) : ∀ {l l' : List At} {cs : List Value}, renL M idb l = some l' → MtC G w l cs → MtC G2 w l' cs := by
  intro l
  induction l with
  | nil => intro l' cs hi m; cases hi; exact m
  | cons a r ih =>
    intro l' cs hi m
    simp only [renL] at hi
    split at hi
    · cases hi
    · rename_i a' ha
      split at hi
      · cases hi
      · rename_i r' hr
        cases hi
        obtain ⟨v, vs, h1, h2, h3, h4⟩ := m
        exact ⟨v, vs, h1, h2, h3.ren h ha, ih hr h4⟩
theorem MtV.ren (h : Ren M idb G G2 w) {ag : Bool} {l l' : List At} {v : Value} (hi : renL M idb l = some l') (m : MtV G w ag l v) : MtV G2 w ag l' v := by
  cases ag with
  | true => obtain ⟨cs, h1, h2⟩ := m; exact ⟨cs, h1, h2.ren h hi⟩
  | false => exact ⟨m.1, m.2.ren h hi⟩
theorem MtVs.ren (h : Ren M idb G G2 w) : ∀ {l l' : List (Bool × List At)} {vs : List Value}, renT M idb l = some l' → MtVs G w l vs → MtVs G2 w l' vs := by
  intro l
  induction l with
  | nil => intro l' cs hi m; cases hi; exact m
  | cons a r ih =>
    intro l' vs hi m
    obtain ⟨ag, la⟩ := a
    simp only [renT] at hi
    split at hi
    · cases hi
    · rename_i a' ha
      split at hi
      · cases hi
      · rename_i r' hr
        cases hi
        obtain ⟨v, vs', h1, h2, h3⟩ := m
        exact ⟨v, vs', h1, h2.ren h ha, ih hr h3⟩
theorem MtS.ren (h : Ren M idb G G2 w) {s s' : SV} {v : Value} (hi : renS M idb s = some s') (m : MtS G w s v) : MtS G2 w s' v := by
  cases s with
  | v ag l =>
    simp only [renS] at hi
    split at hi
    · rename_i l' hl; cases hi; exact MtV.ren h hl m
    · cases hi
  | fn f l =>
    simp only [renS] at hi
    split at hi
    · rename_i l' hl; cases hi; obtain ⟨vs, h1, h2⟩ := m; exact ⟨vs, h1, h2.ren h hl⟩
    · cases hi
  | tup l =>
    simp only [renS] at hi
    split at hi
    · rename_i l' hl; cases hi; obtain ⟨vs, h1, h2⟩ := m; exact ⟨vs, h1, h2.ren h hl⟩
    · cases hi
  | junk => cases hi; trivial
theorem MtEls.ren (h : Ren M idb G G2 w) {sz : Nat} {C : Array Value} : ∀ {l l' : List (List At)} {off : Nat}, renE M idb l = some l' → MtEls G w sz C off l → l'.length = l.length ∧ MtEls G2 w sz C off l' := by
  intro l
  induction l with
  | nil => intro l' off hi m; cases hi; exact ⟨rfl, m⟩
  | cons a r ih =>
    intro l' off hi m
    simp only [renE] at hi
    split at hi
    · cases hi
    · rename_i a' ha
      split at hi
      · cases hi
      · rename_i r' hr
        cases hi
        obtain ⟨k1, k2⟩ := ih hr m.2
        exact ⟨by simp [k1], m.1.ren h ha, k2⟩
theorem renL_app {l m l' m' : List At} (h : renL M idb l = some l') (k : renL M idb m = some m') : renL M idb (l ++ m) = some (l' ++ m') := by
  induction l generalizing l' with
  | nil => cases h; exact k
  | cons a l ih =>
    simp only [renL] at h
    split at h
    · cases h
    · rename_i a' ha
      split at h
      · cases h
      · rename_i r' hr
        cases h
        simp only [List.cons_append, renL, ha, ih hr]
theorem renL_atomsOf : ∀ {T : Ty} {F : Fl} {x : T.den}, renL M idb (atomsOf T F x) = some (atomsOf T F x) := by
  intro T
  induction T with
  | pr a b iha ihb => intro F x; simp only [atomsOf]; exact renL_app iha ihb
  | _ => intro F x; rfl
theorem MpOk.ren (h : Ren M idb G G2 w) {ak av : Bool} {K V : Ty} {F : Fl} : ∀ {l : List (K.den × V.den)} {es : List MapEntry}, MpOk G w ak av K V F l es → MpOk G2 w ak av K V F l es := by
  intro l
  induction l with
  | nil => intro es m; exact m
  | cons p l ih =>
    intro es m
    obtain ⟨e, es', h1, h2, h3, h4⟩ := m
    exact ⟨e, es', h1, h2.ren h renL_atomsOf, h3.ren h renL_atomsOf, ih h4⟩
theorem ResOk.ren (h : Ren M idb G G2 w) {j i : Id} {R R' : Res} (hj : renId M idb j = some i) (hi : renR M idb R = some R') (m : ResOk G w j R) : ResOk G2 w i R' := by
  have hr := h.rho j i hj
  cases R with
  | var l =>
    simp only [renR] at hi
    split at hi
    · rename_i l' hl
      cases hi
      obtain ⟨b, C, t, h1, h2, h3, h4⟩ := m
      exact ⟨b, C, t, hr.trans h1, h.own b j _ i h2 hj, h3, h4.ren h hl⟩
    · cases hi
  | sl e f x =>
    cases hi
    have := Tr.ren h hj m
    rw [← hr] at this
    exact this
  | slo e f x k l =>
    simp only [renR] at hi
    split at hi
    · rename_i l' hl
      cases hi
      obtain ⟨b, off, C, t, n, c, h1, h2, h3, h4, h5, h6, h7, h8, h9, h10⟩ := m
      exact ⟨b, off, C, t, n, c, hr.trans h1, h2, h3, h4, h5, h.own b j _ i h6 hj, h7, h8, fun k y hk hy => (h9 k y hk hy).ren h hj, h10.ren h hl⟩
    · cases hi
  | els sz l =>
    simp only [renR] at hi
    split at hi
    · rename_i l' hl
      cases hi
      obtain ⟨A, n, c, h1, h2, h3, h4, h5⟩ := m
      have hlen : l'.length = l.length := by
        have : ∀ (l l' : List (List At)), renE M idb l = some l' → l'.length = l.length := by
          intro l
          induction l with
          | nil => intro l' h; cases h; rfl
          | cons a r ih =>
            intro l' hi
            simp only [renE] at hi
            split at hi
            · cases hi
            · split at hi
              · cases hi
              · rename_i r' hr; cases hi; simp [ih _ hr]
        exact this l l' hl
      refine ⟨A, n, c, hr.trans h1, h2.trans hlen.symm, h3, h4, h5.imp (fun h => h) ?_⟩
      rintro ⟨b, off, C, t, k1, k2, k3, k4, k5⟩
      exact ⟨b, off, C, t, k1, h.own b j _ i k2 hj, k3, k4, (k5.ren h hl).2⟩
    · cases hi
  | mp ak av K V F l =>
    cases hi
    obtain ⟨h0, r, es, clk, h1, h2, h3, h4⟩ := m
    exact ⟨h0, r, es, clk, hr.trans h1, h.own r j _ i h2 hj, h3, h4.ren h⟩
  | room i k => cases hi
  | ch o e l =>
    cases o with
    | false => cases hi
    | true =>
    cases hi
    obtain ⟨ps, h1, h2, h3⟩ := m
    refine ⟨ps, by rw [hr]; exact h1, h2, fun k y hy => ?_⟩
    obtain ⟨b, C, t, cs, nx, g1, g2, g3, g4, g5, g6⟩ := h3 k y hy
    exact ⟨b, C, t, cs, nx, g1, g2, h.own b j _ i g3 hj, g4, g5, g6.keep h.pb (noO_p e)⟩
  | pre i n => cases hi
  | lvar cs => cases hi
  | bys l => cases hi
theorem renU_mem : ∀ {l : List (Id × Res)} {l' : List (Id × Option Res)}, renU M idb l = some l' → ∀ {i : Id} {R' : Res}, (i, some R') ∈ l' → ∃ j R, (j, R) ∈ l ∧ renId M idb j = some i ∧ renR M idb R = some R' := by
  intro l
  induction l with
  | nil => intro l' h i R' hm; cases h; cases hm
  | cons a r ih =>
    intro l' h i R' hm
    obtain ⟨j, R⟩ := a
    simp only [renU] at h
    split at h
    · cases h
    · rename_i i' hi
      split at h
      · cases h
      · rename_i R2 hR
        split at h
        · cases h
        · rename_i r' hr
          cases h
          rcases List.mem_cons.1 hm with hm | hm
          · cases hm
            exact ⟨j, R, List.mem_cons_self, hi, hR⟩
          · obtain ⟨j', R3, h1, h2, h3⟩ := ih hr hm
            exact ⟨j', R3, List.mem_cons_of_mem _ h1, h2, h3⟩
end
theorem nbU_mem : ∀ {l : List (Id × Res)}, nbU l = true → ∀ {i : Id} {R : Res}, (i, R) ∈ l → nbR R = true := by
  intro l
  induction l with
  | nil => intro _ i R h; cases h
  | cons a r ih =>
    intro hn i R h
    obtain ⟨j, S⟩ := a
    simp only [nbU, Bool.and_eq_true] at hn
    rcases List.mem_cons.1 h with h | h
    · cases h; exact hn.1
    · exact ih hn.2 h
theorem nameIn_mem : ∀ {M : List (Id × Id)} {j i : Id}, nameIn M j = some i → (i, j) ∈ M := by
  intro M
  induction M with
  | nil => intro j i h; cases h
  | cons a r ih =>
    intro j i h
    obtain ⟨i', n⟩ := a
    simp only [nameIn] at h
    cases hb : n.beq j with
    | true => rw [hb] at h; cases h; rw [Id.eq_of_beq hb]; exact List.mem_cons_self
    | false => rw [hb] at h; exact List.mem_cons_of_mem _ (ih h)
end

section
variable {P : Program} {old : Id → Prop} {G : Gh} {w : World} {lk : Id → Option Res}
theorem Called.mono {f : FuncId} {args : Array Value} {R R' : Value → World → Prop} (h : Called P f args w R) (hr : ∀ v w', R v w' → R' v w') : Called P f args w R' := by
  obtain ⟨n, w', h1, h2⟩ := h
  refine ⟨n, w', h1, ?_⟩
  rcases h2 with ⟨v, h2, h3⟩ | ⟨h2, h3⟩ | ⟨row, as, h2, h3⟩
  · exact .inl ⟨v, h2, hr v w' h3⟩
  · refine .inr (.inl ⟨h2, h3.mono fun e w'' he => ?_⟩)
    cases e with
    | returned v => exact hr v w'' he
    | _ => exact he
  · exact .inr (.inr ⟨row, as, h2, h3.mono hr⟩)

/-- the labels that the function sees -/
def callLab (mp : Id → Option (Id × List Nat)) (bw : List Id) (l : Lab) : Lab :=
  open Classical in
  match l with
  | .own i q => if i ∈ bw then .bor else match mp i with
    | some (j, pos) => .own j (pos ++ q)
    | none => .no
  | l => l
/-- the labels afterwards -/
def backLab (bk : Id → Option Id) (l : Lab) : Lab :=
  match l with
  | .own i q => match bk i with
    | some j => .own j q
    | none => .no
  | l => l
theorem call_sound {c : Ctr} (hc : CtrOk P c) (hb : ∀ b, G.g b ≠ .no → b < w.heap.size) (hrs : ∀ id R, lk id = some R → ResOk G w id R) {vals : List SV} {args : List Value} {x : mdens c.ins} {ids bw : List Id} {refs : List (Id × Id)} {t : List Id} {idb : Id}
    (hx : (matchArgs 0 c.ins vals).exec lk = some ((x, ⟨ids, bw, refs⟩), t)) (hnd : (ids ++ refs.map (·.1)).Nodup) (hdj : ∀ i ∈ bw, i ∉ ids ++ refs.map (·.1)) (hnb : bw = [] ∨ (nbS (c.post x).1 = true ∧ nbU (c.post x).2 = true)) (hm : MtSs G w vals args) (hpre : c.pre x)
    (hfr : ∀ k, ¬ old (idb.plus k)) (hrold : ∀ p ∈ refs, old p.1) {sv : SV} {us : List (Id × Option Res)} (hsv : renS refs idb (c.post x).1 = some sv) (hus : renU refs idb (c.post x).2 = some us) :
    Called P c.f args.toArray w fun v w' => ∃ G', Chg old (fun i => i ∈ (drops ids ++ drops (refs.map (·.1)) ++ us).map (·.1)) G G' w w' ∧ MtS G' w' sv v ∧ ∀ i R, (i, some R) ∈ drops ids ++ drops (refs.map (·.1)) ++ us → ResOk G' w' i R := by
  classical
  obtain ⟨⟨hptr, _⟩, htook⟩ := matchArgs_sound hrs (k := 0) hx hm
  obtain ⟨mp, hmp, hargs⟩ := htook hnd
  let Gc : Gh := ⟨G.ρ, fun b => callLab mp bw (G.g b)⟩
  have hTC : TakesC G Gc w mp bw := by
    refine ⟨⟨fun b h => ⟨by simp [Gc, callLab, h], rfl⟩, fun b h => ⟨by simp [Gc, callLab, h], rfl⟩⟩, fun b i q j pos hg hp => ?_, fun b i q hg hi => by simp [Gc, callLab, hg, hi]⟩
    have hi := (hmp i).1 (by rw [hp]; simp)
    have hnb : i ∉ bw := fun h => hdj i h hi
    simp [Gc, callLab, hg, hnb, hp]
  have hbc : ∀ b, Gc.g b ≠ .no → b < w.heap.size := fun b h => hb b fun h2 => h (by simp [Gc, callLab, h2])
  refine (hc Gc w args x hbc (hargs Gc bw hTC fun _ h => h) hpre).mono ?_
  rintro v w' ⟨G', hch, hone, hat, hmv, hrs'⟩
  -- what the function leaves, without what was lent to it
  obtain ⟨Gd, hρd, hGd, hGdb, hmv, hrs'⟩ : ∃ Gd : Gh, Gd.ρ = G'.ρ ∧ (∀ b, Gd.g b = G'.g b ∨ (G'.g b = .bor ∧ Gd.g b = .no)) ∧ (bw ≠ [] → ∀ b, Gd.g b ≠ .bor) ∧ MtS Gd w' (c.post x).1 v ∧ ∀ i R, (i, R) ∈ (c.post x).2 → ResOk Gd w' i R := by
    by_cases hbw : bw = []
    · exact ⟨G', rfl, fun b => .inl rfl, fun h => absurd hbw h, hmv, hrs'⟩
    · obtain ⟨n1, n2⟩ := hnb.resolve_left hbw
      refine ⟨dropB G', rfl, fun b => ?_, fun _ b => ?_, hmv.dropB n1, fun i R hi => (hrs' i R hi).dropB (nbU_mem n2 hi)⟩
      · cases h : G'.g b <;> simp [dropB, h]
      · cases h : G'.g b <;> simp [dropB, h]
  let ρ2 : Id → Value := fun i => if h : ∃ m, i = idb.plus m then Gd.ρ ⟨1, h.choose / 64, h.choose % 64⟩ else G.ρ i
  have hρo : ∀ i, old i → ρ2 i = G.ρ i := fun i hi => by
    simp only [ρ2]
    rw [dif_neg]
    rintro ⟨m, rfl⟩
    exact hfr _ hi
  have hρn : ∀ a b, b < 64 → ρ2 (idb.plus (64 * a + b)) = Gd.ρ ⟨1, a, b⟩ := fun a b hlt => by
    have hex : ∃ m, idb.plus (64 * a + b) = idb.plus m := ⟨_, rfl⟩
    simp only [ρ2]
    rw [dif_pos hex]
    have : 64 * a + b = hex.choose := by
      have h2 := congrArg Id.c hex.choose_spec
      have hc : ∀ m, (idb.plus m).c = idb.c + m := fun m => by cases idb; rfl
      rw [hc, hc] at h2
      exact Nat.add_left_cancel h2
    rw [← this, show (64 * a + b) / 64 = a by omega, show (64 * a + b) % 64 = b by omega]
  let g2 : Nat → Lab := fun b => if b < w.heap.size then (match G.g b with
    | .own i q => if i ∈ ids ++ refs.map (·.1) then backLab (renId refs idb) (Gd.g b) else .own i q
    | l => l) else backLab (renId refs idb) (Gd.g b)
  -- a block that the function owns afterwards was handed over, or is new
  have hown : ∀ b i q, Gd.g b = .own i q → g2 b = backLab (renId refs idb) (.own i q) := fun b i q hg => by
    have hg' : G'.g b = .own i q := by
      rcases hGd b with h | ⟨h, h'⟩
      · rw [← h]; exact hg
      · rw [h'] at hg; cases hg
    simp only [g2]
    split
    · rename_i hlt
      cases hgb : G.g b with
      | no =>
        have := (hch.no b hlt (by simp [Gc, callLab, hgb])).2
        rw [this] at hg'; cases hg'
      | per =>
        have := (hch.pb.per b (by simp [Gc, callLab, hgb])).1
        rw [this] at hg'; cases hg'
      | bor =>
        have := (hch.pb.bor b (by simp [Gc, callLab, hgb])).1
        rw [this] at hg'; cases hg'
      | own i0 q0 =>
        simp only
        by_cases hi0 : i0 ∈ ids ++ refs.map (·.1)
        · rw [if_pos hi0, hg]
        · exfalso
          by_cases hib : i0 ∈ bw
          · have := (hch.pb.bor b (by simp [Gc, callLab, hgb, hib])).1
            rw [this] at hg'; cases hg'
          · have h1 : mp i0 = none := not_mem_none hmp hi0
            have := (hch.no b hlt (by simp [Gc, callLab, hgb, hib, h1])).2
            rw [this] at hg'; cases hg'
    · rw [hg]
  have hpb2 : KeepPB Gd ⟨ρ2, g2⟩ w' w' := by
    have key : ∀ b l, (l = Lab.per ∨ l = Lab.bor) → Gd.g b = l → g2 b = l := fun b l hl hg => by
      have hg' : G'.g b = l := by
        rcases hGd b with h | ⟨h, h'⟩
        · rw [← h]; exact hg
        · rw [h'] at hg; rcases hl with rfl | rfl <;> cases hg
      have hbl : backLab (renId refs idb) l = l := by rcases hl with rfl | rfl <;> rfl
      simp only [g2]
      split
      · rename_i hlt
        cases hgb : G.g b with
        | no =>
          have := (hch.no b hlt (by simp [Gc, callLab, hgb])).2
          rw [this] at hg'; rcases hl with rfl | rfl <;> cases hg'
        | per =>
          have := (hch.pb.per b (by simp [Gc, callLab, hgb])).1
          rw [← hg', this]
        | bor =>
          have := (hch.pb.bor b (by simp [Gc, callLab, hgb])).1
          rw [← hg', this]
        | own i0 q0 =>
          simp only
          by_cases hi0 : i0 ∈ ids ++ refs.map (·.1)
          · rw [if_pos hi0, hg, hbl]
          · exfalso
            by_cases hib : i0 ∈ bw
            · have h3 := (hch.pb.bor b (by simp [Gc, callLab, hgb, hib])).1
              have hbn : bw ≠ [] := fun h => by rw [h] at hib; cases hib
              have := hGdb hbn b
              rw [h3] at hg'
              rw [hg, ← hg'] at this
              exact this rfl
            · have h1 : mp i0 = none := not_mem_none hmp hi0
              have := (hch.no b hlt (by simp [Gc, callLab, hgb, hib, h1])).2
              rw [this] at hg'; rcases hl with rfl | rfl <;> cases hg'
      · rw [hg, hbl]
    exact ⟨fun b h => ⟨key b .per (.inl rfl) h, rfl⟩, fun b h => ⟨key b .bor (.inr rfl) h, rfl⟩⟩
  have hRen : Ren refs idb Gd ⟨ρ2, g2⟩ w' := by
    refine ⟨hpb2, fun b j q i hg hr => ?_, fun j i hr => ?_⟩
    · show g2 b = _
      rw [hown b j q hg]
      simp [backLab, hr]
    · show ρ2 i = _
      obtain ⟨r, a, b⟩ := j
      simp only [renId] at hr
      split at hr
      · have hmem := nameIn_mem hr
        rw [hρo i (hrold _ hmem), hρd]
        have := hat (⟨0, a, b⟩, G.ρ i) (by rw [hptr]; exact List.mem_map.2 ⟨_, hmem, rfl⟩)
        exact this.symm
      · cases hlt : Nat.blt b 64 with
        | false => rw [hlt] at hr; cases hr
        | true =>
          rw [hlt] at hr
          cases hr
          exact hρn a b (by have := Nat.le_of_ble_eq_true hlt; omega)
      · cases hr
  refine ⟨⟨ρ2, g2⟩, ⟨hρo, ⟨fun b h => ?_, fun b h => ?_⟩, fun b i q hg hn => ?_, fun b hlt h => ?_, fun b h => ?_, fun h1 i => ?_, hch.os, hch.tape, hch.output, hch.size⟩, hmv.ren hRen hsv, fun i R hi => ?_⟩
  · have hlt := hb b (by rw [h]; simp)
    exact ⟨by simp only [g2]; rw [if_pos hlt, h], (hch.pb.per b (by simp [Gc, callLab, h])).2⟩
  · have hlt := hb b (by rw [h]; simp)
    exact ⟨by simp only [g2]; rw [if_pos hlt, h], (hch.pb.bor b (by simp [Gc, callLab, h])).2⟩
  · have hlt := hb b (by rw [hg]; simp)
    have hi1 : i ∉ ids ++ refs.map (·.1) := fun h => hn (by
      rw [List.map_append, List.map_append, map_drops, map_drops]
      exact List.mem_append_left _ h)
    refine ⟨by simp only [g2]; rw [if_pos hlt, hg]; simp only; rw [if_neg hi1], ?_⟩
    by_cases hib : i ∈ bw
    · exact (hch.pb.bor b (by simp [Gc, callLab, hg, hib])).2
    · have h1 : mp i = none := not_mem_none hmp hi1
      exact (hch.no b hlt (by simp [Gc, callLab, hg, hib, h1])).1
  · exact ⟨(hch.no b hlt (by simp [Gc, callLab, h])).1, by simp only [g2]; rw [if_pos hlt, h]⟩
  · simp only [g2] at h
    split at h
    · rename_i hlt
      exact Nat.lt_of_lt_of_le hlt hch.size
    · refine hch.bnd b fun h2 => h ?_
      rcases hGd b with h3 | ⟨h3, h4⟩
      · rw [h3, h2]; rfl
      · rw [h4]; rfl
  · simp only [ρ2]
    split
    · rw [hρd]; exact hone _
    · exact h1 i
  · rcases List.mem_append.1 hi with hi | hi
    · rcases List.mem_append.1 hi with hi | hi
      · have := (mem_drops hi).2; cases this
      · have := (mem_drops hi).2; cases this
    · obtain ⟨j, R0, h1, h2, h3⟩ := renU_mem hus hi
      exact (hrs' j R0 h1).ren hRen h2 h3

/-! A call whose arguments are what they are. -/
structure Bak (M : List (Id × Id)) (tk : Id → Prop) (G G2 : Gh) (w : World) : Prop where
  pb : KeepPB G G2 w w
  own : ∀ b j q i, tk j → G.g b = .own j q → nameIn M i = some j → G2.g b = .own i q
  rho : ∀ i j, nameIn M i = some j → G2.ρ i = G.ρ j
section
variable {M : List (Id × Id)} {tk : Id → Prop} {G2 : Gh}
theorem Tr.bak (h : Bak M tk G G2 w) {T : Ty} {F : Fl} {j i : Id} {p : List Nat} {cs : List Value} {x : T.den} (ht : tk j) (hi : nameIn M i = some j) (m : Tr G w T F j p cs x) : Tr G2 w T F i p cs x :=
  Tr.mono h.pb (fun b q hq => ⟨h.own b j _ i ht hq hi, rfl⟩) m
theorem MtA.bak (h : Bak M tk G G2 w) {a a' : At} {cs : List Value} (hi : namA M a = some a') (m : MtA G w a' cs) : MtA G2 w a cs := by
  cases a with
  | own j =>
    simp only [namA] at hi
    split at hi
    · rename_i i hj; cases hi; rw [show cs = _ from m, ← h.rho _ _ hj]; rfl
    · cases hi
  | ptr j off =>
    simp only [namA] at hi
    split at hi
    · rename_i i hj; cases hi; obtain ⟨b, h1, h2⟩ := m; exact ⟨b, (h.rho _ _ hj).trans h1, h2⟩
    · cases hi
  | opt j k sz off T =>
    simp only [namA] at hi
    split at hi
    · rename_i i hj; cases hi; obtain ⟨b, o, n, c, h1, h2⟩ := m; exact ⟨b, o, n, c, (h.rho _ _ hj).trans h1, h2⟩
    · cases hi
  | d T F x => cases hi; exact ⟨m.1, m.2.keep h.pb m.1⟩
  | rpt o T F x =>
    cases hi
    obtain ⟨h0, ho', b, off, C, t, fz, h1, h2, h3, h4, h5⟩ := m
    have hl := labOk_keep h.pb (id' := default) (p' := []) ho' h2
    exact ⟨h0, ho', b, off, C, t, fz, h1, hl.1, h3, h4, h5.keep h.pb h0⟩
  | kb b => cases hi; exact m
  | nils => cases hi; exact m
  | nilp => cases hi; exact m
  | junk => cases hi; exact m
  | anyb P => cases hi; exact m
  | sub j lo hi' sz inn =>
    simp only [namA] at hi
    split at hi
    · rename_i i hj; cases hi; obtain ⟨A, n, c, h1, h2⟩ := m; exact ⟨A, n, c, (h.rho _ _ hj).trans h1, h2⟩
    · cases hi
  | chp j k =>
    simp only [namA] at hi
    split at hi
    · rename_i i hj; cases hi; obtain ⟨ps, A, h1, h2⟩ := m; exact ⟨ps, A, by rw [h.rho _ _ hj]; exact h1, h2⟩
    · cases hi
  | chf j k off => cases hi
  | lnk j0 off j k sz => cases hi
  | vp j off k n e => cases hi
  | vsl j off n sz => cases hi
theorem MtL.bak (h : Bak M tk G G2 w) : ∀ {l l' : List At} {cs : List Value}, namL M l = some l' → MtL G w l' cs → MtL G2 w l cs := by
  intro l
  induction l with
  | nil => intro l' cs hi m; cases hi; exact m
  | cons a r ih =>
    intro l' cs hi m
    simp only [namL] at hi
    split at hi
    · cases hi
    · rename_i a' ha
      split at hi
      · cases hi
      · rename_i r' hr
        cases hi
        obtain ⟨c1, c2, h1, h2, h3⟩ := m
        exact ⟨c1, c2, h1, h2.bak h ha, ih hr h3⟩
theorem MtC.bak (h : Bak M tk G G2 w) : ∀ {l l' : List At} {cs : List Value}, namL M l = some l' → MtC G w l' cs → MtC G2 w l cs := by
  intro l
  induction l with
  | nil => intro l' cs hi m; cases hi; exact m
  | cons a r ih =>
    intro l' cs hi m
    simp only [namL] at hi
    split at hi
    · cases hi
    · rename_i a' ha
      split at hi
      · cases hi
      · rename_i r' hr
        cases hi
        obtain ⟨v, vs, h1, h2, h3, h4⟩ := m
        refine ⟨v, vs, h1, h2, h3.bak h ha, ih hr h4⟩
theorem MtV.bak (h : Bak M tk G G2 w) {ag : Bool} {l l' : List At} {v : Value} (hi : namL M l = some l') (m : MtV G w ag l' v) : MtV G2 w ag l v := by
  cases ag with
  | true => obtain ⟨cs, h1, h2⟩ := m; exact ⟨cs, h1, h2.bak h hi⟩
  | false => exact ⟨m.1, m.2.bak h hi⟩
theorem MtS.bak (h : Bak M tk G G2 w) {s s' : SV} {v : Value} (hi : namS M s = some s') (m : MtS G w s' v) : MtS G2 w s v := by
  cases s with
  | v ag l =>
    simp only [namS] at hi
    split at hi
    · rename_i l' hl; cases hi; exact MtV.bak h hl m
    · cases hi
  | fn f l =>
    simp only [namS] at hi
    split at hi
    · rename_i l' hl; cases hi; obtain ⟨vs, h1, h2⟩ := m; exact ⟨vs, h1, h2.bak h hl⟩
    · cases hi
  | tup l => cases hi
  | junk => cases hi
theorem MtSs.bak (h : Bak M tk G G2 w) : ∀ {l l' : List SV} {vs : List Value}, namSs M l = some l' → MtSs G w l' vs → MtSs G2 w l vs := by
  intro l
  induction l with
  | nil => intro l' vs hi m; cases hi; cases vs with
    | nil => exact m
    | cons _ _ => exact m.elim
  | cons a r ih =>
    intro l' vs hi m
    simp only [namSs] at hi
    split at hi
    · cases hi
    · rename_i a' ha
      split at hi
      · cases hi
      · rename_i r' hr
        cases hi
        cases vs with
        | nil => exact m.elim
        | cons v vs => exact ⟨m.1.bak h ha, ih hr m.2⟩
theorem namE_len : ∀ {l l' : List (List At)}, namE M l = some l' → l'.length = l.length := by
  intro l
  induction l with
  | nil => intro l' h; cases h; rfl
  | cons a r ih =>
    intro l' hi
    simp only [namE] at hi
    split at hi
    · cases hi
    · split at hi
      · cases hi
      · rename_i r' hr; cases hi; simp [ih hr]
theorem MtEls.bak (h : Bak M tk G G2 w) {sz : Nat} {C : Array Value} : ∀ {l l' : List (List At)} {off : Nat}, namE M l = some l' → MtEls G w sz C off l' → MtEls G2 w sz C off l := by
  intro l
  induction l with
  | nil => intro l' off hi m; cases hi; exact m
  | cons a r ih =>
    intro l' off hi m
    simp only [namE] at hi
    split at hi
    · cases hi
    · rename_i a' ha
      split at hi
      · cases hi
      · rename_i r' hr
        cases hi
        exact ⟨m.1.bak h ha, ih hr m.2⟩
theorem namL_app {l m l' m' : List At} (h : namL M l = some l') (k : namL M m = some m') : namL M (l ++ m) = some (l' ++ m') := by
  induction l generalizing l' with
  | nil => cases h; exact k
  | cons a l ih =>
    simp only [namL] at h
    split at h
    · cases h
    · rename_i a' ha
      split at h
      · cases h
      · rename_i r' hr
        cases h
        simp only [List.cons_append, namL, ha, ih hr]
theorem namL_atomsOf : ∀ {T : Ty} {F : Fl} {x : T.den}, namL M (atomsOf T F x) = some (atomsOf T F x) := by
  intro T
  induction T with
  | pr a b iha ihb => intro F x; simp only [atomsOf]; exact namL_app iha ihb
  | _ => intro F x; rfl
theorem MpOk.bak (h : Bak M tk G G2 w) {ak av : Bool} {K V : Ty} {F : Fl} : ∀ {l : List (K.den × V.den)} {es : List MapEntry}, MpOk G w ak av K V F l es → MpOk G2 w ak av K V F l es := by
  intro l
  induction l with
  | nil => intro es m; exact m
  | cons p l ih =>
    intro es m
    obtain ⟨e, es', h1, h2, h3, h4⟩ := m
    exact ⟨e, es', h1, h2.bak h namL_atomsOf, h3.bak h namL_atomsOf, ih h4⟩
theorem ResOk.bak (h : Bak M tk G G2 w) {j i : Id} {R R' : Res} (ht : tk j) (hj : nameIn M i = some j) (hi : namR M R = some R') (m : ResOk G w j R') : ResOk G2 w i R := by
  have hr := h.rho i j hj
  cases R with
  | var l =>
    simp only [namR] at hi
    split at hi
    · rename_i l' hl
      cases hi
      obtain ⟨b, C, t, h1, h2, h3, h4⟩ := m
      exact ⟨b, C, t, hr.trans h1, h.own b j _ i ht h2 hj, h3, h4.bak h hl⟩
    · cases hi
  | sl e f x =>
    cases hi
    have := Tr.bak h ht hj m
    rw [← hr] at this
    exact this
  | slo e f x k l =>
    simp only [namR] at hi
    split at hi
    · rename_i l' hl
      cases hi
      obtain ⟨b, off, C, t, n, c, h1, h2, h3, h4, h5, h6, h7, h8, h9, h10⟩ := m
      exact ⟨b, off, C, t, n, c, hr.trans h1, h2, h3, h4, h5, h.own b j _ i ht h6 hj, h7, h8, fun k y hk hy => (h9 k y hk hy).bak h ht hj, h10.bak h hl⟩
    · cases hi
  | els sz l =>
    simp only [namR] at hi
    split at hi
    · rename_i l' hl
      cases hi
      obtain ⟨A, n, c, h1, h2, h3, h4, h5⟩ := m
      have hlen := namE_len hl
      refine ⟨A, n, c, hr.trans h1, h2.trans hlen, h3, h4, h5.imp (fun h => h) ?_⟩
      rintro ⟨b, off, C, t, k1, k2, k3, k4, k5⟩
      exact ⟨b, off, C, t, k1, h.own b j _ i ht k2 hj, k3, k4, k5.bak h hl⟩
    · cases hi
  | mp ak av K V F l =>
    cases hi
    obtain ⟨h0, r, es, clk, h1, h2, h3, h4⟩ := m
    exact ⟨h0, r, es, clk, hr.trans h1, h.own r j _ i ht h2 hj, h3, h4.bak h⟩
  | room i k => cases hi
  | ch o e l =>
    cases hi
    obtain ⟨ps, h1, h2, h3⟩ := m
    refine ⟨ps, by rw [hr]; exact h1, h2, fun k y hy => ?_⟩
    obtain ⟨b, C, t, cs, nx, g1, g2, g3, g4, g5, g6⟩ := h3 k y hy
    have hl : labC G2 o i k b := by
      cases o with
      | true => exact h.own b j _ i ht g3 hj
      | false => exact (h.pb.bor b g3).1
    exact ⟨b, C, t, cs, nx, g1, g2, hl, g4, g5, g6.keep h.pb (noO_p e)⟩
  | pre i n => cases hi
  | lvar cs => cases hi
  | bys l => cases hi
/-- what is lent -/
theorem ResOk.lent (h : Bak M tk G G2 w) {j i : Id} {R R' : Res} {v : List Prop} (hb : ∀ b q, G.g b = .own j q → G2.g b = .bor) (hj : nameIn M i = some j) (hi : lenR M R R' = some v) (hv : ∀ p ∈ v, p) (m : ResOk G w j R') : ResOk G2 w i R := by
  have hr := h.rho i j hj
  cases R with
  | lvar l =>
    simp only [lenR] at hi
    split at hi
    · rename_i l' hl'
      cases hi
      have hn : namL M l = some l' := hv _ List.mem_cons_self
      obtain ⟨b, C, t, h1, h2, h3, h4⟩ := varOf_at (id := j) hl' (fun R hR => by cases hR; exact m)
      exact ⟨b, C, t, hr.trans h1, h2.elim (hb b []) (fun h2 => (h.pb.bor b h2).1), h3, h4.bak h hn⟩
    · cases hi
  | ch o e l =>
    cases o with
    | true => cases hi
    | false =>
      simp only [lenR] at hi
      split at hi
      · rename_i o' e' l'
        cases hE : Ty.beq e' e with
        | false => rw [hE] at hi; cases hi
        | true =>
          rw [hE] at hi
          have := Ty.eq_of_beq hE
          subst this
          cases hi
          have hl := hv _ List.mem_cons_self
          rw [tcast_self] at hl
          subst hl
          obtain ⟨ps, h1, h2, h3⟩ := m
          refine ⟨ps, by rw [hr]; exact h1, h2, fun k y hy => ?_⟩
          obtain ⟨b, C, t, cs, nx, g1, g2, g3, g4, g5, g6⟩ := h3 k y hy
          have hl : labC G2 false i k b := by
            cases o' with
            | true => exact hb b _ g3
            | false => exact (h.pb.bor b g3).1
          exact ⟨b, C, t, cs, nx, g1, g2, hl, g4, g5, g6.keep h.pb (noO_p _)⟩
      · cases hi
  | _ => cases hi
end
theorem nameIn_of {M : List (Id × Id)} (hn : (M.map (·.2)).Nodup) {i j : Id} (h : (j, i) ∈ M) : nameIn M i = some j := by
  induction M with
  | nil => cases h
  | cons a r ih =>
    obtain ⟨j', i'⟩ := a
    simp only [List.map_cons, List.nodup_cons] at hn
    simp only [nameIn]
    rcases List.mem_cons.1 h with h | h
    · cases h; rw [Id.beq_self]; rfl
    · cases hb : i'.beq i with
      | true => exact absurd (List.mem_map.2 ⟨_, h, (Id.eq_of_beq hb).symm⟩) hn.1
      | false => exact ih hn.2 h
def nameOut (M : List (Id × Id)) (j : Id) : Option Id := match M with
  | [] => none
  | (j', i) :: r => bif j'.beq j then some i else nameOut r j
theorem nameOut_of {M : List (Id × Id)} (hn : (M.map (·.1)).Nodup) {i j : Id} (h : (j, i) ∈ M) : nameOut M j = some i := by
  induction M with
  | nil => cases h
  | cons a r ih =>
    obtain ⟨j', i'⟩ := a
    simp only [List.map_cons, List.nodup_cons] at hn
    simp only [nameOut]
    rcases List.mem_cons.1 h with h | h
    · cases h; rw [Id.beq_self]; rfl
    · cases hb : j'.beq j with
      | true => exact absurd (List.mem_map.2 ⟨_, h, (Id.eq_of_beq hb).symm⟩) hn.1
      | false => exact ih hn.2 h
theorem nameOut_none {M : List (Id × Id)} {j : Id} (h : j ∉ M.map (·.1)) : nameOut M j = none := by
  induction M with
  | nil => rfl
  | cons a r ih =>
    obtain ⟨j', i'⟩ := a
    simp only [List.map_cons, List.mem_cons, not_or] at h
    simp only [nameOut]
    cases hb : j'.beq j with
    | true => exact absurd (Id.eq_of_beq hb).symm h.1
    | false => exact ih h.2
theorem keptN_mem {l : List Id} : ∀ {M : List (Id × Id)} {p : Id × Id}, p ∈ keptN l M → p ∈ M ∧ p.2 ∈ l := by
  intro M
  induction M with
  | nil => intro p h; cases h
  | cons a r ih =>
    intro p h
    obtain ⟨j, i⟩ := a
    simp only [keptN] at h
    cases hb : hasN l i with
    | true =>
      rw [hb] at h
      rcases List.mem_cons.1 h with h | h
      · cases h; exact ⟨List.mem_cons_self, hasN_iff.1 hb⟩
      · exact ⟨List.mem_cons_of_mem _ (ih h).1, (ih h).2⟩
    | false => rw [hb] at h; exact ⟨List.mem_cons_of_mem _ (ih h).1, (ih h).2⟩
theorem matchX_sound {M : List (Id × Id)} : ∀ {rs : List (Id × Id × Res)} {l : List Prop} {t : List Id}, (matchX M rs).exec lk = some (l, t) → (∀ p ∈ l, p) → ∀ j i R, (j, i, R) ∈ rs → ∃ R', lk j = some R' ∧ namR M R = some R' := by
  intro rs
  induction rs with
  | nil => intro l t h hl j i R hm; cases hm
  | cons a r ih =>
    intro l t h hl j i R hm
    obtain ⟨j0, i0, R0⟩ := a
    simp only [matchX] at h
    replace ⟨t', h, _⟩ := exec_need h
    split at h
    · exact exec_fail h
    · rename_i R' hR'
      replace ⟨l', t1, t2, h1, h, _⟩ := exec_bind h
      obtain ⟨rfl, _⟩ := exec_ok h
      rcases List.mem_cons.1 hm with hm | hm
      · cases hm
        exact ⟨R', hR', hl _ List.mem_cons_self⟩
      · exact ih h1 (fun p hp => hl p (List.mem_cons_of_mem _ hp)) j i R hm
theorem namsOf_mem {rs : List (Id × Id × Res)} {j i : Id} : (j, i) ∈ namsOf rs ↔ ∃ R, (j, i, R) ∈ rs := by
  induction rs with
  | nil => simp [namsOf]
  | cons a r ih =>
    obtain ⟨j0, i0, R0⟩ := a
    simp only [namsOf, List.mem_cons, ih, Prod.mk.injEq]
    constructor
    · rintro (⟨rfl, rfl⟩ | ⟨R, h⟩)
      · exact ⟨R0, .inl ⟨rfl, rfl, rfl⟩⟩
      · exact ⟨R, .inr h⟩
    · rintro ⟨R, ⟨rfl, rfl, rfl⟩ | h⟩
      · exact .inl ⟨rfl, rfl⟩
      · exact .inr ⟨R, h⟩
theorem resOf_mem {rs : List (Id × Id × Res)} {i : Id} {R : Res} : (i, R) ∈ resOf rs ↔ ∃ j, (j, i, R) ∈ rs := by
  induction rs with
  | nil => simp [resOf]
  | cons a r ih =>
    obtain ⟨j0, i0, R0⟩ := a
    simp only [resOf, List.mem_cons, ih, Prod.mk.injEq]
    constructor
    · rintro (⟨rfl, rfl⟩ | ⟨j, h⟩)
      · exact ⟨j0, .inl ⟨rfl, rfl, rfl⟩⟩
      · exact ⟨j, .inr h⟩
    · rintro ⟨j, ⟨rfl, rfl, rfl⟩ | h⟩
      · exact .inl ⟨rfl, rfl⟩
      · exact .inr ⟨j, h⟩
theorem matchL_sound {M : List (Id × Id)} : ∀ {rs : List (Id × Id × Res)} {l : List Prop} {t : List Id}, (matchL M rs).exec lk = some (l, t) → (∀ p ∈ l, p) → ∀ j i R, (j, i, R) ∈ rs → ∃ R' v, lk j = some R' ∧ lenR M R R' = some v ∧ ∀ p ∈ v, p := by
  intro rs
  induction rs with
  | nil => intro l t h hl j i R hm; cases hm
  | cons a r ih =>
    intro l t h hl j i R hm
    obtain ⟨j0, i0, R0⟩ := a
    simp only [matchL] at h
    replace ⟨t', h, _⟩ := exec_need h
    split at h
    · exact exec_fail h
    · rename_i R' hR'
      split at h
      · exact exec_fail h
      · rename_i v hv
        replace ⟨l', t1, t2, h1, h, _⟩ := exec_bind h
        obtain ⟨rfl, _⟩ := exec_ok h
        rcases List.mem_cons.1 hm with hm | hm
        · cases hm
          exact ⟨R', v, hR', hv, fun p hp => hl p (List.mem_append_left _ hp)⟩
        · exact ih h1 (fun p hp => hl p (List.mem_append_right _ hp)) j i R hm
/-- the labels that the function sees -/
def outLab (M : List (Id × Id)) (bw : List Id) (l : Lab) : Lab :=
  open Classical in
  match l with
  | .own i q => if i ∈ bw then .bor else match nameOut M i with
    | some j => .own j q
    | none => .no
  | l => l
theorem call_soundX {c : Xctr} (hc : XOk P c) (hb : ∀ b, G.g b ≠ .no → b < w.heap.size) (hone0 : RhoOk G) (hrs : ∀ id R, lk id = some R → ResOk G w id R) (hro : ∀ id R, lk id = some R → old id) {vals : List SV} {args : List Value} {l l2 : List Prop} {t t2 : List Id} {idb : Id}
    (hx : (matchX c.nams c.rs).exec lk = some (l, t)) (hl : ∀ p ∈ l, p) (hx2 : (matchL c.nams c.ls).exec lk = some (l2, t2)) (hl2 : ∀ p ∈ l2, p) (hn1 : (c.nams.map (·.1)).Nodup) (hn2 : (c.nams.map (·.2)).Nodup) (hnb : c.ls = [] ∨ (nbS c.post.1 = true ∧ nbU c.post.2 = true)) (hm : MtSs G w vals args) (hva : namSs c.nams c.args = some vals)
    (hfr : ∀ k, ¬ old (idb.plus k)) {sv : SV} {us : List (Id × Option Res)} (hsv : renS (keptN (ptrsOf c.args) c.nams) idb c.post.1 = some sv) (hus : renU (keptN (ptrsOf c.args) c.nams) idb c.post.2 = some us) :
    Called P c.f args.toArray w fun v w' => ∃ G', Chg old (fun i => i ∈ (drops ((namsOf c.rs).map (·.1)) ++ us).map (·.1)) G G' w w' ∧ MtS G' w' sv v ∧ ∀ i R, (i, some R) ∈ drops ((namsOf c.rs).map (·.1)) ++ us → ResOk G' w' i R := by
  classical
  let N := namsOf c.rs
  let M := c.nams
  let bw := (namsOf c.ls).map (·.1)
  let K := keptN (ptrsOf c.args) M
  have hmat := matchX_sound hx hl
  have hmatL := matchL_sound hx2 hl2
  have hMN : ∀ {p}, p ∈ N → p ∈ M := fun h => List.mem_append_left _ h
  have hML : ∀ {p}, p ∈ namsOf c.ls → p ∈ M := fun h => List.mem_append_right _ h
  have hn1' : (N.map (·.1)).Nodup ∧ bw.Nodup ∧ ∀ i ∈ N.map (·.1), i ∉ bw := by
    have h := hn1
    simp only [Xctr.nams, List.map_append] at h
    rw [List.nodup_append] at h
    exact ⟨h.1, h.2.1, fun i h1 h2 => h.2.2 i h1 i h2 rfl⟩
  let Gc : Gh := ⟨fun i => match nameIn M i with | some j => G.ρ j | none => G.ρ i, fun b => outLab N bw (G.g b)⟩
  have hBak : Bak M (fun j => j ∈ N.map (·.1)) G Gc w := by
    refine ⟨⟨fun b h => ⟨by simp [Gc, outLab, h], rfl⟩, fun b h => ⟨by simp [Gc, outLab, h], rfl⟩⟩, fun b j q i htk hg hi => ?_, fun i j hi => by simp [Gc, hi]⟩
    obtain ⟨⟨j', i'⟩, hji, rfl⟩ := List.mem_map.1 htk
    have h1 := nameIn_mem hi
    have h2 : (i' : Id) = i := by
      have a1 := nameOut_of hn1 (hMN hji)
      have a2 := nameOut_of hn1 h1
      rw [a1] at a2
      exact Option.some.inj a2
    subst h2
    have := nameOut_of hn1'.1 hji
    simp only [Gc, outLab, hg]
    rw [if_neg (hn1'.2.2 _ htk), this]
  have hbor : ∀ b j q, G.g b = .own j q → j ∈ bw → Gc.g b = .bor := fun b j q hg hj => by simp [Gc, outLab, hg, hj]
  have hbc : ∀ b, Gc.g b ≠ .no → b < w.heap.size := fun b h => hb b fun h2 => h (by simp [Gc, outLab, h2])
  have honec : RhoOk Gc := fun i => by
    simp only [Gc]
    split
    · exact hone0 _
    · exact hone0 _
  refine (hc Gc w args hbc honec (hm.bak hBak hva) fun i R hi => ?_).mono ?_
  · rcases List.mem_append.1 hi with hi | hi
    · obtain ⟨j, hj⟩ := resOf_mem.1 hi
      obtain ⟨R', h1, h2⟩ := hmat j i R hj
      have hjn : (j, i) ∈ N := namsOf_mem.2 ⟨R, hj⟩
      exact (hrs j R' h1).bak hBak (List.mem_map.2 ⟨_, hjn, rfl⟩) (nameIn_of hn2 (hMN hjn)) h2
    · obtain ⟨j, hj⟩ := resOf_mem.1 hi
      obtain ⟨R', v, h1, h2, h3⟩ := hmatL j i R hj
      have hjn : (j, i) ∈ namsOf c.ls := namsOf_mem.2 ⟨R, hj⟩
      exact (hrs j R' h1).lent hBak (fun b q hg => hbor b j q hg (List.mem_map.2 ⟨_, hjn, rfl⟩)) (nameIn_of hn2 (hML hjn)) h2 h3
  rintro v w' ⟨G', hch, hone, hat, hmv, hrs'⟩
  -- what the function leaves, without what was lent to it
  obtain ⟨Gd, hρd, hGd, hGdb, hmv, hrs'⟩ : ∃ Gd : Gh, Gd.ρ = G'.ρ ∧ (∀ b, Gd.g b = G'.g b ∨ (G'.g b = .bor ∧ Gd.g b = .no)) ∧ (bw ≠ [] → ∀ b, Gd.g b ≠ .bor) ∧ MtS Gd w' c.post.1 v ∧ ∀ i R, (i, R) ∈ c.post.2 → ResOk Gd w' i R := by
    by_cases hbw : bw = []
    · exact ⟨G', rfl, fun b => .inl rfl, fun h => absurd hbw h, hmv, hrs'⟩
    · have hls : c.ls ≠ [] := fun h => hbw (by simp [bw, h, namsOf])
      obtain ⟨n1, n2⟩ := hnb.resolve_left hls
      refine ⟨dropB G', rfl, fun b => ?_, fun _ b => ?_, hmv.dropB n1, fun i R hi => (hrs' i R hi).dropB (nbU_mem n2 hi)⟩
      · cases h : G'.g b <;> simp [dropB, h]
      · cases h : G'.g b <;> simp [dropB, h]
  let ρ2 : Id → Value := fun i => if h : ∃ m, i = idb.plus m then Gd.ρ ⟨1, h.choose / 64, h.choose % 64⟩ else G.ρ i
  have hρo : ∀ i, old i → ρ2 i = G.ρ i := fun i hi => by
    simp only [ρ2]
    rw [dif_neg]
    rintro ⟨m, rfl⟩
    exact hfr _ hi
  have hρn : ∀ a b, b < 64 → ρ2 (idb.plus (64 * a + b)) = Gd.ρ ⟨1, a, b⟩ := fun a b hlt => by
    have hex : ∃ m, idb.plus (64 * a + b) = idb.plus m := ⟨_, rfl⟩
    simp only [ρ2]
    rw [dif_pos hex]
    have : 64 * a + b = hex.choose := by
      have h2 := congrArg Id.c hex.choose_spec
      have hc : ∀ m, (idb.plus m).c = idb.c + m := fun m => by cases idb; rfl
      rw [hc, hc] at h2
      exact Nat.add_left_cancel h2
    rw [← this, show (64 * a + b) / 64 = a by omega, show (64 * a + b) % 64 = b by omega]
  let g2 : Nat → Lab := fun b => if b < w.heap.size then (match G.g b with
    | .own i q => if i ∈ N.map (·.1) then backLab (renId K idb) (Gd.g b) else .own i q
    | l => l) else backLab (renId K idb) (Gd.g b)
  have hno : ∀ b i0 q0, G.g b = .own i0 q0 → i0 ∉ N.map (·.1) → i0 ∉ bw → Gc.g b = .no := fun b i0 q0 hg hi hib => by simp [Gc, outLab, hg, hib, nameOut_none hi]
  have hown : ∀ b i q, Gd.g b = .own i q → g2 b = backLab (renId K idb) (.own i q) := fun b i q hg => by
    have hg' : G'.g b = .own i q := by
      rcases hGd b with h | ⟨h, h'⟩
      · rw [← h]; exact hg
      · rw [h'] at hg; cases hg
    simp only [g2]
    split
    · rename_i hlt
      cases hgb : G.g b with
      | no =>
        have := (hch.no b hlt (by simp [Gc, outLab, hgb])).2
        rw [this] at hg'; cases hg'
      | per =>
        have := (hch.pb.per b (by simp [Gc, outLab, hgb])).1
        rw [this] at hg'; cases hg'
      | bor =>
        have := (hch.pb.bor b (by simp [Gc, outLab, hgb])).1
        rw [this] at hg'; cases hg'
      | own i0 q0 =>
        simp only
        by_cases hi0 : i0 ∈ N.map (·.1)
        · rw [if_pos hi0, hg]
        · exfalso
          by_cases hib : i0 ∈ bw
          · have := (hch.pb.bor b (hbor b i0 q0 hgb hib)).1
            rw [this] at hg'; cases hg'
          · have := (hch.no b hlt (hno b i0 q0 hgb hi0 hib)).2
            rw [this] at hg'; cases hg'
    · rw [hg]
  have hpb2 : KeepPB Gd ⟨ρ2, g2⟩ w' w' := by
    have key : ∀ b l, (l = Lab.per ∨ l = Lab.bor) → Gd.g b = l → g2 b = l := fun b l hl hg => by
      have hg' : G'.g b = l := by
        rcases hGd b with h | ⟨h, h'⟩
        · rw [← h]; exact hg
        · rw [h'] at hg; rcases hl with rfl | rfl <;> cases hg
      have hbl : backLab (renId K idb) l = l := by rcases hl with rfl | rfl <;> rfl
      simp only [g2]
      split
      · rename_i hlt
        cases hgb : G.g b with
        | no =>
          have := (hch.no b hlt (by simp [Gc, outLab, hgb])).2
          rw [this] at hg'; rcases hl with rfl | rfl <;> cases hg'
        | per =>
          have := (hch.pb.per b (by simp [Gc, outLab, hgb])).1
          rw [← hg', this]
        | bor =>
          have := (hch.pb.bor b (by simp [Gc, outLab, hgb])).1
          rw [← hg', this]
        | own i0 q0 =>
          simp only
          by_cases hi0 : i0 ∈ N.map (·.1)
          · rw [if_pos hi0, hg, hbl]
          · exfalso
            by_cases hib : i0 ∈ bw
            · have h3 := (hch.pb.bor b (hbor b i0 q0 hgb hib)).1
              have hbn : bw ≠ [] := fun h => by rw [h] at hib; cases hib
              have := hGdb hbn b
              rw [h3] at hg'
              rw [hg, ← hg'] at this
              exact this rfl
            · have := (hch.no b hlt (hno b i0 q0 hgb hi0 hib)).2
              rw [this] at hg'; rcases hl with rfl | rfl <;> cases hg'
      · rw [hg, hbl]
    exact ⟨fun b h => ⟨key b .per (.inl rfl) h, rfl⟩, fun b h => ⟨key b .bor (.inr rfl) h, rfl⟩⟩
  have hlk : ∀ j i, (j, i) ∈ M → ∃ R, lk j = some R := fun j i h => by
    rcases List.mem_append.1 h with h | h
    · obtain ⟨R, hR⟩ := namsOf_mem.1 h
      obtain ⟨R', h1, _⟩ := hmat _ _ _ hR
      exact ⟨R', h1⟩
    · obtain ⟨R, hR⟩ := namsOf_mem.1 h
      obtain ⟨R', _, h1, _⟩ := hmatL _ _ _ hR
      exact ⟨R', h1⟩
  have hRen : Ren K idb Gd ⟨ρ2, g2⟩ w' := by
    refine ⟨hpb2, fun b j q i hg hr => ?_, fun j i hr => ?_⟩
    · show g2 b = _
      rw [hown b j q hg]
      simp [backLab, hr]
    · show ρ2 i = _
      obtain ⟨r, a, b⟩ := j
      simp only [renId] at hr
      split at hr
      · obtain ⟨hmem, hptr⟩ := keptN_mem (nameIn_mem hr)
        obtain ⟨R', h1⟩ := hlk _ _ hmem
        rw [hρo i (hro i R' h1), hρd, hat _ hptr]
        show G.ρ i = (match nameIn M ⟨0, a, b⟩ with | some j => G.ρ j | none => G.ρ ⟨0, a, b⟩)
        rw [nameIn_of hn2 hmem]
      · cases hlt : Nat.blt b 64 with
        | false => rw [hlt] at hr; cases hr
        | true =>
          rw [hlt] at hr
          cases hr
          exact hρn a b (by have := Nat.le_of_ble_eq_true hlt; omega)
      · cases hr
  refine ⟨⟨ρ2, g2⟩, ⟨hρo, ⟨fun b h => ?_, fun b h => ?_⟩, fun b i q hg hn => ?_, fun b hlt h => ?_, fun b h => ?_, fun h1 i => ?_, hch.os, hch.tape, hch.output, hch.size⟩, hmv.ren hRen hsv, fun i R hi => ?_⟩
  · have hlt := hb b (by rw [h]; simp)
    exact ⟨by simp only [g2]; rw [if_pos hlt, h], (hch.pb.per b (by simp [Gc, outLab, h])).2⟩
  · have hlt := hb b (by rw [h]; simp)
    exact ⟨by simp only [g2]; rw [if_pos hlt, h], (hch.pb.bor b (by simp [Gc, outLab, h])).2⟩
  · have hlt := hb b (by rw [hg]; simp)
    have hi1 : i ∉ N.map (·.1) := fun h => hn (by
      rw [List.map_append, map_drops]
      exact List.mem_append_left _ h)
    refine ⟨by simp only [g2]; rw [if_pos hlt, hg]; simp only; rw [if_neg hi1], ?_⟩
    by_cases hib : i ∈ bw
    · exact (hch.pb.bor b (hbor b i q hg hib)).2
    · exact (hch.no b hlt (hno b i q hg hi1 hib)).1
  · exact ⟨(hch.no b hlt (by simp [Gc, outLab, h])).1, by simp only [g2]; rw [if_pos hlt, h]⟩
  · simp only [g2] at h
    split at h
    · rename_i hlt
      exact Nat.lt_of_lt_of_le hlt hch.size
    · refine hch.bnd b fun h2 => h ?_
      rcases hGd b with h3 | ⟨h3, h4⟩
      · rw [h3, h2]; rfl
      · rw [h4]; rfl
  · simp only [ρ2]
    split
    · rw [hρd]; exact hone _
    · exact h1 i
  · rcases List.mem_append.1 hi with hi | hi
    · have := (mem_drops hi).2; cases this
    · obtain ⟨j, R0, h1, h2, h3⟩ := renU_mem hus hi
      exact (hrs' j R0 h1).ren hRen h2 h3
end
end Go.Sx
