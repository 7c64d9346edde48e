/- Symbolic execution, part X: the state at the begin of a function. -/
import Derived.Test.YtbnmeeajooljmaaSxW
set_option linter.all false
namespace Go.Sx
open Go Go.RowKit

/-! ### The state at the begin -/
/-- a pointer to a variable -/
def entryR (n : Id) (T : Ty) (F : Fl) (x : T.den) : At × List (Id × Option Res) := match openOf T F x (n.plus 1) with
  | (l, us) => (.ptr n 0, (n, some (.var l)) :: us)
def entryC (k : Nat) : (l : List (Bool × Ty × Fl)) → Nat → dens l → List At × List (Id × Option Res)
  | [], _, _ => ([], [])
  | (true, T, F) :: r, c, x => match entryR ⟨0, k, 64 * (c + 1)⟩ T F x.1 with
    | (a, us) => match entryC k r (c + 1) x.2 with
      | (as, us') => (a :: as, us ++ us')
  | (false, T, F) :: r, c, x => match entryC k r (c + 1) x.2 with
      | (as, us') => (.rpt .b T F x.1 :: as, us')
def entry1 (k : Nat) : (m : Mode) → m.den → SV × List (Id × Option Res)
  | .val ag T F, x => (.v ag (atomsOf T F x), [])
  | .own ag T F, x => match openOf T F x ⟨0, k, 0⟩ with | (l, us) => (.v ag l, us)
  | .rp T F, x => (.v false [.rpt .b T F x], [])
  | .ref T F, x => match entryR ⟨0, k, 0⟩ T F x with | (a, us) => (.v false [a], us)
  | .clo f l, x => match entryC k l 0 x with | (as, us) => (.fn f as, us)
  | .mu ag e f, x => match openOf (.sl e) (.sl .w f) x ⟨0, k, 0⟩ with | (l, us) => (.v ag l, us)
def entryS : (k : Nat) → (ms : List Mode) → mdens ms → List SV × List (Id × Option Res)
  | _, [], _ => ([], [])
  | k, m :: ms, x => match entry1 k m x.1 with
    | (s, us) => match entryS (k + 1) ms x.2 with
      | (ss, us') => (s :: ss, us ++ us')
/-- captured variables must not be larger than this -/
def capFit : List (Bool × Ty × Fl) → Bool
  | [] => true
  | (b, T, _) :: r => (!b || Nat.ble T.size 62) && capFit r
def modeFit : Mode → Bool
  | .clo _ l => capFit l
  | _ => true
def modesFit : List Mode → Bool
  | [] => true
  | m :: ms => modeFit m && modesFit ms
/-- where what is handed over goes -/
def rlR (n : Id) (T : Ty) (F : Fl) (i : Id) (q : List Nat) : Option (Id × List Nat) :=
  if i = n then (if q = [] then some (n, []) else none) else if i = n.plus 1 then relab T F (n.plus 1) q else none
def rlC (k : Nat) : List (Bool × Ty × Fl) → Nat → Id → List Nat → Option (Id × List Nat)
  | [], _, _, _ => none
  | (true, T, F) :: r, c, i, q => if 64 * (c + 1) ≤ i.c ∧ i.c < 64 * (c + 1) + 64 then rlR ⟨0, k, 64 * (c + 1)⟩ T F i q else rlC k r (c + 1) i q
  | (false, _, _) :: r, c, i, q => rlC k r (c + 1) i q
def rl1 (k : Nat) : Mode → Id → List Nat → Option (Id × List Nat)
  | .own _ T F, i, q => if i = ⟨0, k, 0⟩ then relab T F ⟨0, k, 0⟩ q else none
  | .ref T F, i, q => rlR ⟨0, k, 0⟩ T F i q
  | .clo _ l, i, q => rlC k l 0 i q
  | .mu _ e f, i, q => if i = ⟨0, k, 0⟩ then relab (.sl e) (.sl .w f) ⟨0, k, 0⟩ q else none
  | _, _, _ => none
def rlM : List Mode → Nat → Id → List Nat → Option (Id × List Nat)
  | [], _, _, _ => none
  | m :: ms, k, i, q => if i.s = k then rl1 k m i q else rlM ms (k + 1) i q
section
variable {G : Gh} {w : World}
theorem openOf_idsL : ∀ {T : Ty} {F : Fl} {x : T.den} {n j : Id}, j ∈ idsL (openOf T F x n).1 → ∃ k, j = n.plus k := by
  intro T
  induction T with
  | pr a b iha ihb =>
    intro F x n j h
    simp only [openOf] at h
    rw [idsL_append, List.mem_append] at h
    rcases h with h | h
    · exact iha h
    · obtain ⟨k, rfl⟩ := ihb h; exact ⟨_, Id.plus_plus n _ _⟩
  | sl e ih =>
    intro F x n j h
    simp only [openOf] at h
    split at h
    · simp [idsL, At.ids] at h; exact ⟨0, h⟩
    · simp [idsL, At.ids] at h
  | _ => intro F x n j h; simp [openOf, idsL, At.ids] at h
theorem openOf_resI : ∀ {T : Ty} {F : Fl} {x : T.den} {n j : Id} {R : Res}, (j, some R) ∈ (openOf T F x n).2 → R.ids = [] := by
  intro T
  induction T with
  | pr a b iha ihb =>
    intro F x n j R h
    simp only [openOf, List.mem_append] at h
    rcases h with h | h
    · exact iha h
    · exact ihb h
  | sl e ih =>
    intro F x n j R h
    simp only [openOf] at h
    split at h
    · simp only [List.mem_singleton, Prod.mk.injEq, Option.some.injEq] at h; rw [h.2]; rfl
    · cases h
  | _ => intro F x n j R h; cases h
theorem plus_r (n : Id) (k : Nat) : (n.plus k).r = n.r := rfl
theorem ValOk.mtV {G' : Gh} {ag : Bool} {T : Ty} {F : Fl} {id : Id} {x : T.den} {v : Value} {cs : List Value} {l : List At} (h : ValOk G w ag T F id x v cs) (hl : MtL G' w l cs) : MtV G' w ag l v := by
  obtain ⟨rfl, hone, htr⟩ := h
  cases ag with
  | true => exact ⟨cs, rfl, hl⟩
  | false =>
    have h1 := hone rfl
    match cs, h1 with
    | [u], _ => exact ⟨htr.one u (by simp), hl⟩

/-- what is handed over, laid open: values of names, labels, and what they say -/
structure Opened (G : Gh) (w : World) (P : Id → Prop) (rl : Id → List Nat → Option (Id × List Nat)) (ids : List Id) (us : List (Id × Option Res)) (Q : Gh → Prop) : Prop where
  ex : ∃ ρk : Id → Value, (∀ i, (ρk i).oneCell' = true) ∧ ∀ G', KeepPB G G' w w → (∀ b j q i r, P j → G.g b = .own j q → rl j q = some (i, r) → G'.g b = .own i r) → (∀ j, P j → G'.ρ j = ρk j) → Q G' ∧ ∀ i R, (i, some R) ∈ us → ResOk G' w i R
  ids : ∀ j ∈ ids, j.r = 0
  us : ∀ i R, (i, some R) ∈ us → i.r = 0 ∧ ∀ j ∈ R.ids, j.r = 0
theorem Opened.of {P : Id → Prop} {rl : Id → List Nat → Option (Id × List Nat)} {Q : Gh → Prop} (h : ∀ G', KeepPB G G' w w → Q G') : Opened G w P rl [] [] Q :=
  ⟨⟨fun _ => .bool false, fun _ => rfl, fun G' hk _ _ => ⟨h G' hk, fun i R hi => (by cases hi)⟩⟩, fun j hj => (by cases hj), fun i R hi => (by cases hi)⟩
theorem Opened.mono {P : Id → Prop} {rl : Id → List Nat → Option (Id × List Nat)} {ids : List Id} {us : List (Id × Option Res)} {Q Q' : Gh → Prop} (h : Opened G w P rl ids us Q) (k : ∀ G', Q G' → Q' G') : Opened G w P rl ids us Q' :=
  ⟨h.ex.imp fun _ h => ⟨h.1, fun G' a b c => ⟨k G' (h.2 G' a b c).1, (h.2 G' a b c).2⟩⟩, h.ids, h.us⟩
theorem Opened.weak {P P' : Id → Prop} {rl rl' : Id → List Nat → Option (Id × List Nat)} {ids ids' : List Id} {us : List (Id × Option Res)} {Q : Gh → Prop} (h : Opened G w P rl ids us Q) (hP : ∀ j, P j → P' j) (hrl : ∀ j q y, P j → rl j q = some y → rl' j q = some y) (hi : ∀ j ∈ ids', j ∈ ids) : Opened G w P' rl' ids' us Q :=
  ⟨h.ex.imp fun _ h => ⟨h.1, fun G' a b c => h.2 G' a (fun b' j q i r hp hg hr => b b' j q i r (hP j hp) hg (hrl j q _ hp hr)) fun j hj => c j (hP j hj)⟩, fun j hj => h.ids j (hi j hj), h.us⟩
theorem Opened.app {P P' : Id → Prop} {rl : Id → List Nat → Option (Id × List Nat)} {ids ids' : List Id} {us us' : List (Id × Option Res)} {Q Q' : Gh → Prop} (h : Opened G w P rl ids us Q) (h' : Opened G w P' rl ids' us' Q') (hd : ∀ j, P j → P' j → False) : Opened G w (fun j => P j ∨ P' j) rl (ids ++ ids') (us ++ us') fun G' => Q G' ∧ Q' G' := by
  classical
  obtain ⟨⟨ρ1, a1, a2⟩, a3, a4⟩ := h
  obtain ⟨⟨ρ2, b1, b2⟩, b3, b4⟩ := h'
  refine ⟨⟨fun j => if P j then ρ1 j else ρ2 j, fun j => by simp only; split <;> first | exact a1 j | exact b1 j, fun G' hk hg hρ => ?_⟩, fun j hj => (List.mem_append.1 hj).elim (a3 j) (b3 j), fun i R hi => (List.mem_append.1 hi).elim (a4 i R) (b4 i R)⟩
  obtain ⟨c1, c2⟩ := a2 G' hk (fun b j q i r hp => hg b j q i r (.inl hp)) (fun j hj => by rw [hρ j (.inl hj)]; simp [hj])
  obtain ⟨d1, d2⟩ := b2 G' hk (fun b j q i r hp => hg b j q i r (.inr hp)) (fun j hj => by rw [hρ j (.inr hj)]; show (if P j then ρ1 j else ρ2 j) = ρ2 j; rw [if_neg (fun h => hd j h hj)])
  exact ⟨⟨c1, d1⟩, fun i R hi => (List.mem_append.1 hi).elim (c2 i R) (d2 i R)⟩
theorem openOf_sz : ∀ {T : Ty} {F : Fl} {x : T.den} {n i : Id} {R : Option Res}, (i, R) ∈ (openOf T F x n).2 → ∃ k, k < T.size ∧ i = n.plus k := by
  intro T
  induction T with
  | pr a b iha ihb =>
    intro F x n i R h
    simp only [openOf, List.mem_append] at h
    rcases h with h | h
    · obtain ⟨k, h1, h2⟩ := iha h; exact ⟨k, by simp only [Ty.size]; omega, h2⟩
    · obtain ⟨k, h1, rfl⟩ := ihb h; exact ⟨a.size + k, by simp only [Ty.size]; omega, Id.plus_plus n _ _⟩
  | sl e ih =>
    intro F x n i R h
    simp only [openOf] at h
    split at h
    · simp at h; exact ⟨0, by simp [Ty.size], by rw [h.1]; cases n; rfl⟩
    · simp at h
  | _ => intro F x n i R h; simp [openOf] at h
/-- a value -/
theorem opened_own {T : Ty} {F : Fl} {x : T.den} {n : Id} {cs : List Value} (hn : n.r = 0) {rl : Id → List Nat → Option (Id × List Nat)} (hrl : ∀ q y, relab T F n q = some y → rl n q = some y) (h : Tr G w T F n [] cs x) :
    Opened G w (fun j => ∃ m, j = n.plus m ∧ m < max 1 T.size) rl (idsL (openOf T F x n).1) (openOf T F x n).2 fun G' => MtL G' w (openOf T F x n).1 cs := by
  classical
  refine ⟨⟨fun j => if hj : ∃ m, j = n.plus m then cs.getD hj.choose (.bool false) else .bool false, fun j => ?_, fun G' hk hg hρ => ?_⟩, fun j hj => ?_, fun i R hi => ?_⟩
  · simp only
    split
    · rename_i hj
      rw [List.getD_eq_getElem?_getD]
      cases hc : cs[hj.choose]? with
      | none => rfl
      | some u => exact h.one u (List.mem_of_getElem? hc)
    · rfl
  · exact open_sound hk T F n [] cs x n h (fun b q i r h1 h2 => ⟨hg b n _ i r ⟨0, by cases n; rfl, by omega⟩ h1 (hrl _ _ h2), rfl⟩) (fun c u hu => by
      have hex : ∃ m, n.plus c = n.plus m := ⟨c, rfl⟩
      rw [hρ (n.plus c) ⟨c, rfl, by have := (List.getElem?_eq_some_iff.1 hu).1; rw [h.len] at this; omega⟩]
      simp only
      rw [dif_pos hex]
      have h2 := congrArg Id.c hex.choose_spec
      have hc : ∀ m, (n.plus m).c = n.c + m := fun m => by cases n; rfl
      rw [hc, hc] at h2
      rw [← Nat.add_left_cancel h2, List.getD_eq_getElem?_getD, hu]
      rfl)
  · obtain ⟨c, rfl⟩ := openOf_idsL hj; cases n; exact hn
  · obtain ⟨c, rfl⟩ := openOf_ids hi
    exact ⟨by cases n; exact hn, fun j hj => by rw [openOf_resI hi] at hj; cases hj⟩
/-- a pointer to a variable -/
theorem opened_ref {T : Ty} {F : Fl} {x : T.den} {n : Id} {v : Value} (hn : n.r = 0) (h : RefOk G w n T F x v) :
    Opened G w (fun j => ∃ m, j = n.plus m ∧ m < T.size + 2) (rlR n T F) (entryR n T F x).1.ids (entryR n T F x).2 fun G' => MtA G' w (entryR n T F x).1 [v] ∧ v.oneCell' = true := by
  obtain ⟨b, C, t, rfl, hg0, hh, htr⟩ := h
  have hp1 : ∀ m, n.plus (1 + m) = (n.plus 1).plus m := fun m => (Id.plus_plus n 1 m).symm
  have hne : n.plus 1 ≠ n := fun e => by have := congrArg Id.c e; cases n; simp [Id.plus] at this
  obtain ⟨⟨ρ1, a1, a2⟩, a3, a4⟩ := opened_own (rl := rlR n T F) (by cases n; exact hn : (n.plus 1).r = 0) (fun q y hy => by unfold rlR; rw [if_neg hne, if_pos rfl]; exact hy) htr
  have h0 : n.plus 0 = n := by cases n; rfl
  refine ⟨⟨fun j => if j = n then .pointer (some ⟨b, 0, none⟩) else ρ1 j, fun j => by simp only; split <;> first | rfl | exact a1 j, fun G' hk hg hρ => ?_⟩, fun j hj => ?_, fun i R hi => ?_⟩
  · obtain ⟨g1, g2⟩ := a2 G' hk (fun b j q i r ⟨m, hm, hlt⟩ => hg b j q i r ⟨1 + m, by rw [hm, hp1], by omega⟩) (fun j ⟨m, hm, hlt⟩ => by
      rw [hρ j ⟨1 + m, by rw [hm, hp1], by omega⟩]
      simp only
      rw [if_neg]
      rw [hm]
      intro e
      have := congrArg Id.c e
      cases n
      simp [Id.plus] at this
      omega)
    have hpn := hρ n ⟨0, h0.symm, by omega⟩
    simp only [if_pos] at hpn
    refine ⟨⟨⟨b, hpn, rfl⟩, rfl⟩, fun i R hi => ?_⟩
    simp only [entryR, List.mem_cons] at hi
    rcases hi with hi | hi
    · simp only [Prod.mk.injEq, Option.some.injEq] at hi
      obtain ⟨rfl, rfl⟩ := hi
      exact ⟨b, C, t, hpn, hg b i [] i [] ⟨0, h0.symm, by omega⟩ hg0 (by simp [rlR]), hh, g1⟩
    · exact g2 i R hi
  · simp [entryR, At.ids] at hj; rw [hj]; exact hn
  · simp only [entryR, List.mem_cons] at hi
    rcases hi with hi | hi
    · simp only [Prod.mk.injEq, Option.some.injEq] at hi
      obtain ⟨rfl, rfl⟩ := hi
      exact ⟨hn, fun j hj => a3 j hj⟩
    · exact a4 i R hi
theorem opened_caps {k : Nat} : ∀ {l : List (Bool × Ty × Fl)} {c : Nat} {x : dens l} {vs : List Value}, capFit l = true → CapsOk G w k l c x vs →
    Opened G w (fun j => j.r = 0 ∧ j.s = k ∧ 64 * (c + 1) ≤ j.c) (rlC k l c) (idsL (entryC k l c x).1) (entryC k l c x).2 fun G' => MtC G' w (entryC k l c x).1 vs := by
  intro l
  induction l with
  | nil => intro c x vs _ h; exact Opened.of fun _ _ => h
  | cons p r ih =>
    intro c x vs hf h
    obtain ⟨b, T, F⟩ := p
    simp only [capFit, Bool.and_eq_true] at hf
    obtain ⟨v, vs', rfl, h1, h2⟩ := h
    have hr := ih hf.2 h2
    cases b with
    | false =>
      have h1' : MtA G w (.rpt .b T F x.1) [v] := h1
      refine (((hr.weak (P' := fun j => j.r = 0 ∧ j.s = k ∧ 64 * (c + 1) ≤ j.c) (rl' := rlC k ((false, T, F) :: r) c) (ids' := idsL (entryC k ((false, T, F) :: r) c x).1) (fun j hj => ⟨hj.1, hj.2.1, by omega⟩) (fun j q y _ hy => hy) (fun j hj => hj))).mono fun G' h => h) |> fun (o : Opened G w _ _ _ _ _) => ?_
      refine ⟨o.ex.imp fun ρ h => ⟨h.1, fun G' hk hg hρ => ⟨?_, (h.2 G' hk hg hρ).2⟩⟩, o.ids, o.us⟩
      have h1'' := MtA.keepR (old := fun _ => False) hk (fun _ h => h.elim) (by simp [At.ids]) h1'
      obtain ⟨_, _, b, off, C, t, fz, hv, _⟩ := h1'
      simp only [List.cons.injEq, and_true] at hv
      exact ⟨v, vs', rfl, by rw [hv]; rfl, h1'', (h.2 G' hk hg hρ).1⟩
    | true =>
      have hsz : T.size ≤ 62 := Nat.le_of_ble_eq_true (by simpa using hf.1)
      have h1' : RefOk G w ⟨0, k, 64 * (c + 1)⟩ T F x.1 v := h1
      have o1 := (opened_ref rfl h1').weak (P' := fun j => ∃ m, j = (⟨0, k, 64 * (c + 1)⟩ : Id).plus m ∧ m < T.size + 2) (rl' := rlC k ((true, T, F) :: r) c) (ids' := (entryR ⟨0, k, 64 * (c + 1)⟩ T F x.1).1.ids) (fun _ h => h) (fun j q y ⟨m, hm, hlt⟩ hy => by
        subst hm
        have hc : ((⟨0, k, 64 * (c + 1)⟩ : Id).plus m).c = 64 * (c + 1) + m := rfl
        unfold rlC
        rw [if_pos ⟨by rw [hc]; omega, by rw [hc]; omega⟩]
        exact hy) (fun _ h => h)
      have o2 := hr.weak (P' := fun j => j.r = 0 ∧ j.s = k ∧ 64 * (c + 1 + 1) ≤ j.c) (rl' := rlC k ((true, T, F) :: r) c) (ids' := idsL (entryC k r (c + 1) x.2).1) (fun _ h => h) (fun j q y hj hy => by
        simp only [rlC]
        rw [if_neg (by omega)]
        exact hy) (fun _ h => h)
      have o := o1.app o2 (fun j ⟨m, hm, hlt⟩ hj => by subst hm; simp [Id.plus] at hj; omega)
      refine (o.weak (P' := fun j => j.r = 0 ∧ j.s = k ∧ 64 * (c + 1) ≤ j.c) (fun j hj => ?_) (fun _ _ _ _ h => h) (fun j hj => hj)).mono fun G' h => ⟨v, vs', rfl, h.1.2, h.1.1, h.2⟩
      rcases hj with ⟨m, rfl, hlt⟩ | hj
      · exact ⟨rfl, rfl, by simp [Id.plus]⟩
      · exact ⟨hj.1, hj.2.1, by omega⟩
/-- one argument -/
theorem opened_1 {k : Nat} {m : Mode} {x : m.den} {v : Value} (hf : modeFit m = true) (h : ArgOk G w k m x v) : Opened G w (fun j => j.r = 0 ∧ j.s = k) (rl1 k m) (entry1 k m x).1.ids (entry1 k m x).2 fun G' => MtS G' w (entry1 k m x).1 v := by
  cases m with
  | val ag T F =>
    obtain ⟨hO, cs, hv⟩ := h
    refine (Opened.of (Q := fun G' => MtS G' w (entry1 k (.val ag T F) x).1 v) fun G' hk => hv.mtV (atomsOf_sound T F default [] cs x hO (hv.2.2.keep hk hO))).weak (fun _ h => h) (fun _ _ _ _ h => h) fun j hj => ?_
    rw [show (entry1 k (.val ag T F) x).1.ids = idsL (atomsOf T F x) from rfl, atomsOf_ids] at hj
    cases hj
  | own ag T F =>
    obtain ⟨cs, hv⟩ := h
    refine (((opened_own (n := ⟨0, k, 0⟩) (rl := rl1 k (.own ag T F)) rfl (fun q y hy => (if_pos rfl).trans hy) hv.2.2).weak (P' := fun j => j.r = 0 ∧ j.s = k) (fun j ⟨m, hm, _⟩ => by subst hm; exact ⟨rfl, rfl⟩) (fun _ _ _ _ h => h) (ids' := (entry1 k (.own ag T F) x).1.ids) fun j hj => hj)).mono fun G' h => hv.mtV h
  | rp T F =>
    have h0 : MtA G w (.rpt .b T F x) [v] := h
    refine (Opened.of (Q := fun G' => MtS G' w (entry1 k (.rp T F) x).1 v) fun G' hk => ?_).weak (fun _ h => h) (fun _ _ _ _ h => h) fun j hj => ?_
    · have h1' := MtA.keepR (old := fun _ => False) hk (fun _ h => h.elim) (by simp [At.ids]) h0
      obtain ⟨_, _, b, off, C, t, fz, hv, _⟩ := h0
      simp only [List.cons.injEq, and_true] at hv
      exact .of1 (by rw [hv]; rfl) h1'
    · simp [entry1, SV.ids, idsL, At.ids] at hj
  | ref T F =>
    refine ((opened_ref (n := ⟨0, k, 0⟩) rfl h).weak (P' := fun j => j.r = 0 ∧ j.s = k) (fun j ⟨m, hm, _⟩ => by subst hm; exact ⟨rfl, rfl⟩) (fun _ _ _ _ h => h) (ids' := (entry1 k (.ref T F) x).1.ids) fun j hj => ?_).mono fun G' h => .of1 h.2 h.1
    simpa [entry1, SV.ids, idsL] using hj
  | clo f l =>
    obtain ⟨vs, rfl, hl⟩ := h
    exact ((opened_caps hf hl).weak (P' := fun j => j.r = 0 ∧ j.s = k) (fun j hj => ⟨hj.1, hj.2.1⟩) (fun _ _ _ _ h => h) (ids' := (entry1 k (.clo f l) x).1.ids) fun j hj => hj).mono fun G' h => ⟨vs, rfl, h⟩
  | mu ag e f =>
    obtain ⟨cs, hv⟩ := h
    refine (((opened_own (n := ⟨0, k, 0⟩) (rl := rl1 k (.mu ag e f)) rfl (fun q y hy => (if_pos rfl).trans hy) hv.2.2).weak (P' := fun j => j.r = 0 ∧ j.s = k) (fun j ⟨m, hm, _⟩ => by subst hm; exact ⟨rfl, rfl⟩) (fun _ _ _ _ h => h) (ids' := (entry1 k (.mu ag e f) x).1.ids) fun j hj => hj)).mono fun G' h => hv.mtV h
theorem idsS_app {a : SV} {l : List SV} : idsS (a :: l) = a.ids ++ idsS l := rfl
theorem opened_S : ∀ {ms : List Mode} {k : Nat} {x : mdens ms} {args : List Value}, modesFit ms = true → ArgsOk G w k ms x args →
    Opened G w (fun j => j.r = 0 ∧ k ≤ j.s) (rlM ms k) (idsS (entryS k ms x).1) (entryS k ms x).2 fun G' => MtSs G' w (entryS k ms x).1 args := by
  intro ms
  induction ms with
  | nil =>
    intro k x args _ h
    rw [show args = [] from h]
    exact Opened.of fun _ _ => trivial
  | cons m ms ih =>
    intro k x args hf h
    simp only [modesFit, Bool.and_eq_true] at hf
    obtain ⟨v, vs, rfl, h1, h2⟩ := h
    have o1 := (opened_1 hf.1 h1).weak (P' := fun j => j.r = 0 ∧ j.s = k) (rl' := rlM (m :: ms) k) (ids' := (entry1 k m x.1).1.ids) (fun _ h => h) (fun j q y hj hy => by simp only [rlM]; rw [if_pos hj.2]; exact hy) (fun _ h => h)
    have o2 := (ih hf.2 h2).weak (P' := fun j => j.r = 0 ∧ k + 1 ≤ j.s) (rl' := rlM (m :: ms) k) (ids' := idsS (entryS (k + 1) ms x.2).1) (fun _ h => h) (fun j q y hj hy => by simp only [rlM]; rw [if_neg (by omega)]; exact hy) (fun _ h => h)
    refine ((o1.app o2 fun j h h' => by omega).weak (P' := fun j => j.r = 0 ∧ k ≤ j.s) (fun j hj => ?_) (fun _ _ _ _ h => h) (ids' := idsS (entryS k (m :: ms) x).1) fun j hj => hj).mono fun G' h => ⟨h.1, h.2⟩
    rcases hj with hj | hj
    · exact ⟨hj.1, by omega⟩
    · exact ⟨hj.1, by omega⟩
end
end Go.Sx
