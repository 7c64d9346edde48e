/- Symbolic execution, part V: code. -/
import Derived.Test.YtbnmeeajooljmaaSxU
set_option linter.all false
namespace Go.Sx
open Go Go.RowKit

/-- code, run from where a symbolic state holds, comes to where K says, and there it holds -/
def SW (P : Program) (c : Code) (st : St) (K : Exit → St → Prop) : Prop :=
  ∀ E G a w, Sat E st G a w → c.wp P (fun e a w => ∃ st' G', K e st' ∧ Sat E st' G' a w) a w
def thenK (N : St → Prop) (K : Exit → St → Prop) : Exit → St → Prop
  | .normal, st => N st
  | e, st => K e st
def blockK (id : Nat) (K : Exit → St → Prop) : Exit → St → Prop
  | .exit i, st => bif Nat.beq i id then K .normal st else K (.exit i) st
  | e, st => K e st
/-- a state says all that another says, but for names -/
def Ent (st inv : St) : Prop := ∀ E G a w, Sat E st G a w → ∃ G', Sat E inv G' a w
section
variable {P : Program} {C : Ctx} {st : St} {K : Exit → St → Prop}
theorem sw_seq {a b : Code} (h : SW P a st (thenK (fun s => SW P b s K) K)) : SW P (.seq a b) st K := by
  intro E G x w hs
  refine wp_seq (wp_mono (h E G x w hs) fun e a' w' h => ?_)
  obtain ⟨st', G', hk, hs'⟩ := h
  cases e with
  | normal => exact hk E G' a' w' hs'
  | _ => exact ⟨st', G', hk, hs'⟩
theorem sw_skip (h : K .normal st) : SW P .skip st K := fun _ G _ _ hs => wp_skip ⟨st, G, h, hs⟩
theorem sw_label {l : Nat} (h : K .normal st) : SW P (.label l) st K := fun _ G _ _ hs => wp_label ⟨st, G, h, hs⟩
theorem sw_ret (h : K .ret st) : SW P .ret st K := fun _ G _ _ hs => wp_ret ⟨st, G, h, hs⟩
theorem sw_exit {i : Nat} (h : K (.exit i) st) : SW P (.exit i) st K := fun _ G _ _ hs => wp_exit ⟨st, G, h, hs⟩
theorem sw_block {i : Nat} {c : Code} (h : SW P c st (blockK i K)) : SW P (.block i c) st K := by
  intro E G x w hs
  refine wp_block (wp_mono (h E G x w hs) fun e a' w' h => ?_)
  obtain ⟨st', G', hk, hs'⟩ := h
  cases e with
  | exit j =>
    simp only [blockK] at hk
    simp only [Exit.inBlock]
    cases hb : Nat.beq j i with
    | true => rw [hb] at hk; rw [if_pos (Nat.eq_of_beq_eq_true hb)]; exact ⟨st', G', hk, hs'⟩
    | false =>
      rw [hb] at hk
      rw [if_neg (fun e => by rw [e, show Nat.beq i i = true from by simp] at hb; cases hb)]
      exact ⟨st', G', hk, hs'⟩
  | _ => exact ⟨st', G', hk, hs'⟩
theorem sw_region {i : Nat} {ops : Array Oper} {dr : Bool} {st' : St} {vc : Prop} (hP : Prg P C) (R : Nat) (decs : List (Nat × Bool)) (h : runR C R decs ops st = some (st', vc)) (hc : chkR C R decs ops dr st = true) (hm : dr = true → P.follows .mixedOrders = true) (hv : vc) (k : K .normal st') : SW P (.region i ops dr) st K :=
  fun _ _ _ _ hs => run_region hP hm h hc hv hs fun G' _ _ hs' => ⟨st', G', k, hs'⟩
theorem sw_cond {c : Operand} {x y : Code} {b : Bool} (h : asB (evF (getT st.tmps) c) = some b) (t : b = true → SW P x st K) (f : b = false → SW P y st K) : SW P (.cond c x y) st K := by
  intro E G a w hs
  have := (evF_sound hs.tms c).asB h
  exact wp_cond_split this (fun hb => t hb E G a w hs) fun hb => f hb E G a w hs
theorem sw_condT {c : Operand} {x y : Code} (h : asB (evF (getT st.tmps) c) = some true) (t : SW P x st K) : SW P (.cond c x y) st K := sw_cond h (fun _ => t) (fun h => by cases h)
theorem sw_condF {c : Operand} {x y : Code} (h : asB (evF (getT st.tmps) c) = some false) (t : SW P y st K) : SW P (.cond c x y) st K := sw_cond h (fun h => by cases h) (fun _ => t)
theorem sw_ent {c : Code} {st' : St} (h : Ent st st') (k : SW P c st' K) : SW P c st K := by
  intro E G a w hs
  obtain ⟨G', hs'⟩ := h E G a w hs
  exact k E G' a w hs'
theorem exists_min (p : Nat → Prop) (h : ∃ n, p n) : ∃ n, p n ∧ ∀ m, p m → n ≤ m := by
  obtain ⟨n, hn⟩ := h
  induction n using Nat.strongRecOn with
  | ind n ih =>
    by_cases h : ∃ m, m < n ∧ p m
    · obtain ⟨m, hm, hp⟩ := h
      exact ih m hm hp
    · exact ⟨n, hn, fun m hm => Nat.le_of_not_lt fun hlt => h ⟨m, hlt, hm⟩⟩
theorem sw_loop {c : Code} {ι : Type} (I : ι → St) (μ : ι → Nat) (D : ι → Prop) (i0 : ι) (h0 : D i0 ∧ Ent st (I i0))
    (round : ∀ i, D i → SW P c (I i) (thenK (fun s => ∃ j, D j ∧ μ j < μ i ∧ Ent s (I j)) K)) : SW P (.loop c) st K := by
  classical
  intro E G a w hs
  let J : Act → World → Nat → Prop := fun a w n => ∃ i, D i ∧ μ i = n ∧ ∃ G, Sat E (I i) G a w
  let μ' : Act → World → Nat := fun a w => if h : ∃ n, J a w n then (exists_min _ h).choose else 0
  obtain ⟨G0, hs0⟩ := h0.2 E G a w hs
  refine wp_loop (fun a w => ∃ n, J a w n) μ' ⟨_, i0, h0.1, rfl, G0, hs0⟩ fun a w hI => ?_
  have hm : μ' a w = (exists_min _ hI).choose := by simp only [μ']; rw [dif_pos hI]
  obtain ⟨i, hD, hi, Gi, hsi⟩ := (exists_min _ hI).choose_spec.1
  refine wp_mono (round i hD E Gi a w hsi) fun e a' w' h => ?_
  obtain ⟨st', G', hk, hs'⟩ := h
  cases e with
  | normal =>
    obtain ⟨j, hDj, hlt, hE⟩ := hk
    obtain ⟨Gj, hsj⟩ := hE E G' a' w' hs'
    have hJ : ∃ n, J a' w' n := ⟨_, j, hDj, rfl, Gj, hsj⟩
    refine ⟨hJ, ?_⟩
    have h2 : μ' a' w' = (exists_min _ hJ).choose := by simp only [μ']; rw [dif_pos hJ]
    rw [hm, h2, ← hi]
    exact Nat.lt_of_le_of_lt ((exists_min _ hJ).choose_spec.2 _ ⟨j, hDj, rfl, Gj, hsj⟩) hlt
  | _ => exact ⟨st', G', hk, hs'⟩
theorem sw_mono {c : Code} {K' : Exit → St → Prop} (h : SW P c st K) (k : ∀ e st, K e st → K' e st) : SW P c st K' :=
  fun E G a w hs => wp_mono (h E G a w hs) fun _ _ _ ⟨st', G', h1, h2⟩ => ⟨st', G', k _ _ h1, h2⟩
/-- a test within a region, decided: 'd' is there for its value alone -/
def decR (C : Ctx) (R : Nat) (decs : List (Nat × Bool)) (ops : Array Oper) (n : Nat) (st : St) : Option Bool :=
  match st with
  | ⟨t, rs, _, _⟩ => match dstAt ops.toList n with
    | none => none
    | some d => runK C R decs ops.toList (ops.toList.take (n + 1)) nums t rs [] [] (fun t' _ _ _ => getK t' d asB) none
theorem sw_split {x : Bool} {y : Option Bool} {Q : Prop} (_ : y = some x) (t : x = true → Q) (f : x = false → Q) : Q := by cases x <;> simp_all
/-- a test within a region, decided -/
theorem sw_dec {i : Nat} {ops : Array Oper} {dr : Bool} (_ : Prg P C) (R : Nat) (decs : List (Nat × Bool)) (n : Nat) {x : Bool} (_ : decR C R decs ops n st = some x) (t : x = true → SW P (.region i ops dr) st K) (f : x = false → SW P (.region i ops dr) st K) : SW P (.region i ops dr) st K := by cases x <;> simp_all
/-- the context of a program's contracts -/
def Prg.ctx {P : Program} {C : Ctx} (_ : Prg P C) : Ctx := C
theorem Prg.none {tt : TT} {mt : MT} (h : TtOk P tt) (hm : MtOk P mt) : Prg P ⟨tt, mt, [], []⟩ := ⟨h, hm, (fun c hc => by cases hc), fun c hc => by cases hc⟩
theorem Prg.and {tt : TT} {mt : MT} {G : List Ctr} {X : List Xctr} {c : Ctr} (h : Prg P ⟨tt, mt, G, X⟩) (k : CtrOk P c) : Prg P ⟨tt, mt, c :: G, X⟩ := ⟨h.tt, h.mt, fun d hd => by
  rcases List.mem_cons.1 hd with rfl | hd
  · exact k
  · exact h.ctr d hd, h.xctr⟩
theorem Prg.andX {tt : TT} {mt : MT} {G : List Ctr} {X : List Xctr} {c : Xctr} (h : Prg P ⟨tt, mt, G, X⟩) (k : XOk P c) : Prg P ⟨tt, mt, G, c :: X⟩ := ⟨h.tt, h.mt, h.ctr, fun d hd => by
  rcases List.mem_cons.1 hd with rfl | hd
  · exact k
  · exact h.xctr d hd⟩
end
end Go.Sx
