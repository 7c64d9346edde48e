/- Symbolic execution, part W: one state says what another says, but for names. -/
import Derived.Test.YtbnmeeajooljmaaSxV
set_option linter.all false
namespace Go.Sx
open Go Go.RowKit

abbrev IdMap := List (Id × Option Id)
def mapOf : IdMap → Id → Option (Option Id)
  | [], _ => none
  | (i, j) :: r, k => bif i.beq k then some j else mapOf r k
def isMap (M : IdMap) (i j : Id) : Bool := match mapOf M i with
  | some (some k) => k.beq j
  | _ => false
def isNil (M : IdMap) (i : Id) : Bool := match mapOf M i with
  | some none => true
  | _ => false
/-- atoms: what is claimed, and what is there -/
def entA (M : IdMap) (lk : Id → Option Res) : List At → List At → Option (List Prop)
  | [], l => match l with
    | [] => some []
    | _ => none
  | .d T F x :: r, l => match (pack T F l).exec lk with
    | some (⟨y, l', [], []⟩, _) => bif T.noO F then (match entA M lk r l' with | some v => some ((y = x) :: v) | none => none) else none
    | _ => none
  | .kb b :: r, l => match l with
    | .kb b' :: l => bif eqB b b' then entA M lk r l else none
    | _ => none
  | .nils :: r, l => match l with
    | .nils :: l => entA M lk r l
    | _ => none
  | .own i :: r, l => match l with
    | .own j :: l => bif isMap M i j then entA M lk r l else none
    | .nils :: l => bif isNil M i then entA M lk r l else none
    | _ => none
  | .ptr i o :: r, l => match l with
    | .ptr j o' :: l => bif isMap M i j && Nat.beq o' o then entA M lk r l else none
    | _ => none
  | .opt i k sz off T :: r, l => match l with
    | .opt j k' sz' off' _ :: l => bif isMap M i j && (Nat.beq sz' sz && Nat.beq off' off) then (match entA M lk r l with | some v => some ((k' = k) :: v) | none => none) else none
    | _ => none
  | .rpt o T F x :: r, l => match l with
    | .rpt o' T' F' x' :: l => bif Ty.beq T' T && (T.noO F && flR Fo.le T F' F && Fo.le o' o) then (match entA M lk r l with | some v => some ((tcast T' T x' = x) :: v) | none => none) else none
    | _ => none
  | .nilp :: r, l => match l with
    | .nilp :: l => entA M lk r l
    | .chp j k :: l => (match lk j with
      | some (.ch _ _ x) => (match entA M lk r l with | some v => some ((k = x.length) :: v) | none => none)
      | _ => none)
    | _ => none
  | .junk :: r, l => match l with
    | a :: l => bif Nat.beq a.size 1 then entA M lk r l else none
    | _ => none
  | .anyb _ :: _, _ => none
  | .sub _ _ _ _ _ :: _, _ => none
  | .chp i k :: r, l => match l with
    | .chp j k' :: l => bif isMap M i j then (match entA M lk r l with | some v => some ((k' = k) :: v) | none => none) else none
    | .nilp :: l => bif isNil M i then (match entA M lk r l with | some v => some ((0 = k) :: v) | none => none) else none
    | _ => none
  | .lnk i0 off i k sz :: r, l => match l with
    | .ptr j0 off' :: l => bif isMap M i0 j0 && Nat.beq off' off then (match entA M lk r l with | some v => some ((0 = k) :: v) | none => none) else none
    | .chf j k' off' :: l => bif isMap M i j && Nat.beq off' sz then (match entA M lk r l with | some v => some ((k' + 1 = k) :: v) | none => none) else none
    | .lnk j0 off' j k' sz' :: l => bif isMap M i0 j0 && isMap M i j && (Nat.beq off' off && Nat.beq sz' sz) then (match entA M lk r l with | some v => some ((k' = k) :: v) | none => none) else none
    | _ => none
  | .chf _ _ _ :: _, _ => none
  | .vp _ _ _ _ _ :: _, _ => none
  | .vsl _ _ _ _ :: _, _ => none
def app2 (a b : Option (List Prop)) : Option (List Prop) := match a with
  | none => none
  | some x => match b with
    | none => none
    | some y => some (x ++ y)
def entC (M : IdMap) (lk : Id → Option Res) : List At → List At → Option (List Prop)
  | [], [] => some []
  | a :: r, b :: l => app2 (entA M lk [a] [b]) (entC M lk r l)
  | _, _ => none
def entV (M : IdMap) (lk : Id → Option Res) : SV → SV → Option (List Prop)
  | .junk, _ => some []
  | .v ag l, .v ag' l' => bif eqB ag ag' then entA M lk l l' else none
  | .fn f c, .fn f' c' => bif Nat.beq f f' then entC M lk c c' else none
  | .tup [], .tup [] => some []
  | _, _ => none
def entT (M : IdMap) (lk : Id → Option Res) : List SV → List SV → Option (List Prop)
  | [], [] => some []
  | x :: xs, y :: ys => app2 (entV M lk x y) (entT M lk xs ys)
  | _, _ => none
def entE (M : IdMap) (lk : Id → Option Res) : List (List At) → List (List At) → Option (List Prop)
  | [], [] => some []
  | x :: xs, y :: ys => app2 (entA M lk x y) (entE M lk xs ys)
  | _, _ => none
/-- what an id is claimed to stand for; the ids that go into it -/
def entR (M : IdMap) (lk : Id → Option Res) (i : Id) (R : Res) : Option (List Prop × List Id) :=
  match R with
  | .sl e f x => match mapOf M i with
    | some none => some ([(([] : List e.den) = x)], [])
    | some (some j) => match (pack (.sl e) (.sl .w f) [.own j]).exec lk with
      | some (⟨y, [], ids, []⟩, _) => some ([(y : List e.den) = x], ids)
      | _ => none
    | none => none
  | .var cs => match mapOf M i with
    | some (some j) => match lk j with
      | some (.var cs') => match entA M lk cs cs' with
        | some v => some (v, [j])
        | none => none
      | _ => none
    | _ => none
  | .els sz css => match mapOf M i with
    | some (some j) => match lk j with
      | some (.els sz' css') => bif Nat.beq sz' sz then (match entE M lk css css' with
        | some v => some (v, [j])
        | none => none) else none
      | _ => none
    | _ => none
  | .slo e f x k cs => match mapOf M i with
    | some (some j) => match lk j with
      | some (.slo e' f' x' k' cs') => bif Ty.beq e' e && flR Fo.le e f' f then (match entA M lk cs cs' with
        | some v => some ((k' = k) :: ((tcast (.sl e') (.sl e) x' : List e.den) = x) :: v, [j])
        | none => none) else none
      | _ => none
    | _ => none
  | .mp ak av K V F x => match mapOf M i with
    | some (some j) => match lk j with
      | some (.mp ak' av' K' V' F' x') => bif eqB ak ak' && eqB av av' && (Ty.beq K' K && Ty.beq V' V && flR Fo.le V F' F && V.noO F) then some ([tcast (.sl (.pr K' V')) (.sl (.pr K V)) x' = x], [j]) else none
      | _ => none
    | _ => none
  | .room _ _ => none
  | .ch o e x => match mapOf M i with
    | some none => some ([(([] : List e.den) = x)], [])
    | some (some j) => match lk j with
      | some (.ch o' e' x') => bif Ty.beq e' e && eqB o' o then some ([(tcast (.sl e') (.sl e) x' : List e.den) = x], bif o then [j] else []) else none
      | _ => none
    | none => none
  | .lvar cs => match mapOf M i with
    | some (some j) => match lk j with
      | some (.lvar cs') => match entA M lk cs cs' with
        | some v => some (v, [])
        | none => none
      | _ => none
    | _ => none
  | .pre _ _ => none
  | .bys _ => none
def entRs (M : IdMap) (lk : Id → Option Res) : List (Id × Res) → Option (List Prop × List Id)
  | [] => some ([], [])
  | (i, R) :: r => match entR M lk i R with
    | none => none
    | some (v, ids) => match entRs M lk r with
      | none => none
      | some (v', ids') => some (v ++ v', ids ++ ids')
def idsLe (n : Nat) : List Id → Bool
  | [] => true
  | ⟨r, _, _⟩ :: l => Nat.ble r n && idsLe n l
def firsts (l : List (Id × Res)) : List Id := l.map (·.1)
def entK (M : IdMap) (lk : Id → Option Res) : List (List SV) → List (List SV) → Option (List Prop)
  | [], [] => some []
  | x :: xs, y :: ys => app2 (entT M lk x y) (entK M lk xs ys)
  | _, _ => none
def entOk (M : IdMap) (st inv : St) : Option (List Prop) :=
  match st, inv with
  | ⟨t, rs, _, k⟩, ⟨t', rs', c', k'⟩ => match app2 (entT M (look rs) t' t) (entK M (look rs) k' k) with
    | none => none
    | some v => match entRs M (look rs) rs' with
      | none => none
      | some (v', ids) => bif nodupN ids && (idsLe c' (idsK k') && (idsLe c' (idsS t') && idsLe c' (idsR rs'))) then some (v ++ v') else none

/-! finding the names -/
def dropSz : List At → Nat → List At
  | [], _ => []
  | l, 0 => l
  | a :: l, n + 1 => dropSz l (n + 1 - a.size)
def prA : List At → List At → IdMap
  | .own i :: r, .own j :: l => (i, some j) :: prA r l
  | .own i :: r, .nils :: l => (i, none) :: prA r l
  | .ptr i _ :: r, .ptr j _ :: l => (i, some j) :: prA r l
  | .opt i _ _ _ _ :: r, .opt j _ _ _ _ :: l => (i, some j) :: prA r l
  | .chp i _ :: r, .chp j _ :: l => (i, some j) :: prA r l
  | .chp i _ :: r, .nilp :: l => (i, none) :: prA r l
  | .lnk i0 _ _ _ _ :: r, .ptr j0 _ :: l => (i0, some j0) :: prA r l
  | .lnk i0 _ i _ _ :: r, .lnk j0 _ j _ _ :: l => (i0, some j0) :: (i, some j) :: prA r l
  | .lnk _ _ i _ _ :: r, .chf j _ _ :: l => (i, some j) :: prA r l
  | a :: r, l => prA r (dropSz l a.size)
  | [], _ => []
def prV : SV → SV → IdMap
  | .v _ l, .v _ l' => prA l l'
  | .fn _ l, .fn _ l' => prA l l'
  | _, _ => []
def prT : List SV → List SV → IdMap
  | x :: xs, y :: ys => prV x y ++ prT xs ys
  | _, _ => []
def prE : List (List At) → List (List At) → IdMap
  | x :: xs, y :: ys => prA x y ++ prE xs ys
  | _, _ => []
def prR (rs' rs : List (Id × Res)) : IdMap → IdMap
  | [] => []
  | (i, some j) :: M => (match look rs' i, look rs j with
    | some (.var l), some (.var l') => prA l l'
    | some (.lvar l), some (.lvar l') => prA l l'
    | some (.els _ l), some (.els _ l') => prE l l'
    | some (.slo _ _ _ _ l), some (.slo _ _ _ _ l') => prA l l'
    | _, _ => []) ++ prR rs' rs M
  | (_, none) :: M => prR rs' rs M
def addNew : IdMap → IdMap → IdMap
  | [], M => M
  | (i, j) :: r, M => match mapOf M i with
    | some _ => addNew r M
    | none => addNew r (M ++ [(i, j)])
/-- the map, written out -/
def forceM {α : Type} : IdMap → (IdMap → α) → α
  | [], k => k []
  | (⟨a, b, c⟩, j) :: r, k => match j with
    | none => forceM r fun r' => k ((⟨a, b, c⟩, none) :: r')
    | some ⟨x, y, z⟩ => forceM r fun r' => k ((⟨a, b, c⟩, some ⟨x, y, z⟩) :: r')
def growM {α : Type} (rs' rs : List (Id × Res)) : Nat → IdMap → (IdMap → α) → α
  | 0, M, k => k M
  | n + 1, M, k => forceM (addNew (prR rs' rs M) M) fun M' => growM rs' rs n M' k
def prK : List (List SV) → List (List SV) → IdMap
  | x :: xs, y :: ys => prT x y ++ prK xs ys
  | _, _ => []
def ent (st inv : St) : Option (List Prop) := forceM (addNew (prT inv.tmps st.tmps ++ prK inv.stk st.stk) []) fun M => growM inv.res st.res 3 M fun M => entOk M st inv
theorem forceM_ex {α : Type} : ∀ (M : IdMap) (k : IdMap → α), ∃ M', forceM M k = k M' := by
  intro M
  induction M with
  | nil => intro k; exact ⟨[], rfl⟩
  | cons p r ih =>
    intro k
    obtain ⟨⟨a, b, c⟩, j⟩ := p
    cases j with
    | none => obtain ⟨M', h⟩ := ih fun r' => k ((⟨a, b, c⟩, none) :: r'); exact ⟨_, h⟩
    | some j => obtain ⟨x, y, z⟩ := j; obtain ⟨M', h⟩ := ih fun r' => k ((⟨a, b, c⟩, some ⟨x, y, z⟩) :: r'); exact ⟨_, h⟩
theorem growM_ex {α : Type} (rs' rs : List (Id × Res)) : ∀ (n : Nat) (M : IdMap) (k : IdMap → α), ∃ M', growM rs' rs n M k = k M' := by
  intro n
  induction n with
  | zero => intro M k; exact ⟨M, rfl⟩
  | succ n ih =>
    intro M k
    obtain ⟨M', h⟩ := forceM_ex (addNew (prR rs' rs M) M) fun M' => growM rs' rs n M' k
    obtain ⟨M2, h2⟩ := ih M' k
    exact ⟨M2, h.trans h2⟩

section
variable {G G' : Gh} {w : World} {lk : Id → Option Res} {M : IdMap}
/-- what the names come to -/
structure Named (M : IdMap) (G G' : Gh) (w : World) : Prop where
  pb : KeepPB G G' w w
  map : ∀ i j, isMap M i j = true → G'.ρ i = G.ρ j
  nil : ∀ i, isNil M i = true → G'.ρ i = .slice none 0 0
theorem entA_sound (hrs : ∀ id R, lk id = some R → ResOk G w id R) (hone : RhoOk G) (hN : Named M G G' w) : ∀ {l l' : List At} {cs : List Value} {v : List Prop}, entA M lk l l' = some v → (∀ p ∈ v, p) → MtL G w l' cs → MtL G' w l cs := by
  intro l
  induction l with
  | nil =>
    intro l' cs v h _ m
    cases l' with
    | nil => exact m
    | cons _ _ => simp [entA] at h
  | cons a r ih =>
    intro l' cs v h hv m
    cases a with
    | d T F x =>
      simp only [entA] at h
      split at h
      · rename_i y l2 t hp
        cases hO : T.noO F with
        | false => rw [hO] at h; cases h
        | true =>
          rw [hO] at h
          simp only [cond_true] at h
          split at h
          · rename_i v' hv'
            cases h
            obtain ⟨c1, c2, rfl, hc1, hc2, hpk⟩ := pack_sound hrs _ _ _ _ _ _ _ _ _ m hp
            obtain ⟨mm, hmm, htr⟩ := hpk List.nodup_nil
            have hyx := hv _ List.mem_cons_self
            subst hyx
            exact ⟨c1, c2, rfl, ⟨hO, htr G' w default [] ⟨hN.pb, fun b i q pos _ hp => absurd ((hmm i).1 (by rw [hp]; simp)) (by simp), fun b i q _ hi => absurd hi (by simp)⟩⟩, ih hv' (fun p hp => hv p (List.mem_cons_of_mem _ hp)) hc2⟩
          · cases h
      · cases h
    | kb b =>
      simp only [entA] at h
      split at h
      · rename_i b' l2
        cases he : eqB b b' with
        | false => rw [he] at h; cases h
        | true =>
          rw [he] at h
          have := eqB_eq he
          subst this
          obtain ⟨c1, c2, rfl, h1, h2⟩ := m
          exact ⟨c1, c2, rfl, h1, ih h hv h2⟩
      · cases h
    | nils =>
      simp only [entA] at h
      split at h
      · obtain ⟨c1, c2, rfl, h1, h2⟩ := m
        exact ⟨c1, c2, rfl, h1, ih h hv h2⟩
      · cases h
    | own i =>
      simp only [entA] at h
      split at h
      · rename_i j l2
        cases he : isMap M i j with
        | false => rw [he] at h; cases h
        | true =>
          rw [he] at h
          obtain ⟨c1, c2, rfl, h1, h2⟩ := m
          exact ⟨c1, c2, rfl, by show c1 = [G'.ρ i]; rw [hN.map i j he]; exact h1, ih h hv h2⟩
      · rename_i l2
        cases he : isNil M i with
        | false => rw [he] at h; cases h
        | true =>
          rw [he] at h
          obtain ⟨c1, c2, rfl, h1, h2⟩ := m
          exact ⟨c1, c2, rfl, by show c1 = [G'.ρ i]; rw [hN.nil i he]; exact h1, ih h hv h2⟩
      · cases h
    | ptr i o =>
      simp only [entA] at h
      split at h
      · rename_i j o' l2
        cases he : (isMap M i j && Nat.beq o' o) with
        | false => rw [he] at h; cases h
        | true =>
          rw [he] at h
          simp only [Bool.and_eq_true] at he
          have := Nat.eq_of_beq_eq_true he.2
          subst this
          obtain ⟨c1, c2, rfl, ⟨b, h1, h1'⟩, h2⟩ := m
          exact ⟨c1, c2, rfl, ⟨b, by rw [hN.map i j he.1]; exact h1, h1'⟩, ih h hv h2⟩
      · cases h
    | opt i k sz off T =>
      simp only [entA] at h
      split at h
      · rename_i j k' sz' off' T' l2
        cases he : (isMap M i j && (Nat.beq sz' sz && Nat.beq off' off)) with
        | false => rw [he] at h; cases h
        | true =>
          rw [he] at h
          simp only [cond_true] at h
          simp only [Bool.and_eq_true] at he
          split at h
          · rename_i v' hv'
            cases h
            have e1 := Nat.eq_of_beq_eq_true he.2.1
            have e2 := Nat.eq_of_beq_eq_true he.2.2
            have e3 : k' = k := hv _ List.mem_cons_self
            subst e1; subst e2; subst e3
            obtain ⟨c1, c2, rfl, ⟨b, o, n, c, h1, h1'⟩, h2⟩ := m
            exact ⟨c1, c2, rfl, ⟨b, o, n, c, by rw [hN.map i j he.1]; exact h1, h1'⟩, ih hv' (fun p hp => hv p (List.mem_cons_of_mem _ hp)) h2⟩
          · cases h
      · cases h
    | rpt o T F x =>
      simp only [entA] at h
      split at h
      · rename_i o' T' F' x' l2
        cases he : (Ty.beq T' T && (T.noO F && flR Fo.le T F' F && Fo.le o' o)) with
        | false => rw [he] at h; cases h
        | true =>
          rw [he] at h
          simp only [cond_true] at h
          simp only [Bool.and_eq_true] at he
          split at h
          · rename_i v' hv'
            cases h
            have hT := Ty.eq_of_beq he.1
            subst hT
            have hxx := hv _ List.mem_cons_self
            rw [tcast_self] at hxx
            subst hxx
            obtain ⟨c1, c2, rfl, ⟨h0, ho, b, off, C, t', fz, g1, g2, g3, g4, g5⟩, h2⟩ := m
            have hl := labOk_keep hN.pb (id' := default) (p' := []) ho g2
            refine ⟨c1, c2, rfl, ⟨he.2.1.1, ?_, b, off, C, t', fz, g1, ?_, g3, g4, Tr.le he.2.1.2 (g5.keep hN.pb h0)⟩, ih hv' (fun p hp => hv p (List.mem_cons_of_mem _ hp)) h2⟩
            · have := he.2.2
              cases o <;> cases o' <;> first | rfl | (cases this; done) | (cases ho; done)
            · have := he.2.2
              cases o <;> cases o' <;> first | exact hl.1 | exact .inl hl.1 | (cases this; done) | (cases ho; done)
          · cases h
      · cases h
    | nilp =>
      simp only [entA] at h
      split at h
      · obtain ⟨c1, c2, rfl, h1, h2⟩ := m
        exact ⟨c1, c2, rfl, h1, ih h hv h2⟩
      · rename_i j k l2
        split at h
        · rename_i oc e x hlk
          split at h
          · rename_i v' hv'
            cases h
            have hk : k = x.length := hv _ List.mem_cons_self
            obtain ⟨c1, c2, rfl, ⟨ps, A, a1, a2, a3⟩, h2⟩ := m
            obtain ⟨ps', q1, q2, _⟩ := hrs j _ hlk
            rw [a1] at q1
            cases q1
            rw [hk, q2] at a2
            simp only [Option.some.injEq, Value.pointer.injEq] at a2
            exact ⟨c1, c2, rfl, by show c1 = _; rw [a3, ← a2], ih hv' (fun p hp => hv p (List.mem_cons_of_mem _ hp)) h2⟩
          · cases h
        · cases h
      · cases h
    | chp i k =>
      simp only [entA] at h
      split at h
      · rename_i j k' l2
        cases he : isMap M i j with
        | false => rw [he] at h; cases h
        | true =>
          rw [he] at h
          simp only [cond_true] at h
          split at h
          · rename_i v' hv'
            cases h
            have hk : k' = k := hv _ List.mem_cons_self
            subst hk
            obtain ⟨c1, c2, rfl, ⟨ps, A, a1, a2⟩, h2⟩ := m
            exact ⟨c1, c2, rfl, ⟨ps, A, by rw [hN.map i j he]; exact a1, a2⟩, ih hv' (fun p hp => hv p (List.mem_cons_of_mem _ hp)) h2⟩
          · cases h
      · rename_i l2
        cases he : isNil M i with
        | false => rw [he] at h; cases h
        | true =>
          rw [he] at h
          simp only [cond_true] at h
          split at h
          · rename_i v' hv'
            cases h
            have hk : 0 = k := hv _ List.mem_cons_self
            subst hk
            obtain ⟨c1, c2, rfl, h1, h2⟩ := m
            exact ⟨c1, c2, rfl, ⟨[.pointer none], none, by rw [hN.nil i he]; rfl, rfl, h1⟩, ih hv' (fun p hp => hv p (List.mem_cons_of_mem _ hp)) h2⟩
          · cases h
      · cases h
    | lnk i0 off i k sz =>
      simp only [entA] at h
      split at h
      · rename_i j0 off' l2
        cases he : (isMap M i0 j0 && Nat.beq off' off) with
        | false => rw [he] at h; cases h
        | true =>
          rw [he] at h
          simp only [cond_true] at h
          simp only [Bool.and_eq_true] at he
          have e1 := Nat.eq_of_beq_eq_true he.2
          subst e1
          split at h
          · rename_i v' hv'
            cases h
            have hk : 0 = k := hv _ List.mem_cons_self
            obtain ⟨c1, c2, rfl, ⟨b, a1, a2⟩, h2⟩ := m
            exact ⟨c1, c2, rfl, .inl ⟨hk.symm, b, by rw [hN.map i0 j0 he.1]; exact a1, a2⟩, ih hv' (fun p hp => hv p (List.mem_cons_of_mem _ hp)) h2⟩
          · cases h
      · rename_i j k' off' l2
        cases he : (isMap M i j && Nat.beq off' sz) with
        | false => rw [he] at h; cases h
        | true =>
          rw [he] at h
          simp only [cond_true] at h
          simp only [Bool.and_eq_true] at he
          have e1 := Nat.eq_of_beq_eq_true he.2
          subst e1
          split at h
          · rename_i v' hv'
            cases h
            have hk : k' + 1 = k := hv _ List.mem_cons_self
            obtain ⟨c1, c2, rfl, ⟨ps, b, a1, a2, a3⟩, h2⟩ := m
            exact ⟨c1, c2, rfl, .inr ⟨k', ps, b, hk.symm, by rw [hN.map i j he.1]; exact a1, a2, a3⟩, ih hv' (fun p hp => hv p (List.mem_cons_of_mem _ hp)) h2⟩
          · cases h
      · rename_i j0 off' j k' sz' l2
        cases he : (isMap M i0 j0 && isMap M i j && (Nat.beq off' off && Nat.beq sz' sz)) with
        | false => rw [he] at h; cases h
        | true =>
          rw [he] at h
          simp only [cond_true] at h
          simp only [Bool.and_eq_true] at he
          have e1 := Nat.eq_of_beq_eq_true he.2.1
          have e2 := Nat.eq_of_beq_eq_true he.2.2
          subst e1
          subst e2
          split at h
          · rename_i v' hv'
            cases h
            have hk : k' = k := hv _ List.mem_cons_self
            subst hk
            obtain ⟨c1, c2, rfl, a, h2⟩ := m
            refine ⟨c1, c2, rfl, ?_, ih hv' (fun p hp => hv p (List.mem_cons_of_mem _ hp)) h2⟩
            rcases a with ⟨a1, b, a2, a3⟩ | ⟨q, ps, b, a1, a2, a3⟩
            · exact .inl ⟨a1, b, by rw [hN.map i0 j0 he.1.1]; exact a2, a3⟩
            · exact .inr ⟨q, ps, b, a1, by rw [hN.map i j he.1.2]; exact a2, a3⟩
          · cases h
      · cases h
    | chf _ _ _ => simp [entA] at h
    | vp _ _ _ _ _ => simp [entA] at h
    | vsl _ _ _ _ => simp [entA] at h
    | junk =>
      simp only [entA] at h
      split at h
      · rename_i a l2
        cases he : Nat.beq a.size 1 with
        | false => rw [he] at h; cases h
        | true =>
          rw [he] at h
          obtain ⟨c1, c2, rfl, h1, h2⟩ := m
          have hl := h1.len
          rw [Nat.eq_of_beq_eq_true he] at hl
          match c1, hl with
          | [u], _ => exact ⟨[u], c2, rfl, ⟨u, h1.one hone u (by simp), rfl⟩, ih h hv h2⟩
      · cases h
    | anyb _ => simp [entA] at h
    | sub _ _ _ _ _ => simp [entA] at h
theorem MtL.app_inv : ∀ {l m : List At} {cs : List Value}, MtL G w (l ++ m) cs → ∃ c d, cs = c ++ d ∧ MtL G w l c ∧ MtL G w m d := by
  intro l
  induction l with
  | nil => intro m cs h; exact ⟨[], cs, rfl, rfl, h⟩
  | cons a r ih =>
    intro m cs h
    obtain ⟨c1, c2, rfl, h1, h2⟩ := h
    obtain ⟨c, d, rfl, h3, h4⟩ := ih h2
    exact ⟨c1 ++ c, d, by rw [List.append_assoc], ⟨c1, c, rfl, h1, h3⟩, h4⟩
theorem atomsOf_le (hk : KeepPB G G' w w) : ∀ {T : Ty} {F F' : Fl} {x : T.den} {cs : List Value}, flR Fo.le T F' F = true → T.noO F = true → MtL G w (atomsOf T F' x) cs → MtL G' w (atomsOf T F x) cs := by
  intro T
  induction T with
  | pr a b iha ihb =>
    intro F F' x cs h h0 m
    simp only [flR, Bool.and_eq_true] at h
    simp only [Ty.noO, Bool.and_eq_true] at h0
    obtain ⟨c, d, rfl, h1, h2⟩ := MtL.app_inv m
    exact (iha h.1 h0.1 h1).append (ihb h.2 h0.2 h2)
  | sl e ih => intro F F' x cs h h0 m; have m := m.one_inv; exact .one ⟨h0, Tr.le h (m.2.keep hk m.1)⟩
  | pt => intro F F' x cs h h0 m; have m := m.one_inv; exact .one m
  | arr n e ih => intro F F' x cs h h0 m; have m := m.one_inv; exact .one ⟨m.1, m.2.keep hk m.1⟩
  | _ => intro F F' x cs h h0 m; have m := m.one_inv; exact .one ⟨m.1, m.2.keep hk m.1⟩
theorem MtV.le (hk : KeepPB G G' w w) {ag : Bool} {T : Ty} {F F' : Fl} {x : T.den} {v : Value} (h : flR Fo.le T F' F = true) (h0 : T.noO F = true) (m : MtV G w ag (atomsOf T F' x) v) : MtV G' w ag (atomsOf T F x) v := by
  cases ag with
  | true => obtain ⟨cs, h1, h2⟩ := m; exact ⟨cs, h1, atomsOf_le hk h h0 h2⟩
  | false => exact ⟨m.1, atomsOf_le hk h h0 m.2⟩
theorem MpOk.le (hk : KeepPB G G' w w) {ak av : Bool} {K V : Ty} {F F' : Fl} (h : flR Fo.le V F' F = true) (h0 : V.noO F = true) : ∀ {l : List (K.den × V.den)} {es : List MapEntry}, MpOk G w ak av K V F' l es → MpOk G' w ak av K V F l es := by
  intro l
  induction l with
  | nil => intro es m; exact m
  | cons p l ih =>
    intro es m
    obtain ⟨e, es', h1, h2, h3, h4⟩ := m
    exact ⟨e, es', h1, h2.le hk (flR_le_refl _ _) (noO_p K), h3.le hk h h0, ih h4⟩
theorem app2_spec {a b : Option (List Prop)} {v : List Prop} (h : app2 a b = some v) : ∃ x y, a = some x ∧ b = some y ∧ v = x ++ y := by
  unfold app2 at h
  split at h
  · cases h
  · split at h
    · cases h
    · cases h; exact ⟨_, _, rfl, rfl, rfl⟩
theorem entC_sound (hrs : ∀ id R, lk id = some R → ResOk G w id R) (hone : RhoOk G) (hN : Named M G G' w) : ∀ {l l' : List At} {vs : List Value} {v : List Prop}, entC M lk l l' = some v → (∀ p ∈ v, p) → MtC G w l' vs → MtC G' w l vs := by
  intro l
  induction l with
  | nil => intro l' vs v h _ m; cases l' with
    | nil => exact m
    | cons _ _ => simp [entC] at h
  | cons a r ih =>
    intro l' vs v h hv m
    cases l' with
    | nil => simp [entC] at h
    | cons b r' =>
      obtain ⟨x, y, hx, hy, rfl⟩ := app2_spec h
      obtain ⟨u, us, rfl, h1, h2, h3⟩ := m
      exact ⟨u, us, rfl, h1, (entA_sound hrs hone hN hx (fun p hp => hv p (List.mem_append_left _ hp)) (.one h2)).one_inv, ih hy (fun p hp => hv p (List.mem_append_right _ hp)) h3⟩
theorem entV_sound (hrs : ∀ id R, lk id = some R → ResOk G w id R) (hone : RhoOk G) (hN : Named M G G' w) {x y : SV} {u : Value} {v : List Prop} (h : entV M lk x y = some v) (hv : ∀ p ∈ v, p) (m : MtS G w y u) : MtS G' w x u := by
  unfold entV at h
  split at h
  · trivial
  · rename_i ag l ag' l'
    cases he : eqB ag ag' with
    | false => rw [he] at h; cases h
    | true =>
      rw [he] at h
      have := eqB_eq he
      subst this
      cases ag with
      | true => obtain ⟨cs, h1, h2⟩ := m; exact ⟨cs, h1, entA_sound hrs hone hN h hv h2⟩
      | false => exact ⟨m.1, entA_sound hrs hone hN h hv m.2⟩
  · rename_i f c f' c'
    cases he : Nat.beq f f' with
    | false => rw [he] at h; cases h
    | true =>
      rw [he] at h
      have := Nat.eq_of_beq_eq_true he
      subst this
      obtain ⟨vs, h1, h2⟩ := m
      exact ⟨vs, h1, entC_sound hrs hone hN h hv h2⟩
  · exact m
  · cases h
theorem entT_sound (hrs : ∀ id R, lk id = some R → ResOk G w id R) (hone : RhoOk G) (hN : Named M G G' w) : ∀ {t' t : List SV} {v : List Prop}, entT M lk t' t = some v → (∀ p ∈ v, p) → t'.length = t.length ∧ ∀ (i : Nat) (u : Value), MtS G w (getT t i) u → MtS G' w (getT t' i) u := by
  intro t'
  induction t' with
  | nil => intro t v h _; cases t with
    | nil => exact ⟨rfl, fun _ _ _ => trivial⟩
    | cons _ _ => simp [entT] at h
  | cons x xs ih =>
    intro t v h hv
    cases t with
    | nil => simp [entT] at h
    | cons y ys =>
      obtain ⟨a, b, ha, hb, rfl⟩ := app2_spec h
      obtain ⟨h1, h2⟩ := ih hb (fun p hp => hv p (List.mem_append_right _ hp))
      refine ⟨by simp [h1], fun i u m => ?_⟩
      cases i with
      | zero => exact entV_sound hrs hone hN ha (fun p hp => hv p (List.mem_append_left _ hp)) m
      | succ i => exact h2 i u m
theorem entE_sound (hrs : ∀ id R, lk id = some R → ResOk G w id R) (hone : RhoOk G) (hN : Named M G G' w) {sz : Nat} {C : Array Value} : ∀ {l l' : List (List At)} {off : Nat} {v : List Prop}, entE M lk l l' = some v → (∀ p ∈ v, p) → MtEls G w sz C off l' → l.length = l'.length ∧ MtEls G' w sz C off l := by
  intro l
  induction l with
  | nil => intro l' off v h _ _; cases l' with
    | nil => exact ⟨rfl, trivial⟩
    | cons _ _ => simp [entE] at h
  | cons x xs ih =>
    intro l' off v h hv m
    cases l' with
    | nil => simp [entE] at h
    | cons y ys =>
      obtain ⟨a, b, ha, hb, rfl⟩ := app2_spec h
      obtain ⟨h1, h2⟩ := ih hb (fun p hp => hv p (List.mem_append_right _ hp)) m.2
      exact ⟨by simp [h1], entA_sound hrs hone hN ha (fun p hp => hv p (List.mem_append_left _ hp)) m.1, h2⟩
theorem entE_len {l l' : List (List At)} : ∀ {v : List Prop}, entE M lk l l' = some v → l.length = l'.length := by
  induction l generalizing l' with
  | nil => intro v h; cases l' with
    | nil => rfl
    | cons _ _ => simp [entE] at h
  | cons x xs ih =>
    intro v h
    cases l' with
    | nil => simp [entE] at h
    | cons y ys => obtain ⟨a, b, ha, hb, rfl⟩ := app2_spec h; simp [ih hb]
/-- labels after the naming -/
def Carries (G G' : Gh) (mp : Id → Option (Id × List Nat)) : Prop := ∀ b j q i pos, G.g b = .own j q → mp j = some (i, pos) → G'.g b = .own i (pos ++ q)
theorem entR_sound (hrs : ∀ id R, lk id = some R → ResOk G w id R) (hone : RhoOk G) {i : Id} {R : Res} {v : List Prop} {ids : List Id} (h : entR M lk i R = some (v, ids)) (hv : ∀ p ∈ v, p) (hnd : ids.Nodup) :
    ∃ mp : Id → Option (Id × List Nat), (∀ j, mp j ≠ none ↔ j ∈ ids) ∧ ∀ G', Named M G G' w → Carries G G' mp → ResOk G' w i R := by
  cases R with
  | sl e f x =>
    simp only [entR] at h
    split at h
    · rename_i hm
      cases h
      have hx : ([] : List e.den) = x := hv _ List.mem_cons_self
      subst hx
      exact ⟨fun _ => none, by simp, fun G' hN _ => ⟨none, 0, 0, by rw [hN.nil i (by simp [isNil, hm])], rfl, Nat.le_refl _, Nat.zero_le _, (fun h => by cases h), .inl ⟨fun _ => rfl, rfl⟩⟩⟩
    · rename_i j hm
      split at h
      · rename_i y ids' t hp
        cases h
        have hx : y = x := hv _ List.mem_cons_self
        subst hx
        obtain ⟨c1, c2, hcs, hc1, hc2, hpk⟩ := pack_sound hrs (.sl e) (.sl .w f) [.own j] [G.ρ j] _ _ _ _ _ ⟨[G.ρ j], [], rfl, rfl, rfl⟩ hp
        rw [show c2 = [] from hc2, List.append_nil] at hcs
        obtain ⟨mm, hmm, htr⟩ := hpk hnd
        refine ⟨fun k => (mm k).map fun pos => (i, pos), fun k => by rw [← hmm k]; simp, fun G' hN hC => ?_⟩
        have := htr G' w i [] ⟨hN.pb, fun b j' q pos hg hp => ⟨by simpa using hC b j' q i pos hg (by simp [hp]), rfl⟩, fun b j' q _ hi => absurd hi (by simp)⟩
        show Tr G' w (.sl e) (.sl .w f) i [] [G'.ρ i] y
        rw [hN.map i j (by simp [isMap, hm, Id.beq_self]), hcs]
        exact this
      · cases h
    · cases h
  | var cs =>
    simp only [entR] at h
    split at h
    · rename_i j hm
      split at h
      · rename_i cs' hlk
        split at h
        · rename_i v' hv'
          cases h
          refine ⟨fun k => if k = j then some (i, []) else none, fun k => by simp, fun G' hN hC => ?_⟩
          obtain ⟨b, C, t, h1, h2, h3, h4⟩ := hrs j _ hlk
          exact ⟨b, C, t, by rw [hN.map i j (by simp [isMap, hm, Id.beq_self])]; exact h1, hC b j [] i [] h2 (by simp), h3, entA_sound hrs hone hN hv' hv h4⟩
        · cases h
      · cases h
    · cases h
  | els sz css =>
    simp only [entR] at h
    split at h
    · rename_i j hm
      split at h
      · rename_i sz' css' hlk
        cases hz : Nat.beq sz' sz with
        | false => rw [hz] at h; cases h
        | true =>
          rw [hz] at h
          have := Nat.eq_of_beq_eq_true hz
          subst this
          simp only [cond_true] at h
          split at h
          · rename_i v' hv'
            cases h
            refine ⟨fun k => if k = j then some (i, []) else none, fun k => by simp, fun G' hN hC => ?_⟩
            obtain ⟨A, n, c, h1, h2, h3, h4, h5⟩ := hrs j _ hlk
            have hlen := entE_len hv'
            refine ⟨A, n, c, by rw [hN.map i j (by simp [isMap, hm, Id.beq_self])]; exact h1, by rw [hlen]; exact h2, h3, h4, ?_⟩
            rcases h5 with h5 | ⟨b, off, C, t, g1, g2, g3, g4, g5⟩
            · exact .inl h5
            · exact .inr ⟨b, off, C, t, g1, hC b j [] i [] g2 (by simp), g3, g4, (entE_sound hrs hone hN hv' hv g5).2⟩
          · cases h
      · cases h
    · cases h
  | slo e f x k cs =>
    simp only [entR] at h
    split at h
    · rename_i j hm
      split at h
      · rename_i e' f' x' k' cs' hlk
        cases hE : Ty.beq e' e && flR Fo.le e f' f with
        | false => rw [hE] at h; cases h
        | true =>
          rw [hE] at h
          simp only [Bool.and_eq_true] at hE
          have := Ty.eq_of_beq hE.1
          subst this
          simp only [cond_true, tcast_self] at h
          split at h
          · rename_i v' hv'
            cases h
            have hk : k' = k := hv _ List.mem_cons_self
            have hxx : x' = x := hv _ (List.mem_cons_of_mem _ List.mem_cons_self)
            subst hk
            subst hxx
            refine ⟨fun q => if q = j then some (i, []) else none, fun q => by simp, fun G' hN hC => ?_⟩
            obtain ⟨b, off, C, t, n, c, h1, h2, h3, h4, h5, h6, h7, h8, h9, h10⟩ := hrs j _ hlk
            exact ⟨b, off, C, t, n, c, by rw [hN.map i j (by simp [isMap, hm, Id.beq_self])]; exact h1, h2, h3, h4, h5, hC b j [] i [] h6 (by simp), h7, h8,
              fun q y hq hy => Tr.mono hN.pb (fun b' r hr => ⟨by simpa using hC b' j _ i [] hr (by simp), rfl⟩) (Tr.le hE.2 (h9 q y hq hy)), entA_sound hrs hone hN hv' (fun p hp => hv p (List.mem_cons_of_mem _ (List.mem_cons_of_mem _ hp))) h10⟩
          · cases h
      · cases h
    · cases h
  | mp ak av K V F x =>
    simp only [entR] at h
    split at h
    · rename_i j hm
      split at h
      · rename_i ak' av' K' V' F' x' hlk
        cases hE : eqB ak ak' && eqB av av' && (Ty.beq K' K && Ty.beq V' V && flR Fo.le V F' F && V.noO F) with
        | false => rw [hE] at h; cases h
        | true =>
          rw [hE] at h
          simp only [Bool.and_eq_true] at hE
          obtain ⟨⟨e1, e2⟩, ⟨⟨e3, e4⟩, e5⟩, e6⟩ := hE
          have e1 := eqB_eq e1
          have e2 := eqB_eq e2
          have e3 := Ty.eq_of_beq e3
          have e4 := Ty.eq_of_beq e4
          subst e1 e2 e3 e4
          cases h
          have hxx := hv _ List.mem_cons_self
          rw [tcast_self] at hxx
          subst hxx
          refine ⟨fun q => if q = j then some (i, []) else none, fun q => by simp, fun G' hN hC => ?_⟩
          obtain ⟨h0, r, es, clk, h1, h2, h3, h4⟩ := hrs j _ hlk
          exact ⟨e6, r, es, clk, by rw [hN.map i j (by simp [isMap, hm, Id.beq_self])]; exact h1, hC r j [] i [] h2 (by simp), h3, h4.le hN.pb e5 e6⟩
      · cases h
    · cases h
  | room i' k => cases h
  | ch o e x =>
    simp only [entR] at h
    split at h
    · rename_i hm
      cases h
      have hx : ([] : List e.den) = x := hv _ List.mem_cons_self
      subst hx
      exact ⟨fun _ => none, by simp, fun G' hN _ => ⟨[.pointer none], by rw [hN.nil i (by simp [isNil, hm])]; rfl, rfl, fun k y hy => by simp at hy⟩⟩
    · rename_i j hm
      split at h
      · rename_i o' e' x' hlk
        cases hE : (Ty.beq e' e && eqB o' o) with
        | false => rw [hE] at h; cases h
        | true =>
          rw [hE] at h
          simp only [Bool.and_eq_true] at hE
          have := Ty.eq_of_beq hE.1
          subst this
          have := eqB_eq hE.2
          subst this
          simp only [cond_true, Option.some.injEq, Prod.mk.injEq] at h
          obtain ⟨rfl, rfl⟩ := h
          have hxx := hv _ List.mem_cons_self
          rw [tcast_self] at hxx
          subst hxx
          obtain ⟨ps, h1, h2, h3⟩ := hrs j _ hlk
          cases o' with
          | true =>
            refine ⟨fun q => if q = j then some (i, []) else none, fun q => by simp, fun G' hN hC => ?_⟩
            refine ⟨ps, by rw [hN.map i j (by simp [isMap, hm, Id.beq_self])]; exact h1, h2, fun k y hy => ?_⟩
            obtain ⟨b, C, t, cs, nx, g1, g2, g3, g4, g5, g6⟩ := h3 k y hy
            have hl : G'.g b = .own i [k] := by simpa using hC b j [k] i [] g3 (by simp)
            exact ⟨b, C, t, cs, nx, g1, g2, hl, g4, g5, g6.keep hN.pb (noO_p _)⟩
          | false =>
            refine ⟨fun _ => none, by simp, fun G' hN _ => ?_⟩
            refine ⟨ps, by rw [hN.map i j (by simp [isMap, hm, Id.beq_self])]; exact h1, h2, fun k y hy => ?_⟩
            obtain ⟨b, C, t, cs, nx, g1, g2, g3, g4, g5, g6⟩ := h3 k y hy
            exact ⟨b, C, t, cs, nx, g1, g2, (hN.pb.bor b g3).1, g4, g5, g6.keep hN.pb (noO_p _)⟩
      · cases h
    · cases h
  | lvar cs =>
    simp only [entR] at h
    split at h
    · rename_i j hm
      split at h
      · rename_i cs' hlk
        split at h
        · rename_i v' hv'
          cases h
          refine ⟨fun _ => none, by simp, fun G' hN _ => ?_⟩
          obtain ⟨b, C, t, h1, h2, h3, h4⟩ := hrs j _ hlk
          exact ⟨b, C, t, by rw [hN.map i j (by simp [isMap, hm, Id.beq_self])]; exact h1, (hN.pb.bor b h2).1, h3, entA_sound hrs hone hN hv' hv h4⟩
        · cases h
      · cases h
    · cases h
  | pre i' n => cases h
  | bys l => cases h
theorem entRs_sound (hrs : ∀ id R, lk id = some R → ResOk G w id R) (hone : RhoOk G) : ∀ {l : List (Id × Res)} {v : List Prop} {ids : List Id}, entRs M lk l = some (v, ids) → (∀ p ∈ v, p) → ids.Nodup →
    ∃ mp : Id → Option (Id × List Nat), (∀ j, mp j ≠ none ↔ j ∈ ids) ∧ ∀ G', Named M G G' w → Carries G G' mp → ∀ i R, (i, R) ∈ l → ResOk G' w i R := by
  intro l
  induction l with
  | nil =>
    intro v ids h _ _
    simp only [entRs, Option.some.injEq, Prod.mk.injEq] at h
    obtain ⟨rfl, rfl⟩ := h
    exact ⟨fun _ => none, by simp, fun _ _ _ i R hi => by cases hi⟩
  | cons p r ih =>
    intro v ids h hv hnd
    obtain ⟨i, R⟩ := p
    simp only [entRs] at h
    split at h
    · cases h
    · rename_i v1 ids1 h1
      split at h
      · cases h
      · rename_i v2 ids2 h2
        cases h
        rw [List.nodup_append] at hnd
        obtain ⟨m1, k1, k2⟩ := entR_sound hrs hone h1 (fun p hp => hv p (List.mem_append_left _ hp)) hnd.1
        obtain ⟨m2, k3, k4⟩ := ih h2 (fun p hp => hv p (List.mem_append_right _ hp)) hnd.2.1
        refine ⟨mpU m1 m2, mpU_iff k1 k3, fun G' hN hC i' R' hi => ?_⟩
        cases hi with
        | head => exact k2 G' hN fun b j q i pos hg hp => hC b j q i pos hg (mpU_l hp)
        | tail _ hi => exact k4 G' hN (fun b j q i pos hg hp => hC b j q i pos hg (mpU_r hp (not_mem_none k1 fun h => hnd.2.2 j h j ((k3 j).1 (by rw [hp]; simp)) rfl))) i' R' hi
end
theorem look_mem {rs : List (Id × Res)} {i : Id} {R : Res} (h : look rs i = some R) : (i, R) ∈ rs := by
  induction rs with
  | nil => cases h
  | cons p r ih =>
    obtain ⟨j, S⟩ := p
    simp only [look] at h
    cases hb : j.beq i with
    | true => rw [hb] at h; cases h; rw [Id.eq_of_beq hb]; exact List.mem_cons_self
    | false => rw [hb] at h; exact List.mem_cons_of_mem _ (ih h)
theorem idsLe_spec {n : Nat} {l : List Id} (h : idsLe n l = true) : ∀ i ∈ l, i.r ≤ n := by
  induction l with
  | nil => intro i hi; cases hi
  | cons x xs ih =>
    obtain ⟨r, s, c⟩ := x
    simp only [idsLe, Bool.and_eq_true] at h
    intro i hi
    cases hi with
    | head => exact Nat.le_of_ble_eq_true h.1
    | tail _ hi => exact ih h.2 i hi
theorem mem_idsR {rs : List (Id × Res)} {i : Id} {R : Res} (h : (i, R) ∈ rs) : i ∈ idsR rs ∧ ∀ j ∈ R.ids, j ∈ idsR rs := by
  induction rs with
  | nil => cases h
  | cons p r ih =>
    obtain ⟨j, S⟩ := p
    cases h with
    | head => exact ⟨by simp [idsR], fun j hj => by simp [idsR, hj]⟩
    | tail _ h => exact ⟨by simp [idsR, (ih h).1], fun j hj => by simp [idsR, (ih h).2 j hj]⟩
theorem entK_sound {G G' : Gh} {w : World} {lk : Id → Option Res} {M : IdMap} (hrs : ∀ id R, lk id = some R → ResOk G w id R) (hone : RhoOk G) (hN : Named M G G' w) : ∀ {k' k : List (List SV)} {fs : List (Array Value)} {v : List Prop}, entK M lk k' k = some v → (∀ p ∈ v, p) → MtK G w k fs → MtK G' w k' fs := by
  intro k'
  induction k' with
  | nil => intro k fs v h _ m; cases k with
    | nil => exact m
    | cons _ _ => simp [entK] at h
  | cons x xs ih =>
    intro k fs v h hv m
    cases k with
    | nil => simp [entK] at h
    | cons y ys =>
      obtain ⟨a, b, ha, hb, rfl⟩ := app2_spec h
      obtain ⟨f, fs', rfl, h1, h2⟩ := m
      obtain ⟨g1, g2⟩ := entT_sound hrs hone hN ha (fun p hp => hv p (List.mem_append_left _ hp))
      exact ⟨f, fs', rfl, ⟨g1.trans h1.1, fun i => g2 i _ (h1.2 i)⟩, ih hb (fun p hp => hv p (List.mem_append_right _ hp)) h2⟩
theorem ent_sound {M : IdMap} {st inv : St} {v : List Prop} (h : entOk M st inv = some v) (hv : conj v) : Ent st inv := by
  intro E G a w hs
  obtain ⟨t, rs, c, stk⟩ := st
  obtain ⟨t', rs', c', stk'⟩ := inv
  simp only [entOk] at h
  split at h
  · cases h
  · rename_i v1 h1'
    obtain ⟨va, vk, h1, hk, rfl⟩ := app2_spec h1'
    split at h
    · cases h
    · rename_i v2 ids h2
      cases hc : (nodupN ids && (idsLe c' (idsK stk') && (idsLe c' (idsS t') && idsLe c' (idsR rs')))) with
      | false => rw [hc] at h; cases h
      | true =>
        rw [hc] at h
        simp only [cond_true, Option.some.injEq] at h
        subst h
        simp only [Bool.and_eq_true] at hc
        have hall := conj_all hv
        have hs' : SatF E (getT t) t.length (look rs) stk (fun id => id.r ≤ c) G a w := hs
        obtain ⟨mp, hmp, hR⟩ := entRs_sound (M := M) hs'.rs hs'.one h2 (fun p hp => hall p (List.mem_append_right _ hp)) (nodupN_iff.1 hc.1)
        let ρ' : Id → Value := fun i => match mapOf M i with
          | some (some j) => G.ρ j
          | some none => .slice none 0 0
          | none => .bool false
        let g' : Nat → Lab := fun b => match G.g b with
          | .own j q => match mp j with
            | some (i, pos) => .own i (pos ++ q)
            | none => .no
          | l => l
        have hN : Named M G ⟨ρ', g'⟩ w := by
          refine ⟨⟨fun b h => ⟨by simp [g', h], rfl⟩, fun b h => ⟨by simp [g', h], rfl⟩⟩, fun i j h => ?_, fun i h => ?_⟩
          · unfold isMap at h
            split at h
            · rename_i k hk
              have := Id.eq_of_beq h
              subst this
              simp only [ρ']
              rw [hk]
            · cases h
          · unfold isNil at h
            split at h
            · rename_i hk
              simp only [ρ']
              rw [hk]
            · cases h
        have hC : Carries G ⟨ρ', g'⟩ mp := fun b j q i pos hg hp => by simp [g', hg, hp]
        obtain ⟨hl, ht⟩ := entT_sound hs'.rs hs'.one hN h1 (fun p hp => hall p (List.mem_append_left _ (List.mem_append_left _ hp)))
        refine ⟨⟨ρ', g'⟩, ?_⟩
        show SatF E (getT t') t'.length (look rs') stk' (fun id => id.r ≤ c') ⟨ρ', g'⟩ a w
        refine ⟨⟨hl.trans hs'.tms.1, fun i => ht i _ (hs'.tms.2 i)⟩, fun i R hi => hR _ hN hC i R (look_mem hi), entK_sound hs'.rs hs'.one hN hk (fun p hp => hall p (List.mem_append_left _ (List.mem_append_right _ hp))) hs'.st, fun b hb => hs'.bnd b fun h => hb (by simp [g', h]), hs'.df, fun i => ?_, fun i id hid => idsLe_spec hc.2.2.1 id (mem_idsS_getT hid),
          fun i R hi => ⟨idsLe_spec hc.2.2.2 i (mem_idsR (look_mem hi)).1, fun j hj => idsLe_spec hc.2.2.2 j ((mem_idsR (look_mem hi)).2 j hj)⟩, idsLe_spec hc.2.1, hs'.os, hs'.tape, hs'.output, hs'.size, fun b hb => ?_⟩
        · simp only [ρ']
          split
          · exact hs'.one _
          · rfl
          · rfl
        · obtain ⟨p1, p2, p3, p4⟩ := hs'.prot b hb
          refine ⟨p1, p2, ?_, p4⟩
          show g' b = _
          cases hg : G.g b with
          | own j q => rw [hg] at p3; exact absurd p3.symm (p4 j q)
          | _ => simp only [g']; rw [hg, ← p3, hg]
theorem ent_ok {st inv : St} {v : List Prop} (h : ent st inv = some v) (hv : conj v) : Ent st inv := by
  unfold ent at h
  obtain ⟨M, h1⟩ := forceM_ex (addNew (prT inv.tmps st.tmps ++ prK inv.stk st.stk) []) fun M => growM inv.res st.res 3 M fun M => entOk M st inv
  obtain ⟨M2, h2⟩ := growM_ex inv.res st.res 3 M fun M => entOk M st inv
  rw [h1, h2] at h
  exact ent_sound h hv
end Go.Sx
