/- Several texts, one behind the other. -/
import Derived.Test.YtkjdeihmefhkpaaGreatDoorSxQtoSxV
set_option linter.all false
namespace Go.Sx
open Go Go.RowKit
abbrev IdMap := List (Id × Option Id)
def mapOf : IdMap → Id → Option (Option Id)
 | [], _ => none
 | (i, j) :: r, k => bif i.beq k then some j else mapOf r k
def isMap (M : IdMap) (i j : Id) : Bool := match mapOf M i with
 | some (some k) => k.beq j
 | _ => false
def isNil (M : IdMap) (i : Id) : Bool := match mapOf M i with
 | some none => true
 | _ => false
def entA (M : IdMap) (lk : Id → Option Res) : List At → List At → Option (List Prop)
 | [], l => match l with
  | [] => some []
  | _ => none
 | .d T F x :: r, l => match (pack T F l).exec lk with
  | some (⟨y, l', [], []⟩, _) => bif T.noO F then (match entA M lk r l' with | some v => some ((y = x) :: v) | none => none) else none
  | _ => none
 | .kb b :: r, l => match l with
  | .kb b' :: l => bif eqB b b' then entA M lk r l else none
  | _ => none
 | .nils :: r, l => match l with
  | .nils :: l => entA M lk r l
  | _ => none
 | .own i :: r, l => match l with
  | .own j :: l => bif isMap M i j then entA M lk r l else none
  | .nils :: l => bif isNil M i then entA M lk r l else none
  | _ => none
 | .ptr i o :: r, l => match l with
  | .ptr j o' :: l => bif isMap M i j && Nat.beq o' o then entA M lk r l else none
  | _ => none
 | .opt i k sz off T :: r, l => match l with
  | .opt j k' sz' off' _ :: l => bif isMap M i j && (Nat.beq sz' sz && Nat.beq off' off) then (match entA M lk r l with | some v => some ((k' = k) :: v) | none => none) else none
  | _ => none
 | .rpt o T F x :: r, l => match l with
  | .rpt o' T' F' x' :: l => bif Ty.beq T' T && (T.noO F && flR Fo.le T F' F && Fo.le o' o) then (match entA M lk r l with | some v => some ((tcast T' T x' = x) :: v) | none => none) else none
  | _ => none
 | .nilp :: r, l => match l with
  | .nilp :: l => entA M lk r l
  | .chp j k :: l => (match lk j with
   | some (.ch _ _ x) => (match entA M lk r l with | some v => some ((k = x.length) :: v) | none => none)
   | _ => none)
  | _ => none
 | .junk :: r, l => match l with
  | a :: l => bif Nat.beq a.size 1 then entA M lk r l else none
  | _ => none
 | .anyb _ :: _, _ => none
 | .sub _ _ _ _ _ :: _, _ => none
 | .chp i k :: r, l => match l with
  | .chp j k' :: l => bif isMap M i j then (match entA M lk r l with | some v => some ((k' = k) :: v) | none => none) else none
  | .nilp :: l => bif isNil M i then (match entA M lk r l with | some v => some ((0 = k) :: v) | none => none) else none
  | _ => none
 | .lnk i0 off i k sz :: r, l => match l with
  | .ptr j0 off' :: l => bif isMap M i0 j0 && Nat.beq off' off then (match entA M lk r l with | some v => some ((0 = k) :: v) | none => none) else none
  | .chf j k' off' :: l => bif isMap M i j && Nat.beq off' sz then (match entA M lk r l with | some v => some ((k' + 1 = k) :: v) | none => none) else none
  | .lnk j0 off' j k' sz' :: l => bif isMap M i0 j0 && isMap M i j && (Nat.beq off' off && Nat.beq sz' sz) then (match entA M lk r l with | some v => some ((k' = k) :: v) | none => none) else none
  | _ => none
 | .chf _ _ _ :: _, _ => none
 | .vp _ _ _ _ _ :: _, _ => none
 | .vsl _ _ _ _ :: _, _ => none
def app2 (a b : Option (List Prop)) : Option (List Prop) := match a with
 | none => none
 | some x => match b with
  | none => none
  | some y => some (x ++ y)
def entC (M : IdMap) (lk : Id → Option Res) : List At → List At → Option (List Prop)
 | [], [] => some []
 | a :: r, b :: l => app2 (entA M lk [a] [b]) (entC M lk r l)
 | _, _ => none
def entV (M : IdMap) (lk : Id → Option Res) : SV → SV → Option (List Prop)
 | .junk, _ => some []
 | .v ag l, .v ag' l' => bif eqB ag ag' then entA M lk l l' else none
 | .fn f c, .fn f' c' => bif Nat.beq f f' then entC M lk c c' else none
 | .tup [], .tup [] => some []
 | _, _ => none
def entT (M : IdMap) (lk : Id → Option Res) : List SV → List SV → Option (List Prop)
 | [], [] => some []
 | x :: xs, y :: ys => app2 (entV M lk x y) (entT M lk xs ys)
 | _, _ => none
def entE (M : IdMap) (lk : Id → Option Res) : List (List At) → List (List At) → Option (List Prop)
 | [], [] => some []
 | x :: xs, y :: ys => app2 (entA M lk x y) (entE M lk xs ys)
 | _, _ => none
def entR (M : IdMap) (lk : Id → Option Res) (i : Id) (R : Res) : Option (List Prop × List Id) :=
 match R with
 | .sl e f x => match mapOf M i with
  | some none => some ([(([] : List e.den) = x)], [])
  | some (some j) => match (pack (.sl e) (.sl .w f) [.own j]).exec lk with
   | some (⟨y, [], ids, []⟩, _) => some ([(y : List e.den) = x], ids)
   | _ => none
  | none => none
 | .var cs => match mapOf M i with
  | some (some j) => match lk j with
   | some (.var cs') => match entA M lk cs cs' with
    | some v => some (v, [j])
    | none => none
   | _ => none
  | _ => none
 | .els sz css => match mapOf M i with
  | some (some j) => match lk j with
   | some (.els sz' css') => bif Nat.beq sz' sz then (match entE M lk css css' with
    | some v => some (v, [j])
    | none => none) else none
   | _ => none
  | _ => none
 | .slo e f x k cs => match mapOf M i with
  | some (some j) => match lk j with
   | some (.slo e' f' x' k' cs') => bif Ty.beq e' e && flR Fo.le e f' f then (match entA M lk cs cs' with
    | some v => some ((k' = k) :: ((tcast (.sl e') (.sl e) x' : List e.den) = x) :: v, [j])
    | none => none) else none
   | _ => none
  | _ => none
 | .mp ak av K V F x => match mapOf M i with
  | some (some j) => match lk j with
   | some (.mp ak' av' K' V' F' x') => bif eqB ak ak' && eqB av av' && (Ty.beq K' K && Ty.beq V' V && flR Fo.le V F' F && V.noO F) then some ([tcast (.sl (.pr K' V')) (.sl (.pr K V)) x' = x], [j]) else none
   | _ => none
  | _ => none
 | .room _ _ => none
 | .ch o e x => match mapOf M i with
  | some none => some ([(([] : List e.den) = x)], [])
  | some (some j) => match lk j with
   | some (.ch o' e' x') => bif Ty.beq e' e && eqB o' o then some ([(tcast (.sl e') (.sl e) x' : List e.den) = x], bif o then [j] else []) else none
   | _ => none
  | none => none
 | .lvar cs => match mapOf M i with
  | some (some j) => match lk j with
   | some (.lvar cs') => match entA M lk cs cs' with
    | some v => some (v, [])
    | none => none
   | _ => none
  | _ => none
 | .pre _ _ => none
 | .bys _ => none
def entRs (M : IdMap) (lk : Id → Option Res) : List (Id × Res) → Option (List Prop × List Id)
 | [] => some ([], [])
 | (i, R) :: r => match entR M lk i R with
  | none => none
  | some (v, ids) => match entRs M lk r with
   | none => none
   | some (v', ids') => some (v ++ v', ids ++ ids')
def idsLe (n : Nat) : List Id → Bool
 | [] => true
 | ⟨r, _, _⟩ :: l => Nat.ble r n && idsLe n l
def firsts (l : List (Id × Res)) : List Id := l.map (·.1)
def entK (M : IdMap) (lk : Id → Option Res) : List (List SV) → List (List SV) → Option (List Prop)
 | [], [] => some []
 | x :: xs, y :: ys => app2 (entT M lk x y) (entK M lk xs ys)
 | _, _ => none
def entOk (M : IdMap) (st inv : St) : Option (List Prop) :=
 match st, inv with
 | ⟨t, rs, _, k⟩, ⟨t', rs', c', k'⟩ => match app2 (entT M (look rs) t' t) (entK M (look rs) k' k) with
  | none => none
  | some v => match entRs M (look rs) rs' with
   | none => none
   | some (v', ids) => bif nodupN ids && (idsLe c' (idsK k') && (idsLe c' (idsS t') && idsLe c' (idsR rs'))) then some (v ++ v') else none
def dropSz : List At → Nat → List At
 | [], _ => []
 | l, 0 => l
 | a :: l, n + 1 => dropSz l (n + 1 - a.size)
def prA : List At → List At → IdMap
 | .own i :: r, .own j :: l => (i, some j) :: prA r l
 | .own i :: r, .nils :: l => (i, none) :: prA r l
 | .ptr i _ :: r, .ptr j _ :: l => (i, some j) :: prA r l
 | .opt i _ _ _ _ :: r, .opt j _ _ _ _ :: l => (i, some j) :: prA r l
 | .chp i _ :: r, .chp j _ :: l => (i, some j) :: prA r l
 | .chp i _ :: r, .nilp :: l => (i, none) :: prA r l
 | .lnk i0 _ _ _ _ :: r, .ptr j0 _ :: l => (i0, some j0) :: prA r l
 | .lnk i0 _ i _ _ :: r, .lnk j0 _ j _ _ :: l => (i0, some j0) :: (i, some j) :: prA r l
 | .lnk _ _ i _ _ :: r, .chf j _ _ :: l => (i, some j) :: prA r l
 | a :: r, l => prA r (dropSz l a.size)
 | [], _ => []
def prV : SV → SV → IdMap
 | .v _ l, .v _ l' => prA l l'
 | .fn _ l, .fn _ l' => prA l l'
 | _, _ => []
def prT : List SV → List SV → IdMap
 | x :: xs, y :: ys => prV x y ++ prT xs ys
 | _, _ => []
def prE : List (List At) → List (List At) → IdMap
 | x :: xs, y :: ys => prA x y ++ prE xs ys
 | _, _ => []
def prR (rs' rs : List (Id × Res)) : IdMap → IdMap
 | [] => []
 | (i, some j) :: M => (match look rs' i, look rs j with
  | some (.var l), some (.var l') => prA l l'
  | some (.lvar l), some (.lvar l') => prA l l'
  | some (.els _ l), some (.els _ l') => prE l l'
  | some (.slo _ _ _ _ l), some (.slo _ _ _ _ l') => prA l l'
  | _, _ => []) ++ prR rs' rs M
 | (_, none) :: M => prR rs' rs M
def addNew : IdMap → IdMap → IdMap
 | [], M => M
 | (i, j) :: r, M => match mapOf M i with
  | some _ => addNew r M
  | none => addNew r (M ++ [(i, j)])
def forceM {α : Type} : IdMap → (IdMap → α) → α
 | [], k => k []
 | (⟨a, b, c⟩, j) :: r, k => match j with
  | none => forceM r fun r' => k ((⟨a, b, c⟩, none) :: r')
  | some ⟨x, y, z⟩ => forceM r fun r' => k ((⟨a, b, c⟩, some ⟨x, y, z⟩) :: r')
def growM {α : Type} (rs' rs : List (Id × Res)) : Nat → IdMap → (IdMap → α) → α
 | 0, M, k => k M
 | n + 1, M, k => forceM (addNew (prR rs' rs M) M) fun M' => growM rs' rs n M' k
def prK : List (List SV) → List (List SV) → IdMap
 | x :: xs, y :: ys => prT x y ++ prK xs ys
 | _, _ => []
def ent (st inv : St) : Option (List Prop) := forceM (addNew (prT inv.tmps st.tmps ++ prK inv.stk st.stk) []) fun M => growM inv.res st.res 3 M fun M => entOk M st inv
theorem forceM_ex {α : Type} : ∀ (M : IdMap) (k : IdMap → α), ∃ M', forceM M k = k M' := by
 intro M
 induction M with
 | nil => intro k; exact ⟨[], rfl⟩
 | cons p r ih =>
  intro k
  obtain ⟨⟨a, b, c⟩, j⟩ := p
  cases j with
  | none => obtain ⟨M', h⟩ := ih fun r' => k ((⟨a, b, c⟩, none) :: r'); exact ⟨_, h⟩
  | some j => obtain ⟨x, y, z⟩ := j; obtain ⟨M', h⟩ := ih fun r' => k ((⟨a, b, c⟩, some ⟨x, y, z⟩) :: r'); exact ⟨_, h⟩
theorem growM_ex {α : Type} (rs' rs : List (Id × Res)) : ∀ (n : Nat) (M : IdMap) (k : IdMap → α), ∃ M', growM rs' rs n M k = k M' := by
 intro n
 induction n with
 | zero => intro M k; exact ⟨M, rfl⟩
 | succ n ih =>
  intro M k
  obtain ⟨M', h⟩ := forceM_ex (addNew (prR rs' rs M) M) fun M' => growM rs' rs n M' k
  obtain ⟨M2, h2⟩ := ih M' k
  exact ⟨M2, h.trans h2⟩
section
variable {G G' : Gh} {w : World} {lk : Id → Option Res} {M : IdMap}
structure Named (M : IdMap) (G G' : Gh) (w : World) : Prop where
 pb : KeepPB G G' w w
 map : ∀ i j, isMap M i j = true → G'.ρ i = G.ρ j
 nil : ∀ i, isNil M i = true → G'.ρ i = .slice none 0 0
theorem entA_sound (hrs : ∀ id R, lk id = some R → ResOk G w id R) (hone : RhoOk G) (hN : Named M G G' w) : ∀ {l l' : List At} {cs : List Value} {v : List Prop}, entA M lk l l' = some v → (∀ p ∈ v, p) → MtL G w l' cs → MtL G' w l cs := by
 intro l
 induction l with
 | nil =>
  intro l' cs v h _ m
  cases l' with
  | nil => exact m
  | cons _ _ => simp [entA] at h
 | cons a r ih =>
  intro l' cs v h hv m
  cases a with
  | d T F x =>
   simp only [entA] at h
   split at h
   ·rename_i y l2 t hp
    cases hO : T.noO F with
    | false => rw [hO] at h; cases h
    | true =>
     rw [hO] at h
     simp only [cond_true] at h
     split at h
     ·rename_i v' hv'
      cases h
      obtain ⟨c1, c2, rfl, hc1, hc2, hpk⟩ := pack_sound hrs _ _ _ _ _ _ _ _ _ m hp
      obtain ⟨mm, hmm, htr⟩ := hpk List.nodup_nil
      have hyx := hv _ List.mem_cons_self
      subst hyx
      exact ⟨c1, c2, rfl, ⟨hO, htr G' w default [] ⟨hN.pb, fun b i q pos _ hp => absurd ((hmm i).1 (by rw [hp]; simp)) (by simp), fun b i q _ hi => absurd hi (by simp)⟩⟩, ih hv' (fun p hp => hv p (List.mem_cons_of_mem _ hp)) hc2⟩
     ·cases h
   ·cases h
  | kb b =>
   simp only [entA] at h
   split at h
   ·rename_i b' l2
    cases he : eqB b b' with
    | false => rw [he] at h; cases h
    | true =>
     rw [he] at h
     have := eqB_eq he
     subst this
     obtain ⟨c1, c2, rfl, h1, h2⟩ := m
     exact ⟨c1, c2, rfl, h1, ih h hv h2⟩
   ·cases h
  | nils =>
   simp only [entA] at h
   split at h
   ·obtain ⟨c1, c2, rfl, h1, h2⟩ := m
    exact ⟨c1, c2, rfl, h1, ih h hv h2⟩
   ·cases h
  | own i =>
   simp only [entA] at h
   split at h
   ·rename_i j l2
    cases he : isMap M i j with
    | false => rw [he] at h; cases h
    | true =>
     rw [he] at h
     obtain ⟨c1, c2, rfl, h1, h2⟩ := m
     exact ⟨c1, c2, rfl, by show c1 = [G'.ρ i]; rw [hN.map i j he]; exact h1, ih h hv h2⟩
   ·rename_i l2
    cases he : isNil M i with
    | false => rw [he] at h; cases h
    | true =>
     rw [he] at h
     obtain ⟨c1, c2, rfl, h1, h2⟩ := m
     exact ⟨c1, c2, rfl, by show c1 = [G'.ρ i]; rw [hN.nil i he]; exact h1, ih h hv h2⟩
   ·cases h
  | ptr i o =>
   simp only [entA] at h
   split at h
   ·rename_i j o' l2
    cases he : (isMap M i j && Nat.beq o' o) with
    | false => rw [he] at h; cases h
    | true =>
     rw [he] at h
     simp only [Bool.and_eq_true] at he
     have := Nat.eq_of_beq_eq_true he.2
     subst this
     obtain ⟨c1, c2, rfl, ⟨b, h1, h1'⟩, h2⟩ := m
     exact ⟨c1, c2, rfl, ⟨b, by rw [hN.map i j he.1]; exact h1, h1'⟩, ih h hv h2⟩
   ·cases h
  | opt i k sz off T =>
   simp only [entA] at h
   split at h
   ·rename_i j k' sz' off' T' l2
    cases he : (isMap M i j && (Nat.beq sz' sz && Nat.beq off' off)) with
    | false => rw [he] at h; cases h
    | true =>
     rw [he] at h
     simp only [cond_true] at h
     simp only [Bool.and_eq_true] at he
     split at h
     ·rename_i v' hv'
      cases h
      have e1 := Nat.eq_of_beq_eq_true he.2.1
      have e2 := Nat.eq_of_beq_eq_true he.2.2
      have e3 : k' = k := hv _ List.mem_cons_self
      subst e1; subst e2; subst e3
      obtain ⟨c1, c2, rfl, ⟨b, o, n, c, h1, h1'⟩, h2⟩ := m
      exact ⟨c1, c2, rfl, ⟨b, o, n, c, by rw [hN.map i j he.1]; exact h1, h1'⟩, ih hv' (fun p hp => hv p (List.mem_cons_of_mem _ hp)) h2⟩
     ·cases h
   ·cases h
  | rpt o T F x =>
   simp only [entA] at h
   split at h
   ·rename_i o' T' F' x' l2
    cases he : (Ty.beq T' T && (T.noO F && flR Fo.le T F' F && Fo.le o' o)) with
    | false => rw [he] at h; cases h
    | true =>
     rw [he] at h
     simp only [cond_true] at h
     simp only [Bool.and_eq_true] at he
     split at h
     ·rename_i v' hv'
      cases h
      have hT := Ty.eq_of_beq he.1
      subst hT
      have hxx := hv _ List.mem_cons_self
      rw [tcast_self] at hxx
      subst hxx
      obtain ⟨c1, c2, rfl, ⟨h0, ho, b, off, C, t', fz, g1, g2, g3, g4, g5⟩, h2⟩ := m
      have hl := labOk_keep hN.pb (id' := default) (p' := []) ho g2
      refine ⟨c1, c2, rfl, ⟨he.2.1.1, ?_, b, off, C, t', fz, g1, ?_, g3, g4, Tr.le he.2.1.2 (g5.keep hN.pb h0)⟩, ih hv' (fun p hp => hv p (List.mem_cons_of_mem _ hp)) h2⟩
      ·have := he.2.2
       cases o <;> cases o' <;> first | rfl | (cases this; done) | (cases ho; done)
      ·have := he.2.2
       cases o <;> cases o' <;> first | exact hl.1 | exact .inl hl.1 | (cases this; done) | (cases ho; done)
     ·cases h
   ·cases h
  | nilp =>
   simp only [entA] at h
   split at h
   ·obtain ⟨c1, c2, rfl, h1, h2⟩ := m
    exact ⟨c1, c2, rfl, h1, ih h hv h2⟩
   ·rename_i j k l2
    split at h
    ·rename_i oc e x hlk
     split at h
     ·rename_i v' hv'
      cases h
      have hk : k = x.length := hv _ List.mem_cons_self
      obtain ⟨c1, c2, rfl, ⟨ps, A, a1, a2, a3⟩, h2⟩ := m
      obtain ⟨ps', q1, q2, _⟩ := hrs j _ hlk
      rw [a1] at q1
      cases q1
      rw [hk, q2] at a2
      simp only [Option.some.injEq, Value.pointer.injEq] at a2
      exact ⟨c1, c2, rfl, by show c1 = _; rw [a3, ← a2], ih hv' (fun p hp => hv p (List.mem_cons_of_mem _ hp)) h2⟩
     ·cases h
    ·cases h
   ·cases h
  | chp i k =>
   simp only [entA] at h
   split at h
   ·rename_i j k' l2
    cases he : isMap M i j with
    | false => rw [he] at h; cases h
    | true =>
     rw [he] at h
     simp only [cond_true] at h
     split at h
     ·rename_i v' hv'
      cases h
      have hk : k' = k := hv _ List.mem_cons_self
      subst hk
      obtain ⟨c1, c2, rfl, ⟨ps, A, a1, a2⟩, h2⟩ := m
      exact ⟨c1, c2, rfl, ⟨ps, A, by rw [hN.map i j he]; exact a1, a2⟩, ih hv' (fun p hp => hv p (List.mem_cons_of_mem _ hp)) h2⟩
     ·cases h
   ·rename_i l2
    cases he : isNil M i with
    | false => rw [he] at h; cases h
    | true =>
     rw [he] at h
     simp only [cond_true] at h
     split at h
     ·rename_i v' hv'
      cases h
      have hk : 0 = k := hv _ List.mem_cons_self
      subst hk
      obtain ⟨c1, c2, rfl, h1, h2⟩ := m
      exact ⟨c1, c2, rfl, ⟨[.pointer none], none, by rw [hN.nil i he]; rfl, rfl, h1⟩, ih hv' (fun p hp => hv p (List.mem_cons_of_mem _ hp)) h2⟩
     ·cases h
   ·cases h
  | lnk i0 off i k sz =>
   simp only [entA] at h
   split at h
   ·rename_i j0 off' l2
    cases he : (isMap M i0 j0 && Nat.beq off' off) with
    | false => rw [he] at h; cases h
    | true =>
     rw [he] at h
     simp only [cond_true] at h
     simp only [Bool.and_eq_true] at he
     have e1 := Nat.eq_of_beq_eq_true he.2
     subst e1
     split at h
     ·rename_i v' hv'
      cases h
      have hk : 0 = k := hv _ List.mem_cons_self
      obtain ⟨c1, c2, rfl, ⟨b, a1, a2⟩, h2⟩ := m
      exact ⟨c1, c2, rfl, .inl ⟨hk.symm, b, by rw [hN.map i0 j0 he.1]; exact a1, a2⟩, ih hv' (fun p hp => hv p (List.mem_cons_of_mem _ hp)) h2⟩
     ·cases h
   ·rename_i j k' off' l2
    cases he : (isMap M i j && Nat.beq off' sz) with
    | false => rw [he] at h; cases h
    | true =>
     rw [he] at h
     simp only [cond_true] at h
     simp only [Bool.and_eq_true] at he
     have e1 := Nat.eq_of_beq_eq_true he.2
     subst e1
     split at h
     ·rename_i v' hv'
      cases h
      have hk : k' + 1 = k := hv _ List.mem_cons_self
      obtain ⟨c1, c2, rfl, ⟨ps, b, a1, a2, a3⟩, h2⟩ := m
      exact ⟨c1, c2, rfl, .inr ⟨k', ps, b, hk.symm, by rw [hN.map i j he.1]; exact a1, a2, a3⟩, ih hv' (fun p hp => hv p (List.mem_cons_of_mem _ hp)) h2⟩
     ·cases h
   ·rename_i j0 off' j k' sz' l2
    cases he : (isMap M i0 j0 && isMap M i j && (Nat.beq off' off && Nat.beq sz' sz)) with
    | false => rw [he] at h; cases h
    | true =>
     rw [he] at h
     simp only [cond_true] at h
     simp only [Bool.and_eq_true] at he
     have e1 := Nat.eq_of_beq_eq_true he.2.1
     have e2 := Nat.eq_of_beq_eq_true he.2.2
     subst e1
     subst e2
     split at h
     ·rename_i v' hv'
      cases h
      have hk : k' = k := hv _ List.mem_cons_self
      subst hk
      obtain ⟨c1, c2, rfl, a, h2⟩ := m
      refine ⟨c1, c2, rfl, ?_, ih hv' (fun p hp => hv p (List.mem_cons_of_mem _ hp)) h2⟩
      rcases a with ⟨a1, b, a2, a3⟩ | ⟨q, ps, b, a1, a2, a3⟩
      ·exact .inl ⟨a1, b, by rw [hN.map i0 j0 he.1.1]; exact a2, a3⟩
      ·exact .inr ⟨q, ps, b, a1, by rw [hN.map i j he.1.2]; exact a2, a3⟩
     ·cases h
   ·cases h
  | chf _ _ _ => simp [entA] at h
  | vp _ _ _ _ _ => simp [entA] at h
  | vsl _ _ _ _ => simp [entA] at h
  | junk =>
   simp only [entA] at h
   split at h
   ·rename_i a l2
    cases he : Nat.beq a.size 1 with
    | false => rw [he] at h; cases h
    | true =>
     rw [he] at h
     obtain ⟨c1, c2, rfl, h1, h2⟩ := m
     have hl := h1.len
     rw [Nat.eq_of_beq_eq_true he] at hl
     match c1, hl with
     | [u], _ => exact ⟨[u], c2, rfl, ⟨u, h1.one hone u (by simp), rfl⟩, ih h hv h2⟩
   ·cases h
  | anyb _ => simp [entA] at h
  | sub _ _ _ _ _ => simp [entA] at h
theorem MtL.app_inv : ∀ {l m : List At} {cs : List Value}, MtL G w (l ++ m) cs → ∃ c d, cs = c ++ d ∧ MtL G w l c ∧ MtL G w m d := by
 intro l
 induction l with
 | nil => intro m cs h; exact ⟨[], cs, rfl, rfl, h⟩
 | cons a r ih =>
  intro m cs h
  obtain ⟨c1, c2, rfl, h1, h2⟩ := h
  obtain ⟨c, d, rfl, h3, h4⟩ := ih h2
  exact ⟨c1 ++ c, d, by rw [List.append_assoc], ⟨c1, c, rfl, h1, h3⟩, h4⟩
theorem atomsOf_le (hk : KeepPB G G' w w) : ∀ {T : Ty} {F F' : Fl} {x : T.den} {cs : List Value}, flR Fo.le T F' F = true → T.noO F = true → MtL G w (atomsOf T F' x) cs → MtL G' w (atomsOf T F x) cs := by
 intro T
 induction T with
 | pr a b iha ihb =>
  intro F F' x cs h h0 m
  simp only [flR, Bool.and_eq_true] at h
  simp only [Ty.noO, Bool.and_eq_true] at h0
  obtain ⟨c, d, rfl, h1, h2⟩ := MtL.app_inv m
  exact (iha h.1 h0.1 h1).append (ihb h.2 h0.2 h2)
 | sl e ih => intro F F' x cs h h0 m; have m := m.one_inv; exact .one ⟨h0, Tr.le h (m.2.keep hk m.1)⟩
 | pt => intro F F' x cs h h0 m; have m := m.one_inv; exact .one m
 | er => intro F F' x cs h h0 m; have m := m.one_inv; exact .one ⟨rfl, ErC.keep hk m.2⟩
 | arr n e ih => intro F F' x cs h h0 m; have m := m.one_inv; exact .one ⟨m.1, m.2.keep hk m.1⟩
 | _ => intro F F' x cs h h0 m; have m := m.one_inv; exact .one ⟨m.1, m.2.keep hk m.1⟩
theorem MtV.le (hk : KeepPB G G' w w) {ag : Bool} {T : Ty} {F F' : Fl} {x : T.den} {v : Value} (h : flR Fo.le T F' F = true) (h0 : T.noO F = true) (m : MtV G w ag (atomsOf T F' x) v) : MtV G' w ag (atomsOf T F x) v := by
 cases ag with
 | true => obtain ⟨cs, h1, h2⟩ := m; exact ⟨cs, h1, atomsOf_le hk h h0 h2⟩
 | false => exact ⟨m.1, atomsOf_le hk h h0 m.2⟩
theorem MpOk.le (hk : KeepPB G G' w w) {ak av : Bool} {K V : Ty} {F F' : Fl} (h : flR Fo.le V F' F = true) (h0 : V.noO F = true) : ∀ {l : List (K.den × V.den)} {es : List MapEntry}, MpOk G w ak av K V F' l es → MpOk G' w ak av K V F l es := by
 intro l
 induction l with
 | nil => intro es m; exact m
 | cons p l ih =>
  intro es m
  obtain ⟨e, es', h1, h2, h3, h4⟩ := m
  exact ⟨e, es', h1, h2.le hk (flR_le_refl _ _) (noO_p K), h3.le hk h h0, ih h4⟩
theorem app2_spec {a b : Option (List Prop)} {v : List Prop} (h : app2 a b = some v) : ∃ x y, a = some x ∧ b = some y ∧ v = x ++ y := by
 unfold app2 at h
 split at h
 ·cases h
 ·split at h
  ·cases h
  ·cases h; exact ⟨_, _, rfl, rfl, rfl⟩
theorem entC_sound (hrs : ∀ id R, lk id = some R → ResOk G w id R) (hone : RhoOk G) (hN : Named M G G' w) : ∀ {l l' : List At} {vs : List Value} {v : List Prop}, entC M lk l l' = some v → (∀ p ∈ v, p) → MtC G w l' vs → MtC G' w l vs := by
 intro l
 induction l with
 | nil => intro l' vs v h _ m; cases l' with
  | nil => exact m
  | cons _ _ => simp [entC] at h
 | cons a r ih =>
  intro l' vs v h hv m
  cases l' with
  | nil => simp [entC] at h
  | cons b r' =>
   obtain ⟨x, y, hx, hy, rfl⟩ := app2_spec h
   obtain ⟨u, us, rfl, h1, h2, h3⟩ := m
   exact ⟨u, us, rfl, h1, (entA_sound hrs hone hN hx (fun p hp => hv p (List.mem_append_left _ hp)) (.one h2)).one_inv, ih hy (fun p hp => hv p (List.mem_append_right _ hp)) h3⟩
theorem entV_sound (hrs : ∀ id R, lk id = some R → ResOk G w id R) (hone : RhoOk G) (hN : Named M G G' w) {x y : SV} {u : Value} {v : List Prop} (h : entV M lk x y = some v) (hv : ∀ p ∈ v, p) (m : MtS G w y u) : MtS G' w x u := by
 unfold entV at h
 split at h
 ·trivial
 ·rename_i ag l ag' l'
  cases he : eqB ag ag' with
  | false => rw [he] at h; cases h
  | true =>
   rw [he] at h
   have := eqB_eq he
   subst this
   cases ag with
   | true => obtain ⟨cs, h1, h2⟩ := m; exact ⟨cs, h1, entA_sound hrs hone hN h hv h2⟩
   | false => exact ⟨m.1, entA_sound hrs hone hN h hv m.2⟩
 ·rename_i f c f' c'
  cases he : Nat.beq f f' with
  | false => rw [he] at h; cases h
  | true =>
   rw [he] at h
   have := Nat.eq_of_beq_eq_true he
   subst this
   obtain ⟨vs, h1, h2⟩ := m
   exact ⟨vs, h1, entC_sound hrs hone hN h hv h2⟩
 ·exact m
 ·cases h
theorem entT_sound (hrs : ∀ id R, lk id = some R → ResOk G w id R) (hone : RhoOk G) (hN : Named M G G' w) : ∀ {t' t : List SV} {v : List Prop}, entT M lk t' t = some v → (∀ p ∈ v, p) → t'.length = t.length ∧ ∀ (i : Nat) (u : Value), MtS G w (getT t i) u → MtS G' w (getT t' i) u := by
 intro t'
 induction t' with
 | nil => intro t v h _; cases t with
  | nil => exact ⟨rfl, fun _ _ _ => trivial⟩
  | cons _ _ => simp [entT] at h
 | cons x xs ih =>
  intro t v h hv
  cases t with
  | nil => simp [entT] at h
  | cons y ys =>
   obtain ⟨a, b, ha, hb, rfl⟩ := app2_spec h
   obtain ⟨h1, h2⟩ := ih hb (fun p hp => hv p (List.mem_append_right _ hp))
   refine ⟨by simp [h1], fun i u m => ?_⟩
   cases i with
   | zero => exact entV_sound hrs hone hN ha (fun p hp => hv p (List.mem_append_left _ hp)) m
   | succ i => exact h2 i u m
theorem entE_sound (hrs : ∀ id R, lk id = some R → ResOk G w id R) (hone : RhoOk G) (hN : Named M G G' w) {sz : Nat} {C : Array Value} : ∀ {l l' : List (List At)} {off : Nat} {v : List Prop}, entE M lk l l' = some v → (∀ p ∈ v, p) → MtEls G w sz C off l' → l.length = l'.length ∧ MtEls G' w sz C off l := by
 intro l
 induction l with
 | nil => intro l' off v h _ _; cases l' with
  | nil => exact ⟨rfl, trivial⟩
  | cons _ _ => simp [entE] at h
 | cons x xs ih =>
  intro l' off v h hv m
  cases l' with
  | nil => simp [entE] at h
  | cons y ys =>
   obtain ⟨a, b, ha, hb, rfl⟩ := app2_spec h
   obtain ⟨h1, h2⟩ := ih hb (fun p hp => hv p (List.mem_append_right _ hp)) m.2
   exact ⟨by simp [h1], entA_sound hrs hone hN ha (fun p hp => hv p (List.mem_append_left _ hp)) m.1, h2⟩
theorem entE_len {l l' : List (List At)} : ∀ {v : List Prop}, entE M lk l l' = some v → l.length = l'.length := by
 induction l generalizing l' with
 | nil => intro v h; cases l' with
  | nil => rfl
  | cons _ _ => simp [entE] at h
 | cons x xs ih =>
  intro v h
  cases l' with
  | nil => simp [entE] at h
  | cons y ys => obtain ⟨a, b, ha, hb, rfl⟩ := app2_spec h; simp [ih hb]
def Carries (G G' : Gh) (mp : Id → Option (Id × List Nat)) : Prop := ∀ b j q i pos, G.g b = .own j q → mp j = some (i, pos) → G'.g b = .own i (pos ++ q)
theorem entR_sound (hrs : ∀ id R, lk id = some R → ResOk G w id R) (hone : RhoOk G) {i : Id} {R : Res} {v : List Prop} {ids : List Id} (h : entR M lk i R = some (v, ids)) (hv : ∀ p ∈ v, p) (hnd : ids.Nodup) :
  ∃ mp : Id → Option (Id × List Nat), (∀ j, mp j ≠ none ↔ j ∈ ids) ∧ ∀ G', Named M G G' w → Carries G G' mp → ResOk G' w i R := by
 cases R with
 | sl e f x =>
  simp only [entR] at h
  split at h
  ·rename_i hm
   cases h
   have hx : ([] : List e.den) = x := hv _ List.mem_cons_self
   subst hx
   exact ⟨fun _ => none, by simp, fun G' hN _ => ⟨none, 0, 0, by rw [hN.nil i (by simp [isNil, hm])], rfl, Nat.le_refl _, Nat.zero_le _, (fun h => by cases h), .inl ⟨fun _ => rfl, rfl⟩⟩⟩
  ·rename_i j hm
   split at h
   ·rename_i y ids' t hp
    cases h
    have hx : y = x := hv _ List.mem_cons_self
    subst hx
    obtain ⟨c1, c2, hcs, hc1, hc2, hpk⟩ := pack_sound hrs (.sl e) (.sl .w f) [.own j] [G.ρ j] _ _ _ _ _ ⟨[G.ρ j], [], rfl, rfl, rfl⟩ hp
    rw [show c2 = [] from hc2, List.append_nil] at hcs
    obtain ⟨mm, hmm, htr⟩ := hpk hnd
    refine ⟨fun k => (mm k).map fun pos => (i, pos), fun k => by rw [← hmm k]; simp, fun G' hN hC => ?_⟩
    have := htr G' w i [] ⟨hN.pb, fun b j' q pos hg hp => ⟨by simpa using hC b j' q i pos hg (by simp [hp]), rfl⟩, fun b j' q _ hi => absurd hi (by simp)⟩
    show Tr G' w (.sl e) (.sl .w f) i [] [G'.ρ i] y
    rw [hN.map i j (by simp [isMap, hm, Id.beq_self]), hcs]
    exact this
   ·cases h
  ·cases h
 | var cs =>
  simp only [entR] at h
  split at h
  ·rename_i j hm
   split at h
   ·rename_i cs' hlk
    split at h
    ·rename_i v' hv'
     cases h
     refine ⟨fun k => if k = j then some (i, []) else none, fun k => by simp, fun G' hN hC => ?_⟩
     obtain ⟨b, C, t, h1, h2, h3, h4⟩ := hrs j _ hlk
     exact ⟨b, C, t, by rw [hN.map i j (by simp [isMap, hm, Id.beq_self])]; exact h1, hC b j [] i [] h2 (by simp), h3, entA_sound hrs hone hN hv' hv h4⟩
    ·cases h
   ·cases h
  ·cases h
 | els sz css =>
  simp only [entR] at h
  split at h
  ·rename_i j hm
   split at h
   ·rename_i sz' css' hlk
    cases hz : Nat.beq sz' sz with
    | false => rw [hz] at h; cases h
    | true =>
     rw [hz] at h
     have := Nat.eq_of_beq_eq_true hz
     subst this
     simp only [cond_true] at h
     split at h
     ·rename_i v' hv'
      cases h
      refine ⟨fun k => if k = j then some (i, []) else none, fun k => by simp, fun G' hN hC => ?_⟩
      obtain ⟨A, n, c, h1, h2, h3, h4, h5⟩ := hrs j _ hlk
      have hlen := entE_len hv'
      refine ⟨A, n, c, by rw [hN.map i j (by simp [isMap, hm, Id.beq_self])]; exact h1, by rw [hlen]; exact h2, h3, h4, ?_⟩
      rcases h5 with h5 | ⟨b, off, C, t, g1, g2, g3, g4, g5⟩
      ·exact .inl h5
      ·exact .inr ⟨b, off, C, t, g1, hC b j [] i [] g2 (by simp), g3, g4, (entE_sound hrs hone hN hv' hv g5).2⟩
     ·cases h
   ·cases h
  ·cases h
 | slo e f x k cs =>
  simp only [entR] at h
  split at h
  ·rename_i j hm
   split at h
   ·rename_i e' f' x' k' cs' hlk
    cases hE : Ty.beq e' e && flR Fo.le e f' f with
    | false => rw [hE] at h; cases h
    | true =>
     rw [hE] at h
     simp only [Bool.and_eq_true] at hE
     have := Ty.eq_of_beq hE.1
     subst this
     simp only [cond_true, tcast_self] at h
     split at h
     ·rename_i v' hv'
      cases h
      have hk : k' = k := hv _ List.mem_cons_self
      have hxx : x' = x := hv _ (List.mem_cons_of_mem _ List.mem_cons_self)
      subst hk
      subst hxx
      refine ⟨fun q => if q = j then some (i, []) else none, fun q => by simp, fun G' hN hC => ?_⟩
      obtain ⟨b, off, C, t, n, c, h1, h2, h3, h4, h5, h6, h7, h8, h9, h10⟩ := hrs j _ hlk
      exact ⟨b, off, C, t, n, c, by rw [hN.map i j (by simp [isMap, hm, Id.beq_self])]; exact h1, h2, h3, h4, h5, hC b j [] i [] h6 (by simp), h7, h8,
       fun q y hq hy => Tr.mono hN.pb (fun b' r hr => ⟨by simpa using hC b' j _ i [] hr (by simp), rfl⟩) (Tr.le hE.2 (h9 q y hq hy)), entA_sound hrs hone hN hv' (fun p hp => hv p (List.mem_cons_of_mem _ (List.mem_cons_of_mem _ hp))) h10⟩
     ·cases h
   ·cases h
  ·cases h
 | mp ak av K V F x =>
  simp only [entR] at h
  split at h
  ·rename_i j hm
   split at h
   ·rename_i ak' av' K' V' F' x' hlk
    cases hE : eqB ak ak' && eqB av av' && (Ty.beq K' K && Ty.beq V' V && flR Fo.le V F' F && V.noO F) with
    | false => rw [hE] at h; cases h
    | true =>
     rw [hE] at h
     simp only [Bool.and_eq_true] at hE
     obtain ⟨⟨e1, e2⟩, ⟨⟨e3, e4⟩, e5⟩, e6⟩ := hE
     have e1 := eqB_eq e1
     have e2 := eqB_eq e2
     have e3 := Ty.eq_of_beq e3
     have e4 := Ty.eq_of_beq e4
     subst e1 e2 e3 e4
     cases h
     have hxx := hv _ List.mem_cons_self
     rw [tcast_self] at hxx
     subst hxx
     refine ⟨fun q => if q = j then some (i, []) else none, fun q => by simp, fun G' hN hC => ?_⟩
     obtain ⟨h0, r, es, clk, h1, h2, h3, h4⟩ := hrs j _ hlk
     exact ⟨e6, r, es, clk, by rw [hN.map i j (by simp [isMap, hm, Id.beq_self])]; exact h1, hC r j [] i [] h2 (by simp), h3, h4.le hN.pb e5 e6⟩
   ·cases h
  ·cases h
 | room i' k => cases h
 | ch o e x =>
  simp only [entR] at h
  split at h
  ·rename_i hm
   cases h
   have hx : ([] : List e.den) = x := hv _ List.mem_cons_self
   subst hx
   exact ⟨fun _ => none, by simp, fun G' hN _ => ⟨[.pointer none], by rw [hN.nil i (by simp [isNil, hm])]; rfl, rfl, fun k y hy => by simp at hy⟩⟩
  ·rename_i j hm
   split at h
   ·rename_i o' e' x' hlk
    cases hE : (Ty.beq e' e && eqB o' o) with
    | false => rw [hE] at h; cases h
    | true =>
     rw [hE] at h
     simp only [Bool.and_eq_true] at hE
     have := Ty.eq_of_beq hE.1
     subst this
     have := eqB_eq hE.2
     subst this
     simp only [cond_true, Option.some.injEq, Prod.mk.injEq] at h
     obtain ⟨rfl, rfl⟩ := h
     have hxx := hv _ List.mem_cons_self
     rw [tcast_self] at hxx
     subst hxx
     obtain ⟨ps, h1, h2, h3⟩ := hrs j _ hlk
     cases o' with
     | true =>
      refine ⟨fun q => if q = j then some (i, []) else none, fun q => by simp, fun G' hN hC => ?_⟩
      refine ⟨ps, by rw [hN.map i j (by simp [isMap, hm, Id.beq_self])]; exact h1, h2, fun k y hy => ?_⟩
      obtain ⟨b, C, t, cs, nx, g1, g2, g3, g4, g5, g6⟩ := h3 k y hy
      have hl : G'.g b = .own i [k] := by simpa using hC b j [k] i [] g3 (by simp)
      exact ⟨b, C, t, cs, nx, g1, g2, hl, g4, g5, g6.keep hN.pb (noO_p _)⟩
     | false =>
      refine ⟨fun _ => none, by simp, fun G' hN _ => ?_⟩
      refine ⟨ps, by rw [hN.map i j (by simp [isMap, hm, Id.beq_self])]; exact h1, h2, fun k y hy => ?_⟩
      obtain ⟨b, C, t, cs, nx, g1, g2, g3, g4, g5, g6⟩ := h3 k y hy
      exact ⟨b, C, t, cs, nx, g1, g2, (hN.pb.bor b g3).1, g4, g5, g6.keep hN.pb (noO_p _)⟩
   ·cases h
  ·cases h
 | lvar cs =>
  simp only [entR] at h
  split at h
  ·rename_i j hm
   split at h
   ·rename_i cs' hlk
    split at h
    ·rename_i v' hv'
     cases h
     refine ⟨fun _ => none, by simp, fun G' hN _ => ?_⟩
     obtain ⟨b, C, t, h1, h2, h3, h4⟩ := hrs j _ hlk
     exact ⟨b, C, t, by rw [hN.map i j (by simp [isMap, hm, Id.beq_self])]; exact h1, (hN.pb.bor b h2).1, h3, entA_sound hrs hone hN hv' hv h4⟩
    ·cases h
   ·cases h
  ·cases h
 | pre i' n => cases h
 | bys l => cases h
theorem entRs_sound (hrs : ∀ id R, lk id = some R → ResOk G w id R) (hone : RhoOk G) : ∀ {l : List (Id × Res)} {v : List Prop} {ids : List Id}, entRs M lk l = some (v, ids) → (∀ p ∈ v, p) → ids.Nodup →
  ∃ mp : Id → Option (Id × List Nat), (∀ j, mp j ≠ none ↔ j ∈ ids) ∧ ∀ G', Named M G G' w → Carries G G' mp → ∀ i R, (i, R) ∈ l → ResOk G' w i R := by
 intro l
 induction l with
 | nil =>
  intro v ids h _ _
  simp only [entRs, Option.some.injEq, Prod.mk.injEq] at h
  obtain ⟨rfl, rfl⟩ := h
  exact ⟨fun _ => none, by simp, fun _ _ _ i R hi => by cases hi⟩
 | cons p r ih =>
  intro v ids h hv hnd
  obtain ⟨i, R⟩ := p
  simp only [entRs] at h
  split at h
  ·cases h
  ·rename_i v1 ids1 h1
   split at h
   ·cases h
   ·rename_i v2 ids2 h2
    cases h
    rw [List.nodup_append] at hnd
    obtain ⟨m1, k1, k2⟩ := entR_sound hrs hone h1 (fun p hp => hv p (List.mem_append_left _ hp)) hnd.1
    obtain ⟨m2, k3, k4⟩ := ih h2 (fun p hp => hv p (List.mem_append_right _ hp)) hnd.2.1
    refine ⟨mpU m1 m2, mpU_iff k1 k3, fun G' hN hC i' R' hi => ?_⟩
    cases hi with
    | head => exact k2 G' hN fun b j q i pos hg hp => hC b j q i pos hg (mpU_l hp)
    | tail _ hi => exact k4 G' hN (fun b j q i pos hg hp => hC b j q i pos hg (mpU_r hp (not_mem_none k1 fun h => hnd.2.2 j h j ((k3 j).1 (by rw [hp]; simp)) rfl))) i' R' hi
end
theorem look_mem {rs : List (Id × Res)} {i : Id} {R : Res} (h : look rs i = some R) : (i, R) ∈ rs := by
 induction rs with
 | nil => cases h
 | cons p r ih =>
  obtain ⟨j, S⟩ := p
  simp only [look] at h
  cases hb : j.beq i with
  | true => rw [hb] at h; cases h; rw [Id.eq_of_beq hb]; exact List.mem_cons_self
  | false => rw [hb] at h; exact List.mem_cons_of_mem _ (ih h)
theorem idsLe_spec {n : Nat} {l : List Id} (h : idsLe n l = true) : ∀ i ∈ l, i.r ≤ n := by
 induction l with
 | nil => intro i hi; cases hi
 | cons x xs ih =>
  obtain ⟨r, s, c⟩ := x
  simp only [idsLe, Bool.and_eq_true] at h
  intro i hi
  cases hi with
  | head => exact Nat.le_of_ble_eq_true h.1
  | tail _ hi => exact ih h.2 i hi
theorem mem_idsR {rs : List (Id × Res)} {i : Id} {R : Res} (h : (i, R) ∈ rs) : i ∈ idsR rs ∧ ∀ j ∈ R.ids, j ∈ idsR rs := by
 induction rs with
 | nil => cases h
 | cons p r ih =>
  obtain ⟨j, S⟩ := p
  cases h with
  | head => exact ⟨by simp [idsR], fun j hj => by simp [idsR, hj]⟩
  | tail _ h => exact ⟨by simp [idsR, (ih h).1], fun j hj => by simp [idsR, (ih h).2 j hj]⟩
theorem entK_sound {G G' : Gh} {w : World} {lk : Id → Option Res} {M : IdMap} (hrs : ∀ id R, lk id = some R → ResOk G w id R) (hone : RhoOk G) (hN : Named M G G' w) : ∀ {k' k : List (List SV)} {fs : List (Array Value)} {v : List Prop}, entK M lk k' k = some v → (∀ p ∈ v, p) → MtK G w k fs → MtK G' w k' fs := by
 intro k'
 induction k' with
 | nil => intro k fs v h _ m; cases k with
  | nil => exact m
  | cons _ _ => simp [entK] at h
 | cons x xs ih =>
  intro k fs v h hv m
  cases k with
  | nil => simp [entK] at h
  | cons y ys =>
   obtain ⟨a, b, ha, hb, rfl⟩ := app2_spec h
   obtain ⟨f, fs', rfl, h1, h2⟩ := m
   obtain ⟨g1, g2⟩ := entT_sound hrs hone hN ha (fun p hp => hv p (List.mem_append_left _ hp))
   exact ⟨f, fs', rfl, ⟨g1.trans h1.1, fun i => g2 i _ (h1.2 i)⟩, ih hb (fun p hp => hv p (List.mem_append_right _ hp)) h2⟩
theorem lv_map {G G' : Gh} {w : World} {V : Vw} (h : ∀ b, G.g b = .out → G'.g b = .out) (hV : Lv G w V) : Lv G' w V := fun b hb ho => hV b hb fun e => ho (h b e)
theorem ent_sound {M : IdMap} {st inv : St} {v : List Prop} (h : entOk M st inv = some v) (hv : conj v) : Ent st inv := by
 intro E G V a w hV hs
 obtain ⟨t, rs, c, stk⟩ := st
 obtain ⟨t', rs', c', stk'⟩ := inv
 simp only [entOk] at h
 split at h
 ·cases h
 ·rename_i v1 h1'
  obtain ⟨va, vk, h1, hk, rfl⟩ := app2_spec h1'
  split at h
  ·cases h
  ·rename_i v2 ids h2
   cases hc : (nodupN ids && (idsLe c' (idsK stk') && (idsLe c' (idsS t') && idsLe c' (idsR rs')))) with
   | false => rw [hc] at h; cases h
   | true =>
    rw [hc] at h
    simp only [cond_true, Option.some.injEq] at h
    subst h
    simp only [Bool.and_eq_true] at hc
    have hall := conj_all hv
    have hs' : SatF E (getT t) t.length (look rs) stk (fun id => id.r ≤ c) G a w := hs
    obtain ⟨mp, hmp, hR⟩ := entRs_sound (M := M) hs'.rs hs'.one h2 (fun p hp => hall p (List.mem_append_right _ hp)) (nodupN_iff.1 hc.1)
    let ρ' : Id → Value := fun i => match mapOf M i with
     | some (some j) => G.ρ j
     | some none => .slice none 0 0
     | none => .bool false
    let g' : Nat → Lab := fun b => match G.g b with
     | .own j q => match mp j with
      | some (i, pos) => .own i (pos ++ q)
      | none => .no
     | l => l
    have hN : Named M G ⟨ρ', g'⟩ w := by
     refine ⟨⟨fun b h => ⟨by simp [g', h], rfl⟩, fun b h => ⟨by simp [g', h], rfl⟩⟩, fun i j h => ?_, fun i h => ?_⟩
     ·unfold isMap at h
      split at h
      ·rename_i k hk
       have := Id.eq_of_beq h
       subst this
       simp only [ρ']
       rw [hk]
      ·cases h
     ·unfold isNil at h
      split at h
      ·rename_i hk
       simp only [ρ']
       rw [hk]
      ·cases h
    have hC : Carries G ⟨ρ', g'⟩ mp := fun b j q i pos hg hp => by simp [g', hg, hp]
    obtain ⟨hl, ht⟩ := entT_sound hs'.rs hs'.one hN h1 (fun p hp => hall p (List.mem_append_left _ (List.mem_append_left _ hp)))
    refine ⟨⟨ρ', g'⟩, lv_map (fun b h => by simp [g', h]) hV, ?_⟩
    show SatF E (getT t') t'.length (look rs') stk' (fun id => id.r ≤ c') ⟨ρ', g'⟩ a w
    refine ⟨⟨hl.trans hs'.tms.1, fun i => ht i _ (hs'.tms.2 i)⟩, fun i R hi => hR _ hN hC i R (look_mem hi), entK_sound hs'.rs hs'.one hN hk (fun p hp => hall p (List.mem_append_left _ (List.mem_append_right _ hp))) hs'.st, fun b hb => hs'.bnd b fun h => hb (by simp [g', h]), hs'.df, fun i => ?_, fun i id hid => idsLe_spec hc.2.2.1 id (mem_idsS_getT hid),
     fun i R hi => ⟨idsLe_spec hc.2.2.2 i (mem_idsR (look_mem hi)).1, fun j hj => idsLe_spec hc.2.2.2 j ((mem_idsR (look_mem hi)).2 j hj)⟩, idsLe_spec hc.2.1, hs'.os, hs'.tape, hs'.output, hs'.size, fun b hb => ?_, fun b hlt hb => by simp [g', hs'.outs b hlt hb]⟩
    ·simp only [ρ']
     split
     ·exact hs'.one _
     ·rfl
     ·rfl
    ·obtain ⟨p1, p2, p3, p4⟩ := hs'.prot b hb
     refine ⟨p1, p2, ?_, p4⟩
     show g' b = _
     cases hg : G.g b with
     | own j q => rw [hg] at p3; exact absurd p3.symm (p4.2 j q)
     | _ => simp only [g']; rw [hg, ← p3, hg]
theorem ent_ok {st inv : St} {v : List Prop} (h : ent st inv = some v) (hv : conj v) : Ent st inv := by
 unfold ent at h
 obtain ⟨M, h1⟩ := forceM_ex (addNew (prT inv.tmps st.tmps ++ prK inv.stk st.stk) []) fun M => growM inv.res st.res 3 M fun M => entOk M st inv
 obtain ⟨M2, h2⟩ := growM_ex inv.res st.res 3 M fun M => entOk M st inv
 rw [h1, h2] at h
 exact ent_sound h hv
end Go.Sx

namespace Go.Sx
open Go Go.RowKit
def entryR (n : Id) (T : Ty) (F : Fl) (x : T.den) : At × List (Id × Option Res) := match openOf T F x (n.plus 1) with
 | (l, us) => (.ptr n 0, (n, some (.var l)) :: us)
def entryC (k : Nat) : (l : List (Bool × Ty × Fl)) → Nat → dens l → List At × List (Id × Option Res)
 | [], _, _ => ([], [])
 | (true, T, F) :: r, c, x => match entryR ⟨0, k, 64 * (c + 1)⟩ T F x.1 with
  | (a, us) => match entryC k r (c + 1) x.2 with
   | (as, us') => (a :: as, us ++ us')
 | (false, T, F) :: r, c, x => match entryC k r (c + 1) x.2 with
   | (as, us') => (.rpt .b T F x.1 :: as, us')
def entry1 (k : Nat) : (m : Mode) → m.den → SV × List (Id × Option Res)
 | .val ag T F, x => (.v ag (atomsOf T F x), [])
 | .own ag T F, x => match openOf T F x ⟨0, k, 0⟩ with | (l, us) => (.v ag l, us)
 | .rp T F, x => (.v false [.rpt .b T F x], [])
 | .ref T F, x => match entryR ⟨0, k, 0⟩ T F x with | (a, us) => (.v false [a], us)
 | .clo f l, x => match entryC k l 0 x with | (as, us) => (.fn f as, us)
 | .mu ag e f, x => match openOf (.sl e) (.sl .w f) x ⟨0, k, 0⟩ with | (l, us) => (.v ag l, us)
def entryS : (k : Nat) → (ms : List Mode) → mdens ms → List SV × List (Id × Option Res)
 | _, [], _ => ([], [])
 | k, m :: ms, x => match entry1 k m x.1 with
  | (s, us) => match entryS (k + 1) ms x.2 with
   | (ss, us') => (s :: ss, us ++ us')
def capFit : List (Bool × Ty × Fl) → Bool
 | [] => true
 | (b, T, _) :: r => (!b || Nat.ble T.size 62) && capFit r
def modeFit : Mode → Bool
 | .clo _ l => capFit l
 | _ => true
def modesFit : List Mode → Bool
 | [] => true
 | m :: ms => modeFit m && modesFit ms
def rlR (n : Id) (T : Ty) (F : Fl) (i : Id) (q : List Nat) : Option (Id × List Nat) :=
 if i = n then (if q = [] then some (n, []) else none) else if i = n.plus 1 then relab T F (n.plus 1) q else none
def rlC (k : Nat) : List (Bool × Ty × Fl) → Nat → Id → List Nat → Option (Id × List Nat)
 | [], _, _, _ => none
 | (true, T, F) :: r, c, i, q => if 64 * (c + 1) ≤ i.c ∧ i.c < 64 * (c + 1) + 64 then rlR ⟨0, k, 64 * (c + 1)⟩ T F i q else rlC k r (c + 1) i q
 | (false, _, _) :: r, c, i, q => rlC k r (c + 1) i q
def rl1 (k : Nat) : Mode → Id → List Nat → Option (Id × List Nat)
 | .own _ T F, i, q => if i = ⟨0, k, 0⟩ then relab T F ⟨0, k, 0⟩ q else none
 | .ref T F, i, q => rlR ⟨0, k, 0⟩ T F i q
 | .clo _ l, i, q => rlC k l 0 i q
 | .mu _ e f, i, q => if i = ⟨0, k, 0⟩ then relab (.sl e) (.sl .w f) ⟨0, k, 0⟩ q else none
 | _, _, _ => none
def rlM : List Mode → Nat → Id → List Nat → Option (Id × List Nat)
 | [], _, _, _ => none
 | m :: ms, k, i, q => if i.s = k then rl1 k m i q else rlM ms (k + 1) i q
section
variable {G : Gh} {w : World}
theorem openOf_idsL : ∀ {T : Ty} {F : Fl} {x : T.den} {n j : Id}, j ∈ idsL (openOf T F x n).1 → ∃ k, j = n.plus k := by
 intro T
 induction T with
 | pr a b iha ihb =>
  intro F x n j h
  simp only [openOf] at h
  rw [idsL_append, List.mem_append] at h
  rcases h with h | h
  ·exact iha h
  ·obtain ⟨k, rfl⟩ := ihb h; exact ⟨_, Id.plus_plus n _ _⟩
 | sl e ih =>
  intro F x n j h
  simp only [openOf] at h
  split at h
  ·simp [idsL, At.ids] at h; exact ⟨0, h⟩
  ·simp [idsL, At.ids] at h
 | _ => intro F x n j h; simp [openOf, idsL, At.ids] at h
theorem openOf_resI : ∀ {T : Ty} {F : Fl} {x : T.den} {n j : Id} {R : Res}, (j, some R) ∈ (openOf T F x n).2 → R.ids = [] := by
 intro T
 induction T with
 | pr a b iha ihb =>
  intro F x n j R h
  simp only [openOf, List.mem_append] at h
  rcases h with h | h
  ·exact iha h
  ·exact ihb h
 | sl e ih =>
  intro F x n j R h
  simp only [openOf] at h
  split at h
  ·simp only [List.mem_singleton, Prod.mk.injEq, Option.some.injEq] at h; rw [h.2]; rfl
  ·cases h
 | _ => intro F x n j R h; cases h
theorem ValOk.mtV {G' : Gh} {ag : Bool} {T : Ty} {F : Fl} {id : Id} {x : T.den} {v : Value} {cs : List Value} {l : List At} (h : ValOk G w ag T F id x v cs) (hl : MtL G' w l cs) : MtV G' w ag l v := by
 obtain ⟨rfl, hone, htr⟩ := h
 cases ag with
 | true => exact ⟨cs, rfl, hl⟩
 | false =>
  have h1 := hone rfl
  match cs, h1 with
  | [u], _ => exact ⟨htr.one u (by simp), hl⟩
structure Opened (G : Gh) (w : World) (P : Id → Prop) (rl : Id → List Nat → Option (Id × List Nat)) (ids : List Id) (us : List (Id × Option Res)) (Q : Gh → Prop) : Prop where
 ex : ∃ ρk : Id → Value, (∀ i, (ρk i).oneCell' = true) ∧ ∀ G', KeepPB G G' w w → (∀ b j q i r, P j → G.g b = .own j q → rl j q = some (i, r) → G'.g b = .own i r) → (∀ j, P j → G'.ρ j = ρk j) → Q G' ∧ ∀ i R, (i, some R) ∈ us → ResOk G' w i R
 ids : ∀ j ∈ ids, j.r = 0
 us : ∀ i R, (i, some R) ∈ us → i.r = 0 ∧ ∀ j ∈ R.ids, j.r = 0
theorem Opened.of {P : Id → Prop} {rl : Id → List Nat → Option (Id × List Nat)} {Q : Gh → Prop} (h : ∀ G', KeepPB G G' w w → Q G') : Opened G w P rl [] [] Q :=
 ⟨⟨fun _ => .bool false, fun _ => rfl, fun G' hk _ _ => ⟨h G' hk, fun i R hi => (by cases hi)⟩⟩, fun j hj => (by cases hj), fun i R hi => (by cases hi)⟩
theorem Opened.mono {P : Id → Prop} {rl : Id → List Nat → Option (Id × List Nat)} {ids : List Id} {us : List (Id × Option Res)} {Q Q' : Gh → Prop} (h : Opened G w P rl ids us Q) (k : ∀ G', Q G' → Q' G') : Opened G w P rl ids us Q' :=
 ⟨h.ex.imp fun _ h => ⟨h.1, fun G' a b c => ⟨k G' (h.2 G' a b c).1, (h.2 G' a b c).2⟩⟩, h.ids, h.us⟩
theorem Opened.weak {P P' : Id → Prop} {rl rl' : Id → List Nat → Option (Id × List Nat)} {ids ids' : List Id} {us : List (Id × Option Res)} {Q : Gh → Prop} (h : Opened G w P rl ids us Q) (hP : ∀ j, P j → P' j) (hrl : ∀ j q y, P j → rl j q = some y → rl' j q = some y) (hi : ∀ j ∈ ids', j ∈ ids) : Opened G w P' rl' ids' us Q :=
 ⟨h.ex.imp fun _ h => ⟨h.1, fun G' a b c => h.2 G' a (fun b' j q i r hp hg hr => b b' j q i r (hP j hp) hg (hrl j q _ hp hr)) fun j hj => c j (hP j hj)⟩, fun j hj => h.ids j (hi j hj), h.us⟩
theorem Opened.app {P P' : Id → Prop} {rl : Id → List Nat → Option (Id × List Nat)} {ids ids' : List Id} {us us' : List (Id × Option Res)} {Q Q' : Gh → Prop} (h : Opened G w P rl ids us Q) (h' : Opened G w P' rl ids' us' Q') (hd : ∀ j, P j → P' j → False) : Opened G w (fun j => P j ∨ P' j) rl (ids ++ ids') (us ++ us') fun G' => Q G' ∧ Q' G' := by
 classical
 obtain ⟨⟨ρ1, a1, a2⟩, a3, a4⟩ := h
 obtain ⟨⟨ρ2, b1, b2⟩, b3, b4⟩ := h'
 refine ⟨⟨fun j => if P j then ρ1 j else ρ2 j, fun j => by simp only; split <;> first | exact a1 j | exact b1 j, fun G' hk hg hρ => ?_⟩, fun j hj => (List.mem_append.1 hj).elim (a3 j) (b3 j), fun i R hi => (List.mem_append.1 hi).elim (a4 i R) (b4 i R)⟩
 obtain ⟨c1, c2⟩ := a2 G' hk (fun b j q i r hp => hg b j q i r (.inl hp)) (fun j hj => by rw [hρ j (.inl hj)]; simp [hj])
 obtain ⟨d1, d2⟩ := b2 G' hk (fun b j q i r hp => hg b j q i r (.inr hp)) (fun j hj => by rw [hρ j (.inr hj)]; show (if P j then ρ1 j else ρ2 j) = ρ2 j; rw [if_neg (fun h => hd j h hj)])
 exact ⟨⟨c1, d1⟩, fun i R hi => (List.mem_append.1 hi).elim (c2 i R) (d2 i R)⟩
theorem opened_own {T : Ty} {F : Fl} {x : T.den} {n : Id} {cs : List Value} (hn : n.r = 0) {rl : Id → List Nat → Option (Id × List Nat)} (hrl : ∀ q y, relab T F n q = some y → rl n q = some y) (h : Tr G w T F n [] cs x) :
  Opened G w (fun j => ∃ m, j = n.plus m ∧ m < max 1 T.size) rl (idsL (openOf T F x n).1) (openOf T F x n).2 fun G' => MtL G' w (openOf T F x n).1 cs := by
 classical
 refine ⟨⟨fun j => if hj : ∃ m, j = n.plus m then cs.getD hj.choose (.bool false) else .bool false, fun j => ?_, fun G' hk hg hρ => ?_⟩, fun j hj => ?_, fun i R hi => ?_⟩
 ·simp only
  split
  ·rename_i hj
   rw [List.getD_eq_getElem?_getD]
   cases hc : cs[hj.choose]? with
   | none => rfl
   | some u => exact h.one u (List.mem_of_getElem? hc)
  ·rfl
 ·exact open_sound hk T F n [] cs x n h (fun b q i r h1 h2 => ⟨hg b n _ i r ⟨0, by cases n; rfl, by omega⟩ h1 (hrl _ _ h2), rfl⟩) (fun c u hu => by
   have hex : ∃ m, n.plus c = n.plus m := ⟨c, rfl⟩
   rw [hρ (n.plus c) ⟨c, rfl, by have := (List.getElem?_eq_some_iff.1 hu).1; rw [h.len] at this; omega⟩]
   simp only
   rw [dif_pos hex]
   have h2 := congrArg Id.c hex.choose_spec
   have hc : ∀ m, (n.plus m).c = n.c + m := fun m => by cases n; rfl
   rw [hc, hc] at h2
   rw [← Nat.add_left_cancel h2, List.getD_eq_getElem?_getD, hu]
   rfl)
 ·obtain ⟨c, rfl⟩ := openOf_idsL hj; cases n; exact hn
 ·obtain ⟨c, rfl⟩ := openOf_ids hi
  exact ⟨by cases n; exact hn, fun j hj => by rw [openOf_resI hi] at hj; cases hj⟩
theorem opened_ref {T : Ty} {F : Fl} {x : T.den} {n : Id} {v : Value} (hn : n.r = 0) (h : RefOk G w n T F x v) :
  Opened G w (fun j => ∃ m, j = n.plus m ∧ m < T.size + 2) (rlR n T F) (entryR n T F x).1.ids (entryR n T F x).2 fun G' => MtA G' w (entryR n T F x).1 [v] ∧ v.oneCell' = true := by
 obtain ⟨b, C, t, rfl, hg0, hh, htr⟩ := h
 have hp1 : ∀ m, n.plus (1 + m) = (n.plus 1).plus m := fun m => (Id.plus_plus n 1 m).symm
 have hne : n.plus 1 ≠ n := fun e => by have := congrArg Id.c e; cases n; simp [Id.plus] at this
 obtain ⟨⟨ρ1, a1, a2⟩, a3, a4⟩ := opened_own (rl := rlR n T F) (by cases n; exact hn : (n.plus 1).r = 0) (fun q y hy => by unfold rlR; rw [if_neg hne, if_pos rfl]; exact hy) htr
 have h0 : n.plus 0 = n := by cases n; rfl
 refine ⟨⟨fun j => if j = n then .pointer (some ⟨b, 0, none⟩) else ρ1 j, fun j => by simp only; split <;> first | rfl | exact a1 j, fun G' hk hg hρ => ?_⟩, fun j hj => ?_, fun i R hi => ?_⟩
 ·obtain ⟨g1, g2⟩ := a2 G' hk (fun b j q i r ⟨m, hm, hlt⟩ => hg b j q i r ⟨1 + m, by rw [hm, hp1], by omega⟩) (fun j ⟨m, hm, hlt⟩ => by
   rw [hρ j ⟨1 + m, by rw [hm, hp1], by omega⟩]
   simp only
   rw [if_neg]
   rw [hm]
   intro e
   have := congrArg Id.c e
   cases n
   simp [Id.plus] at this
   omega)
  have hpn := hρ n ⟨0, h0.symm, by omega⟩
  simp only [if_pos] at hpn
  refine ⟨⟨⟨b, hpn, rfl⟩, rfl⟩, fun i R hi => ?_⟩
  simp only [entryR, List.mem_cons] at hi
  rcases hi with hi | hi
  ·simp only [Prod.mk.injEq, Option.some.injEq] at hi
   obtain ⟨rfl, rfl⟩ := hi
   exact ⟨b, C, t, hpn, hg b i [] i [] ⟨0, h0.symm, by omega⟩ hg0 (by simp [rlR]), hh, g1⟩
  ·exact g2 i R hi
 ·simp [entryR, At.ids] at hj; rw [hj]; exact hn
 ·simp only [entryR, List.mem_cons] at hi
  rcases hi with hi | hi
  ·simp only [Prod.mk.injEq, Option.some.injEq] at hi
   obtain ⟨rfl, rfl⟩ := hi
   exact ⟨hn, fun j hj => a3 j hj⟩
  ·exact a4 i R hi
theorem opened_caps {k : Nat} : ∀ {l : List (Bool × Ty × Fl)} {c : Nat} {x : dens l} {vs : List Value}, capFit l = true → CapsOk G w k l c x vs →
  Opened G w (fun j => j.r = 0 ∧ j.s = k ∧ 64 * (c + 1) ≤ j.c) (rlC k l c) (idsL (entryC k l c x).1) (entryC k l c x).2 fun G' => MtC G' w (entryC k l c x).1 vs := by
 intro l
 induction l with
 | nil => intro c x vs _ h; exact Opened.of fun _ _ => h
 | cons p r ih =>
  intro c x vs hf h
  obtain ⟨b, T, F⟩ := p
  simp only [capFit, Bool.and_eq_true] at hf
  obtain ⟨v, vs', rfl, h1, h2⟩ := h
  have hr := ih hf.2 h2
  cases b with
  | false =>
   have h1' : MtA G w (.rpt .b T F x.1) [v] := h1
   refine (((hr.weak (P' := fun j => j.r = 0 ∧ j.s = k ∧ 64 * (c + 1) ≤ j.c) (rl' := rlC k ((false, T, F) :: r) c) (ids' := idsL (entryC k ((false, T, F) :: r) c x).1) (fun j hj => ⟨hj.1, hj.2.1, by omega⟩) (fun j q y _ hy => hy) (fun j hj => hj))).mono fun G' h => h) |> fun (o : Opened G w _ _ _ _ _) => ?_
   refine ⟨o.ex.imp fun ρ h => ⟨h.1, fun G' hk hg hρ => ⟨?_, (h.2 G' hk hg hρ).2⟩⟩, o.ids, o.us⟩
   have h1'' := MtA.keepR (old := fun _ => False) hk (fun _ h => h.elim) (by simp [At.ids]) h1'
   obtain ⟨_, _, b, off, C, t, fz, hv, _⟩ := h1'
   simp only [List.cons.injEq, and_true] at hv
   exact ⟨v, vs', rfl, by rw [hv]; rfl, h1'', (h.2 G' hk hg hρ).1⟩
  | true =>
   have hsz : T.size ≤ 62 := Nat.le_of_ble_eq_true (by simpa using hf.1)
   have h1' : RefOk G w ⟨0, k, 64 * (c + 1)⟩ T F x.1 v := h1
   have o1 := (opened_ref rfl h1').weak (P' := fun j => ∃ m, j = (⟨0, k, 64 * (c + 1)⟩ : Id).plus m ∧ m < T.size + 2) (rl' := rlC k ((true, T, F) :: r) c) (ids' := (entryR ⟨0, k, 64 * (c + 1)⟩ T F x.1).1.ids) (fun _ h => h) (fun j q y ⟨m, hm, hlt⟩ hy => by
    subst hm
    have hc : ((⟨0, k, 64 * (c + 1)⟩ : Id).plus m).c = 64 * (c + 1) + m := rfl
    unfold rlC
    rw [if_pos ⟨by rw [hc]; omega, by rw [hc]; omega⟩]
    exact hy) (fun _ h => h)
   have o2 := hr.weak (P' := fun j => j.r = 0 ∧ j.s = k ∧ 64 * (c + 1 + 1) ≤ j.c) (rl' := rlC k ((true, T, F) :: r) c) (ids' := idsL (entryC k r (c + 1) x.2).1) (fun _ h => h) (fun j q y hj hy => by
    simp only [rlC]
    rw [if_neg (by omega)]
    exact hy) (fun _ h => h)
   have o := o1.app o2 (fun j ⟨m, hm, hlt⟩ hj => by subst hm; simp [Id.plus] at hj; omega)
   refine (o.weak (P' := fun j => j.r = 0 ∧ j.s = k ∧ 64 * (c + 1) ≤ j.c) (fun j hj => ?_) (fun _ _ _ _ h => h) (fun j hj => hj)).mono fun G' h => ⟨v, vs', rfl, h.1.2, h.1.1, h.2⟩
   rcases hj with ⟨m, rfl, hlt⟩ | hj
   ·exact ⟨rfl, rfl, by simp [Id.plus]⟩
   ·exact ⟨hj.1, hj.2.1, by omega⟩
theorem opened_1 {k : Nat} {m : Mode} {x : m.den} {v : Value} (hf : modeFit m = true) (h : ArgOk G w k m x v) : Opened G w (fun j => j.r = 0 ∧ j.s = k) (rl1 k m) (entry1 k m x).1.ids (entry1 k m x).2 fun G' => MtS G' w (entry1 k m x).1 v := by
 cases m with
 | val ag T F =>
  obtain ⟨hO, cs, hv⟩ := h
  refine (Opened.of (Q := fun G' => MtS G' w (entry1 k (.val ag T F) x).1 v) fun G' hk => hv.mtV (atomsOf_sound T F default [] cs x hO (hv.2.2.keep hk hO))).weak (fun _ h => h) (fun _ _ _ _ h => h) fun j hj => ?_
  rw [show (entry1 k (.val ag T F) x).1.ids = idsL (atomsOf T F x) from rfl, atomsOf_ids] at hj
  cases hj
 | own ag T F =>
  obtain ⟨cs, hv⟩ := h
  refine (((opened_own (n := ⟨0, k, 0⟩) (rl := rl1 k (.own ag T F)) rfl (fun q y hy => (if_pos rfl).trans hy) hv.2.2).weak (P' := fun j => j.r = 0 ∧ j.s = k) (fun j ⟨m, hm, _⟩ => by subst hm; exact ⟨rfl, rfl⟩) (fun _ _ _ _ h => h) (ids' := (entry1 k (.own ag T F) x).1.ids) fun j hj => hj)).mono fun G' h => hv.mtV h
 | rp T F =>
  have h0 : MtA G w (.rpt .b T F x) [v] := h
  refine (Opened.of (Q := fun G' => MtS G' w (entry1 k (.rp T F) x).1 v) fun G' hk => ?_).weak (fun _ h => h) (fun _ _ _ _ h => h) fun j hj => ?_
  ·have h1' := MtA.keepR (old := fun _ => False) hk (fun _ h => h.elim) (by simp [At.ids]) h0
   obtain ⟨_, _, b, off, C, t, fz, hv, _⟩ := h0
   simp only [List.cons.injEq, and_true] at hv
   exact .of1 (by rw [hv]; rfl) h1'
  ·simp [entry1, SV.ids, idsL, At.ids] at hj
 | ref T F =>
  refine ((opened_ref (n := ⟨0, k, 0⟩) rfl h).weak (P' := fun j => j.r = 0 ∧ j.s = k) (fun j ⟨m, hm, _⟩ => by subst hm; exact ⟨rfl, rfl⟩) (fun _ _ _ _ h => h) (ids' := (entry1 k (.ref T F) x).1.ids) fun j hj => ?_).mono fun G' h => .of1 h.2 h.1
  simpa [entry1, SV.ids, idsL] using hj
 | clo f l =>
  obtain ⟨vs, rfl, hl⟩ := h
  exact ((opened_caps hf hl).weak (P' := fun j => j.r = 0 ∧ j.s = k) (fun j hj => ⟨hj.1, hj.2.1⟩) (fun _ _ _ _ h => h) (ids' := (entry1 k (.clo f l) x).1.ids) fun j hj => hj).mono fun G' h => ⟨vs, rfl, h⟩
 | mu ag e f =>
  obtain ⟨cs, hv⟩ := h
  refine (((opened_own (n := ⟨0, k, 0⟩) (rl := rl1 k (.mu ag e f)) rfl (fun q y hy => (if_pos rfl).trans hy) hv.2.2).weak (P' := fun j => j.r = 0 ∧ j.s = k) (fun j ⟨m, hm, _⟩ => by subst hm; exact ⟨rfl, rfl⟩) (fun _ _ _ _ h => h) (ids' := (entry1 k (.mu ag e f) x).1.ids) fun j hj => hj)).mono fun G' h => hv.mtV h
theorem opened_S : ∀ {ms : List Mode} {k : Nat} {x : mdens ms} {args : List Value}, modesFit ms = true → ArgsOk G w k ms x args →
  Opened G w (fun j => j.r = 0 ∧ k ≤ j.s) (rlM ms k) (idsS (entryS k ms x).1) (entryS k ms x).2 fun G' => MtSs G' w (entryS k ms x).1 args := by
 intro ms
 induction ms with
 | nil =>
  intro k x args _ h
  rw [show args = [] from h]
  exact Opened.of fun _ _ => trivial
 | cons m ms ih =>
  intro k x args hf h
  simp only [modesFit, Bool.and_eq_true] at hf
  obtain ⟨v, vs, rfl, h1, h2⟩ := h
  have o1 := (opened_1 hf.1 h1).weak (P' := fun j => j.r = 0 ∧ j.s = k) (rl' := rlM (m :: ms) k) (ids' := (entry1 k m x.1).1.ids) (fun _ h => h) (fun j q y hj hy => by simp only [rlM]; rw [if_pos hj.2]; exact hy) (fun _ h => h)
  have o2 := (ih hf.2 h2).weak (P' := fun j => j.r = 0 ∧ k + 1 ≤ j.s) (rl' := rlM (m :: ms) k) (ids' := idsS (entryS (k + 1) ms x.2).1) (fun _ h => h) (fun j q y hj hy => by simp only [rlM]; rw [if_neg (by omega)]; exact hy) (fun _ h => h)
  refine ((o1.app o2 fun j h h' => by omega).weak (P' := fun j => j.r = 0 ∧ k ≤ j.s) (fun j hj => ?_) (fun _ _ _ _ h => h) (ids' := idsS (entryS k (m :: ms) x).1) fun j hj => hj).mono fun G' h => ⟨h.1, h.2⟩
  rcases hj with hj | hj
  ·exact ⟨hj.1, by omega⟩
  ·exact ⟨hj.1, by omega⟩
end
end Go.Sx

namespace Go.Sx
open Go Go.RowKit
def retS (tt : TT) (t : List SV) (lk : Id → Option Res) : ResultVar → Option SV
 | .tmp i => some (getT t i)
 | .cell a ty => match ttOf tt ty, getT t a with
  | some ⟨_, T0, ag, _, _, _, _⟩, .v false [.ptr id off] => match lk id with
   | some (.var cs) => match takeA cs off T0.size with
    | some l => match (SV.ofTy ag l).exec lk with
     | some (s, _) => some s
     | none => none
    | none => none
   | _ => none
  | _, _ => none
def retSs (tt : TT) (t : List SV) (lk : Id → Option Res) : List ResultVar → Option (List SV)
 | [] => some []
 | r :: rs => match retS tt t lk r with
  | none => none
  | some s => match retSs tt t lk rs with
   | none => none
   | some ss => some (s :: ss)
def resL : SV → List SV
 | .tup l => l.map fun p => .v p.1 p.2
 | s => [s]
def maskC : List (Bool × Ty × Fl) → List At → List At
 | (true, _, _) :: r, a :: l => a :: maskC r l
 | (false, _, _) :: r, _ :: l => .junk :: maskC r l
 | _, _ => []
def maskS : List Mode → List SV → List SV
 | .ref _ _ :: ms, s :: ss => s :: maskS ms ss
 | .mu _ _ _ :: ms, s :: ss => s :: maskS ms ss
 | .clo _ l :: ms, s :: ss => (match s with | .fn f caps => .fn f (maskC l caps) | _ => .junk) :: maskS ms ss
 | _ :: ms, _ :: ss => .junk :: maskS ms ss
 | _, _ => []
def noRefC : List (Bool × Ty × Fl) → Bool
 | [] => true
 | (b, _, _) :: r => !b && noRefC r
def noRefs : List Mode → Bool
 | [] => true
 | .ref _ _ :: _ => false
 | .mu _ _ _ :: _ => false
 | .clo _ l :: ms => noRefC l && noRefs ms
 | _ :: ms => noRefs ms
def stkOf (ms : List Mode) (ss : List SV) : List (List SV) := match noRefs ms with
 | true => []
 | false => [maskS ms ss]
def entrySt (c : Ctr) (n : Nat) (x : mdens c.ins) : St := match entryS 0 c.ins x with
 | (ss, us) => ⟨ss ++ List.replicate (n - ss.length) passed, puts [] us, 0, stkOf c.ins ss⟩
def exitSt (tt : TT) (rts : List ResultVar) (st : St) : Option St :=
 match st with
 | ⟨t, rs, ctr, k⟩ => match retSs tt t (look rs) rts with
  | none => none
  | some ss => some ⟨ss, rs, ctr, k⟩
def exitInv (c : Ctr) (x : mdens c.ins) : St := ⟨resL (c.post x).1, (c.post x).2, 1, stkOf c.ins (entryS 0 c.ins x).1⟩
def exitOk (tt : TT) (c : Ctr) (rts : List ResultVar) (x : mdens c.ins) (st : St) : Option (List Prop) :=
 match exitSt tt rts st with
 | none => none
 | some s => bif nodupN (firsts (c.post x).2) then ent s (exitInv c x) else none
section
variable {P : Program} [Jg P] {C : Ctx}
theorem ArgsOk.len {G : Gh} {w : World} : ∀ {ms : List Mode} {k : Nat} {x : mdens ms} {args : List Value}, ArgsOk G w k ms x args → args.length = ms.length := by
 intro ms
 induction ms with
 | nil => intro k x args h; rw [show args = [] from h]; rfl
 | cons m ms ih => intro k x args h; obtain ⟨v, vs, rfl, _, h2⟩ := h; simp [ih h2]
theorem MtSs.get {G : Gh} {w : World} : ∀ {ss : List SV} {vs : List Value}, MtSs G w ss vs → ∀ (i : Nat) (v : Value), vs[i]? = some v → MtS G w (getT ss i) v := by
 intro ss
 induction ss with
 | nil => intro vs h i v hv; cases vs with
  | nil => simp at hv
  | cons _ _ => exact h.elim
 | cons s ss ih =>
  intro vs h i v hv
  cases vs with
  | nil => exact h.elim
  | cons u us => cases i with
   | zero => simp at hv; subst hv; exact h.1
   | succ i => exact ih h.2 i v (by simpa using hv)
theorem getT_past : ∀ {ss : List SV} {i : Nat}, ss.length ≤ i → getT ss i = .junk := by
 intro ss
 induction ss with
 | nil => intro i _; rfl
 | cons s ss ih => intro i h; cases i with
  | zero => simp at h
  | succ i => exact ih (by simpa using h)
theorem getT_app : ∀ {a b : List SV} {i : Nat}, getT (a ++ b) i = if i < a.length then getT a i else getT b (i - a.length) := by
 intro a
 induction a with
 | nil => intro b i; simp
 | cons x xs ih => intro b i; cases i with
  | zero => simp [getT]
  | succ i => simp only [List.cons_append, getT, List.length_cons]; rw [ih]; by_cases h : i < xs.length <;> simp [h]
theorem getT_rep {n i : Nat} : getT (List.replicate n passed) i = passed ∨ getT (List.replicate n passed) i = .junk := by
 induction n generalizing i with
 | zero => exact .inr rfl
 | succ n ih => cases i with
  | zero => exact .inl rfl
  | succ i => exact ih
theorem getT_mem {ss : List SV} : ∀ {i : Nat}, getT ss i = .junk ∨ getT ss i ∈ ss := by
 induction ss with
 | nil => intro i; exact .inl rfl
 | cons s ss ih => intro i; cases i with
  | zero => exact .inr List.mem_cons_self
  | succ i => exact (ih (i := i)).imp id (List.mem_cons_of_mem _)
theorem maskC_spec {G : Gh} {w : World} : ∀ {l : List (Bool × Ty × Fl)} {as : List At} {vs : List Value}, as.length = l.length → MtC G w as vs → MtC G w (maskC l as) vs := by
 intro l
 induction l with
 | nil => intro as vs h m; cases as with
  | nil => exact m
  | cons _ _ => simp at h
 | cons p r ih =>
  intro as vs h m
  obtain ⟨b, T, F⟩ := p
  cases as with
  | nil => simp at h
  | cons a as =>
   obtain ⟨v, vs', rfl, h1, h2, h3⟩ := m
   have := ih (as := as) (by simpa using h) h3
   cases b with
   | true => exact ⟨v, vs', rfl, h1, h2, this⟩
   | false => exact ⟨v, vs', rfl, h1, ⟨v, h1, rfl⟩, this⟩
theorem entryC_len {k : Nat} : ∀ {l : List (Bool × Ty × Fl)} {c : Nat} {x : dens l}, (entryC k l c x).1.length = l.length := by
 intro l
 induction l with
 | nil => intro c x; rfl
 | cons p r ih =>
  intro c x
  obtain ⟨b, T, F⟩ := p
  cases b with
  | true => simp [entryC, ih]
  | false => simp [entryC, ih]
theorem maskS_len : ∀ {ms : List Mode} {k : Nat} {x : mdens ms}, (maskS ms (entryS k ms x).1).length = ms.length := by
 intro ms
 induction ms with
 | nil => intro k x; rfl
 | cons m ms ih => intro k x; cases m <;> simp [maskS, entryS, ih]
theorem maskS_spec {G : Gh} {w : World} : ∀ {ms : List Mode} {k : Nat} {x : mdens ms} {args : List Value}, MtSs G w (entryS k ms x).1 args → MtSs G w (maskS ms (entryS k ms x).1) args := by
 intro ms
 induction ms with
 | nil => intro k x args h; exact h
 | cons m ms ih =>
  intro k x args h
  cases args with
  | nil => exact h.elim
  | cons v vs =>
   obtain ⟨h1, h2⟩ := h
   have := ih (k := k + 1) h2
   cases m with
   | ref T F => exact ⟨h1, this⟩
   | mu _ _ _ => exact ⟨h1, this⟩
   | clo f l =>
    obtain ⟨us, rfl, h3⟩ := h1
    exact ⟨⟨us, rfl, maskC_spec entryC_len h3⟩, this⟩
   | val _ _ _ => exact ⟨trivial, this⟩
   | own _ _ _ => exact ⟨trivial, this⟩
   | rp _ _ => exact ⟨trivial, this⟩
theorem idsC_mask : ∀ {l : List (Bool × Ty × Fl)} {as : List At}, ∀ j ∈ idsL (maskC l as), j ∈ idsL as := by
 intro l
 induction l with
 | nil => intro as j h; simp [maskC, idsL] at h
 | cons p r ih =>
  intro as j h
  obtain ⟨b, T, F⟩ := p
  cases as with
  | nil => cases b <;> simp [maskC, idsL] at h
  | cons a as =>
   cases b with
   | true =>
    simp only [maskC, idsL, List.mem_append] at h ⊢
    exact h.imp (fun h => h) (ih j)
   | false =>
    simp only [maskC, idsL, At.ids, List.nil_append] at h
    simp only [idsL, List.mem_append]
    exact .inr (ih j h)
theorem idsS_mask : ∀ {ms : List Mode} {ss : List SV}, ∀ j ∈ idsS (maskS ms ss), j ∈ idsS ss := by
 intro ms
 induction ms with
 | nil => intro ss j h; simp [maskS, idsS] at h
 | cons m ms ih =>
  intro ss j h
  cases ss with
  | nil => cases m <;> simp [maskS, idsS] at h
  | cons s ss =>
   simp only [idsS, List.mem_append]
   cases m with
   | ref T F =>
    simp only [maskS, idsS, List.mem_append] at h
    exact h.imp (fun h => h) (ih j)
   | mu _ _ _ =>
    simp only [maskS, idsS, List.mem_append] at h
    exact h.imp (fun h => h) (ih j)
   | clo f l =>
    simp only [maskS, idsS, List.mem_append] at h
    refine h.imp (fun h => ?_) (ih j)
    cases s with
    | fn g caps => exact idsC_mask j h
    | _ => cases h
   | val _ _ _ => simp only [maskS, idsS, SV.ids, List.nil_append] at h; exact .inr (ih j h)
   | own _ _ _ => simp only [maskS, idsS, SV.ids, List.nil_append] at h; exact .inr (ih j h)
   | rp _ _ => simp only [maskS, idsS, SV.ids, List.nil_append] at h; exact .inr (ih j h)
theorem capsPtr_sound {G : Gh} {w : World} {k : Nat} : ∀ {l : List (Bool × Ty × Fl)} {c : Nat} {x : dens l} {vs : List Value}, MtC G w (maskC l (entryC k l c x).1) vs → ∀ p ∈ capsPtr k l c vs, G.ρ p.1 = p.2 := by
 intro l
 induction l with
 | nil => intro c x vs _ p hp; simp [capsPtr] at hp
 | cons q r ih =>
  intro c x vs m p hp
  obtain ⟨b, T, F⟩ := q
  cases b with
  | true =>
   obtain ⟨v, vs', rfl, h1, h2, h3⟩ := m
   simp only [capsPtr, List.mem_cons] at hp
   rcases hp with rfl | hp
   ·obtain ⟨b, h4, h5⟩ := h2
    simp only [List.cons.injEq, and_true] at h5
    exact h4.trans h5.symm
   ·exact ih h3 p hp
  | false =>
   obtain ⟨v, vs', rfl, h1, h2, h3⟩ := m
   exact ih h3 p hp
theorem argsPtr_sound {G : Gh} {w : World} : ∀ {ms : List Mode} {k : Nat} {x : mdens ms} {args : List Value}, MtSs G w (maskS ms (entryS k ms x).1) args → ∀ p ∈ argsPtr k ms args, G.ρ p.1 = p.2 := by
 intro ms
 induction ms with
 | nil => intro k x args _ p hp; simp [argsPtr] at hp
 | cons m ms ih =>
  intro k x args h p hp
  cases args with
  | nil => simp [argsPtr] at hp
  | cons v vs =>
   simp only [argsPtr, List.mem_append] at hp
   cases m with
   | ref T F =>
    rcases hp with hp | hp
    ·simp only [argPtr, List.mem_singleton] at hp
     subst hp
     obtain ⟨b, h4, h5⟩ := (MtS.at1 (show MtS G w (.v false [.ptr ⟨0, k, 0⟩ 0]) v from h.1)).2
     simp only [List.cons.injEq, and_true] at h5
     exact h4.trans h5.symm
    ·exact ih (k := k + 1) (x := x.2) h.2 p hp
   | clo f l =>
    rcases hp with hp | hp
    ·obtain ⟨us, rfl, h3⟩ := (show MtS G w (.fn f (maskC l (entryC k l 0 x.1).1)) v from h.1)
     exact capsPtr_sound h3 p (by simpa [argPtr, capsV] using hp)
    ·exact ih (k := k + 1) (x := x.2) h.2 p hp
   | val _ _ _ => exact ih (k := k + 1) (x := x.2) h.2 p (hp.elim (fun h => by simp [argPtr] at h) (fun h => h))
   | own _ _ _ => exact ih (k := k + 1) (x := x.2) h.2 p (hp.elim (fun h => by simp [argPtr] at h) (fun h => h))
   | rp _ _ => exact ih (k := k + 1) (x := x.2) h.2 p (hp.elim (fun h => by simp [argPtr] at h) (fun h => h))
   | mu ag e f =>
    rcases hp with hp | hp
    ·simp only [argPtr, List.mem_singleton] at hp
     subst hp
     have h4 := (MtV.mk (show MtV G w ag [.own ⟨0, k, 0⟩] v from h.1)).2.2.one_inv
     have h5 : v.cells.toList = [G.ρ ⟨0, k, 0⟩] := h4
     simp [h5]
    ·exact ih (k := k + 1) (x := x.2) h.2 p hp
theorem noRefC_ptr {k : Nat} : ∀ {l : List (Bool × Ty × Fl)} {c : Nat} {vs : List Value}, noRefC l = true → capsPtr k l c vs = [] := by
 intro l
 induction l with
 | nil => intro c vs _; rfl
 | cons q r ih =>
  intro c vs h
  obtain ⟨b, T, F⟩ := q
  simp only [noRefC, Bool.and_eq_true, Bool.not_eq_true'] at h
  obtain ⟨rfl, h⟩ := h
  cases vs with
  | nil => rfl
  | cons v vs => exact ih h
theorem noRefs_ptr : ∀ {ms : List Mode} {k : Nat} {args : List Value}, noRefs ms = true → argsPtr k ms args = [] := by
 intro ms
 induction ms with
 | nil => intro k args _; rfl
 | cons m ms ih =>
  intro k args h
  cases args with
  | nil => rfl
  | cons v vs =>
   cases m with
   | ref T F => cases h
   | mu _ _ _ => cases h
   | clo f l =>
    simp only [noRefs, Bool.and_eq_true] at h
    simp only [argsPtr, argPtr]
    rw [noRefC_ptr h.1, ih h.2]
    rfl
   | val _ _ _ => exact ih (k := k + 1) h
   | own _ _ _ => exact ih (k := k + 1) h
   | rp _ _ => exact ih (k := k + 1) h
def retV : List Value → Value
 | [v] => v
 | l => .tuple l.toArray
def resF (tmps : Array Value) : ResultVar → Sem Value
 | .tmp t => pure (tmps.getD t undef)
 | .cell a t => do loadVar t (← asAddr (tmps.getD a undef))
theorem results_eq (fn : Func) (tmps : Array Value) : results fn tmps = (do let vs ← fn.results.mapM (resF tmps); pure (if h : vs.size = 1 then vs[0] else .tuple vs)) := by
 unfold results
 congr 1
theorem retS_sound (hP : Prg P C) {G : Gh} {w : World} {t : List SV} {lk : Id → Option Res} {tmps : Array Value} (hrs : ∀ id R, lk id = some R → ResOk G w id R) (hone : RhoOk G) (ht : ∀ i, MtS G w (getT t i) (tmps.getD i undef)) {r : ResultVar} {s : SV} (h : retS C.tt t lk r = some s) :
  ∃ u, (resF tmps r).run P w = .ok u w ∧ MtS G w s u := by
 cases r with
 | tmp i => simp only [retS, Option.some.injEq] at h; subst h; exact ⟨_, rfl, ht i⟩
 | cell a ty =>
  simp only [retS] at h
  split at h
  ·rename_i t1 T0 ag nf el by_ fts id off hte hta
   split at h
   ·rename_i cs hlk
    split at h
    ·rename_i l hl
     split at h
     ·rename_i s' tr hs
      cases h
      have hm := ht a
      rw [hta] at hm
      obtain ⟨b, C', tt', hρ, hg, hh, hmc⟩ := hrs id _ hlk
      obtain ⟨b', hρ', hv'⟩ := hm.at1.2
      rw [hρ] at hρ'
      cases hρ'
      simp only [List.cons.injEq, and_true] at hv'
      obtain ⟨h3, h4⟩ := takeA_sound hmc hl
      obtain ⟨u, h5, h6⟩ := load_block (te := ⟨t1, T0, ag, nf, el, by_, fts⟩) hP.tt hte hh (by simpa using h3) hone h4 hs
      refine ⟨u, ?_, h6⟩
      simp only [resF]
      rw [hv']
      simpa [Instr.loadAt, Instr.sureAddr, asAddr] using h5
     ·cases h
    ·cases h
   ·cases h
  ·cases h
theorem run_results (hP : Prg P C) {G : Gh} {w : World} {t : List SV} {lk : Id → Option Res} {tmps : Array Value} (hrs : ∀ id R, lk id = some R → ResOk G w id R) (hone : RhoOk G) (ht : ∀ i, MtS G w (getT t i) (tmps.getD i undef)) {fn : Func} {rts : List ResultVar} {ss : List SV}
  (hr : fn.results = rts.toArray) (h : retSs C.tt t lk rts = some ss) : ∃ vs, (results fn tmps).run P w = .ok (retV vs) w ∧ MtSs G w ss vs := by
 have hm : ∀ (rts : List ResultVar) (ss : List SV), retSs C.tt t lk rts = some ss → ∃ vs, (rts.mapM (resF tmps)).run P w = .ok vs w ∧ MtSs G w ss vs := by
  intro rts
  induction rts with
  | nil => intro ss h; simp only [retSs, Option.some.injEq] at h; subst h; exact ⟨[], rfl, trivial⟩
  | cons r rs ih =>
   intro ss h
   simp only [retSs] at h
   split at h
   ·cases h
   ·rename_i s hs
    split at h
    ·cases h
    ·rename_i ss' hss
     cases h
     obtain ⟨u, h1, h2⟩ := retS_sound hP hrs hone ht hs
     obtain ⟨vs, h3, h4⟩ := ih ss' hss
     exact ⟨u :: vs, by rw [List.mapM_cons, Sem.run_bind, h1]; simp [h3], h2, h4⟩
 obtain ⟨vs, h1, h2⟩ := hm rts ss h
 refine ⟨vs, ?_, h2⟩
 rw [results_eq, Array.mapM_eq_mapM_toList, hr]
 simp [h1]
 match vs with
 | [] => rfl
 | [v] => rfl
 | v :: u :: r => simp [retV]
theorem MtVs.of_map {G : Gh} {w : World} : ∀ {l : List (Bool × List At)} {vs : List Value}, MtSs G w (l.map fun p => SV.v p.1 p.2) vs → MtVs G w l vs := by
 intro l
 induction l with
 | nil => intro vs h; cases vs with
  | nil => rfl
  | cons _ _ => exact h.elim
 | cons p r ih =>
  intro vs h
  cases vs with
  | nil => exact h.elim
  | cons v vs => exact ⟨v, vs, rfl, h.1, ih h.2⟩
def tupOk : SV → Bool
 | .tup [_] => false
 | _ => true
theorem resL_sound {G : Gh} {w : World} {s : SV} {vs : List Value} (hs : tupOk s = true) (h : MtSs G w (resL s) vs) : MtS G w s (retV vs) := by
 have one : ∀ s, MtSs G w [s] vs → MtS G w s (retV vs) := fun s h => by
  match vs, h with
  | [v], h => exact h.1
 cases s with
 | tup l =>
  have h1 := MtVs.of_map h
  cases l with
  | nil => rw [show vs = [] from h1]; exact ⟨[], rfl, rfl⟩
  | cons p r =>
   cases r with
   | nil => cases hs
   | cons q r =>
    have h2 := h1
    obtain ⟨v, vs', rfl, _, u, us, rfl, _⟩ := h2
    exact ⟨_, rfl, h1⟩
 | _ => exact one _ h
theorem SatF_retmp {E : Env} {t t' : List SV} {rs : List (Id × Res)} {c : Nat} {k : List (List SV)} {G : Gh} {a : Act} {w : World} (h : Sat E ⟨t, rs, c, k⟩ G a w) {vs : List Value} (hm : MtSs G w t' vs) (hid : ∀ i, ∀ id ∈ (getT t' i).ids, id.r ≤ c) : Sat E ⟨t', rs, c, k⟩ G { tmps := vs.toArray, defers := [] } w := by
 have h' : SatF E (getT t) t.length (look rs) k (fun id => id.r ≤ c) G a w := h
 show SatF E (getT t') t'.length (look rs) k (fun id => id.r ≤ c) G _ w
 refine ⟨⟨by simp [hm.len], fun i => ?_⟩, h'.rs, h'.st, h'.bnd, rfl, h'.one, hid, h'.rsO, h'.stO, h'.os, h'.tape, h'.output, h'.size, h'.prot, h'.outs⟩
 by_cases hi : i < vs.length
 ·refine hm.get i _ ?_
  rw [Array.getD_eq_getD_getElem?]
  simp [hi]
 ·rw [getT_past (by rw [hm.len]; omega)]; trivial
theorem takeA_ids : ∀ {l : List At} {off n : Nat} {m : List At}, takeA l off n = some m → ∀ j ∈ idsL m, j ∈ idsL l := by
 intro l
 induction l with
 | nil =>
  intro off n m h j hj
  unfold takeA at h
  split at h
  ·cases h; cases hj
  ·cases h
 | cons a r ih =>
  intro off n m h j hj
  simp only [idsL, List.mem_append]
  cases off with
  | zero =>
   cases n with
   | zero => simp only [takeA, Option.some.injEq] at h; subst h; cases hj
   | succ n =>
    simp only [takeA] at h
    cases hb : Nat.ble a.size (n + 1) with
    | false => rw [hb] at h; cases h
    | true =>
     rw [hb] at h
     simp only [cond_true] at h
     split at h
     ·rename_i y hy
      cases h
      simp only [idsL, List.mem_append] at hj
      exact hj.imp (fun h => h) (ih hy j)
     ·cases h
  | succ off =>
   simp only [takeA] at h
   cases hb : Nat.ble a.size (off + 1) with
   | false => rw [hb] at h; cases h
   | true => rw [hb] at h; exact .inr (ih h j hj)
theorem ofTy_ids {lk : Id → Option Res} {ag : Bool} {l : List At} {s : SV} {t : List Id} (h : (SV.ofTy ag l).exec lk = some (s, t)) : ∀ j ∈ s.ids, j ∈ idsL l := by
 cases ag with
 | true => obtain ⟨rfl, _⟩ := exec_ok h; exact fun j hj => hj
 | false => match l with
  | [a] => obtain ⟨rfl, _⟩ := exec_ok h; exact fun j hj => hj
  | [] => exact exec_fail h
  | _ :: _ :: _ => exact exec_fail h
theorem look_of {l : List (Id × Res)} : nodupN (firsts l) = true → ∀ {i : Id} {R : Res}, (i, R) ∈ l → look l i = some R := by
 induction l with
 | nil => intro _ i R h; cases h
 | cons p r ih =>
  intro hn i R h
  obtain ⟨j, S⟩ := p
  rw [nodupN_iff] at hn
  simp only [firsts, List.map_cons, List.nodup_cons] at hn
  simp only [look]
  cases h with
  | head => rw [Id.beq_self]; rfl
  | tail _ h =>
   cases hb : j.beq i with
   | true =>
    rw [Id.eq_of_beq hb] at hn
    exact absurd (List.mem_map.2 ⟨_, h, rfl⟩) hn.1
   | false => exact ih (nodupN_iff.2 hn.2) h
theorem MtSs.of_get {G : Gh} {w : World} : ∀ {ss : List SV} {vs : List Value}, ss.length = vs.length → (∀ (i : Nat) (v : Value), vs[i]? = some v → MtS G w (getT ss i) v) → MtSs G w ss vs := by
 intro ss
 induction ss with
 | nil => intro vs h _; cases vs with
  | nil => trivial
  | cons _ _ => simp at h
 | cons s ss ih =>
  intro vs h k
  cases vs with
  | nil => simp at h
  | cons v vs => exact ⟨k 0 v rfl, ih (by simpa using h) fun i u hu => k (i + 1) u (by simpa using hu)⟩
theorem retS_ids {tt : TT} {t : List SV} {lk : Id → Option Res} {old : Id → Prop} (ht : ∀ i, ∀ id ∈ (getT t i).ids, old id) (hr : ∀ id R, lk id = some R → old id ∧ ∀ j ∈ R.ids, old j) : ∀ {rts : List ResultVar} {ss : List SV}, retSs tt t lk rts = some ss → ∀ s ∈ ss, ∀ j ∈ s.ids, old j := by
 intro rts
 induction rts with
 | nil => intro ss h; simp only [retSs, Option.some.injEq] at h; subst h; intro s hs; cases hs
 | cons r rs ih =>
  intro ss h
  simp only [retSs] at h
  split at h
  ·cases h
  ·rename_i s hs
   split at h
   ·cases h
   ·rename_i ss' hss
    cases h
    intro s' hs' j hj
    rcases List.mem_cons.1 hs' with rfl | hs'
    ·cases r with
     | tmp i => simp only [retS, Option.some.injEq] at hs; subst hs; exact ht i j hj
     | cell a ty =>
      simp only [retS] at hs
      split at hs
      ·split at hs
       ·rename_i cs hlk
        split at hs
        ·rename_i l hl
         split at hs
         ·rename_i s2 tr hs2
          cases hs
          exact (hr _ _ hlk).2 j (takeA_ids hl j (ofTy_ids hs2 j hj))
         ·cases hs
        ·cases hs
       ·cases hs
      ·cases hs
    ·exact ih hss s' hs' j hj
def Ok : (T : Ty) → T.den → Prop
 | .int k, n => inR k n
 | .bool, _ => True
 | .str, s => List.length s ≤ maxL
 | .sl e, l => List.length l ≤ maxL ∧ ∀ x ∈ (l : List e.den), Ok e x
 | .arr n e, l => List.length l = n ∧ ∀ x ∈ (l : List e.den), Ok e x
 | .pr a b, x => Ok a x.1 ∧ Ok b x.2
 | .pt, _ => True
 | .er, _ => True
def capsD : (l : List (Bool × Ty × Fl)) → dens l → Prop
 | [], _ => True
 | p :: r, x => Ok p.2.1 x.1 ∧ capsD r x.2
def argD : (m : Mode) → m.den → Prop
 | .val _ T _, x => Ok T x
 | .own _ T _, x => Ok T x
 | .rp T _, x => Ok T x
 | .ref T _, x => Ok T x
 | .mu _ e _, x => Ok (.sl e) x
 | .clo _ l, x => capsD l x
def argsD : (ms : List Mode) → mdens ms → Prop
 | [], _ => True
 | m :: ms, x => argD m x.1 ∧ argsD ms x.2
theorem Tr.ok {G : Gh} {w : World} : ∀ {T : Ty} {F : Fl} {id : Id} {p : List Nat} {cs : List Value} {x : T.den}, Tr G w T F id p cs x → Ok T x := by
 intro T
 induction T with
 | int k => intro F id p cs x h; exact h.2
 | bool => intro F id p cs x h; trivial
 | pt => intro F id p cs x h; trivial
 | er => intro F id p cs x h; trivial
 | str => intro F id p cs x h; exact h.2
 | sl e ih =>
  intro F id p cs x h
  obtain ⟨A, n, c, hcs, hn, hc, hm, hwf, h⟩ := h
  refine ⟨by rw [← hn]; exact hm, fun y hy => ?_⟩
  obtain ⟨j, hj⟩ := List.mem_iff_getElem?.1 hy
  rcases h with h | ⟨b, off, C, t, fz, hA, hl, hh, hs, hw, hjj⟩
  ·have h0 := (List.getElem?_eq_some_iff.1 hj).1
   exfalso
   have := h.2
   have : List.length x = 0 := by omega
   omega
  ·exact ih (hjj j y hj)
 | arr n e ih =>
  intro F id p cs x h
  refine ⟨h.2.1, fun y hy => ?_⟩
  obtain ⟨j, hj⟩ := List.mem_iff_getElem?.1 hy
  exact ih (h.2.2 j y hj)
 | pr a b iha ihb =>
  intro F id p cs x h
  obtain ⟨c1, c2, rfl, h1, h2⟩ := h
  exact ⟨iha h1, ihb h2⟩
theorem rpt_ok {G : Gh} {w : World} {o : Fo} {T : Ty} {F : Fl} {x : T.den} {cs : List Value} (h : MtA G w (.rpt o T F x) cs) : Ok T x := by
 obtain ⟨_, _, b, off, C, t, fz, _, _, _, _, h⟩ := h
 exact h.ok
theorem CapsOk.d {G : Gh} {w : World} {k : Nat} : ∀ {l : List (Bool × Ty × Fl)} {c : Nat} {x : dens l} {vs : List Value}, CapsOk G w k l c x vs → capsD l x := by
 intro l
 induction l with
 | nil => intro c x vs _; trivial
 | cons p r ih =>
  intro c x vs h
  obtain ⟨b, T, F⟩ := p
  obtain ⟨v, vs', rfl, h1, h2⟩ := h
  cases b with
  | true => obtain ⟨_, _, _, _, _, _, h⟩ := (show RefOk G w _ T F x.1 v from h1); exact ⟨h.ok, ih h2⟩
  | false => exact ⟨rpt_ok (show MtA G w (.rpt .b T F x.1) [v] from h1), ih h2⟩
theorem ArgsOk.d {G : Gh} {w : World} : ∀ {ms : List Mode} {k : Nat} {x : mdens ms} {args : List Value}, ArgsOk G w k ms x args → argsD ms x := by
 intro ms
 induction ms with
 | nil => intro k x args _; trivial
 | cons m ms ih =>
  intro k x args h
  obtain ⟨v, vs, rfl, h1, h2⟩ := h
  refine ⟨?_, ih h2⟩
  cases m with
  | val ag T F => obtain ⟨_, cs, _, _, h⟩ := h1; exact h.ok
  | own ag T F => obtain ⟨cs, _, _, h⟩ := h1; exact h.ok
  | rp T F => exact rpt_ok h1
  | ref T F => obtain ⟨_, _, _, _, _, _, h⟩ := h1; exact h.ok
  | clo f l => obtain ⟨vs, _, h⟩ := h1; exact h.d
  | mu ag e f => obtain ⟨cs, _, _, h⟩ := h1; exact h.ok
theorem ctr_of_body (hP : Prg P C) (c : Ctr) {fn : Func} {body : Code} {rts : List ResultVar} (hf : P.funcs[c.f]? = some fn) (hb : fn.body = some body) (hn : (fn.name == "runtime.NumGoroutine") = false) (hres : fn.results = rts.toArray) (hfit : modesFit c.ins = true)
  (h : ∀ x, argsD c.ins x → c.pre x → tupOk (c.post x).1 = true ∧ SW P body (entrySt c fn.ntmps x) (fun e st => (e = .ret ∨ e = .normal) ∧ ∃ v, exitOk C.tt c rts x st = some v ∧ conj v)) : CtrOk P c := by
 intro G V w args x hbnd hV ham hargs hpre
 have hlen := hargs.len
 refine Jg.called_body hf hb hn ?_
 obtain ⟨⟨ρk, a1, a2⟩, a3, a4⟩ := opened_S hfit hargs
 let g0 : Nat → Lab := fun b => match G.g b with
  | .own i q => (if i.r = 0 then (match rlM c.ins 0 i q with | some (i, r) => .own i r | none => .no) else .no)
  | l => l
 let G0 : Gh := ⟨ρk, g0⟩
 have hk0 : KeepPB G G0 w w := ⟨fun b hb => ⟨by simp [G0, g0, hb], rfl⟩, fun b hb => ⟨by simp [G0, g0, hb], rfl⟩⟩
 obtain ⟨e1, e2⟩ := a2 G0 hk0 (fun b j q i r hj p1 p2 => by simp [G0, g0, p1, p2, hj.1]) (fun j _ => rfl)
 let E : Env := ⟨w, fun b => b < w.heap.size ∧ G.g b ≠ .out ∧ ∀ id p, G.g b ≠ .own id p, G.g, match noRefs c.ins with | true => [] | false => [args.toArray]⟩
 let ss := (entryS 0 c.ins x).1
 let us := (entryS 0 c.ins x).2
 have hss : ss.length = args.length := e1.len
 have hentry : entrySt c fn.ntmps x = ⟨ss ++ List.replicate (fn.ntmps - ss.length) passed, puts [] us, 0, stkOf c.ins ss⟩ := rfl
 have hids : ∀ j ∈ idsS ss, j.r ≤ 0 := fun j hj => Nat.le_of_eq (a3 j hj)
 have hsat : Sat E (entrySt c fn.ntmps x) G0 { tmps := args.toArray ++ Array.replicate (fn.ntmps - args.toArray.size) undef, defers := [] } w := by
  rw [hentry]
  refine ⟨⟨by simp [hss], fun i => ?_⟩, fun i R hi => ?_, ?_, fun b hb => hbnd b fun h => hb (by simp [G0, g0, h]), rfl, a1, fun i id hid => ?_, fun i R hi => ?_, fun id hid => ?_, rfl, rfl, rfl, Nat.le_refl _, fun b hb => ⟨hb.1, rfl, ?_, hb.2⟩, fun b _ hb => by simp [G0, g0, show G.g b = .out from hb]⟩
  ·rw [getT_app]
   split
   ·rename_i hlt
    rw [hss] at hlt
    refine e1.get i _ ?_
    rw [Array.getD_eq_getD_getElem?, Array.getElem?_append_left (by simpa using hlt)]
    simp [hlt]
   ·rename_i hge
    rcases getT_rep (n := fn.ntmps - ss.length) (i := i - ss.length) with hr | hr
    ·rw [hr]
     refine ⟨[], ?_, rfl⟩
     rw [Array.getD_eq_getD_getElem?]
     rw [Array.getElem?_append_right (by simp; omega)]
     rw [Array.getElem?_replicate]
     split <;> rfl
    ·rw [hr]; trivial
  ·simp only at hi
   rw [look_puts] at hi
   rcases updL_cases us _ i R hi with ⟨_, h2⟩ | h2
   ·simp [look] at h2
   ·exact e2 i R h2
  ·simp only [stkOf, E]
   cases hr : noRefs c.ins with
   | true => rfl
   | false =>
    have hm := maskS_spec (ms := c.ins) e1
    refine ⟨args.toArray, [], rfl, ⟨by rw [hm.len]; simp, fun i => ?_⟩, rfl⟩
    by_cases hi : i < args.length
    ·refine hm.get i _ ?_
     rw [Array.getD_eq_getD_getElem?]
     simp [hi]
    ·rw [getT_past (by rw [hm.len]; omega)]; trivial
  ·simp only at hid ⊢
   rw [getT_app] at hid
   split at hid
   ·exact hids id (mem_idsS_getT hid)
   ·rcases getT_rep (n := fn.ntmps - ss.length) (i := i - ss.length) with h | h <;> rw [h] at hid <;> simp [passed, SV.ids, idsT] at hid
  ·simp only at hi
   rw [look_puts] at hi
   rcases updL_cases us _ i R hi with ⟨_, h2⟩ | h2
   ·simp [look] at h2
   ·obtain ⟨q1, q2⟩ := a4 i R h2
    exact ⟨Nat.le_of_eq q1, fun j hj => Nat.le_of_eq (q2 j hj)⟩
  ·simp only [stkOf] at hid
   split at hid
   ·cases hid
   ·simp only [idsK, List.append_nil] at hid
    exact hids id (idsS_mask id hid)
  ·show g0 b = G.g b
   cases hg : G.g b with
   | own id p => exact absurd hg (hb.2.2 id p)
   | _ => simp [g0, hg]
 obtain ⟨htup, hsw⟩ := h x hargs.d hpre
 refine Jg.wp_mono (hsw E G0 V _ w ⟨fun b h1 ho h2 => ⟨h1, ho, h2⟩, ham⟩ (lv_map (fun b hb => by simp [G0, g0, hb]) hV) hsat) fun e V2 a' w2 hpost => ?_
 obtain ⟨st', G2, hl2, ⟨he, v, hv, hcv⟩, hs2'⟩ := hpost
 refine ⟨he.symm, hs2'.df, fun w' hrel => ?_⟩
 have hs' : Sat E st' (relG G2 w2 w') a' w' := SatF.rel hs2' hl2 (Jg.rel_ok hrel)
 have hl1 := relG_lv (w1 := w') hl2
 generalize relG G2 w2 w' = G1 at hs' hl1
 obtain ⟨t, rs, cc, stk⟩ := st'
 have hs2 : SatF E (getT t) t.length (look rs) stk (fun id => id.r ≤ cc) G1 a' w' := hs'
 simp only [exitOk, exitSt] at hv
 split at hv
 ·cases hv
 rename_i s0 hs0
 split at hs0
 ·cases hs0
 rename_i ss1 hss1
 cases hs0
 cases hndp : nodupN (firsts (c.post x).2) with
 | false => rw [hndp] at hv; cases hv
 | true =>
 rw [hndp] at hv
 simp only [cond_true] at hv
 obtain ⟨us1, hrr, hvals⟩ := run_results hP hs2.rs hs2.one hs2.tms.2 hres hss1
 have hsr := SatF_retmp hs' hvals (fun i id hid => by
  rcases getT_mem (ss := ss1) (i := i) with h | h
  ·rw [h] at hid; cases hid
  ·exact retS_ids hs2.tmO hs2.rsO hss1 _ h id hid)
 obtain ⟨G', hlf, hfin⟩ := ent_ok hv hcv E G1 _ _ w' hl1 hsr
 have hf2 : SatF E (getT (resL (c.post x).1)) (resL (c.post x).1).length (look (c.post x).2) (stkOf c.ins ss) (fun id => id.r ≤ 1) G' _ w' := hfin
 have hres' : MtSs G' w' (resL (c.post x).1) us1 := by
  have h1 := hf2.tms
  refine MtSs.of_get (by simpa using h1.1) fun i u hu => ?_
  have := h1.2 i
  rw [Array.getD_eq_getD_getElem?] at this
  simpa [hu] using this
 have hat : ∀ p ∈ argsPtr 0 c.ins args, G'.ρ p.1 = p.2 := by
  cases hr : noRefs c.ins with
  | true => rw [noRefs_ptr hr]; intro p hp; cases hp
  | false =>
   have hst := hf2.st
   simp only [stkOf, E, hr] at hst
   obtain ⟨f, fs, hff, hmt, _⟩ := hst
   cases hff
   refine argsPtr_sound (w := w') (x := x) (MtSs.of_get (by rw [maskS_len, hlen]) fun i u hu => ?_)
   have := hmt.2 i
   rw [Array.getD_eq_getD_getElem?] at this
   simpa [hu] using this
 have hprot : ∀ b, b < w.heap.size → G.g b ≠ .out → (∀ id p, G.g b ≠ .own id p) → w'.heap[b]? = w.heap[b]? ∧ G'.g b = G.g b := fun b hb ho hg => by
  obtain ⟨q1, q2, q3, q4⟩ := hf2.prot b ⟨hb, ho, hg⟩
  exact ⟨q2, q3⟩
 have hch : Chg (fun _ => False) (fun _ => True) G G' w w' := by
  refine ⟨fun _ h => h.elim, ⟨fun b hb => ?_, fun b hb => ?_⟩, fun _ _ _ _ h => absurd trivial h, fun b hlt hb => ?_, hf2.bnd, fun _ => hf2.one, hf2.os, hf2.tape, hf2.output, hf2.size, fun b hlt hb => hf2.outs b hlt hb⟩
  ·obtain ⟨r1, r2⟩ := hprot b (hbnd b (by rw [hb]; simp)) (by rw [hb]; simp) (fun id p => by rw [hb]; simp)
   exact ⟨r2.trans hb, r1⟩
  ·obtain ⟨r1, r2⟩ := hprot b (hbnd b (by rw [hb]; simp)) (by rw [hb]; simp) (fun id p => by rw [hb]; simp)
   exact ⟨r2.trans hb, r1⟩
  ·obtain ⟨r1, r2⟩ := hprot b hlt (by rw [hb]; simp) (fun id p => by rw [hb]; simp)
   exact ⟨r1, r2.trans hb⟩
 have hfinal : ∃ G', Lv G' w' (V2.cut w2) ∧ Chg (fun _ => False) (fun _ => True) G G' w w' ∧ RhoOk G' ∧ (∀ p ∈ argsPtr 0 c.ins args, G'.ρ p.1 = p.2) ∧ MtS G' w' (c.post x).1 (retV us1) ∧ ∀ i R, (i, R) ∈ (c.post x).2 → ResOk G' w' i R :=
  ⟨G', hlf, hch, hf2.one, hat, resL_sound htup hres', fun i R hi => hf2.rs i R (look_of hndp hi)⟩
 exact ⟨_, hrr, hfinal⟩
def maskA : At → At
 | .ptr i 0 => .ptr i 0
 | .own i => .own i
 | _ => .junk
def maskL : List At → List At
 | [] => []
 | a :: r => maskA a :: maskL r
def oneL : List At → Bool
 | [] => true
 | a :: r => Nat.beq a.size 1 && oneL r
def maskV (ag : Bool) (l : List At) : SV := bif oneL l && !(isNilL (idsP l)) then .v ag (maskL l) else .junk
def maskX : List SV → List SV
 | [] => []
 | s :: r => (match s with | .v ag l => maskV ag l | _ => .junk) :: maskX r
def keepX : List SV → Bool
 | [] => true
 | s :: r => (match s with | .v _ l => oneL l || isNilL (idsP l) | _ => true) && keepX r
def entryX (c : Xctr) (n : Nat) : St := ⟨c.args ++ List.replicate (n - c.args.length) passed, resOf c.rs ++ resOf c.ls, 0, [maskX c.args]⟩
def exitX (tt : TT) (c : Xctr) (rts : List ResultVar) (st : St) : Option (List Prop) :=
 match exitSt tt rts st with
 | none => none
 | some s => bif nodupN (firsts c.post.2) then ent s ⟨resL c.post.1, c.post.2, 1, [maskX c.args]⟩ else none
def fitX (c : Xctr) : Bool := keepX c.args && (idsLe 0 (idsS c.args) && idsLe 0 (idsR (resOf c.rs ++ resOf c.ls)))
theorem maskL_spec {G : Gh} {w : World} (hone : RhoOk G) : ∀ {l : List At} {cs : List Value}, oneL l = true → MtL G w l cs → MtL G w (maskL l) cs := by
 intro l
 induction l with
 | nil => intro cs _ h; exact h
 | cons a r ih =>
  intro cs h1 h
  simp only [oneL, Bool.and_eq_true] at h1
  obtain ⟨c1, c2, rfl, h2, h3⟩ := h
  refine ⟨c1, c2, rfl, ?_, ih h1.2 h3⟩
  unfold maskA
  split
  ·exact h2
  ·exact h2
  ·have hl := h2.len
   rw [Nat.eq_of_beq_eq_true h1.1] at hl
   match c1, hl with
   | [u], _ => exact ⟨u, h2.one hone u (by simp), rfl⟩
theorem maskX_spec {G : Gh} {w : World} (hone : RhoOk G) : ∀ {ss : List SV} {vs : List Value}, MtSs G w ss vs → MtSs G w (maskX ss) vs := by
 intro ss
 induction ss with
 | nil => intro vs h; exact h
 | cons s ss ih =>
  intro vs h
  cases vs with
  | nil => exact h.elim
  | cons v vs =>
   refine ⟨?_, ih h.2⟩
   split
   ·rename_i ag l
    unfold maskV
    cases hc : (oneL l && !(isNilL (idsP l))) with
    | false => trivial
    | true =>
     simp only [Bool.and_eq_true] at hc
     have h1 : MtV G w ag l v := h.1
     cases ag with
     | true => obtain ⟨cs, e, h2⟩ := h1; exact ⟨cs, e, maskL_spec hone hc.1 h2⟩
     | false => exact ⟨h1.1, maskL_spec hone hc.1 h1.2⟩
   ·trivial
theorem maskX_len : ∀ {ss : List SV}, (maskX ss).length = ss.length := by
 intro ss
 induction ss with
 | nil => rfl
 | cons s ss ih => simp only [maskX, List.length_cons, ih]
theorem maskL_ids : ∀ {l : List At}, ∀ j ∈ idsL (maskL l), j ∈ idsL l := by
 intro l
 induction l with
 | nil => intro j h; exact h
 | cons a r ih =>
  intro j h
  simp only [maskL, idsL, List.mem_append] at h ⊢
  rcases h with h | h
  ·left
   unfold maskA at h
   split at h
   ·exact h
   ·exact h
   ·cases h
  ·exact .inr (ih j h)
theorem maskX_ids : ∀ {ss : List SV}, ∀ j ∈ idsS (maskX ss), j ∈ idsS ss := by
 intro ss
 induction ss with
 | nil => intro j h; exact h
 | cons s ss ih =>
  intro j h
  change j ∈ (match s with | .v ag l => maskV ag l | _ => .junk).ids ++ idsS (maskX ss) at h
  change j ∈ s.ids ++ idsS ss
  rw [List.mem_append] at h ⊢
  rcases h with h | h
  ·left
   split at h
   ·rename_i ag l
    unfold maskV at h
    cases hc : (oneL l && !(isNilL (idsP l))) with
    | false => rw [hc] at h; cases h
    | true => rw [hc] at h; exact maskL_ids j h
   ·cases h
  ·exact .inr (ih j h)
theorem maskL_kept {G G' : Gh} {w w' : World} : ∀ {l : List At} {cs : List Value}, oneL l = true → MtL G w l cs → MtL G' w' (maskL l) cs → ∀ i ∈ idsP l, G'.ρ i = G.ρ i := by
 intro l
 induction l with
 | nil => intro cs _ _ _ i h; cases h
 | cons a r ih =>
  intro cs h1 h h' i hi
  simp only [oneL, Bool.and_eq_true] at h1
  obtain ⟨c1, c2, e0, h2, h3⟩ := h
  obtain ⟨d1, d2, f0, h2', h3'⟩ := h'
  have hl := h2.len
  rw [Nat.eq_of_beq_eq_true h1.1] at hl
  have hl' : d1.length = 1 := by
   have := h2'.len
   rw [this]
   unfold maskA
   split <;> rfl
  have hcd : c1 = d1 ∧ c2 = d2 := by rw [e0] at f0; exact List.append_inj f0 (by rw [hl, hl'])
  obtain ⟨rfl, rfl⟩ := hcd
  have hr := ih h1.2 h3 h3'
  simp only [idsP] at hi
  split at hi
  ·rename_i j
   rcases List.mem_cons.1 hi with rfl | hi
   ·obtain ⟨b, e1, e2⟩ := h2
    obtain ⟨b', f1, f2⟩ := h2'
    rw [e2] at f2
    simp only [List.cons.injEq, Value.pointer.injEq, Option.some.injEq, Addr.mk.injEq, and_true] at f2
    rw [f1, e1, f2]
   ·exact hr i hi
  ·rename_i j
   rcases List.mem_cons.1 hi with rfl | hi
   ·have e1 : c1 = [G.ρ i] := h2
    have f1 : c1 = [G'.ρ i] := h2'
    rw [e1] at f1
    exact (List.cons.inj f1).1.symm
   ·exact hr i hi
  ·exact hr i hi
theorem ptrsOf_sound {G G' : Gh} {w w' : World} : ∀ {ss : List SV} {vs : List Value}, keepX ss = true → MtSs G w ss vs → MtSs G' w' (maskX ss) vs → ∀ i ∈ ptrsOf ss, G'.ρ i = G.ρ i := by
 intro ss
 induction ss with
 | nil => intro vs _ _ _ i h; cases h
 | cons s ss ih =>
  intro vs hk h h' i hi
  cases vs with
  | nil => exact h.elim
  | cons v vs =>
   simp only [keepX, Bool.and_eq_true] at hk
   have hr := ih hk.2 h.2 h'.2
   have h1 := h.1
   have h2 := h'.1
   simp only [ptrsOf] at hi
   split at hi
   ·rename_i ag l
    rcases List.mem_append.1 hi with hi | hi
    ·have hne : isNilL (idsP l) = false := by
      cases hc : idsP l with
      | nil => rw [hc] at hi; cases hi
      | cons _ _ => rfl
     have ho : oneL l = true := by
      have := hk.1
      simp only [hne, Bool.or_false] at this
      exact this
     simp only [maskV, ho, hne, Bool.not_false, Bool.and_self, cond_true] at h2
     cases ag with
     | true =>
      obtain ⟨cs, e, h3⟩ := (show MtV G w true l v from h1)
      obtain ⟨cs', e', h4⟩ := (show MtV G' w' true (maskL l) v from h2)
      rw [e] at e'
      have : cs = cs' := by simpa using e'
      subst this
      exact maskL_kept ho h3 h4 i hi
     | false => exact maskL_kept ho h1.2 h2.2 i hi
    ·exact hr i hi
   ·exact hr i hi
theorem xctr_of_body (hP : Prg P C) (c : Xctr) {fn : Func} {body : Code} {rts : List ResultVar} (hf : P.funcs[c.f]? = some fn) (hb : fn.body = some body) (hn : (fn.name == "runtime.NumGoroutine") = false) (hres : fn.results = rts.toArray) (hfit : fitX c = true)
  (h : tupOk c.post.1 = true ∧ SW P body (entryX c fn.ntmps) (fun e st => (e = .ret ∨ e = .normal) ∧ ∃ v, exitX C.tt c rts st = some v ∧ conj v)) : XOk P c := by
 intro G V w args hbnd hV ham hone0 hargs hrs0
 have hlen : c.args.length = args.length := hargs.len
 refine Jg.called_body hf hb hn ?_
 simp only [fitX, Bool.and_eq_true] at hfit
 have hkeep : keepX c.args = true := hfit.1
 have hids : ∀ j ∈ idsS c.args, j.r ≤ 0 := idsLe_spec hfit.2.1
 have hidr : ∀ j ∈ idsR (resOf c.rs ++ resOf c.ls), j.r ≤ 0 := idsLe_spec hfit.2.2
 let E : Env := ⟨w, fun b => b < w.heap.size ∧ G.g b ≠ .out ∧ ∀ id p, G.g b ≠ .own id p, G.g, [args.toArray]⟩
 have hsat : Sat E (entryX c fn.ntmps) G { tmps := args.toArray ++ Array.replicate (fn.ntmps - args.toArray.size) undef, defers := [] } w := by
  refine ⟨⟨by simp [entryX, hlen], fun i => ?_⟩, fun i R hi => hrs0 i R (look_mem hi), ?_, hbnd, rfl, hone0, fun i id hid => ?_, fun i R hi => ?_, fun id hid => ?_, rfl, rfl, rfl, Nat.le_refl _, fun b hb => ⟨hb.1, rfl, rfl, hb.2⟩, fun b _ hb => hb⟩
  ·simp only [entryX]
   rw [getT_app]
   split
   ·rename_i hlt
    rw [hlen] at hlt
    refine hargs.get i _ ?_
    rw [Array.getD_eq_getD_getElem?, Array.getElem?_append_left (by simpa using hlt)]
    simp [hlt]
   ·rename_i hge
    rcases getT_rep (n := fn.ntmps - c.args.length) (i := i - c.args.length) with hr | hr
    ·rw [hr]
     refine ⟨[], ?_, rfl⟩
     rw [Array.getD_eq_getD_getElem?]
     rw [Array.getElem?_append_right (by simp; omega)]
     rw [Array.getElem?_replicate]
     split <;> rfl
    ·rw [hr]; trivial
  ·have hm := maskX_spec hone0 hargs
   refine ⟨args.toArray, [], rfl, ⟨by rw [maskX_len, hlen]; simp, fun i => ?_⟩, rfl⟩
   by_cases hi : i < args.length
   ·refine hm.get i _ ?_
    rw [Array.getD_eq_getD_getElem?]
    simp [hi]
   ·rw [getT_past (by rw [maskX_len]; omega)]; trivial
  ·simp only [entryX] at hid ⊢
   rw [getT_app] at hid
   split at hid
   ·exact hids id (mem_idsS_getT hid)
   ·rcases getT_rep (n := fn.ntmps - c.args.length) (i := i - c.args.length) with h | h <;> rw [h] at hid <;> simp [passed, SV.ids, idsT] at hid
  ·obtain ⟨q1, q2⟩ := mem_idsR (look_mem hi)
   exact ⟨hidr i q1, fun j hj => hidr j (q2 j hj)⟩
  ·simp only [entryX, idsK, List.append_nil] at hid
   exact hids id (maskX_ids id hid)
 obtain ⟨htup, hsw⟩ := h
 refine Jg.wp_mono (hsw E G V _ w ⟨fun b h1 ho h2 => ⟨h1, ho, h2⟩, ham⟩ hV hsat) fun e V2 a' w2 hpost => ?_
 obtain ⟨st', G2, hl2, ⟨he, v, hv, hcv⟩, hs2'⟩ := hpost
 refine ⟨he.symm, hs2'.df, fun w' hrel => ?_⟩
 have hs' : Sat E st' (relG G2 w2 w') a' w' := SatF.rel hs2' hl2 (Jg.rel_ok hrel)
 have hl1 := relG_lv (w1 := w') hl2
 generalize relG G2 w2 w' = G1 at hs' hl1
 obtain ⟨t, rs, cc, stk⟩ := st'
 have hs2 : SatF E (getT t) t.length (look rs) stk (fun id => id.r ≤ cc) G1 a' w' := hs'
 simp only [exitX, exitSt] at hv
 split at hv
 ·cases hv
 rename_i s0 hs0
 split at hs0
 ·cases hs0
 rename_i ss1 hss1
 cases hs0
 cases hndp : nodupN (firsts c.post.2) with
 | false => rw [hndp] at hv; cases hv
 | true =>
 rw [hndp] at hv
 simp only [cond_true] at hv
 obtain ⟨us1, hrr, hvals⟩ := run_results hP hs2.rs hs2.one hs2.tms.2 hres hss1
 have hsr := SatF_retmp hs' hvals (fun i id hid => by
  rcases getT_mem (ss := ss1) (i := i) with h | h
  ·rw [h] at hid; cases hid
  ·exact retS_ids hs2.tmO hs2.rsO hss1 _ h id hid)
 obtain ⟨G', hlf, hfin⟩ := ent_ok hv hcv E G1 _ _ w' hl1 hsr
 have hf2 : SatF E (getT (resL c.post.1)) (resL c.post.1).length (look c.post.2) [maskX c.args] (fun id => id.r ≤ 1) G' _ w' := hfin
 have hres' : MtSs G' w' (resL c.post.1) us1 := by
  have h1 := hf2.tms
  refine MtSs.of_get (by simpa using h1.1) fun i u hu => ?_
  have := h1.2 i
  rw [Array.getD_eq_getD_getElem?] at this
  simpa [hu] using this
 have hat : ∀ i ∈ ptrsOf c.args, G'.ρ i = G.ρ i := by
  have hst := hf2.st
  simp only [E] at hst
  obtain ⟨f, fs, hff, hmt, _⟩ := hst
  cases hff
  refine ptrsOf_sound (w' := w') hkeep hargs (MtSs.of_get (by rw [maskX_len, hlen]) fun i u hu => ?_)
  have := hmt.2 i
  rw [Array.getD_eq_getD_getElem?] at this
  simpa [hu] using this
 have hprot : ∀ b, b < w.heap.size → G.g b ≠ .out → (∀ id p, G.g b ≠ .own id p) → w'.heap[b]? = w.heap[b]? ∧ G'.g b = G.g b := fun b hb ho hg => by
  obtain ⟨q1, q2, q3, q4⟩ := hf2.prot b ⟨hb, ho, hg⟩
  exact ⟨q2, q3⟩
 have hch : Chg (fun _ => False) (fun _ => True) G G' w w' := by
  refine ⟨fun _ h => h.elim, ⟨fun b hb => ?_, fun b hb => ?_⟩, fun _ _ _ _ h => absurd trivial h, fun b hlt hb => ?_, hf2.bnd, fun _ => hf2.one, hf2.os, hf2.tape, hf2.output, hf2.size, fun b hlt hb => hf2.outs b hlt hb⟩
  ·obtain ⟨r1, r2⟩ := hprot b (hbnd b (by rw [hb]; simp)) (by rw [hb]; simp) (fun id p => by rw [hb]; simp)
   exact ⟨r2.trans hb, r1⟩
  ·obtain ⟨r1, r2⟩ := hprot b (hbnd b (by rw [hb]; simp)) (by rw [hb]; simp) (fun id p => by rw [hb]; simp)
   exact ⟨r2.trans hb, r1⟩
  ·obtain ⟨r1, r2⟩ := hprot b hlt (by rw [hb]; simp) (fun id p => by rw [hb]; simp)
   exact ⟨r1, r2.trans hb⟩
 have hfinal : ∃ G', Lv G' w' (V2.cut w2) ∧ Chg (fun _ => False) (fun _ => True) G G' w w' ∧ RhoOk G' ∧ (∀ i ∈ ptrsOf c.args, G'.ρ i = G.ρ i) ∧ MtS G' w' c.post.1 (retV us1) ∧ ∀ i R, (i, R) ∈ c.post.2 → ResOk G' w' i R :=
  ⟨G', hlf, hch, hf2.one, hat, resL_sound htup hres', fun i R hi => hf2.rs i R (look_of hndp hi)⟩
 exact ⟨_, hrr, hfinal⟩
end
end Go.Sx

namespace Go.Sx
open Go Go.RowKit
theorem ErC.per {G G' : Gh} {w : World} (hp : ∀ b, G.g b = .per → G'.g b = .per) {cs : List Value} {x : Nat} (h : ErC G w cs x) : ErC G' w cs x := by
 obtain ⟨v, hv, h⟩ := h
 exact ⟨v, hv, h.imp (fun h => h) (Or.imp (fun ⟨h1, h2, h3⟩ => ⟨h1, hp _ h2, h3⟩) (fun h => h))⟩
section
variable {G G' : Gh} {w : World} {id : Id} {a : At}
structure SbOk (G G' : Gh) (w : World) (id : Id) (a : At) : Prop where
 pb : KeepPB G G' w w
 rho : G'.ρ = G.ρ
 own : ∀ b i q, i ≠ id → G.g b = .own i q → G'.g b = .own i q
 at_ : MtA G' w a [G.ρ id]
 ids : a.ids = []
end
theorem MtOk.nil {P : Program} : MtOk P [] := ⟨(fun t k e h => by cases h), (fun t h => by cases h)⟩
theorem MtOk.cons {P : Program} {a k e : TypeId} {r : MT} (h : P.underlying a = some (.map k e)) (hr : MtOk P r) (hk : Nat.beq a k = false := by rfl) : MtOk P ((a, k, e) :: r) := by
 refine ⟨fun t k' e' hm => ?_, fun t ht => ?_⟩
 ·simp only [mtOf, hk, Bool.not_false, Bool.and_true] at hm
  cases hb : Nat.beq a t with
  | true => rw [hb] at hm; cases hm; rw [← Nat.eq_of_beq_eq_true hb]; exact h
  | false => rw [hb] at hm; exact hr.1 t k' e' hm
 ·simp only [eqT, hk, Bool.and_false, Bool.false_or] at ht
  exact hr.2 t ht
theorem MtOk.eqs {P : Program} {a e : TypeId} {r : MT} (h : eqChk P a = true) (hr : MtOk P r) : MtOk P ((a, a, e) :: r) := by
 have hr0 : Nat.beq a a = true := by simp
 refine ⟨fun t k' e' hm => ?_, fun t ht => ?_⟩
 ·simp only [mtOf, hr0, Bool.not_true, Bool.and_false, cond_false] at hm
  exact hr.1 t k' e' hm
 ·simp only [eqT, hr0, Bool.and_true, Bool.or_eq_true] at ht
  rcases ht with ht | ht
  ·rw [← Nat.eq_of_beq_eq_true ht]; exact h
  ·exact hr.2 t ht
theorem sw_condA {P : Program} [Jg P] {st : St} {K : Exit → St → Prop} {c : Operand} {x y : Code} {Q : Prop} (h : evF (getT st.tmps) c = .v false [.anyb Q]) (t : Q → SW P x st K) (f : SW P y st K) : SW P (.cond c x y) st K := by
 intro E G V a w hE hV hs
 have hm := evF_sound (hE.amb hs).2 hs.tms c
 rw [h] at hm
 obtain ⟨b, hb, hq⟩ := hm.at1.2
 simp only [List.cons.injEq, and_true] at hb
 refine Jg.wp_cond hb ?_
 cases b with
 | true => exact t (hq rfl) E G V a w hE hV hs
 | false => exact f E G V a w hE hV hs
end Go.Sx
