/- Symbolic execution, part Z: what is owned is given up: nobody's from then on. -/
import Derived.Test.YtkbgdpdldoopmaaGreatDoorSxTtoSxY
set_option linter.all false
namespace Go.Sx
open Go Go.RowKit

def Fo.frz : Fo → Fo → Bool | .p, .p => true | .w, .p => true | _, _ => false
theorem noO_frz : ∀ {T : Ty} {F F' : Fl}, flR Fo.frz T F F' = true → T.noO F' = true := by
  intro T
  induction T with
  | sl e ih =>
    intro F F' h
    simp only [flR, Bool.and_eq_true] at h
    simp only [Ty.noO, Bool.and_eq_true, Bool.not_eq_true']
    refine ⟨?_, ih h.2⟩
    have := h.1
    cases hF : F.hd <;> cases hF' : F'.hd <;> rw [hF, hF'] at this <;> first | rfl | cases this
  | pr a b iha ihb => intro F F' h; simp only [flR, Bool.and_eq_true] at h; simp only [Ty.noO, Bool.and_eq_true]; exact ⟨iha h.1, ihb h.2⟩
  | _ => intro F F' _; rfl
theorem ErC.per {G G' : Gh} {w : World} (hp : ∀ b, G.g b = .per → G'.g b = .per) {cs : List Value} {x : Nat} (h : ErC G w cs x) : ErC G' w cs x := by
  obtain ⟨v, hv, h⟩ := h
  exact ⟨v, hv, h.imp (fun h => h) (Or.imp (fun ⟨h1, h2, h3⟩ => ⟨h1, hp _ h2, h3⟩) (fun h => h))⟩
theorem Tr.frz {G G' : Gh} {w : World} (hp : ∀ b, G.g b = .per → G'.g b = .per) : ∀ {T : Ty} {F F' : Fl} {id id' : Id} {p p' : List Nat} {cs : List Value} {x : T.den},
    (∀ b q, G.g b = .own id (p ++ q) → G'.g b = .per) → flR Fo.frz T F F' = true → Tr G w T F id p cs x → Tr G' w T F' id' p' cs x := by
  intro T
  induction T with
  | int k => intro F F' id id' p p' cs x _ _ h; exact h
  | bool => intro F F' id id' p p' cs x _ _ h; exact h
  | str => intro F F' id id' p p' cs x _ _ h; exact h
  | sl e ih =>
    intro F F' id id' p p' cs x ho hf h
    simp only [flR, Bool.and_eq_true] at hf
    obtain ⟨A, n, c, hcs, hn, hc, hm, hwf, h⟩ := h
    refine ⟨A, n, c, hcs, hn, hc, hm, fun _ => noO_frz hf.2, ?_⟩
    rcases h with h | ⟨b, off, C, t, fz, hA, hl, hh, hs, hw, hj⟩
    · refine .inl ⟨fun hF' => ?_, h.2⟩
      have h1 := hf.1
      cases hF : F.hd <;> cases hF2 : F'.hd <;> rw [hF, hF2] at h1 <;> first | (cases h1; done) | (rw [hF2] at hF'; cases hF')
    · refine .inr ⟨b, off, C, t, fz, hA, ?_, hh, hs, fun e => ?_, fun j x hx => ih (fun b q hq => ho b ([j] ++ q) (by rw [← List.append_assoc]; exact hq)) hf.2 (hj j x hx)⟩
      · have h1 := hf.1
        have hw' : G.g b = .own id p → G'.g b = .per := fun h => ho b [] (by rw [List.append_nil]; exact h)
        cases hF : F.hd <;> cases hF' : F'.hd <;> rw [hF, hF'] at h1 <;> first
          | (cases h1; done)
          | (rw [hF] at hl; exact hp b hl)
          | (rw [hF] at hl; exact hw' hl)
      · have h1 := hf.1
        rw [e] at h1
        cases hF : F.hd <;> rw [hF] at h1 <;> cases h1
  | arr n e ih =>
    intro F F' id id' p p' cs x _ _ h
    exact ⟨h.1, h.2.1, fun j y hy => by
      have hnp : ∀ T : Ty, flR Fo.frz T pF pF = true := by
        intro T
        induction T with
        | sl e ih => simp only [flR, Bool.and_eq_true]; exact ⟨rfl, ih⟩
        | pr a b iha ihb => simp only [flR, Bool.and_eq_true]; exact ⟨iha, ihb⟩
        | _ => rfl
      have key : ∀ {T : Ty} {id : Id} {p : List Nat} {cs : List Value} {x : T.den}, Tr G w T pF id p cs x → Tr G' w T pF id p cs x := by
        intro T
        induction T with
        | int k => intro id p cs x h; exact h
        | bool => intro id p cs x h; exact h
        | pt => intro id p cs x h; exact h
        | er => intro id p cs x h; exact ErC.per hp h
        | str => intro id p cs x h; exact h
        | sl e ih =>
          intro id p cs x h
          obtain ⟨A, n, c, hcs, hn, hc, hm, hwf, h⟩ := h
          refine ⟨A, n, c, hcs, hn, hc, hm, hwf, ?_⟩
          rcases h with h | ⟨b, off, C, t, fz, hA, hl, hh, hs, hw, hj⟩
          · exact .inl h
          · exact .inr ⟨b, off, C, t, fz, hA, hp b hl, hh, hs, hw, fun j x hx => ih (hj j x hx)⟩
        | arr n e ih => intro id p cs x h; exact ⟨h.1, h.2.1, fun j y hy => ih (h.2.2 j y hy)⟩
        | pr a b iha ihb => intro id p cs x h; obtain ⟨c1, c2, rfl, h1, h2⟩ := h; exact ⟨c1, c2, rfl, iha h1, ihb h2⟩
      exact key (h.2.2 j y hy)⟩
  | pt => intro F F' id id' p p' cs x _ _ h; exact h
  | er => intro F F' id id' p p' cs x _ _ h; exact ErC.per hp h
  | pr a b iha ihb =>
    intro F F' id id' p p' cs x ho hf h
    simp only [flR, Bool.and_eq_true] at hf
    obtain ⟨c1, c2, rfl, h1, h2⟩ := h
    exact ⟨c1, c2, rfl, iha (fun b q hq => ho b ([0] ++ q) (by rw [← List.append_assoc]; exact hq)) hf.1 h1, ihb (fun b q hq => ho b ([1] ++ q) (by rw [← List.append_assoc]; exact hq)) hf.2 h2⟩

/-- an atom in place of what an id stood for -/
def sbA (id : Id) (a : At) : At → At
  | .own i => bif i.beq id then a else .own i
  | b => b
def sbL (id : Id) (a : At) : List At → List At
  | [] => []
  | b :: l => sbA id a b :: sbL id a l
def sbT (id : Id) (a : At) : List (Bool × List At) → List (Bool × List At)
  | [] => []
  | (ag, l) :: r => (ag, sbL id a l) :: sbT id a r
def sbE (id : Id) (a : At) : List (List At) → List (List At)
  | [] => []
  | l :: r => sbL id a l :: sbE id a r
def sbS (id : Id) (a : At) : SV → SV
  | .v ag l => .v ag (sbL id a l)
  | .fn f l => .fn f (sbL id a l)
  | .tup l => .tup (sbT id a l)
  | .junk => .junk
def sbR (id : Id) (a : At) : Res → Res
  | .var l => .var (sbL id a l)
  | .sl e f x => .sl e f x
  | .slo e f x j l => .slo e f x j (sbL id a l)
  | .els sz l => .els sz (sbE id a l)
  | .mp ak av K V F l => .mp ak av K V F l
  | .room i k => .room i k
  | .ch o e l => .ch o e l
  | .lvar l => .lvar (sbL id a l)
  | .pre i n => .pre i n
  | .bys l => .bys l
def sbSs (id : Id) (a : At) : List SV → List SV
  | [] => []
  | s :: r => sbS id a s :: sbSs id a r
def sbK (id : Id) (a : At) : List (List SV) → List (List SV)
  | [] => []
  | s :: r => sbSs id a s :: sbK id a r
def sbRs (id : Id) (a : At) : List (Id × Res) → List (Id × Res)
  | [] => []
  | (i, R) :: r => bif i.beq id then sbRs id a r else (i, sbR id a R) :: sbRs id a r
/-- what an id stands for is given up -/
def frzSt (id : Id) (st : St) : Option St :=
  match st with
  | ⟨t, rs, c, k⟩ => match look rs id with
    | some (.sl e f x) => bif flR Fo.frz (.sl e) (.sl .w f) pF then some ⟨sbSs id (.d (.sl e) pF x) t, sbRs id (.d (.sl e) pF x) rs, c, sbK id (.d (.sl e) pF x) k⟩ else none
    | _ => none
section
variable {G G' : Gh} {w : World} {id : Id} {a : At}
structure SbOk (G G' : Gh) (w : World) (id : Id) (a : At) : Prop where
  pb : KeepPB G G' w w
  rho : G'.ρ = G.ρ
  own : ∀ b i q, i ≠ id → G.g b = .own i q → G'.g b = .own i q
  at_ : MtA G' w a [G.ρ id]
  ids : a.ids = []
theorem MtA.sb (h : SbOk G G' w id a) {b : At} {cs : List Value} (m : MtA G w b cs) : MtA G' w (sbA id a b) cs := by
  have keep : MtA G' w b cs := MtA.keepR (old := fun _ => True) h.pb (fun i _ => by rw [h.rho]) (fun _ _ => trivial) m
  cases b with
  | own i =>
    simp only [sbA]
    cases hb : i.beq id with
    | true => rw [Id.eq_of_beq hb] at m; rw [show cs = _ from m]; exact h.at_
    | false => exact keep
  | _ => exact keep
theorem MtL.sb (h : SbOk G G' w id a) : ∀ {l : List At} {cs : List Value}, MtL G w l cs → MtL G' w (sbL id a l) cs := by
  intro l
  induction l with
  | nil => intro cs m; exact m
  | cons b r ih => intro cs m; obtain ⟨c1, c2, h1, h2, h3⟩ := m; exact ⟨c1, c2, h1, h2.sb h, ih h3⟩
theorem MtC.sb (h : SbOk G G' w id a) : ∀ {l : List At} {cs : List Value}, MtC G w l cs → MtC G' w (sbL id a l) cs := by
  intro l
  induction l with
  | nil => intro cs m; exact m
  | cons b r ih => intro cs m; obtain ⟨v, vs, h1, h2, h3, h4⟩ := m; exact ⟨v, vs, h1, h2, h3.sb h, ih h4⟩
theorem MtV.sb (h : SbOk G G' w id a) {ag : Bool} {l : List At} {v : Value} (m : MtV G w ag l v) : MtV G' w ag (sbL id a l) v := by
  cases ag with
  | true => obtain ⟨cs, h1, h2⟩ := m; exact ⟨cs, h1, h2.sb h⟩
  | false => exact ⟨m.1, m.2.sb h⟩
theorem MtVs.sb (h : SbOk G G' w id a) : ∀ {l : List (Bool × List At)} {vs : List Value}, MtVs G w l vs → MtVs G' w (sbT id a l) vs := by
  intro l
  induction l with
  | nil => intro cs m; exact m
  | cons b r ih => intro vs m; obtain ⟨ag, la⟩ := b; obtain ⟨v, vs', h1, h2, h3⟩ := m; exact ⟨v, vs', h1, h2.sb h, ih h3⟩
theorem MtS.sb (h : SbOk G G' w id a) {s : SV} {v : Value} (m : MtS G w s v) : MtS G' w (sbS id a s) v := by
  cases s with
  | v ag l => exact MtV.sb h m
  | fn f l => obtain ⟨vs, h1, h2⟩ := m; exact ⟨vs, h1, h2.sb h⟩
  | tup l => obtain ⟨vs, h1, h2⟩ := m; exact ⟨vs, h1, h2.sb h⟩
  | junk => trivial
theorem sbE_len {l : List (List At)} : (sbE id a l).length = l.length := by
  induction l with
  | nil => rfl
  | cons b r ih => simp [sbE, ih]
theorem MtEls.sb (h : SbOk G G' w id a) {sz : Nat} {C : Array Value} : ∀ {l : List (List At)} {off : Nat}, MtEls G w sz C off l → MtEls G' w sz C off (sbE id a l) := by
  intro l
  induction l with
  | nil => intro off m; exact m
  | cons b r ih => intro off m; exact ⟨m.1.sb h, ih m.2⟩
theorem MpOk.sbK (h : SbOk G G' w id a) {ak av : Bool} {K V : Ty} {F : Fl} : ∀ {l : List (K.den × V.den)} {es : List MapEntry}, MpOk G w ak av K V F l es → MpOk G' w ak av K V F l es := by
  have key : ∀ {ag : Bool} {T : Ty} {F : Fl} {x : T.den} {v : Value}, MtV G w ag (atomsOf T F x) v → MtV G' w ag (atomsOf T F x) v := by
    intro ag T F x v m
    have keep : ∀ {cs : List Value}, MtL G w (atomsOf T F x) cs → MtL G' w (atomsOf T F x) cs := fun m => MtL.keepR (old := fun _ => True) h.pb (fun i _ => by rw [h.rho]) (fun _ _ => trivial) m
    cases ag with
    | true => obtain ⟨cs, h1, h2⟩ := m; exact ⟨cs, h1, keep h2⟩
    | false => exact ⟨m.1, keep m.2⟩
  intro l
  induction l with
  | nil => intro es m; exact m
  | cons p l ih =>
    intro es m
    obtain ⟨e, es', h1, h2, h3, h4⟩ := m
    exact ⟨e, es', h1, key h2, key h3, ih h4⟩
theorem ResOk.sb (h : SbOk G G' w id a) {i : Id} {R : Res} (hi : i ≠ id) (m : ResOk G w i R) : ResOk G' w i (sbR id a R) := by
  cases R with
  | var l => obtain ⟨b, C, t, h1, h2, h3, h4⟩ := m; exact ⟨b, C, t, by rw [h.rho]; exact h1, h.own b i _ hi h2, h3, h4.sb h⟩
  | sl e f x =>
    show Tr G' w (.sl e) (.sl .w f) i [] [G'.ρ i] x
    rw [h.rho]
    exact Tr.mono h.pb (fun b q hq => ⟨h.own b i _ hi hq, rfl⟩) m
  | slo e f x k l =>
    obtain ⟨b, off, C, t, n, c, h1, h2, h3, h4, h5, h6, h7, h8, h9, h10⟩ := m
    exact ⟨b, off, C, t, n, c, by rw [h.rho]; exact h1, h2, h3, h4, h5, h.own b i _ hi h6, h7, h8, fun k y hk hy => Tr.mono h.pb (fun b q hq => ⟨h.own b i _ hi hq, rfl⟩) (h9 k y hk hy), h10.sb h⟩
  | els sz l =>
    obtain ⟨A, n, c, h1, h2, h3, h4, h5⟩ := m
    refine ⟨A, n, c, by rw [h.rho]; exact h1, by rw [sbE_len]; exact h2, h3, h4, h5.imp (fun h => h) ?_⟩
    rintro ⟨b, off, C, t, k1, k2, k3, k4, k5⟩
    exact ⟨b, off, C, t, k1, h.own b i _ hi k2, k3, k4, k5.sb h⟩
  | mp ak av K V F l =>
    obtain ⟨h0, r, es, clk, h1, h2, h3, h4⟩ := m
    exact ⟨h0, r, es, clk, by rw [h.rho]; exact h1, h.own r i _ hi h2, h3, h4.sbK h⟩
  | room i' k => obtain ⟨A, n, c, h1, h2⟩ := m; exact ⟨A, n, c, by rw [h.rho]; exact h1, h2⟩
  | ch o e l =>
    obtain ⟨ps, h1, h2, h3⟩ := m
    refine ⟨ps, by rw [h.rho]; exact h1, h2, fun k y hy => ?_⟩
    obtain ⟨b, C, t, cs, nx, g1, g2, g3, g4, g5, g6⟩ := h3 k y hy
    have hl : labC G' o i k b := by
      cases o with
      | true => exact h.own b i _ hi g3
      | false => exact (h.pb.bor b g3).1
    exact ⟨b, C, t, cs, nx, g1, g2, hl, g4, g5, g6.keep h.pb (noO_p e)⟩
  | lvar l => obtain ⟨b, C, t, h1, h2, h3, h4⟩ := m; exact ⟨b, C, t, by rw [h.rho]; exact h1, (h.pb.bor b h2).1, h3, h4.sb h⟩
  | bys l => obtain ⟨b, C, t, fz, c, h1, h2, h3, h4, h5, h6⟩ := m; exact ⟨b, C, t, fz, c, by rw [h.rho]; exact h1, h2, h3, h.own b i _ hi h4, h5, h6⟩
  | pre i' n => obtain ⟨ps, ps', h1, h2, h3⟩ := m; exact ⟨ps, ps', by rw [h.rho]; exact h1, by rw [h.rho]; exact h2, h3⟩
theorem getT_sb : ∀ {l : List SV} {i : Nat}, getT (sbSs id a l) i = sbS id a (getT l i) := by
  intro l
  induction l with
  | nil => intro i; rfl
  | cons s r ih => intro i; cases i with
    | zero => rfl
    | succ i => exact ih
theorem sbSs_len : ∀ {l : List SV}, (sbSs id a l).length = l.length := by
  intro l
  induction l with
  | nil => rfl
  | cons s r ih => simp [sbSs, ih]
theorem MtK.sb (h : SbOk G G' w id a) : ∀ {k : List (List SV)} {fs : List (Array Value)}, MtK G w k fs → MtK G' w (sbK id a k) fs := by
  intro k
  induction k with
  | nil => intro fs m; exact m
  | cons t r ih =>
    intro fs m
    obtain ⟨f, fs', h1, h2, h3⟩ := m
    exact ⟨f, fs', h1, ⟨by rw [sbSs_len]; exact h2.1, fun i => by rw [getT_sb]; exact (h2.2 i).sb h⟩, ih h3⟩
theorem look_sb : ∀ {rs : List (Id × Res)} {i : Id} {R : Res}, look (sbRs id a rs) i = some R → i ≠ id ∧ ∃ R0, look rs i = some R0 ∧ R = sbR id a R0 := by
  intro rs
  induction rs with
  | nil => intro i R h; cases h
  | cons p r ih =>
    intro i R h
    obtain ⟨j, S⟩ := p
    simp only [sbRs] at h
    cases hj : j.beq id with
    | true =>
      rw [hj] at h
      obtain ⟨h1, R0, h2, h3⟩ := ih h
      refine ⟨h1, R0, ?_, h3⟩
      simp only [look]
      cases hb : j.beq i with
      | true => exact absurd ((Id.eq_of_beq hb).symm.trans (Id.eq_of_beq hj)) h1
      | false => exact h2
    | false =>
      rw [hj] at h
      simp only [cond_false, look] at h ⊢
      cases hb : j.beq i with
      | true =>
        rw [hb] at h
        cases h
        rw [← Id.eq_of_beq hb]
        exact ⟨Id.beq_ne hj, S, rfl, rfl⟩
      | false =>
        rw [hb] at h
        exact ih h
theorem sbA_ids (ha : a.ids = []) {b : At} : ∀ j ∈ (sbA id a b).ids, j ∈ b.ids := by
  intro j hj
  cases b with
  | own i =>
    simp only [sbA] at hj
    cases hb : i.beq id with
    | true => rw [hb] at hj; simp only [cond_true] at hj; rw [ha] at hj; cases hj
    | false => rw [hb] at hj; exact hj
  | _ => exact hj
theorem sbL_ids (ha : a.ids = []) : ∀ {l : List At}, ∀ j ∈ idsL (sbL id a l), j ∈ idsL l := by
  intro l
  induction l with
  | nil => intro j hj; exact hj
  | cons b r ih =>
    intro j hj
    simp only [sbL, idsL, List.mem_append] at hj ⊢
    exact hj.imp (sbA_ids ha j) (ih j)
theorem sbT_ids (ha : a.ids = []) : ∀ {l : List (Bool × List At)}, ∀ j ∈ idsT (sbT id a l), j ∈ idsT l := by
  intro l
  induction l with
  | nil => intro j hj; exact hj
  | cons b r ih =>
    intro j hj
    obtain ⟨ag, l⟩ := b
    simp only [sbT, idsT, List.mem_append] at hj ⊢
    exact hj.imp (sbL_ids ha j) (ih j)
theorem sbE_ids (ha : a.ids = []) : ∀ {l : List (List At)}, ∀ j ∈ idsLL (sbE id a l), j ∈ idsLL l := by
  intro l
  induction l with
  | nil => intro j hj; exact hj
  | cons b r ih =>
    intro j hj
    simp only [sbE, idsLL, List.mem_append] at hj ⊢
    exact hj.imp (sbL_ids ha j) (ih j)
theorem sbS_ids (ha : a.ids = []) {s : SV} : ∀ j ∈ (sbS id a s).ids, j ∈ s.ids := by
  intro j hj
  cases s with
  | v ag l => exact sbL_ids ha j hj
  | fn f l => exact sbL_ids ha j hj
  | tup l => exact sbT_ids ha j hj
  | junk => exact hj
theorem sbR_ids (ha : a.ids = []) {R : Res} : ∀ j ∈ (sbR id a R).ids, j ∈ R.ids := by
  intro j hj
  cases R with
  | var l => exact sbL_ids ha j hj
  | sl e f x => exact hj
  | slo e f x k l => exact sbL_ids ha j hj
  | els sz l => exact sbE_ids ha j hj
  | mp ak av K V F l => exact hj
  | room i k => exact hj
  | ch o e l => exact hj
  | lvar l => exact sbL_ids ha j hj
  | pre i n => exact hj
  | bys l => exact hj
theorem sbSs_ids (ha : a.ids = []) : ∀ {l : List SV}, ∀ j ∈ idsS (sbSs id a l), j ∈ idsS l := by
  intro l
  induction l with
  | nil => intro j hj; exact hj
  | cons b r ih =>
    intro j hj
    simp only [sbSs, idsS, List.mem_append] at hj ⊢
    exact hj.imp (sbS_ids ha j) (ih j)
theorem sbK_ids (ha : a.ids = []) : ∀ {l : List (List SV)}, ∀ j ∈ idsK (sbK id a l), j ∈ idsK l := by
  intro l
  induction l with
  | nil => intro j hj; exact hj
  | cons b r ih =>
    intro j hj
    simp only [sbK, idsK, List.mem_append] at hj ⊢
    exact hj.imp (sbSs_ids ha j) (ih j)
end
theorem frz_ent {id : Id} {st st' : St} (h : frzSt id st = some st') : Ent st st' := by
  intro E G act w hs
  obtain ⟨t, rs, c, k⟩ := st
  simp only [frzSt] at h
  split at h
  · rename_i e f x hlk
    cases hf : flR Fo.frz (.sl e) (.sl .w f) pF with
    | false => rw [hf] at h; cases h
    | true =>
      rw [hf] at h
      cases h
      have hs' : SatF E (getT t) t.length (look rs) k (fun id => id.r ≤ c) G act w := hs
      let G' : Gh := ⟨G.ρ, fun b => match G.g b with | .own i q => (bif i.beq id then .per else .own i q) | l => l⟩
      have hpb : KeepPB G G' w w := ⟨fun b hb => ⟨by simp [G', hb], rfl⟩, fun b hb => ⟨by simp [G', hb], rfl⟩⟩
      have hr : Tr G w (.sl e) (.sl .w f) id [] [G.ρ id] x := hs'.rs id _ hlk
      have hok : SbOk G G' w id (.d (.sl e) pF x) := by
        refine ⟨hpb, rfl, fun b i q hi hg => ?_, ⟨noO_p _, ?_⟩, rfl⟩
        · simp only [G', hg]
          cases hb : i.beq id with
          | true => exact absurd (Id.eq_of_beq hb) hi
          | false => rfl
        · refine Tr.frz (fun b hb => (hpb.per b hb).1) (fun b q hq => ?_) hf hr
          simp only [G', hq, Id.beq_self, cond_true]
      refine ⟨G', ?_⟩
      show SatF E (getT _) _ (look _) _ (fun id => id.r ≤ c) G' act w
      refine ⟨⟨by rw [sbSs_len]; exact hs'.tms.1, fun i => by rw [getT_sb]; exact (hs'.tms.2 i).sb hok⟩, fun i R hi => ?_, hs'.st.sb hok, fun b hb => hs'.bnd b fun h => hb (by simp [G', h]), hs'.df, hs'.one, fun i j hj => ?_, fun i R hi => ?_, fun j hj => hs'.stO j (sbK_ids rfl j hj), hs'.os, hs'.tape, hs'.output, hs'.size, fun b hb => ?_⟩
      · obtain ⟨h1, R0, h2, rfl⟩ := look_sb hi
        exact (hs'.rs i R0 h2).sb hok h1
      · rw [getT_sb] at hj
        exact hs'.tmO i j (sbS_ids rfl j hj)
      · obtain ⟨h1, R0, h2, rfl⟩ := look_sb hi
        exact ⟨(hs'.rsO i R0 h2).1, fun j hj => (hs'.rsO i R0 h2).2 j (sbR_ids rfl j hj)⟩
      · obtain ⟨p1, p2, p3, p4⟩ := hs'.prot b hb
        refine ⟨p1, p2, ?_, p4⟩
        show (match G.g b with | .own i q => (bif i.beq id then Lab.per else .own i q) | l => l) = _
        cases hg : G.g b with
        | own j q => rw [hg] at p3; exact absurd p3.symm (p4 j q)
        | _ => rw [← p3, hg]
  · cases h
theorem sw_frz {P : Program} {c : Code} {st st' : St} {K : Exit → St → Prop} (id : Id) (h : frzSt id st = some st') (k : SW P c st' K) : SW P c st K := sw_ent (frz_ent h) k
/-! what lies in a slice that is owned is given up; a slice in parts is packed -/
def setR (id : Id) (R' : Res) : List (Id × Res) → List (Id × Res)
  | [] => []
  | (i, R) :: rs => bif i.beq id then (i, R') :: rs else (i, R) :: setR id R' rs
theorem look_setR {id : Id} {R' : Res} : ∀ {rs : List (Id × Res)} {i : Id} {R : Res}, look (setR id R' rs) i = some R → (i = id ∧ R = R') ∨ (i ≠ id ∧ look rs i = some R) := by
  intro rs
  induction rs with
  | nil => intro i R h; cases h
  | cons p r ih =>
    intro i R h
    obtain ⟨j, S⟩ := p
    simp only [setR] at h
    cases hj : j.beq id with
    | true =>
      rw [hj] at h
      simp only [cond_true, look] at h
      cases hb : j.beq i with
      | true => rw [hb] at h; cases h; exact .inl ⟨(Id.eq_of_beq hb).symm.trans (Id.eq_of_beq hj), rfl⟩
      | false =>
        rw [hb] at h
        refine .inr ⟨fun e => ?_, ?_⟩
        · rw [e, ← Id.eq_of_beq hj, Id.beq_self] at hb; cases hb
        · simp only [look, hb]; exact h
    | false =>
      rw [hj] at h
      simp only [cond_false, look] at h ⊢
      cases hb : j.beq i with
      | true => rw [hb] at h; cases h; exact .inr ⟨by rw [← Id.eq_of_beq hb]; exact Id.beq_ne hj, rfl⟩
      | false => rw [hb] at h; exact ih h
def frzInSt (id : Id) (st : St) : Option St :=
  match st with
  | ⟨t, rs, c, k⟩ => match look rs id with
    | some (.sl e f x) => bif flR Fo.frz e f pF then some ⟨t, setR id (.sl e pF x) rs, c, k⟩ else none
    | _ => none
/-- labels turn, what ids stand for stays but for one -/
theorem ent_res {G G' : Gh} {E : Env} {act : Act} {w : World} {t : List SV} {rs rs' : List (Id × Res)} {c : Nat} {k : List (List SV)} (hs : Sat E ⟨t, rs, c, k⟩ G act w) (hρ : G'.ρ = G.ρ) (hpb : KeepPB G G' w w) (hno : ∀ b, G.g b = .no → G'.g b = .no)
    (hr : ∀ i R, look rs' i = some R → ResOk G' w i R ∧ i.r ≤ c ∧ ∀ j ∈ R.ids, j.r ≤ c) : Sat E ⟨t, rs', c, k⟩ G' act w := by
  have hs' : SatF E (getT t) t.length (look rs) k (fun id => id.r ≤ c) G act w := hs
  have keepS : ∀ {s : SV} {v : Value}, MtS G w s v → MtS G' w s v := by
    intro s v m
    have kA : ∀ {a : At} {cs : List Value}, MtA G w a cs → MtA G' w a cs := fun m => MtA.keepR (old := fun _ => True) hpb (fun i _ => by rw [hρ]) (fun _ _ => trivial) m
    have kL : ∀ {l : List At} {cs : List Value}, MtL G w l cs → MtL G' w l cs := fun m => MtL.keepR (old := fun _ => True) hpb (fun i _ => by rw [hρ]) (fun _ _ => trivial) m
    have kV : ∀ {ag : Bool} {l : List At} {v : Value}, MtV G w ag l v → MtV G' w ag l v := by
      intro ag l v m
      cases ag with
      | true => obtain ⟨cs, h1, h2⟩ := m; exact ⟨cs, h1, kL h2⟩
      | false => exact ⟨m.1, kL m.2⟩
    have kC : ∀ {l : List At} {vs : List Value}, MtC G w l vs → MtC G' w l vs := by
      intro l
      induction l with
      | nil => intro vs m; exact m
      | cons a r ih => intro vs m; obtain ⟨v, vs', h1, h2, h3, h4⟩ := m; exact ⟨v, vs', h1, h2, kA h3, ih h4⟩
    have kT : ∀ {l : List (Bool × List At)} {vs : List Value}, MtVs G w l vs → MtVs G' w l vs := by
      intro l
      induction l with
      | nil => intro vs m; exact m
      | cons a r ih => intro vs m; obtain ⟨ag, la⟩ := a; obtain ⟨v, vs', h1, h2, h3⟩ := m; exact ⟨v, vs', h1, kV h2, ih h3⟩
    cases s with
    | v ag l => exact kV m
    | fn f l => obtain ⟨vs, h1, h2⟩ := m; exact ⟨vs, h1, kC h2⟩
    | tup l => obtain ⟨vs, h1, h2⟩ := m; exact ⟨vs, h1, kT h2⟩
    | junk => trivial
  have keepK : ∀ {k : List (List SV)} {fs : List (Array Value)}, MtK G w k fs → MtK G' w k fs := by
    intro k
    induction k with
    | nil => intro fs m; exact m
    | cons t r ih => intro fs m; obtain ⟨f, fs', h1, h2, h3⟩ := m; exact ⟨f, fs', h1, ⟨h2.1, fun i => keepS (h2.2 i)⟩, ih h3⟩
  show SatF E (getT t) t.length (look rs') k (fun id => id.r ≤ c) G' act w
  refine ⟨⟨hs'.tms.1, fun i => keepS (hs'.tms.2 i)⟩, fun i R h => (hr i R h).1, keepK hs'.st, fun b hb => hs'.bnd b fun h => hb (hno b h), hs'.df, fun i => by rw [hρ]; exact hs'.one i, hs'.tmO, fun i R h => (hr i R h).2, hs'.stO, hs'.os, hs'.tape, hs'.output, hs'.size, fun b hb => ?_⟩
  obtain ⟨p1, p2, p3, p4⟩ := hs'.prot b hb
  refine ⟨p1, p2, ?_, p4⟩
  rw [← p3]
  cases hg : G.g b with
  | no => exact hno b hg
  | per => exact (hpb.per b hg).1
  | bor => exact (hpb.bor b hg).1
  | own j q => rw [hg] at p3; exact absurd p3.symm (p4 j q)
theorem frzIn_ent {id : Id} {st st' : St} (h : frzInSt id st = some st') : Ent st st' := by
  intro E G act w hs
  obtain ⟨t, rs, c, k⟩ := st
  simp only [frzInSt] at h
  split at h
  · rename_i e f x hlk
    cases hf : flR Fo.frz e f pF with
    | false => rw [hf] at h; cases h
    | true =>
      rw [hf] at h
      cases h
      have hs' : SatF E (getT t) t.length (look rs) k (fun id => id.r ≤ c) G act w := hs
      let G' : Gh := ⟨G.ρ, fun b => match G.g b with | .own i q => (bif i.beq id then (match q with | [] => .own i [] | _ :: _ => .per) else .own i q) | l => l⟩
      have hpb : KeepPB G G' w w := ⟨fun b hb => ⟨by simp [G', hb], rfl⟩, fun b hb => ⟨by simp [G', hb], rfl⟩⟩
      have hr : Tr G w (.sl e) (.sl .w f) id [] [G.ρ id] x := hs'.rs id _ hlk
      have hother : ∀ b i q, i ≠ id → G.g b = .own i q → G'.g b = .own i q := fun b i q hi hg => by
        simp only [G', hg]
        cases hb : i.beq id with
        | true => exact absurd (Id.eq_of_beq hb) hi
        | false => rfl
      refine ⟨G', ent_res hs rfl hpb (fun b hb => by simp [G', hb]) fun i R hi => ?_⟩
      rcases look_setR hi with ⟨rfl, rfl⟩ | ⟨hne, hl⟩
      · refine ⟨?_, (hs'.rsO i _ hlk).1, fun j hj => by cases hj⟩
        obtain ⟨A, n, c, hcs, hn, hc, hm, hwf, hblk⟩ := hr
        refine ⟨A, n, c, hcs, hn, hc, hm, (fun h => by cases h), ?_⟩
        rcases hblk with hblk | ⟨b, off, C, tb, fz, hA, hl, hh, hs2, hw, hj⟩
        · exact .inl hblk
        · have hl' : G.g b = .own i [] := hl
          refine .inr ⟨b, off, C, tb, fz, hA, ?_, hh, hs2, hw, fun j y hy => ?_⟩
          · show G'.g b = .own i []
            simp only [G', hl', Id.beq_self, cond_true]
          · refine Tr.frz (fun b hb => (hpb.per b hb).1) (fun b q hq => ?_) hf (hj j y hy)
            simp only [List.nil_append, List.singleton_append] at hq
            simp only [G', hq, Id.beq_self, cond_true]
      · have hm := hs'.rs i R hl
        refine ⟨?_, hs'.rsO i R hl⟩
        exact ResOk.keep (G := G) (G' := G') (w := w) (w' := w) (old := fun _ => True) (chg := fun j => j = id) ⟨fun _ _ => rfl, hpb, fun b j q hg hj => ⟨hother b j q hj hg, rfl⟩, fun b _ hb => ⟨rfl, by simp [G', hb]⟩, fun b hb => hs'.bnd b fun h => hb (by simp [G', h]), fun h => h, rfl, rfl, rfl, Nat.le_refl _⟩ trivial (fun _ _ => trivial) hne hm
  · cases h
theorem sw_frzIn {P : Program} {c : Code} {st st' : St} {K : Exit → St → Prop} (id : Id) (h : frzInSt id st = some st') (k : SW P c st' K) : SW P c st K := sw_ent (frzIn_ent h) k
def dropsR (ids : List Id) (rs : List (Id × Res)) : List (Id × Res) := match rs with
  | [] => []
  | (i, R) :: r => bif hasN ids i then dropsR ids r else (i, R) :: dropsR ids r
theorem hasN_mem {l : List Id} {i : Id} : hasN l i = true ↔ i ∈ l := by
  induction l with
  | nil => simp [hasN]
  | cons x xs ih =>
    simp only [hasN, Bool.or_eq_true, ih, List.mem_cons]
    exact or_congr ⟨fun h => (Id.eq_of_beq h).symm, fun h => by rw [h]; exact Id.beq_self _⟩ Iff.rfl
theorem look_dropsR {ids : List Id} : ∀ {rs : List (Id × Res)} {i : Id} {R : Res}, look (dropsR ids rs) i = some R → i ∉ ids ∧ look rs i = some R := by
  intro rs
  induction rs with
  | nil => intro i R h; cases h
  | cons p r ih =>
    intro i R h
    obtain ⟨j, S⟩ := p
    simp only [dropsR] at h
    cases hj : hasN ids j with
    | true =>
      rw [hj] at h
      obtain ⟨h1, h2⟩ := ih h
      refine ⟨h1, ?_⟩
      simp only [look]
      cases hb : j.beq i with
      | true => rw [← Id.eq_of_beq hb] at h1; exact absurd (hasN_mem.1 hj) h1
      | false => exact h2
    | false =>
      rw [hj] at h
      simp only [cond_false, look] at h ⊢
      cases hb : j.beq i with
      | true =>
        rw [hb] at h
        refine ⟨fun hm => ?_, h⟩
        rw [← Id.eq_of_beq hb] at hm
        rw [hasN_mem.2 hm] at hj
        cases hj
      | false => rw [hb] at h; exact ih h
/-- a slice that is owned, in parts or with an element laid open, as one value -/
def packSt (id : Id) (e : Ty) (f : Fl) (st : St) : Option St :=
  match st with
  | ⟨t, rs, c, k⟩ => match (pack (.sl e) (.sl .w f) [.own id]).exec (look rs) with
    | some (⟨y, [], ids, []⟩, _) => bif nodupN ids && idsLe c [id] then some ⟨t, (id, .sl e f y) :: dropsR (id :: ids) rs, c, k⟩ else none
    | _ => none
theorem pack_ent {id : Id} {e : Ty} {f : Fl} {st st' : St} (h : packSt id e f st = some st') : Ent st st' := by
  intro E G act w hs
  obtain ⟨t, rs, c, k⟩ := st
  simp only [packSt] at h
  split at h
  · rename_i y ids tr hpk
    cases hnd : nodupN ids && idsLe c [id] with
    | false => rw [hnd] at h; cases h
    | true =>
      rw [hnd] at h
      cases h
      simp only [Bool.and_eq_true] at hnd
      have hs' : SatF E (getT t) t.length (look rs) k (fun id => id.r ≤ c) G act w := hs
      obtain ⟨c1, c2, hcs, hc1, hc2, hpacks⟩ := pack_sound hs'.rs (.sl e) (.sl .w f) [.own id] [G.ρ id] _ _ _ _ _ ⟨[G.ρ id], [], rfl, rfl, rfl⟩ hpk
      rw [show c2 = [] from hc2, List.append_nil] at hcs
      obtain ⟨mm, hmm, htr⟩ := hpacks (nodupN_iff.1 hnd.1)
      let G' : Gh := ⟨G.ρ, fun b => match G.g b with | .own i q => (match mm i with | some pos => .own id (pos ++ q) | none => .own i q) | l => l⟩
      have hpb : KeepPB G G' w w := ⟨fun b hb => ⟨by simp [G', hb], rfl⟩, fun b hb => ⟨by simp [G', hb], rfl⟩⟩
      refine ⟨G', ent_res hs rfl hpb (fun b hb => by simp [G', hb]) fun i R hi => ?_⟩
      simp only [look] at hi
      cases hb : id.beq i with
      | true =>
        rw [hb] at hi
        cases hi
        have := Id.eq_of_beq hb
        subst this
        refine ⟨?_, idsLe_spec hnd.2 _ (by simp), fun j hj => by cases hj⟩
        show Tr G' w (.sl e) (.sl .w f) id [] [G.ρ id] y
        rw [hcs]
        exact htr G' w id [] ⟨hpb, fun b i q pos hg hp => ⟨by simp [G', hg, hp], rfl⟩, fun b i q _ hi => absurd hi (by simp)⟩
      | false =>
        rw [hb] at hi
        obtain ⟨h1, h2⟩ := look_dropsR hi
        refine ⟨?_, hs'.rsO i R h2⟩
        exact ResOk.keep (G := G) (G' := G') (w := w) (w' := w) (old := fun _ => True) (chg := fun j => j ∈ ids) ⟨fun _ _ => rfl, hpb, fun b j q hg hj => ⟨by
            have : mm j = none := not_mem_none hmm hj
            simp [G', hg, this], rfl⟩, fun b _ hb => ⟨rfl, by simp [G', hb]⟩, fun b hb => hs'.bnd b fun h => hb (by simp [G', h]), fun h => h, rfl, rfl, rfl, Nat.le_refl _⟩ trivial (fun _ _ => trivial) (fun h => h1 (List.mem_cons_of_mem _ h)) (hs'.rs i R h2)
  · cases h
theorem sw_pack {P : Program} {c : Code} {st st' : St} {K : Exit → St → Prop} (id : Id) (e : Ty) (f : Fl) (h : packSt id e f st = some st') (k : SW P c st' K) : SW P c st K := sw_ent (pack_ent h) k
theorem MtOk.nil {P : Program} : MtOk P [] := ⟨(fun t k e h => by cases h), (fun t h => by cases h)⟩
theorem MtOk.cons {P : Program} {a k e : TypeId} {r : MT} (h : P.underlying a = some (.map k e)) (hr : MtOk P r) (hk : Nat.beq a k = false := by rfl) : MtOk P ((a, k, e) :: r) := by
  refine ⟨fun t k' e' hm => ?_, fun t ht => ?_⟩
  · simp only [mtOf, hk, Bool.not_false, Bool.and_true] at hm
    cases hb : Nat.beq a t with
    | true => rw [hb] at hm; cases hm; rw [← Nat.eq_of_beq_eq_true hb]; exact h
    | false => rw [hb] at hm; exact hr.1 t k' e' hm
  · simp only [eqT, hk, Bool.and_false, Bool.false_or] at ht
    exact hr.2 t ht
theorem MtOk.eqs {P : Program} {a e : TypeId} {r : MT} (h : eqChk P a = true) (hr : MtOk P r) : MtOk P ((a, a, e) :: r) := by
  have hr0 : Nat.beq a a = true := by simp
  refine ⟨fun t k' e' hm => ?_, fun t ht => ?_⟩
  · simp only [mtOf, hr0, Bool.not_true, Bool.and_false, cond_false] at hm
    exact hr.1 t k' e' hm
  · simp only [eqT, hr0, Bool.and_true, Bool.or_eq_true] at ht
    rcases ht with ht | ht
    · rw [← Nat.eq_of_beq_eq_true ht]; exact h
    · exact hr.2 t ht
/-- a test whose value is known to be one, under a condition -/
theorem sw_condA {P : Program} {st : St} {K : Exit → St → Prop} {c : Operand} {x y : Code} {Q : Prop} (h : evF (getT st.tmps) c = .v false [.anyb Q]) (t : Q → SW P x st K) (f : SW P y st K) : SW P (.cond c x y) st K := by
  intro E G a w hE hs
  have hm := evF_sound (hE.amb hs).2 hs.tms c
  rw [h] at hm
  obtain ⟨b, hb, hq⟩ := hm.at1.2
  simp only [List.cons.injEq, and_true] at hb
  exact wp_cond_split hb (fun hbt => t (hq hbt) E G a w hE hs) fun _ => f E G a w hE hs
end Go.Sx
