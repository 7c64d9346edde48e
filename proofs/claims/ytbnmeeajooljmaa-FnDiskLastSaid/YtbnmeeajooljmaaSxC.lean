/- Symbolic execution, part C: what a symbolic state says of a world: ghost labels of blocks, how a value lies in memory, and that this is kept. -/
import Derived.Test.YtbnmeeajooljmaaSxB
import Derived.Below
set_option linter.all false
namespace Go.Sx
open Go Go.RowKit

/-- Whose a block is: nobody's that we know of; one that stays; one that is lent to this call; the array at a place in what an id stands for. -/
inductive Lab
  | no
  | per
  | bor
  | own (id : Id) (p : List Nat)
structure Gh where
  ρ : Id → Value
  g : Nat → Lab

def mkS (s : Str) : ByteArray := ⟨s.toArray⟩

def labOk (G : Gh) (o : Fo) (b : Nat) (id : Id) (p : List Nat) : Prop :=
  match o with
  | .p => G.g b = .per
  | .b => G.g b = .per ∨ G.g b = .bor
  | .w => G.g b = .own id p

def cellsAt (C : Array Value) (o n : Nat) : List Value := (C.toList.drop o).take n

/-- The cells 'cs' are the value x of shape T, in memory w; what is owned lies under the label (id, p). -/
def Tr (G : Gh) (w : World) : (T : Ty) → Fl → Id → List Nat → List Value → T.den → Prop
  | .int k, _, _, _, cs, n => cs = [.int k n] ∧ inR k n
  | .bool, _, _, _, cs, b => cs = [.bool b]
  | .str, _, _, _, cs, s => cs = [.string (mkS s)] ∧ List.length s ≤ maxL
  | .sl e, F, id, p, cs, l => ∃ A n c, cs = [.slice A n c] ∧ n = List.length l ∧ n ≤ c ∧ n ≤ maxL ∧
      (F.hd.isO = false → e.noO F.el = true) ∧
      (((F.hd.isO = true → A = none) ∧ c = 0) ∨ ∃ b off C t fz, A = some ⟨b, off, none⟩ ∧ labOk G F.hd b id p ∧ w.heap[b]? = some (.cells C t fz) ∧ off + n * e.size ≤ C.size ∧
        (F.hd = .w → fz = (0, 0) ∧ off + c * e.size ≤ C.size) ∧
        ∀ (j : Nat) (x : e.den), (l : List e.den)[j]? = some x → Tr G w e F.el id (p ++ [j]) (cellsAt C (off + j * e.size) e.size) x)
  | .arr n e, _, _, _, cs, l => cs.length = n * e.size ∧ List.length l = n ∧
      ∀ (j : Nat) (x : e.den), (l : List e.den)[j]? = some x → Tr G w e pF default [] ((cs.drop (j * e.size)).take e.size) x
  | .pr a b, F, id, p, cs, x => ∃ c1 c2, cs = c1 ++ c2 ∧ Tr G w a F.l id (p ++ [0]) c1 x.1 ∧ Tr G w b F.r id (p ++ [1]) c2 x.2
  | .pt, _, _, _, cs, _ => cs = [.pointer none]

theorem cellsAt_len {C : Array Value} {o n : Nat} (h : o + n ≤ C.size) : (cellsAt C o n).length = n := by
  unfold cellsAt
  rw [List.length_take, List.length_drop, Array.length_toList]
  omega

theorem Tr.len {G : Gh} {w : World} : ∀ {T : Ty} {F : Fl} {id : Id} {p : List Nat} {cs : List Value} {x : T.den}, Tr G w T F id p cs x → cs.length = T.size := by
  intro T
  induction T with
  | int k => intro F id p cs x h; rw [h.1]; rfl
  | bool => intro F id p cs x h; rw [show cs = _ from h]; rfl
  | str => intro F id p cs x h; rw [h.1]; rfl
  | sl e ih => intro F id p cs x h; obtain ⟨A, n, c, h, _⟩ := h; rw [h]; rfl
  | arr n e ih => intro F id p cs x h; exact h.1
  | pr a b iha ihb =>
    intro F id p cs x h
    obtain ⟨c1, c2, rfl, h1, h2⟩ := h
    rw [List.length_append, iha h1, ihb h2]
    rfl
  | pt => intro F id p cs x h; rw [show cs = _ from h]; rfl

/-- what is nobody's to write, and what is lent, stays -/
structure KeepPB (G G' : Gh) (w w' : World) : Prop where
  per : ∀ b, G.g b = .per → G'.g b = .per ∧ w'.heap[b]? = w.heap[b]?
  bor : ∀ b, G.g b = .bor → G'.g b = .bor ∧ w'.heap[b]? = w.heap[b]?
theorem KeepPB.refl (G : Gh) (w : World) : KeepPB G G w w := ⟨fun _ h => ⟨h, rfl⟩, fun _ h => ⟨h, rfl⟩⟩
theorem KeepPB.trans {G G1 G2 : Gh} {w w1 w2 : World} (h : KeepPB G G1 w w1) (k : KeepPB G1 G2 w1 w2) : KeepPB G G2 w w2 :=
  ⟨fun b hb => ⟨(k.per b (h.per b hb).1).1, (k.per b (h.per b hb).1).2.trans (h.per b hb).2⟩, fun b hb => ⟨(k.bor b (h.bor b hb).1).1, (k.bor b (h.bor b hb).1).2.trans (h.bor b hb).2⟩⟩

theorem labOk_keep {G G' : Gh} {w w' : World} (hk : KeepPB G G' w w') {o : Fo} (ho : o.isO = false) {b : Nat} {id id' : Id} {p p' : List Nat} (h : labOk G o b id p) :
    labOk G' o b id' p' ∧ w'.heap[b]? = w.heap[b]? := by
  cases o with
  | p => exact hk.per b h
  | b =>
    rcases h with hl | hl
    · exact ⟨.inl (hk.per b hl).1, (hk.per b hl).2⟩
    · exact ⟨.inr (hk.bor b hl).1, (hk.bor b hl).2⟩
  | w => cases ho
theorem noO_p : ∀ T : Ty, T.noO pF = true := by
  intro T
  induction T with
  | sl e ih => simpa [Ty.noO, pF, Fl.hd, Fl.el, Fo.isO] using ih
  | pr a b iha ihb => simp only [Ty.noO, pF, Fl.l, Fl.r, Bool.and_eq_true]; exact ⟨iha, ihb⟩
  | _ => rfl
theorem noO_b : ∀ T : Ty, T.noO (.all .b) = true := by
  intro T
  induction T with
  | sl e ih => simpa [Ty.noO, pF, Fl.hd, Fl.el, Fo.isO] using ih
  | pr a b iha ihb => simp only [Ty.noO, pF, Fl.l, Fl.r, Bool.and_eq_true]; exact ⟨iha, ihb⟩
  | _ => rfl
/-- where nothing is owned the label does not matter -/
theorem Tr.keep {G G' : Gh} {w w' : World} (hk : KeepPB G G' w w') : ∀ {T : Ty} {F : Fl} {id id' : Id} {p p' : List Nat} {cs : List Value} {x : T.den},
    T.noO F = true → Tr G w T F id p cs x → Tr G' w' T F id' p' cs x := by
  intro T
  induction T with
  | int k => intro F id id' p p' cs x _ h; exact h
  | bool => intro F id id' p p' cs x _ h; exact h
  | str => intro F id id' p p' cs x _ h; exact h
  | sl e ih =>
    intro F id id' p p' cs x ho h
    simp only [Ty.noO, Bool.and_eq_true, Bool.not_eq_true'] at ho
    obtain ⟨A, n, c, hcs, hn, hc, hm, hwf, h⟩ := h
    refine ⟨A, n, c, hcs, hn, hc, hm, hwf, ?_⟩
    rcases h with h | ⟨b, off, C, t, fz, hA, hl, hh, hs, hw, hj⟩
    · exact .inl h
    · have hb := labOk_keep hk (id' := id') (p' := p') ho.1 hl
      exact .inr ⟨b, off, C, t, fz, hA, hb.1, by rw [hb.2]; exact hh, hs, hw, fun j x hx => ih ho.2 (hj j x hx)⟩
  | arr n e ih =>
    intro F id id' p p' cs x ho h
    exact ⟨h.1, h.2.1, fun j y hy => ih (noO_p e) (h.2.2 j y hy)⟩
  | pr a b iha ihb =>
    intro F id id' p p' cs x ho h
    simp only [Ty.noO, Bool.and_eq_true] at ho
    obtain ⟨c1, c2, rfl, h1, h2⟩ := h
    exact ⟨c1, c2, rfl, iha ho.1 h1, ihb ho.2 h2⟩
  | pt => intro F id id' p p' cs x _ h; exact h

/-- what is owned goes over from one label to another -/
theorem Tr.mono {G G' : Gh} {w w' : World} (hk : KeepPB G G' w w') : ∀ {T : Ty} {F : Fl} {id id' : Id} {p p' : List Nat} {cs : List Value} {x : T.den},
    (∀ b q, G.g b = .own id (p ++ q) → G'.g b = .own id' (p' ++ q) ∧ w'.heap[b]? = w.heap[b]?) → Tr G w T F id p cs x → Tr G' w' T F id' p' cs x := by
  intro T
  induction T with
  | int k => intro F id id' p p' cs x _ h; exact h
  | bool => intro F id id' p p' cs x _ h; exact h
  | str => intro F id id' p p' cs x _ h; exact h
  | sl e ih =>
    intro F id id' p p' cs x ho h
    obtain ⟨A, n, c, hcs, hn, hc, hm, hwf, h⟩ := h
    refine ⟨A, n, c, hcs, hn, hc, hm, hwf, ?_⟩
    rcases h with h | ⟨b, off, C, t, fz, hA, hl, hh, hs, hw, hj⟩
    · exact .inl h
    · have hb : labOk G' F.hd b id' p' ∧ w'.heap[b]? = w.heap[b]? := by
        cases hF : F.hd with
        | p => rw [hF] at hl; exact labOk_keep hk rfl hl
        | b => rw [hF] at hl; exact labOk_keep hk rfl hl
        | w =>
          rw [hF] at hl
          have := ho b [] (by rw [List.append_nil]; exact hl)
          rw [List.append_nil] at this
          exact this
      refine .inr ⟨b, off, C, t, fz, hA, hb.1, by rw [hb.2]; exact hh, hs, hw, fun j x hx => ?_⟩
      refine ih (fun b q hq => ?_) (hj j x hx)
      have := ho b ([j] ++ q) (by rw [← List.append_assoc]; exact hq)
      rw [← List.append_assoc] at this
      exact this
  | arr n e ih =>
    intro F id id' p p' cs x ho h
    exact ⟨h.1, h.2.1, fun j y hy => Tr.keep hk (noO_p e) (h.2.2 j y hy)⟩
  | pr a b iha ihb =>
    intro F id id' p p' cs x ho h
    obtain ⟨c1, c2, rfl, h1, h2⟩ := h
    refine ⟨c1, c2, rfl, iha (fun b q hq => ?_) h1, ihb (fun b q hq => ?_) h2⟩
    · have := ho b ([0] ++ q) (by rw [← List.append_assoc]; exact hq)
      rw [← List.append_assoc] at this
      exact this
    · have := ho b ([1] ++ q) (by rw [← List.append_assoc]; exact hq)
      rw [← List.append_assoc] at this
      exact this
  | pt => intro F id id' p p' cs x _ h; exact h

theorem noO_le : ∀ {T : Ty} {F F' : Fl}, flR Fo.le T F F' = true → T.noO F = true → T.noO F' = true := by
  intro T
  induction T with
  | sl e ih =>
    intro F F' h h0
    simp only [flR, Ty.noO, Bool.and_eq_true, Bool.not_eq_true'] at h h0 ⊢
    refine ⟨?_, ih h.2 h0.2⟩
    have h1 := h.1
    cases hF : F.hd <;> cases hF' : F'.hd <;> rw [hF, hF'] at h1 <;> first | rfl | (cases h1; done) | (rw [hF] at h0; cases h0.1)
  | pr a b iha ihb =>
    intro F F' h h0
    simp only [flR, Ty.noO, Bool.and_eq_true] at h h0 ⊢
    exact ⟨iha h.1 h0.1, ihb h.2 h0.2⟩
  | _ => intro F F' _ _; rfl
theorem noO_lend : ∀ {T : Ty} {F F' : Fl}, flR Fo.lend T F F' = true → T.noO F' = true := by
  intro T
  induction T with
  | sl e ih =>
    intro F F' h
    simp only [flR, Ty.noO, Bool.and_eq_true, Bool.not_eq_true'] at h ⊢
    refine ⟨?_, ih h.2⟩
    have h1 := h.1
    cases hF : F.hd <;> cases hF' : F'.hd <;> rw [hF, hF'] at h1 <;> first | rfl | (cases h1; done)
  | pr a b iha ihb =>
    intro F F' h
    simp only [flR, Ty.noO, Bool.and_eq_true] at h ⊢
    exact ⟨iha h.1, ihb h.2⟩
  | _ => intro F F' _; rfl
/-- what stays may be taken for what is lent -/
theorem Tr.le {G : Gh} {w : World} : ∀ {T : Ty} {F F' : Fl} {id : Id} {p : List Nat} {cs : List Value} {x : T.den},
    flR Fo.le T F F' = true → Tr G w T F id p cs x → Tr G w T F' id p cs x := by
  intro T
  induction T with
  | int k => intro F F' id p cs x _ h; exact h
  | bool => intro F F' id p cs x _ h; exact h
  | str => intro F F' id p cs x _ h; exact h
  | sl e ih =>
    intro F F' id p cs x hf h
    simp only [flR, Bool.and_eq_true] at hf
    obtain ⟨A, n, c, hcs, hn, hc, hm, hwf, h⟩ := h
    refine ⟨A, n, c, hcs, hn, hc, hm, fun hF' => noO_le hf.2 (hwf ?_), ?_⟩
    · have h1 := hf.1
      cases hF : F.hd <;> cases hF2 : F'.hd <;> rw [hF, hF2] at h1 <;> first | rfl | (cases h1; done) | (rw [hF2] at hF'; cases hF')
    rcases h with h | ⟨b, off, C, t, fz, hA, hl, hh, hs, hw, hj⟩
    · refine .inl ⟨fun hF' => h.1 ?_, h.2⟩
      have h1 := hf.1
      cases hF : F.hd <;> cases hF2 : F'.hd <;> rw [hF, hF2] at h1 <;> first | rfl | (cases h1; done) | (rw [hF2] at hF'; cases hF')
    · refine .inr ⟨b, off, C, t, fz, hA, ?_, hh, hs, fun e => ?_, fun j x hx => ih hf.2 (hj j x hx)⟩
      · have h1 := hf.1
        cases hF : F.hd <;> cases hF' : F'.hd <;> rw [hF, hF'] at h1 <;> first
          | (cases h1; done)
          | (rw [hF] at hl; exact hl)
          | (rw [hF] at hl; exact .inl hl)
      · refine hw ?_
        have h1 := hf.1
        rw [e] at h1
        cases hF : F.hd <;> rw [hF] at h1 <;> first | rfl | cases h1
  | arr n e ih => intro F F' id p cs x _ h; exact h
  | pr a b iha ihb =>
    intro F F' id p cs x hf h
    simp only [flR, Bool.and_eq_true] at hf
    obtain ⟨c1, c2, rfl, h1, h2⟩ := h
    exact ⟨c1, c2, rfl, iha hf.1 h1, ihb hf.2 h2⟩
  | pt => intro F F' id p cs x _ h; exact h

/-- what is owned may be lent, to one for whom it is labelled so -/
structure Lends (G G' : Gh) (w : World) : Prop where
  per : ∀ b, G.g b = .per → G'.g b = .per
  bor : ∀ b, G.g b = .bor → G'.g b = .bor
theorem Tr.lend {G G' : Gh} {w : World} (hk : Lends G G' w) : ∀ {T : Ty} {F F' : Fl} {id id' : Id} {p p' : List Nat} {cs : List Value} {x : T.den},
    (∀ b q, G.g b = .own id (p ++ q) → G'.g b = .bor) → flR Fo.lend T F F' = true → Tr G w T F id p cs x → Tr G' w T F' id' p' cs x := by
  intro T
  induction T with
  | int k => intro F F' id id' p p' cs x _ _ h; exact h
  | bool => intro F F' id id' p p' cs x _ _ h; exact h
  | str => intro F F' id id' p p' cs x _ _ h; exact h
  | sl e ih =>
    intro F F' id id' p p' cs x ho hf h
    simp only [flR, Bool.and_eq_true] at hf
    obtain ⟨A, n, c, hcs, hn, hc, hm, hwf, h⟩ := h
    refine ⟨A, n, c, hcs, hn, hc, hm, fun _ => noO_lend hf.2, ?_⟩
    rcases h with h | ⟨b, off, C, t, fz, hA, hl, hh, hs, hw, hj⟩
    · refine .inl ⟨fun hF' => ?_, h.2⟩
      have h1 := hf.1
      cases hF : F.hd <;> cases hF2 : F'.hd <;> rw [hF, hF2] at h1 <;> first | (cases h1; done) | (rw [hF2] at hF'; cases hF')
    · refine .inr ⟨b, off, C, t, fz, hA, ?_, hh, hs, fun e => ?_, fun j x hx => ih (fun b q hq => ho b ([j] ++ q) (by rw [← List.append_assoc]; exact hq)) hf.2 (hj j x hx)⟩
      · have h1 := hf.1
        have hw' : G.g b = .own id p → G'.g b = .bor := fun h => ho b [] (by rw [List.append_nil]; exact h)
        cases hF : F.hd <;> cases hF' : F'.hd <;> rw [hF, hF'] at h1 <;> first
          | (cases h1; done)
          | (rw [hF] at hl; exact hk.per b hl)
          | (rw [hF] at hl; exact .inl (hk.per b hl))
          | (rw [hF] at hl; exact hl.elim (fun h => .inl (hk.per b h)) (fun h => .inr (hk.bor b h)))
          | (rw [hF] at hl; exact .inr (hw' hl))
      · have h1 := hf.1
        rw [e] at h1
        cases hF : F.hd <;> rw [hF] at h1 <;> cases h1
  | arr n e ih => intro F F' id id' p p' cs x ho _ h; exact ⟨h.1, h.2.1, fun j y hy => Tr.keep (G := G) (G' := G') ⟨fun b hb => ⟨hk.per b hb, rfl⟩, fun b hb => ⟨hk.bor b hb, rfl⟩⟩ (noO_p e) (h.2.2 j y hy)⟩
  | pr a b iha ihb =>
    intro F F' id id' p p' cs x ho hf h
    simp only [flR, Bool.and_eq_true] at hf
    obtain ⟨c1, c2, rfl, h1, h2⟩ := h
    exact ⟨c1, c2, rfl, iha (fun b q hq => ho b ([0] ++ q) (by rw [← List.append_assoc]; exact hq)) hf.1 h1, ihb (fun b q hq => ho b ([1] ++ q) (by rw [← List.append_assoc]; exact hq)) hf.2 h2⟩
  | pt => intro F F' id id' p p' cs x _ _ h; exact h

/-! ### Atoms, values, what ids stand for -/

/-- the pointers of a chain, as its name keeps them -/
def psOf : Value → Option (List Value)
  | .func _ _ vs => some vs.toList
  | .slice none 0 0 => some [.pointer none]
  | _ => none
def MtA (G : Gh) (w : World) : At → List Value → Prop
  | .d T F x, cs => T.noO F = true ∧ Tr G w T F default [] cs x
  | .kb b, cs => cs = [.bool b]
  | .nils, cs => cs = [.slice none 0 0]
  | .own id, cs => cs = [G.ρ id]
  | .ptr id off, cs => ∃ b, G.ρ id = .pointer (some ⟨b, 0, none⟩) ∧ cs = [.pointer (some ⟨b, off, none⟩)]
  | .opt id i sz off _, cs => ∃ b o n c, G.ρ id = .slice (some ⟨b, o, none⟩) n c ∧ cs = [.pointer (some ⟨b, o + i * sz + off, none⟩)]
  | .rpt o T F x, cs => T.noO F = true ∧ o.isO = false ∧ ∃ b off C t fz, cs = [.pointer (some ⟨b, off, none⟩)] ∧ labOk G o b default [] ∧ w.heap[b]? = some (.cells C t fz) ∧ off + T.size ≤ C.size ∧
      Tr G w T F default [] (cellsAt C off T.size) x
  | .nilp, cs => cs = [.pointer none]
  | .junk, cs => ∃ v, Value.oneCell' v = true ∧ cs = [v]
  | .anyb P, cs => ∃ b, cs = [.bool b] ∧ (b = true → P)
  | .sub id lo hi sz inn, cs => ∃ A n c, G.ρ id = .slice A n c ∧ lo ≤ hi ∧ hi ≤ c ∧ (inn = true → hi ≤ n) ∧ cs = [.slice (if c = lo then A else A.map (·.add (lo * sz))) (hi - lo) (c - lo)]
  | .chp id i, cs => ∃ ps A, psOf (G.ρ id) = some ps ∧ ps[i]? = some (.pointer A) ∧ cs = [.pointer A]
  | .chf id i off, cs => ∃ ps b, psOf (G.ρ id) = some ps ∧ ps[i]? = some (.pointer (some ⟨b, 0, none⟩)) ∧ cs = [.pointer (some ⟨b, off, none⟩)]
  | .lnk id0 off id i sz, cs => (i = 0 ∧ ∃ b, G.ρ id0 = .pointer (some ⟨b, 0, none⟩) ∧ cs = [.pointer (some ⟨b, off, none⟩)]) ∨
      ∃ k ps b, i = k + 1 ∧ psOf (G.ρ id) = some ps ∧ ps[k]? = some (.pointer (some ⟨b, 0, none⟩)) ∧ cs = [.pointer (some ⟨b, sz, none⟩)]
  | .vp id off i _ e, cs => ∃ b, G.ρ id = .pointer (some ⟨b, 0, none⟩) ∧ cs = [.pointer (some ⟨b, off + i * e.size, none⟩)]
  | .vsl id off n _, cs => ∃ b, G.ρ id = .pointer (some ⟨b, 0, none⟩) ∧ cs = [.slice (some ⟨b, off, none⟩) n n]
def MtL (G : Gh) (w : World) : List At → List Value → Prop
  | [], cs => cs = []
  | a :: r, cs => ∃ c1 c2, cs = c1 ++ c2 ∧ MtA G w a c1 ∧ MtL G w r c2

theorem MtA.len {G : Gh} {w : World} {a : At} {cs : List Value} (h : MtA G w a cs) : cs.length = a.size := by
  cases a with
  | d T F x => exact h.2.len
  | kb b => rw [show cs = _ from h]; rfl
  | nils => rw [show cs = _ from h]; rfl
  | own id => rw [show cs = _ from h]; rfl
  | ptr id off => obtain ⟨b, _, h⟩ := h; rw [h]; rfl
  | opt id i sz off T => obtain ⟨b, o, n, c, _, h⟩ := h; rw [h]; rfl
  | rpt o T F x => obtain ⟨_, _, b, off, C, t, fz, h, _⟩ := h; rw [h]; rfl
  | nilp => rw [show cs = _ from h]; rfl
  | junk => obtain ⟨v, _, h⟩ := h; rw [h]; rfl
  | anyb P => obtain ⟨b, h, _⟩ := h; rw [h]; rfl
  | sub id lo hi sz inn => obtain ⟨A, n, c, _, _, _, _, h⟩ := h; rw [h]; rfl
  | chp id i => obtain ⟨ps, A, _, _, h⟩ := h; rw [h]; rfl
  | chf id i off => obtain ⟨ps, b, _, _, h⟩ := h; rw [h]; rfl
  | lnk id0 off id i sz => rcases h with ⟨_, b, _, h⟩ | ⟨k, ps, b, _, _, _, h⟩ <;> (rw [h]; rfl)
  | vp id off i n e => obtain ⟨b, _, h⟩ := h; rw [h]; rfl
  | vsl id off n sz => obtain ⟨b, _, h⟩ := h; rw [h]; rfl
theorem MtL.len {G : Gh} {w : World} : ∀ {l : List At} {cs : List Value}, MtL G w l cs → cs.length = sizeL l := by
  intro l
  induction l with
  | nil => intro cs h; rw [show cs = _ from h]; rfl
  | cons a r ih =>
    intro cs h
    obtain ⟨c1, c2, rfl, h1, h2⟩ := h
    rw [List.length_append, h1.len, ih h2]
    rfl
theorem MtL.append {G : Gh} {w : World} : ∀ {l m : List At} {c d : List Value}, MtL G w l c → MtL G w m d → MtL G w (l ++ m) (c ++ d) := by
  intro l
  induction l with
  | nil => intro m c d h k; rw [show c = _ from h]; exact k
  | cons a r ih =>
    intro m c d h k
    obtain ⟨c1, c2, rfl, h1, h2⟩ := h
    exact ⟨c1, c2 ++ d, List.append_assoc _ _ _, h1, ih h2 k⟩
theorem MtL.one {G : Gh} {w : World} {a : At} {c : List Value} (h : MtA G w a c) : MtL G w [a] c := ⟨c, [], by rw [List.append_nil], h, rfl⟩
theorem MtL.one_inv {G : Gh} {w : World} {a : At} {c : List Value} (h : MtL G w [a] c) : MtA G w a c := by
  obtain ⟨c1, c2, rfl, h1, h2⟩ := h
  rw [show c2 = [] from h2, List.append_nil]
  exact h1

/-- a value in a slot; 'ag': an aggregate -/
def MtV (G : Gh) (w : World) (ag : Bool) (l : List At) (v : Value) : Prop :=
  match ag with
  | true => ∃ cs : List Value, v = .agg cs.toArray ∧ MtL G w l cs
  | false => v.oneCell' = true ∧ MtL G w l [v]
def MtVs (G : Gh) (w : World) : List (Bool × List At) → List Value → Prop
  | [], vs => vs = []
  | (ag, l) :: r, vs => ∃ v vs', vs = v :: vs' ∧ MtV G w ag l v ∧ MtVs G w r vs'
/-- single values, one by one -/
def MtC (G : Gh) (w : World) : List At → List Value → Prop
  | [], vs => vs = []
  | a :: r, vs => ∃ v vs', vs = v :: vs' ∧ v.oneCell' = true ∧ MtA G w a [v] ∧ MtC G w r vs'
def MtS (G : Gh) (w : World) : SV → Value → Prop
  | .v ag l, v => MtV G w ag l v
  | .fn f caps, v => ∃ vs : List Value, v = .func (.func f) #[] vs.toArray ∧ MtC G w caps vs
  | .tup l, v => ∃ vs : List Value, v = .tuple vs.toArray ∧ MtVs G w l vs
  | .junk, _ => True

/-- a slice's elements, each as atoms -/
def MtEls (G : Gh) (w : World) (sz : Nat) (C : Array Value) (off : Nat) : List (List At) → Prop
  | [] => True
  | l :: r => MtL G w l (cellsAt C off sz) ∧ MtEls G w sz C (off + sz) r
/-- a map's entries -/
def MpOk (G : Gh) (w : World) (ak av : Bool) (K V : Ty) (F : Fl) : List (K.den × V.den) → List MapEntry → Prop
  | [], es => es = []
  | p :: l, es => ∃ e es', es = e :: es' ∧ MtV G w ak (atomsOf K pF p.1) e.key ∧ MtV G w av (atomsOf V F p.2) e.val ∧ MpOk G w ak av K V F l es'
/-- whose a chain's element is -/
def labC (G : Gh) (o : Bool) (id : Id) (k b : Nat) : Prop := match o with
  | true => G.g b = .own id [k]
  | false => G.g b = .bor
def ResOk (G : Gh) (w : World) (id : Id) : Res → Prop
  | .var cs => ∃ b C t, G.ρ id = .pointer (some ⟨b, 0, none⟩) ∧ G.g b = .own id [] ∧ w.heap[b]? = some (.cells C t (0, 0)) ∧ MtL G w cs C.toList
  | .sl e f x => Tr G w (.sl e) (.sl .w f) id [] [G.ρ id] x
  | .slo e f x j cs => ∃ b off C t n c, G.ρ id = .slice (some ⟨b, off, none⟩) n c ∧ n = x.length ∧ n ≤ c ∧ n ≤ maxL ∧ j < n ∧ G.g b = .own id [] ∧ w.heap[b]? = some (.cells C t (0, 0)) ∧
      off + c * e.size ≤ C.size ∧ (∀ (k : Nat) (y : e.den), k ≠ j → x[k]? = some y → Tr G w e f id [k] (cellsAt C (off + k * e.size) e.size) y) ∧ MtL G w cs (cellsAt C (off + j * e.size) e.size)
  | .els sz css => ∃ A n c, G.ρ id = .slice A n c ∧ n = css.length ∧ n ≤ c ∧ n ≤ maxL ∧
      ((A = none ∧ c = 0) ∨ ∃ b off C t, A = some ⟨b, off, none⟩ ∧ G.g b = .own id [] ∧ w.heap[b]? = some (.cells C t (0, 0)) ∧ off + c * sz ≤ C.size ∧ MtEls G w sz C off css)
  | .mp ak av K V F l => V.noO F = true ∧ ∃ r es clk, G.ρ id = .map (some r) ∧ G.g r = .own id [] ∧ w.heap[r]? = some (.map es clk) ∧ MpOk G w ak av K V F l es.toList
  | .room i k => ∃ A n c, G.ρ i = .slice A n c ∧ k ≤ c
  | .ch o e l => ∃ ps, psOf (G.ρ id) = some ps ∧ ps[l.length]? = some (.pointer none) ∧ ∀ (k : Nat) (y : e.den), l[k]? = some y → ∃ b C t cs nx, ps[k]? = some (.pointer (some ⟨b, 0, none⟩)) ∧ ps[k + 1]? = some (.pointer nx) ∧
      labC G o id k b ∧ w.heap[b]? = some (.cells C t (0, 0)) ∧ C.toList = cs ++ [.pointer nx] ∧ Tr G w e pF default [] cs y
  | .lvar cs => ∃ b C t, G.ρ id = .pointer (some ⟨b, 0, none⟩) ∧ G.g b = .bor ∧ w.heap[b]? = some (.cells C t (0, 0)) ∧ MtL G w cs C.toList
  | .bys l => ∃ b C t fz c, G.ρ id = .slice (some ⟨b, 0, none⟩) l.length c ∧ l.length ≤ c ∧ l.length ≤ maxL ∧ G.g b = .own id [] ∧ w.heap[b]? = some (.cells C t fz) ∧ l.length ≤ fz.1 ∧ l.length ≤ C.size ∧
      ∀ (j : Nat) (x : Int), l[j]? = some x → C[j]? = some (.int .u8 x) ∧ inR .u8 x
  | .pre i n => ∃ ps ps', psOf (G.ρ id) = some ps ∧ psOf (G.ρ i) = some ps' ∧ ∀ k, k < n → ps'[k]? = ps[k]?

theorem varOf_at {G : Gh} {w : World} {id : Id} {o : Option Res} {cs : List At} (h : varOf o = some cs) (hR : ∀ R, o = some R → ResOk G w id R) : ∃ b C t, G.ρ id = .pointer (some ⟨b, 0, none⟩) ∧ (G.g b = .own id [] ∨ G.g b = .bor) ∧ w.heap[b]? = some (.cells C t (0, 0)) ∧ MtL G w cs C.toList := by
  unfold varOf at h
  split at h
  · cases h
    obtain ⟨b, C, t, h1, h2, h3, h4⟩ := hR _ rfl
    exact ⟨b, C, t, h1, .inl h2, h3, h4⟩
  · cases h
    obtain ⟨b, C, t, h1, h2, h3, h4⟩ := hR _ rfl
    exact ⟨b, C, t, h1, .inr h2, h3, h4⟩
  · cases h

end Go.Sx
