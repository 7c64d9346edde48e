/- Symbolic execution, part Na: maps; a slice against nil; min, max. -/
import Derived.Test.YtbnmeeajooljmaaSxN
import Derived.MapKept
import Derived.Lib.SliceRun
set_option linter.all false
namespace Go.Sx
open Go Go.RowKit Go.MapKept
def eqChk (P : Program) (t : TypeId) : Bool := !P.stoodInHeld t && (!P.eqGuardType P.depth t && (match P.underlying t with
  | some (.struct fs) => fs.toList.all fun f => f.name != "_"
  | _ => false))
def MtOk (P : Program) (mt : MT) : Prop := (∀ t k e, mtOf mt t = some (k, e) → P.underlying t = some (.map k e)) ∧ ∀ t, eqT mt t = true → eqChk P t = true
theorem MtV.cells' {G : Gh} {w : World} {ag : Bool} {l : List At} {v : Value} (h : MtV G w ag l v) : v = mkV ag v.cells.toList ∧ (ag = false → v.cells.toList.length = 1) ∧ MtL G w l v.cells.toList := by
  have hc := MtV.cells h
  cases ag with
  | true => obtain ⟨cs, rfl, _⟩ := h; exact ⟨by simp [mkV, Value.cells], by simp, hc⟩
  | false =>
    have hv : v.cells = #[v] := by cases v <;> first | rfl | (simp [MtV, Value.oneCell'] at h)
    exact ⟨by simp [mkV, hv], by simp [hv], hc⟩
theorem boolEq_eq {a b : Bool} (h : boolEq a b = true) : a = b := by cases a <;> cases b <;> simp [boolEq] at h <;> rfl
section
variable {P : Program} {tt : TT} {mt : MT} (T : TtOk P tt) (TM : MtOk P mt) {old : Id → Prop} {G : Gh} {w : World} {lk : Id → Option Res} (hb : ∀ b, G.g b ≠ .no → b < w.heap.size)
/-- a plain key's type -/
theorem key_und (T : TtOk P tt) {t t1 : TypeId} {K : Ty} {nf el by_ : Nat} {fts : List TypeId} (h : ttOf tt t = some ⟨t1, K, false, nf, el, by_, fts⟩) (hK : keyPlain K = true) :
    (K = .str ∧ P.underlying t = some .string) ∨ ∃ k, K = .int k ∧ P.underlying t = some (.int k) := by
  obtain ⟨d, hd, hdi⟩ := und_at T h
  have hf := di_plain T h rfl
  simp only at hf
  subst hf
  cases K with
  | str => exact .inl ⟨rfl, by rw [hd]; cases d <;> simp [dinfo, TE.di] at hdi; rfl⟩
  | int k => exact .inr ⟨k, rfl, by rw [hd]; cases d <;> simp [dinfo, TE.di] at hdi; rw [hdi]⟩
  | _ => cases hK
def keyV : (K : Ty) → K.den → Value
  | .str, x => .string (mkS x)
  | .int k, x => .int k x
  | _, _ => undef
theorem key_val {K : Ty} (hK : keyPlain K = true) {x : K.den} {v : Value} (m : MtV G w false (atomsOf K pF x) v) : v = keyV K x := by
  cases K with
  | str => exact (MtS.str (F := pF) (show MtS G w (.v false [.d .str pF x]) v from m)).1
  | int k => exact (MtS.int (F := pF) (show MtS G w (.v false [.d (.int k) pF x]) v from m)).1
  | _ => cases hK
/-- the first entry with such a key -/
def fnd (K : Ty) {V : Type} (x : K.den) : List (K.den × V) → List MapEntry → Nat → Option (Nat × Value)
  | p :: l, e :: es, i => bif keyEq K x p.1 then some (i, e.val) else fnd K x l es (i + 1)
  | _, _, _ => none
theorem findNow_mp {d : TypeDesc} {K V : Ty} {av : Bool} {F : Fl} (hd : (K = .str ∧ d = .string) ∨ ∃ k, K = .int k ∧ d = .int k) (hK : keyPlain K = true) {x : K.den} : ∀ {l : List (K.den × V.den)} {es : List MapEntry} {i : Nat}, MpOk G w false av K V F l es →
    Instr.findNow d (keyV K x) es i = some (fnd K x l es i) := by
  intro l
  induction l with
  | nil => intro es i m; rw [show es = [] from m]; rfl
  | cons p l ih =>
    intro es i m
    obtain ⟨e, es', rfl, h1, h2, h3⟩ := m
    have hk := key_val hK h1
    have hs : Instr.sameNow d (keyV K x) e.key = some (keyEq K x p.1) := by
      rw [hk]
      rcases hd with ⟨rfl, rfl⟩ | ⟨k, rfl, rfl⟩
      · simp only [keyV, Instr.sameNow, keyEq, Option.some.injEq]
        refine Bool.eq_iff_iff.2 ((bytes_beq _ _).trans ⟨fun h => ?_, fun h => ?_⟩)
        · have := congrArg (fun s : ByteArray => s.data.toList) h
          simpa [mkS] using this
        · rw [decide_eq_true_eq] at h; rw [h]
      · simp only [keyV, Instr.sameNow, keyEq, if_true, Option.some.injEq]
        exact Bool.eq_iff_iff.2 (by simp)
    simp only [Instr.findNow, hs, fnd]
    cases keyEq K x p.1 with
    | true => rfl
    | false => exact ih h3
theorem fnd_get {K V : Ty} {av : Bool} {F : Fl} {x : K.den} : ∀ {l : List (K.den × V.den)} {es : List MapEntry} {i : Nat}, MpOk G w false av K V F l es →
    (match fnd K x l es i, mget K l x with | none, none => True | some (_, v), some y => MtV G w av (atomsOf V F y) v | _, _ => False) := by
  intro l
  induction l with
  | nil => intro es i m; rw [show es = [] from m]; trivial
  | cons p l ih =>
    intro es i m
    obtain ⟨e, es', rfl, h1, h2, h3⟩ := m
    simp only [fnd, mget]
    cases keyEq K x p.1 with
    | true => exact h2
    | false => exact ih h3
theorem MpOk.len {ak av : Bool} {K V : Ty} {F : Fl} : ∀ {l : List (K.den × V.den)} {es : List MapEntry}, MpOk G w ak av K V F l es → es.length = l.length := by
  intro l
  induction l with
  | nil => intro es m; rw [show es = [] from m]; rfl
  | cons p l ih => intro es m; obtain ⟨e, es', rfl, h1, h2, h3⟩ := m; simp [ih h3]
/-- the entries behind an update -/
theorem fnd_set {K V : Ty} {av : Bool} {F : Fl} {x : K.den} {y : V.den} {kv vv : Value} (mk : MtV G w false (atomsOf K pF x) kv) (mv : MtV G w av (atomsOf V F y) vv) {clk : Nat} : ∀ {l : List (K.den × V.den)} {es : List MapEntry} {i : Nat}, MpOk G w false av K V F l es →
    (match fnd K x l es i with
     | none => MpOk G w false av K V F (mset K l x y) (es ++ [{ key := kv, val := vv, born := clk }])
     | some (j, _) => ∃ k, j = i + k ∧ k < es.length ∧ MpOk G w false av K V F (mset K l x y) (es.modify k fun e => { e with key := kv, val := vv })) := by
  intro l
  induction l with
  | nil => intro es i m; rw [show es = [] from m]; exact ⟨_, [], rfl, mk, mv, rfl⟩
  | cons p l ih =>
    intro es i m
    obtain ⟨e, es', rfl, h1, h2, h3⟩ := m
    simp only [fnd, mset]
    cases hq : keyEq K x p.1 with
    | true => exact ⟨0, rfl, by simp, { e with key := kv, val := vv }, es', rfl, mk, mv, h3⟩
    | false =>
      simp only [cond_false]
      have := ih (i := i + 1) h3
      cases hf : fnd K x l es' (i + 1) with
      | none => rw [hf] at this; exact ⟨e, _, rfl, h1, h2, this⟩
      | some q =>
        obtain ⟨j, v⟩ := q
        rw [hf] at this
        obtain ⟨k, hj, hk, hm⟩ := this
        exact ⟨k + 1, by omega, by simpa using hk, e, _, by simp [List.modify_succ_cons], h1, h2, hm⟩
/-- the old key, the same as the new one, to the bit -/
theorem fnd_key {K V : Ty} {av : Bool} {F : Fl} (hK : keyPlain K = true) {x : K.den} : ∀ {l : List (K.den × V.den)} {es : List MapEntry} {i j : Nat} {v : Value}, MpOk G w false av K V F l es → fnd K x l es i = some (j, v) → ∃ k e, j = i + k ∧ es[k]? = some e ∧ e.key = keyV K x := by
  intro l
  induction l with
  | nil => intro es i j v m h; rw [show es = [] from m] at h; cases h
  | cons p l ih =>
    intro es i j v m h
    obtain ⟨e, es', rfl, h1, h2, h3⟩ := m
    simp only [fnd] at h
    cases hq : keyEq K x p.1 with
    | true =>
      rw [hq] at h
      cases h
      refine ⟨0, e, rfl, rfl, ?_⟩
      rw [key_val hK h1]
      cases K with
      | str => simp only [keyEq, decide_eq_true_eq] at hq; simp only [keyV]; rw [hq]
      | int k => simp only [keyEq, decide_eq_true_eq] at hq; simp only [keyV]; rw [hq]
      | _ => cases hK
    | false =>
      rw [hq] at h
      obtain ⟨k, e', h4, h5, h6⟩ := ih h3 h
      exact ⟨k + 1, e', by omega, by simpa using h5, h6⟩
theorem same_keyV {K : Ty} (hK : keyPlain K = true) (x : K.den) : Instr.sameBits 10000 (keyV K x) (keyV K x) = true := by
  cases K with
  | str => simp only [keyV, Instr.sameBits]; exact (bytes_beq _ _).2 rfl
  | int k => simp [keyV, Instr.sameBits]
  | _ => cases hK
include hb in
theorem does_makeMap {t0 : TypeId} {idb : Id} (hid : ¬ old idb) {e : Eff} {t : List Id} (hx : (sMakeMap tt mt t0 idb).exec lk = some (e, t)) : Does P old G w (do pure (.value (← Instr.makeMap t0 none))) e := by
  classical
  unfold sMakeMap at hx
  split at hx
  · exact exec_fail hx
  · split at hx
    · rename_i K _ _ _ _ _ _ V av _ _ _ _ _ _ _
      replace ⟨hE, hx⟩ := condR hx
      simp only [Bool.and_eq_true] at hE
      obtain ⟨rfl, _⟩ := exec_ok hx
      refine ⟨_, .map (some w.heap.size), w.alloc (.map #[] 0), ⟨fun i => if i = idb then .map (some w.heap.size) else G.ρ i, fun b => if b = w.heap.size then .own idb [] else G.g b⟩, by simp [Instr.makeMap], .inl rfl,
        .alloc hb _ (fun i hi => if_neg (fun q : i = idb => hid (q ▸ hi))) (fun h1 i => by show (if i = idb then Value.map (some w.heap.size) else G.ρ i).oneCell' = true; split <;> first | rfl | exact h1 i), .of1 rfl (by simp [MtA]), fun i R hi => ?_⟩
      simp only [List.mem_singleton, Prod.mk.injEq, Option.some.injEq] at hi
      obtain ⟨rfl, rfl⟩ := hi
      exact ⟨hE.2, w.heap.size, #[], 0, by simp, by simp, heap_alloc_new' w _, rfl⟩
    · exact exec_fail hx
/-- atoms packed, as a value of data -/
theorem packed_val (hrs : ∀ id R, lk id = some R → ResOk G w id R) {K0 : Ty} {ag : Bool} {F : Fl} {l : List At} {v : Value} {x : K0.den} {t : List Id} (hO : K0.noO F = true) (m : MtV G w ag l v) (hp : (pack K0 F l).exec lk = some (⟨x, [], [], []⟩, t)) : MtV G w ag (atomsOf K0 F x) v := by
  obtain ⟨hv1, hv2, hv3⟩ := MtV.cells' m
  obtain ⟨c1, c2, hcs, hc1, hc2, hpacks⟩ := pack_sound hrs _ _ _ _ _ _ _ _ _ hv3 hp
  rw [show c2 = [] from hc2, List.append_nil] at hcs
  obtain ⟨mm', hmm', htr⟩ := hpacks List.nodup_nil
  have h5 := htr G w default [] ⟨.refl G w, fun b i q pos _ hp => absurd ((hmm' i).1 (by rw [hp]; simp)) (by simp), fun b i q _ hi => absurd hi (by simp)⟩
  rw [← hcs] at h5
  have h6 := atomsOf_sound _ _ _ _ _ _ hO h5
  cases ag with
  | true => exact ⟨_, by rw [hv1]; simp [mkV, Value.cells], h6⟩
  | false =>
    have h8 : v.cells.toList = [v] := by
      have := m.1
      cases v <;> first | rfl | (simp [Value.oneCell'] at this)
    rw [h8] at h6
    exact ⟨m.1, h6⟩
theorem Chg.setObj {chg : Id → Prop} (hb : ∀ b, G.g b ≠ .no → b < w.heap.size) {blk : Nat} {id0 : Id} {p0 : List Nat} (hl : G.g blk = .own id0 p0) (hc : chg id0) (o : Obj) : Chg old chg G G w { w with heap := w.heap.setIfInBounds blk o } := by
  have hg : ∀ b, b ≠ blk → (w.heap.setIfInBounds blk o)[b]? = w.heap[b]? := fun b h => Array.getElem?_setIfInBounds_ne (Ne.symm h)
  refine ⟨fun _ _ => rfl, ⟨fun b h => ⟨h, hg b (fun e => by rw [e, hl] at h; cases h)⟩, fun b h => ⟨h, hg b (fun e => by rw [e, hl] at h; cases h)⟩⟩, fun b id p h hn => ⟨h, hg b (fun e => ?_)⟩,
    fun b _ h => ⟨hg b (fun e => by rw [e, hl] at h; cases h), h⟩, fun b h => by simpa using hb b h, fun h => h, rfl, rfl, rfl, by simp⟩
  rw [e, hl] at h
  cases h
  exact hn hc
include T TM hb in
theorem does_mapUpdate {t0 : TypeId} {m k x : SV} {vm vk vx : Value} {e : Eff} {t : List Id} (hrs : ∀ id R, lk id = some R → ResOk G w id R) (hx : (sMapUpdate tt mt t0 m k x).exec lk = some (e, t)) (mm : MtS G w m vm) (mk : MtS G w k vk) (mx : MtS G w x vx) :
    Does P old G w (do Instr.mapUpdate t0 vm vk vx; pure .skip) e := by
  unfold sMapUpdate at hx
  split at hx
  · exact exec_fail hx
  rename_i kt et hmt
  have hu := TM.1 _ _ _ hmt
  split at hx
  · rename_i t1 K0 nf el by_ fts hkt
    split at hx
    · rename_i id
      replace ⟨t', hx, _⟩ := exec_need hx
      split at hx
      · rename_i av K V F l hlk
        replace ⟨hE, hx⟩ := condR hx
        simp only [Bool.and_eq_true] at hE
        have hK0 := Ty.eq_of_beq hE.2
        subst hK0
        split at hx
        · rename_i lk' av' lv
          replace ⟨hE2, hx⟩ := condR hx
          have e2 := boolEq_eq hE2
          subst e2
          replace ⟨pk, t2, t3, hpk, hx, _⟩ := exec_bind hx
          split at hx
          · rename_i x
            replace ⟨qk, t4, t5, hqk, hx, _⟩ := exec_bind hx
            split at hx
            · rename_i y
              obtain ⟨rfl, _⟩ := exec_ok hx
              obtain ⟨h0, r, es, clk, hρ, hg, hh, hm⟩ := hrs id _ hlk
              have hvm := mm.own
              rw [hρ] at hvm
              subst hvm
              have hkd := key_und T hkt hE.1
              have mk' := packed_val hrs (noO_p _) (show MtV G w false lk' vk from mk) hpk
              have mx' := packed_val hrs h0 (show MtV G w av' lv vx from mx) hqk
              have hkv := key_val hE.1 mk'
              have hset := fnd_set (clk := clk) mk' mx' hm (i := 0)
              have hchk : ∀ w : World, (Instr.checkKey false 10000 kt vk).run P w = .ok () w := fun w => by
                rw [hkv]
                rcases hkd with ⟨rfl, hd⟩ | ⟨k, rfl, hd⟩
                · exact run_checkKey (d := .string) hd (by simp [keyV, IsKey]) false 9999
                · exact run_checkKey (d := .int k) hd (by simp [keyV, IsKey]) false 9999
              have hfind : ∀ w : World, (Instr.findKey kt vk es.toList).run P w = .ok (fnd K0 x l es.toList 0) w := fun w => by
                rw [hkv]
                rcases hkd with ⟨rfl, hd⟩ | ⟨k, rfl, hd⟩
                · exact run_findKey hd (findNow_mp (.inl ⟨rfl, rfl⟩) rfl hm)
                · exact run_findKey hd (findNow_mp (.inr ⟨k, rfl, rfl⟩) rfl hm)
              have fin : ∀ (o : Obj) (es' : Array MapEntry) (clk' : Nat), o = .map es' clk' → MpOk G w false av' K0 V F (mset K0 l x y) es'.toList → (Instr.mapUpdate t0 (.map (some r)) vk vx).run P w = .ok () { w with heap := w.heap.setIfInBounds r o } →
                  Does P old G w (do Instr.mapUpdate t0 (.map (some r)) vk vx; pure .skip) ⟨.junk, [(id, some (.mp false av' K0 V F (mset K0 l x y)))], []⟩ := by
                rintro o es' clk' rfl hm' hrun
                have hc : ∀ {old : Id → Prop}, Chg old (fun j => j = id) G G w { w with heap := w.heap.setIfInBounds r (.map es' clk') } := .setObj (chg := fun j => j = id) hb hg rfl _
                refine ⟨_, undef, _, G, by simp [hrun], .inr ⟨rfl, rfl, rfl⟩, hc.le (fun j hj => by simp [hj]), trivial, fun j R hj => ?_⟩
                simp only [List.mem_singleton, Prod.mk.injEq, Option.some.injEq] at hj
                obtain ⟨rfl, rfl⟩ := hj
                have hlt : r < w.heap.size := by
                  rcases Nat.lt_or_ge r w.heap.size with h | h
                  · exact h
                  · rw [Array.getElem?_eq_none h] at hh; cases hh
                exact ⟨h0, r, es', clk', hρ, hg, by simp [hlt], hm'.keep (old := fun _ => True) hc⟩
              cases hf : fnd K0 x l es.toList 0 with
              | none =>
                rw [hf] at hset
                refine fin _ (es.push { key := vk, val := vx, born := clk }) (clk + 1) rfl (by simpa using hset) ?_
                unfold Instr.mapUpdate
                simp [run_underlying hu, MapKept.run_getObj_map hh, hchk, hfind, hf, MapKept.run_setObj_map _ hh]
              | some q =>
                obtain ⟨j, v⟩ := q
                rw [hf] at hset
                obtain ⟨k, hj, hk, hmm⟩ := hset
                obtain ⟨k', e', hj', he', hek⟩ := fnd_key hE.1 hm hf
                have : k' = k := by omega
                subst this
                have hj0 : j = k' := by omega
                subst hj0
                refine fin _ (es.modify j fun e => { e with key := vk, val := vx }) clk rfl (by simpa using hmm) ?_
                have hes : es[j]? = some e' := by simpa using he'
                unfold Instr.mapUpdate Instr.keyThatStays
                have hsb : Instr.sameBits 10000 e'.key vk = true := by rw [hek, hkv]; exact same_keyV hE.1 x
                simp [run_underlying hu, MapKept.run_getObj_map hh, hchk, hfind, hf, hes, hsb, MapKept.run_setObj_map _ hh]
            · exact exec_fail hx
          · exact exec_fail hx
        · exact exec_fail hx
      · exact exec_fail hx
    · exact exec_fail hx
  · exact exec_fail hx
include T TM hb in
theorem does_lookup {t0 : TypeId} {ok : Bool} {m k : SV} {vm vk : Value} {e : Eff} {t : List Id} (hrs : ∀ id R, lk id = some R → ResOk G w id R) (hx : (sLookup tt mt t0 ok m k).exec lk = some (e, t)) (mm : MtS G w m vm) (mk : MtS G w k vk) :
    Does P old G w (do pure (.value (← Instr.lookup t0 vm vk ok))) e := by
  unfold sLookup at hx
  split at hx
  · exact exec_fail hx
  rename_i kt et hmt
  have hu := TM.1 _ _ _ hmt
  split at hx
  · rename_i t1 K0 nf el by_ fts t1' V0 av0 nf' el' by_' fts' hkt het
    split at hx
    · rename_i id
      replace ⟨t', hx, _⟩ := exec_need hx
      split at hx
      · rename_i av K V F l hlk
        replace ⟨hE, hx⟩ := condR hx
        simp only [Bool.and_eq_true] at hE
        have hK0 := Ty.eq_of_beq hE.1.2
        have hV0 := Ty.eq_of_beq hE.2.1
        have e2 := boolEq_eq hE.2.2
        subst hK0
        subst hV0
        subst e2
        split at hx
        · rename_i lk'
          replace ⟨pk, t2, t3, hpk, hx, _⟩ := exec_bind hx
          split at hx
          · rename_i x
            obtain ⟨h0, r, es, clk, hρ, hg, hh, hm⟩ := hrs id _ hlk
            have hvm := mm.own
            rw [hρ] at hvm
            subst hvm
            have hkd := key_und T hkt hE.1.1
            have mk' := packed_val hrs (noO_p _) (show MtV G w false lk' vk from mk) hpk
            have hkv := key_val hE.1.1 mk'
            have hget := fnd_get (i := 0) (x := x) hm
            have hchk : ∀ (b : Bool) (w : World), (Instr.checkKey b 10000 kt vk).run P w = .ok () w := fun b w => by
              rw [hkv]
              rcases hkd with ⟨rfl, hd⟩ | ⟨k, rfl, hd⟩
              · exact run_checkKey (d := .string) hd (by simp [keyV, IsKey]) b 9999
              · exact run_checkKey (d := .int k) hd (by simp [keyV, IsKey]) b 9999
            have hfind : ∀ w : World, (Instr.findKey kt vk es.toList).run P w = .ok (fnd K0 x l es.toList 0) w := fun w => by
              rw [hkv]
              rcases hkd with ⟨rfl, hd⟩ | ⟨k, rfl, hd⟩
              · exact run_findKey hd (findNow_mp (.inl ⟨rfl, rfl⟩) rfl hm)
              · exact run_findKey hd (findNow_mp (.inr ⟨k, rfl, rfl⟩) rfl hm)
            have hzero := run_zero_at T het w
            simp only at hzero
            have hz : MtV G w av0 (atomsOf V0 F V0.dflt) (mkV av0 (zeroCells V0)) := by
              have h5 : MtL G w (atomsOf V0 F V0.dflt) (zeroCells V0) := atomsOf_sound V0 F default [] (zeroCells V0) V0.dflt h0 (Tr.zero V0 h0)
              cases av0 with
              | true => exact ⟨_, rfl, h5⟩
              | false =>
                obtain ⟨rr, _, hchk⟩ := T.at het
                have hf := di_plain T het rfl
                simp only at hf
                subst hf
                have hag := rr.ag
                cases V0 with
                | int k => exact ⟨rfl, h5⟩
                | bool => exact ⟨rfl, h5⟩
                | pt => exact ⟨rfl, h5⟩
                | str => exact ⟨rfl, h5⟩
                | sl e => exact ⟨rfl, h5⟩
                | arr n e => simp [TE.di, DI.agg] at hag
                | pr a b => simp [teChk] at hchk
            have key : ∃ v, (∀ b : Bool, (Instr.lookup t0 (.map (some r)) vk b).run P w = .ok (if b then .tuple #[v, .bool (mget K0 l x).isSome] else v) w) ∧ MtV G w av0 (atomsOf V0 F ((mget K0 l x).getD V0.dflt)) v := by
              cases hf : fnd K0 x l es.toList 0 with
              | none =>
                rw [hf] at hget
                cases hq : mget K0 l x with
                | some y => rw [hq] at hget; exact hget.elim
                | none =>
                  refine ⟨_, fun b => ?_, hz⟩
                  unfold Instr.lookup
                  cases b <;> simp [run_underlying hu, MapKept.run_getObj_map hh, hchk, hfind, hf, hzero]
              | some q =>
                obtain ⟨j, v⟩ := q
                rw [hf] at hget
                cases hq : mget K0 l x with
                | none => rw [hq] at hget; exact hget.elim
                | some y =>
                  rw [hq] at hget
                  refine ⟨v, fun b => ?_, hget⟩
                  unfold Instr.lookup
                  cases b <;> simp [run_underlying hu, MapKept.run_getObj_map hh, hchk, hfind, hf]
            obtain ⟨v, hrun, hmv⟩ := key
            cases ok with
            | true =>
              obtain ⟨rfl, _⟩ := exec_ok hx
              exact .pure hb (v := .tuple #[v, .bool (mget K0 l x).isSome]) (by simp [hrun]) ⟨[v, .bool (mget K0 l x).isSome], rfl, v, _, rfl, hmv, _, [], rfl, MtS.ofBool, rfl⟩
            | false =>
              obtain ⟨rfl, _⟩ := exec_ok hx
              exact .pure hb (v := v) (by simp [hrun]) hmv
          · exact exec_fail hx
        · exact exec_fail hx
      · exact exec_fail hx
    · exact exec_fail hx
  · exact exec_fail hx
include T hb in
theorem does_lenMap (TM : MtOk P mt) {t0 ty : TypeId} {x : SV} {v : Value} {e : Eff} {t : List Id} (hrs : ∀ id R, lk id = some R → ResOk G w id R) (hx : (sLenMap mt t0 x).exec lk = some (e, t)) (hv : ∀ p ∈ e.vc, p) (m : MtS G w x v) : Does P old G w (do pure (.value (← Builtin.len_ #[t0] ty #[v]))) e := by
  unfold sLenMap at hx
  split at hx
  · exact exec_fail hx
  rename_i kt hmt
  have hu := TM.1 t0 kt.1 kt.2 hmt
  split at hx
  · rename_i id
    replace ⟨t', hx, _⟩ := exec_need hx
    split at hx
    · rename_i av K V F l q hlk
      obtain ⟨rfl, _⟩ := exec_ok hx
      obtain ⟨h0, r, es, clk, hρ, hg, hh, hm⟩ := hrs id _ hlk
      have hvm := m.own
      rw [hρ] at hvm
      subst hvm
      have hl := MpOk.len hm
      refine .pure hb (v := .int .i64 (q.length : Int)) ?_ (.ofInt ?_)
      · unfold Builtin.len_
        have : es.size = q.length := by simpa using hl
        simp [run_underlying hu, MapKept.run_getObj_map hh, this, goInt]
      · have h9 : q.length ≤ maxL := hv _ List.mem_cons_self
        simp only [maxL] at h9
        simp only [inR, IntKind.min, IntKind.max, IntKind.signed, IntKind.bits]
        simp
        omega
    · exact exec_fail hx
  · exact exec_fail hx
include T hb in
theorem does_eqNil {t0 : TypeId} {ox oy : Operand} {x : SV} {vx : Value} {e : Eff} {t : List Id} (hrs : ∀ id R, lk id = some R → ResOk G w id R) (hx : (sEqNil tt t0 x).exec lk = some (e, t)) (m : MtS G w x vx) :
    Does P old G w (do pure (.value (← (do eqGuard .eql t0 ox oy vx (.slice none 0 0); binOp .eql t0 vx (.slice none 0 0))))) e := by
  unfold sEqNil at hx
  cases hs : isSlT tt t0 with
  | false => rw [hs] at hx; exact exec_fail hx
  | true =>
    rw [hs] at hx
    simp only [Bool.not_true, cond_false] at hx
    obtain ⟨el, hu⟩ := isSlT_spec T hs
    have hrun : ∀ A n c, (do pure (Next.value (← (do eqGuard .eql t0 ox oy (.slice A n c) (.slice none 0 0); binOp .eql t0 (.slice A n c) (.slice none 0 0)))) : Sem Next).run P w = .ok (.value (.bool A.isNone)) w := by
      intro A n c
      have hg : eqGuard .eql t0 ox oy (.slice A n c) (.slice none 0 0) = pure () := by cases A <;> rfl
      have := Lib.run_eql_slice_nil (P := P) w t0 el A n c 0 0 hu
      simp [hg, this]
    have fin : ∀ {A n c P'}, (A.isNone = true → P') → vx = .slice A n c → Does P old G w (do pure (.value (← (do eqGuard .eql t0 ox oy vx (.slice none 0 0); binOp .eql t0 vx (.slice none 0 0))))) ⟨.v false [.anyb P'], [], []⟩ := by
      rintro A n c P' hp rfl
      exact .pure hb (v := .bool A.isNone) (hrun A n c) (.of1 rfl ⟨_, rfl, hp⟩)
    split at hx
    · obtain ⟨rfl, _⟩ := exec_ok hx
      have hvx : vx = .slice none 0 0 := by simpa using (show [vx] = [Value.slice none 0 0] from m.at1.2)
      subst hvx
      exact .pure hb (v := .bool true) (hrun none 0 0) (.of1 rfl rfl)
    · split at hx
      · obtain ⟨rfl, _⟩ := exec_ok hx
        obtain ⟨hno, A, n, c, rfl, htr⟩ := m.slice
        obtain ⟨hn, hc, _⟩ := htr.sl_len
        refine fin (fun hA => ?_) rfl
        obtain ⟨A', n', c', hcs, _, _, _, _, hblk⟩ := htr
        simp only [List.cons.injEq, Value.slice.injEq, and_true] at hcs
        obtain ⟨rfl, rfl, rfl⟩ := hcs
        rcases hblk with ⟨_, hz⟩ | ⟨b, off, C, tb, fz, rfl, _⟩
        · omega
        · cases hA
      · exact exec_fail hx
    · rename_i id
      replace ⟨t', hx, _⟩ := exec_need hx
      have hvx := m.own
      split at hx
      · rename_i e' f l hlk
        obtain ⟨rfl, _⟩ := exec_ok hx
        obtain ⟨A, n, c, hρ, htr⟩ := (hrs id _ hlk).slice
        obtain ⟨hn, hc, _⟩ := htr.sl_len
        refine fin (fun hA => ?_) (hvx.trans hρ)
        obtain ⟨A', n', c', hcs, _, _, _, _, hblk⟩ := htr
        simp only [List.cons.injEq, Value.slice.injEq, and_true] at hcs
        obtain ⟨rfl, rfl, rfl⟩ := hcs
        rcases hblk with ⟨_, hz⟩ | ⟨b, off, C, tb, fz, rfl, _⟩
        · omega
        · cases hA
      · rename_i sz l hlk
        obtain ⟨rfl, _⟩ := exec_ok hx
        obtain ⟨A, n, c, hρ, hn, hc, _, hblk⟩ := hrs id _ hlk
        refine fin (fun hA => ?_) (hvx.trans hρ)
        rcases hblk with ⟨_, hz⟩ | ⟨b, off, C, tb, rfl, _⟩
        · omega
        · cases hA
      · exact exec_fail hx
    · exact exec_fail hx
include hb in
theorem does_minMax {mn : Bool} {at0 : Array TypeId} {ty : TypeId} {x y : SV} {vx vy : Value} {e : Eff} {t : List Id} (hx : (sMinMax mn x y).exec lk = some (e, t)) (mx : MtS G w x vx) (my : MtS G w y vy) :
    Does P old G w (do pure (.value (← (match mn with | true => Builtin.min_ at0 ty #[vx, vy] | false => Builtin.max_ at0 ty #[vx, vy])))) e := by
  unfold sMinMax at hx
  split at hx
  · rename_i k F a k' F' b
    replace ⟨hk, hx⟩ := condR hx
    have hkk := kindNo_inj (Nat.eq_of_beq_eq_true hk)
    subst hkk
    obtain ⟨rfl, _⟩ := exec_ok hx
    obtain ⟨rfl, ha⟩ := mx.int
    obtain ⟨rfl, hb'⟩ := my.int
    cases mn with
    | true =>
      refine .pure hb (v := .int k (sMin a b)) ?_ (.ofInt ?_)
      · simp [Builtin.min_, Builtin.min2, sMin, List.foldlM]
      · simp only [sMin]; cases decide (b < a) <;> first | exact ha | exact hb'
    | false =>
      refine .pure hb (v := .int k (sMax a b)) ?_ (.ofInt ?_)
      · simp [Builtin.max_, Builtin.max2, sMax, List.foldlM]
      · simp only [sMax]; cases decide (a < b) <;> first | exact ha | exact hb'
  · exact exec_fail hx
end
end Go.Sx
