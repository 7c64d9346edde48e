/- Symbolic execution, part N: conversions. -/
import Derived.Test.YtbnmeeajooljmaaSxM
import Derived.Laws.BytesString
set_option linter.all false
namespace Go.Sx
open Go Go.RowKit
section
variable {P : Program} {tt : TT} (T : TtOk P tt) {old : Id → Prop} {G : Gh} {w : World} {lk : Id → Option Res} (hb : ∀ b, G.g b ≠ .no → b < w.heap.size) (h1 : RhoOk G)
theorem isBytesT_spec (T : TtOk P tt) {t : TypeId} (h : isBytesT tt t = true) : ∃ el, P.underlying t = some (.slice el) ∧ P.underlying el = some (.int .u8) ∧ ∃ by_, slT tt t = some (.int .u8, el, by_) := by
  unfold isBytesT at h
  split at h
  · rename_i el by_ hT
    obtain ⟨hu, hsz, te, hte, hTe, _⟩ := slT_spec T hT
    obtain ⟨d, hd, hdi⟩ := und_at T hte
    refine ⟨el, hu, ?_, by_, hT⟩
    rw [hte] at h
    obtain ⟨te0, te1, te2, te3, te4, te5, te6⟩ := te
    simp only at hTe
    subst hTe
    cases te2 with
    | true => simp at h
    | false =>
      have hf := di_plain T hte rfl
      simp only at hf
      subst hf
      rw [hd]
      cases d <;> simp [dinfo, TE.di] at hdi
      rw [hdi]
  · cases h
theorem Chg.fresh {chg : Id → Prop} (hb : ∀ b, G.g b ≠ .no → b < w.heap.size) {w' : World} (hh : ∀ b, b < w.heap.size → w'.heap[b]? = w.heap[b]?) (hs : w'.heap.size = w.heap.size + 1) (ho : w'.os = w.os) (ht : w'.tape = w.tape) (hout : w'.output = w.output) {lab : Lab} :
    Chg old chg G ⟨G.ρ, fun b => if b = w.heap.size then lab else G.g b⟩ w w' := by
  refine ⟨fun _ _ => rfl, ⟨fun b h => ?_, fun b h => ?_⟩, fun b id p h _ => ?_, fun b hlt h => ?_, fun b h => ?_, fun h1 => h1, ho, ht, hout, by omega⟩
  · have hn := hb b (by rw [h]; simp)
    exact ⟨by simp only; rw [if_neg (by omega)]; exact h, hh b hn⟩
  · have hn := hb b (by rw [h]; simp)
    exact ⟨by simp only; rw [if_neg (by omega)]; exact h, hh b hn⟩
  · have hn := hb b (by rw [h]; simp)
    exact ⟨by simp only; rw [if_neg (by omega)]; exact h, hh b hn⟩
  · exact ⟨hh b hlt, by simp only; rw [if_neg (by omega), h]⟩
  · simp only at h
    rw [hs]
    split at h
    · omega
    · have := hb b h; omega
theorem foldl_push (l : List Int) : ∀ (r : ByteArray), l.foldl (fun r n => r.push (UInt8.ofNat n.toNat)) r = ⟨r.data ++ (ofBytes l).toArray⟩ := by
  induction l with
  | nil => intro r; simp [ofBytes]
  | cons x xs ih =>
    intro r
    rw [List.foldl_cons, ih]
    simp [ofBytes, ByteArray.push]
theorem bytes_cells {F : Fl} {id : Id} {p : List Nat} {A : Option Addr} {n c : Nat} {l : List Int} (h : Tr G w (.sl (.int .u8)) F id p [.slice A n c] l) :
    n = l.length ∧ (Conv.bytesToString (.slice A n c)).run P w = .ok (.string (mkS (ofBytes l))) w ∧ (ofBytes l).length ≤ maxL := by
  obtain ⟨A', n', c', hcs, h2, h3, h4, _, h5⟩ := h
  simp only [List.cons.injEq, Value.slice.injEq, and_true] at hcs
  obtain ⟨rfl, rfl, rfl⟩ := hcs
  subst h2
  refine ⟨rfl, ?_, by simpa [ofBytes] using h4⟩
  rcases h5 with ⟨_, rfl⟩ | ⟨b, off, C, t, fz, rfl, h6, h7, h8, h9, h10⟩
  · have : l = [] := List.eq_nil_of_length_eq_zero (by have := h3; omega)
    subst this
    cases A with
    | none => rfl
    | some a =>
      have hl : (loadCells a (([] : List Int).map (Value.int .u8)).length).run P w = .ok (([] : List Int).map (Value.int .u8)).toArray w := run_loadCells_list w a _ fun j v hv => by simp at hv
      simp only [List.length_nil]
      rw [run_bytesToString w a 0 0 [] hl]; rfl
  · have hl : (loadCells ⟨b, off, none⟩ (l.map (Value.int .u8)).length).run P w = .ok (l.map (Value.int .u8)).toArray w := run_loadCells_list w ⟨b, off, none⟩ _ fun j v hv => by
      rw [List.getElem?_map, Option.map_eq_some_iff] at hv
      obtain ⟨x, hx, rfl⟩ := hv
      have := h10 j x hx
      have hc : (cellsAt C (off + j) 1)[0]? = some (.int .u8 x) := by
        have h11 : cellsAt C (off + j * 1) 1 = [.int .u8 x] := this.1
        rw [Nat.mul_one] at h11
        rw [h11]
        rfl
      rw [addr_add, cell_of_heap h7]
      simpa using cellsAt_get hc
    rw [List.length_map] at hl
    rw [show List.length l = l.length from rfl, run_bytesToString w ⟨b, off, none⟩ l.length c l hl, foldl_push]
    simp [mkS]
include T hb in
theorem does_convert {idb : Id} (hid : ¬ old idb) {src dst : TypeId} {x : SV} {v : Value} {e : Eff} {t : List Id} (hrs : ∀ id R, lk id = some R → ResOk G w id R) (hx : (sConvert tt idb src dst x).exec lk = some (e, t)) (hv : ∀ p ∈ e.vc, p) (m : MtS G w x v) :
    Does P old G w (do pure (.value (← convert src dst v))) e := by
  unfold sConvert at hx
  split at hx
  · rename_i ts t1 T0 nf el by_ fts hts htd
    obtain ⟨ds, hds, _⟩ := und_at T hts
    obtain ⟨dd, hdd, hdi⟩ := und_at T htd
    have hf := di_plain T htd rfl
    simp only at hf
    subst hf
    split at hx
    · -- numbers
      rename_i k
      have hu : P.underlying dst = some (.int k) := by
        rw [hdd]
        cases dd <;> simp [dinfo, TE.di] at hdi
        rw [hdi]
      split at hx
      · obtain ⟨rfl, _⟩ := exec_ok hx
        obtain ⟨rfl, hin⟩ := m.int
        have h2 : inR k _ := hv _ List.mem_cons_self
        refine .pure hb ?_ (.ofInt h2)
        unfold convert
        simp [run_underlying hds, run_underlying hu, Conv.intToInt, wrap_in h2]
      · exact exec_fail hx
    · -- strings
      have hu : P.underlying dst = some .string := by
        rw [hdd]
        cases dd <;> simp [dinfo, TE.di] at hdi
        rfl
      have hbs : ∀ {G' : Gh} {A : Option Addr} {n c : Nat} {F : Fl} {id : Id} {p : List Nat} {l : List Int}, isBytesT tt src = true → v = .slice A n c → Tr G' w (.sl (.int .u8)) F id p [.slice A n c] l →
          Does P old G w (do pure (.value (← convert src dst v))) ⟨sStr (ofBytes l), [], []⟩ := by
        rintro G' A n c F id p l hB rfl htr
        obtain ⟨_, hrun, hlen⟩ := bytes_cells (P := P) htr
        obtain ⟨el', h3, h4, _⟩ := isBytesT_spec T hB
        refine .pure hb ?_ (.ofStr hlen)
        unfold convert
        cases A with
        | none => simp [run_underlying h3, run_underlying hu, run_underlying h4, hrun]
        | some a => simp [run_underlying h3, run_underlying hu, run_underlying h4, hrun]
      split at hx
      · split at hx
        · obtain ⟨rfl, _⟩ := exec_ok hx
          obtain ⟨rfl, hlen⟩ := m.str
          refine .pure hb ?_ (.ofStr hlen)
          unfold convert
          simp [run_underlying hds, run_underlying hu]
        · rename_i l
          replace ⟨hB, hx⟩ := condR hx
          obtain ⟨rfl, _⟩ := exec_ok hx
          obtain ⟨_, A, n, c, rfl, htr⟩ := m.slice
          exact hbs hB rfl htr
        · exact exec_fail hx
      · replace ⟨hB, hx⟩ := condR hx
        obtain ⟨rfl, _⟩ := exec_ok hx
        have hvx : v = .slice none 0 0 := by simpa using (show [v] = [Value.slice none 0 0] from m.at1.2)
        exact hbs (G' := G) (l := []) (F := pF) (id := default) (p := []) hB hvx ⟨none, 0, 0, rfl, rfl, Nat.le_refl _, Nat.zero_le _, fun _ => rfl, .inl ⟨fun _ => rfl, rfl⟩⟩
      · rename_i id
        replace ⟨hB, hx⟩ := condR hx
        have hvx := m.own
        replace ⟨t0, hx, _⟩ := exec_need hx
        split at hx
        · rename_i l hlk
          obtain ⟨rfl, _⟩ := exec_ok hx
          obtain ⟨b, C, tc, fz, c, h1, h2, h3, h4, h5, h6, h7, h8⟩ := hrs id _ hlk
          classical
          have htr : Tr ⟨G.ρ, fun b' => if b' = b then .per else G.g b'⟩ w (.sl (.int .u8)) pF default [] [.slice (some ⟨b, 0, none⟩) l.length c] l :=
            ⟨_, _, _, rfl, rfl, h2, h3, fun _ => rfl, .inr ⟨b, 0, C, tc, fz, rfl, by simp [labOk, pF, Fl.hd], h5, by simpa [Ty.size] using h7, (fun h => by cases h), fun j x hj => by
              obtain ⟨h9, h10⟩ := h8 j x hj
              refine ⟨?_, h10⟩
              have h11 : j < C.toList.length := by rw [Array.length_toList]; have := (List.getElem?_eq_some_iff.1 hj).1; exact Nat.lt_of_lt_of_le this h7
              unfold cellsAt
              rw [show 0 + j * (Ty.int .u8).size = j by simp [Ty.size], List.drop_eq_getElem_cons h11]
              have h12 : C.toList[j]? = some (.int .u8 x) := by rw [Array.getElem?_toList]; exact h9
              rw [List.getElem?_eq_getElem h11] at h12
              rw [Option.some.inj h12]
              rfl⟩⟩
          exact hbs hB (by rw [hvx, h1]) htr
        replace ⟨pk, t1, t2, hpk, hx, _⟩ := exec_bind hx
        split at hx
        · rename_i l lent
          obtain ⟨rfl, _⟩ := exec_ok hx
          obtain ⟨c1, c2, hcs, hc1, hc2, hpacks⟩ := pack_sound hrs (.sl (.int .u8)) (.all .b) [.own id] [G.ρ id] _ _ _ _ _ ⟨[G.ρ id], [], rfl, rfl, rfl⟩ hpk
          rw [show c2 = [] from hc2, List.append_nil] at hcs
          obtain ⟨mm, hmm, htr⟩ := hpacks List.nodup_nil
          classical
          have h5 := htr ⟨G.ρ, fun b => match G.g b with | .own i q => if i ∈ lent then .bor else .own i q | l => l⟩ w default [] ⟨⟨fun b hb => ⟨by simp [hb], rfl⟩, fun b hb => ⟨by simp [hb], rfl⟩⟩, fun b i q pos _ hp => absurd ((hmm i).1 (by rw [hp]; simp)) (by simp), fun b i q hg hi => ⟨by simp [hg, hi], rfl⟩⟩
          rw [← hcs, ← hvx] at h5
          have h55 := h5
          obtain ⟨A, n, c, h6, _⟩ := h55
          simp only [List.cons.injEq, and_true] at h6
          rw [h6] at h5
          exact hbs hB h6 h5
        · exact exec_fail hx
      · exact exec_fail hx
    · -- bytes
      split at hx
      · rename_i s
        replace ⟨hB, hx⟩ := condR hx
        obtain ⟨rfl, hlen⟩ := m.str
        obtain ⟨el', h3, h4, _⟩ := isBytesT_spec T hB
        have hge := grownCap_ge w s.length 0 el'
        let C : Array Value := (mkS s).data.map (fun b : UInt8 => Value.int .u8 (b.toNat : Int)) ++ Array.replicate (grownCap w s.length 0 el' - s.length) (.int .u8 0)
        have hsz : (mkS s).size = s.length := mkS_size s
        have hCs : C.size = grownCap w s.length 0 el' := by
          simp [C, mkS]
          omega
        have hrun : (convert src dst (.string (mkS s))).run P w = .ok (.slice (some ⟨w.heap.size, 0, none⟩) s.length (grownCap w s.length 0 el')) ((w.drew.alloc (.cells C el')).freeze ⟨w.heap.size, C.size, none⟩ 1) := by
          have hsh : ∀ C : Array Value, (w.drew.alloc (.cells C el')).shape? w.heap.size = some (el', C.size) := fun C => by
            have : (w.drew.alloc (.cells C el')).heap[w.heap.size]? = some (.cells C el') := heap_alloc_new' w.drew (.cells C el')
            unfold World.shape?
            rw [this]
          unfold convert Conv.stringToBytes markStringish
          simp [run_underlying hds, run_underlying h3, run_underlying h4, Question.forced, newRow, hsz, hsh]
          refine ⟨rfl, ?_⟩
          rw [show C.size = s.length + (grownCap w s.length 0 el' - s.length) by omega]
          rfl
        have hfz : ∀ b, b ≠ w.heap.size → ((w.drew.alloc (.cells C el')).freeze ⟨w.heap.size, C.size, none⟩ 1).heap[b]? = (w.drew.alloc (.cells C el')).heap[b]? := fun b hbn => by
          simp [World.freeze, Array.getElem?_modify, Ne.symm hbn]
        have hfs : ((w.drew.alloc (.cells C el')).freeze ⟨w.heap.size, C.size, none⟩ 1).heap[w.heap.size]? = some (.cells C el' (C.size, C.size + 1)) := by
          have : (w.drew.alloc (.cells C el')).heap[w.heap.size]? = some (.cells C el') := heap_alloc_new' w.drew (.cells C el')
          simp only [World.freeze, Nat.succ_ne_zero, if_false]
          rw [Array.getElem?_modify, if_pos rfl, this]
          rfl
        cases hO : dupT tt dst with
        | true =>
          rw [hO] at hx
          simp only [cond_true] at hx
          obtain ⟨rfl, _⟩ := exec_ok hx
          have hch : Chg old (fun _ => False) G ⟨fun i => if i = idb then .slice (some ⟨w.heap.size, 0, none⟩) s.length (grownCap w s.length 0 el') else G.ρ i, fun b => if b = w.heap.size then .own idb [] else G.g b⟩ w ((w.drew.alloc (.cells C el')).freeze ⟨w.heap.size, C.size, none⟩ 1) := by
            have h0 : Chg old (fun _ => False) G ⟨G.ρ, fun b => if b = w.heap.size then .own idb [] else G.g b⟩ w ((w.drew.alloc (.cells C el')).freeze ⟨w.heap.size, C.size, none⟩ 1) := by
              refine Chg.fresh hb (fun b hb' => ?_) ?_ ?_ ?_ ?_
              · rw [hfz b (by omega)]
                exact heap_alloc_get w.drew _ hb'
              · unfold World.freeze
                simp
              all_goals (unfold World.freeze; split <;> rfl)
            exact ⟨fun i hi => by show (if i = idb then _ else G.ρ i) = _; rw [if_neg (fun (e : i = idb) => hid (e ▸ hi))], ⟨h0.pb.per, h0.pb.bor⟩, h0.own, h0.no, h0.bnd, fun h1 i => by (show (if i = idb then _ else G.ρ i).oneCell' = true); split <;> first | rfl | exact h1 i, h0.os, h0.tape, h0.output, h0.size⟩
          refine ⟨_, .slice (some ⟨w.heap.size, 0, none⟩) s.length (grownCap w s.length 0 el'), _, _, by rw [Sem.run_bind, hrun]; rfl, .inl rfl, hch.le (fun j hj => by cases hj), .of1 rfl (by simp [MtA]), fun j R' hj => ?_⟩
          simp only [List.mem_singleton, Prod.mk.injEq, Option.some.injEq] at hj
          obtain ⟨rfl, rfl⟩ := hj
          refine ⟨w.heap.size, C, el', (C.size, C.size + 1), grownCap w s.length 0 el', by simp [toBytes], by simp [toBytes]; omega, by simpa [toBytes] using hlen, by simp, hfs, by simp [toBytes]; omega, by simp [toBytes]; omega, fun k x hk => ?_⟩
          simp only [toBytes, List.getElem?_map, Option.map_eq_some_iff] at hk
          obtain ⟨c, hc, rfl⟩ := hk
          refine ⟨?_, u8_in c⟩
          have hjs : k < s.length := (List.getElem?_eq_some_iff.1 hc).1
          simp only [C]
          rw [Array.getElem?_append_left (by simpa [mkS] using hjs)]
          simp [mkS, hc]
        | false =>
          rw [hO] at hx
          simp only [cond_false] at hx
          obtain ⟨rfl, _⟩ := exec_ok hx
          refine ⟨_, .slice (some ⟨w.heap.size, 0, none⟩) s.length (grownCap w s.length 0 el'), _, ⟨G.ρ, fun b => if b = w.heap.size then .per else G.g b⟩, by rw [Sem.run_bind, hrun]; rfl, .inl rfl, ?_, ?_, fun _ _ h => by cases h⟩
          · refine Chg.fresh hb (fun b hb' => ?_) ?_ ?_ ?_ ?_
            · rw [hfz b (by omega)]
              exact heap_alloc_get w.drew _ hb'
            · unfold World.freeze
              simp
            all_goals (unfold World.freeze; split <;> rfl)
          · refine .ofSlice (e := .int .u8) (F := pF) (l := toBytes s) rfl ⟨_, _, _, rfl, by simp [toBytes], by omega, hlen, fun _ => rfl, .inr ⟨w.heap.size, 0, C, el', (C.size, C.size + 1), rfl, by simp [labOk, pF, Fl.hd], ?_, by rw [hCs]; simpa [Ty.size] using hge, (fun h => by cases h), fun j x hj => ?_⟩⟩
            · exact hfs
            · have hj' : (toBytes s)[j]? = some x := hj
              simp only [toBytes, List.getElem?_map, Option.map_eq_some_iff] at hj'
              obtain ⟨c, hc, rfl⟩ := hj'
              refine ⟨?_, u8_in c⟩
              have hjs : j < s.length := (List.getElem?_eq_some_iff.1 hc).1
              refine List.ext_getElem? fun i => ?_
              rw [cellsAt_get?]
              cases i with
              | zero =>
                simp only [Ty.size, Nat.zero_add, Nat.mul_one, Nat.add_zero, Nat.lt_one_iff, if_true, List.getElem?_cons_zero]
                simp only [C]
                rw [Array.getElem?_append_left (by simpa [mkS] using hjs)]
                simp [mkS, hc]
              | succ i => simp [Ty.size]
      · exact exec_fail hx
    · exact exec_fail hx
  · exact exec_fail hx
end
end Go.Sx
