/- Several texts, one behind the other. -/
import Derived.Test.YtkbgdpdldoopmaaDoorMR10toMR7
import Derived.Test.YtkbgdpdldoopmaaDoorMShelftoMR9
import Derived.Test.YtkbgdpdldoopmaaDoorMOpentoMWei
set_option linter.all false
/- Roots read back from their texts: plain. -/
namespace Go.Sx
open Go
/-! numbers -/
def numGo : Str → Int → Int
  | [], n => n
  | c :: r, n => if c.toNat < 48 ∨ 57 < c.toNat then -1 else numGo r (10 * n + ((c.toNat : Int) - 48))
def numV (s : Str) : Int := if inV s.length 1 12 = true then numGo s 0 else -1
theorem dig_toNat {k : Int} (h0 : 0 ≤ k) (h1 : k < 10) : ((UInt8.ofNat (48 + k).toNat).toNat : Int) = 48 + k := by
  obtain ⟨u, rfl⟩ := Int.eq_ofNat_of_zero_le h0
  have hu : u < 10 := by omega
  rw [show (48 + (u : Int)).toNat = 48 + u by omega, UInt8.toNat_ofNat']
  omega
theorem itoa_ind {P : Int → Prop} (h0 : ∀ n, 0 ≤ n → n < 10 → P n) (h1 : ∀ n, 0 ≤ n → ¬ n < 10 → P (n / 10) → P n) : ∀ n, 0 ≤ n → P n := by
  have : ∀ (k : Nat) (n : Int), 0 ≤ n → n < k → P n := by
    intro k
    induction k with
    | zero => intro n h hk; omega
    | succ k ih =>
      intro n h hk
      by_cases hn : n < 10
      · exact h0 n h hn
      · exact h1 n h hn (ih (n / 10) (by omega) (by omega))
  intro n hn
  exact this (n.toNat + 1) n hn (by omega)
theorem itoaV_dig : ∀ n : Int, 0 ≤ n → ∀ c ∈ itoaV n, 48 ≤ c.toNat ∧ c.toNat ≤ 57 := by
  refine itoa_ind ?_ ?_
  · intro n h h2 c hc
    rw [itoaV_small h h2, List.mem_singleton] at hc
    have := dig_toNat h h2
    subst hc
    omega
  · intro n h h2 ih c hc
    rw [itoaV_big h h2] at hc
    rcases List.mem_append.1 hc with hc | hc
    · exact ih c hc
    · rw [List.mem_singleton] at hc
      have := dig_toNat (k := n % 10) (by omega) (by omega)
      subst hc
      omega
theorem itoaV_lenk : ∀ (k : Nat) (n : Int), 0 ≤ n → n < 10 ^ (k + 1) → 1 ≤ (itoaV n).length ∧ (itoaV n).length ≤ k + 1 := by
  intro k
  induction k with
  | zero => intro n h h2; rw [itoaV_small h (by simpa using h2)]; simp
  | succ k ih =>
    intro n h h2
    by_cases hn : n < 10
    · rw [itoaV_small h hn]; simp
    · rw [itoaV_big h hn]
      rw [Int.pow_succ] at h2
      have := ih (n / 10) (by omega) (by omega)
      simp only [List.length_append, List.length_cons, List.length_nil]
      omega
theorem numGo_itoa : ∀ n : Int, 0 ≤ n → ∀ r, numGo (itoaV n ++ r) 0 = numGo r n := by
  refine itoa_ind ?_ ?_
  · intro n h h2 r
    have hd := dig_toNat h h2
    rw [itoaV_small h h2, List.singleton_append]
    simp only [numGo]
    rw [if_neg (by omega), hd]
    congr 1
    omega
  · intro n h h2 ih r
    have hd := dig_toNat (k := n % 10) (by omega) (by omega)
    rw [itoaV_big h h2, List.append_assoc, ih, List.singleton_append]
    simp only [numGo]
    rw [if_neg (by omega), hd]
    congr 1
    omega
theorem numV_itoa {n : Int} (h : 0 ≤ n) (h2 : n < 1000000000000) : numV (itoaV n) = n := by
  have hl := itoaV_lenk 11 n h (by omega)
  unfold numV
  rw [if_pos (by simp [inV]; omega)]
  have := numGo_itoa n h []
  rwa [List.append_nil] at this
/-! cutting -/
def cutGo (a : UInt8) : Str → Str → List Str
  | cur, [] => [cur]
  | cur, c :: r => if c = a then cur :: cutGo a [] r else cutGo a (cur ++ [c]) r
def cutV (a : UInt8) (s : Str) : List Str := cutGo a [] s
theorem cutGo_word {a : UInt8} : ∀ {w cur r : Str}, (∀ c ∈ w, c ≠ a) → cutGo a cur (w ++ r) = cutGo a (cur ++ w) r := by
  intro w
  induction w with
  | nil => intro cur r _; simp
  | cons c w ih =>
    intro cur r h
    rw [List.cons_append]
    simp only [cutGo]
    rw [if_neg (h c List.mem_cons_self), ih (fun x hx => h x (List.mem_cons_of_mem _ hx)), List.append_assoc, List.singleton_append]
theorem cutGo_at {a : UInt8} {cur r : Str} : cutGo a cur (a :: r) = cur :: cutGo a [] r := by simp [cutGo]
theorem cut_lines {a : UInt8} : ∀ {ls : List Str}, (∀ l ∈ ls, ∀ c ∈ l, c ≠ a) → cutV a (catGo (fun l => l ++ [a]) ls) = ls ++ [[]] := by
  intro ls
  induction ls with
  | nil => intro _; rfl
  | cons l ls ih =>
    intro h
    have ih2 := ih (fun x hx => h x (List.mem_cons_of_mem _ hx))
    unfold cutV at ih2 ⊢
    simp only [catGo]
    rw [List.append_assoc, cutGo_word (h l List.mem_cons_self), List.nil_append, List.singleton_append, cutGo_at, ih2]
    rfl
theorem cut_tail {a : UInt8} : ∀ {ws : List Str} {cur : Str}, (∀ w ∈ ws, ∀ c ∈ w, c ≠ a) → cutGo a cur (Lib.joinTail [a] ws) = cur :: ws := by
  intro ws
  induction ws with
  | nil => intro cur _; rfl
  | cons w ws ih =>
    intro cur h
    have e : Lib.joinTail [a] (w :: ws) = a :: (w ++ Lib.joinTail [a] ws) := by simp [Lib.joinTail]
    rw [e, cutGo_at, cutGo_word (h w List.mem_cons_self), List.nil_append, ih (fun x hx => h x (List.mem_cons_of_mem _ hx))]
theorem cut_join {a : UInt8} {w : Str} {ws : List Str} (h : ∀ x ∈ w :: ws, ∀ c ∈ x, c ≠ a) : cutV a (Lib.join (w :: ws) [a]) = w :: ws := by
  unfold cutV
  rw [Lib.join_cons, cutGo_word (h w List.mem_cons_self), List.nil_append, cut_tail (fun x hx => h x (List.mem_cons_of_mem _ hx))]
/-! lines -/
def nR : Str := [114, 111, 111, 116]
def nV : Str := [118, 111, 108]
def nS : Str := [115, 117, 109]
def nN : Str := [110, 111, 110, 101]
def lineW (ws : List Str) : Str := Lib.join ws [32] ++ [10]
def pW (p : Ptr_) : List Str := if noneV p = true then [nN] else wordsV p
def vW (v : Vol_) : List (List Str) := [nV, v.1] :: v.2.map pW
def rW (r : Root_) : List (List Str) := [nR, itoaV r.1] :: r.2.flatMap vW
theorem cat_append {α : Type} {f : α → Str} {a b : List α} : catGo f (a ++ b) = catGo f a ++ catGo f b := by
  induction a with
  | nil => rfl
  | cons x a ih => simp only [List.cons_append, catGo, ih, List.append_assoc]
theorem cat_map {α β : Type} {f : β → Str} {g : α → β} {l : List α} : catGo f (l.map g) = catGo (fun x => f (g x)) l := by
  induction l with
  | nil => rfl
  | cons x l ih => simp only [List.map_cons, catGo, ih]
theorem cat_flat {α β : Type} {f : β → Str} {g : α → List β} {l : List α} : catGo f (l.flatMap g) = catGo (fun x => catGo f (g x)) l := by
  induction l with
  | nil => rfl
  | cons x l ih => rw [List.flatMap_cons, cat_append, ih]; rfl
theorem cat_congr {α : Type} {f g : α → Str} {l : List α} (h : ∀ x, f x = g x) : catGo f l = catGo g l := by rw [show f = g from funext h]
theorem lineV_W (p : Ptr_) : lineV p = lineW (pW p) := by
  unfold lineV lineW pW
  split
  · rw [Lib.join_one]; rfl
  · rfl
theorem join_two (a b s : Str) : Lib.join [a, b] s = a ++ s ++ b := by rw [Lib.join_cons]; simp [Lib.joinTail]
theorem volT_W (v : Vol_) : volT v = catGo lineW (vW v) := by
  unfold volT vW
  simp only [catGo]
  rw [cat_map, cat_congr lineV_W]
  congr 1
  rw [lineW, join_two]
  rfl
theorem body_W (r : Root_) : bodyV r = catGo lineW (rW r) := by
  unfold bodyV rW
  simp only [catGo]
  rw [cat_flat, cat_congr volT_W]
  congr 1
  rw [lineW, join_two]
  rfl
theorem seal_W (r : Root_) : sealV (bodyV r) = catGo lineW (rW r ++ [[nS, itoaV (weighV (bodyV r))]]) := by
  rw [cat_append, ← body_W]
  unfold sealV
  simp only [catGo]
  rw [lineW, join_two, List.append_nil, List.append_assoc, List.append_assoc, List.append_assoc]
  rfl
/-! words are clean -/
def Cl (w : Str) : Prop := ∀ c ∈ w, c ≠ 32 ∧ c ≠ 10
theorem cl_num {n : Int} (h : 0 ≤ n) : Cl (itoaV n) := by
  intro c hc
  have := itoaV_dig n h c hc
  refine ⟨?_, ?_⟩ <;> · rintro rfl; revert this; decide
theorem cl_name {s : Str} (h : s.all lower = true) : Cl s := by
  intro c hc
  have := List.all_eq_true.1 h c hc
  refine ⟨?_, ?_⟩ <;> · rintro rfl; revert this; decide
theorem cl_app {a b : Str} (ha : Cl a) (hb : Cl b) : Cl (a ++ b) := fun c hc => (List.mem_append.1 hc).elim (ha c) (hb c)
theorem cl_lit {s : Str} (h : (s.all fun c => decide (c ≠ 32 ∧ c ≠ 10)) = true) : Cl s := fun c hc => of_decide_eq_true (List.all_eq_true.1 h c hc)
def LOk (ws : List Str) : Prop := ws ≠ [] ∧ ∀ w ∈ ws, Cl w
theorem lok_two {a b : Str} (ha : Cl a) (hb : Cl b) : LOk [a, b] := ⟨by simp, fun w hw => by
  simp only [List.mem_cons, List.not_mem_nil, or_false] at hw
  rcases hw with rfl | rfl
  · exact ha
  · exact hb⟩
theorem cut_line {ws : List Str} (h : LOk ws) : cutV 32 (Lib.join ws [32]) = ws := by
  cases ws with
  | nil => exact absurd rfl h.1
  | cons w ws => exact cut_join fun x hx c hc => (h.2 x hx c hc).1
theorem join_no10 {ws : List Str} (h : LOk ws) : ∀ c ∈ Lib.join ws [32], c ≠ 10 := by
  cases ws with
  | nil => exact absurd rfl h.1
  | cons w ws =>
    intro c hc
    rw [Lib.join_cons] at hc
    rcases List.mem_append.1 hc with hc | hc
    · exact (h.2 w List.mem_cons_self c hc).2
    · simp only [Lib.joinTail, List.mem_flatten, List.mem_map] at hc
      obtain ⟨l, ⟨x, hx, rfl⟩, hc⟩ := hc
      rcases List.mem_append.1 hc with hc | hc
      · rw [List.mem_singleton] at hc; subst hc; decide
      · exact (h.2 x (List.mem_cons_of_mem _ hx) c hc).2
theorem cut_all {ls : List (List Str)} (h : ∀ ws ∈ ls, LOk ws) : (cutV 10 (catGo lineW ls)).map (cutV 32) = ls ++ [[[]]] := by
  have e : catGo lineW ls = catGo (fun l => l ++ [10]) (ls.map fun ws => Lib.join ws [32]) := by rw [cat_map]; rfl
  rw [e, cut_lines (fun l hl => by obtain ⟨ws, hws, rfl⟩ := List.mem_map.1 hl; exact join_no10 (h ws hws)), List.map_append, List.map_map]
  congr 1
  rw [show ls = ls.map id from (List.map_id _).symm, List.map_map]
  exact List.map_congr_left fun ws hws => cut_line (h ws hws)
/-! pointers of lines -/
def plcR (w : Str) : Plc := (numV ((cutV 46 w).getD 0 []), if (cutV 46 w).length = 2 then numV ((cutV 46 w).getD 1 []) else -1)
def ptrR (ws : List Str) : Ptr_ := if ws.getD 0 [] ≠ tPtr ∨ ws.length < 3 then (0, 0, []) else (numV (ws.getD 1 []), numV (ws.getD 2 []), (ws.drop 3).map plcR)
theorem plcR_word {d : Int} {a : Plc} (h : placeV d a = true) (hd : d ≤ 4) : plcR (wordV a) = a := by
  simp only [placeV, Bool.and_eq_true, decide_eq_true_eq] at h
  have hn : ∀ n : Int, 0 ≤ n → ∀ c ∈ itoaV n, c ≠ 46 := by
    intro n hn c hc
    have := itoaV_dig n hn c hc
    rintro rfl; revert this; decide
  have e : cutV 46 (wordV a) = [itoaV a.1, itoaV a.2] := by
    unfold cutV wordV
    rw [List.append_assoc, cutGo_word (hn _ h.1), List.nil_append, List.singleton_append, cutGo_at]
    have := cutGo_word (a := 46) (cur := []) (r := []) (hn a.2 h.2.2.1)
    rw [List.append_nil, List.nil_append] at this
    rw [this]
    rfl
  unfold plcR
  rw [e]
  show (numV (itoaV a.1), numV (itoaV a.2)) = a
  rw [numV_itoa h.1 (by omega), numV_itoa h.2.2.1 (by omega)]
theorem ptrV_wide2 {d : Int} {p : Ptr_} (h : ptrV d p = true) (hn : ¬ noneV p = true) : (0 ≤ p.1 ∧ p.1 ≤ 9) ∧ (0 ≤ p.2.1 ∧ p.2.1 ≤ 1000000000) ∧ ∀ a ∈ p.2.2, placeV 4 a = true := by
  have h4 := ptrV_wide h
  simp only [ptrV, Bool.and_eq_true, Bool.or_eq_true] at h4
  rcases h4.2 with h1 | h1
  · exact absurd h1 hn
  · obtain ⟨h1, h2⟩ := h1
    simp only [sizeV, inV, Bool.and_eq_true, decide_eq_true_eq] at h1
    have hm : mostV 4 = 9 := by decide
    refine ⟨by omega, by omega, fun a ha => ?_⟩
    obtain ⟨i, hi, rfl⟩ := List.getElem_of_mem ha
    have := chk_iff.1 h2 i hi
    simp only [placeF, Bool.and_eq_true] at this
    exact this.1
theorem none_eq {p : Ptr_} (h : noneV p = true) : p = (0, 0, []) := by
  simp only [noneV, Bool.and_eq_true, decide_eq_true_eq] at h
  obtain ⟨a, b, c⟩ := p
  obtain ⟨rfl, rfl, h3⟩ := h
  have h4 : c = [] := List.eq_nil_of_length_eq_zero h3
  rw [h4]
theorem ptrR_W {d : Int} {p : Ptr_} (h : ptrV d p = true) : ptrR (pW p) = p := by
  by_cases hn : noneV p = true
  · rw [none_eq hn]; decide
  · obtain ⟨h1, h2, h3⟩ := ptrV_wide2 h hn
    have e : pW p = tPtr :: itoaV p.1 :: itoaV p.2.1 :: p.2.2.map wordV := by unfold pW; rw [if_neg hn]; rfl
    rw [e]
    unfold ptrR
    rw [if_neg (by simp)]
    show (numV (itoaV p.1), numV (itoaV p.2.1), (p.2.2.map wordV).map plcR) = p
    rw [numV_itoa h1.1 (by omega), numV_itoa h2.1 (by omega), List.map_map]
    have : p.2.2.map (plcR ∘ wordV) = p.2.2 := by
      conv => rhs; rw [← List.map_id p.2.2]
      exact List.map_congr_left fun a ha => plcR_word (h3 a ha) (by decide)
    rw [this]
theorem lok_W {d : Int} {p : Ptr_} (h : ptrV d p = true) : LOk (pW p) := by
  unfold pW
  split
  · exact ⟨by simp, fun w hw => by rw [List.mem_singleton.1 hw]; exact cl_lit (by decide)⟩
  · rename_i hn
    obtain ⟨h1, h2, h3⟩ := ptrV_wide2 h hn
    refine ⟨by simp [wordsV], fun w hw => ?_⟩
    rcases List.mem_append.1 hw with hw | hw
    · simp only [List.mem_cons, List.not_mem_nil, or_false] at hw
      rcases hw with rfl | rfl | rfl
      · exact cl_lit (by decide)
      · exact cl_num h1.1
      · exact cl_num h2.1
    · obtain ⟨a, ha, rfl⟩ := List.mem_map.1 hw
      have h4 := h3 a ha
      simp only [placeV, Bool.and_eq_true, decide_eq_true_eq] at h4
      exact cl_app (cl_app (cl_num h4.1) (cl_lit (by decide))) (cl_num h4.2.2.1)
/-! the reader -/
def rdStep (b : Bool) (o : Root_) (ws : List Str) : Root_ :=
  if b = true ∧ ws.length = 2 then (numV (ws.getD 1 []), o.2)
  else if ws.getD 0 [] = nV ∧ ws.length = 2 then (o.1, o.2 ++ [(ws.getD 1 [], [])])
  else if 0 < o.2.length ∧ (ws.getD 0 [] = tPtr ∨ ws.getD 0 [] = nN) then (o.1, o.2.set (o.2.length - 1) ((o.2.getD (o.2.length - 1) ([], [])).1, (o.2.getD (o.2.length - 1) ([], [])).2 ++ [ptrR ws]))
  else o
def rdGo : Bool → Root_ → List (List Str) → Root_
  | _, o, [] => o
  | b, o, ws :: r => rdGo false (rdStep b o ws) r
def parseV (s : Str) : Root_ := rdGo true (0, []) ((cutV 10 s).map (cutV 32))
theorem step_ptr {t : Int} {pre : List Vol_} {nm : Str} {done : List Ptr_} {p : Ptr_} {d : Int} (h : ptrV d p = true) : rdStep false (t, pre ++ [(nm, done)]) (pW p) = (t, pre ++ [(nm, done ++ [p])]) := by
  have hr := ptrR_W h
  have h0 : (pW p).getD 0 [] = tPtr ∨ (pW p).getD 0 [] = nN := by
    unfold pW
    split
    · exact .inr rfl
    · exact .inl rfl
  unfold rdStep
  rw [if_neg (by simp), if_neg (by rcases h0 with h0 | h0 <;> · rw [h0]; intro hh; exact absurd hh.1 (by decide)), if_pos ⟨by simp, h0⟩, hr]
  simp
theorem rd_blocks {t : Int} {pre : List Vol_} {nm : Str} {d : Int} : ∀ {bl done : List Ptr_} {rest : List (List Str)}, (∀ p ∈ bl, ptrV d p = true) → rdGo false (t, pre ++ [(nm, done)]) (bl.map pW ++ rest) = rdGo false (t, pre ++ [(nm, done ++ bl)]) rest := by
  intro bl
  induction bl with
  | nil => intro done rest _; simp
  | cons p bl ih =>
    intro done rest h
    rw [List.map_cons, List.cons_append]
    simp only [rdGo]
    rw [step_ptr (h p List.mem_cons_self), ih (fun q hq => h q (List.mem_cons_of_mem _ hq)), List.append_assoc, List.singleton_append]
theorem rd_vol {t : Int} {pre : List Vol_} {v : Vol_} {d : Int} {rest : List (List Str)} (h : ∀ p ∈ v.2, ptrV d p = true) : rdGo false (t, pre) (vW v ++ rest) = rdGo false (t, pre ++ [v]) rest := by
  unfold vW
  rw [List.cons_append]
  simp only [rdGo]
  have e : rdStep false (t, pre) [nV, v.1] = (t, pre ++ [(v.1, [])]) := by
    unfold rdStep
    rw [if_neg (by simp), if_pos ⟨rfl, rfl⟩]
    rfl
  rw [e, rd_blocks h, List.nil_append]
theorem rd_vols {t : Int} {d : Int} : ∀ {vs pre : List Vol_} {rest : List (List Str)}, (∀ v ∈ vs, ∀ p ∈ v.2, ptrV d p = true) → rdGo false (t, pre) (vs.flatMap vW ++ rest) = rdGo false (t, pre ++ vs) rest := by
  intro vs
  induction vs with
  | nil => intro pre rest _; simp
  | cons v vs ih =>
    intro pre rest h
    rw [List.flatMap_cons, List.append_assoc, rd_vol (h v List.mem_cons_self), ih (fun w hw => h w (List.mem_cons_of_mem _ hw)), List.append_assoc, List.singleton_append]
theorem root_parts {d : Int} {r : Root_} (h : rootV d r = true) : (0 ≤ r.1 ∧ r.1 ≤ 100000) ∧ (∀ v ∈ r.2, nameV v.1 = true ∧ v.2.length = 3 ∧ ∀ p ∈ v.2, ptrV d p = true) ∧ r.2.length ≤ 4 := by
  simp only [rootV, volsV, inV, Bool.and_eq_true, decide_eq_true_eq] at h
  refine ⟨h.2.1, fun v hv => ?_, h.2.2.1.2⟩
  obtain ⟨i, hi, rfl⟩ := List.getElem_of_mem hv
  have := chk_iff.1 h.2.2.1.1 i hi
  simp only [volF, Bool.and_eq_true, decide_eq_true_eq, List.all_eq_true] at this
  exact ⟨this.1, this.2.1, this.2.2.2⟩
theorem weighGo_nn : ∀ (s : Str) (i : Nat), 0 ≤ weighGo s i := by
  intro s
  induction s with
  | nil => intro i; exact Int.le_refl _
  | cons c s ih =>
    intro i
    simp only [weighGo]
    have := ih (i + 1)
    have h1 : (0 : Int) ≤ (c.toNat : Int) * (65536 + (i : Int) + 1) := Int.mul_nonneg (by omega) (by omega)
    omega
theorem lok_root {d : Int} {r : Root_} (h : rootV d r = true) : ∀ ws ∈ rW r ++ [[nS, itoaV (weighV (bodyV r))]], LOk ws := by
  obtain ⟨h1, h2, _⟩ := root_parts h
  intro ws hws
  rcases List.mem_append.1 hws with hws | hws
  · unfold rW at hws
    rcases List.mem_cons.1 hws with rfl | hws
    · exact lok_two (cl_lit (by decide)) (cl_num h1.1)
    · obtain ⟨v, hv, hws⟩ := List.mem_flatMap.1 hws
      obtain ⟨a, _, c⟩ := h2 v hv
      unfold vW at hws
      rcases List.mem_cons.1 hws with rfl | hws
      · refine lok_two (cl_lit (by decide)) (cl_name ?_)
        simp only [nameV, Bool.and_eq_true] at a
        exact a.2
      · obtain ⟨p, hp, rfl⟩ := List.mem_map.1 hws
        exact lok_W (c p hp)
  · rw [List.mem_singleton.1 hws]
    exact lok_two (cl_lit (by decide)) (cl_num (weighGo_nn _ _))
theorem step_none {o : Root_} {ws : List Str} (h1 : ws.getD 0 [] ≠ nV) (h2 : ws.getD 0 [] ≠ tPtr) (h3 : ws.getD 0 [] ≠ nN) : rdStep false o ws = o := by
  unfold rdStep
  rw [if_neg (by simp), if_neg (fun hh => h1 hh.1), if_neg (fun hh => hh.2.elim h2 h3)]
/-- a root is read back from its text -/
theorem parse_seal {d : Int} {r : Root_} (h : rootV d r = true) : parseV (sealV (bodyV r)) = r := by
  obtain ⟨h1, h2, _⟩ := root_parts h
  unfold parseV
  rw [seal_W, cut_all (lok_root h)]
  unfold rW
  rw [List.cons_append, List.cons_append]
  simp only [rdGo]
  have e : rdStep true (0, []) [nR, itoaV r.1] = (r.1, []) := by
    unfold rdStep
    rw [if_pos ⟨rfl, rfl⟩]
    show (numV (itoaV r.1), []) = _
    rw [numV_itoa h1.1 (by omega)]
  rw [e, List.append_assoc, rd_vols (fun v hv => (h2 v hv).2.2), List.nil_append, List.singleton_append]
  simp only [rdGo]
  rw [step_none (by simp [nS]; decide) (by simp [nS]; decide) (by simp [nS]; decide), step_none (by simp; decide) (by simp; decide) (by simp; decide)]
theorem seal_ne {s : Str} : sealV s ≠ [] := by unfold sealV; simp
theorem rootT_nil {d : Int} {r : Root_} : rootT d r = [] ↔ ¬ rootV d r = true := by
  unfold rootT
  split
  · rename_i h
    exact ⟨fun e => absurd e seal_ne, fun e => absurd h e⟩
  · rename_i h
    exact ⟨fun _ => h, fun _ => rfl⟩
theorem parse_root {d : Int} {r : Root_} (h : rootV d r = true) : parseV (rootT d r) = r := by
  unfold rootT
  rw [if_pos h, parse_seal h]
theorem rootT_inj {d : Int} {a b : Root_} (ha : rootV d a = true) (hb : rootV d b = true) : rootT d a = rootT d b ↔ a = b :=
  ⟨fun e => by rw [← parse_root ha, ← parse_root hb, e], fun e => by rw [e]⟩
end Go.Sx

namespace Go.Sx
open Go
set_option maxRecDepth 100000
set_option linter.unusedVariables false
set_option linter.unusedSimpArgs false
set_option maxHeartbeats 2000000

def cLpaPtr : Ctr := ⟨42, [.val true T_Ptr (.all .b), .val true T_Ptr (.all .b)], fun x => True, fun x => (sBool (decide ((x.1 : Ptr_) = x.2.1)), [])⟩
theorem cLpaPtr_ok : CtrOk Proofs.Tryd.prog cLpaPtr := by
  have hP := (Prg.none ttok mtok)
  refine ctr_of_body hP cLpaPtr (fn := Proofs.Tryd.f42) (rts := [.tmp 4]) Proofs.Tryd.func42 rfl (by kernel_rfl) rfl rfl ?_
  rintro ⟨⟨(sz : Int), (sm : Int), (pl : List Plc)⟩, ⟨(sz2 : Int), (sm2 : Int), (pl2 : List Plc)⟩, ⟨⟩⟩ ⟨⟨_, _, hda⟩, ⟨_, _, hdb⟩, _⟩ _
  try dsimp only [Ty.den, Mode.den, mdens] at _
  refine ⟨rfl, ?_⟩
  have hml : pl.length ≤ 140737488355328 := hda.1
  have hmb : pl2.length ≤ 140737488355328 := hdb.1
  refine sw_seq ?_
  refine sw_region hP 1 [] rfl (by kernel_rfl) (fun _ => by kernel_rfl) (by first | trivial | (simp [conj]; done) | (simp [conj] at *; (try dsimp only [Ty.den, Ty.dflt] at *); omega)) ?_
  refine sw_seq ?_
  refine sw_seq ?_
  refine sw_dec hP 2 [] 5 rfl (fun g1_5 => ?_) (fun g1_5 => ?_)
  · skip
    replace g1_5 : ¬ sz = sz2 := by simpa using g1_5
    refine sw_region hP 2 [(5, true)] rfl (by kernel_rfl) (fun _ => by kernel_rfl) (by first | trivial | (simp [conj]; done) | (simp [conj] at *; (try dsimp only [Ty.den, Ty.dflt] at *); omega)) ?_
    refine sw_condT rfl ?_
    refine sw_seq ?_
    refine sw_region hP 3 [] rfl (by kernel_rfl) (fun _ => by kernel_rfl) (by first | trivial | (simp [conj]; done) | (simp [conj] at *; (try dsimp only [Ty.den, Ty.dflt] at *); omega)) ?_
    refine sw_ret ⟨.inl rfl, _, rfl, ?_⟩
    simp [conj, g1_5]
  · skip
    replace g1_5 : sz = sz2 := by simpa using g1_5
    refine sw_dec hP 2 [(5, false)] 12 rfl (fun g1_12 => ?_) (fun g1_12 => ?_)
    · skip
      replace g1_12 : ¬ sm = sm2 := by simpa using g1_12
      refine sw_region hP 2 [(5, false), (12, true)] rfl (by kernel_rfl) (fun _ => by kernel_rfl) (by first | trivial | (simp [conj]; done) | (simp [conj] at *; (try dsimp only [Ty.den, Ty.dflt] at *); omega)) ?_
      refine sw_condT rfl ?_
      refine sw_seq ?_
      refine sw_region hP 3 [] rfl (by kernel_rfl) (fun _ => by kernel_rfl) (by first | trivial | (simp [conj]; done) | (simp [conj] at *; (try dsimp only [Ty.den, Ty.dflt] at *); omega)) ?_
      refine sw_ret ⟨.inl rfl, _, rfl, ?_⟩
      simp [conj, g1_12]
    · skip
      replace g1_12 : sm = sm2 := by simpa using g1_12
      refine sw_region hP 2 [(5, false), (12, false)] rfl (by kernel_rfl) (fun _ => by kernel_rfl) (by first | trivial | (simp [conj]; done) | (simp [conj] at *; (try dsimp only [Ty.den, Ty.dflt] at *); omega)) ?_
      refine sw_cond rfl (fun c1 => ?_) (fun c1 => ?_)
      · skip
        replace c1 : ¬ pl.length = pl2.length := by simp at c1; omega
        refine sw_seq ?_
        refine sw_region hP 3 [] rfl (by kernel_rfl) (fun _ => by kernel_rfl) (by first | trivial | (simp [conj]; done) | (simp [conj] at *; (try dsimp only [Ty.den, Ty.dflt] at *); omega)) ?_
        refine sw_ret ⟨.inl rfl, _, rfl, ?_⟩
        have hne : ¬ pl = pl2 := fun e => c1 (by rw [e])
        simp [conj, hne]
      · skip
        replace c1 : pl.length = pl2.length := by simp at c1; omega
        refine sw_skip ?_
        refine sw_seq ?_
        refine sw_seq ?_
        refine sw_region hP 3 [] rfl (by kernel_rfl) (fun _ => by kernel_rfl) (by first | trivial | (simp [conj]; done) | (simp [conj] at *; (try dsimp only [Ty.den, Ty.dflt] at *); omega)) ?_
        refine sw_block ?_
        refine sw_loop (ι := Nat) (fun i => ⟨[.junk, .junk, .v false [.ptr ⟨1, 0, 0⟩ 0], .v false [.ptr ⟨1, 1, 0⟩ 0], .junk, sInt .i64 (i : Int), .junk, .junk, .junk, .junk, .junk, .junk, .junk, .junk, .junk, .junk, .junk, .junk, .junk, .junk, .junk, .junk, .junk, .junk, .junk, .junk, .junk, .junk, .junk, .junk, .junk, .junk, .junk, .junk, .junk, .junk, .junk, .junk, .junk, .junk, .junk, .junk, .junk, .junk, .junk], [(⟨1, 0, 0⟩, .var [.d TI pF sz, .d TI pF sm, .d (.sl T_Place) (.all .b) pl]), (⟨1, 1, 0⟩, .var [.d TI pF sz2, .d TI pF sm2, .d (.sl T_Place) (.all .b) pl2])], 3, []⟩) (fun i => pl.length - i) (fun i => i ≤ pl.length ∧ decide (pl.drop i = pl2.drop i) = decide (pl = pl2)) 0 ⟨?_, ?_⟩ ?_
        · skip
          exact ⟨Nat.zero_le _, rfl⟩
        · refine ent_ok rfl ?_
          simp [conj]
        · rintro i ⟨hi, hgo⟩
          refine sw_seq ?_
          refine sw_seq ?_
          refine sw_region hP 4 [] rfl (by kernel_rfl) (fun _ => by kernel_rfl) (by first | trivial | (simp [conj]; done) | (simp [conj] at *; (try dsimp only [Ty.den, Ty.dflt] at *); omega)) ?_
          refine sw_cond rfl (fun c4 => ?_) (fun c4 => ?_)
          · skip
            have hlt : i < pl.length := by simpa using c4
            have hlt2 : i < pl2.length := by omega
            refine sw_skip ?_
            refine sw_seq ?_
            refine sw_block ?_
            refine sw_seq ?_
            refine sw_region hP 5 [] rfl (by kernel_rfl) (fun _ => by kernel_rfl) ?_ ?_
            · skip
              simp [conj, List.getElem?_eq_getElem hlt, List.getElem?_eq_getElem hlt2]
              repeat' apply And.intro
              all_goals first | omega | trivial
            refine sw_cond rfl (fun c6 => ?_) (fun c6 => ?_)
            · skip
              replace c6 : ¬ pl[i] = pl2[i] := by intro e; simp [List.getElem?_eq_getElem hlt, List.getElem?_eq_getElem hlt2, e] at c6
              refine sw_seq ?_
              refine sw_region hP 6 [] rfl (by kernel_rfl) (fun _ => by kernel_rfl) (by first | trivial | (simp [conj]; done) | (simp [conj] at *; (try dsimp only [Ty.den, Ty.dflt] at *); omega)) ?_
              refine sw_ret ⟨.inl rfl, _, rfl, ?_⟩
              have hne : ¬ pl = pl2 := of_decide_eq_false (eqL_hit hlt hlt2 hgo c6)
              simp [conj, hne]
            · skip
              replace c6 : pl[i] = pl2[i] := by
                have h := c6
                simp [List.getElem?_eq_getElem hlt, List.getElem?_eq_getElem hlt2] at h
                exact Prod.ext h.1 h.2
              refine sw_skip ?_
              refine sw_region hP 6 [] rfl (by kernel_rfl) (fun _ => by kernel_rfl) (by first | trivial | (simp [conj]; done) | (simp [conj] at *; (try dsimp only [Ty.den, Ty.dflt] at *); omega)) ?_
              refine ⟨i + 1, ?_, ?_, ent_ok rfl ?_⟩
              · skip
                exact ⟨hlt, eqL_next hlt hlt2 hgo c6⟩
              · skip
                omega
              · skip
                simp [conj]
          · skip
            obtain rfl : i = pl.length := by simp at c4; omega
            refine sw_exit ?_
            refine sw_seq ?_
            refine sw_region hP 5 [] rfl (by kernel_rfl) (fun _ => by kernel_rfl) (by first | trivial | (simp [conj]; done) | (simp [conj] at *; (try dsimp only [Ty.den, Ty.dflt] at *); omega)) ?_
            refine sw_ret ⟨.inl rfl, _, rfl, ?_⟩
            have he : pl = pl2 := of_decide_eq_true (eqL_end c1 hgo)
            simp [conj, g1_5, g1_12, he]

def cLpaRoot : Ctr := ⟨15, [.val true T_Root (.all .b), .val true T_Root (.all .b)], fun x => True, fun x => (sBool (decide ((x.1 : Root_) = x.2.1)), [])⟩
theorem cLpaRoot_ok : CtrOk Proofs.Tryd.prog cLpaRoot := by
  have hP := ((Prg.none ttok mtok).and cLpaPtr_ok)
  refine ctr_of_body hP cLpaRoot (fn := Proofs.Tryd.f15) (rts := [.tmp 4]) Proofs.Tryd.func15 rfl (by kernel_rfl) rfl rfl ?_
  rintro ⟨⟨(tg : Int), (l : List Vol_)⟩, ⟨(tg2 : Int), (l2 : List Vol_)⟩, ⟨⟩⟩ ⟨⟨_, hda⟩, ⟨_, hdb⟩, _⟩ _
  try dsimp only [Ty.den, Mode.den, mdens] at _
  refine ⟨rfl, ?_⟩
  have hml : l.length ≤ 140737488355328 := hda.1
  have hmb : l2.length ≤ 140737488355328 := hdb.1
  refine sw_seq ?_
  refine sw_region hP 1 [] rfl (by kernel_rfl) (fun _ => by kernel_rfl) (by first | trivial | (simp [conj]; done) | (simp [conj] at *; (try dsimp only [Ty.den, Ty.dflt] at *); omega)) ?_
  refine sw_seq ?_
  refine sw_seq ?_
  refine sw_dec hP 2 [] 5 rfl (fun g1_5 => ?_) (fun g1_5 => ?_)
  · skip
    replace g1_5 : ¬ tg = tg2 := by simpa using g1_5
    refine sw_region hP 2 [(5, true)] rfl (by kernel_rfl) (fun _ => by kernel_rfl) (by first | trivial | (simp [conj]; done) | (simp [conj] at *; (try dsimp only [Ty.den, Ty.dflt] at *); omega)) ?_
    refine sw_condT rfl ?_
    refine sw_seq ?_
    refine sw_region hP 3 [] rfl (by kernel_rfl) (fun _ => by kernel_rfl) (by first | trivial | (simp [conj]; done) | (simp [conj] at *; (try dsimp only [Ty.den, Ty.dflt] at *); omega)) ?_
    refine sw_ret ⟨.inl rfl, _, rfl, ?_⟩
    simp [conj, g1_5]
  · skip
    replace g1_5 : tg = tg2 := by simpa using g1_5
    refine sw_region hP 2 [(5, false)] rfl (by kernel_rfl) (fun _ => by kernel_rfl) (by first | trivial | (simp [conj]; done) | (simp [conj] at *; (try dsimp only [Ty.den, Ty.dflt] at *); omega)) ?_
    refine sw_cond rfl (fun c1 => ?_) (fun c1 => ?_)
    · skip
      replace c1 : ¬ l.length = l2.length := by simp at c1; omega
      refine sw_seq ?_
      refine sw_region hP 3 [] rfl (by kernel_rfl) (fun _ => by kernel_rfl) (by first | trivial | (simp [conj]; done) | (simp [conj] at *; (try dsimp only [Ty.den, Ty.dflt] at *); omega)) ?_
      refine sw_ret ⟨.inl rfl, _, rfl, ?_⟩
      have hne : ¬ l = l2 := fun e => c1 (by rw [e])
      simp [conj, hne]
    · skip
      replace c1 : l.length = l2.length := by simp at c1; omega
      refine sw_skip ?_
      refine sw_seq ?_
      refine sw_seq ?_
      refine sw_region hP 3 [] rfl (by kernel_rfl) (fun _ => by kernel_rfl) (by first | trivial | (simp [conj]; done) | (simp [conj] at *; (try dsimp only [Ty.den, Ty.dflt] at *); omega)) ?_
      refine sw_block ?_
      refine sw_loop (ι := Nat) (fun i => ⟨[.junk, .junk, .v false [.ptr ⟨1, 0, 0⟩ 0], .v false [.ptr ⟨1, 1, 0⟩ 0], .junk, sInt .i64 (i : Int), .junk, .junk, .junk, .junk, .junk, .junk, .junk, .junk, .junk, .junk, .junk, .junk, .junk, .junk, .junk, .junk, .junk, .junk, .junk, .junk, .junk, .junk, .junk, .junk, .junk, .junk, .junk, .junk, .junk, .junk, .junk, .junk, .junk, .junk, .junk, .junk, .junk, .junk, .junk, .junk, .junk, .junk, .junk, .junk, .junk, .junk, .junk, .junk, .junk, .junk, .junk, .junk, .junk, .junk, .junk, .junk, .junk, .junk, .junk, .junk, .junk, .junk, .junk, .junk, .junk, .junk, .junk, .junk, .junk, .junk, .junk, .junk, .junk, .junk, .junk, .junk, .junk, .junk, .junk, .junk, .junk, .junk, .junk], [(⟨1, 0, 0⟩, .var [.d TI pF tg, .d (.sl T_Vol) (.all .b) l]), (⟨1, 1, 0⟩, .var [.d TI pF tg2, .d (.sl T_Vol) (.all .b) l2])], 3, []⟩) (fun i => l.length - i) (fun i => i ≤ l.length ∧ decide (l.drop i = l2.drop i) = decide (l = l2)) 0 ⟨?_, ?_⟩ ?_
      · skip
        exact ⟨Nat.zero_le _, rfl⟩
      · refine ent_ok rfl ?_
        simp [conj]
      · rintro i ⟨hi, hgo⟩
        refine sw_seq ?_
        refine sw_seq ?_
        refine sw_region hP 4 [] rfl (by kernel_rfl) (fun _ => by kernel_rfl) (by first | trivial | (simp [conj]; done) | (simp [conj] at *; (try dsimp only [Ty.den, Ty.dflt] at *); omega)) ?_
        refine sw_cond rfl (fun c4 => ?_) (fun c4 => ?_)
        · skip
          have hlt : i < l.length := by simpa using c4
          have hlt2 : i < l2.length := by omega
          have hb1 : l[i].2.length ≤ 140737488355328 := (hda.2 _ (List.getElem_mem hlt)).2.1
          have hb2 : l2[i].2.length ≤ 140737488355328 := (hdb.2 _ (List.getElem_mem hlt2)).2.1
          refine sw_skip ?_
          refine sw_seq ?_
          refine sw_block ?_
          refine sw_seq ?_
          refine sw_seq ?_
          refine sw_dec hP 5 [] 13 rfl (fun g6_13 => ?_) (fun g6_13 => ?_)
          · skip
            replace g6_13 : ¬ l[i].1 = l2[i].1 := by simpa [List.getElem?_eq_getElem hlt, List.getElem?_eq_getElem hlt2] using g6_13
            have hbad : ¬ l[i] = l2[i] := fun e => g6_13 (by rw [e])
            refine sw_region hP 5 [(13, true)] rfl (by kernel_rfl) (fun _ => by kernel_rfl) ?_ ?_
            · skip
              simp [conj, List.getElem?_eq_getElem hlt, List.getElem?_eq_getElem hlt2]
              repeat' apply And.intro
              all_goals first | omega | trivial
            refine sw_condT rfl ?_
            refine sw_seq ?_
            refine sw_region hP 6 [] rfl (by kernel_rfl) (fun _ => by kernel_rfl) (by first | trivial | (simp [conj]; done) | (simp [conj] at *; (try dsimp only [Ty.den, Ty.dflt] at *); omega)) ?_
            refine sw_ret ⟨.inl rfl, _, rfl, ?_⟩
            have hne : ¬ l = l2 := of_decide_eq_false (eqL_hit hlt hlt2 hgo hbad)
            simp [conj, hne]
          · skip
            replace g6_13 : l[i].1 = l2[i].1 := by simpa [List.getElem?_eq_getElem hlt, List.getElem?_eq_getElem hlt2] using g6_13
            refine sw_region hP 5 [(13, false)] rfl (by kernel_rfl) (fun _ => by kernel_rfl) ?_ ?_
            · skip
              simp [conj, List.getElem?_eq_getElem hlt, List.getElem?_eq_getElem hlt2]
              repeat' apply And.intro
              all_goals first | omega | trivial
            refine sw_cond rfl (fun c6 => ?_) (fun c6 => ?_)
            · skip
              replace c6 : ¬ l[i].2.length = l2[i].2.length := by simp [List.getElem?_eq_getElem hlt, List.getElem?_eq_getElem hlt2] at c6; omega
              have hbad : ¬ l[i] = l2[i] := fun e => c6 (by rw [e])
              refine sw_seq ?_
              refine sw_region hP 6 [] rfl (by kernel_rfl) (fun _ => by kernel_rfl) (by first | trivial | (simp [conj]; done) | (simp [conj] at *; (try dsimp only [Ty.den, Ty.dflt] at *); omega)) ?_
              refine sw_ret ⟨.inl rfl, _, rfl, ?_⟩
              have hne : ¬ l = l2 := of_decide_eq_false (eqL_hit hlt hlt2 hgo hbad)
              simp [conj, hne]
            · skip
              replace c6 : l[i].2.length = l2[i].2.length := by simp [List.getElem?_eq_getElem hlt, List.getElem?_eq_getElem hlt2] at c6; omega
              refine sw_skip ?_
              refine sw_seq ?_
              refine sw_region hP 6 [] rfl (by kernel_rfl) (fun _ => by kernel_rfl) (by first | trivial | (simp [conj]; done) | (simp [conj] at *; (try dsimp only [Ty.den, Ty.dflt] at *); omega)) ?_
              refine sw_block ?_
              refine sw_loop (ι := Nat) (fun k => ⟨[.junk, .junk, .v false [.ptr ⟨1, 0, 0⟩ 0], .v false [.ptr ⟨1, 1, 0⟩ 0], .junk, sInt .i64 (i : Int), sInt .i64 (k : Int), .junk, .junk, .junk, .junk, .junk, .junk, .junk, .junk, .junk, .junk, .junk, .junk, .junk, .junk, .junk, .junk, .junk, .junk, .junk, .junk, .junk, .junk, .junk, .junk, .junk, .junk, .junk, .junk, .junk, .junk, .junk, .junk, .junk, .junk, .junk, .junk, .junk, .junk, .junk, .junk, .junk, .junk, .junk, .junk, .junk, .junk, .junk, .junk, .junk, .junk, .junk, .junk, .junk, .junk, .junk, .junk, .junk, .junk, .junk, .junk, .junk, .junk, .junk, .junk, .junk, .junk, .junk, .junk, .junk, .junk, .junk, .junk, .junk, .junk, .junk, .junk, .junk, .junk, .junk, .junk, .junk, .junk], [(⟨1, 0, 0⟩, .var [.d TI pF tg, .d (.sl T_Vol) (.all .b) l]), (⟨1, 1, 0⟩, .var [.d TI pF tg2, .d (.sl T_Vol) (.all .b) l2])], 6, []⟩) (fun k => l[i].2.length - k) (fun k => k ≤ l[i].2.length ∧ decide (l[i].2.drop k = l2[i].2.drop k) = decide (l[i].2 = l2[i].2)) 0 ⟨?_, ?_⟩ ?_
              · skip
                exact ⟨Nat.zero_le _, rfl⟩
              · refine ent_ok rfl ?_
                simp [conj]
              · rintro k ⟨hk, hgk⟩
                refine sw_seq ?_
                refine sw_seq ?_
                refine sw_region hP 7 [] rfl (by kernel_rfl) (fun _ => by kernel_rfl) ?_ ?_
                · skip
                  simp [conj, List.getElem?_eq_getElem hlt, List.getElem?_eq_getElem hlt2]
                  repeat' apply And.intro
                  all_goals first | omega | trivial
                refine sw_cond rfl (fun c9 => ?_) (fun c9 => ?_)
                · skip
                  have hk1 : k < l[i].2.length := by simp [List.getElem?_eq_getElem hlt, List.getElem?_eq_getElem hlt2] at c9; omega
                  have hk2 : k < l2[i].2.length := by omega
                  refine sw_skip ?_
                  refine sw_seq ?_
                  refine sw_block ?_
                  refine sw_seq ?_
                  refine sw_region hP 8 [] rfl (by kernel_rfl) (fun _ => by kernel_rfl) ?_ ?_
                  · skip
                    simp [conj, List.getElem?_eq_getElem hlt, List.getElem?_eq_getElem hlt2, List.getElem?_eq_getElem hk1, List.getElem?_eq_getElem hk2]
                    repeat' apply And.intro
                    all_goals first | omega | trivial
                  refine sw_cond rfl (fun c11 => ?_) (fun c11 => ?_)
                  · skip
                    replace c11 : ¬ l[i].2[k] = l2[i].2[k] := by intro e; simp [List.getElem?_eq_getElem hlt, List.getElem?_eq_getElem hlt2, List.getElem?_eq_getElem hk1, List.getElem?_eq_getElem hk2, e] at c11
                    have hbad : ¬ l[i] = l2[i] := fun e => of_decide_eq_false (eqL_hit hk1 hk2 hgk c11) (by rw [e])
                    refine sw_seq ?_
                    refine sw_region hP 9 [] rfl (by kernel_rfl) (fun _ => by kernel_rfl) (by first | trivial | (simp [conj]; done) | (simp [conj] at *; (try dsimp only [Ty.den, Ty.dflt] at *); omega)) ?_
                    refine sw_ret ⟨.inl rfl, _, rfl, ?_⟩
                    have hne : ¬ l = l2 := of_decide_eq_false (eqL_hit hlt hlt2 hgo hbad)
                    simp [conj, hne]
                  · skip
                    replace c11 : l[i].2[k] = l2[i].2[k] := by
                      have h := c11
                      simp [List.getElem?_eq_getElem hlt, List.getElem?_eq_getElem hlt2, List.getElem?_eq_getElem hk1, List.getElem?_eq_getElem hk2] at h
                      exact Prod.ext h.1 (Prod.ext h.2.1 h.2.2)
                    refine sw_skip ?_
                    refine sw_region hP 9 [] rfl (by kernel_rfl) (fun _ => by kernel_rfl) (by first | trivial | (simp [conj]; done) | (simp [conj] at *; (try dsimp only [Ty.den, Ty.dflt] at *); omega)) ?_
                    refine ⟨k + 1, ?_, ?_, ent_ok rfl ?_⟩
                    · skip
                      exact ⟨hk1, eqL_next hk1 hk2 hgk c11⟩
                    · skip
                      omega
                    · skip
                      simp [conj]
                · skip
                  obtain rfl : k = l[i].2.length := by simp [List.getElem?_eq_getElem hlt, List.getElem?_eq_getElem hlt2] at c9; omega
                  have heb : l[i].2 = l2[i].2 := of_decide_eq_true (eqL_end c6 hgk)
                  have hel : l[i] = l2[i] := Prod.ext g6_13 heb
                  refine sw_exit ?_
                  refine sw_region hP 8 [] rfl (by kernel_rfl) (fun _ => by kernel_rfl) (by first | trivial | (simp [conj]; done) | (simp [conj] at *; (try dsimp only [Ty.den, Ty.dflt] at *); omega)) ?_
                  refine ⟨i + 1, ?_, ?_, ent_ok rfl ?_⟩
                  · skip
                    exact ⟨hlt, eqL_next hlt hlt2 hgo hel⟩
                  · skip
                    omega
                  · skip
                    simp [conj]
        · skip
          obtain rfl : i = l.length := by simp at c4; omega
          refine sw_exit ?_
          refine sw_seq ?_
          refine sw_region hP 5 [] rfl (by kernel_rfl) (fun _ => by kernel_rfl) (by first | trivial | (simp [conj]; done) | (simp [conj] at *; (try dsimp only [Ty.den, Ty.dflt] at *); omega)) ?_
          refine sw_ret ⟨.inl rfl, _, rfl, ?_⟩
          have he : l = l2 := of_decide_eq_true (eqL_end c1 hgo)
          simp [conj, g1_5, he]
end Go.Sx

namespace Go.Sx
open Go
set_option maxRecDepth 100000
set_option linter.unusedVariables false
set_option linter.unusedSimpArgs false
set_option maxHeartbeats 2000000

def cLine : Ctr := ⟨61, [.val true T_Ptr (.all .b)], fun x => ∃ d, ptrV d x.1 = true, fun x => (sStr (lineV x.1), [])⟩
theorem cLine_ok : CtrOk Proofs.Tryd.prog cLine := by
  have hP := ((((Prg.none ttok mtok).and cNone_ok).and cItoa_ok).and cJoin_ok)
  refine ctr_of_body hP cLine (fn := Proofs.Tryd.f61) (rts := [.tmp 2]) Proofs.Tryd.func61 rfl (by kernel_rfl) rfl rfl ?_
  rintro ⟨⟨(sz : Int), (sm : Int), (pl : List Plc)⟩, ⟨⟩⟩ ⟨⟨hz0, hm0, hpl0⟩, _⟩ ⟨d, hpre⟩
  try dsimp only [Ty.den, Mode.den, mdens] at d
  try dsimp only [Ty.den, Mode.den, mdens] at hpre
  refine ⟨rfl, ?_⟩
  replace hpre : ptrV d ((sz, sm, pl) : Ptr_) = true := hpre
  have hl4 : pl.length ≤ 4 := ptrV_len hpre
  have hi1 : (itoaV sz).length ≤ 21 := itoaV_len hz0
  have hi2 : (itoaV sm).length ≤ 21 := itoaV_len hm0
  refine sw_seq ?_
  refine sw_region hP 1 [] rfl (by kernel_rfl) (fun _ => by kernel_rfl) (by first | trivial | (simp [conj]; done) | (simp [conj] at *; (try dsimp only [Ty.den, Ty.dflt] at *); omega)) ?_
  refine sw_seq ?_
  refine sw_seq ?_
  refine sw_region hP 2 [] rfl (by kernel_rfl) (fun _ => by kernel_rfl) ?_ ?_
  · skip
    simp only [conj, List.nil_append, List.cons_append, List.append_nil, List.append_assoc, inR_i64, true_and, and_true, Int.toNat_natCast]
    try dsimp only [Ty.den, Ty.dflt]
    repeat' apply And.intro
    all_goals first | trivial | assumption | omega | exact decide_eq_true ‹_› | exact decide_eq_false ‹_› | (simp [*]; done)
  refine sw_cond rfl (fun c1 => ?_) (fun c1 => ?_)
  · skip
    replace c1 : noneV ((sz, sm, pl) : Ptr_) = true := c1
    refine sw_seq ?_
    refine sw_region hP 3 [] rfl (by kernel_rfl) (fun _ => by kernel_rfl) (by first | trivial | (simp [conj]; done) | (simp [conj] at *; (try dsimp only [Ty.den, Ty.dflt] at *); omega)) ?_
    refine sw_ret ⟨.inl rfl, _, rfl, ?_⟩
    simp [conj, lineV, c1]
    try rfl
  · skip
    replace c1 : noneV ((sz, sm, pl) : Ptr_) = false := c1
    have hjl : (Lib.join (wordsV ((sz, sm, pl) : Ptr_)) [32]).length ≤ 290 := join_len hz0 hm0 hpl0.2 hl4
    refine sw_skip ?_
    refine sw_seq ?_
    refine sw_region hP 3 [] rfl (by kernel_rfl) (fun _ => by kernel_rfl) ?_ ?_
    · skip
      simp only [conj, List.nil_append, List.cons_append, List.append_nil, List.append_assoc, inR_i64, true_and, and_true, Int.toNat_natCast]
      try dsimp only [Ty.den, Ty.dflt]
      repeat' apply And.intro
      all_goals first | trivial | assumption | omega | exact decide_eq_true ‹_› | exact decide_eq_false ‹_› | (simp [*]; done)
    refine sw_seq ?_
    refine sw_seq ?_
    refine sw_region hP 4 [] rfl (by kernel_rfl) (fun _ => by kernel_rfl) (by first | trivial | (simp [conj]; done) | (simp [conj] at *; (try dsimp only [Ty.den, Ty.dflt] at *); omega)) ?_
    refine sw_block ?_
    refine sw_loop (ι := Nat) (fun i => ⟨[.junk, .v false [.ptr ⟨1, 0, 0⟩ 0], .junk, .v false [.own ⟨0, 9, 0⟩], .junk, .junk, .junk, .junk, .junk, .junk, .junk, .junk, .junk, .junk, .junk, .junk, .v false [.d (.sl T_Place) (.all .b) pl], sInt .i64 (pl.length : Int), sInt .i64 (i : Int), .junk, .junk, .junk, .junk, .junk, .junk, .junk, .junk, .junk, .junk, .junk, .junk, .junk, .junk, .junk, .junk, .junk, .junk], [(⟨1, 0, 0⟩, .var [.d TI pF sz, .d TI pF sm, .d (.sl T_Place) (.all .b) pl]), (⟨0, 9, 0⟩, .sl .str pF ([tPtr, itoaV sz, itoaV sm] ++ (pl.take i).map wordV))], 4, []⟩) (fun i => pl.length - i) (fun i => i ≤ pl.length) 0 ⟨?_, ?_⟩ ?_
    · skip
      exact Nat.zero_le _
    · refine ent_ok rfl ?_
      simp [conj, bytesL]
      try rfl
    · rintro i hi
      refine sw_seq ?_
      refine sw_region hP 5 [] rfl (by kernel_rfl) (fun _ => by kernel_rfl) (by first | trivial | (simp [conj]; done) | (simp [conj] at *; (try dsimp only [Ty.den, Ty.dflt] at *); omega)) ?_
      refine sw_seq ?_
      refine sw_cond rfl (fun c5 => ?_) (fun c5 => ?_)
      · skip
        have hlt : i < pl.length := by simpa using c5
        have hin := hpl0.2 _ (List.getElem_mem hlt)
        have hi3 : (itoaV pl[i].1).length ≤ 21 := itoaV_len hin.1
        have hi4 : (itoaV pl[i].2).length ≤ 21 := itoaV_len hin.2
        refine sw_skip ?_
        refine sw_seq ?_
        refine sw_block ?_
        refine sw_seq ?_
        refine sw_region hP 6 [] rfl (by kernel_rfl) (fun _ => by kernel_rfl) ?_ ?_
        · skip
          simp [conj, List.getElem?_eq_getElem hlt]
          exact hlt
        refine sw_region hP 7 [] rfl (by kernel_rfl) (fun _ => by kernel_rfl) ?_ ?_
        · skip
          simp [conj, maxL, bytesL, List.getElem?_eq_getElem hlt]
          repeat' apply And.intro
          all_goals first | omega | trivial
        refine sw_region hP 8 [] rfl (by kernel_rfl) (fun _ => by kernel_rfl) (by first | trivial | (simp [conj]; done) | (simp [conj] at *; (try dsimp only [Ty.den, Ty.dflt] at *); omega)) ?_
        refine ⟨i + 1, ?_, ?_, ent_ok rfl ?_⟩
        · skip
          exact hlt
        · skip
          omega
        · skip
          simp [conj, bytesL, List.getElem?_eq_getElem hlt]
          exact words_next hlt
      · skip
        obtain rfl : i = pl.length := by simp at c5; omega
        refine sw_exit ?_
        refine sw_seq ?_
        refine sw_region hP 6 [] rfl (by kernel_rfl) (fun _ => by kernel_rfl) ?_ ?_
        · skip
          simp [conj, maxL, bytesL]
          exact ⟨by show (Lib.join (wordsV ((sz, sm, pl) : Ptr_)) [32]).length ≤ 1000000; omega, by show (Lib.join (wordsV ((sz, sm, pl) : Ptr_)) [32]).length ≤ _; omega⟩
        refine sw_ret ⟨.inl rfl, _, rfl, ?_⟩
        simp [conj, lineV, c1]
        try rfl

def cText_ : Ctr := ⟨38, [.val true T_Root (.all .b)], fun x => ∃ d, rootV d x.1 = true, fun x => (sStr (sealV (bodyV x.1)), [])⟩
theorem cText__ok : CtrOk Proofs.Tryd.prog cText_ := by
  have hP := ((((Prg.none ttok mtok).and cItoa_ok).and cLine_ok).and cWeigh_ok)
  refine ctr_of_body hP cText_ (fn := Proofs.Tryd.f38) (rts := [.tmp 2]) Proofs.Tryd.func38 rfl (by kernel_rfl) rfl rfl ?_
  rintro ⟨⟨(tg : Int), (l : List Vol_)⟩, ⟨⟩⟩ ⟨⟨ht0, hl0⟩, _⟩ ⟨d, hpre⟩
  try dsimp only [Ty.den, Mode.den, mdens] at d
  try dsimp only [Ty.den, Mode.den, mdens] at hpre
  refine ⟨rfl, ?_⟩
  replace hpre : rootV d ((tg, l) : Root_) = true := hpre
  have hs := rootV_small hpre
  have hb := hs.1
  have hi1 : (itoaV tg).length ≤ 21 := itoaV_len ht0
  have hml : l.length ≤ 4 := hs.1
  refine sw_seq ?_
  refine sw_region hP 1 [] rfl (by kernel_rfl) (fun _ => by kernel_rfl) (by first | trivial | (simp [conj]; done) | (simp [conj] at *; (try dsimp only [Ty.den, Ty.dflt] at *); omega)) ?_
  refine sw_seq ?_
  refine sw_region hP 2 [] rfl (by kernel_rfl) (fun _ => by kernel_rfl) ?_ ?_
  · skip
    simp [conj, maxL, bytesL]
    repeat' apply And.intro
    all_goals first | omega | trivial
  refine sw_seq ?_
  refine sw_seq ?_
  refine sw_region hP 3 [] rfl (by kernel_rfl) (fun _ => by kernel_rfl) (by first | trivial | (simp [conj]; done) | (simp [conj] at *; (try dsimp only [Ty.den, Ty.dflt] at *); omega)) ?_
  refine sw_block ?_
  refine sw_loop (ι := Nat × Str) (fun ⟨i, o⟩ => ⟨[.junk, .v false [.ptr ⟨1, 0, 0⟩ 0], .junk, sStr o, .junk, .junk, .junk, .junk, .junk, .junk, .junk, .junk, .junk, .junk, .v false [.d (.sl T_Vol) (.all .b) l], sInt .i64 (l.length : Int), sInt .i64 (i : Int), .junk, .junk, .junk, .junk, .junk, .junk, .junk, .junk, .junk, .junk, .junk, .junk, .junk, .junk, .junk, .junk, .junk, .junk, .junk, .junk, .junk, .junk, .junk, .junk, .junk, .junk, .junk, .junk, .junk], [(⟨1, 0, 0⟩, .var [.d TI pF tg, .d (.sl T_Vol) (.all .b) l])], 3, []⟩) (fun ⟨i, o⟩ => l.length - i) (fun ⟨i, o⟩ => i ≤ l.length ∧ o ++ catGo volT (l.drop i) = bodyV ((tg, l) : Root_) ∧ o.length ≤ 27 + i * 1000) (0, tRoot ++ itoaV tg ++ [10]) ⟨?_, ?_⟩ ?_
  · skip
    exact ⟨Nat.zero_le _, rfl, by simp [tRoot]; omega⟩
  · refine ent_ok rfl ?_
    simp [conj, bytesL]
    try rfl
  · rintro ⟨i, o⟩ ⟨hi, hgo, hol⟩
    refine sw_seq ?_
    refine sw_region hP 4 [] rfl (by kernel_rfl) (fun _ => by kernel_rfl) (by first | trivial | (simp [conj]; done) | (simp [conj] at *; (try dsimp only [Ty.den, Ty.dflt] at *); omega)) ?_
    refine sw_seq ?_
    refine sw_cond rfl (fun c3 => ?_) (fun c3 => ?_)
    · skip
      have hlt : i < l.length := by simpa using c3
      obtain ⟨hn3, hb3, hpv⟩ := hs.2 _ (List.getElem_mem hlt)
      refine sw_skip ?_
      refine sw_seq ?_
      refine sw_block ?_
      refine sw_seq ?_
      refine sw_region hP 5 [] rfl (by kernel_rfl) (fun _ => by kernel_rfl) ?_ ?_
      · skip
        simp [conj, List.getElem?_eq_getElem hlt]
        exact hlt
      refine sw_seq ?_
      refine sw_region hP 6 [] rfl (by kernel_rfl) (fun _ => by kernel_rfl) ?_ ?_
      · skip
        simp [conj, maxL, bytesL, List.getElem?_eq_getElem hlt]
        repeat' apply And.intro
        all_goals first | omega | trivial
      refine sw_seq ?_
      refine sw_region hP 7 [] rfl (by kernel_rfl) (fun _ => by kernel_rfl) (by first | trivial | (simp [conj]; done) | (simp [conj] at *; (try dsimp only [Ty.den, Ty.dflt] at *); omega)) ?_
      refine sw_block ?_
      refine sw_loop (ι := Nat × Str) (fun ⟨j, o⟩ => ⟨[.junk, .v false [.ptr ⟨1, 0, 0⟩ 0], .junk, sStr o, .junk, .v false [.ptr ⟨0, 9, 2⟩ 0], .junk, .junk, .junk, .junk, .junk, .junk, .junk, .junk, .v false [.d (.sl T_Vol) (.all .b) l], sInt .i64 (l.length : Int), sInt .i64 (i : Int), .junk, .junk, .junk, .junk, .junk, .junk, .junk, .junk, .junk, .junk, .v false [.d (.sl T_Ptr) (.all .b) l[i].2], sInt .i64 (l[i].2.length : Int), sInt .i64 (j : Int), .junk, .junk, .junk, .junk, .junk, .junk, .junk, .junk, .junk, .junk, .junk, .junk, .junk, .junk, .junk, .junk], [(⟨1, 0, 0⟩, .var [.d TI pF tg, .d (.sl T_Vol) (.all .b) l]), (⟨0, 9, 2⟩, .var [.d .str pF l[i].1, .d (.sl T_Ptr) (.all .b) l[i].2])], 7, []⟩) (fun ⟨j, o⟩ => l[i].2.length - j) (fun ⟨j, o⟩ => j ≤ l[i].2.length ∧ (o ++ catGo lineV (l[i].2.drop j)) ++ catGo volT (l.drop (i + 1)) = bodyV ((tg, l) : Root_) ∧ o.length ≤ 27 + i * 1000 + 8 + j * 300) (0, o ++ (tVol ++ l[i].1 ++ [10])) ⟨?_, ?_⟩ ?_
      · skip
        exact ⟨Nat.zero_le _, vol_in hlt hgo, by simp [tVol]; omega⟩
      · refine ent_ok rfl ?_
        simp [conj, bytesL, List.getElem?_eq_getElem hlt]
        try rfl
      · rintro ⟨j, o⟩ ⟨hj, hgo2, hol2⟩
        refine sw_seq ?_
        refine sw_region hP 8 [] rfl (by kernel_rfl) (fun _ => by kernel_rfl) (by first | trivial | (simp [conj]; done) | (simp [conj] at *; (try dsimp only [Ty.den, Ty.dflt] at *); omega)) ?_
        refine sw_seq ?_
        refine sw_cond rfl (fun c7 => ?_) (fun c7 => ?_)
        · skip
          have hlj : j < l[i].2.length := by simpa using c7
          have hpj := hpv _ (List.getElem_mem hlj)
          obtain ⟨dd, hpd⟩ := hpj
          have hok := (hl0.2 _ (List.getElem_mem hlt)).2.2 _ (List.getElem_mem hlj)
          have hll := lineV_len' hok.1 hok.2.1 hok.2.2.2 hpd
          refine sw_skip ?_
          refine sw_seq ?_
          refine sw_block ?_
          refine sw_seq ?_
          refine sw_region hP 9 [] rfl (by kernel_rfl) (fun _ => by kernel_rfl) ?_ ?_
          · skip
            simp [conj, List.getElem?_eq_getElem hlj]
            exact hlj
          refine sw_region hP 10 [] rfl (by kernel_rfl) (fun _ => by kernel_rfl) ?_ ?_
          · skip
            simp [conj, maxL, List.getElem?_eq_getElem hlj]
            exact ⟨⟨dd, hpd⟩, by have h : List.length (lineV l[i].2[j]) ≤ 300 := hll; show o.length + List.length (lineV l[i].2[j]) ≤ 140737488355328; omega⟩
          refine sw_region hP 11 [] rfl (by kernel_rfl) (fun _ => by kernel_rfl) (by first | trivial | (simp [conj]; done) | (simp [conj] at *; (try dsimp only [Ty.den, Ty.dflt] at *); omega)) ?_
          refine ⟨(j + 1, o ++ lineV l[i].2[j]), ?_, ?_, ent_ok rfl ?_⟩
          · skip
            exact ⟨hlj, vol_line hlj hgo2, by simp; omega⟩
          · skip
            show l[i].2.length - (j + 1) < l[i].2.length - j
            omega
          · skip
            simp [conj, List.getElem?_eq_getElem hlj]
        · skip
          obtain rfl : j = l[i].2.length := by simp at c7; omega
          refine sw_exit ?_
          refine sw_region hP 9 [] rfl (by kernel_rfl) (fun _ => by kernel_rfl) (by first | trivial | (simp [conj]; done) | (simp [conj] at *; (try dsimp only [Ty.den, Ty.dflt] at *); omega)) ?_
          refine ⟨(i + 1, o), ?_, ?_, ent_ok rfl ?_⟩
          · skip
            exact ⟨hlt, vol_out hgo2, by show o.length ≤ 27 + (i + 1) * 1000; omega⟩
          · skip
            show l.length - (i + 1) < l.length - i
            omega
          · skip
            simp [conj]
    · skip
      obtain rfl : i = l.length := by simp at c3; omega
      have hv := cat_end hgo
      subst hv
      have hw := weighV_bd (s := bodyV ((tg, l) : Root_)) (by omega)
      have hi2 : (itoaV (weighV (bodyV ((tg, l) : Root_)))).length ≤ 21 := itoaV_len (by rw [inR_i64]; omega)
      refine sw_exit ?_
      refine sw_seq ?_
      refine sw_region hP 5 [] rfl (by kernel_rfl) (fun _ => by kernel_rfl) ?_ ?_
      · skip
        simp [conj, maxL, bytesL]
        repeat' apply And.intro
        all_goals first | omega | (show List.length (bodyV ((tg, l) : Root_)) ≤ 1000000; omega) | trivial
      refine sw_ret ⟨.inl rfl, _, rfl, ?_⟩
      simp [conj, sealV, bytesL]
      rfl

def cRootText : Ctr := ⟨12, [.val false TI pF, .val true T_Root (.all .b)], fun x => True, fun x => (sStr (rootT x.1 x.2.1), [])⟩
theorem cRootText_ok : CtrOk Proofs.Tryd.prog cRootText := by
  have hP := (((Prg.none ttok mtok).and cRootOk_ok).and cText__ok)
  refine ctr_of_body hP cRootText (fn := Proofs.Tryd.f12) (rts := [.tmp 4]) Proofs.Tryd.func12 rfl (by kernel_rfl) rfl rfl ?_
  rintro ⟨(d : Int), ⟨(tg : Int), (l : List Vol_)⟩, ⟨⟩⟩ _ _
  try dsimp only [Ty.den, Mode.den, mdens] at _
  refine ⟨rfl, ?_⟩
  refine sw_seq ?_
  refine sw_region hP 1 [] rfl (by kernel_rfl) (fun _ => by kernel_rfl) (by first | trivial | (simp [conj]; done) | (simp [conj] at *; (try dsimp only [Ty.den, Ty.dflt] at *); omega)) ?_
  refine sw_seq ?_
  refine sw_seq ?_
  refine sw_region hP 2 [] rfl (by kernel_rfl) (fun _ => by kernel_rfl) ?_ ?_
  · skip
    simp only [conj, List.nil_append, List.cons_append, List.append_nil, List.append_assoc, inR_i64, true_and, and_true, Int.toNat_natCast]
    try dsimp only [Ty.den, Ty.dflt]
    repeat' apply And.intro
    all_goals first | trivial | assumption | omega | exact decide_eq_true ‹_› | exact decide_eq_false ‹_› | (simp [*]; done)
  refine sw_cond rfl (fun c1 => ?_) (fun c1 => ?_)
  · skip
    replace c1 : rootV d ((tg, l) : Root_) = false := by have h : (!rootV d ((tg, l) : Root_)) = true := c1; simpa using h
    refine sw_seq ?_
    refine sw_region hP 3 [] rfl (by kernel_rfl) (fun _ => by kernel_rfl) (by first | trivial | (simp [conj]; done) | (simp [conj] at *; (try dsimp only [Ty.den, Ty.dflt] at *); omega)) ?_
    refine sw_ret ⟨.inl rfl, _, rfl, ?_⟩
    simp [conj, rootT, c1, bytesL]
  · skip
    replace c1 : rootV d ((tg, l) : Root_) = true := by have h : (!rootV d ((tg, l) : Root_)) = false := c1; simpa using h
    refine sw_skip ?_
    refine sw_seq ?_
    refine sw_region hP 3 [] rfl (by kernel_rfl) (fun _ => by kernel_rfl) ?_ ?_
    · skip
      simp [conj]
      exact ⟨d, c1⟩
    refine sw_ret ⟨.inl rfl, _, rfl, ?_⟩
    simp [conj, rootT, c1, bytesL]
end Go.Sx

namespace Go.Sx
open Go
set_option maxRecDepth 100000
set_option linter.unusedVariables false
set_option linter.unusedSimpArgs false
set_option maxHeartbeats 2000000

def cVolsS : Ctr := ⟨36, [.val false TI pF, .val true T_Root (.all .b)], fun x => poolV x.1 = true ∧ List.length x.2.1.2 ≤ 4, fun x => (sBool (volsS x.1 x.2.1.2), [])⟩
theorem cVolsS_ok : CtrOk Proofs.Tryd.prog cVolsS := by
  have hP := ((((((Prg.none ttok mtok).and cName_ok).and cAll_ok).and cPtrS_ok).and cMeet_ok).and cSameS_ok)
  refine ctr_of_body hP cVolsS (fn := Proofs.Tryd.f36) (rts := [.tmp 4]) Proofs.Tryd.func36 rfl (by kernel_rfl) rfl rfl ?_
  rintro ⟨(d : Int), ⟨(tg : Int), (l : List Vol_)⟩, ⟨⟩⟩ ⟨_, ⟨_, hl0⟩, _⟩ ⟨hd1, h4⟩
  try dsimp only [Ty.den, Mode.den, mdens] at hd1
  try dsimp only [Ty.den, Mode.den, mdens] at h4
  refine ⟨rfl, ?_⟩
  replace hd1 : poolV d = true := hd1
  replace h4 : l.length ≤ 4 := h4
  refine sw_seq ?_
  refine sw_region hP 1 [] rfl (by kernel_rfl) (fun _ => by kernel_rfl) (by first | trivial | (simp [conj]; done) | (simp [conj] at *; (try dsimp only [Ty.den, Ty.dflt] at *); omega)) ?_
  refine sw_seq ?_
  refine sw_seq ?_
  refine sw_region hP 2 [] rfl (by kernel_rfl) (fun _ => by kernel_rfl) (by first | trivial | (simp [conj]; done) | (simp [conj] at *; (try dsimp only [Ty.den, Ty.dflt] at *); omega)) ?_
  refine sw_block ?_
  refine sw_loop (ι := Nat) (fun i => ⟨[sInt .i64 d, .junk, .junk, .v false [.ptr ⟨1, 0, 0⟩ 0], .junk, sInt .i64 (i : Int), .junk, .junk, .junk, .junk, .junk, .junk, .junk, .junk, .junk, .junk, .junk, .junk, .junk, .junk, .junk, .junk, .junk, .junk, .junk, .junk, .junk, .junk, .junk, .junk, .junk, .junk, .junk, .junk, .junk, .junk, .junk, .junk, .junk, .junk, .junk, .junk, .junk, .junk, .junk, .junk, .junk, .junk, .junk, .junk, .junk, .junk, .junk, .junk, .junk, .junk, .junk, .junk, .junk, .junk, .junk, .junk, .junk, .junk, .junk, .junk, .junk, .junk, .junk, .junk, .junk, .junk, .junk, .junk, .junk, .junk, .junk, .junk, .junk, .junk, .junk, .junk, .junk, .junk, .junk, .junk, .junk, .junk, .junk, .junk, .junk, .junk, .junk, .junk], [(⟨1, 0, 0⟩, .var [.d TI pF tg, .d (.sl T_Vol) (.all .b) l])], 2, []⟩) (fun i => l.length - i) (fun i => i ≤ l.length ∧ chkGo volG (l.take i) (l.drop i) = chk volG l) 0 ⟨?_, ?_⟩ ?_
  · skip
    exact ⟨Nat.zero_le _, rfl⟩
  · refine ent_ok rfl ?_
    simp [conj]
  · rintro i ⟨hi, hgo⟩
    refine sw_seq ?_
    refine sw_seq ?_
    refine sw_region hP 3 [] rfl (by kernel_rfl) (fun _ => by kernel_rfl) (by first | trivial | (simp [conj]; done) | (simp [conj] at *; (try dsimp only [Ty.den, Ty.dflt] at *); omega)) ?_
    refine sw_cond rfl (fun c2 => ?_) (fun c2 => ?_)
    · skip
      have hlt : i < l.length := by simpa using c2
      have hml2 : l[i].2.length ≤ 140737488355328 := (hl0.2 _ (List.getElem_mem hlt)).2.1
      refine sw_skip ?_
      refine sw_seq ?_
      refine sw_block ?_
      refine sw_seq ?_
      refine sw_seq ?_
      refine sw_dec hP 4 [] 8 rfl (fun g4_8 => ?_) (fun g4_8 => ?_)
      · skip
        have k8 : nameV l[i].1 = false := by simpa [List.getElem?_eq_getElem hlt] using g4_8
        have hf : volG (l.take i) l[i] = false := by simp [volG, k8]
        refine sw_region hP 4 [(8, true)] rfl (by kernel_rfl) (fun _ => by kernel_rfl) ?_ ?_
        · skip
          simp [conj, List.getElem?_eq_getElem hlt]
          repeat' apply And.intro
          all_goals first | omega | assumption | (simp [*]; done) | trivial
        refine sw_condT rfl ?_
        refine sw_seq ?_
        refine sw_region hP 5 [] rfl (by kernel_rfl) (fun _ => by kernel_rfl) (by first | trivial | (simp [conj]; done) | (simp [conj] at *; (try dsimp only [Ty.den, Ty.dflt] at *); omega)) ?_
        refine sw_ret ⟨.inl rfl, _, rfl, ?_⟩
        have hv := chk_hit hlt hgo hf
        simp [conj, volsS, hv]
      · skip
        have k8 : nameV l[i].1 = true := by simpa [List.getElem?_eq_getElem hlt] using g4_8
        refine sw_region hP 4 [(8, false)] rfl (by kernel_rfl) (fun _ => by kernel_rfl) ?_ ?_
        · skip
          simp [conj, List.getElem?_eq_getElem hlt]
          repeat' apply And.intro
          all_goals first | omega | assumption | (simp [*]; done) | trivial
        refine sw_cond rfl (fun c4 => ?_) (fun c4 => ?_)
        · skip
          replace c4 : ¬ l[i].2.length = 3 := by
            have h := c4
            simp [List.getElem?_eq_getElem hlt] at h
            omega
          have hf : volG (l.take i) l[i] = false := by simp [volG, c4]
          refine sw_seq ?_
          refine sw_region hP 5 [] rfl (by kernel_rfl) (fun _ => by kernel_rfl) (by first | trivial | (simp [conj]; done) | (simp [conj] at *; (try dsimp only [Ty.den, Ty.dflt] at *); omega)) ?_
          refine sw_ret ⟨.inl rfl, _, rfl, ?_⟩
          have hv := chk_hit hlt hgo hf
          simp [conj, volsS, hv]
        · skip
          replace c4 : l[i].2.length = 3 := by
            have h := c4
            simp [List.getElem?_eq_getElem hlt] at h
            omega
          refine sw_skip ?_
          refine sw_seq ?_
          refine sw_region hP 5 [] rfl (by kernel_rfl) (fun _ => by kernel_rfl) (by first | trivial | (simp [conj]; done) | (simp [conj] at *; (try dsimp only [Ty.den, Ty.dflt] at *); omega)) ?_
          refine sw_block ?_
          refine sw_loop (ι := Nat) (fun k => ⟨[sInt .i64 d, .junk, .junk, .v false [.ptr ⟨1, 0, 0⟩ 0], .junk, sInt .i64 (i : Int), sInt .i64 (k : Int), .junk, .junk, .junk, .junk, .junk, .junk, .junk, .junk, .junk, .junk, .junk, .junk, .junk, .junk, .junk, .junk, .junk, .junk, .junk, .junk, .junk, .junk, .junk, .junk, .junk, .junk, .junk, .junk, .junk, .junk, .junk, .junk, .junk, .junk, .junk, .junk, .junk, .junk, .junk, .junk, .junk, .junk, .junk, .junk, .junk, .junk, .junk, .junk, .junk, .junk, .junk, .junk, .junk, .junk, .junk, .junk, .junk, .junk, .junk, .junk, .junk, .junk, .junk, .junk, .junk, .junk, .junk, .junk, .junk, .junk, .junk, .junk, .junk, .junk, .junk, .junk, .junk, .junk, .junk, .junk, .junk, .junk, .junk, .junk, .junk, .junk, .junk], [(⟨1, 0, 0⟩, .var [.d TI pF tg, .d (.sl T_Vol) (.all .b) l])], 5, []⟩) (fun k => i - k) (fun k => k ≤ i ∧ (l.take k).any (fun w : Vol_ => decide (w.1 = l[i].1)) = false) 0 ⟨?_, ?_⟩ ?_
          · skip
            exact ⟨Nat.zero_le _, rfl⟩
          · refine ent_ok rfl ?_
            simp [conj]
          · rintro k ⟨hk, hgk⟩
            refine sw_seq ?_
            refine sw_seq ?_
            refine sw_region hP 6 [] rfl (by kernel_rfl) (fun _ => by kernel_rfl) (by first | trivial | (simp [conj]; done) | (simp [conj] at *; (try dsimp only [Ty.den, Ty.dflt] at *); omega)) ?_
            refine sw_cond rfl (fun c7 => ?_) (fun c7 => ?_)
            · skip
              have hki : k < i := by simpa using c7
              have hlk : k < l.length := by omega
              refine sw_skip ?_
              refine sw_seq ?_
              refine sw_block ?_
              refine sw_seq ?_
              refine sw_region hP 7 [] rfl (by kernel_rfl) (fun _ => by kernel_rfl) ?_ ?_
              · skip
                simp [conj, List.getElem?_eq_getElem hlt, List.getElem?_eq_getElem hlk]
                repeat' apply And.intro
                all_goals first | omega | trivial
              refine sw_cond rfl (fun c9 => ?_) (fun c9 => ?_)
              · skip
                replace c9 : (fun w : Vol_ => decide (w.1 = l[i].1)) l[k] = true := by simpa [List.getElem?_eq_getElem hlt, List.getElem?_eq_getElem hlk] using c9
                have hf : volG (l.take i) l[i] = false := by unfold volG; rw [any_hit hki hlk c9]; simp
                refine sw_seq ?_
                refine sw_region hP 8 [] rfl (by kernel_rfl) (fun _ => by kernel_rfl) (by first | trivial | (simp [conj]; done) | (simp [conj] at *; (try dsimp only [Ty.den, Ty.dflt] at *); omega)) ?_
                refine sw_ret ⟨.inl rfl, _, rfl, ?_⟩
                have hv := chk_hit hlt hgo hf
                simp [conj, volsS, hv]
              · skip
                replace c9 : (fun w : Vol_ => decide (w.1 = l[i].1)) l[k] = false := by simpa [List.getElem?_eq_getElem hlt, List.getElem?_eq_getElem hlk] using c9
                refine sw_skip ?_
                refine sw_region hP 8 [] rfl (by kernel_rfl) (fun _ => by kernel_rfl) (by first | trivial | (simp [conj]; done) | (simp [conj] at *; (try dsimp only [Ty.den, Ty.dflt] at *); omega)) ?_
                refine ⟨k + 1, ?_, ?_, ent_ok rfl ?_⟩
                · skip
                  exact ⟨hki, any_next hlk hgk c9⟩
                · skip
                  omega
                · skip
                  simp [conj]
            · skip
              obtain rfl : k = i := by simp at c7; omega
              have hf : volG (l.take k) l[k] = true := by unfold volG; rw [k8, hgk, c4]; rfl
              refine sw_exit ?_
              refine sw_region hP 7 [] rfl (by kernel_rfl) (fun _ => by kernel_rfl) (by first | trivial | (simp [conj]; done) | (simp [conj] at *; (try dsimp only [Ty.den, Ty.dflt] at *); omega)) ?_
              refine ⟨k + 1, ?_, ?_, ent_ok rfl ?_⟩
              · skip
                exact ⟨hlt, chk_next hlt hgo hf⟩
              · skip
                omega
              · skip
                simp [conj]
    · skip
      obtain rfl : i = l.length := by simp at c2; omega
      have hvg : chk volG l = true := chk_end hgo
      have hsv := volG_small hvg h4
      have hbl := blks_all hsv
      refine sw_exit ?_
      refine sw_seq ?_
      refine sw_region hP 4 [] rfl (by kernel_rfl) (fun _ => by kernel_rfl) ?_ ?_
      · skip
        simp [conj, maxL]
        try dsimp only [Ty.den, Ty.dflt]
        try simp only [rd_eta]
        exact hsv
      refine sw_seq ?_
      refine sw_seq ?_
      refine sw_region hP 5 [] rfl (by kernel_rfl) (fun _ => by kernel_rfl) (by first | trivial | (simp [conj]; done) | (simp [conj] at *; (try dsimp only [Ty.den, Ty.dflt] at *); omega)) ?_
      refine sw_block ?_
      refine sw_loop (ι := Nat) (fun n => ⟨[sInt .i64 d, .junk, .junk, .v false [.ptr ⟨1, 0, 0⟩ 0], .junk, .junk, .junk, .v false [.own ⟨0, 9, 0⟩], sInt .i64 (n : Int), .junk, .junk, .junk, .junk, .junk, .junk, .junk, .junk, .junk, .junk, .junk, .junk, .junk, .junk, .junk, .junk, .junk, .junk, .junk, .junk, .junk, .junk, .junk, .junk, .junk, .junk, .junk, .junk, .junk, .junk, .junk, .junk, .junk, .junk, .junk, .junk, .junk, .junk, .junk, .junk, .junk, .junk, .junk, .junk, .junk, .junk, .junk, .junk, .junk, .junk, .junk, .junk, .junk, .junk, .junk, .junk, .junk, .junk, .junk, .junk, .junk, .junk, .junk, .junk, .junk, .junk, .junk, .junk, .junk, .junk, .junk, .junk, .junk, .junk, .junk, .junk, .junk, .junk, .junk, .junk, .junk, .junk, .junk, .junk, .junk], [(⟨1, 0, 0⟩, .var [.d TI pF tg, .d (.sl T_Vol) (.all .b) l]), (⟨0, 9, 0⟩, .sl T_Ptr (.all .b) (blksOf l))], 5, []⟩) (fun n => (blksOf l).length - n) (fun n => n ≤ (blksOf l).length ∧ chkGo (ptrG d) ((blksOf l).take n) ((blksOf l).drop n) = chk (ptrG d) (blksOf l)) 0 ⟨?_, ?_⟩ ?_
      · skip
        exact ⟨Nat.zero_le _, rfl⟩
      · refine ent_ok rfl ?_
        simp [conj]
      · rintro n ⟨hn, hgn⟩
        refine sw_seq ?_
        refine sw_seq ?_
        refine sw_region hP 6 [] rfl (by kernel_rfl) (fun _ => by kernel_rfl) (by first | trivial | (simp [conj]; done) | (simp [conj] at *; (try dsimp only [Ty.den, Ty.dflt] at *); omega)) ?_
        refine sw_cond rfl (fun c13 => ?_) (fun c13 => ?_)
        · skip
          have hln : n < (blksOf l).length := by simpa using c13
          refine sw_skip ?_
          refine sw_seq ?_
          refine sw_block ?_
          refine sw_seq ?_
          refine sw_seq ?_
          refine sw_region hP 7 [] rfl (by kernel_rfl) (fun _ => by kernel_rfl) ?_ ?_
          · skip
            simp [conj, List.getElem?_eq_getElem hln]
            repeat' apply And.intro
            all_goals first | omega | exact hd1 | trivial
          refine sw_cond rfl (fun c15 => ?_) (fun c15 => ?_)
          · skip
            replace c15 : ptrW d (blksOf l)[n] = false := by simpa [List.getElem?_eq_getElem hln] using c15
            have hf : ptrG d ((blksOf l).take n) (blksOf l)[n] = false := by simp [ptrG, c15]
            refine sw_seq ?_
            refine sw_region hP 8 [] rfl (by kernel_rfl) (fun _ => by kernel_rfl) (by first | trivial | (simp [conj]; done) | (simp [conj] at *; (try dsimp only [Ty.den, Ty.dflt] at *); omega)) ?_
            refine sw_ret ⟨.inl rfl, _, rfl, ?_⟩
            have hv := chk_hit hln hgn hf
            simp [conj, volsS, hvg, hv]
          · skip
            replace c15 : ptrW d (blksOf l)[n] = true := by simpa [List.getElem?_eq_getElem hln] using c15
            refine sw_skip ?_
            refine sw_seq ?_
            refine sw_region hP 8 [] rfl (by kernel_rfl) (fun _ => by kernel_rfl) (by first | trivial | (simp [conj]; done) | (simp [conj] at *; (try dsimp only [Ty.den, Ty.dflt] at *); omega)) ?_
            refine sw_block ?_
            refine sw_loop (ι := Nat) (fun m => ⟨[sInt .i64 d, .junk, .junk, .v false [.ptr ⟨1, 0, 0⟩ 0], .junk, .junk, .junk, .v false [.own ⟨0, 9, 0⟩], sInt .i64 (n : Int), sInt .i64 (m : Int), .junk, .junk, .junk, .junk, .junk, .junk, .junk, .junk, .junk, .junk, .junk, .junk, .junk, .junk, .junk, .junk, .junk, .junk, .junk, .junk, .junk, .junk, .junk, .junk, .junk, .junk, .junk, .junk, .junk, .junk, .junk, .junk, .junk, .junk, .junk, .junk, .junk, .junk, .junk, .junk, .junk, .junk, .junk, .junk, .junk, .junk, .junk, .junk, .junk, .junk, .junk, .junk, .junk, .junk, .junk, .junk, .junk, .junk, .junk, .junk, .junk, .junk, .junk, .junk, .junk, .junk, .junk, .junk, .junk, .junk, .junk, .junk, .junk, .junk, .junk, .junk, .junk, .junk, .junk, .junk, .junk, .junk, .junk, .junk], [(⟨1, 0, 0⟩, .var [.d TI pF tg, .d (.sl T_Vol) (.all .b) l]), (⟨0, 9, 0⟩, .sl T_Ptr (.all .b) (blksOf l))], 8, []⟩) (fun m => n - m) (fun m => m ≤ n ∧ ((blksOf l).take m).any (fun q : Ptr_ => meetV (blksOf l)[n] q && !decide ((blksOf l)[n] = q)) = false) 0 ⟨?_, ?_⟩ ?_
            · skip
              exact ⟨Nat.zero_le _, rfl⟩
            · refine ent_ok rfl ?_
              simp [conj]
            · rintro m ⟨hm, hgm⟩
              refine sw_seq ?_
              refine sw_seq ?_
              refine sw_region hP 9 [] rfl (by kernel_rfl) (fun _ => by kernel_rfl) (by first | trivial | (simp [conj]; done) | (simp [conj] at *; (try dsimp only [Ty.den, Ty.dflt] at *); omega)) ?_
              refine sw_cond rfl (fun c18 => ?_) (fun c18 => ?_)
              · skip
                have hmn : m < n := by simpa using c18
                have hlm : m < (blksOf l).length := by omega
                refine sw_skip ?_
                refine sw_seq ?_
                refine sw_block ?_
                refine sw_seq ?_
                refine sw_dec hP 10 [] 9 rfl (fun g20_9 => ?_) (fun g20_9 => ?_)
                · skip
                  have k9 : meetV (blksOf l)[n] (blksOf l)[m] = true := by simpa [List.getElem?_eq_getElem hln, List.getElem?_eq_getElem hlm] using g20_9
                  refine sw_region hP 10 [(9, true)] rfl (by kernel_rfl) (fun _ => by kernel_rfl) ?_ ?_
                  · skip
                    simp [conj, List.getElem?_eq_getElem hln, List.getElem?_eq_getElem hlm]
                    repeat' apply And.intro
                    all_goals first | omega | assumption | exact k9 | trivial
                  refine sw_cond rfl (fun c20 => ?_) (fun c20 => ?_)
                  · skip
                    replace c20 : ¬ (blksOf l)[n] = (blksOf l)[m] := by
                      intro e
                      simp [List.getElem?_eq_getElem hln, List.getElem?_eq_getElem hlm, e] at c20
                    have hq : (fun q : Ptr_ => meetV (blksOf l)[n] q && !decide ((blksOf l)[n] = q)) (blksOf l)[m] = true := by simp only [k9]; simp [c20]
                    have hf : ptrG d ((blksOf l).take n) (blksOf l)[n] = false := by unfold ptrG; rw [any_hit hmn hlm hq]; simp
                    refine sw_seq ?_
                    refine sw_region hP 11 [] rfl (by kernel_rfl) (fun _ => by kernel_rfl) (by first | trivial | (simp [conj]; done) | (simp [conj] at *; (try dsimp only [Ty.den, Ty.dflt] at *); omega)) ?_
                    refine sw_ret ⟨.inl rfl, _, rfl, ?_⟩
                    have hv := chk_hit hln hgn hf
                    simp [conj, volsS, hvg, hv]
                  · skip
                    replace c20 : (blksOf l)[n] = (blksOf l)[m] := by
                      have h := c20
                      simp [List.getElem?_eq_getElem hln, List.getElem?_eq_getElem hlm] at h
                      exact Prod.ext h.1 (Prod.ext h.2.1 h.2.2)
                    have hq : (fun q : Ptr_ => meetV (blksOf l)[n] q && !decide ((blksOf l)[n] = q)) (blksOf l)[m] = false := by simp only [c20]; simp
                    refine sw_skip ?_
                    refine sw_region hP 11 [] rfl (by kernel_rfl) (fun _ => by kernel_rfl) (by first | trivial | (simp [conj]; done) | (simp [conj] at *; (try dsimp only [Ty.den, Ty.dflt] at *); omega)) ?_
                    refine ⟨m + 1, ?_, ?_, ent_ok rfl ?_⟩
                    · skip
                      exact ⟨hmn, any_next hlm hgm hq⟩
                    · skip
                      omega
                    · skip
                      simp [conj]
                · skip
                  have k9 : meetV (blksOf l)[n] (blksOf l)[m] = false := by simpa [List.getElem?_eq_getElem hln, List.getElem?_eq_getElem hlm] using g20_9
                  have hq : (fun q : Ptr_ => meetV (blksOf l)[n] q && !decide ((blksOf l)[n] = q)) (blksOf l)[m] = false := by simp only [k9]; rfl
                  refine sw_region hP 10 [(9, false)] rfl (by kernel_rfl) (fun _ => by kernel_rfl) ?_ ?_
                  · skip
                    simp [conj, List.getElem?_eq_getElem hln, List.getElem?_eq_getElem hlm]
                    repeat' apply And.intro
                    all_goals first | omega | assumption | exact k9 | trivial
                  refine sw_condF rfl ?_
                  refine sw_skip ?_
                  refine sw_region hP 11 [] rfl (by kernel_rfl) (fun _ => by kernel_rfl) (by first | trivial | (simp [conj]; done) | (simp [conj] at *; (try dsimp only [Ty.den, Ty.dflt] at *); omega)) ?_
                  refine ⟨m + 1, ?_, ?_, ent_ok rfl ?_⟩
                  · skip
                    exact ⟨hmn, any_next hlm hgm hq⟩
                  · skip
                    omega
                  · skip
                    simp [conj]
              · skip
                obtain rfl : m = n := by simp at c18; omega
                have hf : ptrG d ((blksOf l).take m) (blksOf l)[m] = true := by unfold ptrG; rw [c15, hgm]; rfl
                refine sw_exit ?_
                refine sw_region hP 10 [] rfl (by kernel_rfl) (fun _ => by kernel_rfl) (by first | trivial | (simp [conj]; done) | (simp [conj] at *; (try dsimp only [Ty.den, Ty.dflt] at *); omega)) ?_
                refine ⟨m + 1, ?_, ?_, ent_ok rfl ?_⟩
                · skip
                  exact ⟨hln, chk_next hln hgn hf⟩
                · skip
                  omega
                · skip
                  simp [conj]
        · skip
          obtain rfl : n = (blksOf l).length := by simp at c13; omega
          refine sw_exit ?_
          refine sw_seq ?_
          refine sw_region hP 7 [] rfl (by kernel_rfl) (fun _ => by kernel_rfl) (by first | trivial | (simp [conj]; done) | (simp [conj] at *; (try dsimp only [Ty.den, Ty.dflt] at *); omega)) ?_
          refine sw_ret ⟨.inl rfl, _, rfl, ?_⟩
          have hv := chk_end hgn
          simp [conj, volsS, hvg, hv]

def cRootOkS : Ctr := ⟨10, [.val false TI pF, .val true T_Root (.all .b)], fun x => True, fun x => (sBool (rootS x.1 x.2.1), [])⟩
theorem cRootOkS_ok : CtrOk Proofs.Tryd.prog cRootOkS := by
  have hP := ((((Prg.none ttok mtok).and cDisks_ok).and cIn_ok).and cVolsS_ok)
  refine ctr_of_body hP cRootOkS (fn := Proofs.Tryd.f10) (rts := [.tmp 4]) Proofs.Tryd.func10 rfl (by kernel_rfl) rfl rfl ?_
  rintro ⟨(d : Int), ⟨(tg : Int), (l : List Vol_)⟩, ⟨⟩⟩ _ _
  try dsimp only [Ty.den, Mode.den, mdens] at _
  refine ⟨rfl, ?_⟩
  refine sw_seq ?_
  refine sw_region hP 1 [] rfl (by kernel_rfl) (fun _ => by kernel_rfl) (by first | trivial | (simp [conj]; done) | (simp [conj] at *; (try dsimp only [Ty.den, Ty.dflt] at *); omega)) ?_
  refine sw_seq ?_
  refine sw_dec hP 2 [] 2 rfl (fun g1_2 => ?_) (fun g1_2 => ?_)
  · skip
    have k2 : poolV d = true := g1_2
    refine sw_dec hP 2 [(2, true)] 7 rfl (fun g1_7 => ?_) (fun g1_7 => ?_)
    · skip
      have k7 : inV tg 0 100000 = true := g1_7
      refine sw_dec hP 2 [(2, true), (7, true)] 13 rfl (fun g1_13 => ?_) (fun g1_13 => ?_)
      · skip
        have k13 : l.length ≤ 4 := by have h := g1_13; simp at h; omega
        refine sw_region hP 2 [(2, true), (7, true), (13, true)] rfl (by kernel_rfl) (fun _ => by kernel_rfl) ?_ ?_
        · skip
          simp only [conj, List.nil_append, List.cons_append, List.append_nil, List.append_assoc, inR_i64, true_and, and_true, Int.toNat_natCast]
          try dsimp only [Ty.den, Ty.dflt]
          repeat' apply And.intro
          all_goals first | trivial | exact g1_2 | exact g1_7 | exact g1_13 | assumption | exact k2 | exact k13
        refine sw_ret ⟨.inl rfl, _, rfl, ?_⟩
        simp [conj, rootS, *]
      · skip
        have k13 : ¬ l.length ≤ 4 := by have h := g1_13; simp at h; omega
        refine sw_region hP 2 [(2, true), (7, true), (13, false)] rfl (by kernel_rfl) (fun _ => by kernel_rfl) ?_ ?_
        · skip
          simp only [conj, List.nil_append, List.cons_append, List.append_nil, List.append_assoc, inR_i64, true_and, and_true, Int.toNat_natCast]
          try dsimp only [Ty.den, Ty.dflt]
          repeat' apply And.intro
          all_goals first | trivial | exact g1_2 | exact g1_7 | exact g1_13 | assumption | exact k2 | exact k13
        refine sw_ret ⟨.inl rfl, _, rfl, ?_⟩
        simp [conj, rootS, *]
    · skip
      have k7 : inV tg 0 100000 = false := g1_7
      refine sw_region hP 2 [(2, true), (7, false)] rfl (by kernel_rfl) (fun _ => by kernel_rfl) ?_ ?_
      · skip
        simp only [conj, List.nil_append, List.cons_append, List.append_nil, List.append_assoc, inR_i64, true_and, and_true, Int.toNat_natCast]
        try dsimp only [Ty.den, Ty.dflt]
        repeat' apply And.intro
        all_goals first | trivial | exact g1_2 | exact g1_7 | exact g1_13 | assumption | exact k2 | exact k13
      refine sw_ret ⟨.inl rfl, _, rfl, ?_⟩
      simp [conj, rootS, *]
  · skip
    have k2 : poolV d = false := g1_2
    refine sw_region hP 2 [(2, false)] rfl (by kernel_rfl) (fun _ => by kernel_rfl) ?_ ?_
    · skip
      simp only [conj, List.nil_append, List.cons_append, List.append_nil, List.append_assoc, inR_i64, true_and, and_true, Int.toNat_natCast]
      try dsimp only [Ty.den, Ty.dflt]
      repeat' apply And.intro
      all_goals first | trivial | exact g1_2 | exact g1_7 | exact g1_13 | assumption | exact k2 | exact k13
    refine sw_ret ⟨.inl rfl, _, rfl, ?_⟩
    simp [conj, rootS, *]

def cPtrOkS : Ctr := ⟨11, [.val false TI pF, .val true T_Ptr (.all .b)], fun x => True, fun x => (sBool (poolV x.1 && ptrW x.1 x.2.1), [])⟩
theorem cPtrOkS_ok : CtrOk Proofs.Tryd.prog cPtrOkS := by
  have hP := (((Prg.none ttok mtok).and cDisks_ok).and cPtrS_ok)
  refine ctr_of_body hP cPtrOkS (fn := Proofs.Tryd.f11) (rts := [.tmp 4]) Proofs.Tryd.func11 rfl (by kernel_rfl) rfl rfl ?_
  rintro ⟨(d : Int), ⟨(sz : Int), (sm : Int), (pl : List Plc)⟩, ⟨⟩⟩ _ _
  try dsimp only [Ty.den, Mode.den, mdens] at _
  refine ⟨rfl, ?_⟩
  refine sw_seq ?_
  refine sw_region hP 1 [] rfl (by kernel_rfl) (fun _ => by kernel_rfl) (by first | trivial | (simp [conj]; done) | (simp [conj] at *; (try dsimp only [Ty.den, Ty.dflt] at *); omega)) ?_
  refine sw_seq ?_
  refine sw_dec hP 2 [] 2 rfl (fun g1_2 => ?_) (fun g1_2 => ?_)
  · skip
    have k2 : poolV d = true := g1_2
    refine sw_region hP 2 [(2, true)] rfl (by kernel_rfl) (fun _ => by kernel_rfl) ?_ ?_
    · skip
      simp only [conj, List.nil_append, List.cons_append, List.append_nil, List.append_assoc, inR_i64, true_and, and_true, Int.toNat_natCast]
      try dsimp only [Ty.den, Ty.dflt]
      repeat' apply And.intro
      all_goals first | trivial | exact g1_2 | assumption | exact k2
    refine sw_ret ⟨.inl rfl, _, rfl, ?_⟩
    simp [conj, k2]
  · skip
    have k2 : poolV d = false := g1_2
    refine sw_region hP 2 [(2, false)] rfl (by kernel_rfl) (fun _ => by kernel_rfl) ?_ ?_
    · skip
      simp only [conj, List.nil_append, List.cons_append, List.append_nil, List.append_assoc, inR_i64, true_and, and_true, Int.toNat_natCast]
      try dsimp only [Ty.den, Ty.dflt]
      repeat' apply And.intro
      all_goals first | trivial | exact g1_2 | assumption | exact k2
    refine sw_ret ⟨.inl rfl, _, rfl, ?_⟩
    simp [conj, k2]

def cDecK (k : Nat) : Ctr := ⟨40, [.val false TI pF], fun x => 0 ≤ x.1 ∧ 1 ≤ k ∧ x.1 < 10 ^ k, fun x => (sStr (itoaV x.1), [])⟩
theorem cDecK_ok : ∀ k, CtrOk Proofs.Tryd.prog (cDecK k) := by
  intro k
  induction k with
  | zero =>
    rintro G w args ⟨(n : Int), ⟨⟩⟩ _ _ _ ⟨_, h1, _⟩
    exact absurd h1 (by decide)
  | succ k ih =>
    have hP := ((Prg.none ttok mtok).and ih)
    refine ctr_of_body hP (cDecK (k + 1)) (fn := Proofs.Tryd.f40) (rts := [.tmp 2]) Proofs.Tryd.func40 rfl (by kernel_rfl) rfl rfl ?_
    rintro ⟨(n : Int), ⟨⟩⟩ ⟨hn0, _⟩ ⟨h0, _, h1⟩
    try dsimp only [Ty.den, Mode.den, mdens] at h0
    try dsimp only [Ty.den, Mode.den, mdens] at _
    try dsimp only [Ty.den, Mode.den, mdens] at h1
    refine ⟨rfl, ?_⟩
    replace hn0 : inR .i64 n := hn0
    rw [inR_i64] at hn0
    replace h0 : 0 ≤ n := h0
    replace h1 : n < 10 ^ (k + 1) := h1
    rw [Int.pow_succ] at h1
    have hq : n.tdiv 10 = n / 10 := Int.tdiv_eq_ediv_of_nonneg h0
    have hr : n.tmod 10 = n % 10 := Int.tmod_eq_emod_of_nonneg h0
    have hlq : (itoaV (n.tdiv 10)).length ≤ 21 := itoaV_len (by rw [inR_i64]; omega)
    refine sw_seq ?_
    refine sw_region hP 1 [] rfl (by kernel_rfl) (fun _ => by kernel_rfl) (by first | trivial | (simp [conj]; done) | (simp [conj] at *; (try dsimp only [Ty.den, Ty.dflt] at *); omega)) ?_
    refine sw_seq ?_
    refine sw_seq ?_
    refine sw_region hP 2 [] rfl (by kernel_rfl) (fun _ => by kernel_rfl) (by first | trivial | (simp [conj]; done) | (simp [conj] at *; (try dsimp only [Ty.den, Ty.dflt] at *); omega)) ?_
    refine sw_cond rfl (fun c1 => ?_) (fun c1 => ?_)
    · skip
      have h : n < -9223372036854775807 := of_decide_eq_true c1
      omega
    · skip
      refine sw_skip ?_
      refine sw_seq ?_
      refine sw_seq ?_
      refine sw_region hP 3 [] rfl (by kernel_rfl) (fun _ => by kernel_rfl) (by first | trivial | (simp [conj]; done) | (simp [conj] at *; (try dsimp only [Ty.den, Ty.dflt] at *); omega)) ?_
      refine sw_cond rfl (fun c3 => ?_) (fun c3 => ?_)
      · skip
        have h : n < 0 := of_decide_eq_true c3
        omega
      · skip
        refine sw_skip ?_
        refine sw_seq ?_
        refine sw_seq ?_
        refine sw_region hP 4 [] rfl (by kernel_rfl) (fun _ => by kernel_rfl) (by first | trivial | (simp [conj]; done) | (simp [conj] at *; (try dsimp only [Ty.den, Ty.dflt] at *); omega)) ?_
        refine sw_cond rfl (fun c5 => ?_) (fun c5 => ?_)
        · skip
          replace c5 : n < 10 := of_decide_eq_true c5
          refine sw_seq ?_
          refine sw_region hP 5 [] rfl (by kernel_rfl) (fun _ => by kernel_rfl) ?_ ?_
          · skip
            simp only [conj, List.nil_append, List.cons_append, List.append_nil, List.append_assoc, inR_i64, inR_u8, true_and, and_true, Int.toNat_natCast]
            try dsimp only [Ty.den, Ty.dflt]
            repeat' apply And.intro
            all_goals first | omega | trivial
          refine sw_ret ⟨.inl rfl, _, rfl, ?_⟩
          simp [conj, ofBytes]
          exact (itoaV_small h0 c5).symm
        · skip
          replace c5 : ¬ n < 10 := of_decide_eq_false c5
          have hk : 1 ≤ k := by
            rcases k with _ | k
            · simp at h1; omega
            · omega
          refine sw_skip ?_
          refine sw_seq ?_
          refine sw_region hP 5 [] rfl (by kernel_rfl) (fun _ => by kernel_rfl) ?_ ?_
          · skip
            simp only [conj, List.nil_append, List.cons_append, List.append_nil, List.append_assoc, inR_i64, inR_u8, true_and, and_true, Int.toNat_natCast]
            try dsimp only [Ty.den, Ty.dflt]
            repeat' apply And.intro
            all_goals first | omega | (show 0 ≤ n.tdiv 10; omega) | (show n.tdiv 10 < 10 ^ k; omega) | (show _ ≤ n.tdiv 10; omega) | (show n.tdiv 10 ≤ _; omega) | (show _ ≤ 48 + n.tmod 10; omega) | (show 48 + n.tmod 10 ≤ _; omega) | trivial | exact hk | (show (itoaV (n.tdiv 10)).length + 1 ≤ 140737488355328; omega) | trace_state
          refine sw_ret ⟨.inl rfl, _, rfl, ?_⟩
          simp [conj, ofBytes]
          rw [itoaV_big h0 c5, hq, hr]
def cDec : Ctr := ⟨(cDecK 0).f, [.val false TI pF], fun x => 0 ≤ x.1, fun x => (sStr (itoaV x.1), [])⟩
theorem cDec_ok : CtrOk Proofs.Tryd.prog cDec := by
  rintro G w args ⟨(n : Int), ⟨⟩⟩ hb ha hargs h0
  have hn : inR .i64 n := by
    obtain ⟨v, vs, _, ⟨_, cs, _, _, ⟨_, hn⟩⟩, _⟩ := hargs
    exact hn
  rw [inR_i64] at hn
  exact cDecK_ok 19 G w args (n, ()) hb ha hargs ⟨h0, by decide, by show n < (10 : Int) ^ 19; rw [show (10 : Int) ^ 19 = 10000000000000000000 by decide]; omega⟩

def cLineS : Ctr := ⟨63, [.val true T_Ptr (.all .b)], fun x => ∃ d, ptrV d x.1 = true, fun x => (sStr (lineV x.1), [])⟩
theorem cLineS_ok : CtrOk Proofs.Tryd.prog cLineS := by
  have hP := ((Prg.none ttok mtok).and cDec_ok)
  refine ctr_of_body hP cLineS (fn := Proofs.Tryd.f63) (rts := [.tmp 2]) Proofs.Tryd.func63 rfl (by kernel_rfl) rfl rfl ?_
  rintro ⟨⟨(sz : Int), (sm : Int), (pl : List Plc)⟩, ⟨⟩⟩ ⟨⟨hz0, hm0, hpl0⟩, _⟩ ⟨d, hpre⟩
  try dsimp only [Ty.den, Mode.den, mdens] at d
  try dsimp only [Ty.den, Mode.den, mdens] at hpre
  refine ⟨rfl, ?_⟩
  replace hpre : ptrV d ((sz, sm, pl) : Ptr_) = true := hpre
  have hl4 : pl.length ≤ 4 := ptrV_len hpre
  have hi1 : (itoaV sz).length ≤ 21 := itoaV_len hz0
  have hi2 : (itoaV sm).length ≤ 21 := itoaV_len hm0
  refine sw_seq ?_
  refine sw_region hP 1 [] rfl (by kernel_rfl) (fun _ => by kernel_rfl) (by first | trivial | (simp [conj]; done) | (simp [conj] at *; (try dsimp only [Ty.den, Ty.dflt] at *); omega)) ?_
  refine sw_seq ?_
  refine sw_seq ?_
  refine sw_region hP 2 [] rfl (by kernel_rfl) (fun _ => by kernel_rfl) (by first | trivial | (simp [conj]; done) | (simp [conj] at *; (try dsimp only [Ty.den, Ty.dflt] at *); omega)) ?_
  refine sw_cond rfl (fun c1 => ?_) (fun c1 => ?_)
  · skip
    replace c1 : sz = 0 := of_decide_eq_true c1
    have hnn : noneV ((sz, sm, pl) : Ptr_) = true := ptrV_none hpre c1
    refine sw_seq ?_
    refine sw_region hP 3 [] rfl (by kernel_rfl) (fun _ => by kernel_rfl) (by first | trivial | (simp [conj]; done) | (simp [conj] at *; (try dsimp only [Ty.den, Ty.dflt] at *); omega)) ?_
    refine sw_ret ⟨.inl rfl, _, rfl, ?_⟩
    simp [conj, lineV, hnn, bytesL]
    rfl
  · skip
    replace c1 : ¬ sz = 0 := of_decide_eq_false c1
    have hnn : noneV ((sz, sm, pl) : Ptr_) = false := by simp [noneV, c1]
    obtain ⟨hp1, hp2, hp3⟩ := ptrV_pos hpre c1
    refine sw_skip ?_
    refine sw_seq ?_
    refine sw_region hP 3 [] rfl (by kernel_rfl) (fun _ => by kernel_rfl) ?_ ?_
    · skip
      simp [conj, maxL, bytesL]
      repeat' apply And.intro
      all_goals first | omega | exact hp1 | exact hp2 | trivial
    refine sw_seq ?_
    refine sw_seq ?_
    refine sw_region hP 4 [] rfl (by kernel_rfl) (fun _ => by kernel_rfl) (by first | trivial | (simp [conj]; done) | (simp [conj] at *; (try dsimp only [Ty.den, Ty.dflt] at *); omega)) ?_
    refine sw_block ?_
    refine sw_loop (ι := Nat × Str) (fun ⟨i, o⟩ => ⟨[.junk, .v false [.ptr ⟨1, 0, 0⟩ 0], .junk, sStr o, sInt .i64 (i : Int), .junk, .junk, .junk, .junk, .junk, .junk, .junk, .junk, .junk, .junk, .junk, .junk, .junk, .junk, .junk, .junk, .junk, .junk, .junk, .junk, .junk, .junk, .junk, .junk, .junk, .junk, .junk, .junk, .junk, .junk, .junk, .junk, .junk, .junk, .junk, .junk, .junk, .junk, .junk, .junk], [(⟨1, 0, 0⟩, .var [.d TI pF sz, .d TI pF sm, .d (.sl T_Place) (.all .b) pl])], 4, []⟩) (fun ⟨i, o⟩ => pl.length - i) (fun ⟨i, o⟩ => i ≤ pl.length ∧ o ++ catGo wordS (pl.drop i) = (Lib.join (wordsV ((sz, sm, pl) : Ptr_)) [32]) ∧ o.length ≤ 50 + i * 50) (0, tPtr ++ [32] ++ itoaV sz ++ [32] ++ itoaV sm) ⟨?_, ?_⟩ ?_
    · skip
      exact ⟨Nat.zero_le _, words_join.symm, by simp [tPtr]; omega⟩
    · refine ent_ok rfl ?_
      simp [conj, bytesL]
      rfl
    · rintro ⟨i, o⟩ ⟨hi, hgo, hol⟩
      refine sw_seq ?_
      refine sw_seq ?_
      refine sw_region hP 5 [] rfl (by kernel_rfl) (fun _ => by kernel_rfl) (by first | trivial | (simp [conj]; done) | (simp [conj] at *; (try dsimp only [Ty.den, Ty.dflt] at *); omega)) ?_
      refine sw_cond rfl (fun c5 => ?_) (fun c5 => ?_)
      · skip
        have hlt : i < pl.length := by simpa using c5
        have hin := hpl0.2 _ (List.getElem_mem hlt)
        have hpp := hp3 _ (List.getElem_mem hlt)
        have hi3 : (itoaV pl[i].1).length ≤ 21 := itoaV_len hin.1
        have hi4 : (itoaV pl[i].2).length ≤ 21 := itoaV_len hin.2
        refine sw_skip ?_
        refine sw_seq ?_
        refine sw_block ?_
        refine sw_region hP 6 [] rfl (by kernel_rfl) (fun _ => by kernel_rfl) ?_ ?_
        · skip
          simp [conj, maxL, bytesL, List.getElem?_eq_getElem hlt]
          repeat' apply And.intro
          all_goals first | omega | exact hpp.1 | exact hpp.2 | trivial
        refine sw_region hP 7 [] rfl (by kernel_rfl) (fun _ => by kernel_rfl) (by first | trivial | (simp [conj]; done) | (simp [conj] at *; (try dsimp only [Ty.den, Ty.dflt] at *); omega)) ?_
        refine ⟨(i + 1, o ++ wordS pl[i]), ?_, ?_, ent_ok rfl ?_⟩
        · skip
          exact ⟨hlt, cat_next hlt hgo, by simp [wordS, wordV]; omega⟩
        · skip
          show pl.length - (i + 1) < pl.length - i
          omega
        · skip
          simp [conj, bytesL, wordS, wordV, List.getElem?_eq_getElem hlt]
      · skip
        obtain rfl : i = pl.length := by simp at c5; omega
        have hv := cat_end hgo
        subst hv
        refine sw_exit ?_
        refine sw_seq ?_
        refine sw_region hP 6 [] rfl (by kernel_rfl) (fun _ => by kernel_rfl) ?_ ?_
        · skip
          simp [conj, maxL, bytesL]
          repeat' apply And.intro
          all_goals first | omega | trivial
        refine sw_ret ⟨.inl rfl, _, rfl, ?_⟩
        simp [conj, lineV, hnn, bytesL]

def cTextS : Ctr := ⟨39, [.val true T_Root (.all .b)], fun x => ∃ d, rootV d x.1 = true, fun x => (sStr (bodyV x.1), [])⟩
theorem cTextS_ok : CtrOk Proofs.Tryd.prog cTextS := by
  have hP := (((Prg.none ttok mtok).and cDec_ok).and cLineS_ok)
  refine ctr_of_body hP cTextS (fn := Proofs.Tryd.f39) (rts := [.tmp 2]) Proofs.Tryd.func39 rfl (by kernel_rfl) rfl rfl ?_
  rintro ⟨⟨(tg : Int), (l : List Vol_)⟩, ⟨⟩⟩ ⟨⟨ht0, hl0⟩, _⟩ ⟨d, hpre⟩
  try dsimp only [Ty.den, Mode.den, mdens] at d
  try dsimp only [Ty.den, Mode.den, mdens] at hpre
  refine ⟨rfl, ?_⟩
  replace hpre : rootV d ((tg, l) : Root_) = true := hpre
  have hs := rootV_small hpre
  have ht1 : 0 ≤ tg := rootV_txg hpre
  have hi1 : (itoaV tg).length ≤ 21 := itoaV_len ht0
  have hml : l.length ≤ 4 := hs.1
  refine sw_seq ?_
  refine sw_region hP 1 [] rfl (by kernel_rfl) (fun _ => by kernel_rfl) (by first | trivial | (simp [conj]; done) | (simp [conj] at *; (try dsimp only [Ty.den, Ty.dflt] at *); omega)) ?_
  refine sw_seq ?_
  refine sw_region hP 2 [] rfl (by kernel_rfl) (fun _ => by kernel_rfl) ?_ ?_
  · skip
    simp [conj, maxL, bytesL]
    repeat' apply And.intro
    all_goals first | omega | exact ht1 | trivial
  refine sw_seq ?_
  refine sw_seq ?_
  refine sw_region hP 3 [] rfl (by kernel_rfl) (fun _ => by kernel_rfl) (by first | trivial | (simp [conj]; done) | (simp [conj] at *; (try dsimp only [Ty.den, Ty.dflt] at *); omega)) ?_
  refine sw_block ?_
  refine sw_loop (ι := Nat × Str) (fun ⟨i, o⟩ => ⟨[.junk, .v false [.ptr ⟨1, 0, 0⟩ 0], .junk, sStr o, sInt .i64 (i : Int), .junk, .junk, .junk, .junk, .junk, .junk, .junk, .junk, .junk, .junk, .junk, .junk, .junk, .junk, .junk, .junk, .junk, .junk, .junk, .junk, .junk, .junk, .junk, .junk, .junk, .junk, .junk, .junk, .junk, .junk, .junk, .junk, .junk, .junk, .junk, .junk, .junk, .junk, .junk, .junk, .junk, .junk, .junk, .junk, .junk, .junk, .junk], [(⟨1, 0, 0⟩, .var [.d TI pF tg, .d (.sl T_Vol) (.all .b) l])], 3, []⟩) (fun ⟨i, o⟩ => l.length - i) (fun ⟨i, o⟩ => i ≤ l.length ∧ o ++ catGo volT (l.drop i) = bodyV ((tg, l) : Root_) ∧ o.length ≤ 27 + i * 1000) (0, tRoot ++ itoaV tg ++ [10]) ⟨?_, ?_⟩ ?_
  · skip
    exact ⟨Nat.zero_le _, rfl, by simp [tRoot]; omega⟩
  · refine ent_ok rfl ?_
    simp [conj, bytesL]
    try rfl
  · rintro ⟨i, o⟩ ⟨hi, hgo, hol⟩
    refine sw_seq ?_
    refine sw_seq ?_
    refine sw_region hP 4 [] rfl (by kernel_rfl) (fun _ => by kernel_rfl) (by first | trivial | (simp [conj]; done) | (simp [conj] at *; (try dsimp only [Ty.den, Ty.dflt] at *); omega)) ?_
    refine sw_cond rfl (fun c3 => ?_) (fun c3 => ?_)
    · skip
      have hlt : i < l.length := by simpa using c3
      obtain ⟨hn3, hb3, hpv⟩ := hs.2 _ (List.getElem_mem hlt)
      refine sw_skip ?_
      refine sw_seq ?_
      refine sw_block ?_
      refine sw_seq ?_
      refine sw_region hP 5 [] rfl (by kernel_rfl) (fun _ => by kernel_rfl) ?_ ?_
      · skip
        simp [conj, maxL, bytesL, List.getElem?_eq_getElem hlt]
        repeat' apply And.intro
        all_goals first | omega | trivial
      refine sw_seq ?_
      refine sw_region hP 6 [] rfl (by kernel_rfl) (fun _ => by kernel_rfl) (by first | trivial | (simp [conj]; done) | (simp [conj] at *; (try dsimp only [Ty.den, Ty.dflt] at *); omega)) ?_
      refine sw_block ?_
      refine sw_loop (ι := Nat × Str) (fun ⟨j, o⟩ => ⟨[.junk, .v false [.ptr ⟨1, 0, 0⟩ 0], .junk, sStr o, sInt .i64 (i : Int), sInt .i64 (j : Int), .junk, .junk, .junk, .junk, .junk, .junk, .junk, .junk, .junk, .junk, .junk, .junk, .junk, .junk, .junk, .junk, .junk, .junk, .junk, .junk, .junk, .junk, .junk, .junk, .junk, .junk, .junk, .junk, .junk, .junk, .junk, .junk, .junk, .junk, .junk, .junk, .junk, .junk, .junk, .junk, .junk, .junk, .junk, .junk, .junk, .junk], [(⟨1, 0, 0⟩, .var [.d TI pF tg, .d (.sl T_Vol) (.all .b) l])], 6, []⟩) (fun ⟨j, o⟩ => l[i].2.length - j) (fun ⟨j, o⟩ => j ≤ l[i].2.length ∧ (o ++ catGo lineV (l[i].2.drop j)) ++ catGo volT (l.drop (i + 1)) = bodyV ((tg, l) : Root_) ∧ o.length ≤ 27 + i * 1000 + 8 + j * 300) (0, o ++ (tVol ++ l[i].1 ++ [10])) ⟨?_, ?_⟩ ?_
      · skip
        exact ⟨Nat.zero_le _, vol_in hlt hgo, by simp [tVol]; omega⟩
      · refine ent_ok rfl ?_
        simp [conj, bytesL, List.getElem?_eq_getElem hlt]
        try rfl
      · rintro ⟨j, o⟩ ⟨hj, hgo2, hol2⟩
        refine sw_seq ?_
        refine sw_seq ?_
        refine sw_region hP 7 [] rfl (by kernel_rfl) (fun _ => by kernel_rfl) ?_ ?_
        · skip
          simp [conj, List.getElem?_eq_getElem hlt]
          repeat' apply And.intro
          all_goals first | omega | trivial
        refine sw_cond rfl (fun c7 => ?_) (fun c7 => ?_)
        · skip
          have hlj : j < l[i].2.length := by
            have h := c7
            simp [List.getElem?_eq_getElem hlt] at h
            omega
          have hpj := hpv _ (List.getElem_mem hlj)
          obtain ⟨dd, hpd⟩ := hpj
          have hok := (hl0.2 _ (List.getElem_mem hlt)).2.2 _ (List.getElem_mem hlj)
          have hll := lineV_len' hok.1 hok.2.1 hok.2.2.2 hpd
          refine sw_skip ?_
          refine sw_seq ?_
          refine sw_block ?_
          refine sw_region hP 8 [] rfl (by kernel_rfl) (fun _ => by kernel_rfl) ?_ ?_
          · skip
            simp [conj, maxL, List.getElem?_eq_getElem hlt, List.getElem?_eq_getElem hlj]
            repeat' apply And.intro
            all_goals first | omega | exact ⟨dd, hpd⟩ | (have h : List.length (lineV l[i].2[j]) ≤ 300 := hll; show o.length + List.length (lineV l[i].2[j]) ≤ 140737488355328; omega) | trivial
          refine sw_region hP 9 [] rfl (by kernel_rfl) (fun _ => by kernel_rfl) (by first | trivial | (simp [conj]; done) | (simp [conj] at *; (try dsimp only [Ty.den, Ty.dflt] at *); omega)) ?_
          refine ⟨(j + 1, o ++ lineV l[i].2[j]), ?_, ?_, ent_ok rfl ?_⟩
          · skip
            exact ⟨hlj, vol_line hlj hgo2, by simp; omega⟩
          · skip
            show l[i].2.length - (j + 1) < l[i].2.length - j
            omega
          · skip
            simp [conj, List.getElem?_eq_getElem hlt, List.getElem?_eq_getElem hlj]
        · skip
          obtain rfl : j = l[i].2.length := by
            have h := c7
            simp [List.getElem?_eq_getElem hlt] at h
            omega
          refine sw_exit ?_
          refine sw_region hP 8 [] rfl (by kernel_rfl) (fun _ => by kernel_rfl) (by first | trivial | (simp [conj]; done) | (simp [conj] at *; (try dsimp only [Ty.den, Ty.dflt] at *); omega)) ?_
          refine ⟨(i + 1, o), ?_, ?_, ent_ok rfl ?_⟩
          · skip
            exact ⟨hlt, vol_out hgo2, by show o.length ≤ 27 + (i + 1) * 1000; omega⟩
          · skip
            show l.length - (i + 1) < l.length - i
            omega
          · skip
            simp [conj]
    · skip
      obtain rfl : i = l.length := by simp at c3; omega
      have hv := cat_end hgo
      subst hv
      refine sw_exit ?_
      refine sw_seq ?_
      refine sw_region hP 5 [] rfl (by kernel_rfl) (fun _ => by kernel_rfl) (by first | trivial | (simp [conj]; done) | (simp [conj] at *; (try dsimp only [Ty.den, Ty.dflt] at *); omega)) ?_
      refine sw_ret ⟨.inl rfl, _, rfl, ?_⟩
      simp [conj]

def cCheck : Ctr := ⟨41, [.val false .str pF], fun x => List.length x.1 ≤ 1000000, fun x => (sInt .i64 (weighV x.1), [])⟩
theorem cCheck_ok : CtrOk Proofs.Tryd.prog cCheck := by
  have hP := (Prg.none ttok mtok)
  refine ctr_of_body hP cCheck (fn := Proofs.Tryd.f41) (rts := [.tmp 2]) Proofs.Tryd.func41 rfl (by kernel_rfl) rfl rfl ?_
  rintro ⟨(s : Str), ⟨⟩⟩ _ hpre
  try dsimp only [Ty.den, Mode.den, mdens] at hpre
  refine ⟨rfl, ?_⟩
  replace hpre : s.length ≤ 1000000 := hpre
  refine sw_seq ?_
  refine sw_region hP 1 [] rfl (by kernel_rfl) (fun _ => by kernel_rfl) (by first | trivial | (simp [conj]; done) | (simp [conj] at *; (try dsimp only [Ty.den, Ty.dflt] at *); omega)) ?_
  refine sw_seq ?_
  refine sw_region hP 2 [] rfl (by kernel_rfl) (fun _ => by kernel_rfl) (by first | trivial | (simp [conj]; done) | (simp [conj] at *; (try dsimp only [Ty.den, Ty.dflt] at *); omega)) ?_
  refine sw_seq ?_
  refine sw_seq ?_
  refine sw_region hP 3 [] rfl (by kernel_rfl) (fun _ => by kernel_rfl) (by first | trivial | (simp [conj]; done) | (simp [conj] at *; (try dsimp only [Ty.den, Ty.dflt] at *); omega)) ?_
  refine sw_block ?_
  refine sw_loop (ι := Nat × Int) (fun ⟨i, n⟩ => ⟨[sStr s, .junk, .junk, sInt .i64 n, sInt .i64 (i : Int), .junk, .junk, .junk, .junk, .junk, .junk, .junk, .junk, .junk, .junk, .junk, .junk, .junk, .junk, .junk, .junk, .junk], [], 3, []⟩) (fun ⟨i, n⟩ => s.length - i) (fun ⟨i, n⟩ => i ≤ s.length ∧ n + weighGo (s.drop i) i = weighV s ∧ 0 ≤ n ∧ n ≤ (i : Int) * 300000000) (0, 0) ⟨?_, ?_⟩ ?_
  · skip
    exact ⟨Nat.zero_le _, by simp [weighV], by decide, by decide⟩
  · refine ent_ok rfl ?_
    simp [conj]
  · rintro ⟨i, n⟩ ⟨hi, hgo, hn0, hn1⟩
    refine sw_seq ?_
    refine sw_seq ?_
    refine sw_region hP 4 [] rfl (by kernel_rfl) (fun _ => by kernel_rfl) (by first | trivial | (simp [conj]; done) | (simp [conj] at *; (try dsimp only [Ty.den, Ty.dflt] at *); omega)) ?_
    refine sw_cond rfl (fun c3 => ?_) (fun c3 => ?_)
    · skip
      have hlt : i < s.length := by simpa using c3
      have hone := weigh_one (c := s[i]) (i := i) (by omega)
      refine sw_skip ?_
      refine sw_seq ?_
      refine sw_block ?_
      refine sw_region hP 5 [] rfl (by kernel_rfl) (fun _ => by kernel_rfl) ?_ ?_
      · skip
        simp [conj, List.getElem?_eq_getElem hlt]
        have hu : s[i].toNat < 256 := s[i].toNat_lt
        repeat' apply And.intro
        all_goals omega
      refine sw_region hP 6 [] rfl (by kernel_rfl) (fun _ => by kernel_rfl) (by first | trivial | (simp [conj]; done) | (simp [conj] at *; (try dsimp only [Ty.den, Ty.dflt] at *); omega)) ?_
      refine ⟨(i + 1, n + (s[i].toNat : Int) * (65536 + (i : Int) + 1)), ?_, ?_, ent_ok rfl ?_⟩
      · skip
        exact ⟨hlt, weigh_next hlt hgo, by show 0 ≤ n + (s[i].toNat : Int) * (65536 + (i : Int) + 1); omega, by show n + (s[i].toNat : Int) * (65536 + (i : Int) + 1) ≤ ((i + 1 : Nat) : Int) * 300000000; omega⟩
      · skip
        show s.length - (i + 1) < s.length - i
        omega
      · skip
        simp [conj, List.getElem?_eq_getElem hlt]
    · skip
      obtain rfl : i = s.length := by simp at c3; omega
      have hv := weigh_end hgo
      refine sw_exit ?_
      refine sw_seq ?_
      refine sw_region hP 5 [] rfl (by kernel_rfl) (fun _ => by kernel_rfl) (by first | trivial | (simp [conj]; done) | (simp [conj] at *; (try dsimp only [Ty.den, Ty.dflt] at *); omega)) ?_
      refine sw_ret ⟨.inl rfl, _, rfl, ?_⟩
      simp [conj, hv]
end Go.Sx

namespace Go.Sx
open Go
set_option maxRecDepth 100000
set_option linter.unusedVariables false
set_option linter.unusedSimpArgs false
set_option maxHeartbeats 2000000

def cRootTextS : Ctr := ⟨14, [.val false TI pF, .val true T_Root (.all .b)], fun x => True, fun x => (sStr (rootT x.1 x.2.1), [])⟩
theorem cRootTextS_ok : CtrOk Proofs.Tryd.prog cRootTextS := by
  have hP := (((((Prg.none ttok mtok).and cRootOkS_ok).and cTextS_ok).and cCheck_ok).and cDec_ok)
  refine ctr_of_body hP cRootTextS (fn := Proofs.Tryd.f14) (rts := [.tmp 4]) Proofs.Tryd.func14 rfl (by kernel_rfl) rfl rfl ?_
  rintro ⟨(d : Int), ⟨(tg : Int), (l : List Vol_)⟩, ⟨⟩⟩ ⟨_, ⟨ht0, hl0⟩, _⟩ _
  try dsimp only [Ty.den, Mode.den, mdens] at _
  refine ⟨rfl, ?_⟩
  refine sw_seq ?_
  refine sw_region hP 1 [] rfl (by kernel_rfl) (fun _ => by kernel_rfl) (by first | trivial | (simp [conj]; done) | (simp [conj] at *; (try dsimp only [Ty.den, Ty.dflt] at *); omega)) ?_
  refine sw_seq ?_
  refine sw_seq ?_
  refine sw_region hP 2 [] rfl (by kernel_rfl) (fun _ => by kernel_rfl) ?_ ?_
  · skip
    simp only [conj, List.nil_append, List.cons_append, List.append_nil, List.append_assoc, inR_i64, true_and, and_true, Int.toNat_natCast]
    try dsimp only [Ty.den, Ty.dflt]
    repeat' apply And.intro
    all_goals first | trivial | assumption | omega | exact decide_eq_true ‹_› | exact decide_eq_false ‹_› | (simp [*]; done)
  refine sw_cond rfl (fun c1 => ?_) (fun c1 => ?_)
  · skip
    replace c1 : rootV d ((tg, l) : Root_) = false := by have h : (!rootS d ((tg, l) : Root_)) = true := c1; rw [← rootV_S] at h; simpa using h
    refine sw_seq ?_
    refine sw_region hP 3 [] rfl (by kernel_rfl) (fun _ => by kernel_rfl) (by first | trivial | (simp [conj]; done) | (simp [conj] at *; (try dsimp only [Ty.den, Ty.dflt] at *); omega)) ?_
    refine sw_ret ⟨.inl rfl, _, rfl, ?_⟩
    simp [conj, rootT, c1, bytesL]
    try (simp [sealV]; rfl)
  · skip
    replace c1 : rootV d ((tg, l) : Root_) = true := by have h : (!rootS d ((tg, l) : Root_)) = false := c1; rw [← rootV_S] at h; simpa using h
    have hbl : (bodyV ((tg, l) : Root_)).length ≤ 5000 := body_len ht0 (fun v hv p hp => by have h := (hl0.2 v hv).2.2 p hp; exact ⟨h.1, h.2.1, h.2.2.2⟩) c1
    have hw := weighV_bd (s := (bodyV ((tg, l) : Root_))) (by omega)
    have hi2 : (itoaV (weighV (bodyV ((tg, l) : Root_)))).length ≤ 21 := itoaV_len (by rw [inR_i64]; omega)
    refine sw_skip ?_
    refine sw_seq ?_
    refine sw_region hP 3 [] rfl (by kernel_rfl) (fun _ => by kernel_rfl) ?_ ?_
    · skip
      simp [conj]
      exact ⟨d, c1⟩
    refine sw_seq ?_
    refine sw_region hP 4 [] rfl (by kernel_rfl) (fun _ => by kernel_rfl) ?_ ?_
    · skip
      simp [conj, maxL, bytesL]
      repeat' apply And.intro
      all_goals first | omega | exact hw.1 | (show List.length (bodyV ((tg, l) : Root_)) ≤ 1000000; omega) | trivial
    refine sw_ret ⟨.inl rfl, _, rfl, ?_⟩
    simp [conj, rootT, c1, bytesL]
    try (simp [sealV]; rfl)
end Go.Sx

namespace Go.Sx
open Go
set_option maxRecDepth 100000
set_option linter.unusedVariables false
set_option linter.unusedSimpArgs false
set_option maxHeartbeats 2000000

def cLOne : Ctr := ⟨4, [.val false TB pF, .val false TB pF], fun x => True, fun x => (sBool true, [])⟩
theorem cLOne_ok : CtrOk Proofs.Tryd.prog cLOne := by
  have hP := (((((Prg.none ttok mtok).and cDrT_ok).and cRootText_ok).and cRootTextS_ok).and cLpaRoot_ok)
  refine ctr_of_body hP cLOne (fn := Proofs.Tryd.f4) (rts := [.tmp 4]) Proofs.Tryd.func4 rfl (by kernel_rfl) rfl rfl ?_
  rintro ⟨(code : List Int), (more : List Int), ⟨⟩⟩ _ _
  try dsimp only [Ty.den, Mode.den, mdens] at _
  refine ⟨rfl, ?_⟩
  refine sw_seq ?_
  refine sw_region hP 1 [] rfl (by kernel_rfl) (fun _ => by kernel_rfl) (by first | trivial | (simp [conj]; done) | (simp [conj] at *; (try dsimp only [Ty.den, Ty.dflt] at *); omega)) ?_
  refine sw_seq ?_
  refine sw_seq ?_
  refine sw_dec hP 2 [] 3 rfl (fun g1_3 => ?_) (fun g1_3 => ?_)
  · skip
    refine sw_region hP 2 [(3, true)] rfl (by kernel_rfl) (fun _ => by kernel_rfl) (by first | trivial | (simp [conj]; done) | (simp [conj] at *; (try dsimp only [Ty.den, Ty.dflt] at *); omega)) ?_
    refine sw_condT rfl ?_
    refine sw_seq ?_
    refine sw_region hP 3 [] rfl (by kernel_rfl) (fun _ => by kernel_rfl) (by first | trivial | (simp [conj]; done) | (simp [conj] at *; (try dsimp only [Ty.den, Ty.dflt] at *); omega)) ?_
    refine sw_ret ⟨.inl rfl, _, rfl, ?_⟩
    first | (simp [conj]; done)
  · skip
    refine sw_region hP 2 [(3, false)] rfl (by kernel_rfl) (fun _ => by kernel_rfl) (by first | trivial | (simp [conj]; done) | (simp [conj] at *; (try dsimp only [Ty.den, Ty.dflt] at *); omega)) ?_
    refine sw_cond rfl (fun c1 => ?_) (fun c1 => ?_)
    · skip
      refine sw_seq ?_
      refine sw_region hP 3 [] rfl (by kernel_rfl) (fun _ => by kernel_rfl) (by first | trivial | (simp [conj]; done) | (simp [conj] at *; (try dsimp only [Ty.den, Ty.dflt] at *); omega)) ?_
      refine sw_ret ⟨.inl rfl, _, rfl, ?_⟩
      first | (simp [conj]; done)
    · skip
      refine sw_skip ?_
      refine sw_seq ?_
      refine sw_region hP 3 [] rfl (by kernel_rfl) (fun _ => by kernel_rfl) (by first | trivial | (simp [conj]; done) | (simp [conj] at *; (try dsimp only [Ty.den, Ty.dflt] at *); omega)) ?_
      refine sw_seq ?_
      refine sw_region hP 4 [] rfl (by kernel_rfl) (fun _ => by kernel_rfl) (by first | trivial | (simp [conj]; done) | (simp [conj] at *; (try dsimp only [Ty.den, Ty.dflt] at *); omega)) ?_
      refine sw_seq ?_
      refine sw_region hP 5 [] rfl (by kernel_rfl) (fun _ => by kernel_rfl) (by first | trivial | (simp [conj]; done) | (simp [conj] at *; (try dsimp only [Ty.den, Ty.dflt] at *); omega)) ?_
      refine sw_seq ?_
      refine sw_region hP 6 [] rfl (by kernel_rfl) (fun _ => by kernel_rfl) (by first | trivial | (simp [conj]; done) | (simp [conj] at *; (try dsimp only [Ty.den, Ty.dflt] at *); omega)) ?_
      refine sw_seq ?_
      refine sw_seq ?_
      refine sw_dec hP 7 [] 5 rfl (fun g7_5 => ?_) (fun g7_5 => ?_)
      · skip
        have h : (!decide (rootT (drN code) (drR code) = rootT (drN code) (drR code))) = true := g7_5
        simp at h
      · skip
        refine sw_dec hP 7 [(5, false)] 12 rfl (fun g7_12 => ?_) (fun g7_12 => ?_)
        · skip
          have h : (!decide (rootT (drN code) (drR more) = rootT (drN code) (drR more))) = true := g7_12
          simp at h
        · skip
          refine sw_dec hP 7 [(5, false), (12, false)] 16 rfl (fun g7_16 => ?_) (fun g7_16 => ?_)
          · skip
            refine sw_region hP 7 [(5, false), (12, false), (16, true)] rfl (by kernel_rfl) (fun _ => by kernel_rfl) ?_ ?_
            · skip
              exact ⟨⟨⟨⟨True.intro, g7_5⟩, True.intro⟩, g7_12⟩, g7_16⟩
            refine sw_condT rfl ?_
            refine sw_seq ?_
            refine sw_dec hP 8 [] 5 rfl (fun g8_5 => ?_) (fun g8_5 => ?_)
            · skip
              refine sw_region hP 8 [(5, true)] rfl (by kernel_rfl) (fun _ => by kernel_rfl) ?_ ?_
              · skip
                exact ⟨⟨True.intro, g8_5⟩, True.intro⟩
              refine sw_ret ⟨.inl rfl, _, rfl, ?_⟩
              first | (simp [conj]; done)
            · skip
              have h : decide (rootT (drN code) (drR code) = rootT (drN code) (drR code)) = false := g8_5
              simp at h
          · skip
            have hA : rootV (drN code) (drR code) = true := by
              have h : decide (rootT (drN code) (drR code) = []) = false := g7_16
              have h2 := of_decide_eq_false h
              rw [rootT_nil] at h2
              exact Classical.not_not.1 h2
            refine sw_region hP 7 [(5, false), (12, false), (16, false)] rfl (by kernel_rfl) (fun _ => by kernel_rfl) ?_ ?_
            · skip
              exact ⟨⟨⟨⟨True.intro, g7_5⟩, True.intro⟩, g7_12⟩, g7_16⟩
            refine sw_cond rfl (fun c7 => ?_) (fun c7 => ?_)
            · skip
              refine sw_seq ?_
              refine sw_dec hP 8 [] 5 rfl (fun g8_5 => ?_) (fun g8_5 => ?_)
              · skip
                refine sw_region hP 8 [(5, true)] rfl (by kernel_rfl) (fun _ => by kernel_rfl) ?_ ?_
                · skip
                  exact ⟨⟨True.intro, g8_5⟩, True.intro⟩
                refine sw_ret ⟨.inl rfl, _, rfl, ?_⟩
                first | (simp [conj]; done)
              · skip
                have h : decide (rootT (drN code) (drR code) = rootT (drN code) (drR code)) = false := g8_5
                simp at h
            · skip
              have hB : rootV (drN code) (drR more) = true := by
                have h : decide (rootT (drN code) (drR more) = []) = false := c7
                have h2 := of_decide_eq_false h
                rw [rootT_nil] at h2
                exact Classical.not_not.1 h2
              have hv : (decide (rootT (drN code) (drR code) = rootT (drN code) (drR more)) == decide (drR code = drR more)) = true := by rw [beq_iff_eq]; exact decide_eq_decide.2 (rootT_inj hA hB)
              refine sw_skip ?_
              refine sw_seq ?_
              refine sw_region hP 8 [] rfl (by kernel_rfl) (fun _ => by kernel_rfl) (by first | trivial | (simp [conj]; done) | (simp [conj] at *; (try dsimp only [Ty.den, Ty.dflt] at *); omega)) ?_
              refine sw_ret ⟨.inl rfl, _, rfl, ?_⟩
              exact hv
end Go.Sx
