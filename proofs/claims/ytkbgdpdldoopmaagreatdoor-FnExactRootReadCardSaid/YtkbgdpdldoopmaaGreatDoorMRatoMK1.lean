/- Several texts, one behind the other. -/
import Derived.Test.YtkbgdpdldoopmaaGreatDoorMVoltoMRf
import Derived.Lib.Split
import Derived.Lib.SplitLaws
import Derived.Lib.AtoiTie
import Derived.Lib.AtoiAllCases
import Derived.Lib.Strings
import Derived.Test.YtkbgdpdldoopmaaGreatDoorMOpentoMRt
set_option linter.all false
/- Roots read back from their texts: plain. -/
namespace Go.Sx
open Go
/-! numbers -/
def numGo : Str → Int → Int
  | [], n => n
  | c :: r, n => if c.toNat < 48 ∨ 57 < c.toNat then -1 else numGo r (10 * n + ((c.toNat : Int) - 48))
def numV (s : Str) : Int := if inV s.length 1 12 = true then numGo s 0 else -1
theorem dig_toNat {k : Int} (h0 : 0 ≤ k) (h1 : k < 10) : ((UInt8.ofNat (48 + k).toNat).toNat : Int) = 48 + k := by
  obtain ⟨u, rfl⟩ := Int.eq_ofNat_of_zero_le h0
  have hu : u < 10 := by omega
  rw [show (48 + (u : Int)).toNat = 48 + u by omega, UInt8.toNat_ofNat']
  omega
theorem itoa_ind {P : Int → Prop} (h0 : ∀ n, 0 ≤ n → n < 10 → P n) (h1 : ∀ n, 0 ≤ n → ¬ n < 10 → P (n / 10) → P n) : ∀ n, 0 ≤ n → P n := by
  have : ∀ (k : Nat) (n : Int), 0 ≤ n → n < k → P n := by
    intro k
    induction k with
    | zero => intro n h hk; omega
    | succ k ih =>
      intro n h hk
      by_cases hn : n < 10
      · exact h0 n h hn
      · exact h1 n h hn (ih (n / 10) (by omega) (by omega))
  intro n hn
  exact this (n.toNat + 1) n hn (by omega)
theorem itoaV_dig : ∀ n : Int, 0 ≤ n → ∀ c ∈ itoaV n, 48 ≤ c.toNat ∧ c.toNat ≤ 57 := by
  refine itoa_ind ?_ ?_
  · intro n h h2 c hc
    rw [itoaV_small h h2, List.mem_singleton] at hc
    have := dig_toNat h h2
    subst hc
    omega
  · intro n h h2 ih c hc
    rw [itoaV_big h h2] at hc
    rcases List.mem_append.1 hc with hc | hc
    · exact ih c hc
    · rw [List.mem_singleton] at hc
      have := dig_toNat (k := n % 10) (by omega) (by omega)
      subst hc
      omega
theorem itoaV_lenk : ∀ (k : Nat) (n : Int), 0 ≤ n → n < 10 ^ (k + 1) → 1 ≤ (itoaV n).length ∧ (itoaV n).length ≤ k + 1 := by
  intro k
  induction k with
  | zero => intro n h h2; rw [itoaV_small h (by simpa using h2)]; simp
  | succ k ih =>
    intro n h h2
    by_cases hn : n < 10
    · rw [itoaV_small h hn]; simp
    · rw [itoaV_big h hn]
      rw [Int.pow_succ] at h2
      have := ih (n / 10) (by omega) (by omega)
      simp only [List.length_append, List.length_cons, List.length_nil]
      omega
theorem numGo_itoa : ∀ n : Int, 0 ≤ n → ∀ r, numGo (itoaV n ++ r) 0 = numGo r n := by
  refine itoa_ind ?_ ?_
  · intro n h h2 r
    have hd := dig_toNat h h2
    rw [itoaV_small h h2, List.singleton_append]
    simp only [numGo]
    rw [if_neg (by omega), hd]
    congr 1
    omega
  · intro n h h2 ih r
    have hd := dig_toNat (k := n % 10) (by omega) (by omega)
    rw [itoaV_big h h2, List.append_assoc, ih, List.singleton_append]
    simp only [numGo]
    rw [if_neg (by omega), hd]
    congr 1
    omega
theorem numV_itoa {n : Int} (h : 0 ≤ n) (h2 : n < 1000000000000) : numV (itoaV n) = n := by
  have hl := itoaV_lenk 11 n h (by omega)
  unfold numV
  rw [if_pos (by simp [inV]; omega)]
  have := numGo_itoa n h []
  rwa [List.append_nil] at this
/-! cutting -/
def cutGo (a : UInt8) : Str → Str → List Str
  | cur, [] => [cur]
  | cur, c :: r => if c = a then cur :: cutGo a [] r else cutGo a (cur ++ [c]) r
def cutV (a : UInt8) (s : Str) : List Str := cutGo a [] s
theorem cutGo_word {a : UInt8} : ∀ {w cur r : Str}, (∀ c ∈ w, c ≠ a) → cutGo a cur (w ++ r) = cutGo a (cur ++ w) r := by
  intro w
  induction w with
  | nil => intro cur r _; simp
  | cons c w ih =>
    intro cur r h
    rw [List.cons_append]
    simp only [cutGo]
    rw [if_neg (h c List.mem_cons_self), ih (fun x hx => h x (List.mem_cons_of_mem _ hx)), List.append_assoc, List.singleton_append]
theorem cutGo_at {a : UInt8} {cur r : Str} : cutGo a cur (a :: r) = cur :: cutGo a [] r := by simp [cutGo]
theorem cut_lines {a : UInt8} : ∀ {ls : List Str}, (∀ l ∈ ls, ∀ c ∈ l, c ≠ a) → cutV a (catGo (fun l => l ++ [a]) ls) = ls ++ [[]] := by
  intro ls
  induction ls with
  | nil => intro _; rfl
  | cons l ls ih =>
    intro h
    have ih2 := ih (fun x hx => h x (List.mem_cons_of_mem _ hx))
    unfold cutV at ih2 ⊢
    simp only [catGo]
    rw [List.append_assoc, cutGo_word (h l List.mem_cons_self), List.nil_append, List.singleton_append, cutGo_at, ih2]
    rfl
theorem cut_tail {a : UInt8} : ∀ {ws : List Str} {cur : Str}, (∀ w ∈ ws, ∀ c ∈ w, c ≠ a) → cutGo a cur (Lib.joinTail [a] ws) = cur :: ws := by
  intro ws
  induction ws with
  | nil => intro cur _; rfl
  | cons w ws ih =>
    intro cur h
    have e : Lib.joinTail [a] (w :: ws) = a :: (w ++ Lib.joinTail [a] ws) := by simp [Lib.joinTail]
    rw [e, cutGo_at, cutGo_word (h w List.mem_cons_self), List.nil_append, ih (fun x hx => h x (List.mem_cons_of_mem _ hx))]
theorem cut_join {a : UInt8} {w : Str} {ws : List Str} (h : ∀ x ∈ w :: ws, ∀ c ∈ x, c ≠ a) : cutV a (Lib.join (w :: ws) [a]) = w :: ws := by
  unfold cutV
  rw [Lib.join_cons, cutGo_word (h w List.mem_cons_self), List.nil_append, cut_tail (fun x hx => h x (List.mem_cons_of_mem _ hx))]
/-! lines -/
def nR : Str := [114, 111, 111, 116]
def nV : Str := [118, 111, 108]
def nS : Str := [115, 117, 109]
def nN : Str := [110, 111, 110, 101]
def lineW (ws : List Str) : Str := Lib.join ws [32] ++ [10]
def pW (p : Ptr_) : List Str := if noneV p = true then [nN] else wordsV p
def vW (v : Vol_) : List (List Str) := [nV, v.1] :: v.2.map pW
def rW (r : Root_) : List (List Str) := [nR, itoaV r.1] :: r.2.flatMap vW
theorem cat_append {α : Type} {f : α → Str} {a b : List α} : catGo f (a ++ b) = catGo f a ++ catGo f b := by
  induction a with
  | nil => rfl
  | cons x a ih => simp only [List.cons_append, catGo, ih, List.append_assoc]
theorem cat_map {α β : Type} {f : β → Str} {g : α → β} {l : List α} : catGo f (l.map g) = catGo (fun x => f (g x)) l := by
  induction l with
  | nil => rfl
  | cons x l ih => simp only [List.map_cons, catGo, ih]
theorem cat_flat {α β : Type} {f : β → Str} {g : α → List β} {l : List α} : catGo f (l.flatMap g) = catGo (fun x => catGo f (g x)) l := by
  induction l with
  | nil => rfl
  | cons x l ih => rw [List.flatMap_cons, cat_append, ih]; rfl
theorem cat_congr {α : Type} {f g : α → Str} {l : List α} (h : ∀ x, f x = g x) : catGo f l = catGo g l := by rw [show f = g from funext h]
theorem lineV_W (p : Ptr_) : lineV p = lineW (pW p) := by
  unfold lineV lineW pW
  split
  · rw [Lib.join_one]; rfl
  · rfl
theorem join_two (a b s : Str) : Lib.join [a, b] s = a ++ s ++ b := by rw [Lib.join_cons]; simp [Lib.joinTail]
theorem volT_W (v : Vol_) : volT v = catGo lineW (vW v) := by
  unfold volT vW
  simp only [catGo]
  rw [cat_map, cat_congr lineV_W]
  congr 1
  rw [lineW, join_two]
  rfl
theorem body_W (r : Root_) : bodyV r = catGo lineW (rW r) := by
  unfold bodyV rW
  simp only [catGo]
  rw [cat_flat, cat_congr volT_W]
  congr 1
  rw [lineW, join_two]
  rfl
theorem seal_W (r : Root_) : sealV (bodyV r) = catGo lineW (rW r ++ [[nS, itoaV (weighV (bodyV r))]]) := by
  rw [cat_append, ← body_W]
  unfold sealV
  simp only [catGo]
  rw [lineW, join_two, List.append_nil, List.append_assoc, List.append_assoc, List.append_assoc]
  rfl
/-! words are clean -/
def Cl (w : Str) : Prop := ∀ c ∈ w, c ≠ 32 ∧ c ≠ 10
theorem cl_num {n : Int} (h : 0 ≤ n) : Cl (itoaV n) := by
  intro c hc
  have := itoaV_dig n h c hc
  refine ⟨?_, ?_⟩ <;> · rintro rfl; revert this; decide
theorem cl_name {s : Str} (h : s.all lower = true) : Cl s := by
  intro c hc
  have := List.all_eq_true.1 h c hc
  refine ⟨?_, ?_⟩ <;> · rintro rfl; revert this; decide
theorem cl_app {a b : Str} (ha : Cl a) (hb : Cl b) : Cl (a ++ b) := fun c hc => (List.mem_append.1 hc).elim (ha c) (hb c)
theorem cl_lit {s : Str} (h : (s.all fun c => decide (c ≠ 32 ∧ c ≠ 10)) = true) : Cl s := fun c hc => of_decide_eq_true (List.all_eq_true.1 h c hc)
def LOk (ws : List Str) : Prop := ws ≠ [] ∧ ∀ w ∈ ws, Cl w
theorem lok_two {a b : Str} (ha : Cl a) (hb : Cl b) : LOk [a, b] := ⟨by simp, fun w hw => by
  simp only [List.mem_cons, List.not_mem_nil, or_false] at hw
  rcases hw with rfl | rfl
  · exact ha
  · exact hb⟩
theorem cut_line {ws : List Str} (h : LOk ws) : cutV 32 (Lib.join ws [32]) = ws := by
  cases ws with
  | nil => exact absurd rfl h.1
  | cons w ws => exact cut_join fun x hx c hc => (h.2 x hx c hc).1
theorem join_no10 {ws : List Str} (h : LOk ws) : ∀ c ∈ Lib.join ws [32], c ≠ 10 := by
  cases ws with
  | nil => exact absurd rfl h.1
  | cons w ws =>
    intro c hc
    rw [Lib.join_cons] at hc
    rcases List.mem_append.1 hc with hc | hc
    · exact (h.2 w List.mem_cons_self c hc).2
    · simp only [Lib.joinTail, List.mem_flatten, List.mem_map] at hc
      obtain ⟨l, ⟨x, hx, rfl⟩, hc⟩ := hc
      rcases List.mem_append.1 hc with hc | hc
      · rw [List.mem_singleton] at hc; subst hc; decide
      · exact (h.2 x (List.mem_cons_of_mem _ hx) c hc).2
theorem cut_all {ls : List (List Str)} (h : ∀ ws ∈ ls, LOk ws) : (cutV 10 (catGo lineW ls)).map (cutV 32) = ls ++ [[[]]] := by
  have e : catGo lineW ls = catGo (fun l => l ++ [10]) (ls.map fun ws => Lib.join ws [32]) := by rw [cat_map]; rfl
  rw [e, cut_lines (fun l hl => by obtain ⟨ws, hws, rfl⟩ := List.mem_map.1 hl; exact join_no10 (h ws hws)), List.map_append, List.map_map]
  congr 1
  rw [show ls = ls.map id from (List.map_id _).symm, List.map_map]
  exact List.map_congr_left fun ws hws => cut_line (h ws hws)
/-! pointers of lines -/
def plcR (w : Str) : Plc := (numV ((cutV 46 w).getD 0 []), if (cutV 46 w).length = 2 then numV ((cutV 46 w).getD 1 []) else -1)
def ptrR (ws : List Str) : Ptr_ := if ws.getD 0 [] ≠ tPtr ∨ ws.length < 3 then (0, 0, []) else (numV (ws.getD 1 []), numV (ws.getD 2 []), (ws.drop 3).map plcR)
theorem plcR_word {d : Int} {a : Plc} (h : placeV d a = true) (hd : d ≤ 4) : plcR (wordV a) = a := by
  simp only [placeV, Bool.and_eq_true, decide_eq_true_eq] at h
  have hn : ∀ n : Int, 0 ≤ n → ∀ c ∈ itoaV n, c ≠ 46 := by
    intro n hn c hc
    have := itoaV_dig n hn c hc
    rintro rfl; revert this; decide
  have e : cutV 46 (wordV a) = [itoaV a.1, itoaV a.2] := by
    unfold cutV wordV
    rw [List.append_assoc, cutGo_word (hn _ h.1), List.nil_append, List.singleton_append, cutGo_at]
    have := cutGo_word (a := 46) (cur := []) (r := []) (hn a.2 h.2.2.1)
    rw [List.append_nil, List.nil_append] at this
    rw [this]
    rfl
  unfold plcR
  rw [e]
  show (numV (itoaV a.1), numV (itoaV a.2)) = a
  rw [numV_itoa h.1 (by omega), numV_itoa h.2.2.1 (by omega)]
theorem ptrV_wide2 {d : Int} {p : Ptr_} (h : ptrV d p = true) (hn : ¬ noneV p = true) : (0 ≤ p.1 ∧ p.1 ≤ 9) ∧ (0 ≤ p.2.1 ∧ p.2.1 ≤ 1000000000) ∧ ∀ a ∈ p.2.2, placeV 4 a = true := by
  have h4 := ptrV_wide h
  simp only [ptrV, Bool.and_eq_true, Bool.or_eq_true] at h4
  rcases h4.2 with h1 | h1
  · exact absurd h1 hn
  · obtain ⟨h1, h2⟩ := h1
    simp only [sizeV, inV, Bool.and_eq_true, decide_eq_true_eq] at h1
    have hm : mostV 4 = 9 := by decide
    refine ⟨by omega, by omega, fun a ha => ?_⟩
    obtain ⟨i, hi, rfl⟩ := List.getElem_of_mem ha
    have := chk_iff.1 h2 i hi
    simp only [placeF, Bool.and_eq_true] at this
    exact this.1
theorem none_eq {p : Ptr_} (h : noneV p = true) : p = (0, 0, []) := by
  simp only [noneV, Bool.and_eq_true, decide_eq_true_eq] at h
  obtain ⟨a, b, c⟩ := p
  obtain ⟨rfl, rfl, h3⟩ := h
  have h4 : c = [] := List.eq_nil_of_length_eq_zero h3
  rw [h4]
theorem ptrR_W {d : Int} {p : Ptr_} (h : ptrV d p = true) : ptrR (pW p) = p := by
  by_cases hn : noneV p = true
  · rw [none_eq hn]; decide
  · obtain ⟨h1, h2, h3⟩ := ptrV_wide2 h hn
    have e : pW p = tPtr :: itoaV p.1 :: itoaV p.2.1 :: p.2.2.map wordV := by unfold pW; rw [if_neg hn]; rfl
    rw [e]
    unfold ptrR
    rw [if_neg (by simp)]
    show (numV (itoaV p.1), numV (itoaV p.2.1), (p.2.2.map wordV).map plcR) = p
    rw [numV_itoa h1.1 (by omega), numV_itoa h2.1 (by omega), List.map_map]
    have : p.2.2.map (plcR ∘ wordV) = p.2.2 := by
      conv => rhs; rw [← List.map_id p.2.2]
      exact List.map_congr_left fun a ha => plcR_word (h3 a ha) (by decide)
    rw [this]
theorem lok_W {d : Int} {p : Ptr_} (h : ptrV d p = true) : LOk (pW p) := by
  unfold pW
  split
  · exact ⟨by simp, fun w hw => by rw [List.mem_singleton.1 hw]; exact cl_lit (by decide)⟩
  · rename_i hn
    obtain ⟨h1, h2, h3⟩ := ptrV_wide2 h hn
    refine ⟨by simp [wordsV], fun w hw => ?_⟩
    rcases List.mem_append.1 hw with hw | hw
    · simp only [List.mem_cons, List.not_mem_nil, or_false] at hw
      rcases hw with rfl | rfl | rfl
      · exact cl_lit (by decide)
      · exact cl_num h1.1
      · exact cl_num h2.1
    · obtain ⟨a, ha, rfl⟩ := List.mem_map.1 hw
      have h4 := h3 a ha
      simp only [placeV, Bool.and_eq_true, decide_eq_true_eq] at h4
      exact cl_app (cl_app (cl_num h4.1) (cl_lit (by decide))) (cl_num h4.2.2.1)
/-! the reader -/
def rdStep (b : Bool) (o : Root_) (ws : List Str) : Root_ :=
  if b = true ∧ ws.length = 2 then (numV (ws.getD 1 []), o.2)
  else if ws.getD 0 [] = nV ∧ ws.length = 2 then (o.1, o.2 ++ [(ws.getD 1 [], [])])
  else if 0 < o.2.length ∧ (ws.getD 0 [] = tPtr ∨ ws.getD 0 [] = nN) then (o.1, o.2.set (o.2.length - 1) ((o.2.getD (o.2.length - 1) ([], [])).1, (o.2.getD (o.2.length - 1) ([], [])).2 ++ [ptrR ws]))
  else o
def rdGo : Bool → Root_ → List (List Str) → Root_
  | _, o, [] => o
  | b, o, ws :: r => rdGo false (rdStep b o ws) r
def parseV (s : Str) : Root_ := rdGo true (0, []) ((cutV 10 s).map (cutV 32))
theorem step_ptr {t : Int} {pre : List Vol_} {nm : Str} {done : List Ptr_} {p : Ptr_} {d : Int} (h : ptrV d p = true) : rdStep false (t, pre ++ [(nm, done)]) (pW p) = (t, pre ++ [(nm, done ++ [p])]) := by
  have hr := ptrR_W h
  have h0 : (pW p).getD 0 [] = tPtr ∨ (pW p).getD 0 [] = nN := by
    unfold pW
    split
    · exact .inr rfl
    · exact .inl rfl
  unfold rdStep
  rw [if_neg (by simp), if_neg (by rcases h0 with h0 | h0 <;> · rw [h0]; intro hh; exact absurd hh.1 (by decide)), if_pos ⟨by simp, h0⟩, hr]
  simp
theorem rd_blocks {t : Int} {pre : List Vol_} {nm : Str} {d : Int} : ∀ {bl done : List Ptr_} {rest : List (List Str)}, (∀ p ∈ bl, ptrV d p = true) → rdGo false (t, pre ++ [(nm, done)]) (bl.map pW ++ rest) = rdGo false (t, pre ++ [(nm, done ++ bl)]) rest := by
  intro bl
  induction bl with
  | nil => intro done rest _; simp
  | cons p bl ih =>
    intro done rest h
    rw [List.map_cons, List.cons_append]
    simp only [rdGo]
    rw [step_ptr (h p List.mem_cons_self), ih (fun q hq => h q (List.mem_cons_of_mem _ hq)), List.append_assoc, List.singleton_append]
theorem rd_vol {t : Int} {pre : List Vol_} {v : Vol_} {d : Int} {rest : List (List Str)} (h : ∀ p ∈ v.2, ptrV d p = true) : rdGo false (t, pre) (vW v ++ rest) = rdGo false (t, pre ++ [v]) rest := by
  unfold vW
  rw [List.cons_append]
  simp only [rdGo]
  have e : rdStep false (t, pre) [nV, v.1] = (t, pre ++ [(v.1, [])]) := by
    unfold rdStep
    rw [if_neg (by simp), if_pos ⟨rfl, rfl⟩]
    rfl
  rw [e, rd_blocks h, List.nil_append]
theorem rd_vols {t : Int} {d : Int} : ∀ {vs pre : List Vol_} {rest : List (List Str)}, (∀ v ∈ vs, ∀ p ∈ v.2, ptrV d p = true) → rdGo false (t, pre) (vs.flatMap vW ++ rest) = rdGo false (t, pre ++ vs) rest := by
  intro vs
  induction vs with
  | nil => intro pre rest _; simp
  | cons v vs ih =>
    intro pre rest h
    rw [List.flatMap_cons, List.append_assoc, rd_vol (h v List.mem_cons_self), ih (fun w hw => h w (List.mem_cons_of_mem _ hw)), List.append_assoc, List.singleton_append]
theorem root_parts {d : Int} {r : Root_} (h : rootV d r = true) : (0 ≤ r.1 ∧ r.1 ≤ 100000) ∧ (∀ v ∈ r.2, nameV v.1 = true ∧ v.2.length = 3 ∧ ∀ p ∈ v.2, ptrV d p = true) ∧ r.2.length ≤ 4 := by
  simp only [rootV, volsV, inV, Bool.and_eq_true, decide_eq_true_eq] at h
  refine ⟨h.2.1, fun v hv => ?_, h.2.2.1.2⟩
  obtain ⟨i, hi, rfl⟩ := List.getElem_of_mem hv
  have := chk_iff.1 h.2.2.1.1 i hi
  simp only [volF, Bool.and_eq_true, decide_eq_true_eq, List.all_eq_true] at this
  exact ⟨this.1, this.2.1, this.2.2.2⟩
theorem weighGo_nn : ∀ (s : Str) (i : Nat), 0 ≤ weighGo s i := by
  intro s
  induction s with
  | nil => intro i; exact Int.le_refl _
  | cons c s ih =>
    intro i
    simp only [weighGo]
    have := ih (i + 1)
    have h1 : (0 : Int) ≤ (c.toNat : Int) * (65536 + (i : Int) + 1) := Int.mul_nonneg (by omega) (by omega)
    omega
theorem lok_root {d : Int} {r : Root_} (h : rootV d r = true) : ∀ ws ∈ rW r ++ [[nS, itoaV (weighV (bodyV r))]], LOk ws := by
  obtain ⟨h1, h2, _⟩ := root_parts h
  intro ws hws
  rcases List.mem_append.1 hws with hws | hws
  · unfold rW at hws
    rcases List.mem_cons.1 hws with rfl | hws
    · exact lok_two (cl_lit (by decide)) (cl_num h1.1)
    · obtain ⟨v, hv, hws⟩ := List.mem_flatMap.1 hws
      obtain ⟨a, _, c⟩ := h2 v hv
      unfold vW at hws
      rcases List.mem_cons.1 hws with rfl | hws
      · refine lok_two (cl_lit (by decide)) (cl_name ?_)
        simp only [nameV, Bool.and_eq_true] at a
        exact a.2
      · obtain ⟨p, hp, rfl⟩ := List.mem_map.1 hws
        exact lok_W (c p hp)
  · rw [List.mem_singleton.1 hws]
    exact lok_two (cl_lit (by decide)) (cl_num (weighGo_nn _ _))
theorem step_none {o : Root_} {ws : List Str} (h1 : ws.getD 0 [] ≠ nV) (h2 : ws.getD 0 [] ≠ tPtr) (h3 : ws.getD 0 [] ≠ nN) : rdStep false o ws = o := by
  unfold rdStep
  rw [if_neg (by simp), if_neg (fun hh => h1 hh.1), if_neg (fun hh => hh.2.elim h2 h3)]
/-- a root is read back from its text -/
theorem parse_seal {d : Int} {r : Root_} (h : rootV d r = true) : parseV (sealV (bodyV r)) = r := by
  obtain ⟨h1, h2, _⟩ := root_parts h
  unfold parseV
  rw [seal_W, cut_all (lok_root h)]
  unfold rW
  rw [List.cons_append, List.cons_append]
  simp only [rdGo]
  have e : rdStep true (0, []) [nR, itoaV r.1] = (r.1, []) := by
    unfold rdStep
    rw [if_pos ⟨rfl, rfl⟩]
    show (numV (itoaV r.1), []) = _
    rw [numV_itoa h1.1 (by omega)]
  rw [e, List.append_assoc, rd_vols (fun v hv => (h2 v hv).2.2), List.nil_append, List.singleton_append]
  simp only [rdGo]
  rw [step_none (by simp [nS]; decide) (by simp [nS]; decide) (by simp [nS]; decide), step_none (by simp; decide) (by simp; decide) (by simp; decide)]
theorem seal_ne {s : Str} : sealV s ≠ [] := by unfold sealV; simp
theorem rootT_nil {d : Int} {r : Root_} : rootT d r = [] ↔ ¬ rootV d r = true := by
  unfold rootT
  split
  · rename_i h
    exact ⟨fun e => absurd e seal_ne, fun e => absurd h e⟩
  · rename_i h
    exact ⟨fun _ => h, fun _ => rfl⟩
theorem parse_root {d : Int} {r : Root_} (h : rootV d r = true) : parseV (rootT d r) = r := by
  unfold rootT
  rw [if_pos h, parse_seal h]
theorem rootT_inj {d : Int} {a b : Root_} (ha : rootV d a = true) (hb : rootV d b = true) : rootT d a = rootT d b ↔ a = b :=
  ⟨fun e => by rw [← parse_root ha, ← parse_root hb, e], fun e => by rw [e]⟩
end Go.Sx

/- The program's reader of roots: plain. -/
namespace Go.Sx
open Go
/-! what the library's functions are here -/
theorem cutGo_cons {a : UInt8} : ∀ {s cur : Str}, cutGo a cur s = (match cutGo a [] s with | [] => [] | w :: ws => (cur ++ w) :: ws) := by
  intro s
  induction s with
  | nil => intro cur; simp [cutGo]
  | cons c s ih =>
    intro cur
    simp only [cutGo]
    split
    · simp
    · rw [ih (cur := cur ++ [c]), ih (cur := [] ++ [c])]
      cases cutGo a [] s with
      | nil => rfl
      | cons w ws => simp
theorem cutV_ne {a : UInt8} {s : Str} : cutV a s ≠ [] := by
  unfold cutV
  induction s with
  | nil => simp [cutGo]
  | cons c s ih =>
    simp only [cutGo]
    split
    · simp
    · rw [cutGo_cons]
      cases h : cutGo a [] s with
      | nil => exact absurd h ih
      | cons w ws => simp
theorem index_miss_cut {a : UInt8} : ∀ {s : Str}, Lib.index s [a] = -1 → cutV a s = [s] := by
  intro s
  induction s with
  | nil => intro _; rfl
  | cons c s ih =>
    intro h
    unfold Lib.index at h
    by_cases hc : c = a
    · subst hc; simp [List.isPrefixOf] at h
    · have hp : ([a] : List UInt8).isPrefixOf (c :: s) = false := by simp [List.isPrefixOf, Ne.symm hc]
      rw [hp] at h
      by_cases hm : Lib.index s [a] = -1
      · have := ih hm
        unfold cutV at this ⊢
        simp only [cutGo]
        rw [if_neg hc, cutGo_cons, this]
        rfl
      · have hge := Lib.index_ge s [a]
        simp [hm] at h <;> omega
theorem index_hit_cut {a : UInt8} : ∀ {s : Str} {i : Nat}, Lib.index s [a] = i → cutV a s = s.take i :: cutV a (s.drop (i + 1)) := by
  intro s
  induction s with
  | nil => intro i h; simp [Lib.index] at h <;> omega
  | cons c s ih =>
    intro i h
    unfold Lib.index at h
    by_cases hc : c = a
    · subst hc
      simp [List.isPrefixOf] at h
      obtain rfl : i = 0 := by omega
      unfold cutV
      simp [cutGo]
    · have hp : ([a] : List UInt8).isPrefixOf (c :: s) = false := by simp [List.isPrefixOf, Ne.symm hc]
      rw [hp] at h
      by_cases hm : Lib.index s [a] = -1
      · simp [hm] at h <;> omega
      · have hge := Lib.index_ge s [a]
        simp [hm] at h
        obtain ⟨j, rfl⟩ : ∃ j, i = j + 1 := ⟨i - 1, by omega⟩
        have := ih (i := j) (by omega)
        unfold cutV at this ⊢
        simp only [cutGo]
        rw [if_neg hc, cutGo_cons, this]
        rfl
theorem splitK_cut {a : UInt8} : ∀ (k : Nat) (s : Str), Lib.count s [a] = k → Lib.splitK [a] 0 k s = cutV a s := by
  intro k
  induction k with
  | zero =>
    intro s h
    show [s] = _
    by_cases hm : Lib.index s [a] = -1
    · exact (index_miss_cut hm).symm
    · have hge := Lib.index_ge s [a]
      obtain ⟨i, hi⟩ : ∃ i : Nat, Lib.index s [a] = i := ⟨(Lib.index s [a]).toNat, by omega⟩
      have := Lib.count_hit (by simp) hi
      omega
  | succ k ih =>
    intro s h
    by_cases hm : Lib.index s [a] = -1
    · have := Lib.count_miss hm; omega
    · have hge := Lib.index_ge s [a]
      obtain ⟨i, hi⟩ : ∃ i : Nat, Lib.index s [a] = i := ⟨(Lib.index s [a]).toNat, by omega⟩
      have hc := Lib.count_hit (by simp) hi
      simp only [List.length_cons, List.length_nil, Nat.zero_add] at hc
      unfold Lib.splitK
      rw [if_neg (by simp [hm]), hi, index_hit_cut hi, ← ih (s.drop (i + 1)) (by omega)]
      simp
theorem split_cut {a : UInt8} {s : Str} : (Lib.splitB (mkS [a]) 0 (Lib.countB (mkS s) (mkS [a])) (mkS s)).map (·.data.toList) = cutV a s := by
  rw [Lib.splitB_data]
  exact splitK_cut _ s rfl
def atoN (s : Str) : Int := match Lib.atoiAll s with | .ok v => v | .range => Lib.atoiSat s | _ => 0
def atoE (s : Str) : Nat := match Lib.atoiAll s with | .ok _ => 0 | _ => 2
theorem decFrom_itoa : ∀ n : Int, 0 ≤ n → ∀ r, Lib.decFrom 0 (itoaV n ++ r) = Lib.decFrom n.toNat r := by
  refine itoa_ind ?_ ?_
  · intro n h h2 r
    have hd := dig_toNat h h2
    rw [itoaV_small h h2, List.singleton_append]
    simp only [Lib.decFrom, Lib.digitVal]
    rw [if_pos (by omega)]
    simp only
    congr 1
    omega
  · intro n h h2 ih r
    have hd := dig_toNat (k := n % 10) (by omega) (by omega)
    rw [itoaV_big h h2, List.append_assoc, ih, List.singleton_append]
    simp only [Lib.decFrom, Lib.digitVal]
    rw [if_pos (by omega)]
    simp only
    congr 1
    omega
theorem atoi_itoa {n : Int} (h : 0 ≤ n) (h2 : n < 1000000000000) : Lib.atoiAll (itoaV n) = .ok n := by
  have hl := itoaV_lenk 11 n h (by omega)
  rw [Lib.atoiAll_short _ (by omega)]
  have hd := decFrom_itoa n h []
  rw [List.append_nil] at hd
  have hdig := itoaV_dig n h
  cases hi : itoaV n with
  | nil => rw [hi] at hl; simp at hl
  | cons b r =>
    rw [hi] at hd hdig
    have hb := hdig b List.mem_cons_self
    have e1 : ¬ b = 45 := by rintro rfl; revert hb; decide
    have e2 : ¬ b = 43 := by rintro rfl; revert hb; decide
    simp only [Lib.atoi, beq_iff_eq]
    rw [if_neg e1, if_neg e2]
    unfold Lib.decNat
    simp only [List.isEmpty_cons, Bool.false_eq_true, if_false]
    rw [hd]
    simp only [Lib.decFrom, Option.map, Lib.NumEnd.ofOption]
    congr 1
    omega
theorem atoN_itoa {n : Int} (h : 0 ≤ n) (h2 : n < 1000000000000) : atoN (itoaV n) = n ∧ atoE (itoaV n) = 0 := by
  unfold atoN atoE
  rw [atoi_itoa h h2]
  exact ⟨rfl, rfl⟩
theorem cut_word {w r : Str} {a : UInt8} (h : ∀ c ∈ w, c ≠ a) : Lib.index (w ++ a :: r) [a] = (w.length : Int) := by
  induction w with
  | nil => unfold Lib.index; simp [List.isPrefixOf]
  | cons c w ih =>
    have hc : ¬ c = a := h c List.mem_cons_self
    have hp : ([a] : List UInt8).isPrefixOf (c :: (w ++ a :: r)) = false := by simp [List.isPrefixOf, Ne.symm hc]
    rw [List.cons_append]
    unfold Lib.index
    rw [hp, ih (fun x hx => h x (List.mem_cons_of_mem _ hx))]
    have : ((w.length : Int) == -1) = false := by rw [beq_eq_false_iff_ne]; omega
    simp [this]
theorem cut_at {w r : Str} {a : UInt8} (h : ∀ c ∈ w, c ≠ a) : Lib.cut (w ++ a :: r) [a] = (w, r, true) := by
  unfold Lib.cut
  rw [cut_word h, if_pos (by omega)]
  simp
/-! the reader -/
abbrev RdS := List Str × Nat
def wordsI (first : Str) (s : RdS) : List Str × RdS :=
  if s.1.length = 0 then ([], (s.1, 1))
  else ((cutV 32 (s.1.getD 0 [])).drop 1, (s.1.drop 1, if (cutV 32 (s.1.getD 0 [])).getD 0 [] = first then s.2 else 1))
def numI (w : Str) (s : RdS) : Int × RdS := (atoN w, (s.1, if atoE w = 0 then s.2 else 1))
def onlyI (ws : List Str) (s : RdS) : Str × RdS := if ws.length = 1 then (ws.getD 0 [], s) else ([], (s.1, 1))
def nextI (first : Str) (s : RdS) : Bool := if s.1.length = 0 then false else Lib.hasPrefix (s.1.getD 0 [] ++ [32]) (first ++ [32])
def plcsI : List Str → List Plc → RdS → List Plc × RdS
  | [], out, s => (out, s)
  | w :: ws, out, s => plcsI ws (out ++ [(atoN (Lib.cut w [46]).1, atoN (Lib.cut w [46]).2.1)]) (numI (Lib.cut w [46]).2.1 (numI (Lib.cut w [46]).1 s).2).2
def ptrI (s : RdS) : Ptr_ × RdS :=
  if nextI nN s = true then ((0, 0, []), (wordsI nN s).2)
  else
    let ws := (wordsI tPtr s).1
    let s1 := (wordsI tPtr s).2
    if ws.length < 2 then ((0, 0, []), (s1.1, 1))
    else
      let s3 := (numI (ws.getD 1 []) (numI (ws.getD 0 []) s1).2).2
      let q := plcsI (ws.drop 2) [] s3
      ((atoN (ws.getD 0 []), atoN (ws.getD 1 []), q.1), q.2)
def blksI : Nat → List Ptr_ → RdS → List Ptr_ × RdS
  | 0, out, s => (out, s)
  | n + 1, out, s => blksI n (out ++ [(ptrI s).1]) (ptrI s).2
def volsI : Nat → List Vol_ → RdS → List Vol_ × RdS
  | 0, out, s => (out, s)
  | n + 1, out, s =>
    if s.2 = 0 ∧ nextI nV s = true then
      let w := wordsI nV s
      let o := onlyI w.1 w.2
      let q := blksI 3 [] o.2
      volsI n (out ++ [(o.1, q.1)]) q.2
    else (out, s)
def rootI (s : RdS) : Root_ × RdS :=
  let w := wordsI nR s
  let o := onlyI w.1 w.2
  let n := numI o.1 o.2
  let q := volsI s.1.length [] n.2
  ((n.1, q.1), q.2)
def readI (d : Int) (t : Str) : Root_ × Bool :=
  if 700 < t.length ∨ t = [] then ((0, []), false)
  else
    let q := rootI (cutV 10 t, 0)
    if q.2.2 = 1 ∨ rootT d q.1 ≠ t then ((0, []), false) else (q.1, true)
def readS (d : Int) (t : Str) : Root_ × Bool :=
  if 700 < t.length then ((0, []), false)
  else if rootT d (parseV t) ≠ t ∨ t = [] then ((0, []), false) else (parseV t, true)
end Go.Sx

/- The program's reader of roots: bounds. -/
namespace Go.Sx
open Go
structure RdOk (s : RdS) : Prop where
  ln : ∀ l ∈ s.1, l.length ≤ 700
  num : s.1.length ≤ 701
  er : s.2 ≤ 1
theorem words_ok {f : Str} {s : RdS} (h : RdOk s) : RdOk (wordsI f s).2 ∧ (wordsI f s).2.1.length ≤ s.1.length ∧ (0 < s.1.length → (wordsI f s).2.1.length < s.1.length) := by
  obtain ⟨h1, h2, h3⟩ := h
  unfold wordsI
  split
  · exact ⟨⟨h1, h2, Nat.le_refl _⟩, Nat.le_refl _, fun h => by omega⟩
  · refine ⟨⟨fun l hl => h1 l (List.mem_of_mem_drop hl), by simp only [List.length_drop]; omega, ?_⟩, by simp only [List.length_drop]; omega, fun _ => by simp only [List.length_drop]; omega⟩
    simp only
    split <;> omega
theorem cutGo_len' {a : UInt8} : ∀ {s cur : Str}, ∀ x ∈ cutGo a cur s, x.length ≤ cur.length + s.length := by
  intro s
  induction s with
  | nil => intro cur x hx; rw [List.mem_singleton.1 hx]; exact Nat.le_add_right _ _
  | cons c s ih =>
    intro cur x hx
    simp only [cutGo] at hx
    split at hx
    · rcases List.mem_cons.1 hx with rfl | hx
      · exact Nat.le_add_right _ _
      · have := ih x hx
        simp only [List.length_nil, List.length_cons] at this ⊢
        omega
    · have := ih x hx
      simp only [List.length_append, List.length_cons, List.length_nil] at this ⊢
      omega
theorem words_len {f : Str} {s : RdS} (h : RdOk s) : (∀ w ∈ (wordsI f s).1, w.length ≤ 700) ∧ (wordsI f s).1.length ≤ 701 := by
  unfold wordsI
  split
  · simp
  · rename_i hne
    have hlt : 0 < s.1.length := by omega
    have h0 : (s.1.getD 0 []).length ≤ 700 := by
      rw [List.getD_eq_getElem?_getD, List.getElem?_eq_getElem hlt]
      exact h.1 _ (List.getElem_mem hlt)
    refine ⟨fun w hw => ?_, ?_⟩
    · have := cutGo_len' w (List.mem_of_mem_drop hw)
      simp only [List.length_nil] at this
      omega
    · have : ∀ (s cur : Str), (cutGo 32 cur s).length ≤ s.length + 1 := by
        intro s
        induction s with
        | nil => intro cur; simp [cutGo]
        | cons c s ih =>
          intro cur
          simp only [cutGo]
          split
          · have := ih []
            simp only [List.length_cons]
            omega
          · have := ih (cur ++ [c])
            simp only [List.length_cons]
            omega
      have h1 := this (s.1.getD 0 []) []
      simp only [List.length_drop]
      unfold cutV
      omega
theorem plcs_next {l : List Str} {i : Nat} {out : List Plc} {s : RdS} {v : List Plc × RdS} (hlt : i < l.length) (h : plcsI (l.drop i) out s = v) : plcsI (l.drop (i + 1)) (out ++ [(atoN (Lib.cut (l.getD i []) [46]).1, atoN (Lib.cut (l.getD i []) [46]).2.1)]) (numI (Lib.cut (l.getD i []) [46]).2.1 (numI (Lib.cut (l.getD i []) [46]).1 s).2).2 = v := by
  rw [List.drop_eq_getElem_cons hlt] at h
  rw [List.getD_eq_getElem?_getD, List.getElem?_eq_getElem hlt]
  exact h
theorem plcs_end {l : List Str} {out : List Plc} {s : RdS} {v : List Plc × RdS} (h : plcsI (l.drop l.length) out s = v) : (out, s) = v := by
  rw [List.drop_length] at h
  exact h
theorem num_ok {f : Str} {s : RdS} (h : RdOk s) : RdOk (numI f s).2 ∧ (numI f s).2.1 = s.1 := by
  obtain ⟨h1, h2, h3⟩ := h
  unfold numI
  refine ⟨⟨h1, h2, ?_⟩, rfl⟩
  simp only
  split <;> omega
theorem only_ok {ws : List Str} {s : RdS} (h : RdOk s) : RdOk (onlyI ws s).2 ∧ (onlyI ws s).2.1 = s.1 := by
  obtain ⟨h1, h2, h3⟩ := h
  unfold onlyI
  split
  · exact ⟨⟨h1, h2, h3⟩, rfl⟩
  · exact ⟨⟨h1, h2, Nat.le_refl _⟩, rfl⟩
theorem plcs_ok : ∀ {ws : List Str} {out : List Plc} {s : RdS}, RdOk s → RdOk (plcsI ws out s).2 ∧ (plcsI ws out s).2.1 = s.1 := by
  intro ws
  induction ws with
  | nil => intro out s h; exact ⟨h, rfl⟩
  | cons w ws ih =>
    intro out s h
    simp only [plcsI]
    obtain ⟨a1, a2⟩ := num_ok (f := (Lib.cut w [46]).1) h
    obtain ⟨b1, b2⟩ := num_ok (f := (Lib.cut w [46]).2.1) a1
    obtain ⟨c1, c2⟩ := ih (out := out ++ [(atoN (Lib.cut w [46]).1, atoN (Lib.cut w [46]).2.1)]) b1
    exact ⟨c1, c2.trans (b2.trans a2)⟩
theorem ptrI_ok {s : RdS} (h : RdOk s) : RdOk (ptrI s).2 ∧ (ptrI s).2.1.length ≤ s.1.length := by
  unfold ptrI
  split
  · exact ⟨(words_ok h).1, (words_ok h).2.1⟩
  · obtain ⟨a1, a2, _⟩ := words_ok (f := tPtr) h
    simp only
    split
    · exact ⟨⟨a1.1, a1.2, Nat.le_refl _⟩, a2⟩
    · obtain ⟨b1, b2⟩ := num_ok (f := (wordsI tPtr s).1.getD 0 []) a1
      obtain ⟨c1, c2⟩ := num_ok (f := (wordsI tPtr s).1.getD 1 []) b1
      obtain ⟨d1, d2⟩ := plcs_ok (ws := (wordsI tPtr s).1.drop 2) (out := []) c1
      refine ⟨d1, ?_⟩
      rw [d2, c2, b2]
      exact a2
theorem blksI_ok : ∀ (n : Nat) (out : List Ptr_) (s : RdS), RdOk s → RdOk (blksI n out s).2 ∧ (blksI n out s).2.1.length ≤ s.1.length := by
  intro n
  induction n with
  | zero => intro out s h; exact ⟨h, Nat.le_refl _⟩
  | succ n ih =>
    intro out s h
    simp only [blksI]
    obtain ⟨a1, a2⟩ := ptrI_ok h
    obtain ⟨b1, b2⟩ := ih (out ++ [(ptrI s).1]) _ a1
    exact ⟨b1, by omega⟩
theorem nextI_pos {f : Str} {s : RdS} (h : nextI f s = true) : 0 < s.1.length := by
  unfold nextI at h
  split at h
  · cases h
  · omega
theorem volsI_stop {n : Nat} {vs : List Vol_} {s : RdS} (h : ¬ (s.2 = 0 ∧ nextI nV s = true)) : volsI n vs s = (vs, s) := by
  cases n with
  | zero => rfl
  | succ n => simp only [volsI]; rw [if_neg h]
theorem cut_ok {t : Str} (h : t.length ≤ 700) : RdOk (cutV 10 t, 0) := by
  refine ⟨fun l hl => ?_, ?_, Nat.zero_le _⟩
  · have := cutGo_len' l hl
    simp only [List.length_nil] at this
    omega
  · have : ∀ (s cur : Str), (cutGo 10 cur s).length ≤ s.length + 1 := by
      intro s
      induction s with
      | nil => intro cur; simp [cutGo]
      | cons c s ih =>
        intro cur
        simp only [cutGo]
        split
        · have := ih []
          simp only [List.length_cons]
          omega
        · have := ih (cur ++ [c])
          simp only [List.length_cons]
          omega
    have h1 := this t []
    show (cutGo 10 [] t).length ≤ 701
    omega
theorem volsI_ok : ∀ (n : Nat) (out : List Vol_) (s : RdS), RdOk s → RdOk (volsI n out s).2 := by
  intro n
  induction n with
  | zero => intro out s h; exact h
  | succ n ih =>
    intro out s h
    simp only [volsI]
    split
    · exact ih _ _ (blksI_ok 3 [] _ (only_ok (words_ok h).1).1).1
    · exact h
theorem rootI_ok {s : RdS} (h : RdOk s) : RdOk (rootI s).2 := volsI_ok _ _ _ (num_ok (only_ok (words_ok h).1).1).1
theorem only_len {ws : List Str} {s : RdS} (h : ∀ w ∈ ws, w.length ≤ 700) : (onlyI ws s).1.length ≤ 700 := by
  unfold onlyI
  split
  · rename_i h1
    have hlt : 0 < ws.length := by omega
    show (ws.getD 0 []).length ≤ 700
    rw [List.getD_eq_getElem?_getD, List.getElem?_eq_getElem hlt]
    exact h _ (List.getElem_mem hlt)
  · exact Nat.zero_le _
end Go.Sx

/- The program's reader reads a root back from its text: plain. -/
namespace Go.Sx
open Go
def jw (ws : List Str) : Str := Lib.join ws [32]
theorem prefix_word : ∀ {f w y : Str}, (∀ c ∈ f, c ≠ 32) → (∀ c ∈ w, c ≠ 32) → (f ++ [32]).isPrefixOf (w ++ 32 :: y) = decide (f = w) := by
  intro f
  induction f with
  | nil =>
    intro w y _ hw
    cases w with
    | nil => simp [List.isPrefixOf]
    | cons c w =>
      have := hw c List.mem_cons_self
      simp [List.isPrefixOf, Ne.symm this]
  | cons a f ih =>
    intro w y hf hw
    have ha := hf a List.mem_cons_self
    cases w with
    | nil => simp [List.isPrefixOf, ha]
    | cons c w =>
      have := ih (w := w) (y := y) (fun x hx => hf x (List.mem_cons_of_mem _ hx)) (fun x hx => hw x (List.mem_cons_of_mem _ hx))
      simp only [List.cons_append, List.isPrefixOf, this]
      by_cases hac : a = c
      · subst hac; simp
      · simp [hac]
theorem jw_tail (w : Str) (ws : List Str) : ∃ y, jw (w :: ws) ++ [32] = w ++ 32 :: y := by
  unfold jw
  rw [Lib.join_cons]
  cases ws with
  | nil => exact ⟨[], by simp [Lib.joinTail]⟩
  | cons x ws => exact ⟨x ++ Lib.joinTail [32] ws ++ [32], by simp [Lib.joinTail]⟩
theorem nextI_jw {f w : Str} {ws rest : List Str} {e : Nat} (hf : Cl f) (hw : Cl w) : nextI f (jw (w :: ws) :: rest, e) = decide (f = w) := by
  unfold nextI
  rw [if_neg (by simp)]
  show Lib.hasPrefix (jw (w :: ws) ++ [32]) (f ++ [32]) = _
  obtain ⟨y, hy⟩ := jw_tail w ws
  rw [hy]
  exact prefix_word (fun c hc => (hf c hc).1) (fun c hc => (hw c hc).1)
theorem wordsI_jw {f : Str} {ws rest : List Str} {e : Nat} (h : LOk (f :: ws)) : wordsI f (jw (f :: ws) :: rest, e) = (ws, (rest, e)) := by
  unfold wordsI
  rw [if_neg (by simp)]
  have e1 : cutV 32 (List.getD (jw (f :: ws) :: rest, e).1 0 []) = f :: ws := cut_line h
  rw [e1]
  simp
theorem numI_itoa {n : Int} {s : RdS} (h : 0 ≤ n) (h2 : n < 1000000000000) : numI (itoaV n) s = (n, s) := by
  unfold numI
  obtain ⟨a, b⟩ := atoN_itoa h h2
  rw [a, b]
  rfl
theorem wordV_cut {a : Plc} (h0 : 0 ≤ a.1) : Lib.cut (wordV a) [46] = (itoaV a.1, itoaV a.2, true) := by
  have hn : ∀ c ∈ itoaV a.1, c ≠ 46 := by
    intro c hc
    have := itoaV_dig _ h0 c hc
    rintro rfl; revert this; decide
  unfold wordV
  rw [List.append_assoc, List.singleton_append]
  exact cut_at hn
theorem plcsI_words : ∀ {pl : List Plc} {out : List Plc} {s : RdS}, (∀ a ∈ pl, placeV 4 a = true) → plcsI (pl.map wordV) out s = (out ++ pl, s) := by
  intro pl
  induction pl with
  | nil => intro out s _; simp [plcsI]
  | cons a pl ih =>
    intro out s h
    have ha := h a List.mem_cons_self
    simp only [placeV, Bool.and_eq_true, decide_eq_true_eq] at ha
    simp only [List.map_cons, plcsI]
    rw [wordV_cut ha.1]
    simp only
    rw [numI_itoa ha.1 (by omega), numI_itoa ha.2.2.1 (by omega), (atoN_itoa ha.1 (by omega)).1, (atoN_itoa ha.2.2.1 (by omega)).1, ih (fun x hx => h x (List.mem_cons_of_mem _ hx)), List.append_assoc]
    rfl
theorem onlyI_one (w : Str) (s : RdS) : onlyI [w] s = (w, s) := by unfold onlyI; simp
theorem cl_nN : Cl nN := cl_lit (by decide)
theorem cl_nV : Cl nV := cl_lit (by decide)
theorem cl_nR : Cl nR := cl_lit (by decide)
theorem cl_nS : Cl nS := cl_lit (by decide)
theorem cl_tP : Cl tPtr := cl_lit (by decide)
theorem ptrI_jw {d : Int} {p : Ptr_} {rest : List Str} (h : ptrV d p = true) : ptrI (jw (pW p) :: rest, 0) = (p, (rest, 0)) := by
  have hl := lok_W h
  by_cases hn : noneV p = true
  · have e : pW p = [nN] := by unfold pW; rw [if_pos hn]
    rw [e] at hl ⊢
    unfold ptrI
    rw [nextI_jw cl_nN cl_nN, if_pos (by decide), wordsI_jw hl, none_eq hn]
  · obtain ⟨h1, h2, h3⟩ := ptrV_wide2 h hn
    have e : pW p = tPtr :: itoaV p.1 :: itoaV p.2.1 :: p.2.2.map wordV := by unfold pW; rw [if_neg hn]; rfl
    rw [e] at hl ⊢
    unfold ptrI
    rw [nextI_jw cl_nN cl_tP, if_neg (by decide), wordsI_jw hl]
    simp only
    rw [if_neg (by simp)]
    show ((atoN (itoaV p.1), atoN (itoaV p.2.1), (plcsI (p.2.2.map wordV) [] (numI (itoaV p.2.1) (numI (itoaV p.1) (rest, 0)).2).2).1), (plcsI (p.2.2.map wordV) [] (numI (itoaV p.2.1) (numI (itoaV p.1) (rest, 0)).2).2).2) = _
    rw [numI_itoa h1.1 (by omega), numI_itoa h2.1 (by omega), plcsI_words h3, (atoN_itoa h1.1 (by omega)).1, (atoN_itoa h2.1 (by omega)).1]
    rfl
theorem blksI_jw {d : Int} : ∀ {bl out : List Ptr_} {rest : List Str}, (∀ p ∈ bl, ptrV d p = true) → blksI bl.length out (bl.map (fun p => jw (pW p)) ++ rest, 0) = (out ++ bl, (rest, 0)) := by
  intro bl
  induction bl with
  | nil => intro out rest _; simp [blksI]
  | cons p bl ih =>
    intro out rest h
    simp only [List.map_cons, List.cons_append, List.length_cons, blksI]
    rw [ptrI_jw (h p List.mem_cons_self)]
    simp only
    rw [ih (fun q hq => h q (List.mem_cons_of_mem _ hq)), List.append_assoc]
    rfl
theorem volsI_jw {d : Int} : ∀ {vs out : List Vol_} {rest : List Str} {n : Nat}, (∀ v ∈ vs, nameV v.1 = true ∧ v.2.length = 3 ∧ ∀ p ∈ v.2, ptrV d p = true) → nextI nV (rest, 0) = false → vs.length ≤ n → volsI n out ((vs.flatMap vW).map jw ++ rest, 0) = (out ++ vs, (rest, 0)) := by
  intro vs
  induction vs with
  | nil =>
    intro out rest n _ hr _
    rw [volsI_stop (by rintro ⟨_, h⟩; rw [show ((([] : List Vol_).flatMap vW).map jw ++ rest, 0) = (rest, 0) from rfl, hr] at h; cases h)]
    simp
  | cons v vs ih =>
    intro out rest n h hr hn
    obtain ⟨m, rfl⟩ : ∃ m, n = m + 1 := ⟨n - 1, by simp only [List.length_cons] at hn; omega⟩
    obtain ⟨a, b, c⟩ := h v List.mem_cons_self
    have hcl : Cl v.1 := by
      simp only [nameV, Bool.and_eq_true] at a
      exact cl_name a.2
    have e : ((v :: vs).flatMap vW).map jw ++ rest = jw (nV :: [v.1]) :: (v.2.map (fun p => jw (pW p)) ++ ((vs.flatMap vW).map jw ++ rest)) := by
      simp [List.flatMap_cons, vW, Function.comp_def]
    rw [e]
    simp only [volsI]
    rw [nextI_jw cl_nV cl_nV, if_pos ⟨trivial, by decide⟩, wordsI_jw (lok_two cl_nV hcl)]
    have eo : onlyI [v.1] (v.2.map (fun p => jw (pW p)) ++ ((vs.flatMap vW).map jw ++ rest), 0) = (v.1, (v.2.map (fun p => jw (pW p)) ++ ((vs.flatMap vW).map jw ++ rest), 0)) := by
      exact onlyI_one _ _
    simp only
    rw [eo]
    simp only
    have hb := blksI_jw (d := d) (bl := v.2) (out := []) (rest := (vs.flatMap vW).map jw ++ rest) c
    rw [b] at hb
    rw [hb]
    simp only [List.nil_append]
    rw [ih (fun w hw => h w (List.mem_cons_of_mem _ hw)) hr (by simp only [List.length_cons] at hn; omega), List.append_assoc]
    rfl
theorem cut_seal {d : Int} {r : Root_} (h : rootV d r = true) : cutV 10 (sealV (bodyV r)) = (rW r ++ [[nS, itoaV (weighV (bodyV r))]]).map jw ++ [[]] := by
  have hl := lok_root h
  have e : catGo lineW (rW r ++ [[nS, itoaV (weighV (bodyV r))]]) = catGo (fun l => l ++ [10]) ((rW r ++ [[nS, itoaV (weighV (bodyV r))]]).map jw) := by rw [cat_map]; rfl
  rw [seal_W, e]
  exact cut_lines fun l hl2 => by obtain ⟨ws, hws, rfl⟩ := List.mem_map.1 hl2; exact join_no10 (hl ws hws)
theorem rootI_seal {d : Int} {r : Root_} (h : rootV d r = true) : (rootI (cutV 10 (sealV (bodyV r)), 0)).1 = r ∧ (rootI (cutV 10 (sealV (bodyV r)), 0)).2.2 = 0 := by
  obtain ⟨h1, h2, h3⟩ := root_parts h
  have hw := weighGo_nn (bodyV r) 0
  have e : cutV 10 (sealV (bodyV r)) = jw (nR :: [itoaV r.1]) :: ((r.2.flatMap vW).map jw ++ [jw [nS, itoaV (weighV (bodyV r))], []]) := by
    rw [cut_seal h]
    unfold rW
    simp
  rw [e]
  have hv := volsI_jw (d := d) (vs := r.2) (out := []) (rest := [jw [nS, itoaV (weighV (bodyV r))], []]) (n := (jw (nR :: [itoaV r.1]) :: ((r.2.flatMap vW).map jw ++ [jw [nS, itoaV (weighV (bodyV r))], []])).length) h2
    (by rw [nextI_jw cl_nV cl_nS]; decide)
    (by
      have : r.2.length ≤ (r.2.flatMap vW).length := by
        generalize r.2 = l
        induction l with
        | nil => simp
        | cons v l ih => rw [List.flatMap_cons, List.length_append]; simp only [vW, List.length_cons]; omega
      simp only [List.length_cons, List.length_append, List.length_map]
      omega)
  have hr : rootI (jw (nR :: [itoaV r.1]) :: ((r.2.flatMap vW).map jw ++ [jw [nS, itoaV (weighV (bodyV r))], []]), 0) = ((r.1, r.2), ([jw [nS, itoaV (weighV (bodyV r))], []], 0)) := by
    unfold rootI
    simp only
    rw [wordsI_jw (lok_two cl_nR (cl_num h1.1))]
    have eo : ∀ s : RdS, onlyI [itoaV r.1] s = (itoaV r.1, s) := fun s => onlyI_one _ s
    simp only
    rw [eo]
    simp only
    rw [numI_itoa h1.1 (by omega), hv]
    rfl
  rw [hr]
  exact ⟨rfl, rfl⟩
/-! a root's text is short -/
theorem lineW_len : ∀ {ws : List Str}, ws ≠ [] → (lineW ws).length = (ws.map fun w => w.length + 1).sum := by
  intro ws
  cases ws with
  | nil => intro h; exact absurd rfl h
  | cons w ws =>
    intro _
    have ht : ∀ ws : List Str, (Lib.joinTail [32] ws).length = (ws.map fun w => w.length + 1).sum := by
      intro ws
      induction ws with
      | nil => rfl
      | cons x ws ih =>
        have e : Lib.joinTail [32] (x :: ws) = 32 :: (x ++ Lib.joinTail [32] ws) := by simp [Lib.joinTail]
        rw [e, List.length_cons, List.length_append, ih, List.map_cons, List.sum_cons]
        omega
    unfold lineW
    rw [Lib.join_cons, List.length_append, List.length_append, ht, List.map_cons, List.sum_cons]
    simp only [List.length_cons, List.length_nil]
    omega
theorem lineV_short {d : Int} {p : Ptr_} (h : ptrV d p = true) : (lineV p).length ≤ 37 := by
  rw [lineV_W]
  by_cases hn : noneV p = true
  · have e : pW p = [nN] := by unfold pW; rw [if_pos hn]
    rw [e]; decide
  · obtain ⟨h1, h2, h3⟩ := ptrV_wide2 h hn
    have e : pW p = tPtr :: itoaV p.1 :: itoaV p.2.1 :: p.2.2.map wordV := by unfold pW; rw [if_neg hn]; rfl
    have hl4 : p.2.2.length ≤ 4 := ptrV_len h
    rw [e, lineW_len (by simp)]
    have a1 := itoaV_lenk 0 p.1 h1.1 (by omega)
    have a2 := itoaV_lenk 9 p.2.1 h2.1 (by omega)
    have a3 : ∀ (l : List Plc), (∀ a ∈ l, placeV 4 a = true) → ((l.map wordV).map fun w => w.length + 1).sum ≤ 5 * l.length := by
      intro l
      induction l with
      | nil => intro _; exact Nat.le_refl _
      | cons a l ih =>
        intro hp
        have ha := hp a List.mem_cons_self
        simp only [placeV, Bool.and_eq_true, decide_eq_true_eq] at ha
        have b1 := itoaV_lenk 0 a.1 ha.1 (by omega)
        have b2 := itoaV_lenk 1 a.2 ha.2.2.1 (by omega)
        have := ih fun x hx => hp x (List.mem_cons_of_mem _ hx)
        simp only [List.map_cons, List.sum_cons, wordV, List.length_append, List.length_cons, List.length_nil] at this ⊢
        omega
    have a4 := a3 p.2.2 h3
    simp only [List.map_cons, List.sum_cons, tPtr, List.length_cons, List.length_nil] at a4 ⊢
    omega
theorem rootT_short {d : Int} {r : Root_} : (rootT d r).length ≤ 700 := by
  unfold rootT
  split
  · rename_i h
    obtain ⟨h1, h2, h3⟩ := root_parts h
    have a1 := itoaV_lenk 5 r.1 h1.1 (by omega)
    have a2 : (catGo volT r.2).length ≤ r.2.length * 119 := cat_len fun v hv => by
      obtain ⟨b1, b2, b3⟩ := h2 v hv
      have c1 : (catGo lineV v.2).length ≤ v.2.length * 37 := cat_len fun p hp => lineV_short (b3 p hp)
      simp only [nameV, inV, Bool.and_eq_true, decide_eq_true_eq] at b1
      unfold volT
      simp only [List.length_append, tVol, List.length_cons, List.length_nil]
      omega
    have a3 : (bodyV r).length ≤ 488 := by
      unfold bodyV
      simp only [List.length_append, tRoot, List.length_cons, List.length_nil]
      omega
    have a4 := weighV_bd (s := bodyV r) (by omega)
    have a5 := itoaV_lenk 11 (weighV (bodyV r)) a4.1 (by omega)
    unfold sealV
    simp only [List.length_append, tSum, List.length_cons, List.length_nil]
    omega
  · exact Nat.zero_le _
/-- what is written is read -/
theorem readI_root {d : Int} {r : Root_} (h : rootV d r = true) : readI d (rootT d r) = (r, true) := by
  have hs := rootT_short (d := d) (r := r)
  have hT : rootT d r = sealV (bodyV r) := if_pos h
  obtain ⟨e1, e2⟩ := rootI_seal h
  have hne : ¬ rootT d r = [] := by rw [rootT_nil]; exact fun h2 => h2 h
  unfold readI
  rw [if_neg (fun hh => hh.elim (fun h => by omega) hne)]
  simp only
  rw [hT, e1, e2, if_neg (by rw [hT]; simp)]
theorem readS_root {d : Int} {r : Root_} (h : rootV d r = true) : readS d (rootT d r) = (r, true) := by
  have hs := rootT_short (d := d) (r := r)
  have hne : ¬ rootT d r = [] := by rw [rootT_nil]; exact fun h2 => h2 h
  unfold readS
  rw [if_neg (by omega), parse_root h, if_neg (fun hh => hh.elim (fun h => h rfl) hne)]
/-- both read alike -/
theorem readI_S {d : Int} {t : Str} : readI d t = readS d t := by
  by_cases hx : ∃ r, rootV d r = true ∧ rootT d r = t
  · obtain ⟨r, h1, rfl⟩ := hx
    rw [readI_root h1, readS_root h1]
  · have hno : ∀ r, t ≠ [] → rootT d r ≠ t := by
      intro r hne e
      by_cases hr : rootV d r = true
      · exact hx ⟨r, hr, e⟩
      · have : rootT d r = [] := if_neg hr
        exact hne (by rw [← e, this])
    unfold readI readS
    by_cases h0 : t = []
    · rw [if_pos (.inr h0)]
      split
      · rfl
      · rw [if_pos (.inr h0)]
    · by_cases h7 : 700 < t.length
      · rw [if_pos (.inl h7), if_pos h7]
      · rw [if_neg (fun h => h.elim h7 h0), if_neg h7]
        simp only
        rw [if_pos (.inr (hno _ h0)), if_pos (.inl (hno _ h0))]
end Go.Sx

/- Marks of roots, plain. -/
namespace Go.Sx
open Go
def mPlc : Mk Plc := mkPair mkI mkI
def mPtr : Mk Ptr_ := mkPair mkI (mkPair mkI (mkList mPlc))
def mVol : Mk Vol_ := mkPair mkStr (mkList mPtr)
theorem mPlc_ok : MkOk mPlc := mkPair_ok mkI_ok mkI_ok
theorem mPtr_ok : MkOk mPtr := mkPair_ok mkI_ok (mkPair_ok mkI_ok (mkList_ok mPlc_ok))
theorem mVol_ok : MkOk mVol := mkPair_ok mkStr_ok (mkList_ok mPtr_ok)
theorem nx_plcs : ∀ {l : List Plc} {k : Int}, nxLs mPlc k l = k + 2 * (l.length : Int) := by
  intro l
  induction l with
  | nil => intro k; show k = k + 2 * (0 : Int); omega
  | cons x r ih =>
    intro k
    show nxLs mPlc (k + 1 + 1) r = _
    rw [ih, List.length_cons]
    omega
theorem nx_ptrs : ∀ {l : List Ptr_} {k : Int}, (∀ p ∈ l, p.2.2.length ≤ 4) → nxLs mPtr k l ≤ k + 10 * (l.length : Int) := by
  intro l
  induction l with
  | nil => intro k _; show k ≤ k + 10 * (0 : Int); omega
  | cons x r ih =>
    intro k h
    have h1 := h x List.mem_cons_self
    have h2 := ih (k := nxLs mPlc (k + 1 + 1) x.2.2) fun p hp => h p (List.mem_cons_of_mem _ hp)
    show nxLs mPtr (nxLs mPlc (k + 1 + 1) x.2.2) r ≤ _
    rw [nx_plcs] at h2
    rw [nx_plcs, List.length_cons]
    omega
theorem nx_vols : ∀ {l : List Vol_} {k : Int}, (∀ v ∈ l, v.2.length ≤ 3 ∧ ∀ p ∈ v.2, p.2.2.length ≤ 4) → nxLs mVol k l ≤ k + 31 * (l.length : Int) := by
  intro l
  induction l with
  | nil => intro k _; show k ≤ k + 31 * (0 : Int); omega
  | cons x r ih =>
    intro k h
    have h1 := h x List.mem_cons_self
    have h2 := ih (k := nxLs mPtr (k + 1) x.2) fun p hp => h p (List.mem_cons_of_mem _ hp)
    have h3 := nx_ptrs (k := k + 1) h1.2
    show nxLs mVol (nxLs mPtr (k + 1) x.2) r ≤ _
    rw [List.length_cons]
    omega
def FitV (l : List Vol_) : Prop := l.length ≤ 5 ∧ ∀ v ∈ l, v.2.length ≤ 3 ∧ ∀ p ∈ v.2, p.2.2.length ≤ 4
theorem fitV_nil : FitV [] := ⟨Nat.zero_le _, fun v h => by cases h⟩
theorem fitV_nx {l : List Vol_} (h : FitV l) : 1 ≤ nxLs mVol 1 l ∧ nxLs mVol 1 l ≤ 1000 := by
  refine ⟨(mkList_ok mVol_ok).ge 1 l, ?_⟩
  have := nx_vols (k := 1) h.2
  have := h.1
  omega
theorem fitV_root {d : Int} {r : Root_} (h : rootV d r = true) : FitV r.2 := by
  obtain ⟨h1, h2, h3⟩ := root_parts h
  refine ⟨by omega, fun v hv => ?_⟩
  obtain ⟨b1, b2, b3⟩ := h2 v hv
  exact ⟨by omega, fun p hp => ptrV_len (b3 p hp)⟩
theorem readI_fit {d : Int} {t : Str} : FitV (readI d t).1.2 := by
  unfold readI
  split
  · exact fitV_nil
  · rename_i h0
    simp only
    split
    · exact fitV_nil
    · rename_i h1
      have hne : ¬ t = [] := fun e => h0 (.inr e)
      have he : rootT d (rootI (cutV 10 t, 0)).1 = t := Classical.not_not.1 fun e => h1 (.inr e)
      have hv : rootV d (rootI (cutV 10 t, 0)).1 = true := Classical.not_not.1 fun e => hne (by rw [← he]; exact if_neg e)
      exact fitV_root hv
end Go.Sx

/- The reference's reader: small facts. -/
namespace Go.Sx
open Go
theorem u8_at {c : UInt8} {a : Int} (h0 : 0 ≤ a) (h1 : a ≤ 255) : (c.toNat : Int) = a ↔ c = UInt8.ofNat a.toNat := by
  have hc := c.toNat_lt
  constructor
  · intro h
    apply UInt8.toNat_inj.1
    rw [UInt8.toNat_ofNat']
    omega
  · intro h
    rw [h, UInt8.toNat_ofNat']
    omega
theorem cutV_cnt {a : UInt8} {s : Str} : (cutV a s).length ≤ s.length + 1 := by
  have : ∀ (s cur : Str), (cutGo a cur s).length ≤ s.length + 1 := by
    intro s
    induction s with
    | nil => intro cur; simp [cutGo]
    | cons c s ih =>
      intro cur
      simp only [cutGo]
      split
      · have := ih []
        simp only [List.length_cons]
        omega
      · have := ih (cur ++ [c])
        simp only [List.length_cons]
        omega
  exact this s []
theorem dt_next {α : Type} {l : List α} {i j : Nat} (hj : j ≤ i) (h : i < l.length) : (l.take (i + 1)).drop j = (l.take i).drop j ++ [l[i]] := by
  rw [List.take_succ_eq_append_getElem h, List.drop_append_of_le_length (by rw [List.length_take]; omega)]
theorem last_lt {α : Type} {l : List α} (h : 0 < l.length) : l.length - 1 < l.length := by omega
theorem blk_snoc {l : List Vol_} {i : Nat} {s : Str} (h : ∀ v ∈ l, v.2.length ≤ i) : ∀ v ∈ l ++ [(s, [])], v.2.length ≤ i + 1 := by
  intro v hv
  rcases List.mem_append.1 hv with hv | hv
  · exact Nat.le_succ_of_le (h v hv)
  · rw [List.mem_singleton.1 hv]; exact Nat.zero_le _
theorem blk_set {l : List Vol_} {i k : Nat} {p : Ptr_} (h : ∀ v ∈ l, v.2.length ≤ i) (hk : k < l.length) : ∀ v ∈ l.set k ((l.getD k ([], [])).1, (l.getD k ([], [])).2 ++ [p]), v.2.length ≤ i + 1 := by
  intro v hv
  rcases List.mem_or_eq_of_mem_set hv with hv | rfl
  · exact Nat.le_succ_of_le (h v hv)
  · have := h _ (List.getElem_mem hk)
    simp [List.getElem?_eq_getElem hk]
    exact this
theorem len40 {n i : Nat} (h : n ≤ i) (hi : i ≤ 701) : (n + 1) * 40 ≤ 140737488355328 := by omega
end Go.Sx

namespace Go.Sx
open Go
set_option maxRecDepth 100000
set_option linter.unusedVariables false
set_option linter.unusedSimpArgs false
set_option maxHeartbeats 2000000

def cCutS : Ctr := ⟨31, [.val false .str pF, .val false (.int .u8) pF], fun x => List.length x.1 ≤ 1000000 ∧ 0 ≤ x.2.1 ∧ x.2.1 ≤ 255, fun x => (.v false [.own ⟨1, 0, 0⟩], [(⟨1, 0, 0⟩, .sl .str pF (cutV (UInt8.ofNat x.2.1.toNat) x.1))])⟩
theorem cCutS_ok : CtrOk Proofs.Tryz.prog cCutS := by
  have hP := (Prg.none ttok mtok)
  refine ctr_of_body hP cCutS (fn := Proofs.Tryz.f31) (rts := [.tmp 4]) Proofs.Tryz.func31 rfl (by kernel_rfl) rfl rfl ?_
  rintro ⟨(s : Str), (a : Int), ⟨⟩⟩ _ ⟨hs, ha0, ha1⟩
  try dsimp only [Ty.den, Mode.den, mdens] at hs
  try dsimp only [Ty.den, Mode.den, mdens] at ha0
  try dsimp only [Ty.den, Mode.den, mdens] at ha1
  refine ⟨rfl, ?_⟩
  replace hs : s.length ≤ 1000000 := hs
  replace ha0 : 0 ≤ a := ha0
  replace ha1 : a ≤ 255 := ha1
  refine sw_seq ?_
  refine sw_region hP 1 [] rfl (by kernel_rfl) (fun _ => by kernel_rfl) (by first | trivial | (simp [conj]; done) | (simp [conj] at *; (try dsimp only [Ty.den, Ty.dflt] at *); omega)) ?_
  refine sw_seq ?_
  refine sw_region hP 2 [] rfl (by kernel_rfl) (fun _ => by kernel_rfl) (by first | trivial | (simp [conj]; done) | (simp [conj] at *; (try dsimp only [Ty.den, Ty.dflt] at *); omega)) ?_
  refine sw_seq ?_
  refine sw_seq ?_
  refine sw_region hP 3 [] rfl (by kernel_rfl) (fun _ => by kernel_rfl) (by first | trivial | (simp [conj]; done) | (simp [conj] at *; (try dsimp only [Ty.den, Ty.dflt] at *); omega)) ?_
  refine sw_block ?_
  refine sw_loop (ι := Nat × List Str × Str) (fun ⟨i, w, cur⟩ => ⟨[sStr s, sInt .u8 a, .junk, .junk, .junk, .v false [.own ⟨0, 9, 0⟩], sInt .i64 (i : Int), .junk, .junk, .junk, .junk, .junk, .junk, .junk, .junk, .junk, .junk, .junk, .junk, .junk, .junk, .junk, .junk, .junk, .junk, .junk, .junk, .junk, .junk, .junk, .junk, .junk, .junk, .junk, .junk, .junk, .junk, .junk, .junk, .junk], [(⟨0, 9, 0⟩, .sl .str pF (w ++ [cur]))], 3, []⟩) (fun ⟨i, w, cur⟩ => s.length - i) (fun ⟨i, w, cur⟩ => i ≤ s.length ∧ w.length ≤ i ∧ cur.length ≤ i ∧ w ++ cutGo (UInt8.ofNat a.toNat) cur (s.drop i) = cutV (UInt8.ofNat a.toNat) s) (0, [], []) ⟨?_, ?_⟩ ?_
  · skip
    exact ⟨Nat.zero_le _, Nat.le_refl _, Nat.le_refl _, rfl⟩
  · refine ent_ok rfl ?_
    simp [conj, bytesL]
  · rintro ⟨i, w, cur⟩ ⟨hi, hw, hc, hgo⟩
    refine sw_seq ?_
    refine sw_seq ?_
    refine sw_region hP 4 [] rfl (by kernel_rfl) (fun _ => by kernel_rfl) (by first | trivial | (simp [conj]; done) | (simp [conj] at *; (try dsimp only [Ty.den, Ty.dflt] at *); omega)) ?_
    refine sw_cond rfl (fun c3 => ?_) (fun c3 => ?_)
    · skip
      have hlt : i < s.length := by simpa using c3
      rw [List.drop_eq_getElem_cons hlt] at hgo
      simp only [cutGo] at hgo
      refine sw_skip ?_
      refine sw_seq ?_
      refine sw_block ?_
      refine sw_seq ?_
      refine sw_region hP 5 [] rfl (by kernel_rfl) (fun _ => by kernel_rfl) ?_ ?_
      · skip
        simp only [conj, List.nil_append, List.cons_append, List.append_nil, List.append_assoc, inR_i64, true_and, and_true, Int.toNat_natCast]
        try dsimp only [Ty.den, Ty.dflt]
        repeat' apply And.intro
        all_goals first | omega | trivial
      refine sw_cond rfl (fun c5 => ?_) (fun c5 => ?_)
      · skip
        replace c5 : s[i] = (UInt8.ofNat a.toNat) := by
          have h : decide (((List.getD s i 0).toNat : Int) = a) = true := c5
          have h2 := of_decide_eq_true h
          rw [List.getD_eq_getElem?_getD, List.getElem?_eq_getElem hlt] at h2
          exact (u8_at ha0 ha1).1 h2
        rw [if_pos c5] at hgo
        refine sw_region hP 6 [] rfl (by kernel_rfl) (fun _ => by kernel_rfl) ?_ ?_
        · skip
          simp [conj, maxL]
          omega
        refine sw_region hP 7 [] rfl (by kernel_rfl) (fun _ => by kernel_rfl) (by first | trivial | (simp [conj]; done) | (simp [conj] at *; (try dsimp only [Ty.den, Ty.dflt] at *); omega)) ?_
        refine ⟨(i + 1, w ++ [cur], []), ?_, ?_, ent_ok rfl ?_⟩
        · skip
          exact ⟨hlt, by simp; omega, Nat.zero_le _, by rw [← hgo, List.append_assoc]; rfl⟩
        · skip
          show s.length - (i + 1) < s.length - i
          omega
        · skip
          simp [conj, bytesL]
      · skip
        replace c5 : ¬ s[i] = (UInt8.ofNat a.toNat) := by
          have h : decide (((List.getD s i 0).toNat : Int) = a) = false := c5
          have h2 := of_decide_eq_false h
          rw [List.getD_eq_getElem?_getD, List.getElem?_eq_getElem hlt] at h2
          exact fun e => h2 ((u8_at ha0 ha1).2 e)
        rw [if_neg c5] at hgo
        refine sw_region hP 6 [] rfl (by kernel_rfl) (fun _ => by kernel_rfl) ?_ ?_
        · skip
          simp [conj, maxL, List.getElem?_eq_getElem hlt, ofBytes]
          repeat' apply And.intro
          all_goals first | omega | trivial | exact Int.lt_succ _
        refine sw_region hP 7 [] rfl (by kernel_rfl) (fun _ => by kernel_rfl) (by first | trivial | (simp [conj]; done) | (simp [conj] at *; (try dsimp only [Ty.den, Ty.dflt] at *); omega)) ?_
        refine ⟨(i + 1, w, cur ++ [s[i]]), ?_, ?_, ent_ok rfl ?_⟩
        · skip
          exact ⟨hlt, by omega, by simp; omega, hgo⟩
        · skip
          show s.length - (i + 1) < s.length - i
          omega
        · skip
          simp [conj, List.getElem?_eq_getElem hlt, ofBytes]
    · skip
      obtain rfl : i = s.length := by simp at c3; omega
      rw [List.drop_length] at hgo
      simp only [cutGo] at hgo
      refine sw_exit ?_
      refine sw_seq ?_
      refine sw_region hP 5 [] rfl (by kernel_rfl) (fun _ => by kernel_rfl) (by first | trivial | (simp [conj]; done) | (simp [conj] at *; (try dsimp only [Ty.den, Ty.dflt] at *); omega)) ?_
      refine sw_ret ⟨.inl rfl, _, rfl, ?_⟩
      simp [conj]
      exact hgo

def cNumS : Ctr := ⟨32, [.val false .str pF], fun x => True, fun x => (sInt .i64 (numV x.1), [])⟩
theorem cNumS_ok : CtrOk Proofs.Tryz.prog cNumS := by
  have hP := ((Prg.none ttok mtok).and cIn_ok)
  refine ctr_of_body hP cNumS (fn := Proofs.Tryz.f32) (rts := [.tmp 2]) Proofs.Tryz.func32 rfl (by kernel_rfl) rfl rfl ?_
  rintro ⟨(s : Str), ⟨⟩⟩ ⟨hds, _⟩ _
  try dsimp only [Ty.den, Mode.den, mdens] at _
  refine ⟨rfl, ?_⟩
  have hml : s.length ≤ 140737488355328 := hds
  refine sw_seq ?_
  refine sw_region hP 1 [] rfl (by kernel_rfl) (fun _ => by kernel_rfl) (by first | trivial | (simp [conj]; done) | (simp [conj] at *; (try dsimp only [Ty.den, Ty.dflt] at *); omega)) ?_
  refine sw_seq ?_
  refine sw_region hP 2 [] rfl (by kernel_rfl) (fun _ => by kernel_rfl) (by first | trivial | (simp [conj]; done) | (simp [conj] at *; (try dsimp only [Ty.den, Ty.dflt] at *); omega)) ?_
  refine sw_seq ?_
  refine sw_seq ?_
  refine sw_region hP 3 [] rfl (by kernel_rfl) (fun _ => by kernel_rfl) (by first | trivial | (simp [conj]; done) | (simp [conj] at *; (try dsimp only [Ty.den, Ty.dflt] at *); omega)) ?_
  refine sw_cond rfl (fun c2 => ?_) (fun c2 => ?_)
  · skip
    have hv : ¬ inV (s.length : Int) 1 12 = true := by have h : (!inV (s.length : Int) 1 12) = true := c2; simpa using h
    refine sw_seq ?_
    refine sw_region hP 4 [] rfl (by kernel_rfl) (fun _ => by kernel_rfl) (by first | trivial | (simp [conj]; done) | (simp [conj] at *; (try dsimp only [Ty.den, Ty.dflt] at *); omega)) ?_
    refine sw_ret ⟨.inl rfl, _, rfl, ?_⟩
    simp [conj]
    exact (if_neg hv).symm
  · skip
    have hv : inV (s.length : Int) 1 12 = true := by have h : (!inV (s.length : Int) 1 12) = false := c2; simpa using h
    have hl12 : s.length ≤ 12 := by simp [inV] at hv; omega
    refine sw_skip ?_
    refine sw_seq ?_
    refine sw_seq ?_
    refine sw_region hP 4 [] rfl (by kernel_rfl) (fun _ => by kernel_rfl) (by first | trivial | (simp [conj]; done) | (simp [conj] at *; (try dsimp only [Ty.den, Ty.dflt] at *); omega)) ?_
    refine sw_block ?_
    refine sw_loop (ι := Nat × Int) (fun ⟨i, n⟩ => ⟨[sStr s, .junk, .junk, sInt .i64 n, sInt .i64 (i : Int), .junk, .junk, .junk, .junk, .junk, .junk, .junk, .junk, .junk, .junk, .junk, .junk, .junk, .junk, .junk, .junk, .junk, .junk, .junk, .junk, .junk, .junk, .junk, .junk, .junk, .junk, .junk, .junk, .junk], [], 4, []⟩) (fun ⟨i, n⟩ => s.length - i) (fun ⟨i, n⟩ => i ≤ s.length ∧ 0 ≤ n ∧ n < ((10 ^ i : Nat) : Int) ∧ numGo (s.drop i) n = numGo s 0) (0, 0) ⟨?_, ?_⟩ ?_
    · skip
      exact ⟨Nat.zero_le _, by decide, by decide, rfl⟩
    · refine ent_ok rfl ?_
      simp [conj]
    · rintro ⟨i, n⟩ ⟨hi, hn0, hn1, hgo⟩
      refine sw_seq ?_
      refine sw_seq ?_
      refine sw_region hP 5 [] rfl (by kernel_rfl) (fun _ => by kernel_rfl) (by first | trivial | (simp [conj]; done) | (simp [conj] at *; (try dsimp only [Ty.den, Ty.dflt] at *); omega)) ?_
      refine sw_cond rfl (fun c5 => ?_) (fun c5 => ?_)
      · skip
        have hlt : i < s.length := by simpa using c5
        have hp12 : 10 ^ i ≤ 10 ^ 11 := Nat.pow_le_pow_right (by decide) (show i ≤ 11 by omega)
        have hps : 10 ^ (i + 1) = 10 ^ i * 10 := Nat.pow_succ 10 i
        have hu := s[i].toNat_lt
        rw [List.drop_eq_getElem_cons hlt] at hgo
        simp only [numGo] at hgo
        refine sw_skip ?_
        refine sw_seq ?_
        refine sw_block ?_
        refine sw_seq ?_
        refine sw_seq ?_
        refine sw_dec hP 6 [] 4 rfl (fun g7_4 => ?_) (fun g7_4 => ?_)
        · skip
          have hbad : s[i].toNat < 48 ∨ 57 < s[i].toNat := .inl (by have h := g7_4; simp [List.getElem?_eq_getElem hlt] at h; omega)
          refine sw_region hP 6 [(4, true)] rfl (by kernel_rfl) (fun _ => by kernel_rfl) ?_ ?_
          · skip
            simp [conj, List.getElem?_eq_getElem hlt]
            repeat' apply And.intro
            all_goals first | omega | trivial | (have h := g7_4; simp [List.getElem?_eq_getElem hlt] at h; omega)
          refine sw_condT rfl ?_
          refine sw_seq ?_
          refine sw_region hP 7 [] rfl (by kernel_rfl) (fun _ => by kernel_rfl) (by first | trivial | (simp [conj]; done) | (simp [conj] at *; (try dsimp only [Ty.den, Ty.dflt] at *); omega)) ?_
          refine sw_ret ⟨.inl rfl, _, rfl, ?_⟩
          simp [conj]
          have hz : numGo s 0 = -1 := by rw [← hgo, if_pos hbad]
          unfold numV
          rw [if_pos hv, hz]
        · skip
          have hg0 : ¬ s[i].toNat < 48 := by have h := g7_4; simp [List.getElem?_eq_getElem hlt] at h; omega
          refine sw_region hP 6 [(4, false)] rfl (by kernel_rfl) (fun _ => by kernel_rfl) ?_ ?_
          · skip
            simp [conj, List.getElem?_eq_getElem hlt]
            repeat' apply And.intro
            all_goals first | omega | trivial | (have h := g7_4; simp [List.getElem?_eq_getElem hlt] at h; omega)
          refine sw_cond rfl (fun c7 => ?_) (fun c7 => ?_)
          · skip
            have hbad : s[i].toNat < 48 ∨ 57 < s[i].toNat := .inr (by have h := c7; simp [List.getElem?_eq_getElem hlt] at h; omega)
            refine sw_seq ?_
            refine sw_region hP 7 [] rfl (by kernel_rfl) (fun _ => by kernel_rfl) (by first | trivial | (simp [conj]; done) | (simp [conj] at *; (try dsimp only [Ty.den, Ty.dflt] at *); omega)) ?_
            refine sw_ret ⟨.inl rfl, _, rfl, ?_⟩
            simp [conj]
            have hz : numGo s 0 = -1 := by rw [← hgo, if_pos hbad]
            unfold numV
            rw [if_pos hv, hz]
          · skip
            have hg1 : ¬ 57 < s[i].toNat := by have h := c7; simp [List.getElem?_eq_getElem hlt] at h; omega
            rw [if_neg (by omega)] at hgo
            refine sw_skip ?_
            refine sw_region hP 7 [] rfl (by kernel_rfl) (fun _ => by kernel_rfl) ?_ ?_
            · skip
              simp [conj, List.getElem?_eq_getElem hlt]
              repeat' apply And.intro
              all_goals first | omega | trivial
            refine sw_region hP 8 [] rfl (by kernel_rfl) (fun _ => by kernel_rfl) (by first | trivial | (simp [conj]; done) | (simp [conj] at *; (try dsimp only [Ty.den, Ty.dflt] at *); omega)) ?_
            refine ⟨(i + 1, 10 * n + ((s[i].toNat : Int) - 48)), ?_, ?_, ent_ok rfl ?_⟩
            · skip
              exact ⟨hlt, by show 0 ≤ 10 * n + ((s[i].toNat : Int) - 48); omega, by show 10 * n + ((s[i].toNat : Int) - 48) < ((10 ^ (i + 1) : Nat) : Int); rw [hps]; omega, hgo⟩
            · skip
              show s.length - (i + 1) < s.length - i
              omega
            · skip
              simp [conj, List.getElem?_eq_getElem hlt]
      · skip
        obtain rfl : i = s.length := by simp at c5; omega
        rw [List.drop_length] at hgo
        simp only [numGo] at hgo
        refine sw_exit ?_
        refine sw_seq ?_
        refine sw_region hP 6 [] rfl (by kernel_rfl) (fun _ => by kernel_rfl) (by first | trivial | (simp [conj]; done) | (simp [conj] at *; (try dsimp only [Ty.den, Ty.dflt] at *); omega)) ?_
        refine sw_ret ⟨.inl rfl, _, rfl, ?_⟩
        simp [conj]
        unfold numV
        rw [if_pos hv, ← hgo]
end Go.Sx

namespace Go.Sx
open Go
set_option maxRecDepth 100000
set_option linter.unusedVariables false
set_option linter.unusedSimpArgs false
set_option maxHeartbeats 2000000

def cPtrRd : Ctr := ⟨33, [.val false .str pF], fun x => List.length x.1 ≤ 1000000, fun x => (.v true [.d TI pF (ptrR (cutV 32 x.1)).1, .d TI pF (ptrR (cutV 32 x.1)).2.1, .own ⟨1, 0, 0⟩], [(⟨1, 0, 0⟩, .sl T_Place pF (ptrR (cutV 32 x.1)).2.2)])⟩
theorem cPtrRd_ok : CtrOk Proofs.Tryz.prog cPtrRd := by
  have hP := (((Prg.none ttok mtok).and cCutS_ok).and cNumS_ok)
  refine ctr_of_body hP cPtrRd (fn := Proofs.Tryz.f33) (rts := [.cell 2 57]) Proofs.Tryz.func33 rfl (by kernel_rfl) rfl rfl ?_
  rintro ⟨(s : Str), ⟨⟩⟩ _ hpre
  try dsimp only [Ty.den, Mode.den, mdens] at hpre
  refine ⟨rfl, ?_⟩
  replace hpre : s.length ≤ 1000000 := hpre
  obtain ⟨w, hw⟩ : ∃ w, (cutV 32 s) = w := ⟨_, rfl⟩
  have hw0 : 0 < w.length := hw ▸ List.length_pos_iff.2 cutV_ne
  have hwl : ∀ x ∈ w, x.length ≤ 1000000 := fun x hx => by
    have := cutGo_len' (a := 32) (s := s) (cur := []) x (by rw [← hw] at hx; exact hx)
    simp only [List.length_nil] at this
    omega
  have hwn : w.length ≤ 1000001 := by rw [← hw]; have := cutV_cnt (a := 32) (s := s); omega
  refine sw_seq ?_
  refine sw_region hP 1 [] rfl (by kernel_rfl) (fun _ => by kernel_rfl) (by first | trivial | (simp [conj]; done) | (simp [conj] at *; (try dsimp only [Ty.den, Ty.dflt] at *); omega)) ?_
  refine sw_seq ?_
  refine sw_region hP 2 [] rfl (by kernel_rfl) (fun _ => by kernel_rfl) ?_ ?_
  · skip
    simp only [conj, List.nil_append, List.cons_append, List.append_nil, List.append_assoc, inR_i64, true_and, and_true, Int.toNat_natCast]
    try dsimp only [Ty.den, Ty.dflt]
    repeat' apply And.intro
    all_goals first | omega | trivial | exact hpre | (show (0:Int) ≤ 32; decide) | (show (32:Int) ≤ 255; decide)
  refine sw_seq ?_
  refine sw_seq ?_
  refine sw_ent (st' := ⟨[.junk, .junk, .v false [.ptr ⟨1, 0, 0⟩ 0], .v false [.own ⟨2, 1, 0⟩], .junk, .junk, .junk, .junk, .junk, .junk, .junk, .junk, .junk, .junk, .junk, .junk, .junk, .junk, .junk, .junk, .junk, .junk, .junk, .junk, .junk, .junk, .junk, .junk, .junk, .junk, .junk, .junk, .junk, .junk, .junk, .junk, .junk, .junk, .junk, .junk, .junk, .junk, .junk, .junk, .junk, .junk, .junk, .junk, .junk, .junk, .junk, .junk, .junk, .junk, .junk, .junk, .junk, .junk, .junk, .junk, .junk, .junk], [(⟨1, 0, 0⟩, .var [.d TI pF 0, .d TI pF 0, .d (.sl T_Place) pF []]), (⟨2, 1, 0⟩, .sl .str pF w)], 2, []⟩) (ent_ok rfl ?_) ?_
  · skip
    simp [conj]
    exact hw
  refine sw_dec hP 3 [] 4 rfl (fun g2_4 => ?_) (fun g2_4 => ?_)
  · skip
    have hbad : w.getD 0 [] ≠ tPtr ∨ w.length < 3 := .inl (by have h := g2_4; simp [List.getElem?_eq_getElem hw0, bytesL] at h; rw [List.getD_eq_getElem?_getD, List.getElem?_eq_getElem hw0]; exact h)
    refine sw_region hP 3 [(4, true)] rfl (by kernel_rfl) (fun _ => by kernel_rfl) ?_ ?_
    · skip
      simp [conj, List.getElem?_eq_getElem hw0]
      repeat' apply And.intro
      all_goals first | omega | trivial | (have h := g2_4; simp [List.getElem?_eq_getElem hw0] at h; exact h)
    refine sw_condT rfl ?_
    refine sw_seq ?_
    refine sw_region hP 4 [] rfl (by kernel_rfl) (fun _ => by kernel_rfl) (by first | trivial | (simp [conj]; done) | (simp [conj] at *; (try dsimp only [Ty.den, Ty.dflt] at *); omega)) ?_
    refine sw_ret ⟨.inl rfl, _, rfl, ?_⟩
    have hv : ptrR w = (0, 0, []) := if_pos hbad
    rw [hw, hv]
    simp [conj]
  · skip
    have hg : w.getD 0 [] = tPtr := by have h := g2_4; simp [List.getElem?_eq_getElem hw0, bytesL] at h; rw [List.getD_eq_getElem?_getD, List.getElem?_eq_getElem hw0]; exact h
    refine sw_region hP 3 [(4, false)] rfl (by kernel_rfl) (fun _ => by kernel_rfl) ?_ ?_
    · skip
      simp [conj, List.getElem?_eq_getElem hw0]
      repeat' apply And.intro
      all_goals first | omega | trivial | (have h := g2_4; simp [List.getElem?_eq_getElem hw0] at h; exact h)
    refine sw_cond rfl (fun c2 => ?_) (fun c2 => ?_)
    · skip
      have hbad : w.getD 0 [] ≠ tPtr ∨ w.length < 3 := .inr (by have h := c2; simp at h; omega)
      refine sw_seq ?_
      refine sw_region hP 4 [] rfl (by kernel_rfl) (fun _ => by kernel_rfl) (by first | trivial | (simp [conj]; done) | (simp [conj] at *; (try dsimp only [Ty.den, Ty.dflt] at *); omega)) ?_
      refine sw_ret ⟨.inl rfl, _, rfl, ?_⟩
      have hv : ptrR w = (0, 0, []) := if_pos hbad
      rw [hw, hv]
      simp [conj]
    · skip
      have h3 : ¬ w.length < 3 := by have h := c2; simp at h; omega
      have h1 : 1 < w.length := by omega
      have h2 : 2 < w.length := by omega
      have hv : ptrR w = (numV (w.getD 1 []), numV (w.getD 2 []), (w.drop 3).map plcR) := if_neg (fun h => h.elim (fun h => h hg) h3)
      refine sw_skip ?_
      refine sw_seq ?_
      refine sw_region hP 4 [] rfl (by kernel_rfl) (fun _ => by kernel_rfl) ?_ ?_
      · skip
        simp [conj, List.getElem?_eq_getElem h1, List.getElem?_eq_getElem h2]
        repeat' apply And.intro
        all_goals first | omega | trivial | exact Int.ofNat_lt.2 h1 | exact Int.ofNat_lt.2 h2
      refine sw_seq ?_
      refine sw_seq ?_
      refine sw_region hP 5 [] rfl (by kernel_rfl) (fun _ => by kernel_rfl) (by first | trivial | (simp [conj]; done) | (simp [conj] at *; (try dsimp only [Ty.den, Ty.dflt] at *); omega)) ?_
      refine sw_block ?_
      refine sw_loop (ι := Nat) (fun i => ⟨[.junk, .junk, .v false [.ptr ⟨1, 0, 0⟩ 0], .v false [.own ⟨2, 1, 0⟩], .v false [.ptr ⟨4, 10, 0⟩ 0], sInt .i64 (i : Int), .junk, .junk, .junk, .junk, .junk, .junk, .junk, .junk, .junk, .junk, .junk, .junk, .junk, .junk, .junk, .junk, .junk, .junk, .junk, .junk, .junk, .junk, .junk, .junk, .junk, .junk, .junk, .junk, .junk, .junk, .junk, .junk, .junk, .junk, .junk, .junk, .junk, .junk, .junk, .junk, .junk, .junk, .junk, .junk, .junk, .junk, .junk, .junk, .junk, .junk, .junk, .junk, .junk, .junk, .junk, .junk], [(⟨1, 0, 0⟩, .var [.d TI pF 0, .d TI pF 0, .d (.sl T_Place) pF []]), (⟨2, 1, 0⟩, .sl .str pF w), (⟨4, 10, 0⟩, .var [.d TI pF (numV (w.getD 1 [])), .d TI pF (numV (w.getD 2 [])), .own ⟨0, 9, 0⟩]), (⟨0, 9, 0⟩, .sl T_Place pF (((List.map plcR w).take i).drop 3))], 5, []⟩) (fun i => w.length - i) (fun i => 3 ≤ i ∧ i ≤ w.length) 3 ⟨?_, ?_⟩ ?_
      · skip
        exact ⟨Nat.le_refl _, by omega⟩
      · refine ent_ok rfl ?_
        simp [conj, List.getElem?_eq_getElem h1, List.getElem?_eq_getElem h2]
      · rintro i ⟨h3i, hi⟩
        refine sw_seq ?_
        refine sw_seq ?_
        refine sw_region hP 6 [] rfl (by kernel_rfl) (fun _ => by kernel_rfl) (by first | trivial | (simp [conj]; done) | (simp [conj] at *; (try dsimp only [Ty.den, Ty.dflt] at *); omega)) ?_
        refine sw_cond rfl (fun c6 => ?_) (fun c6 => ?_)
        · skip
          have hlt : i < w.length := by simpa using c6
          have hil := hwl _ (List.getElem_mem hlt)
          have hc0 : 0 < (cutV 46 (w[i])).length := List.length_pos_iff.2 cutV_ne
          have hnx : ((List.map plcR w).take (i + 1)).drop 3 = ((List.map plcR w).take i).drop 3 ++ [plcR w[i]] := by rw [dt_next h3i (by simpa using hlt)]; simp
          refine sw_skip ?_
          refine sw_seq ?_
          refine sw_block ?_
          refine sw_seq ?_
          refine sw_region hP 7 [] rfl (by kernel_rfl) (fun _ => by kernel_rfl) ?_ ?_
          · skip
            simp [conj, List.getElem?_eq_getElem hlt]
            repeat' apply And.intro
            all_goals first | omega | trivial | exact hil | (show w[i].length ≤ 1000000; exact hil) | (show (0:Int) ≤ 46; decide) | (show (46:Int) ≤ 255; decide)
          refine sw_seq ?_
          refine sw_region hP 8 [] rfl (by kernel_rfl) (fun _ => by kernel_rfl) ?_ ?_
          · skip
            simp [conj, List.getElem?_eq_getElem hlt, List.getElem?_eq_getElem hc0]
            repeat' apply And.intro
            all_goals first | omega | trivial
          refine sw_seq ?_
          refine sw_seq ?_
          refine sw_region hP 9 [] rfl (by kernel_rfl) (fun _ => by kernel_rfl) ?_ ?_
          · skip
            simp [conj, List.getElem?_eq_getElem hlt]
            repeat' apply And.intro
            all_goals first | omega | trivial
          refine sw_cond rfl (fun c10 => ?_) (fun c10 => ?_)
          · skip
            have hl2 : (cutV 46 (w[i])).length = 2 := by have h := c10; simp [List.getElem?_eq_getElem hlt] at h; omega
            have hc1 : 1 < (cutV 46 (w[i])).length := by omega
            have hpl : plcR (w[i]) = (numV (cutV 46 (w[i]))[0], numV (cutV 46 (w[i]))[1]) := by unfold plcR; rw [if_pos hl2, List.getD_eq_getElem?_getD, List.getD_eq_getElem?_getD, List.getElem?_eq_getElem hc0, List.getElem?_eq_getElem hc1]; rfl
            refine sw_region hP 10 [] rfl (by kernel_rfl) (fun _ => by kernel_rfl) ?_ ?_
            · skip
              simp [conj, List.getElem?_eq_getElem hlt, List.getElem?_eq_getElem hc1]
              repeat' apply And.intro
              all_goals first | omega | trivial | exact Int.ofNat_lt.2 hc1
            refine sw_region hP 11 [] rfl (by kernel_rfl) (fun _ => by kernel_rfl) ?_ ?_
            · skip
              simp [conj, maxL]
              omega
            refine sw_region hP 12 [] rfl (by kernel_rfl) (fun _ => by kernel_rfl) (by first | trivial | (simp [conj]; done) | (simp [conj] at *; (try dsimp only [Ty.den, Ty.dflt] at *); omega)) ?_
            refine ⟨i + 1, ?_, ?_, ent_ok rfl ?_⟩
            · skip
              exact ⟨by omega, hlt⟩
            · skip
              omega
            · skip
              simp [conj, List.getElem?_eq_getElem hlt, List.getElem?_eq_getElem hc0]
              repeat' apply And.intro
              all_goals first | rfl | (rw [hnx, hpl]; done) | (rw [hnx, hpl]; simp [List.getElem?_eq_getElem hc1]; done)
          · skip
            have hl2 : ¬ (cutV 46 (w[i])).length = 2 := by have h := c10; simp [List.getElem?_eq_getElem hlt] at h; omega
            have hpl : plcR (w[i]) = (numV (cutV 46 (w[i]))[0], -1) := by unfold plcR; rw [if_neg hl2, List.getD_eq_getElem?_getD, List.getElem?_eq_getElem hc0]; rfl
            refine sw_skip ?_
            refine sw_region hP 10 [] rfl (by kernel_rfl) (fun _ => by kernel_rfl) ?_ ?_
            · skip
              simp [conj, maxL]
              omega
            refine sw_region hP 11 [] rfl (by kernel_rfl) (fun _ => by kernel_rfl) (by first | trivial | (simp [conj]; done) | (simp [conj] at *; (try dsimp only [Ty.den, Ty.dflt] at *); omega)) ?_
            refine ⟨i + 1, ?_, ?_, ent_ok rfl ?_⟩
            · skip
              exact ⟨by omega, hlt⟩
            · skip
              omega
            · skip
              simp [conj, List.getElem?_eq_getElem hlt, List.getElem?_eq_getElem hc0]
              repeat' apply And.intro
              all_goals first | rfl | (rw [hnx, hpl]; done) | (rw [hnx, hpl]; simp [List.getElem?_eq_getElem hc1]; done)
        · skip
          obtain rfl : i = w.length := by simp at c6; omega
          refine sw_exit ?_
          refine sw_seq ?_
          refine sw_region hP 7 [] rfl (by kernel_rfl) (fun _ => by kernel_rfl) (by first | trivial | (simp [conj]; done) | (simp [conj] at *; (try dsimp only [Ty.den, Ty.dflt] at *); omega)) ?_
          refine sw_ret ⟨.inl rfl, _, rfl, ?_⟩
          rw [hw, hv]
          simp [conj]
          rw [List.take_of_length_le (by simp)]
end Go.Sx

namespace Go.Sx
open Go
set_option maxRecDepth 100000
set_option linter.unusedVariables false
set_option linter.unusedSimpArgs false
set_option maxHeartbeats 2000000

def cReadS : Ctr := ⟨13, [.val false TI pF, .val false .str pF], fun x => True, fun x => (.tup [(true, [.d TI pF (readS x.1 x.2.1).1.1, .own ⟨1, 0, 0⟩]), (false, [.d .bool pF (readS x.1 x.2.1).2])], [(⟨1, 0, 0⟩, .sl T_Vol (.all .w) (readS x.1 x.2.1).1.2)])⟩
theorem cReadS_ok : CtrOk Proofs.Tryz.prog cReadS := by
  have hP := (((((Prg.none ttok mtok).and cCutS_ok).and cNumS_ok).and cPtrRd_ok).and cRootTextS_ok)
  refine ctr_of_body hP cReadS (fn := Proofs.Tryz.f13) (rts := [.cell 4 25, .tmp 5]) Proofs.Tryz.func13 rfl (by kernel_rfl) rfl rfl ?_
  rintro ⟨(d : Int), (t : Str), ⟨⟩⟩ _ _
  try dsimp only [Ty.den, Mode.den, mdens] at _
  refine ⟨rfl, ?_⟩
  refine sw_seq ?_
  refine sw_region hP 1 [] rfl (by kernel_rfl) (fun _ => by kernel_rfl) (by first | trivial | (simp [conj]; done) | (simp [conj] at *; (try dsimp only [Ty.den, Ty.dflt] at *); omega)) ?_
  refine sw_seq ?_
  refine sw_region hP 2 [] rfl (by kernel_rfl) (fun _ => by kernel_rfl) (by first | trivial | (simp [conj]; done) | (simp [conj] at *; (try dsimp only [Ty.den, Ty.dflt] at *); omega)) ?_
  refine sw_seq ?_
  refine sw_seq ?_
  refine sw_region hP 3 [] rfl (by kernel_rfl) (fun _ => by kernel_rfl) (by first | trivial | (simp [conj]; done) | (simp [conj] at *; (try dsimp only [Ty.den, Ty.dflt] at *); omega)) ?_
  refine sw_cond rfl (fun c2 => ?_) (fun c2 => ?_)
  · skip
    have hlong : 700 < t.length := by have h := c2; simp at h; omega
    refine sw_seq ?_
    refine sw_region hP 4 [] rfl (by kernel_rfl) (fun _ => by kernel_rfl) (by first | trivial | (simp [conj]; done) | (simp [conj] at *; (try dsimp only [Ty.den, Ty.dflt] at *); omega)) ?_
    refine sw_ret ⟨.inl rfl, _, rfl, ?_⟩
    have hv2 : readS d t = ((0, []), false) := if_pos hlong
    simp [conj, hv2]
  · skip
    have hshort : ¬ 700 < t.length := by have h := c2; simp at h; omega
    refine sw_skip ?_
    refine sw_seq ?_
    refine sw_region hP 4 [] rfl (by kernel_rfl) (fun _ => by kernel_rfl) ?_ ?_
    · skip
      simp only [conj, List.nil_append, List.cons_append, List.append_nil, List.append_assoc, inR_i64, true_and, and_true, Int.toNat_natCast]
      try dsimp only [Ty.den, Ty.dflt]
      repeat' apply And.intro
      all_goals first | omega | trivial | (show t.length ≤ 1000000; omega) | (show (0:Int) ≤ 10; decide) | (show (10:Int) ≤ 255; decide)
    refine sw_seq ?_
    refine sw_seq ?_
    obtain ⟨ls, hls⟩ : ∃ ls, cutV 10 t = ls := ⟨_, rfl⟩
    have hln : ls.length ≤ 701 := by rw [← hls]; have := cutV_cnt (a := 10) (s := t); omega
    have hll : ∀ x ∈ ls, x.length ≤ 700 := fun x hx => by
      have := cutGo_len' (a := 10) (s := t) (cur := []) x (by rw [← hls] at hx; exact hx)
      simp only [List.length_nil] at this
      omega
    have hpar : parseV t = rdGo true (0, []) (ls.map (cutV 32)) := by unfold parseV; rw [hls]
    refine sw_ent (st' := ⟨[sInt .i64 d, sStr t, .junk, .junk, .v false [.ptr ⟨1, 0, 0⟩ 0], .junk, .v false [.ptr ⟨2, 2, 0⟩ 0], .v false [.own ⟨4, 1, 0⟩], .junk, .junk, .junk, .junk, .junk, .junk, .junk, .junk, .junk, .junk, .junk, .junk, .junk, .junk, .junk, .junk, .junk, .junk, .junk, .junk, .junk, .junk, .junk, .junk, .junk, .junk, .junk, .junk, .junk, .junk, .junk, .junk, .junk, .junk, .junk, .junk, .junk, .junk, .junk, .junk, .junk, .junk, .junk, .junk, .junk, .junk, .junk, .junk, .junk, .junk, .junk, .junk, .junk, .junk, .junk, .junk, .junk, .junk, .junk, .junk, .junk, .junk, .junk, .junk, .junk, .junk, .junk, .junk, .junk, .junk, .junk, .junk, .junk, .junk, .junk, .junk, .junk, .junk, .junk, .junk, .junk, .junk, .junk, .junk, .junk, .junk, .junk, .junk, .junk, .junk, .junk, .junk, .junk, .junk, .junk, .junk, .junk, .junk, .junk, .junk, .junk, .junk, .junk, .junk], [(⟨1, 0, 0⟩, .var [.d TI pF 0, .d (.sl T_Vol) pF []]), (⟨2, 2, 0⟩, .var [.d TI pF 0, .own ⟨2, 0, 0⟩]), (⟨2, 0, 0⟩, .sl T_Vol (.all .w) []), (⟨4, 1, 0⟩, .sl .str pF ls)], 4, []⟩) (ent_ok rfl ?_) ?_
    · skip
      simp [conj]
      exact hls
    refine sw_region hP 5 [] rfl (by kernel_rfl) (fun _ => by kernel_rfl) (by first | trivial | (simp [conj]; done) | (simp [conj] at *; (try dsimp only [Ty.den, Ty.dflt] at *); omega)) ?_
    refine sw_block ?_
    refine sw_loop (ι := Nat × Root_) (fun ⟨i, o⟩ => ⟨[sInt .i64 d, sStr t, .junk, .junk, .v false [.ptr ⟨1, 0, 0⟩ 0], .junk, .v false [.ptr ⟨2, 2, 0⟩ 0], .v false [.own ⟨4, 1, 0⟩], sInt .i64 (i : Int), .junk, .junk, .junk, .junk, .junk, .junk, .junk, .junk, .junk, .junk, .junk, .junk, .junk, .junk, .junk, .junk, .junk, .junk, .junk, .junk, .junk, .junk, .junk, .junk, .junk, .junk, .junk, .junk, .junk, .junk, .junk, .junk, .junk, .junk, .junk, .junk, .junk, .junk, .junk, .junk, .junk, .junk, .junk, .junk, .junk, .junk, .junk, .junk, .junk, .junk, .junk, .junk, .junk, .junk, .junk, .junk, .junk, .junk, .junk, .junk, .junk, .junk, .junk, .junk, .junk, .junk, .junk, .junk, .junk, .junk, .junk, .junk, .junk, .junk, .junk, .junk, .junk, .junk, .junk, .junk, .junk, .junk, .junk, .junk, .junk, .junk, .junk, .junk, .junk, .junk, .junk, .junk, .junk, .junk, .junk, .junk, .junk, .junk, .junk, .junk, .junk, .junk, .junk], [(⟨1, 0, 0⟩, .var [.d TI pF 0, .d (.sl T_Vol) pF []]), (⟨2, 2, 0⟩, .var [.d TI pF o.1, .own ⟨0, 9, 0⟩]), (⟨0, 9, 0⟩, .sl T_Vol (.all .w) o.2), (⟨4, 1, 0⟩, .sl .str pF ls)], 5, []⟩) (fun ⟨i, o⟩ => ls.length - i) (fun ⟨i, o⟩ => i ≤ ls.length ∧ o.2.length ≤ i ∧ (∀ v ∈ o.2, v.2.length ≤ i) ∧ rdGo (decide (i = 0)) o ((ls.drop i).map (cutV 32)) = parseV t) (0, (0, [])) ⟨?_, ?_⟩ ?_
    · skip
      exact ⟨Nat.zero_le _, Nat.le_refl _, (by intro v hv; cases hv), hpar.symm⟩
    · refine ent_ok rfl ?_
      simp [conj]
    · rintro ⟨i, o⟩ ⟨hi, hol, hob, hgo⟩
      refine sw_seq ?_
      refine sw_seq ?_
      refine sw_region hP 6 [] rfl (by kernel_rfl) (fun _ => by kernel_rfl) (by first | trivial | (simp [conj]; done) | (simp [conj] at *; (try dsimp only [Ty.den, Ty.dflt] at *); omega)) ?_
      refine sw_cond rfl (fun c6 => ?_) (fun c6 => ?_)
      · skip
        have hlt : i < ls.length := by simpa using c6
        have hil := hll _ (List.getElem_mem hlt)
        obtain ⟨w, hw⟩ : ∃ w, cutV 32 ls[i] = w := ⟨_, rfl⟩
        have hw0 : 0 < w.length := hw ▸ List.length_pos_iff.2 cutV_ne
        have hstep : rdGo false (rdStep (decide (i = 0)) o w) ((ls.drop (i + 1)).map (cutV 32)) = parseV t := by rw [List.drop_eq_getElem_cons hlt, List.map_cons, hw] at hgo; exact hgo
        have hg0 : w.getD 0 [] = w[0] := by rw [List.getD_eq_getElem?_getD, List.getElem?_eq_getElem hw0]; rfl
        refine sw_skip ?_
        refine sw_seq ?_
        refine sw_block ?_
        refine sw_seq ?_
        refine sw_region hP 7 [] rfl (by kernel_rfl) (fun _ => by kernel_rfl) ?_ ?_
        · skip
          simp [conj, List.getElem?_eq_getElem hlt]
          repeat' apply And.intro
          all_goals first | omega | trivial | (show ls[i].length ≤ 1000000; omega) | (show (0:Int) ≤ 32; decide) | (show (32:Int) ≤ 255; decide)
        refine sw_seq ?_
        refine sw_ent (st' := ⟨[sInt .i64 d, sStr t, .junk, .junk, .v false [.ptr ⟨1, 0, 0⟩ 0], .junk, .v false [.ptr ⟨2, 2, 0⟩ 0], .v false [.own ⟨4, 1, 0⟩], sInt .i64 (i : Int), .v false [.own ⟨7, 4, 0⟩], .junk, .junk, .junk, .junk, .junk, .junk, .junk, .junk, .junk, .junk, .junk, .junk, .junk, .junk, .junk, .junk, .junk, .junk, .junk, .junk, .junk, .junk, .junk, .junk, .junk, .junk, .junk, .junk, .junk, .junk, .junk, .junk, .junk, .junk, .junk, .junk, .junk, .junk, .junk, .junk, .junk, .junk, .junk, .junk, .junk, .junk, .junk, .junk, .junk, .junk, .junk, .junk, .junk, .junk, .junk, .junk, .junk, .junk, .junk, .junk, .junk, .junk, .junk, .junk, .junk, .junk, .junk, .junk, .junk, .junk, .junk, .junk, .junk, .junk, .junk, .junk, .junk, .junk, .junk, .junk, .junk, .junk, .junk, .junk, .junk, .junk, .junk, .junk, .junk, .junk, .junk, .junk, .junk, .junk, .junk, .junk, .junk, .junk, .junk, .junk, .junk, .junk], [(⟨1, 0, 0⟩, .var [.d TI pF 0, .d (.sl T_Vol) pF []]), (⟨2, 2, 0⟩, .var [.d TI pF o.1, .own ⟨0, 9, 0⟩]), (⟨0, 9, 0⟩, .sl T_Vol (.all .w) o.2), (⟨4, 1, 0⟩, .sl .str pF ls), (⟨7, 4, 0⟩, .sl .str pF w)], 7, []⟩) (ent_ok rfl ?_) ?_
        · skip
          simp [conj, List.getElem?_eq_getElem hlt]
          exact hw
        refine sw_region hP 8 [] rfl (by kernel_rfl) (fun _ => by kernel_rfl) (by first | trivial | (simp [conj]; done) | (simp [conj] at *; (try dsimp only [Ty.den, Ty.dflt] at *); omega)) ?_
        refine sw_block ?_
        refine sw_seq ?_
        refine sw_dec hP 9 [] 2 rfl (fun g10_2 => ?_) (fun g10_2 => ?_)
        · skip
          have hi0 : i = 0 := by have h := g10_2; simp at h; omega
          refine sw_region hP 9 [(2, true)] rfl (by kernel_rfl) (fun _ => by kernel_rfl) (by first | trivial | (simp [conj]; done) | (simp [conj] at *; (try dsimp only [Ty.den, Ty.dflt] at *); omega)) ?_
          refine sw_cond rfl (fun c10 => ?_) (fun c10 => ?_)
          · skip
            have hw2 : w.length = 2 := by have h := c10; simp at h; omega
            have h1 : 1 < w.length := by omega
            have he : rdStep (decide (i = 0)) o w = (numV (w.getD 1 []), o.2) := by
              unfold rdStep
              rw [if_pos ⟨decide_eq_true hi0, hw2⟩]
            rw [he] at hstep
            refine sw_region hP 10 [] rfl (by kernel_rfl) (fun _ => by kernel_rfl) ?_ ?_
            · skip
              simp [conj, List.getElem?_eq_getElem h1]
              repeat' apply And.intro
              all_goals first | omega | trivial | exact Int.ofNat_lt.2 h1
            refine sw_region hP 11 [] rfl (by kernel_rfl) (fun _ => by kernel_rfl) (by first | trivial | (simp [conj]; done) | (simp [conj] at *; (try dsimp only [Ty.den, Ty.dflt] at *); omega)) ?_
            refine ⟨(i + 1, (numV (w.getD 1 []), o.2)), ?_, ?_, ent_ok rfl ?_⟩
            · skip
              exact ⟨hlt, (by show o.2.length ≤ i + 1; omega), fun v hv => Nat.le_succ_of_le (hob v hv), hstep⟩
            · skip
              show ls.length - (i + 1) < ls.length - i
              omega
            · skip
              simp [conj, List.getElem?_eq_getElem h1]
          · skip
            have ha : ¬ (decide (i = 0) = true ∧ w.length = 2) := fun h => by have h2 := c10; simp at h2; omega
            refine sw_seq ?_
            refine sw_dec hP 10 [] 4 rfl (fun g12_4 => ?_) (fun g12_4 => ?_)
            · skip
              have hnv : w[0] = nV := by have h := g12_4; simp [List.getElem?_eq_getElem hw0, bytesL] at h; exact h
              refine sw_region hP 10 [(4, true)] rfl (by kernel_rfl) (fun _ => by kernel_rfl) ?_ ?_
              · skip
                simp [conj, List.getElem?_eq_getElem hw0]
                repeat' apply And.intro
                all_goals first | omega | trivial | (have h := g12_4; simp [List.getElem?_eq_getElem hw0] at h; exact h)
              refine sw_cond rfl (fun c12 => ?_) (fun c12 => ?_)
              · skip
                have hw2 : w.length = 2 := by have h := c12; simp at h; omega
                have h1 : 1 < w.length := by omega
                have he : rdStep (decide (i = 0)) o w = (o.1, o.2 ++ [(w.getD 1 [], [])]) := by
                  unfold rdStep
                  rw [if_neg ha, if_pos ⟨hg0.trans hnv, hw2⟩]
                rw [he] at hstep
                refine sw_region hP 11 [] rfl (by kernel_rfl) (fun _ => by kernel_rfl) ?_ ?_
                · skip
                  simp [conj, maxL, List.getElem?_eq_getElem h1]
                  repeat' apply And.intro
                  all_goals first | omega | trivial | exact Int.ofNat_lt.2 h1
                refine sw_region hP 12 [] rfl (by kernel_rfl) (fun _ => by kernel_rfl) (by first | trivial | (simp [conj]; done) | (simp [conj] at *; (try dsimp only [Ty.den, Ty.dflt] at *); omega)) ?_
                refine ⟨(i + 1, (o.1, o.2 ++ [(w.getD 1 [], [])])), ?_, ?_, ent_ok rfl ?_⟩
                · skip
                  exact ⟨hlt, (by simp; omega), blk_snoc hob, hstep⟩
                · skip
                  show ls.length - (i + 1) < ls.length - i
                  omega
                · skip
                  simp [conj, List.getElem?_eq_getElem h1]
              · skip
                have hb : ¬ (w.getD 0 [] = nV ∧ w.length = 2) := fun h => by have h2 := c12; simp at h2; omega
                refine sw_seq ?_
                refine sw_dec hP 11 [] 2 rfl (fun g14_2 => ?_) (fun g14_2 => ?_)
                · skip
                  have hpos : 0 < o.2.length := by have h := g14_2; simp at h; omega
                  refine sw_dec hP 11 [(2, true)] 7 rfl (fun g14_7 => ?_) (fun g14_7 => ?_)
                  · skip
                    have hpt : w[0] = tPtr := by have h := g14_7; simp [List.getElem?_eq_getElem hw0, bytesL] at h; exact h
                    have hk := last_lt hpos
                    have he : rdStep (decide (i = 0)) o w = (o.1, o.2.set (o.2.length - 1) ((o.2.getD (o.2.length - 1) ([], [])).1, (o.2.getD (o.2.length - 1) ([], [])).2 ++ [ptrR w])) := by
                      unfold rdStep
                      rw [if_neg ha, if_neg hb, if_pos ⟨hpos, .inl (hg0.trans hpt)⟩]
                    rw [he] at hstep
                    refine sw_region hP 11 [(2, true), (7, true)] rfl (by kernel_rfl) (fun _ => by kernel_rfl) ?_ ?_
                    · skip
                      simp [conj, List.getElem?_eq_getElem hw0]
                      repeat' apply And.intro
                      all_goals first | omega | trivial | (have h := g14_7; simp [List.getElem?_eq_getElem hw0] at h; exact h)
                    refine sw_condT rfl ?_
                    refine sw_region hP 12 [] rfl (by kernel_rfl) (fun _ => by kernel_rfl) ?_ ?_
                    · skip
                      simp [conj, maxL, List.getElem?_eq_getElem hlt, List.getElem?_eq_getElem hk]
                      repeat' apply And.intro
                      all_goals first | omega | trivial | (show ls[i].length ≤ 1000000; omega) | exact Int.sub_lt_self _ (by decide) | exact len40 (hob _ (List.getElem_mem hk)) (by omega)
                    refine sw_region hP 13 [] rfl (by kernel_rfl) (fun _ => by kernel_rfl) (by first | trivial | (simp [conj]; done) | (simp [conj] at *; (try dsimp only [Ty.den, Ty.dflt] at *); omega)) ?_
                    refine ⟨(i + 1, (o.1, o.2.set (o.2.length - 1) ((o.2.getD (o.2.length - 1) ([], [])).1, (o.2.getD (o.2.length - 1) ([], [])).2 ++ [ptrR w]))), ?_, ?_, ent_ok rfl ?_⟩
                    · skip
                      exact ⟨hlt, (by simp; omega), blk_set hob hk, hstep⟩
                    · skip
                      show ls.length - (i + 1) < ls.length - i
                      omega
                    · skip
                      simp [conj, List.getElem?_eq_getElem hlt, List.getElem?_eq_getElem hk, hw]
                  · skip
                    have hpt : ¬ w[0] = tPtr := by have h := g14_7; simp [List.getElem?_eq_getElem hw0, bytesL] at h; exact h
                    refine sw_region hP 11 [(2, true), (7, false)] rfl (by kernel_rfl) (fun _ => by kernel_rfl) ?_ ?_
                    · skip
                      simp [conj, List.getElem?_eq_getElem hw0]
                      repeat' apply And.intro
                      all_goals first | omega | trivial | (have h := g14_7; simp [List.getElem?_eq_getElem hw0] at h; exact h)
                    refine sw_cond rfl (fun c14 => ?_) (fun c14 => ?_)
                    · skip
                      have hpn : w[0] = nN := by have h := c14; simp [List.getElem?_eq_getElem hw0, bytesL] at h; exact h
                      have hk := last_lt hpos
                      have he : rdStep (decide (i = 0)) o w = (o.1, o.2.set (o.2.length - 1) ((o.2.getD (o.2.length - 1) ([], [])).1, (o.2.getD (o.2.length - 1) ([], [])).2 ++ [ptrR w])) := by
                        unfold rdStep
                        rw [if_neg ha, if_neg hb, if_pos ⟨hpos, .inr (hg0.trans hpn)⟩]
                      rw [he] at hstep
                      refine sw_region hP 12 [] rfl (by kernel_rfl) (fun _ => by kernel_rfl) ?_ ?_
                      · skip
                        simp [conj, maxL, List.getElem?_eq_getElem hlt, List.getElem?_eq_getElem hk]
                        repeat' apply And.intro
                        all_goals first | omega | trivial | (show ls[i].length ≤ 1000000; omega) | exact Int.sub_lt_self _ (by decide) | exact len40 (hob _ (List.getElem_mem hk)) (by omega)
                      refine sw_region hP 13 [] rfl (by kernel_rfl) (fun _ => by kernel_rfl) (by first | trivial | (simp [conj]; done) | (simp [conj] at *; (try dsimp only [Ty.den, Ty.dflt] at *); omega)) ?_
                      refine ⟨(i + 1, (o.1, o.2.set (o.2.length - 1) ((o.2.getD (o.2.length - 1) ([], [])).1, (o.2.getD (o.2.length - 1) ([], [])).2 ++ [ptrR w]))), ?_, ?_, ent_ok rfl ?_⟩
                      · skip
                        exact ⟨hlt, (by simp; omega), blk_set hob hk, hstep⟩
                      · skip
                        show ls.length - (i + 1) < ls.length - i
                        omega
                      · skip
                        simp [conj, List.getElem?_eq_getElem hlt, List.getElem?_eq_getElem hk, hw]
                    · skip
                      have hpn : ¬ w[0] = nN := by have h := c14; simp [List.getElem?_eq_getElem hw0, bytesL] at h; exact h
                      have he : rdStep (decide (i = 0)) o w = o := by
                        unfold rdStep
                        rw [if_neg ha, if_neg hb, if_neg (fun h => h.2.elim (fun h => hpt (hg0.symm.trans h)) (fun h => hpn (hg0.symm.trans h)))]
                      rw [he] at hstep
                      refine sw_skip ?_
                      refine sw_region hP 12 [] rfl (by kernel_rfl) (fun _ => by kernel_rfl) (by first | trivial | (simp [conj]; done) | (simp [conj] at *; (try dsimp only [Ty.den, Ty.dflt] at *); omega)) ?_
                      refine ⟨(i + 1, o), ?_, ?_, ent_ok rfl ?_⟩
                      · skip
                        exact ⟨hlt, (by omega), fun v hv => Nat.le_succ_of_le (hob v hv), hstep⟩
                      · skip
                        show ls.length - (i + 1) < ls.length - i
                        omega
                      · skip
                        simp [conj]
                · skip
                  have hpos : ¬ 0 < o.2.length := by have h := g14_2; simp at h; simp [h]
                  have he : rdStep (decide (i = 0)) o w = o := by
                    unfold rdStep
                    rw [if_neg ha, if_neg hb, if_neg (fun h => hpos h.1)]
                  rw [he] at hstep
                  refine sw_region hP 11 [(2, false)] rfl (by kernel_rfl) (fun _ => by kernel_rfl) (by first | trivial | (simp [conj]; done) | (simp [conj] at *; (try dsimp only [Ty.den, Ty.dflt] at *); omega)) ?_
                  refine sw_condF rfl ?_
                  refine sw_skip ?_
                  refine sw_region hP 12 [] rfl (by kernel_rfl) (fun _ => by kernel_rfl) (by first | trivial | (simp [conj]; done) | (simp [conj] at *; (try dsimp only [Ty.den, Ty.dflt] at *); omega)) ?_
                  refine ⟨(i + 1, o), ?_, ?_, ent_ok rfl ?_⟩
                  · skip
                    exact ⟨hlt, (by omega), fun v hv => Nat.le_succ_of_le (hob v hv), hstep⟩
                  · skip
                    show ls.length - (i + 1) < ls.length - i
                    omega
                  · skip
                    simp [conj]
            · skip
              have hnv : ¬ w[0] = nV := by have h := g12_4; simp [List.getElem?_eq_getElem hw0, bytesL] at h; exact h
              have hb : ¬ (w.getD 0 [] = nV ∧ w.length = 2) := fun h => hnv (by rw [← hg0]; exact h.1)
              refine sw_region hP 10 [(4, false)] rfl (by kernel_rfl) (fun _ => by kernel_rfl) ?_ ?_
              · skip
                simp [conj, List.getElem?_eq_getElem hw0]
                repeat' apply And.intro
                all_goals first | omega | trivial | (have h := g12_4; simp [List.getElem?_eq_getElem hw0] at h; exact h)
              refine sw_condF rfl ?_
              refine sw_seq ?_
              refine sw_dec hP 11 [] 2 rfl (fun g14_2 => ?_) (fun g14_2 => ?_)
              · skip
                have hpos : 0 < o.2.length := by have h := g14_2; simp at h; omega
                refine sw_dec hP 11 [(2, true)] 7 rfl (fun g14_7 => ?_) (fun g14_7 => ?_)
                · skip
                  have hpt : w[0] = tPtr := by have h := g14_7; simp [List.getElem?_eq_getElem hw0, bytesL] at h; exact h
                  have hk := last_lt hpos
                  have he : rdStep (decide (i = 0)) o w = (o.1, o.2.set (o.2.length - 1) ((o.2.getD (o.2.length - 1) ([], [])).1, (o.2.getD (o.2.length - 1) ([], [])).2 ++ [ptrR w])) := by
                    unfold rdStep
                    rw [if_neg ha, if_neg hb, if_pos ⟨hpos, .inl (hg0.trans hpt)⟩]
                  rw [he] at hstep
                  refine sw_region hP 11 [(2, true), (7, true)] rfl (by kernel_rfl) (fun _ => by kernel_rfl) ?_ ?_
                  · skip
                    simp [conj, List.getElem?_eq_getElem hw0]
                    repeat' apply And.intro
                    all_goals first | omega | trivial | (have h := g14_7; simp [List.getElem?_eq_getElem hw0] at h; exact h)
                  refine sw_condT rfl ?_
                  refine sw_region hP 12 [] rfl (by kernel_rfl) (fun _ => by kernel_rfl) ?_ ?_
                  · skip
                    simp [conj, maxL, List.getElem?_eq_getElem hlt, List.getElem?_eq_getElem hk]
                    repeat' apply And.intro
                    all_goals first | omega | trivial | (show ls[i].length ≤ 1000000; omega) | exact Int.sub_lt_self _ (by decide) | exact len40 (hob _ (List.getElem_mem hk)) (by omega)
                  refine sw_region hP 13 [] rfl (by kernel_rfl) (fun _ => by kernel_rfl) (by first | trivial | (simp [conj]; done) | (simp [conj] at *; (try dsimp only [Ty.den, Ty.dflt] at *); omega)) ?_
                  refine ⟨(i + 1, (o.1, o.2.set (o.2.length - 1) ((o.2.getD (o.2.length - 1) ([], [])).1, (o.2.getD (o.2.length - 1) ([], [])).2 ++ [ptrR w]))), ?_, ?_, ent_ok rfl ?_⟩
                  · skip
                    exact ⟨hlt, (by simp; omega), blk_set hob hk, hstep⟩
                  · skip
                    show ls.length - (i + 1) < ls.length - i
                    omega
                  · skip
                    simp [conj, List.getElem?_eq_getElem hlt, List.getElem?_eq_getElem hk, hw]
                · skip
                  have hpt : ¬ w[0] = tPtr := by have h := g14_7; simp [List.getElem?_eq_getElem hw0, bytesL] at h; exact h
                  refine sw_region hP 11 [(2, true), (7, false)] rfl (by kernel_rfl) (fun _ => by kernel_rfl) ?_ ?_
                  · skip
                    simp [conj, List.getElem?_eq_getElem hw0]
                    repeat' apply And.intro
                    all_goals first | omega | trivial | (have h := g14_7; simp [List.getElem?_eq_getElem hw0] at h; exact h)
                  refine sw_cond rfl (fun c14 => ?_) (fun c14 => ?_)
                  · skip
                    have hpn : w[0] = nN := by have h := c14; simp [List.getElem?_eq_getElem hw0, bytesL] at h; exact h
                    have hk := last_lt hpos
                    have he : rdStep (decide (i = 0)) o w = (o.1, o.2.set (o.2.length - 1) ((o.2.getD (o.2.length - 1) ([], [])).1, (o.2.getD (o.2.length - 1) ([], [])).2 ++ [ptrR w])) := by
                      unfold rdStep
                      rw [if_neg ha, if_neg hb, if_pos ⟨hpos, .inr (hg0.trans hpn)⟩]
                    rw [he] at hstep
                    refine sw_region hP 12 [] rfl (by kernel_rfl) (fun _ => by kernel_rfl) ?_ ?_
                    · skip
                      simp [conj, maxL, List.getElem?_eq_getElem hlt, List.getElem?_eq_getElem hk]
                      repeat' apply And.intro
                      all_goals first | omega | trivial | (show ls[i].length ≤ 1000000; omega) | exact Int.sub_lt_self _ (by decide) | exact len40 (hob _ (List.getElem_mem hk)) (by omega)
                    refine sw_region hP 13 [] rfl (by kernel_rfl) (fun _ => by kernel_rfl) (by first | trivial | (simp [conj]; done) | (simp [conj] at *; (try dsimp only [Ty.den, Ty.dflt] at *); omega)) ?_
                    refine ⟨(i + 1, (o.1, o.2.set (o.2.length - 1) ((o.2.getD (o.2.length - 1) ([], [])).1, (o.2.getD (o.2.length - 1) ([], [])).2 ++ [ptrR w]))), ?_, ?_, ent_ok rfl ?_⟩
                    · skip
                      exact ⟨hlt, (by simp; omega), blk_set hob hk, hstep⟩
                    · skip
                      show ls.length - (i + 1) < ls.length - i
                      omega
                    · skip
                      simp [conj, List.getElem?_eq_getElem hlt, List.getElem?_eq_getElem hk, hw]
                  · skip
                    have hpn : ¬ w[0] = nN := by have h := c14; simp [List.getElem?_eq_getElem hw0, bytesL] at h; exact h
                    have he : rdStep (decide (i = 0)) o w = o := by
                      unfold rdStep
                      rw [if_neg ha, if_neg hb, if_neg (fun h => h.2.elim (fun h => hpt (hg0.symm.trans h)) (fun h => hpn (hg0.symm.trans h)))]
                    rw [he] at hstep
                    refine sw_skip ?_
                    refine sw_region hP 12 [] rfl (by kernel_rfl) (fun _ => by kernel_rfl) (by first | trivial | (simp [conj]; done) | (simp [conj] at *; (try dsimp only [Ty.den, Ty.dflt] at *); omega)) ?_
                    refine ⟨(i + 1, o), ?_, ?_, ent_ok rfl ?_⟩
                    · skip
                      exact ⟨hlt, (by omega), fun v hv => Nat.le_succ_of_le (hob v hv), hstep⟩
                    · skip
                      show ls.length - (i + 1) < ls.length - i
                      omega
                    · skip
                      simp [conj]
              · skip
                have hpos : ¬ 0 < o.2.length := by have h := g14_2; simp at h; simp [h]
                have he : rdStep (decide (i = 0)) o w = o := by
                  unfold rdStep
                  rw [if_neg ha, if_neg hb, if_neg (fun h => hpos h.1)]
                rw [he] at hstep
                refine sw_region hP 11 [(2, false)] rfl (by kernel_rfl) (fun _ => by kernel_rfl) (by first | trivial | (simp [conj]; done) | (simp [conj] at *; (try dsimp only [Ty.den, Ty.dflt] at *); omega)) ?_
                refine sw_condF rfl ?_
                refine sw_skip ?_
                refine sw_region hP 12 [] rfl (by kernel_rfl) (fun _ => by kernel_rfl) (by first | trivial | (simp [conj]; done) | (simp [conj] at *; (try dsimp only [Ty.den, Ty.dflt] at *); omega)) ?_
                refine ⟨(i + 1, o), ?_, ?_, ent_ok rfl ?_⟩
                · skip
                  exact ⟨hlt, (by omega), fun v hv => Nat.le_succ_of_le (hob v hv), hstep⟩
                · skip
                  show ls.length - (i + 1) < ls.length - i
                  omega
                · skip
                  simp [conj]
        · skip
          have hi0 : ¬ i = 0 := by have h := g10_2; simp at h; omega
          have ha : ¬ (decide (i = 0) = true ∧ w.length = 2) := fun h => hi0 (of_decide_eq_true h.1)
          refine sw_region hP 9 [(2, false)] rfl (by kernel_rfl) (fun _ => by kernel_rfl) (by first | trivial | (simp [conj]; done) | (simp [conj] at *; (try dsimp only [Ty.den, Ty.dflt] at *); omega)) ?_
          refine sw_condF rfl ?_
          refine sw_seq ?_
          refine sw_dec hP 10 [] 4 rfl (fun g12_4 => ?_) (fun g12_4 => ?_)
          · skip
            have hnv : w[0] = nV := by have h := g12_4; simp [List.getElem?_eq_getElem hw0, bytesL] at h; exact h
            refine sw_region hP 10 [(4, true)] rfl (by kernel_rfl) (fun _ => by kernel_rfl) ?_ ?_
            · skip
              simp [conj, List.getElem?_eq_getElem hw0]
              repeat' apply And.intro
              all_goals first | omega | trivial | (have h := g12_4; simp [List.getElem?_eq_getElem hw0] at h; exact h)
            refine sw_cond rfl (fun c12 => ?_) (fun c12 => ?_)
            · skip
              have hw2 : w.length = 2 := by have h := c12; simp at h; omega
              have h1 : 1 < w.length := by omega
              have he : rdStep (decide (i = 0)) o w = (o.1, o.2 ++ [(w.getD 1 [], [])]) := by
                unfold rdStep
                rw [if_neg ha, if_pos ⟨hg0.trans hnv, hw2⟩]
              rw [he] at hstep
              refine sw_region hP 11 [] rfl (by kernel_rfl) (fun _ => by kernel_rfl) ?_ ?_
              · skip
                simp [conj, maxL, List.getElem?_eq_getElem h1]
                repeat' apply And.intro
                all_goals first | omega | trivial | exact Int.ofNat_lt.2 h1
              refine sw_region hP 12 [] rfl (by kernel_rfl) (fun _ => by kernel_rfl) (by first | trivial | (simp [conj]; done) | (simp [conj] at *; (try dsimp only [Ty.den, Ty.dflt] at *); omega)) ?_
              refine ⟨(i + 1, (o.1, o.2 ++ [(w.getD 1 [], [])])), ?_, ?_, ent_ok rfl ?_⟩
              · skip
                exact ⟨hlt, (by simp; omega), blk_snoc hob, hstep⟩
              · skip
                show ls.length - (i + 1) < ls.length - i
                omega
              · skip
                simp [conj, List.getElem?_eq_getElem h1]
            · skip
              have hb : ¬ (w.getD 0 [] = nV ∧ w.length = 2) := fun h => by have h2 := c12; simp at h2; omega
              refine sw_seq ?_
              refine sw_dec hP 11 [] 2 rfl (fun g14_2 => ?_) (fun g14_2 => ?_)
              · skip
                have hpos : 0 < o.2.length := by have h := g14_2; simp at h; omega
                refine sw_dec hP 11 [(2, true)] 7 rfl (fun g14_7 => ?_) (fun g14_7 => ?_)
                · skip
                  have hpt : w[0] = tPtr := by have h := g14_7; simp [List.getElem?_eq_getElem hw0, bytesL] at h; exact h
                  have hk := last_lt hpos
                  have he : rdStep (decide (i = 0)) o w = (o.1, o.2.set (o.2.length - 1) ((o.2.getD (o.2.length - 1) ([], [])).1, (o.2.getD (o.2.length - 1) ([], [])).2 ++ [ptrR w])) := by
                    unfold rdStep
                    rw [if_neg ha, if_neg hb, if_pos ⟨hpos, .inl (hg0.trans hpt)⟩]
                  rw [he] at hstep
                  refine sw_region hP 11 [(2, true), (7, true)] rfl (by kernel_rfl) (fun _ => by kernel_rfl) ?_ ?_
                  · skip
                    simp [conj, List.getElem?_eq_getElem hw0]
                    repeat' apply And.intro
                    all_goals first | omega | trivial | (have h := g14_7; simp [List.getElem?_eq_getElem hw0] at h; exact h)
                  refine sw_condT rfl ?_
                  refine sw_region hP 12 [] rfl (by kernel_rfl) (fun _ => by kernel_rfl) ?_ ?_
                  · skip
                    simp [conj, maxL, List.getElem?_eq_getElem hlt, List.getElem?_eq_getElem hk]
                    repeat' apply And.intro
                    all_goals first | omega | trivial | (show ls[i].length ≤ 1000000; omega) | exact Int.sub_lt_self _ (by decide) | exact len40 (hob _ (List.getElem_mem hk)) (by omega)
                  refine sw_region hP 13 [] rfl (by kernel_rfl) (fun _ => by kernel_rfl) (by first | trivial | (simp [conj]; done) | (simp [conj] at *; (try dsimp only [Ty.den, Ty.dflt] at *); omega)) ?_
                  refine ⟨(i + 1, (o.1, o.2.set (o.2.length - 1) ((o.2.getD (o.2.length - 1) ([], [])).1, (o.2.getD (o.2.length - 1) ([], [])).2 ++ [ptrR w]))), ?_, ?_, ent_ok rfl ?_⟩
                  · skip
                    exact ⟨hlt, (by simp; omega), blk_set hob hk, hstep⟩
                  · skip
                    show ls.length - (i + 1) < ls.length - i
                    omega
                  · skip
                    simp [conj, List.getElem?_eq_getElem hlt, List.getElem?_eq_getElem hk, hw]
                · skip
                  have hpt : ¬ w[0] = tPtr := by have h := g14_7; simp [List.getElem?_eq_getElem hw0, bytesL] at h; exact h
                  refine sw_region hP 11 [(2, true), (7, false)] rfl (by kernel_rfl) (fun _ => by kernel_rfl) ?_ ?_
                  · skip
                    simp [conj, List.getElem?_eq_getElem hw0]
                    repeat' apply And.intro
                    all_goals first | omega | trivial | (have h := g14_7; simp [List.getElem?_eq_getElem hw0] at h; exact h)
                  refine sw_cond rfl (fun c14 => ?_) (fun c14 => ?_)
                  · skip
                    have hpn : w[0] = nN := by have h := c14; simp [List.getElem?_eq_getElem hw0, bytesL] at h; exact h
                    have hk := last_lt hpos
                    have he : rdStep (decide (i = 0)) o w = (o.1, o.2.set (o.2.length - 1) ((o.2.getD (o.2.length - 1) ([], [])).1, (o.2.getD (o.2.length - 1) ([], [])).2 ++ [ptrR w])) := by
                      unfold rdStep
                      rw [if_neg ha, if_neg hb, if_pos ⟨hpos, .inr (hg0.trans hpn)⟩]
                    rw [he] at hstep
                    refine sw_region hP 12 [] rfl (by kernel_rfl) (fun _ => by kernel_rfl) ?_ ?_
                    · skip
                      simp [conj, maxL, List.getElem?_eq_getElem hlt, List.getElem?_eq_getElem hk]
                      repeat' apply And.intro
                      all_goals first | omega | trivial | (show ls[i].length ≤ 1000000; omega) | exact Int.sub_lt_self _ (by decide) | exact len40 (hob _ (List.getElem_mem hk)) (by omega)
                    refine sw_region hP 13 [] rfl (by kernel_rfl) (fun _ => by kernel_rfl) (by first | trivial | (simp [conj]; done) | (simp [conj] at *; (try dsimp only [Ty.den, Ty.dflt] at *); omega)) ?_
                    refine ⟨(i + 1, (o.1, o.2.set (o.2.length - 1) ((o.2.getD (o.2.length - 1) ([], [])).1, (o.2.getD (o.2.length - 1) ([], [])).2 ++ [ptrR w]))), ?_, ?_, ent_ok rfl ?_⟩
                    · skip
                      exact ⟨hlt, (by simp; omega), blk_set hob hk, hstep⟩
                    · skip
                      show ls.length - (i + 1) < ls.length - i
                      omega
                    · skip
                      simp [conj, List.getElem?_eq_getElem hlt, List.getElem?_eq_getElem hk, hw]
                  · skip
                    have hpn : ¬ w[0] = nN := by have h := c14; simp [List.getElem?_eq_getElem hw0, bytesL] at h; exact h
                    have he : rdStep (decide (i = 0)) o w = o := by
                      unfold rdStep
                      rw [if_neg ha, if_neg hb, if_neg (fun h => h.2.elim (fun h => hpt (hg0.symm.trans h)) (fun h => hpn (hg0.symm.trans h)))]
                    rw [he] at hstep
                    refine sw_skip ?_
                    refine sw_region hP 12 [] rfl (by kernel_rfl) (fun _ => by kernel_rfl) (by first | trivial | (simp [conj]; done) | (simp [conj] at *; (try dsimp only [Ty.den, Ty.dflt] at *); omega)) ?_
                    refine ⟨(i + 1, o), ?_, ?_, ent_ok rfl ?_⟩
                    · skip
                      exact ⟨hlt, (by omega), fun v hv => Nat.le_succ_of_le (hob v hv), hstep⟩
                    · skip
                      show ls.length - (i + 1) < ls.length - i
                      omega
                    · skip
                      simp [conj]
              · skip
                have hpos : ¬ 0 < o.2.length := by have h := g14_2; simp at h; simp [h]
                have he : rdStep (decide (i = 0)) o w = o := by
                  unfold rdStep
                  rw [if_neg ha, if_neg hb, if_neg (fun h => hpos h.1)]
                rw [he] at hstep
                refine sw_region hP 11 [(2, false)] rfl (by kernel_rfl) (fun _ => by kernel_rfl) (by first | trivial | (simp [conj]; done) | (simp [conj] at *; (try dsimp only [Ty.den, Ty.dflt] at *); omega)) ?_
                refine sw_condF rfl ?_
                refine sw_skip ?_
                refine sw_region hP 12 [] rfl (by kernel_rfl) (fun _ => by kernel_rfl) (by first | trivial | (simp [conj]; done) | (simp [conj] at *; (try dsimp only [Ty.den, Ty.dflt] at *); omega)) ?_
                refine ⟨(i + 1, o), ?_, ?_, ent_ok rfl ?_⟩
                · skip
                  exact ⟨hlt, (by omega), fun v hv => Nat.le_succ_of_le (hob v hv), hstep⟩
                · skip
                  show ls.length - (i + 1) < ls.length - i
                  omega
                · skip
                  simp [conj]
          · skip
            have hnv : ¬ w[0] = nV := by have h := g12_4; simp [List.getElem?_eq_getElem hw0, bytesL] at h; exact h
            have hb : ¬ (w.getD 0 [] = nV ∧ w.length = 2) := fun h => hnv (by rw [← hg0]; exact h.1)
            refine sw_region hP 10 [(4, false)] rfl (by kernel_rfl) (fun _ => by kernel_rfl) ?_ ?_
            · skip
              simp [conj, List.getElem?_eq_getElem hw0]
              repeat' apply And.intro
              all_goals first | omega | trivial | (have h := g12_4; simp [List.getElem?_eq_getElem hw0] at h; exact h)
            refine sw_condF rfl ?_
            refine sw_seq ?_
            refine sw_dec hP 11 [] 2 rfl (fun g14_2 => ?_) (fun g14_2 => ?_)
            · skip
              have hpos : 0 < o.2.length := by have h := g14_2; simp at h; omega
              refine sw_dec hP 11 [(2, true)] 7 rfl (fun g14_7 => ?_) (fun g14_7 => ?_)
              · skip
                have hpt : w[0] = tPtr := by have h := g14_7; simp [List.getElem?_eq_getElem hw0, bytesL] at h; exact h
                have hk := last_lt hpos
                have he : rdStep (decide (i = 0)) o w = (o.1, o.2.set (o.2.length - 1) ((o.2.getD (o.2.length - 1) ([], [])).1, (o.2.getD (o.2.length - 1) ([], [])).2 ++ [ptrR w])) := by
                  unfold rdStep
                  rw [if_neg ha, if_neg hb, if_pos ⟨hpos, .inl (hg0.trans hpt)⟩]
                rw [he] at hstep
                refine sw_region hP 11 [(2, true), (7, true)] rfl (by kernel_rfl) (fun _ => by kernel_rfl) ?_ ?_
                · skip
                  simp [conj, List.getElem?_eq_getElem hw0]
                  repeat' apply And.intro
                  all_goals first | omega | trivial | (have h := g14_7; simp [List.getElem?_eq_getElem hw0] at h; exact h)
                refine sw_condT rfl ?_
                refine sw_region hP 12 [] rfl (by kernel_rfl) (fun _ => by kernel_rfl) ?_ ?_
                · skip
                  simp [conj, maxL, List.getElem?_eq_getElem hlt, List.getElem?_eq_getElem hk]
                  repeat' apply And.intro
                  all_goals first | omega | trivial | (show ls[i].length ≤ 1000000; omega) | exact Int.sub_lt_self _ (by decide) | exact len40 (hob _ (List.getElem_mem hk)) (by omega)
                refine sw_region hP 13 [] rfl (by kernel_rfl) (fun _ => by kernel_rfl) (by first | trivial | (simp [conj]; done) | (simp [conj] at *; (try dsimp only [Ty.den, Ty.dflt] at *); omega)) ?_
                refine ⟨(i + 1, (o.1, o.2.set (o.2.length - 1) ((o.2.getD (o.2.length - 1) ([], [])).1, (o.2.getD (o.2.length - 1) ([], [])).2 ++ [ptrR w]))), ?_, ?_, ent_ok rfl ?_⟩
                · skip
                  exact ⟨hlt, (by simp; omega), blk_set hob hk, hstep⟩
                · skip
                  show ls.length - (i + 1) < ls.length - i
                  omega
                · skip
                  simp [conj, List.getElem?_eq_getElem hlt, List.getElem?_eq_getElem hk, hw]
              · skip
                have hpt : ¬ w[0] = tPtr := by have h := g14_7; simp [List.getElem?_eq_getElem hw0, bytesL] at h; exact h
                refine sw_region hP 11 [(2, true), (7, false)] rfl (by kernel_rfl) (fun _ => by kernel_rfl) ?_ ?_
                · skip
                  simp [conj, List.getElem?_eq_getElem hw0]
                  repeat' apply And.intro
                  all_goals first | omega | trivial | (have h := g14_7; simp [List.getElem?_eq_getElem hw0] at h; exact h)
                refine sw_cond rfl (fun c14 => ?_) (fun c14 => ?_)
                · skip
                  have hpn : w[0] = nN := by have h := c14; simp [List.getElem?_eq_getElem hw0, bytesL] at h; exact h
                  have hk := last_lt hpos
                  have he : rdStep (decide (i = 0)) o w = (o.1, o.2.set (o.2.length - 1) ((o.2.getD (o.2.length - 1) ([], [])).1, (o.2.getD (o.2.length - 1) ([], [])).2 ++ [ptrR w])) := by
                    unfold rdStep
                    rw [if_neg ha, if_neg hb, if_pos ⟨hpos, .inr (hg0.trans hpn)⟩]
                  rw [he] at hstep
                  refine sw_region hP 12 [] rfl (by kernel_rfl) (fun _ => by kernel_rfl) ?_ ?_
                  · skip
                    simp [conj, maxL, List.getElem?_eq_getElem hlt, List.getElem?_eq_getElem hk]
                    repeat' apply And.intro
                    all_goals first | omega | trivial | (show ls[i].length ≤ 1000000; omega) | exact Int.sub_lt_self _ (by decide) | exact len40 (hob _ (List.getElem_mem hk)) (by omega)
                  refine sw_region hP 13 [] rfl (by kernel_rfl) (fun _ => by kernel_rfl) (by first | trivial | (simp [conj]; done) | (simp [conj] at *; (try dsimp only [Ty.den, Ty.dflt] at *); omega)) ?_
                  refine ⟨(i + 1, (o.1, o.2.set (o.2.length - 1) ((o.2.getD (o.2.length - 1) ([], [])).1, (o.2.getD (o.2.length - 1) ([], [])).2 ++ [ptrR w]))), ?_, ?_, ent_ok rfl ?_⟩
                  · skip
                    exact ⟨hlt, (by simp; omega), blk_set hob hk, hstep⟩
                  · skip
                    show ls.length - (i + 1) < ls.length - i
                    omega
                  · skip
                    simp [conj, List.getElem?_eq_getElem hlt, List.getElem?_eq_getElem hk, hw]
                · skip
                  have hpn : ¬ w[0] = nN := by have h := c14; simp [List.getElem?_eq_getElem hw0, bytesL] at h; exact h
                  have he : rdStep (decide (i = 0)) o w = o := by
                    unfold rdStep
                    rw [if_neg ha, if_neg hb, if_neg (fun h => h.2.elim (fun h => hpt (hg0.symm.trans h)) (fun h => hpn (hg0.symm.trans h)))]
                  rw [he] at hstep
                  refine sw_skip ?_
                  refine sw_region hP 12 [] rfl (by kernel_rfl) (fun _ => by kernel_rfl) (by first | trivial | (simp [conj]; done) | (simp [conj] at *; (try dsimp only [Ty.den, Ty.dflt] at *); omega)) ?_
                  refine ⟨(i + 1, o), ?_, ?_, ent_ok rfl ?_⟩
                  · skip
                    exact ⟨hlt, (by omega), fun v hv => Nat.le_succ_of_le (hob v hv), hstep⟩
                  · skip
                    show ls.length - (i + 1) < ls.length - i
                    omega
                  · skip
                    simp [conj]
            · skip
              have hpos : ¬ 0 < o.2.length := by have h := g14_2; simp at h; simp [h]
              have he : rdStep (decide (i = 0)) o w = o := by
                unfold rdStep
                rw [if_neg ha, if_neg hb, if_neg (fun h => hpos h.1)]
              rw [he] at hstep
              refine sw_region hP 11 [(2, false)] rfl (by kernel_rfl) (fun _ => by kernel_rfl) (by first | trivial | (simp [conj]; done) | (simp [conj] at *; (try dsimp only [Ty.den, Ty.dflt] at *); omega)) ?_
              refine sw_condF rfl ?_
              refine sw_skip ?_
              refine sw_region hP 12 [] rfl (by kernel_rfl) (fun _ => by kernel_rfl) (by first | trivial | (simp [conj]; done) | (simp [conj] at *; (try dsimp only [Ty.den, Ty.dflt] at *); omega)) ?_
              refine ⟨(i + 1, o), ?_, ?_, ent_ok rfl ?_⟩
              · skip
                exact ⟨hlt, (by omega), fun v hv => Nat.le_succ_of_le (hob v hv), hstep⟩
              · skip
                show ls.length - (i + 1) < ls.length - i
                omega
              · skip
                simp [conj]
      · skip
        obtain rfl : i = ls.length := by simp at c6; omega
        rw [List.drop_length] at hgo
        have hv : o = parseV t := hgo
        refine sw_exit ?_
        refine sw_seq ?_
        refine sw_seq ?_
        refine sw_dec hP 7 [] 5 rfl (fun g16_5 => ?_) (fun g16_5 => ?_)
        · skip
          have hbad : rootT d (parseV t) ≠ t ∨ t = [] := .inl (by have h : (!decide (rootT d o = t)) = true := g16_5; rw [hv] at h; simpa using h)
          refine sw_region hP 7 [(5, true)] rfl (by kernel_rfl) (fun _ => by kernel_rfl) (by first | trivial | (simp [conj]; done) | (simp [conj] at *; (try dsimp only [Ty.den, Ty.dflt] at *); omega)) ?_
          refine sw_condT rfl ?_
          refine sw_seq ?_
          refine sw_region hP 8 [] rfl (by kernel_rfl) (fun _ => by kernel_rfl) (by first | trivial | (simp [conj]; done) | (simp [conj] at *; (try dsimp only [Ty.den, Ty.dflt] at *); omega)) ?_
          refine sw_ret ⟨.inl rfl, _, rfl, ?_⟩
          have hv2 : readS d t = ((0, []), false) := by unfold readS; rw [if_neg hshort, if_pos hbad]
          simp [conj, hv2]
        · skip
          have hgood : rootT d (parseV t) = t := by have h : (!decide (rootT d o = t)) = false := g16_5; rw [hv] at h; simpa using h
          refine sw_region hP 7 [(5, false)] rfl (by kernel_rfl) (fun _ => by kernel_rfl) (by first | trivial | (simp [conj]; done) | (simp [conj] at *; (try dsimp only [Ty.den, Ty.dflt] at *); omega)) ?_
          refine sw_cond rfl (fun c16 => ?_) (fun c16 => ?_)
          · skip
            have hbad : rootT d (parseV t) ≠ t ∨ t = [] := .inr (of_decide_eq_true (show decide (t = []) = true from c16))
            refine sw_seq ?_
            refine sw_region hP 8 [] rfl (by kernel_rfl) (fun _ => by kernel_rfl) (by first | trivial | (simp [conj]; done) | (simp [conj] at *; (try dsimp only [Ty.den, Ty.dflt] at *); omega)) ?_
            refine sw_ret ⟨.inl rfl, _, rfl, ?_⟩
            have hv2 : readS d t = ((0, []), false) := by unfold readS; rw [if_neg hshort, if_pos hbad]
            simp [conj, hv2]
          · skip
            have hok : ¬ (rootT d (parseV t) ≠ t ∨ t = []) := fun h => h.elim (fun h => h hgood) (of_decide_eq_false (show decide (t = []) = false from c16))
            refine sw_skip ?_
            refine sw_seq ?_
            refine sw_region hP 8 [] rfl (by kernel_rfl) (fun _ => by kernel_rfl) (by first | trivial | (simp [conj]; done) | (simp [conj] at *; (try dsimp only [Ty.den, Ty.dflt] at *); omega)) ?_
            refine sw_ret ⟨.inl rfl, _, rfl, ?_⟩
            have hv2 : readS d t = (parseV t, true) := by unfold readS; rw [if_neg hshort, if_neg hok]
            simp [conj, hv2, hv]
end Go.Sx

namespace Go.Sx
open Go
set_option maxRecDepth 100000
set_option linter.unusedVariables false
set_option linter.unusedSimpArgs false
set_option maxHeartbeats 2000000

def cMkT : Ctr := ⟨63, [.val false TI pF], fun x => x.1 ≤ 1099511627776, fun x => (sStr (mkT x.1), [])⟩
theorem cMkT_ok : CtrOk Proofs.Tryz.prog cMkT := by
  have hP := (Prg.none ttok mtok)
  refine ctr_of_body hP cMkT (fn := Proofs.Tryz.f63) (rts := [.tmp 2]) Proofs.Tryz.func63 rfl (by kernel_rfl) rfl rfl ?_
  rintro ⟨(k : Int), ⟨⟩⟩ _ hpre
  try dsimp only [Ty.den, Mode.den, mdens] at hpre
  refine ⟨rfl, ?_⟩
  replace hpre : k ≤ 1099511627776 := hpre
  refine sw_seq ?_
  refine sw_region hP 1 [] rfl (by kernel_rfl) (fun _ => by kernel_rfl) (by first | trivial | (simp [conj]; done) | (simp [conj] at *; (try dsimp only [Ty.den, Ty.dflt] at *); omega)) ?_
  refine sw_seq ?_
  refine sw_seq ?_
  refine sw_region hP 2 [] rfl (by kernel_rfl) (fun _ => by kernel_rfl) (by first | trivial | (simp [conj]; done) | (simp [conj] at *; (try dsimp only [Ty.den, Ty.dflt] at *); omega)) ?_
  refine sw_cond rfl (fun c1 => ?_) (fun c1 => ?_)
  · skip
    replace c1 : k ≤ 0 := of_decide_eq_true c1
    refine sw_seq ?_
    refine sw_region hP 3 [] rfl (by kernel_rfl) (fun _ => by kernel_rfl) (by first | trivial | (simp [conj]; done) | (simp [conj] at *; (try dsimp only [Ty.den, Ty.dflt] at *); omega)) ?_
    refine sw_ret ⟨.inl rfl, _, rfl, ?_⟩
    simp [conj]
    unfold mkT
    rw [if_pos c1]; rfl
  · skip
    replace c1 : ¬ k ≤ 0 := of_decide_eq_false c1
    refine sw_skip ?_
    refine sw_seq ?_
    refine sw_region hP 3 [] rfl (by kernel_rfl) (fun _ => by kernel_rfl) (by first | trivial | (simp [conj]; done) | (simp [conj] at *; (try dsimp only [Ty.den, Ty.dflt] at *); omega)) ?_
    refine sw_seq ?_
    refine sw_block ?_
    refine sw_loop (ι := Nat × Str) (fun ⟨n, out⟩ => ⟨[sInt .i64 (n : Int), .junk, .junk, sStr out, .junk, .junk, .junk, .junk, .junk, .junk, .junk, .junk, .junk, .junk, .junk, .junk, .junk, .junk, .junk, .junk], [], 3, []⟩) (fun ⟨n, out⟩ => n) (fun ⟨n, out⟩ => out.length + n ≤ 1099511627776 ∧ digX n out = digX k.toNat []) (k.toNat, []) ⟨?_, ?_⟩ ?_
    · skip
      exact ⟨by show 0 + k.toNat ≤ 1099511627776; omega, rfl⟩
    · refine ent_ok rfl ?_
      simp [conj]
      repeat' apply And.intro
      all_goals first | rfl | exact (Int.max_eq_left (by omega)).symm | omega
    · rintro ⟨n, out⟩ ⟨hl, hgo⟩
      refine sw_seq ?_
      refine sw_seq ?_
      refine sw_region hP 4 [] rfl (by kernel_rfl) (fun _ => by kernel_rfl) (by first | trivial | (simp [conj]; done) | (simp [conj] at *; (try dsimp only [Ty.den, Ty.dflt] at *); omega)) ?_
      refine sw_cond rfl (fun c4 => ?_) (fun c4 => ?_)
      · skip
        have hn : n ≠ 0 := by have h : (0 : Int) < (n : Nat) := of_decide_eq_true c4; omega
        have htm : ((n : Nat) : Int).tmod 10 = ((n % 10 : Nat) : Int) := rfl
        have htd : ((n : Nat) : Int).tdiv 10 = ((n / 10 : Nat) : Int) := rfl
        refine sw_skip ?_
        refine sw_block ?_
        refine sw_seq ?_
        refine sw_region hP 5 [] rfl (by kernel_rfl) (fun _ => by kernel_rfl) ?_ ?_
        · skip
          simp [conj, maxL, htm, ofBytes]
          repeat' apply And.intro
          all_goals first | assumption | omega
        refine sw_region hP 6 [] rfl (by kernel_rfl) (fun _ => by kernel_rfl) ?_ ?_
        · skip
          simp [conj, htd]
          repeat' apply And.intro
          all_goals first | assumption | omega
        refine ⟨(n / 10, UInt8.ofNat (48 + n % 10) :: out), ?_, ?_, ent_ok rfl ?_⟩
        · skip
          exact ⟨by show (out.length + 1) + n / 10 ≤ 1099511627776; omega, by rw [← hgo, digX_step hn]⟩
        · skip
          show n / 10 < n
          omega
        · skip
          simp only [conj, List.nil_append, List.cons_append, List.append_nil, List.append_assoc, inR_i64, true_and, and_true, Int.toNat_natCast]
          try dsimp only [Ty.den, Ty.dflt]
          repeat' apply And.intro
          all_goals first | trivial | exact htd | rfl
      · skip
        obtain rfl : n = 0 := by have h : ¬ (0 : Int) < (n : Nat) := of_decide_eq_false c4; omega
        refine sw_exit ?_
        refine sw_seq ?_
        refine sw_region hP 5 [] rfl (by kernel_rfl) (fun _ => by kernel_rfl) ?_ ?_
        · skip
          simp [conj, maxL, bytesL]
          repeat' apply And.intro
          all_goals first | assumption | omega
        refine sw_ret ⟨.inl rfl, _, rfl, ?_⟩
        simp [conj]
        unfold mkT
        rw [if_neg c1, ← hgo, digX_zero]; rfl

def cMkPls : Ctr := ⟨92, [.mu false T_Place (.all .w), .val false TI pF], fun x => 0 ≤ x.2.1 ∧ nxLs mPlc x.2.1 x.1 ≤ 1000000000, fun x => (sInt .i64 (nxLs mPlc x.2.1 x.1), [(⟨0, 0, 0⟩, .sl T_Place (.all .w) (mkLs mPlc x.2.1 x.1))])⟩
theorem cMkPls_ok : CtrOk Proofs.Tryz.prog cMkPls := by
  have hP := (Prg.none ttok mtok)
  refine ctr_of_body hP cMkPls (fn := Proofs.Tryz.f92) (rts := [.tmp 4]) Proofs.Tryz.func92 rfl (by kernel_rfl) rfl rfl ?_
  rintro ⟨(l : List Plc), (k : Int), ⟨⟩⟩ ⟨hdl, _⟩ ⟨h0, h1⟩
  try dsimp only [Ty.den, Mode.den, mdens] at h0
  try dsimp only [Ty.den, Mode.den, mdens] at h1
  refine ⟨rfl, ?_⟩
  have hml : l.length ≤ 140737488355328 := hdl.1
  replace h0 : 0 ≤ k := h0
  replace h1 : nxLs mPlc k l ≤ 1000000000 := h1
  refine sw_seq ?_
  refine sw_region hP 1 [] rfl (by kernel_rfl) (fun _ => by kernel_rfl) (by first | trivial | (simp [conj]; done) | (simp [conj] at *; (try dsimp only [Ty.den, Ty.dflt] at *); omega)) ?_
  refine sw_seq ?_
  refine sw_seq ?_
  refine sw_region hP 2 [] rfl (by kernel_rfl) (fun _ => by kernel_rfl) (by first | trivial | (simp [conj]; done) | (simp [conj] at *; (try dsimp only [Ty.den, Ty.dflt] at *); omega)) ?_
  refine sw_block ?_
  refine sw_loop (ι := Nat) (fun i => ⟨[.v false [.own ⟨0, 0, 0⟩], sInt .i64 (nxLs mPlc k (l.take i)), .junk, .junk, .junk, sInt .i64 (i : Int), .junk, .junk, .junk, .junk, .junk, .junk, .junk, .junk, .junk, .junk, .junk, .junk, .junk, .junk, .junk, .junk, .junk, .junk, .junk, .junk, .junk], [(⟨0, 0, 0⟩, .sl T_Place (.all .w) (mkLs mPlc k (l.take i) ++ l.drop i))], 2, [[.v false [.own ⟨0, 0, 0⟩], .junk]]⟩) (fun i => l.length - i) (fun i => i ≤ l.length) 0 ⟨?_, ?_⟩ ?_
  · skip
    exact Nat.zero_le _
  · refine ent_ok rfl ?_
    simp [conj, mkLs, nxLs]
  · rintro i hi
    refine sw_seq ?_
    refine sw_seq ?_
    refine sw_region hP 3 [] rfl (by kernel_rfl) (fun _ => by kernel_rfl) (by first | trivial | (simp [conj]; done) | (simp [conj] at *; (try dsimp only [Ty.den, Ty.dflt] at *); omega)) ?_
    refine sw_cond rfl (fun c2 => ?_) (fun c2 => ?_)
    · skip
      have hcl := mk_clen (m := mPlc) (k := k) hi
      have hlt : i < l.length := by have h : ((i : Nat) : Int) < ((mkLs mPlc k (l.take i) ++ l.drop i).length : Nat) := of_decide_eq_true c2; omega
      have hnx := mk_next (m := mPlc) (k := k) hlt
      have hnn := nx_next (m := mPlc) (k := k) hlt
      obtain ⟨s1, s2, s3⟩ := nx_split mPlc_ok (k := k) hlt
      have hget := mk_get (m := mPlc) (k := k) hlt
      have hgd : ∀ d, (mkLs mPlc k (l.take i) ++ l.drop i)[i]?.getD d = l[i] := fun d => by rw [hget]; rfl
      have hgi : ∀ h, (mkLs mPlc k (l.take i) ++ l.drop i)[i]'h = l[i] := fun h => by have h2 := hget; rw [List.getElem?_eq_getElem h] at h2; exact Option.some.inj h2
      generalize hQ : (nxLs mPlc k (l.take i)) = Q at *
      replace s2 : Q ≤ Q + 1 + 1 := s2
      replace s3 : Q + 1 + 1 ≤ nxLs mPlc k l := s3
      refine sw_skip ?_
      refine sw_seq ?_
      refine sw_block ?_
      refine sw_seq ?_
      refine sw_region hP 4 [] rfl (by kernel_rfl) (fun _ => by kernel_rfl) ?_ ?_
      · skip
        simp [conj, hget, hgd, hgi, hcl, List.getElem?_set, hlt]
        repeat' apply And.intro
        all_goals first | trivial | assumption | omega
      refine sw_seq ?_
      refine sw_region hP 5 [] rfl (by kernel_rfl) (fun _ => by kernel_rfl) ?_ ?_
      · skip
        simp [conj, hget, hgd, hgi, hcl, List.getElem?_set, hlt]
        repeat' apply And.intro
        all_goals first | trivial | assumption | omega
      refine sw_seq ?_
      refine sw_region hP 6 [] rfl (by kernel_rfl) (fun _ => by kernel_rfl) ?_ ?_
      · skip
        simp [conj, hget, hgd, hgi, hcl, List.getElem?_set, hlt]
        repeat' apply And.intro
        all_goals first | trivial | assumption | omega
      refine sw_region hP 7 [] rfl (by kernel_rfl) (fun _ => by kernel_rfl) ?_ ?_
      · skip
        simp [conj, hget, hgd, hgi, hcl, List.getElem?_set, hlt]
        repeat' apply And.intro
        all_goals first | trivial | assumption | omega
      refine sw_region hP 8 [] rfl (by kernel_rfl) (fun _ => by kernel_rfl) ?_ ?_
      · skip
        simp only [conj, List.nil_append, List.cons_append, List.append_nil, List.append_assoc, inR_i64, true_and, and_true, Int.toNat_natCast]
        try dsimp only [Ty.den, Ty.dflt]
        repeat' apply And.intro
        all_goals first | rfl | omega | assumption | trivial
      refine ⟨i + 1, ?_, ?_, ent_ok rfl ?_⟩
      · skip
        exact hlt
      · skip
        omega
      · skip
        rw [hnn]
        simp [conj, hget, hgd, hgi, hcl, List.getElem?_set, hlt]
        repeat' apply And.intro
        all_goals first | rfl | exact hnx | omega
    · skip
      have hcl := mk_clen (m := mPlc) (k := k) hi
      obtain rfl : i = l.length := by have h : ¬ ((i : Nat) : Int) < ((mkLs mPlc k (l.take i) ++ l.drop i).length : Nat) := of_decide_eq_false c2; omega
      refine sw_exit ?_
      refine sw_seq ?_
      refine sw_region hP 4 [] rfl (by kernel_rfl) (fun _ => by kernel_rfl) (by first | trivial | (simp [conj]; done) | (simp [conj] at *; (try dsimp only [Ty.den, Ty.dflt] at *); omega)) ?_
      refine sw_ret ⟨.inl rfl, _, rfl, ?_⟩
      simp [conj]

def cMkPtrs : Ctr := ⟨64, [.mu false T_Ptr (.all .w), .val false TI pF], fun x => 0 ≤ x.2.1 ∧ nxLs mPtr x.2.1 x.1 ≤ 1000000000, fun x => (sInt .i64 (nxLs mPtr x.2.1 x.1), [(⟨0, 0, 0⟩, .sl T_Ptr (.all .w) (mkLs mPtr x.2.1 x.1))])⟩
theorem cMkPtrs_ok : CtrOk Proofs.Tryz.prog cMkPtrs := by
  have hP := ((Prg.none ttok mtok).and cMkPls_ok)
  refine ctr_of_body hP cMkPtrs (fn := Proofs.Tryz.f64) (rts := [.tmp 4]) Proofs.Tryz.func64 rfl (by kernel_rfl) rfl rfl ?_
  rintro ⟨(l : List Ptr_), (k : Int), ⟨⟩⟩ ⟨hdl, _⟩ ⟨h0, h1⟩
  try dsimp only [Ty.den, Mode.den, mdens] at h0
  try dsimp only [Ty.den, Mode.den, mdens] at h1
  refine ⟨rfl, ?_⟩
  have hml : l.length ≤ 140737488355328 := hdl.1
  replace h0 : 0 ≤ k := h0
  replace h1 : nxLs mPtr k l ≤ 1000000000 := h1
  refine sw_seq ?_
  refine sw_region hP 1 [] rfl (by kernel_rfl) (fun _ => by kernel_rfl) (by first | trivial | (simp [conj]; done) | (simp [conj] at *; (try dsimp only [Ty.den, Ty.dflt] at *); omega)) ?_
  refine sw_seq ?_
  refine sw_seq ?_
  refine sw_region hP 2 [] rfl (by kernel_rfl) (fun _ => by kernel_rfl) (by first | trivial | (simp [conj]; done) | (simp [conj] at *; (try dsimp only [Ty.den, Ty.dflt] at *); omega)) ?_
  refine sw_block ?_
  refine sw_loop (ι := Nat) (fun i => ⟨[.v false [.own ⟨0, 0, 0⟩], sInt .i64 (nxLs mPtr k (l.take i)), .junk, .junk, .junk, sInt .i64 (i : Int), .junk, .junk, .junk, .junk, .junk, .junk, .junk, .junk, .junk, .junk, .junk, .junk, .junk, .junk, .junk, .junk, .junk, .junk, .junk, .junk, .junk, .junk, .junk, .junk, .junk, .junk, .junk, .junk], [(⟨0, 0, 0⟩, .sl T_Ptr (.all .w) (mkLs mPtr k (l.take i) ++ l.drop i))], 2, [[.v false [.own ⟨0, 0, 0⟩], .junk]]⟩) (fun i => l.length - i) (fun i => i ≤ l.length) 0 ⟨?_, ?_⟩ ?_
  · skip
    exact Nat.zero_le _
  · refine ent_ok rfl ?_
    simp [conj, mkLs, nxLs]
  · rintro i hi
    refine sw_seq ?_
    refine sw_seq ?_
    refine sw_region hP 3 [] rfl (by kernel_rfl) (fun _ => by kernel_rfl) (by first | trivial | (simp [conj]; done) | (simp [conj] at *; (try dsimp only [Ty.den, Ty.dflt] at *); omega)) ?_
    refine sw_cond rfl (fun c2 => ?_) (fun c2 => ?_)
    · skip
      have hcl := mk_clen (m := mPtr) (k := k) hi
      have hlt : i < l.length := by have h : ((i : Nat) : Int) < ((mkLs mPtr k (l.take i) ++ l.drop i).length : Nat) := of_decide_eq_true c2; omega
      have hnx := mk_next (m := mPtr) (k := k) hlt
      have hnn := nx_next (m := mPtr) (k := k) hlt
      obtain ⟨s1, s2, s3⟩ := nx_split mPtr_ok (k := k) hlt
      have hget := mk_get (m := mPtr) (k := k) hlt
      have hgd : ∀ d, (mkLs mPtr k (l.take i) ++ l.drop i)[i]?.getD d = l[i] := fun d => by rw [hget]; rfl
      have hgi : ∀ h, (mkLs mPtr k (l.take i) ++ l.drop i)[i]'h = l[i] := fun h => by have h2 := hget; rw [List.getElem?_eq_getElem h] at h2; exact Option.some.inj h2
      generalize hQ : (nxLs mPtr k (l.take i)) = Q at *
      have s4 : Q + 1 + 1 ≤ nxLs mPlc (Q + 1 + 1) l[i].2.2 := (mkList_ok mPlc_ok).ge _ _
      replace s3 : nxLs mPlc (Q + 1 + 1) l[i].2.2 ≤ nxLs mPtr k l := s3
      refine sw_skip ?_
      refine sw_seq ?_
      refine sw_block ?_
      refine sw_seq ?_
      refine sw_region hP 4 [] rfl (by kernel_rfl) (fun _ => by kernel_rfl) ?_ ?_
      · skip
        simp [conj, hget, hgd, hgi, hcl, List.getElem?_set, hlt]
        repeat' apply And.intro
        all_goals first | trivial | assumption | omega | (show 0 ≤ Q + 1 + 1; omega) | (show nxLs mPlc (Q + 1 + 1) l[i].2.2 ≤ _; omega)
      refine sw_seq ?_
      refine sw_region hP 5 [] rfl (by kernel_rfl) (fun _ => by kernel_rfl) ?_ ?_
      · skip
        simp [conj, hget, hgd, hgi, hcl, List.getElem?_set, hlt]
        repeat' apply And.intro
        all_goals first | trivial | assumption | omega | (show 0 ≤ Q + 1 + 1; omega) | (show nxLs mPlc (Q + 1 + 1) l[i].2.2 ≤ _; omega)
      refine sw_seq ?_
      refine sw_region hP 6 [] rfl (by kernel_rfl) (fun _ => by kernel_rfl) ?_ ?_
      · skip
        simp [conj, hget, hgd, hgi, hcl, List.getElem?_set, hlt]
        repeat' apply And.intro
        all_goals first | trivial | assumption | omega | (show 0 ≤ Q + 1 + 1; omega) | (show nxLs mPlc (Q + 1 + 1) l[i].2.2 ≤ _; omega)
      refine sw_seq ?_
      refine sw_region hP 7 [] rfl (by kernel_rfl) (fun _ => by kernel_rfl) ?_ ?_
      · skip
        simp [conj, hget, hgd, hgi, hcl, List.getElem?_set, hlt]
        repeat' apply And.intro
        all_goals first | trivial | assumption | omega | (show 0 ≤ Q + 1 + 1; omega) | (show nxLs mPlc (Q + 1 + 1) l[i].2.2 ≤ _; omega)
      refine sw_region hP 8 [] rfl (by kernel_rfl) (fun _ => by kernel_rfl) ?_ ?_
      · skip
        simp [conj, hget, hgd, hgi, hcl, List.getElem?_set, hlt]
        repeat' apply And.intro
        all_goals first | trivial | assumption | omega | (show 0 ≤ Q + 1 + 1; omega) | (show nxLs mPlc (Q + 1 + 1) l[i].2.2 ≤ _; omega)
      refine sw_region hP 9 [] rfl (by kernel_rfl) (fun _ => by kernel_rfl) ?_ ?_
      · skip
        simp only [conj, List.nil_append, List.cons_append, List.append_nil, List.append_assoc, inR_i64, true_and, and_true, Int.toNat_natCast]
        try dsimp only [Ty.den, Ty.dflt]
        repeat' apply And.intro
        all_goals first | rfl | omega | assumption | trivial
      refine ⟨i + 1, ?_, ?_, ent_ok rfl ?_⟩
      · skip
        exact hlt
      · skip
        omega
      · skip
        rw [hnn]
        simp [conj, hget, hgd, hgi, hcl, List.getElem?_set, hlt]
        repeat' apply And.intro
        all_goals first | rfl | exact hnx | omega
    · skip
      have hcl := mk_clen (m := mPtr) (k := k) hi
      obtain rfl : i = l.length := by have h : ¬ ((i : Nat) : Int) < ((mkLs mPtr k (l.take i) ++ l.drop i).length : Nat) := of_decide_eq_false c2; omega
      refine sw_exit ?_
      refine sw_seq ?_
      refine sw_region hP 4 [] rfl (by kernel_rfl) (fun _ => by kernel_rfl) (by first | trivial | (simp [conj]; done) | (simp [conj] at *; (try dsimp only [Ty.den, Ty.dflt] at *); omega)) ?_
      refine sw_ret ⟨.inl rfl, _, rfl, ?_⟩
      simp [conj]

def cMkVols : Ctr := ⟨35, [.mu false T_Vol (.all .w), .val false TI pF], fun x => 0 ≤ x.2.1 ∧ nxLs mVol x.2.1 x.1 ≤ 1000000000, fun x => (sInt .i64 (nxLs mVol x.2.1 x.1), [(⟨0, 0, 0⟩, .sl T_Vol (.all .w) (mkLs mVol x.2.1 x.1))])⟩
theorem cMkVols_ok : CtrOk Proofs.Tryz.prog cMkVols := by
  have hP := (((Prg.none ttok mtok).and cMkT_ok).and cMkPtrs_ok)
  refine ctr_of_body hP cMkVols (fn := Proofs.Tryz.f35) (rts := [.tmp 4]) Proofs.Tryz.func35 rfl (by kernel_rfl) rfl rfl ?_
  rintro ⟨(l : List Vol_), (k : Int), ⟨⟩⟩ ⟨hdl, _⟩ ⟨h0, h1⟩
  try dsimp only [Ty.den, Mode.den, mdens] at h0
  try dsimp only [Ty.den, Mode.den, mdens] at h1
  refine ⟨rfl, ?_⟩
  have hml : l.length ≤ 140737488355328 := hdl.1
  replace h0 : 0 ≤ k := h0
  replace h1 : nxLs mVol k l ≤ 1000000000 := h1
  refine sw_seq ?_
  refine sw_region hP 1 [] rfl (by kernel_rfl) (fun _ => by kernel_rfl) (by first | trivial | (simp [conj]; done) | (simp [conj] at *; (try dsimp only [Ty.den, Ty.dflt] at *); omega)) ?_
  refine sw_seq ?_
  refine sw_seq ?_
  refine sw_region hP 2 [] rfl (by kernel_rfl) (fun _ => by kernel_rfl) (by first | trivial | (simp [conj]; done) | (simp [conj] at *; (try dsimp only [Ty.den, Ty.dflt] at *); omega)) ?_
  refine sw_block ?_
  refine sw_loop (ι := Nat) (fun i => ⟨[.v false [.own ⟨0, 0, 0⟩], sInt .i64 (nxLs mVol k (l.take i)), .junk, .junk, .junk, sInt .i64 (i : Int), .junk, .junk, .junk, .junk, .junk, .junk, .junk, .junk, .junk, .junk, .junk, .junk, .junk, .junk, .junk, .junk, .junk, .junk, .junk, .junk, .junk, .junk], [(⟨0, 0, 0⟩, .sl T_Vol (.all .w) (mkLs mVol k (l.take i) ++ l.drop i))], 2, [[.v false [.own ⟨0, 0, 0⟩], .junk]]⟩) (fun i => l.length - i) (fun i => i ≤ l.length) 0 ⟨?_, ?_⟩ ?_
  · skip
    exact Nat.zero_le _
  · refine ent_ok rfl ?_
    simp [conj, mkLs, nxLs]
  · rintro i hi
    refine sw_seq ?_
    refine sw_seq ?_
    refine sw_region hP 3 [] rfl (by kernel_rfl) (fun _ => by kernel_rfl) (by first | trivial | (simp [conj]; done) | (simp [conj] at *; (try dsimp only [Ty.den, Ty.dflt] at *); omega)) ?_
    refine sw_cond rfl (fun c2 => ?_) (fun c2 => ?_)
    · skip
      have hcl := mk_clen (m := mVol) (k := k) hi
      have hlt : i < l.length := by have h : ((i : Nat) : Int) < ((mkLs mVol k (l.take i) ++ l.drop i).length : Nat) := of_decide_eq_true c2; omega
      have hnx := mk_next (m := mVol) (k := k) hlt
      have hnn := nx_next (m := mVol) (k := k) hlt
      obtain ⟨s1, s2, s3⟩ := nx_split mVol_ok (k := k) hlt
      have hget := mk_get (m := mVol) (k := k) hlt
      have hgd : ∀ d, (mkLs mVol k (l.take i) ++ l.drop i)[i]?.getD d = l[i] := fun d => by rw [hget]; rfl
      have hgi : ∀ h, (mkLs mVol k (l.take i) ++ l.drop i)[i]'h = l[i] := fun h => by have h2 := hget; rw [List.getElem?_eq_getElem h] at h2; exact Option.some.inj h2
      generalize hQ : (nxLs mVol k (l.take i)) = Q at *
      have s4 : Q + 1 ≤ nxLs mPtr (Q + 1) l[i].2 := (mkList_ok mPtr_ok).ge _ _
      replace s3 : nxLs mPtr (Q + 1) l[i].2 ≤ nxLs mVol k l := s3
      refine sw_skip ?_
      refine sw_seq ?_
      refine sw_block ?_
      refine sw_seq ?_
      refine sw_region hP 4 [] rfl (by kernel_rfl) (fun _ => by kernel_rfl) ?_ ?_
      · skip
        simp [conj, hget, hgd, hgi, hcl, List.getElem?_set, hlt]
        repeat' apply And.intro
        all_goals first | trivial | assumption | omega | (show Q ≤ 1099511627776; omega) | (show 0 ≤ Q + 1; omega) | (show nxLs mPtr (Q + 1) l[i].2 ≤ _; omega)
      refine sw_seq ?_
      refine sw_region hP 5 [] rfl (by kernel_rfl) (fun _ => by kernel_rfl) ?_ ?_
      · skip
        simp [conj, hget, hgd, hgi, hcl, List.getElem?_set, hlt]
        repeat' apply And.intro
        all_goals first | trivial | assumption | omega | (show Q ≤ 1099511627776; omega) | (show 0 ≤ Q + 1; omega) | (show nxLs mPtr (Q + 1) l[i].2 ≤ _; omega)
      refine sw_region hP 6 [] rfl (by kernel_rfl) (fun _ => by kernel_rfl) ?_ ?_
      · skip
        simp [conj, hget, hgd, hgi, hcl, List.getElem?_set, hlt]
        repeat' apply And.intro
        all_goals first | trivial | assumption | omega | (show Q ≤ 1099511627776; omega) | (show 0 ≤ Q + 1; omega) | (show nxLs mPtr (Q + 1) l[i].2 ≤ _; omega)
      refine sw_region hP 7 [] rfl (by kernel_rfl) (fun _ => by kernel_rfl) ?_ ?_
      · skip
        simp only [conj, List.nil_append, List.cons_append, List.append_nil, List.append_assoc, inR_i64, true_and, and_true, Int.toNat_natCast]
        try dsimp only [Ty.den, Ty.dflt]
        repeat' apply And.intro
        all_goals first | rfl | omega | assumption | trivial
      refine ⟨i + 1, ?_, ?_, ent_ok rfl ?_⟩
      · skip
        exact hlt
      · skip
        omega
      · skip
        rw [hnn]
        simp [conj, hget, hgd, hgi, hcl, List.getElem?_set, hlt]
        repeat' apply And.intro
        all_goals first | rfl | exact hnx | omega
    · skip
      have hcl := mk_clen (m := mVol) (k := k) hi
      obtain rfl : i = l.length := by have h : ¬ ((i : Nat) : Int) < ((mkLs mVol k (l.take i) ++ l.drop i).length : Nat) := of_decide_eq_false c2; omega
      refine sw_exit ?_
      refine sw_seq ?_
      refine sw_region hP 4 [] rfl (by kernel_rfl) (fun _ => by kernel_rfl) (by first | trivial | (simp [conj]; done) | (simp [conj] at *; (try dsimp only [Ty.den, Ty.dflt] at *); omega)) ?_
      refine sw_ret ⟨.inl rfl, _, rfl, ?_⟩
      simp [conj]

def cMkRoot (r : Root_) (k : Int) (a : Id) : Xctr := ⟨15, [(a, ⟨0, 0, 1⟩, .sl T_Vol (.all .w) r.2)], [], [.v true [.d TI pF r.1, .own ⟨0, 0, 1⟩], sInt .i64 k],
  (sInt .i64 (nxLs mVol k r.2), [(⟨0, 0, 1⟩, .sl T_Vol (.all .w) (mkLs mVol k r.2))])⟩
theorem cMkRoot_ok {r : Root_} {k : Int} {a : Id} (h0 : 0 ≤ k) (h1 : nxLs mVol k r.2 ≤ 1000000000) : XOk Proofs.Tryz.prog (cMkRoot r k a) := by
  have hP := ((Prg.none ttok mtok).and cMkVols_ok)
  refine xctr_of_body hP (cMkRoot r k a) (fn := Proofs.Tryz.f15) (rts := [.tmp 4]) Proofs.Tryz.func15 rfl (by kernel_rfl) rfl rfl ?_
  refine ⟨rfl, ?_⟩
  refine sw_seq ?_
  refine sw_region hP 1 [] rfl (by kernel_rfl) (fun _ => by kernel_rfl) (by first | trivial | (simp [conj]; done) | (simp [conj] at *; (try dsimp only [Ty.den, Ty.dflt] at *); omega)) ?_
  refine sw_seq ?_
  refine sw_region hP 2 [] rfl (by kernel_rfl) (fun _ => by kernel_rfl) ?_ ?_
  · skip
    simp [conj, maxL]
    try dsimp only [Ty.den, Ty.dflt]
    try simp only [rd_eta]
    exact ⟨h0, h1⟩
  refine sw_seq ?_
  refine sw_region hP 3 [] rfl (by kernel_rfl) (fun _ => by kernel_rfl) (by first | trivial | (simp [conj]; done) | (simp [conj] at *; (try dsimp only [Ty.den, Ty.dflt] at *); omega)) ?_
  refine sw_ret ⟨.inl rfl, _, rfl, ?_⟩
  simp [conj]
end Go.Sx
