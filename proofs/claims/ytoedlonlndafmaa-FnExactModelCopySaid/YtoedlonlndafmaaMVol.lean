/- isVolName: a range over a function: walked by the kit's laws; its contract for Sx. -/
import Derived.RangeFuncBox
import Derived.RangeFuncFrom
import Derived.RangeFuncNested
import Derived.RangeFuncBound
import Derived.RangeFuncCalls
import Derived.RangeFuncLeaves
import Derived.Shelf.Abstract
import Derived.Shelf.RegionOpen
import Derived.WalkKit
import Derived.OwnWalkIn
import Derived.TacticsInMore
import Derived.LoopNIn
import Derived.LoopIn
import Derived.Test.YtoedlonlndafmaaProg
set_option linter.all false
namespace Go.Proofs
open Go.RowKit Go.Shelf
attribute [local go_sem] Oper.semAt_some
def volUp {α : Type} (f : Nat → α) (k : Nat) : List α := (List.range k).map f
theorem volUp_succ {α : Type} (f : Nat → α) (k : Nat) : volUp f (k + 1) = volUp f k ++ [f k] := by simp [volUp, List.range_succ]
theorem volUp_length {α : Type} (f : Nat → α) (k : Nat) : (volUp f k).length = k := by simp [volUp]
theorem vol_new (W : World) (v : Value) (t : TypeId) : (W.alloc (.cells #[v] t)).cell? ⟨W.heap.size, 0, none⟩ = some v ∧ (W.alloc (.cells #[v] t)).frozen? ⟨W.heap.size, 0, none⟩ = false := by
  have h : (W.alloc (.cells #[v] t)).heap[W.heap.size]? = some (.cells #[v] t (0, 0)) := World.alloc_heap_new W (.cells #[v] t)
  constructor
  · rw [World.cell?, h]; rfl
  · rw [World.frozen?, h]; rfl
theorem vol_cell {W : World} {a : Addr} {v : Value} (o : Obj) (h : W.cell? a = some v) : (W.alloc o).cell? a = some v := cell_kept h (World.grownBy_alloc W o none) (fun r e => by cases e)
theorem vol_frozen {W : World} {a : Addr} {v : Value} (o : Obj) (h : W.cell? a = some v) (hf : W.frozen? a = false) : (W.alloc o).frozen? a = false := (frozen_kept h (World.grownBy_alloc W o none) (fun r e => by cases e)).trans hf
abbrev volE (x : Nat × UInt8) : Array Value := #[.int .i64 ((x.1 : Int) + 1), .int .u8 (x.2.toNat : Int)]
set_option maxRecDepth 100000 in
set_option maxHeartbeats 1000000 in
theorem vol60_in (F : Fence) (n : Nat) (h8 : F.fn 60) (hro : F.round = none) (hn : 1 ≤ n) (l Bs n₀ : Nat) (s : ByteArray) (hreach : s.size ≤ 140737488355328) (hb : Bs < n₀) (J Jx : List (Nat × UInt8) → World → Prop)
    (hY : ∀ pre x W, J pre W → pre.length < s.size → YieldAt F (n - 1) Try.prog l (volE x) W fun e W' =>
      (e = .returned (.bool true) ∧ J (pre ++ [x]) W' ∧ Below n₀ W W') ∨ (e = .returned (.bool false) ∧ Jx (pre ++ [x]) W'))
    (W : World) (hBs : W.cell? ⟨Bs, 0, none⟩ = some (.string s)) (h0 : J [] W) :
    CallsIn F n Try.prog 60 #[.func (.yield l) #[] #[], .pointer (some ⟨Bs, 0, none⟩)] W fun e W' => (∃ v, e = .returned v) ∧
      ((∃ ys, ys = volUp (fun j => (j, s.data[j]?.getD 0)) s.size ∧ J ys W') ∨ (∃ pre, (∃ k, k ≤ s.size ∧ pre = volUp (fun j => (j, s.data[j]?.getD 0)) k) ∧ Jx pre W')) := by
  refine callsIn_of_wp Try.func60 rfl h8 ?_ hro
  simp only [Try.ntmps60, List.size_toArray, List.length_cons, List.length_nil, Nat.reduceAdd, Nat.reduceSub, Array.replicate_succ, Array.replicate_zero, List.push_toArray, List.append_toArray, List.nil_append, List.cons_append]
  gi_wp2
  gi_loopw [6] (fun i wr => ∃ k : Nat, k ≤ s.size ∧ i = .int .i64 k ∧ J (volUp (fun j => (j, s.data[j]?.getD 0)) k) wr ∧ Below n₀ W wr)
    (fun i _ => s.size - (intOf i).toNat)
  case atStart => exact ⟨0, Nat.zero_le _, rfl, h0, Below.refl _ _⟩
  case round =>
    obtain ⟨k, hk, rfl, hJs, hnx⟩ := hrel
    have hcx : wr.cell? ⟨Bs, 0, none⟩ = some (.string s) := (hnx.cell (p := ⟨Bs, 0, none⟩) hb).trans hBs
    by_cases hlt : k < s.size
    · obtain ⟨fn, tmps, assign, body, hy, hR⟩ := hY _ (k, s.data[k]?.getD 0) wr hJs (by rw [volUp_length]; exact hlt)
      dsimp only [volE] at hy
      have e : s.data[k]?.getD 0 = s[k]'hlt := by
        have h : k < s.data.size := hlt
        rw [Array.getElem?_eq_getElem h]
        rfl
      rw [e] at hy
      gi_wp2
      refine hR.mono ?_
      rintro e W3 (⟨rfl, hJ3, hk3⟩ | ⟨rfl, hJx3⟩)
      · gi_wp2
        go_roundw
        case rel => exact ⟨k + 1, by omega, by simp, by rw [volUp_succ]; exact hJ3, hnx.trans hk3⟩
        case measure => simp [intOf]; omega
      · gi_wp2
        refine bodyPost_ret (results_none rfl _ _ _) rfl ?_
        exact ⟨⟨_, rfl⟩, .inr ⟨_, ⟨k + 1, by omega, (volUp_succ _ _).symm⟩, hJx3⟩⟩
    · obtain rfl : k = s.size := by omega
      gi_wp2
      go_end0
      exact ⟨⟨_, rfl⟩, .inl ⟨_, rfl, hJs⟩⟩
/-- the iterator's contract -/
theorem vol_stops (F : Fence) (n : Nat) (h8 : F.fn 60) (hro : F.round = none) (hn : 1 ≤ n) (Bs n₀ : Nat) (s : ByteArray) (hreach : s.size ≤ 140737488355328) (w : World) (hn₀ : n₀ ≤ w.heap.size) (hb : Bs < n₀) (hc : w.cell? ⟨Bs, 0, none⟩ = some (.string s)) :
    SeqStopsK F n Try.prog 60 #[.pointer (some ⟨Bs, 0, none⟩)] volE (Below n₀) (fun xs => xs = volUp (fun j => (j, s.data[j]?.getD 0)) s.size)
      (fun pre => ∃ k, k ≤ s.size ∧ pre = volUp (fun j => (j, s.data[j]?.getD 0)) k) s.size w := fun l J Jx W hW _ _ hY h0 =>
  vol60_in F n h8 hro hn l Bs n₀ s hreach hb J Jx hY W ((hW.cell (p := ⟨Bs, 0, none⟩) (Nat.lt_of_lt_of_le hb hn₀)).trans hc) h0
set_option maxRecDepth 100000 in
set_option maxHeartbeats 2000000 in
theorem vol57_in (F : Fence) (n : Nat) (h : F.fn 57) (hro : F.round = none) (s : ByteArray) (w : World) :
    CallsIn F n Try.prog 57 #[.string s] w fun e W' => e = .returned (.func (.func 60) #[] #[.pointer (some ⟨w.heap.size, 0, none⟩)]) ∧ W' = w.alloc (.cells #[.string s] 9) := by
  refine callsIn_of_wp Try.func57 rfl h ?_ hro
  simp only [Try.ntmps57, List.size_toArray, List.length_cons, List.length_nil, Nat.reduceAdd, Nat.reduceSub, Array.replicate_succ, Array.replicate_zero, List.push_toArray, List.append_toArray, List.nil_append, List.cons_append]
  gi_wp2
  go_ret
  exact ⟨rfl, rfl⟩
def volOk (s : ByteArray) : Bool := !(s.size == 0) && decide (s.size ≤ 3) && s.data.toList.all (fun c => decide (97 ≤ c.toNat) && decide (c.toNat ≤ 122))
def volP (c : UInt8) : Bool := decide (97 ≤ c.toNat) && decide (c.toNat ≤ 122)
def volA (pre : List (Nat × UInt8)) : Bool := pre.all (fun y => volP y.2)
theorem vol_take (s : ByteArray) (k : Nat) (hk : k ≤ s.size) : volA (volUp (fun j => (j, s.data[j]?.getD 0)) k) = (s.data.toList.take k).all volP := by
  have h : (volUp (fun j => (j, s.data[j]?.getD 0)) k).map (·.2) = s.data.toList.take k := by
    apply List.ext_getElem
    · have : k ≤ s.data.size := hk
      simp [volUp]; omega
    · intro i h1 h2
      have h3 : i < s.data.size := by rw [List.length_take, Array.length_toList] at h2; omega
      simp [volUp]
      rw [Array.getElem?_eq_getElem h3]; rfl
  rw [← h, List.all_map]; rfl
theorem vol_good {pre : List (Nat × UInt8)} {x : Nat × UInt8} (h : volA pre = true) (h1 : 97 ≤ (x.2.toNat : Int)) (h2 : (x.2.toNat : Int) ≤ 122) : volA (pre ++ [x]) = true := by
  unfold volA at *; rw [List.all_append, h]; simp [volP]; omega
theorem vol_bad {pre : List (Nat × UInt8)} {x : Nat × UInt8} (h : (x.2.toNat : Int) < 97 ∨ 122 < (x.2.toNat : Int)) : volA (pre ++ [x]) = false := by
  unfold volA; rw [List.all_append]; simp [volP]; omega
theorem vol_yes {s : ByteArray} (h0 : s.size ≠ 0) (h3 : s.size ≤ 3) (h : volA (volUp (fun j => (j, s.data[j]?.getD 0)) s.size) = true) : volOk s = true := by
  rw [vol_take s s.size (Nat.le_refl _)] at h
  rw [List.take_of_length_le (by simp)] at h
  unfold volOk
  rw [show (fun c : UInt8 => decide (97 ≤ c.toNat) && decide (c.toNat ≤ 122)) = volP from rfl, h]
  simp [h0, h3]
theorem vol_no {s : ByteArray} {pre : List (Nat × UInt8)} (hp : ∃ k, k ≤ s.size ∧ pre = volUp (fun j => (j, s.data[j]?.getD 0)) k) (h : volA pre = false) : volOk s = false := by
  obtain ⟨k, hk, rfl⟩ := hp
  rw [vol_take s k hk] at h
  unfold volOk
  rw [show (fun c : UInt8 => decide (97 ≤ c.toNat) && decide (c.toNat ≤ 122)) = volP from rfl]
  have : s.data.toList.all volP = false := by
    rw [← List.take_append_drop k s.data.toList, List.all_append, h]; rfl
  rw [this]; simp
set_option maxRecDepth 100000 in
set_option maxHeartbeats 2000000 in
theorem vol48_in (F : Fence) (n : Nat) (h48 : F.fn 48) (h57 : F.fn 57) (h60 : F.fn 60) (hro : F.round = none) (hn : 3 ≤ n) (s : ByteArray) (hreach : s.size ≤ 140737488355328) (w : World) :
    CallsIn F n Try.prog 48 #[.string s] w fun e W' => e = .returned (.bool (volOk s)) ∧ Below w.heap.size w W' := by
  have h1 : 1 ≤ n := by omega
  refine callsIn_of_wp_marks Try.func48 rfl h48 ?_ hro
  simp only [Try.ntmps48, List.size_toArray, List.length_cons, List.length_nil, Nat.reduceAdd, Nat.reduceSub, Array.replicate_succ, Array.replicate_zero, List.push_toArray, List.append_toArray, List.nil_append, List.cons_append]
  gi_wp2_with (gi_at_call 57; refine (vol57_in F (n - 1) h57 hro _ _).mono ?_; rintro e w' ⟨rfl, rfl⟩)
  · rename_i hs
    have hs0 : s.data.toList = [] := by rw [← ByteArray.toList_eq]; exact hs
    have c1 := vol_new w (.bool false) 4
    refine ⟨.bool false, by simp [results, Try.f48, go_sem, c1.1], ?_, (Below.refl _ w).alloc (Nat.le_refl _) _⟩
    have : s.size = 0 := by have := congrArg List.length hs0; simpa using this
    simp [volOk, this]
  · rename_i hs hd
    have c1 := vol_new w (.bool false) 4
    refine ⟨.bool false, by simp [results, Try.f48, go_sem, c1.1], ?_, (Below.refl _ w).alloc (Nat.le_refl _) _⟩
    have : 3 < s.size := by
      rcases hd with h | h
      · exact absurd (List.isEmpty_iff.1 h) hs
      · omega
    simp [volOk]
    intro _ h3
    omega
  · rename_i hs hd _ _
    have hs3 : s.size ≤ 3 := by omega
    have hs0 : s.size ≠ 0 := fun h => hs (by rw [ByteArray.toList_eq]; exact List.eq_nil_of_length_eq_zero (by simpa using h))
    have c1 := vol_new w (.bool false) 4
    have c2 := vol_new (w.alloc (.cells #[.bool false] 4)) (.string s) 9
    simp only [World.size_alloc] at c2
    have hB0 : Below w.heap.size w ((w.alloc (.cells #[.bool false] 4)).alloc (.cells #[.string s] 9)) := ((Below.refl _ w).alloc (Nat.le_refl _) _).alloc (by simp) _
    refine wpIn_rangeFunc_ownF hro h1 (gf := 60) (lb := #[.pointer (some ⟨w.heap.size + 1, 0, none⟩)]) rfl h60 (enters_of Try.func60 (by kernel_rfl) rfl)
      (vol_stops F (n - 1) h60 hro (by omega) (w.heap.size + 1) (w.heap.size + 2) s hreach _ (by simp) (by omega) c2.1) belowK_t (belowK_b (by simp)) (Below.refl _ _) (fun _ => rfl)
      (fun pre W => ((volA pre = true) ∧ W.cell? ⟨w.heap.size, 0, none⟩ = some (.bool false) ∧ W.frozen? ⟨w.heap.size, 0, none⟩ = false) ∧ Below w.heap.size w W)
      (fun c pre W => (c = .ret ∧ (volA pre = false) ∧ W.cell? ⟨w.heap.size, 0, none⟩ = some (.bool false)) ∧ Below w.heap.size w W)
      (OwnFrom.and (Own.from (fun s A B row hs hg hr => ⟨hs.1, cell_kept hs.2.1 hg hr, (frozen_kept hs.2.1 hg hr).trans hs.2.2⟩) _) (ownFrom_below (Nat.le_refl _) (by simp; omega)))
      (fun c => OwnFrom.and (Own.from (fun s A B row hs hg hr => ⟨hs.1, hs.2.1, cell_kept hs.2.2 hg hr⟩) _) (ownFrom_below (Nat.le_refl _) (by simp; omega)))
      ⟨⟨rfl, vol_cell _ c1.1, vol_frozen _ c1.1 c1.2⟩, hB0⟩
      (fun x => { tmps := #[.string s, undef, .pointer (some ⟨w.heap.size, 0, none⟩), undef, .int .u8 (x.2.toNat : Int), .string s, .bool false, .bool false, .string s, .int .i64 s.size, .bool (decide (3 < (s.size : Int))), .bool (decide (3 < (s.size : Int))), .string s, .func (.func 60) #[] #[.pointer (some ⟨w.heap.size + 1, 0, none⟩)], .int .i64 ((x.1 : Int) + 1), .int .u8 (x.2.toNat : Int), undef, undef, undef, undef, undef, undef], defers := [] }) ?assign ?body ?done ?stop
    case assign =>
      intro l x W K hK
      gi_wp2
      exact hK
    case body =>
      rintro l pre x W ⟨⟨hp, hcr, hfr⟩, hB⟩ _
      gi_wp2
      all_goals first
        | exact ⟨KeepsOthers.setCell _ _ _, ⟨rfl, vol_bad (by omega), World.cell?_setCell_same' _ _ _ (by rw [hcr]; rfl)⟩, hB.setCell (p := ⟨w.heap.size, 0, none⟩) (by simp) _⟩
        | exact ⟨KeepsOthers.refl _, Below.refl _ _, ⟨vol_good hp (by omega) (by omega), hcr, hfr⟩, hB⟩
    case done =>
      rintro D ys W hD rfl ⟨⟨hne, hcr, hfr⟩, hB⟩ hK
      gi_wp2
      have hK' := (KeepsOthers.setCell W ⟨w.heap.size, 0, none⟩ (.bool true)).same D _ hK rfl
      refine ⟨by simp, .inl ⟨_, _, rfl, run_takeDeferred hK', ?_⟩⟩
      have hc5 := cell_kept (World.cell?_setCell_same' W ⟨w.heap.size, 0, none⟩ (.bool true) (by rw [hcr]; rfl)) (grownBy_putObj' _ D (.deferred none)) (fun r e => by cases e; exact ⟨_, hK', rfl⟩)
      refine ⟨.bool true, ?_, ?_, (hB.setCell (p := ⟨w.heap.size, 0, none⟩) (by simp) _).trans (belowK_b (w := w) (Nat.le_refl _) _ D _ _ (by simp at hD; omega) hK' rfl rfl)⟩
      · simp [results, Try.f48, go_sem, hc5]
      · rw [vol_yes hs0 hs3 hne]
    case stop =>
      rintro D c pre W hD hpre ⟨⟨rfl, hin, hcr⟩, hB⟩ hK
      gi_wp2
      refine ⟨by simp, .inl ⟨_, _, rfl, run_takeDeferred hK, ?_⟩⟩
      have hc5 := cell_kept hcr (grownBy_putObj' _ D (.deferred none)) (fun r e => by cases e; exact ⟨_, hK, rfl⟩)
      refine ⟨.bool false, ?_, ?_, hB.trans (belowK_b (w := w) (Nat.le_refl _) W D _ _ (by simp at hD; omega) hK rfl rfl)⟩
      · simp [results, Try.f48, go_sem, hc5]
      · rw [vol_no hpre hin]
end Go.Proofs
