/- Several texts, one behind the other. -/
import Derived.RangeFuncBox
import Derived.RangeFuncFrom
import Derived.RangeFuncNested
import Derived.RangeFuncBound
import Derived.RangeFuncCalls
import Derived.RangeFuncLeaves
import Derived.Shelf.Abstract
import Derived.Shelf.RegionOpen
import Derived.WalkKit
import Derived.OwnWalkIn
import Derived.TacticsInMore
import Derived.LoopNIn
import Derived.LoopIn
import Derived.Test.YtkbgdpdldoopmaaGreatDoorProg
import Derived.SizedLaws
import Derived.OpenShut
import GoSem.ClaimWide
import Derived.WideShapes
import Derived.Handed
import Derived.Shelf.Vars
import Derived.RowKitTokens
import Derived.ChangeVars
import Derived.Shelf.Strings.Builder1
import Derived.Shelf.Strings.Builder2
import Derived.Shelf.Strings.OnBuilder
import Derived.Shelf.Strings.BuilderF
import Derived.Shelf.Strings.BuilderK
import Derived.Shelf.Utf8.RuneCount
import Derived.Shelf.Strings.Builder2Cap
import Derived.Shelf.Strconv.Atoi
import Derived.Shelf.Strconv.Itoa0
import Derived.Shelf.Strconv.Itoa1
import Derived.Shelf.LaysM
import Derived.Shelf.Strconv.Itoa2
import Derived.Shelf.Strconv.Itoa3
import Derived.Shelf.Strconv.AtoiErrFast
import Derived.Shelf.Strconv.ParseIntEmpty
import Derived.Shelf.Strconv.AtoiFail
import Derived.Shelf.Strconv.Clone
import Derived.Shelf.Strconv.SyntaxError
import Derived.Shelf.LaysC
import Derived.Shelf.Strconv.ToError
import Derived.Shelf.Strconv.AtoiErr
import Derived.Shelf.Strconv.Lower
import Derived.Shelf.Strconv.ParseUint10
import Derived.Shelf.Strconv.ParseUint10Empty
import Derived.Shelf.Strconv.ParseUint10Any
import Derived.Shelf.Strconv.ParseInt10
import Derived.Shelf.Strconv.AtoiLong
import Derived.Shelf.Strconv.AtoiInnerAll
import Derived.Shelf.Strconv.RangeError
import Derived.Shelf.Strconv.ToErrorRange
import Derived.Shelf.Strconv.AtoiAll
import Derived.Shelf.Strconv.ErrVarAll
import Derived.Shelf.Strconv.ParseUintEmpty
import Derived.Shelf.Strconv.ParseUint10b64
import Derived.Shelf.Strconv.ParseUint10b32
import Derived.Shelf.Strconv.ParseUint10b16
import Derived.Shelf.Strconv.ParseUint10b8
import Derived.Shelf.Strconv.ParseUint10At
import Derived.Shelf.Strings.Search1
import Derived.Shelf.Strings.Search2
import Derived.Shelf.Strings.Search3
import Derived.Shelf.Strings.Cut
import Derived.Shelf.Strings.Count
import Derived.Shelf.Strings.Shaped
import Derived.Shelf.Strings.Prefix
import Derived.Shelf.Strings.Split
import Derived.Shelf.Strings.SplitShaped
import Derived.Shelf.Unicode.Decode
import Derived.Shelf.Strings.RuneCount
import Derived.Shelf.Strings.Explode
import Derived.Shelf.Unicode.DecodeSlow
import Derived.Shelf.Unicode.DecodeAny
import Derived.Shelf.Strings.BuilderCap
import Derived.Lib.ItoaLen
import Derived.Lib.Join
import Derived.Test.YtkbgdpdldoopmaaGreatDoorMOpentoMRt
set_option linter.all false
/- isVolName: a range over a function: walked by the kit's laws; its contract for Sx. -/
namespace Go.Proofs
open Go.RowKit Go.Shelf
attribute [local go_sem] Oper.semAt_some
def volUp {α : Type} (f : Nat → α) (k : Nat) : List α := (List.range k).map f
theorem volUp_succ {α : Type} (f : Nat → α) (k : Nat) : volUp f (k + 1) = volUp f k ++ [f k] := by simp [volUp, List.range_succ]
theorem volUp_length {α : Type} (f : Nat → α) (k : Nat) : (volUp f k).length = k := by simp [volUp]
theorem vol_new (W : World) (v : Value) (t : TypeId) : (W.alloc (.cells #[v] t)).cell? ⟨W.heap.size, 0, none⟩ = some v ∧ (W.alloc (.cells #[v] t)).frozen? ⟨W.heap.size, 0, none⟩ = false := by
  have h : (W.alloc (.cells #[v] t)).heap[W.heap.size]? = some (.cells #[v] t (0, 0)) := World.alloc_heap_new W (.cells #[v] t)
  constructor
  · rw [World.cell?, h]; rfl
  · rw [World.frozen?, h]; rfl
theorem vol_cell {W : World} {a : Addr} {v : Value} (o : Obj) (h : W.cell? a = some v) : (W.alloc o).cell? a = some v := cell_kept h (World.grownBy_alloc W o none) (fun r e => by cases e)
theorem vol_frozen {W : World} {a : Addr} {v : Value} (o : Obj) (h : W.cell? a = some v) (hf : W.frozen? a = false) : (W.alloc o).frozen? a = false := (frozen_kept h (World.grownBy_alloc W o none) (fun r e => by cases e)).trans hf
abbrev volE (x : Nat × UInt8) : Array Value := #[.int .i64 ((x.1 : Int) + 1), .int .u8 (x.2.toNat : Int)]
set_option maxRecDepth 100000 in
set_option maxHeartbeats 1000000 in
theorem vol101_in (F : Fence) (n : Nat) (h8 : F.fn 101) (hro : F.round = none) (hn : 1 ≤ n) (l Bs n₀ : Nat) (s : ByteArray) (hreach : s.size ≤ 140737488355328) (hb : Bs < n₀) (J Jx : List (Nat × UInt8) → World → Prop)
    (hY : ∀ pre x W, J pre W → pre.length < s.size → YieldAt F (n - 1) Tryz.prog l (volE x) W fun e W' =>
      (e = .returned (.bool true) ∧ J (pre ++ [x]) W' ∧ Below n₀ W W') ∨ (e = .returned (.bool false) ∧ Jx (pre ++ [x]) W'))
    (W : World) (hBs : W.cell? ⟨Bs, 0, none⟩ = some (.string s)) (h0 : J [] W) :
    CallsIn F n Tryz.prog 101 #[.func (.yield l) #[] #[], .pointer (some ⟨Bs, 0, none⟩)] W fun e W' => (∃ v, e = .returned v) ∧
      ((∃ ys, ys = volUp (fun j => (j, s.data[j]?.getD 0)) s.size ∧ J ys W') ∨ (∃ pre, (∃ k, k ≤ s.size ∧ pre = volUp (fun j => (j, s.data[j]?.getD 0)) k) ∧ Jx pre W')) := by
  refine callsIn_of_wp Tryz.func101 rfl h8 ?_ hro
  simp only [Tryz.ntmps101, List.size_toArray, List.length_cons, List.length_nil, Nat.reduceAdd, Nat.reduceSub, Array.replicate_succ, Array.replicate_zero, List.push_toArray, List.append_toArray, List.nil_append, List.cons_append]
  gi_wp2
  gi_loopw [6] (fun i wr => ∃ k : Nat, k ≤ s.size ∧ i = .int .i64 k ∧ J (volUp (fun j => (j, s.data[j]?.getD 0)) k) wr ∧ Below n₀ W wr)
    (fun i _ => s.size - (intOf i).toNat)
  case atStart => exact ⟨0, Nat.zero_le _, rfl, h0, Below.refl _ _⟩
  case round =>
    obtain ⟨k, hk, rfl, hJs, hnx⟩ := hrel
    have hcx : wr.cell? ⟨Bs, 0, none⟩ = some (.string s) := (hnx.cell (p := ⟨Bs, 0, none⟩) hb).trans hBs
    by_cases hlt : k < s.size
    · obtain ⟨fn, tmps, assign, body, hy, hR⟩ := hY _ (k, s.data[k]?.getD 0) wr hJs (by rw [volUp_length]; exact hlt)
      dsimp only [volE] at hy
      have e : s.data[k]?.getD 0 = s[k]'hlt := by
        have h : k < s.data.size := hlt
        rw [Array.getElem?_eq_getElem h]
        rfl
      rw [e] at hy
      gi_wp2
      refine hR.mono ?_
      rintro e W3 (⟨rfl, hJ3, hk3⟩ | ⟨rfl, hJx3⟩)
      · gi_wp2
        go_roundw
        case rel => exact ⟨k + 1, by omega, by simp, by rw [volUp_succ]; exact hJ3, hnx.trans hk3⟩
        case measure => simp [intOf]; omega
      · gi_wp2
        refine bodyPost_ret (results_none rfl _ _ _) rfl ?_
        exact ⟨⟨_, rfl⟩, .inr ⟨_, ⟨k + 1, by omega, (volUp_succ _ _).symm⟩, hJx3⟩⟩
    · obtain rfl : k = s.size := by omega
      gi_wp2
      go_end0
      exact ⟨⟨_, rfl⟩, .inl ⟨_, rfl, hJs⟩⟩
/-- the iterator's contract -/
theorem vol_stops (F : Fence) (n : Nat) (h8 : F.fn 101) (hro : F.round = none) (hn : 1 ≤ n) (Bs n₀ : Nat) (s : ByteArray) (hreach : s.size ≤ 140737488355328) (w : World) (hn₀ : n₀ ≤ w.heap.size) (hb : Bs < n₀) (hc : w.cell? ⟨Bs, 0, none⟩ = some (.string s)) :
    SeqStopsK F n Tryz.prog 101 #[.pointer (some ⟨Bs, 0, none⟩)] volE (Below n₀) (fun xs => xs = volUp (fun j => (j, s.data[j]?.getD 0)) s.size)
      (fun pre => ∃ k, k ≤ s.size ∧ pre = volUp (fun j => (j, s.data[j]?.getD 0)) k) s.size w := fun l J Jx W hW _ _ hY h0 =>
  vol101_in F n h8 hro hn l Bs n₀ s hreach hb J Jx hY W ((hW.cell (p := ⟨Bs, 0, none⟩) (Nat.lt_of_lt_of_le hb hn₀)).trans hc) h0
set_option maxRecDepth 100000 in
set_option maxHeartbeats 2000000 in
theorem vol72_in (F : Fence) (n : Nat) (h : F.fn 72) (hro : F.round = none) (s : ByteArray) (w : World) :
    CallsIn F n Tryz.prog 72 #[.string s] w fun e W' => e = .returned (.func (.func 101) #[] #[.pointer (some ⟨w.heap.size, 0, none⟩)]) ∧ W' = w.alloc (.cells #[.string s] 9) := by
  refine callsIn_of_wp Tryz.func72 rfl h ?_ hro
  simp only [Tryz.ntmps72, List.size_toArray, List.length_cons, List.length_nil, Nat.reduceAdd, Nat.reduceSub, Array.replicate_succ, Array.replicate_zero, List.push_toArray, List.append_toArray, List.nil_append, List.cons_append]
  gi_wp2
  go_ret
  exact ⟨rfl, rfl⟩
def volOk (s : ByteArray) : Bool := !(s.size == 0) && decide (s.size ≤ 3) && s.data.toList.all (fun c => decide (97 ≤ c.toNat) && decide (c.toNat ≤ 122))
def volP (c : UInt8) : Bool := decide (97 ≤ c.toNat) && decide (c.toNat ≤ 122)
def volA (pre : List (Nat × UInt8)) : Bool := pre.all (fun y => volP y.2)
theorem vol_take (s : ByteArray) (k : Nat) (hk : k ≤ s.size) : volA (volUp (fun j => (j, s.data[j]?.getD 0)) k) = (s.data.toList.take k).all volP := by
  have h : (volUp (fun j => (j, s.data[j]?.getD 0)) k).map (·.2) = s.data.toList.take k := by
    apply List.ext_getElem
    · have : k ≤ s.data.size := hk
      simp [volUp]; omega
    · intro i h1 h2
      have h3 : i < s.data.size := by rw [List.length_take, Array.length_toList] at h2; omega
      simp [volUp]
      rw [Array.getElem?_eq_getElem h3]; rfl
  rw [← h, List.all_map]; rfl
theorem vol_good {pre : List (Nat × UInt8)} {x : Nat × UInt8} (h : volA pre = true) (h1 : 97 ≤ (x.2.toNat : Int)) (h2 : (x.2.toNat : Int) ≤ 122) : volA (pre ++ [x]) = true := by
  unfold volA at *; rw [List.all_append, h]; simp [volP]; omega
theorem vol_bad {pre : List (Nat × UInt8)} {x : Nat × UInt8} (h : (x.2.toNat : Int) < 97 ∨ 122 < (x.2.toNat : Int)) : volA (pre ++ [x]) = false := by
  unfold volA; rw [List.all_append]; simp [volP]; omega
theorem vol_yes {s : ByteArray} (h0 : s.size ≠ 0) (h3 : s.size ≤ 3) (h : volA (volUp (fun j => (j, s.data[j]?.getD 0)) s.size) = true) : volOk s = true := by
  rw [vol_take s s.size (Nat.le_refl _)] at h
  rw [List.take_of_length_le (by simp)] at h
  unfold volOk
  rw [show (fun c : UInt8 => decide (97 ≤ c.toNat) && decide (c.toNat ≤ 122)) = volP from rfl, h]
  simp [h0, h3]
theorem vol_no {s : ByteArray} {pre : List (Nat × UInt8)} (hp : ∃ k, k ≤ s.size ∧ pre = volUp (fun j => (j, s.data[j]?.getD 0)) k) (h : volA pre = false) : volOk s = false := by
  obtain ⟨k, hk, rfl⟩ := hp
  rw [vol_take s k hk] at h
  unfold volOk
  rw [show (fun c : UInt8 => decide (97 ≤ c.toNat) && decide (c.toNat ≤ 122)) = volP from rfl]
  have : s.data.toList.all volP = false := by
    rw [← List.take_append_drop k s.data.toList, List.all_append, h]; rfl
  rw [this]; simp
set_option maxRecDepth 100000 in
set_option maxHeartbeats 2000000 in
theorem vol55_in (F : Fence) (n : Nat) (h55 : F.fn 55) (h72 : F.fn 72) (h101 : F.fn 101) (hro : F.round = none) (hn : 3 ≤ n) (s : ByteArray) (hreach : s.size ≤ 140737488355328) (w : World) :
    CallsIn F n Tryz.prog 55 #[.string s] w fun e W' => e = .returned (.bool (volOk s)) ∧ Below w.heap.size w W' := by
  have h1 : 1 ≤ n := by omega
  refine callsIn_of_wp_marks Tryz.func55 rfl h55 ?_ hro
  simp only [Tryz.ntmps55, List.size_toArray, List.length_cons, List.length_nil, Nat.reduceAdd, Nat.reduceSub, Array.replicate_succ, Array.replicate_zero, List.push_toArray, List.append_toArray, List.nil_append, List.cons_append]
  gi_wp2_with (gi_at_call 72; refine (vol72_in F (n - 1) h72 hro _ _).mono ?_; rintro e w' ⟨rfl, rfl⟩)
  · rename_i hs
    have hs0 : s.data.toList = [] := by rw [← ByteArray.toList_eq]; exact hs
    have c1 := vol_new w (.bool false) 4
    refine ⟨.bool false, by simp [results, Tryz.f55, go_sem, c1.1], ?_, (Below.refl _ w).alloc (Nat.le_refl _) _⟩
    have : s.size = 0 := by have := congrArg List.length hs0; simpa using this
    simp [volOk, this]
  · rename_i hs hd
    have c1 := vol_new w (.bool false) 4
    refine ⟨.bool false, by simp [results, Tryz.f55, go_sem, c1.1], ?_, (Below.refl _ w).alloc (Nat.le_refl _) _⟩
    have : 3 < s.size := by
      rcases hd with h | h
      · exact absurd (List.isEmpty_iff.1 h) hs
      · omega
    simp [volOk]
    intro _ h3
    omega
  · rename_i hs hd _ _
    have hs3 : s.size ≤ 3 := by omega
    have hs0 : s.size ≠ 0 := fun h => hs (by rw [ByteArray.toList_eq]; exact List.eq_nil_of_length_eq_zero (by simpa using h))
    have c1 := vol_new w (.bool false) 4
    have c2 := vol_new (w.alloc (.cells #[.bool false] 4)) (.string s) 9
    simp only [World.size_alloc] at c2
    have hB0 : Below w.heap.size w ((w.alloc (.cells #[.bool false] 4)).alloc (.cells #[.string s] 9)) := ((Below.refl _ w).alloc (Nat.le_refl _) _).alloc (by simp) _
    refine wpIn_rangeFunc_ownF hro h1 (gf := 101) (lb := #[.pointer (some ⟨w.heap.size + 1, 0, none⟩)]) rfl h101 (enters_of Tryz.func101 (by kernel_rfl) rfl)
      (vol_stops F (n - 1) h101 hro (by omega) (w.heap.size + 1) (w.heap.size + 2) s hreach _ (by simp) (by omega) c2.1) belowK_t (belowK_b (by simp)) (Below.refl _ _) (fun _ => rfl)
      (fun pre W => ((volA pre = true) ∧ W.cell? ⟨w.heap.size, 0, none⟩ = some (.bool false) ∧ W.frozen? ⟨w.heap.size, 0, none⟩ = false) ∧ Below w.heap.size w W)
      (fun c pre W => (c = .ret ∧ (volA pre = false) ∧ W.cell? ⟨w.heap.size, 0, none⟩ = some (.bool false)) ∧ Below w.heap.size w W)
      (OwnFrom.and (Own.from (fun s A B row hs hg hr => ⟨hs.1, cell_kept hs.2.1 hg hr, (frozen_kept hs.2.1 hg hr).trans hs.2.2⟩) _) (ownFrom_below (Nat.le_refl _) (by simp; omega)))
      (fun c => OwnFrom.and (Own.from (fun s A B row hs hg hr => ⟨hs.1, hs.2.1, cell_kept hs.2.2 hg hr⟩) _) (ownFrom_below (Nat.le_refl _) (by simp; omega)))
      ⟨⟨rfl, vol_cell _ c1.1, vol_frozen _ c1.1 c1.2⟩, hB0⟩
      (fun x => { tmps := #[.string s, undef, .pointer (some ⟨w.heap.size, 0, none⟩), undef, .int .u8 (x.2.toNat : Int), .string s, .bool false, .bool false, .string s, .int .i64 s.size, .bool (decide (3 < (s.size : Int))), .bool (decide (3 < (s.size : Int))), .string s, .func (.func 101) #[] #[.pointer (some ⟨w.heap.size + 1, 0, none⟩)], .int .i64 ((x.1 : Int) + 1), .int .u8 (x.2.toNat : Int), undef, undef, undef, undef, undef, undef], defers := [] }) ?assign ?body ?done ?stop
    case assign =>
      intro l x W K hK
      gi_wp2
      exact hK
    case body =>
      rintro l pre x W ⟨⟨hp, hcr, hfr⟩, hB⟩ _
      gi_wp2
      all_goals first
        | exact ⟨KeepsOthers.setCell _ _ _, ⟨rfl, vol_bad (by omega), World.cell?_setCell_same' _ _ _ (by rw [hcr]; rfl)⟩, hB.setCell (p := ⟨w.heap.size, 0, none⟩) (by simp) _⟩
        | exact ⟨KeepsOthers.refl _, Below.refl _ _, ⟨vol_good hp (by omega) (by omega), hcr, hfr⟩, hB⟩
    case done =>
      rintro D ys W hD rfl ⟨⟨hne, hcr, hfr⟩, hB⟩ hK
      gi_wp2
      have hK' := (KeepsOthers.setCell W ⟨w.heap.size, 0, none⟩ (.bool true)).same D _ hK rfl
      refine ⟨by simp, .inl ⟨_, _, rfl, run_takeDeferred hK', ?_⟩⟩
      have hc5 := cell_kept (World.cell?_setCell_same' W ⟨w.heap.size, 0, none⟩ (.bool true) (by rw [hcr]; rfl)) (grownBy_putObj' _ D (.deferred none)) (fun r e => by cases e; exact ⟨_, hK', rfl⟩)
      refine ⟨.bool true, ?_, ?_, (hB.setCell (p := ⟨w.heap.size, 0, none⟩) (by simp) _).trans (belowK_b (w := w) (Nat.le_refl _) _ D _ _ (by simp at hD; omega) hK' rfl rfl)⟩
      · simp [results, Tryz.f55, go_sem, hc5]
      · rw [vol_yes hs0 hs3 hne]
    case stop =>
      rintro D c pre W hD hpre ⟨⟨rfl, hin, hcr⟩, hB⟩ hK
      gi_wp2
      refine ⟨by simp, .inl ⟨_, _, rfl, run_takeDeferred hK, ?_⟩⟩
      have hc5 := cell_kept hcr (grownBy_putObj' _ D (.deferred none)) (fun r e => by cases e; exact ⟨_, hK, rfl⟩)
      refine ⟨.bool false, ?_, ?_, hB.trans (belowK_b (w := w) (Nat.le_refl _) W D _ _ (by simp at hD; omega) hK rfl rfl)⟩
      · simp [results, Tryz.f55, go_sem, hc5]
      · rw [vol_no hpre hin]
end Go.Proofs

/- weigh: a range over a function whose body writes a variable: walked by the kit's laws. -/
namespace Go.Proofs
open Go.RowKit Go.Shelf
attribute [local go_sem] Oper.semAt_some
/-- a byte with its place, which is not too great -/
abbrev WX := { x : Nat × UInt8 // x.1 < 1000000 }
abbrev weiE (x : WX) : Array Value := volE x.val
def weiF (s : ByteArray) (j : Nat) : WX := ⟨(min j 999999, s.data[j]?.getD 0), by show min j 999999 < 1000000; omega⟩
set_option maxRecDepth 100000 in
set_option maxHeartbeats 1000000 in
theorem weiB_in (F : Fence) (n : Nat) (h8 : F.fn 101) (hro : F.round = none) (hn : 1 ≤ n) (l Bs : Nat) (s : ByteArray) (hreach : s.size ≤ 1000000) (J Jx : List WX → World → Prop)
    (hY : ∀ pre x W, J pre W → pre.length < s.size → YieldAt F (n - 1) Tryz.prog l (weiE x) W fun e W' =>
      (e = .returned (.bool true) ∧ J (pre ++ [x]) W' ∧ W'.heap[Bs]? = W.heap[Bs]?) ∨ (e = .returned (.bool false) ∧ Jx (pre ++ [x]) W'))
    (W : World) (hBs : W.cell? ⟨Bs, 0, none⟩ = some (.string s)) (h0 : J [] W) :
    CallsIn F n Tryz.prog 101 #[.func (.yield l) #[] #[], .pointer (some ⟨Bs, 0, none⟩)] W fun e W' => (∃ v, e = .returned v) ∧
      ((∃ ys, ys = volUp (weiF s) s.size ∧ J ys W') ∨ (∃ pre, (∃ k, k ≤ s.size ∧ pre = volUp (weiF s) k) ∧ Jx pre W')) := by
  refine callsIn_of_wp Tryz.func101 rfl h8 ?_ hro
  simp only [Tryz.ntmps101, List.size_toArray, List.length_cons, List.length_nil, Nat.reduceAdd, Nat.reduceSub, Array.replicate_succ, Array.replicate_zero, List.push_toArray, List.append_toArray, List.nil_append, List.cons_append]
  gi_wp2
  gi_loopw [6] (fun i wr => ∃ k : Nat, k ≤ s.size ∧ i = .int .i64 k ∧ J (volUp (weiF s) k) wr ∧ wr.heap[Bs]? = W.heap[Bs]?)
    (fun i _ => s.size - (intOf i).toNat)
  case atStart => exact ⟨0, Nat.zero_le _, rfl, h0, rfl⟩
  case round =>
    obtain ⟨k, hk, rfl, hJs, hnx⟩ := hrel
    have hcx : wr.cell? ⟨Bs, 0, none⟩ = some (.string s) := by
      have : wr.cell? ⟨Bs, 0, none⟩ = W.cell? ⟨Bs, 0, none⟩ := by simp only [World.cell?, hnx]
      exact this.trans hBs
    by_cases hlt : k < s.size
    · obtain ⟨fn, tmps, assign, body, hy, hR⟩ := hY _ (weiF s k) wr hJs (by rw [volUp_length]; exact hlt)
      dsimp only [weiE, volE, weiF] at hy
      rw [show min k 999999 = k by omega] at hy
      have e : s.data[k]?.getD 0 = s[k]'hlt := by
        have h : k < s.data.size := hlt
        rw [Array.getElem?_eq_getElem h]
        rfl
      rw [e] at hy
      gi_wp2
      refine hR.mono ?_
      rintro e W3 (⟨rfl, hJ3, hk3⟩ | ⟨rfl, hJx3⟩)
      · gi_wp2
        go_roundw
        case rel => exact ⟨k + 1, by omega, by simp, by rw [volUp_succ]; exact hJ3, hk3.trans hnx⟩
        case measure => simp [intOf]; omega
      · gi_wp2
        refine bodyPost_ret (results_none rfl _ _ _) rfl ?_
        exact ⟨⟨_, rfl⟩, .inr ⟨_, ⟨k + 1, by omega, (volUp_succ _ _).symm⟩, hJx3⟩⟩
    · obtain rfl : k = s.size := by omega
      gi_wp2
      go_end0
      exact ⟨⟨_, rfl⟩, .inl ⟨_, rfl, hJs⟩⟩
theorem wei_stops (F : Fence) (n : Nat) (h8 : F.fn 101) (hro : F.round = none) (hn : 1 ≤ n) (Bs : Nat) (s : ByteArray) (hreach : s.size ≤ 1000000) (w : World) (hb : Bs < w.heap.size) (hc : w.cell? ⟨Bs, 0, none⟩ = some (.string s)) :
    SeqStopsK F n Tryz.prog 101 #[.pointer (some ⟨Bs, 0, none⟩)] weiE (fun W W' => W'.heap[Bs]? = W.heap[Bs]?) (fun xs => xs = volUp (weiF s) s.size)
      (fun pre => ∃ k, k ≤ s.size ∧ pre = volUp (weiF s) k) s.size w := fun l J Jx W hW _ _ hY h0 =>
  weiB_in F n h8 hro hn l Bs s hreach J Jx hY W ((hW.cell (p := ⟨Bs, 0, none⟩) hb).trans hc) h0
def weiS (pre : List WX) : Int := pre.foldl (fun a x => a + (x.val.2.toNat : Int) * (65536 + ((x.val.1 : Int) + 1))) 0
theorem weiS_add (pre : List WX) (x : WX) : weiS (pre ++ [x]) = weiS pre + (x.val.2.toNat : Int) * (65536 + ((x.val.1 : Int) + 1)) := by simp [weiS]
theorem wei_one (x : WX) : 0 ≤ (x.val.2.toNat : Int) * (65536 + ((x.val.1 : Int) + 1)) ∧ (x.val.2.toNat : Int) * (65536 + ((x.val.1 : Int) + 1)) ≤ 300000000 := by
  have h1 : x.val.2.toNat < 256 := x.val.2.toNat_lt
  have h2 := x.property
  refine ⟨Int.mul_nonneg (by omega) (by omega), ?_⟩
  have := Int.mul_le_mul (a := (x.val.2.toNat : Int)) (b := 65536 + ((x.val.1 : Int) + 1)) (c := 255) (d := 1065536) (by omega) (by omega) (by omega) (by omega)
  omega
theorem weiS_bd : ∀ (n : Nat) (pre : List WX), pre.length = n → 0 ≤ weiS pre ∧ weiS pre ≤ (pre.length : Int) * 300000000 := by
  intro n
  induction n with
  | zero => intro pre h; rw [List.eq_nil_of_length_eq_zero h]; simp [weiS]
  | succ n ih =>
    intro pre h
    have hne : pre ≠ [] := by rintro rfl; cases h
    obtain ⟨q, x, rfl⟩ : ∃ q x, pre = q ++ [x] := ⟨pre.dropLast, pre.getLast hne, (List.dropLast_concat_getLast hne).symm⟩
    have h1 := ih q (by simpa using h)
    have h2 := wei_one x
    rw [weiS_add]
    simp only [List.length_append, List.length_cons, List.length_nil]
    push_cast
    omega
def weiUp (s : ByteArray) (k : Nat) : List WX := volUp (weiF s) k
set_option maxRecDepth 100000 in
set_option maxHeartbeats 2000000 in
theorem wei_in (F : Fence) (n : Nat) (h41 : F.fn 42) (h53 : F.fn 72) (h55 : F.fn 101) (hro : F.round = none) (hn : 3 ≤ n) (s : ByteArray) (hreach : s.size ≤ 1000000) (w : World) :
    CallsIn F n Tryz.prog 42 #[.string s] w fun e W' => e = .returned (.int .i64 (weiS (weiUp s s.size))) ∧ Below w.heap.size w W' := by
  have h1 : 1 ≤ n := by omega
  refine callsIn_of_wp_marks Tryz.func42 rfl h41 ?_ hro
  simp only [Tryz.ntmps42, List.size_toArray, List.length_cons, List.length_nil, Nat.reduceAdd, Nat.reduceSub, Array.replicate_succ, Array.replicate_zero, List.push_toArray, List.append_toArray, List.nil_append, List.cons_append]
  gi_wp2_with (gi_at_call 72; refine (vol72_in F (n - 1) h53 hro _ _).mono ?_; rintro e w' ⟨rfl, rfl⟩)
  have c1 := vol_new w (.int .i64 0) 3
  have c2 := vol_new (w.alloc (.cells #[.int .i64 0] 3)) (.string s) 9
  simp only [World.size_alloc] at c2
  have hB0 : Below w.heap.size w ((w.alloc (.cells #[.int .i64 0] 3)).alloc (.cells #[.string s] 9)) := ((Below.refl _ w).alloc (Nat.le_refl _) _).alloc (by simp) _
  refine wpIn_rangeFunc_ownF hro h1 (gf := 101) (lb := #[.pointer (some ⟨w.heap.size + 1, 0, none⟩)]) rfl h55 (enters_of Tryz.func101 (by kernel_rfl) rfl)
    (wei_stops F (n - 1) h55 hro (by omega) (w.heap.size + 1) s hreach _ (by simp) c2.1) (fun h k => k.trans h) (fun W l o o' hl _ _ _ => World.putObj_heap_other (by simp at hl; omega)) (Below.refl _ _) (fun _ => rfl)
    (fun pre W => (W.cell? ⟨w.heap.size, 0, none⟩ = some (.int .i64 (weiS pre)) ∧ W.frozen? ⟨w.heap.size, 0, none⟩ = false) ∧ Below w.heap.size w W)
    (fun _ _ _ => False)
    (OwnFrom.and (Own.from (fun s A B row hs hg hr => ⟨cell_kept hs.1 hg hr, (frozen_kept hs.1 hg hr).trans hs.2⟩) _) (ownFrom_below (Nat.le_refl _) (by simp; omega)))
    (fun c => Own.from (fun s A B row hs hg hr => hs) _)
    ⟨⟨vol_cell _ c1.1, vol_frozen _ c1.1 c1.2⟩, hB0⟩
    (fun x => { tmps := #[.string s, undef, .int .i64 0, .pointer (some ⟨w.heap.size, 0, none⟩), .int .i64 ((x.val.1 : Int) + 1), .int .u8 (x.val.2.toNat : Int), .string s, .func (.func 101) #[] #[.pointer (some ⟨w.heap.size + 1, 0, none⟩)], .int .i64 ((x.val.1 : Int) + 1), .int .u8 (x.val.2.toNat : Int), undef, undef, undef, undef, undef, undef, undef, undef], defers := [] }) ?assign ?body ?done ?stop
  case assign =>
    intro l x W K hK
    gi_wp2
    exact hK
  case body =>
    rintro l pre x W ⟨⟨hcr, hfr⟩, hB⟩ hlt
    have hb := weiS_bd _ pre rfl
    have hb1 := wei_one x
    have hu : x.val.2.toNat < 256 := x.val.2.toNat_lt
    have hp := x.property
    gi_wp2
    exact ⟨KeepsOthers.setCell _ _ _, Below.heap_setCell _ _ _ _ (by show w.heap.size + 1 ≠ w.heap.size; omega), ⟨by rw [weiS_add]; exact World.cell?_setCell_same' _ _ _ (by rw [hcr]; rfl), by rw [World.frozen?_setCell]; exact hfr⟩, hB.setCell (p := ⟨w.heap.size, 0, none⟩) (by simp) _⟩
  case done =>
    rintro D ys W hD rfl ⟨⟨hcr, hfr⟩, hB⟩ hK
    gi_wp2
    refine ⟨by simp, .inl ⟨_, _, rfl, run_takeDeferred hK, ?_⟩⟩
    refine ⟨.int .i64 (weiS (weiUp s s.size)), ?_, rfl, hB.trans (belowK_b (w := w) (Nat.le_refl _) _ D _ _ (by simp at hD; omega) hK rfl rfl)⟩
    simp [results, Tryz.f42, go_sem, weiUp]
  case stop =>
    rintro D c pre W hD hpre h hK
    exact h.elim
end Go.Proofs

namespace Go.Proofs
def Tryz.lays156_ren : Go.Shelf.Ren := ⟨fun | 156 => 71 | 165 => 98 | 166 => 99 | 169 => 100 | 240 => 120 | 241 => 121 | 276 => 139 | 277 => 140 | n => n, fun | 31 => 43 | 9 => 9 | 3 => 3 | 4 => 4 | 0 => 0 | 20 => 20 | 72 => 131 | 76 => 105 | 70 => 129 | 37 => 22 | 75 => 46 | 127 => 148 | 164 => 161 | 5 => 5 | 80 => 38 | n => n, fun | n => n⟩
theorem Tryz.lays156 : Go.Proofs.Lays.n156 Tryz.prog Tryz.lays156_ren := {
  mixed := by kernel_rfl
  f156 := Tryz.func71.trans (congrArg some (by kernel_rfl))
  f165 := Tryz.func98.trans (congrArg some (by kernel_rfl))
  f166 := Tryz.func99.trans (congrArg some (by kernel_rfl))
  f169 := Tryz.func100.trans (congrArg some (by kernel_rfl))
  f240 := Tryz.func120.trans (congrArg some (by kernel_rfl))
  f241 := Tryz.func121.trans (congrArg some (by kernel_rfl))
  f276 := Tryz.func139.trans (congrArg some (by kernel_rfl))
  f277 := Tryz.func140.trans (congrArg some (by kernel_rfl))
  t0 := Tryz.underlying0
  a0 := Tryz.isAgg0
  z0 := Tryz.sizeOf0
  v0 := Tryz.zeroValue0
  t3 := Tryz.underlying3
  a3 := Tryz.isAgg3
  z3 := Tryz.sizeOf3
  v3 := Tryz.zeroValue3
  t4 := Tryz.underlying4
  a4 := Tryz.isAgg4
  z4 := Tryz.sizeOf4
  v4 := Tryz.zeroValue4
  t9 := Tryz.underlying9
  a9 := Tryz.isAgg9
  z9 := Tryz.sizeOf9
  v9 := Tryz.zeroValue9
  t20 := Tryz.underlying20
  a20 := Tryz.isAgg20
  z20 := Tryz.sizeOf20
  v20 := Tryz.zeroValue20
  t31 := Tryz.underlying43
  a31 := Tryz.isAgg43
  z31 := Tryz.sizeOf43
  v31 := Tryz.zeroValue43
  t37 := Tryz.underlying22
  a37 := Tryz.isAgg22
  z37 := Tryz.sizeOf22
  v37 := Tryz.zeroValue22
  t70 := Tryz.underlying129
  a70 := Tryz.isAgg129
  z70 := Tryz.sizeOf129
  v70 := Tryz.zeroValue129
  t72 := Tryz.underlying131
  a72 := Tryz.isAgg131
  z72 := Tryz.sizeOf131
  v72 := Tryz.zeroValue131
  t75 := Tryz.underlying46
  a75 := Tryz.isAgg46
  z75 := Tryz.sizeOf46
  v75 := Tryz.zeroValue46
  t76 := Tryz.underlying105
  a76 := Tryz.isAgg105
  z76 := Tryz.sizeOf105
  v76 := Tryz.zeroValue105
  t127 := Tryz.underlying148
  a127 := Tryz.isAgg148
  z127 := Tryz.sizeOf148
  v127 := Tryz.zeroValue148
  t164 := Tryz.underlying161
  a164 := Tryz.isAgg161
  z164 := Tryz.sizeOf161
  v164 := Tryz.zeroValue161 }
theorem Tryz.Builder_Extra_156 : Builder.Extra Tryz.prog Tryz.lays156_ren := {
  sizeBuilder := by kernel_rfl
  liesBuilder := by kernel_rfl
  t5 := Tryz.underlying5
  a5 := Tryz.isAgg5
  z5 := Tryz.sizeOf5
  v5 := Tryz.zeroValue5
  infoByte := by kernel_rfl
  cellsByte := by kernel_rfl
  sizeByte := by kernel_rfl
  neB5 := by decide }
open Go.RowKit in
theorem Tryz.strings_Join_none (a : Option Addr) (c : Nat) (sep : ByteArray) (w : World) :
    Calls Tryz.prog 71 #[.slice a 0 c, .string sep] w fun e w' => e = .returned (.string ⟨#[]⟩) ∧ w' = w := Any.strings_Join_none Tryz.lays156 Tryz.Builder_Extra_156 a c sep w
open Go.RowKit in
theorem Tryz.strings_Join (bk o c : Nat) (xs : List ByteArray) (sep : ByteArray) (w : World) (hcells : ∀ (j : Nat) x, xs[j]? = some x → w.cell? ⟨bk, o + j, none⟩ = some (.string x)) (hbk : bk < w.heap.size) (hN : xs.length ≤ 140737488355328) (hcap : xs.length ≤ c) (hlen : (Lib.join (xs.map (·.data.toList)) sep.data.toList).length ≤ 140737488355328) :
    Calls Tryz.prog 71 #[.slice (some ⟨bk, o, none⟩) xs.length c, .string sep] w fun e w' => e = .returned (.string ⟨(Lib.join (xs.map (·.data.toList)) sep.data.toList).toArray⟩) ∧ Below w.heap.size w w' := Any.strings_Join Tryz.lays156 Tryz.Builder_Extra_156 bk o c xs sep w hcells hbk hN hcap hlen
def Tryz.laysM171_ren : Go.Shelf.Ren := ⟨fun | 171 => 40 | 243 => 69 | 246 => 97 | 283 => 116 | 284 => 117 | 285 => 118 | 286 => 119 | 129 => 135 | 317 => 134 | 318 => 136 | 319 => 137 | 320 => 138 | 337 => 147 | 338 => 148 | n => n, fun | 3 => 3 | 9 => 9 | 2 => 2 | 4 => 4 | 171 => 142 | 0 => 0 | 53 => 143 | 37 => 22 | 5 => 5 | 173 => 146 | 212 => 157 | 51 => 158 | 20 => 20 | 213 => 159 | 46 => 149 | 232 => 182 | 233 => 183 | n => n, fun | 17 => 2 | 18 => 7 | 19 => 8 | n => n⟩
theorem Tryz.laysM171 : Go.Proofs.LaysM.n171 Tryz.prog Tryz.laysM171_ren := {
  mixed := by kernel_rfl
  f129 := Tryz.func135.trans (congrArg some (by kernel_rfl))
  f171 := Tryz.func40.trans (congrArg some (by kernel_rfl))
  f243 := Tryz.func69.trans (congrArg some (by kernel_rfl))
  f246 := Tryz.func97.trans (congrArg some (by kernel_rfl))
  f283 := Tryz.func116.trans (congrArg some (by kernel_rfl))
  f284 := Tryz.func117.trans (congrArg some (by kernel_rfl))
  f285 := Tryz.func118.trans (congrArg some (by kernel_rfl))
  f286 := Tryz.func119.trans (congrArg some (by kernel_rfl))
  f317 := Tryz.func134.trans (congrArg some (by kernel_rfl))
  f318 := Tryz.func136.trans (congrArg some (by kernel_rfl))
  f319 := Tryz.func137.trans (congrArg some (by kernel_rfl))
  f320 := Tryz.func138.trans (congrArg some (by kernel_rfl))
  f337 := Tryz.func147.trans (congrArg some (by kernel_rfl))
  f338 := Tryz.func148.trans (congrArg some (by kernel_rfl))
  t0 := Tryz.underlying0
  a0 := Tryz.isAgg0
  z0 := Tryz.sizeOf0
  v0 := Tryz.zeroValue0
  t2 := Tryz.underlying2
  a2 := Tryz.isAgg2
  z2 := Tryz.sizeOf2
  v2 := Tryz.zeroValue2
  t3 := Tryz.underlying3
  a3 := Tryz.isAgg3
  z3 := Tryz.sizeOf3
  v3 := Tryz.zeroValue3
  t4 := Tryz.underlying4
  a4 := Tryz.isAgg4
  z4 := Tryz.sizeOf4
  v4 := Tryz.zeroValue4
  t5 := Tryz.underlying5
  a5 := Tryz.isAgg5
  z5 := Tryz.sizeOf5
  v5 := Tryz.zeroValue5
  t9 := Tryz.underlying9
  a9 := Tryz.isAgg9
  z9 := Tryz.sizeOf9
  v9 := Tryz.zeroValue9
  t20 := Tryz.underlying20
  a20 := Tryz.isAgg20
  z20 := Tryz.sizeOf20
  v20 := Tryz.zeroValue20
  t37 := Tryz.underlying22
  a37 := Tryz.isAgg22
  z37 := Tryz.sizeOf22
  v37 := Tryz.zeroValue22
  t46 := Tryz.underlying149
  a46 := Tryz.isAgg149
  z46 := Tryz.sizeOf149
  v46 := Tryz.zeroValue149
  t51 := Tryz.underlying158
  a51 := Tryz.isAgg158
  z51 := Tryz.sizeOf158
  v51 := Tryz.zeroValue158
  t53 := Tryz.underlying143
  a53 := Tryz.isAgg143
  z53 := Tryz.sizeOf143
  v53 := Tryz.zeroValue143
  t171 := Tryz.underlying142
  a171 := Tryz.isAgg142
  z171 := Tryz.sizeOf142
  v171 := Tryz.zeroValue142
  t173 := Tryz.underlying146
  a173 := Tryz.isAgg146
  z173 := Tryz.sizeOf146
  v173 := Tryz.zeroValue146
  t212 := Tryz.underlying157
  a212 := Tryz.isAgg157
  z212 := Tryz.sizeOf157
  v212 := Tryz.zeroValue157
  t213 := Tryz.underlying159
  a213 := Tryz.isAgg159
  z213 := Tryz.sizeOf159
  t232 := Tryz.underlying182
  a232 := Tryz.isAgg182
  z232 := Tryz.sizeOf182
  v232 := Tryz.zeroValue182
  t233 := Tryz.underlying183
  a233 := Tryz.isAgg183
  z233 := Tryz.sizeOf183
  v233 := Tryz.zeroValue183
  g17 := by kernel_rfl
  g18 := by kernel_rfl
  g19 := by kernel_rfl
  i0 := by kernel_rfl
  i2 := by kernel_rfl
  i3 := by kernel_rfl
  i4 := by kernel_rfl
  i5 := by kernel_rfl
  i9 := by kernel_rfl
  i20 := by kernel_rfl
  i37 := by kernel_rfl
  i46 := by kernel_rfl
  i51 := by kernel_rfl
  i53 := by kernel_rfl
  i171 := by kernel_rfl
  i173 := by kernel_rfl
  i212 := by kernel_rfl
  i232 := by kernel_rfl
  i233 := by kernel_rfl
  m17 := by kernel_rfl
  m18 := by kernel_rfl
  m19 := by kernel_rfl }
open Go.RowKit Go.Sort Go.Lib in
theorem Tryz.strconv_Itoa (n : Int) (h0 : -9223372036854775808 ≤ n) (h1 : n ≤ 9223372036854775807) (w : World) (htab : Lib.TabIs Tryz.prog w "internal/strconv.uint64pow10" .u64 Lib.pow10Tab) :
    Calls Tryz.prog 40 #[.int .i64 n] w fun e w' => e = .returned (.string ⟨(Lib.itoa n).toArray⟩) ∧ ∃ k os, w' = grow (w.drewN k) os := Any.strconv_Itoa Tryz.laysM171 n h0 h1 w htab
def Tryz.laysC172_ren : Go.Shelf.Ren := ⟨fun | 172 => 81 | 244 => 107 | 245 => 108 | 247 => 127 | 279 => 128 | 280 => 129 | 281 => 130 | 282 => 131 | 287 => 143 | 316 => 144 | 171 => 40 | 205 => 145 | 321 => 149 | 322 => 150 | 243 => 69 | 246 => 97 | 283 => 116 | 284 => 117 | 285 => 118 | 286 => 119 | 129 => 135 | 317 => 134 | 318 => 136 | 319 => 137 | 320 => 138 | 337 => 147 | 338 => 148 | n => n, fun | 9 => 9 | 3 => 3 | 75 => 46 | 76 => 105 | 4 => 4 | 5 => 5 | 167 => 150 | 37 => 22 | 0 => 0 | 85 => 151 | 2 => 2 | 168 => 153 | 53 => 143 | 175 => 170 | 46 => 149 | 210 => 174 | 127 => 148 | 145 => 181 | 143 => 179 | 21 => 21 | 171 => 142 | 173 => 146 | 212 => 157 | 51 => 158 | 20 => 20 | 213 => 159 | 232 => 182 | 233 => 183 | 80 => 38 | n => n, fun | 15 => 5 | 16 => 6 | 17 => 2 | 18 => 7 | 19 => 8 | n => n⟩
theorem Tryz.laysC172 : Go.Proofs.LaysC.n172 Tryz.prog Tryz.laysC172_ren := {
  mixed := by kernel_rfl
  f129 := Tryz.func135.trans (congrArg some (by kernel_rfl))
  f171 := Tryz.func40.trans (congrArg some (by kernel_rfl))
  f172 := Tryz.func81.trans (congrArg some (by kernel_rfl))
  f205 := Tryz.func145.trans (congrArg some (by kernel_rfl))
  f243 := Tryz.func69.trans (congrArg some (by kernel_rfl))
  f244 := Tryz.func107.trans (congrArg some (by kernel_rfl))
  f245 := Tryz.func108.trans (congrArg some (by kernel_rfl))
  f246 := Tryz.func97.trans (congrArg some (by kernel_rfl))
  f247 := Tryz.func127.trans (congrArg some (by kernel_rfl))
  f279 := Tryz.func128.trans (congrArg some (by kernel_rfl))
  f280 := Tryz.func129.trans (congrArg some (by kernel_rfl))
  f281 := Tryz.func130.trans (congrArg some (by kernel_rfl))
  f282 := Tryz.func131.trans (congrArg some (by kernel_rfl))
  f283 := Tryz.func116.trans (congrArg some (by kernel_rfl))
  f284 := Tryz.func117.trans (congrArg some (by kernel_rfl))
  f285 := Tryz.func118.trans (congrArg some (by kernel_rfl))
  f286 := Tryz.func119.trans (congrArg some (by kernel_rfl))
  f287 := Tryz.func143.trans (congrArg some (by kernel_rfl))
  f316 := Tryz.func144.trans (congrArg some (by kernel_rfl))
  f317 := Tryz.func134.trans (congrArg some (by kernel_rfl))
  f318 := Tryz.func136.trans (congrArg some (by kernel_rfl))
  f319 := Tryz.func137.trans (congrArg some (by kernel_rfl))
  f320 := Tryz.func138.trans (congrArg some (by kernel_rfl))
  f321 := Tryz.func149.trans (congrArg some (by kernel_rfl))
  f322 := Tryz.func150.trans (congrArg some (by kernel_rfl))
  f337 := Tryz.func147.trans (congrArg some (by kernel_rfl))
  f338 := Tryz.func148.trans (congrArg some (by kernel_rfl))
  t0 := Tryz.underlying0
  a0 := Tryz.isAgg0
  z0 := Tryz.sizeOf0
  v0 := Tryz.zeroValue0
  t2 := Tryz.underlying2
  a2 := Tryz.isAgg2
  z2 := Tryz.sizeOf2
  v2 := Tryz.zeroValue2
  t3 := Tryz.underlying3
  a3 := Tryz.isAgg3
  z3 := Tryz.sizeOf3
  v3 := Tryz.zeroValue3
  t4 := Tryz.underlying4
  a4 := Tryz.isAgg4
  z4 := Tryz.sizeOf4
  v4 := Tryz.zeroValue4
  t5 := Tryz.underlying5
  a5 := Tryz.isAgg5
  z5 := Tryz.sizeOf5
  v5 := Tryz.zeroValue5
  t9 := Tryz.underlying9
  a9 := Tryz.isAgg9
  z9 := Tryz.sizeOf9
  v9 := Tryz.zeroValue9
  t20 := Tryz.underlying20
  a20 := Tryz.isAgg20
  z20 := Tryz.sizeOf20
  v20 := Tryz.zeroValue20
  t21 := Tryz.underlying21
  a21 := Tryz.isAgg21
  z21 := Tryz.sizeOf21
  v21 := Tryz.zeroValue21
  t37 := Tryz.underlying22
  a37 := Tryz.isAgg22
  z37 := Tryz.sizeOf22
  v37 := Tryz.zeroValue22
  t46 := Tryz.underlying149
  a46 := Tryz.isAgg149
  z46 := Tryz.sizeOf149
  v46 := Tryz.zeroValue149
  t51 := Tryz.underlying158
  a51 := Tryz.isAgg158
  z51 := Tryz.sizeOf158
  v51 := Tryz.zeroValue158
  t53 := Tryz.underlying143
  a53 := Tryz.isAgg143
  z53 := Tryz.sizeOf143
  v53 := Tryz.zeroValue143
  t75 := Tryz.underlying46
  a75 := Tryz.isAgg46
  z75 := Tryz.sizeOf46
  v75 := Tryz.zeroValue46
  t76 := Tryz.underlying105
  a76 := Tryz.isAgg105
  z76 := Tryz.sizeOf105
  v76 := Tryz.zeroValue105
  t85 := Tryz.underlying151
  a85 := Tryz.isAgg151
  z85 := Tryz.sizeOf151
  v85 := Tryz.zeroValue151
  t127 := Tryz.underlying148
  a127 := Tryz.isAgg148
  z127 := Tryz.sizeOf148
  v127 := Tryz.zeroValue148
  t143 := Tryz.underlying179
  a143 := Tryz.isAgg179
  z143 := Tryz.sizeOf179
  v143 := Tryz.zeroValue179
  t145 := Tryz.underlying181
  a145 := Tryz.isAgg181
  z145 := Tryz.sizeOf181
  v145 := Tryz.zeroValue181
  t167 := Tryz.underlying150
  a167 := Tryz.isAgg150
  z167 := Tryz.sizeOf150
  v167 := Tryz.zeroValue150
  t168 := Tryz.underlying153
  a168 := Tryz.isAgg153
  z168 := Tryz.sizeOf153
  v168 := Tryz.zeroValue153
  t171 := Tryz.underlying142
  a171 := Tryz.isAgg142
  z171 := Tryz.sizeOf142
  v171 := Tryz.zeroValue142
  t173 := Tryz.underlying146
  a173 := Tryz.isAgg146
  z173 := Tryz.sizeOf146
  v173 := Tryz.zeroValue146
  t175 := Tryz.underlying170
  a175 := Tryz.isAgg170
  z175 := Tryz.sizeOf170
  v175 := Tryz.zeroValue170
  t210 := Tryz.underlying174
  a210 := Tryz.isAgg174
  z210 := Tryz.sizeOf174
  v210 := Tryz.zeroValue174
  t212 := Tryz.underlying157
  a212 := Tryz.isAgg157
  z212 := Tryz.sizeOf157
  v212 := Tryz.zeroValue157
  t213 := Tryz.underlying159
  a213 := Tryz.isAgg159
  z213 := Tryz.sizeOf159
  t232 := Tryz.underlying182
  a232 := Tryz.isAgg182
  z232 := Tryz.sizeOf182
  v232 := Tryz.zeroValue182
  t233 := Tryz.underlying183
  a233 := Tryz.isAgg183
  z233 := Tryz.sizeOf183
  v233 := Tryz.zeroValue183
  g15 := by kernel_rfl
  g16 := by kernel_rfl
  g17 := by kernel_rfl
  g18 := by kernel_rfl
  g19 := by kernel_rfl
  t80 := Tryz.underlying38
  a80 := Tryz.isAgg38
  z80 := Tryz.sizeOf38
  v80 := Tryz.zeroValue38
  i0 := by kernel_rfl
  i2 := by kernel_rfl
  i3 := by kernel_rfl
  i4 := by kernel_rfl
  i5 := by kernel_rfl
  i9 := by kernel_rfl
  i20 := by kernel_rfl
  i21 := by kernel_rfl
  i37 := by kernel_rfl
  i46 := by kernel_rfl
  i51 := by kernel_rfl
  i53 := by kernel_rfl
  i75 := by kernel_rfl
  i76 := by kernel_rfl
  i80 := by kernel_rfl
  i85 := by kernel_rfl
  i127 := by kernel_rfl
  i143 := by kernel_rfl
  i145 := by kernel_rfl
  i167 := by kernel_rfl
  i168 := by kernel_rfl
  i171 := by kernel_rfl
  i173 := by kernel_rfl
  i175 := by kernel_rfl
  i210 := by kernel_rfl
  i212 := by kernel_rfl
  i232 := by kernel_rfl
  i233 := by kernel_rfl
  m15 := by kernel_rfl
  m16 := by kernel_rfl
  m17 := by kernel_rfl
  m18 := by kernel_rfl
  m19 := by kernel_rfl
  c0 := by kernel_rfl
  c2 := by kernel_rfl
  c3 := by kernel_rfl
  c4 := by kernel_rfl
  c5 := by kernel_rfl
  c9 := by kernel_rfl
  c20 := by kernel_rfl
  c21 := by kernel_rfl
  c37 := by kernel_rfl
  c46 := by kernel_rfl
  c51 := by kernel_rfl
  c53 := by kernel_rfl
  c75 := by kernel_rfl
  c76 := by kernel_rfl
  c80 := by kernel_rfl
  c85 := by kernel_rfl
  c127 := by kernel_rfl
  c143 := by kernel_rfl
  c145 := by kernel_rfl
  c167 := by kernel_rfl
  c168 := by kernel_rfl
  c171 := by kernel_rfl
  c173 := by kernel_rfl
  c175 := by kernel_rfl
  c210 := by kernel_rfl
  c212 := by kernel_rfl
  c213 := by kernel_rfl
  c232 := by kernel_rfl
  c233 := by kernel_rfl }
open Go.RowKit in
theorem Tryz.strconv_Atoi_ok (s : ByteArray) (hmax : s.size ≤ 9223372036854775806) (v : Int) (h : Lib.atoiAll s.data.toList = .ok v) (w : World) :
    Calls Tryz.prog 81 #[.string s] w fun e w' => e = .returned (.tuple #[.int .i64 v, .nilIface]) ∧ (w' = w ∨ ∃ t, w' = Lib.bytesWorld w 5 t) := Any.strconv_Atoi_ok Tryz.laysC172 s hmax v h w
open Go.RowKit in
theorem Tryz.strconv_Atoi_syntax (s : ByteArray) (hlim : s.size ≤ 281474976710656) (h : Lib.atoiAll s.data.toList = Lib.atoiAll []) (ev : Value) (w : World) (hv : w.cell? ⟨5, 0, none⟩ = some ev) (hev : ev = .nilIface ∨ ∃ te pe, ev = .iface te pe) :
    Calls Tryz.prog 81 #[.string s] w fun e w' => ∃ N, e = .returned (.tuple #[.int .i64 (0), .iface 153 (.pointer (some ⟨N, 0, none⟩))]) ∧ w.heap.size ≤ N ∧ w'.heap[N]? = some (.cells #[.string ⟨#[65, 116, 111, 105]⟩, .string s, ev] 174 (0, 0)) ∧ Below w.heap.size w w' := Any.strconv_Atoi_syntax Tryz.laysC172 s hlim h ev w hv hev
open Go.RowKit in
theorem Tryz.strconv_Atoi_range (s : ByteArray) (hlim : s.size ≤ 281474976710656) (h : Lib.atoiAll s.data.toList = .range) (ev : Value) (w : World) (hv : w.cell? ⟨6, 0, none⟩ = some ev) (hev : ev = .nilIface ∨ ∃ te pe, ev = .iface te pe) :
    Calls Tryz.prog 81 #[.string s] w fun e w' => ∃ N, e = .returned (.tuple #[.int .i64 (Lib.atoiSat s.data.toList), .iface 153 (.pointer (some ⟨N, 0, none⟩))]) ∧ w.heap.size ≤ N ∧ w'.heap[N]? = some (.cells #[.string ⟨#[65, 116, 111, 105]⟩, .string s, ev] 174 (0, 0)) ∧ Below w.heap.size w w' := Any.strconv_Atoi_range Tryz.laysC172 s hlim h ev w hv hev
def Tryz.lays145_ren : Go.Shelf.Ren := ⟨fun | 145 => 83 | 220 => 110 | 219 => 106 | 217 => 123 | 225 => 124 | 224 => 125 | 267 => 126 | 266 => 141 | 314 => 142 | n => n, fun | 9 => 9 | 4 => 4 | 59 => 108 | 3 => 3 | 5 => 5 | 46 => 149 | 146 => 168 | 51 => 158 | n => n, fun | 1 => 1 | n => n⟩
theorem Tryz.lays145 : Go.Proofs.Lays.n145 Tryz.prog Tryz.lays145_ren := {
  mixed := by kernel_rfl
  f145 := Tryz.func83.trans (congrArg some (by kernel_rfl))
  f217 := Tryz.func123.trans (congrArg some (by kernel_rfl))
  f219 := Tryz.func106.trans (congrArg some (by kernel_rfl))
  f220 := Tryz.func110.trans (congrArg some (by kernel_rfl))
  f224 := Tryz.func125.trans (congrArg some (by kernel_rfl))
  f225 := Tryz.func124.trans (congrArg some (by kernel_rfl))
  f266 := Tryz.func141.trans (congrArg some (by kernel_rfl))
  f267 := Tryz.func126.trans (congrArg some (by kernel_rfl))
  f314 := Tryz.func142.trans (congrArg some (by kernel_rfl))
  t3 := Tryz.underlying3
  a3 := Tryz.isAgg3
  z3 := Tryz.sizeOf3
  v3 := Tryz.zeroValue3
  t4 := Tryz.underlying4
  a4 := Tryz.isAgg4
  z4 := Tryz.sizeOf4
  v4 := Tryz.zeroValue4
  t5 := Tryz.underlying5
  a5 := Tryz.isAgg5
  z5 := Tryz.sizeOf5
  v5 := Tryz.zeroValue5
  t9 := Tryz.underlying9
  a9 := Tryz.isAgg9
  z9 := Tryz.sizeOf9
  v9 := Tryz.zeroValue9
  t46 := Tryz.underlying149
  a46 := Tryz.isAgg149
  z46 := Tryz.sizeOf149
  v46 := Tryz.zeroValue149
  t51 := Tryz.underlying158
  a51 := Tryz.isAgg158
  z51 := Tryz.sizeOf158
  v51 := Tryz.zeroValue158
  t59 := Tryz.underlying108
  a59 := Tryz.isAgg108
  z59 := Tryz.sizeOf108
  v59 := Tryz.zeroValue108
  t146 := Tryz.underlying168
  a146 := Tryz.isAgg168
  z146 := Tryz.sizeOf168
  v146 := Tryz.zeroValue168
  g1 := by kernel_rfl }
open Go.RowKit Go.Lib in
theorem Tryz.strings_Cut (s sep : ByteArray) (m : Int) (w : World) (hs : s.size < 4294967281) (hm : w.cell? ⟨1, 0, none⟩ = some (.int .i64 m)) :
    Calls Tryz.prog 83 #[.string s, .string sep] w fun e w' => e = .returned (.tuple #[.string ⟨(Lib.cut s.data.toList sep.data.toList).1.toArray⟩, .string ⟨(Lib.cut s.data.toList sep.data.toList).2.1.toArray⟩, .bool (Lib.cut s.data.toList sep.data.toList).2.2]) ∧ ∃ n, w' = w.drewN n := Any.strings_Cut Tryz.lays145 s sep m w hs hm
def Tryz.lays99_ren : Go.Shelf.Ren := ⟨fun | 99 => 82 | 206 => 109 | n => n, fun | 9 => 9 | 4 => 4 | 3 => 3 | n => n, fun | n => n⟩
theorem Tryz.lays99 : Go.Proofs.Lays.n99 Tryz.prog Tryz.lays99_ren := {
  mixed := by kernel_rfl
  f99 := Tryz.func82.trans (congrArg some (by kernel_rfl))
  f206 := Tryz.func109.trans (congrArg some (by kernel_rfl))
  t3 := Tryz.underlying3
  a3 := Tryz.isAgg3
  z3 := Tryz.sizeOf3
  v3 := Tryz.zeroValue3
  t4 := Tryz.underlying4
  a4 := Tryz.isAgg4
  z4 := Tryz.sizeOf4
  v4 := Tryz.zeroValue4
  t9 := Tryz.underlying9
  a9 := Tryz.isAgg9
  z9 := Tryz.sizeOf9
  v9 := Tryz.zeroValue9 }
open Go.RowKit Go.Lib in
theorem Tryz.strings_HasPrefix (s p : ByteArray) (w : World) :
    Calls Tryz.prog 82 #[.string s, .string p] w fun e w' => e = .returned (.bool (Lib.hasPrefix s.data.toList p.data.toList)) ∧ w' = w := Any.strings_HasPrefix Tryz.lays99 s p w
def Tryz.lays146_ren : Go.Shelf.Ren := ⟨fun | 146 => 23 | 221 => 47 | 268 => 78 | 138 => 79 | 143 => 80 | 195 => 103 | 197 => 104 | 218 => 105 | 219 => 106 | 260 => 122 | 217 => 123 | 225 => 124 | 224 => 125 | 267 => 126 | 266 => 141 | 314 => 142 | n => n, fun | 9 => 9 | 31 => 43 | 3 => 3 | 4 => 4 | 0 => 0 | 105 => 134 | 21 => 21 | 5 => 5 | 46 => 149 | 119 => 164 | 139 => 167 | 138 => 166 | 146 => 168 | 51 => 158 | n => n, fun | 1 => 1 | 3 => 3 | 4 => 4 | n => n⟩
theorem Tryz.lays146 : Go.Proofs.Lays.n146 Tryz.prog Tryz.lays146_ren := {
  mixed := by kernel_rfl
  f138 := Tryz.func79.trans (congrArg some (by kernel_rfl))
  f143 := Tryz.func80.trans (congrArg some (by kernel_rfl))
  f146 := Tryz.func23.trans (congrArg some (by kernel_rfl))
  f195 := Tryz.func103.trans (congrArg some (by kernel_rfl))
  f197 := Tryz.func104.trans (congrArg some (by kernel_rfl))
  f217 := Tryz.func123.trans (congrArg some (by kernel_rfl))
  f218 := Tryz.func105.trans (congrArg some (by kernel_rfl))
  f219 := Tryz.func106.trans (congrArg some (by kernel_rfl))
  f221 := Tryz.func47.trans (congrArg some (by kernel_rfl))
  f224 := Tryz.func125.trans (congrArg some (by kernel_rfl))
  f225 := Tryz.func124.trans (congrArg some (by kernel_rfl))
  f260 := Tryz.func122.trans (congrArg some (by kernel_rfl))
  f266 := Tryz.func141.trans (congrArg some (by kernel_rfl))
  f267 := Tryz.func126.trans (congrArg some (by kernel_rfl))
  f268 := Tryz.func78.trans (congrArg some (by kernel_rfl))
  f314 := Tryz.func142.trans (congrArg some (by kernel_rfl))
  t0 := Tryz.underlying0
  a0 := Tryz.isAgg0
  z0 := Tryz.sizeOf0
  v0 := Tryz.zeroValue0
  t3 := Tryz.underlying3
  a3 := Tryz.isAgg3
  z3 := Tryz.sizeOf3
  v3 := Tryz.zeroValue3
  t4 := Tryz.underlying4
  a4 := Tryz.isAgg4
  z4 := Tryz.sizeOf4
  v4 := Tryz.zeroValue4
  t5 := Tryz.underlying5
  a5 := Tryz.isAgg5
  z5 := Tryz.sizeOf5
  v5 := Tryz.zeroValue5
  t9 := Tryz.underlying9
  a9 := Tryz.isAgg9
  z9 := Tryz.sizeOf9
  v9 := Tryz.zeroValue9
  t21 := Tryz.underlying21
  a21 := Tryz.isAgg21
  z21 := Tryz.sizeOf21
  v21 := Tryz.zeroValue21
  t31 := Tryz.underlying43
  a31 := Tryz.isAgg43
  z31 := Tryz.sizeOf43
  v31 := Tryz.zeroValue43
  t46 := Tryz.underlying149
  a46 := Tryz.isAgg149
  z46 := Tryz.sizeOf149
  v46 := Tryz.zeroValue149
  t51 := Tryz.underlying158
  a51 := Tryz.isAgg158
  z51 := Tryz.sizeOf158
  v51 := Tryz.zeroValue158
  t105 := Tryz.underlying134
  a105 := Tryz.isAgg134
  z105 := Tryz.sizeOf134
  v105 := Tryz.zeroValue134
  t119 := Tryz.underlying164
  a119 := Tryz.isAgg164
  z119 := Tryz.sizeOf164
  t138 := Tryz.underlying166
  a138 := Tryz.isAgg166
  z138 := Tryz.sizeOf166
  v138 := Tryz.zeroValue166
  t139 := Tryz.underlying167
  a139 := Tryz.isAgg167
  z139 := Tryz.sizeOf167
  v139 := Tryz.zeroValue167
  t146 := Tryz.underlying168
  a146 := Tryz.isAgg168
  z146 := Tryz.sizeOf168
  v146 := Tryz.zeroValue168
  g1 := by kernel_rfl
  g3 := by kernel_rfl
  g4 := by kernel_rfl }
open Go.RowKit Go.Lib in
theorem Tryz.strings_Split (s sep : ByteArray) (m : Int) (w : World) (hs : s.size < 4294967281) (hm : w.cell? ⟨1, 0, none⟩ = some (.int .i64 m)) (h1 : 1 ≤ sep.size) :
    Calls Tryz.prog 23 #[.string s, .string sep] w fun e w' =>
      e = .returned (.slice (some ⟨w.heap.size, 0, none⟩) (Lib.countB s sep + 1) (Lib.countB s sep + 1)) ∧ w' = w.alloc (.cells ((Lib.splitB sep 0 (Lib.countB s sep) s).map Value.string).toArray 9) := Any.strings_Split Tryz.lays146 (by kernel_rfl) s sep m w hs hm h1
end Go.Proofs

namespace Go.Sx
open Go
set_option maxRecDepth 100000
set_option linter.unusedVariables false
set_option linter.unusedSimpArgs false
set_option maxHeartbeats 2000000

def cPool : Ctr := ⟨27, [.val false TI pF], fun x => True, fun x => (sBool (poolV x.1), [])⟩
theorem cPool_ok : CtrOk Proofs.Tryz.prog cPool := by
  have hP := (Prg.none ttok mtok)
  refine ctr_of_body hP cPool (fn := Proofs.Tryz.f27) (rts := [.tmp 2]) Proofs.Tryz.func27 rfl (by kernel_rfl) rfl rfl ?_
  rintro ⟨(n : Int), ⟨⟩⟩ _ hpre
  try dsimp only [Ty.den, Mode.den, mdens] at hpre
  refine ⟨rfl, ?_⟩
  refine sw_seq ?_
  refine sw_region hP 1 [] rfl (by kernel_rfl) (fun _ => by kernel_rfl) (by first | trivial | (simp [conj]; done) | (simp [conj] at *; (try dsimp only [Ty.den, Ty.dflt] at *); omega)) ?_
  refine sw_seq ?_
  refine sw_dec hP 2 [] 2 rfl (fun g1_2 => ?_) (fun g1_2 => ?_)
  · skip
    refine sw_region hP 2 [(2, true)] rfl (by kernel_rfl) (fun _ => by kernel_rfl) (by first | trivial | (simp [conj]; done) | (simp [conj] at *; (try dsimp only [Ty.den, Ty.dflt] at *); omega)) ?_
    refine sw_ret ⟨.inl rfl, _, rfl, ?_⟩
    simp [conj, poolV, inV] at *
    try omega
  · skip
    refine sw_region hP 2 [(2, false)] rfl (by kernel_rfl) (fun _ => by kernel_rfl) (by first | trivial | (simp [conj]; done) | (simp [conj] at *; (try dsimp only [Ty.den, Ty.dflt] at *); omega)) ?_
    refine sw_ret ⟨.inl rfl, _, rfl, ?_⟩
    simp [conj, poolV, inV] at *
    try omega

def cNone : Ctr := ⟨70, [.val true T_Ptr (.all .b)], fun x => True, fun x => (sBool (noneV x.1), [])⟩
theorem cNone_ok : CtrOk Proofs.Tryz.prog cNone := by
  have hP := (Prg.none ttok mtok)
  refine ctr_of_body hP cNone (fn := Proofs.Tryz.f70) (rts := [.tmp 2]) Proofs.Tryz.func70 rfl (by kernel_rfl) rfl rfl ?_
  rintro ⟨⟨(sz : Int), (sm : Int), (pl : List Plc)⟩, ⟨⟩⟩ _ hpre
  try dsimp only [Ty.den, Mode.den, mdens] at hpre
  refine ⟨rfl, ?_⟩
  refine sw_seq ?_
  refine sw_region hP 1 [] rfl (by kernel_rfl) (fun _ => by kernel_rfl) (by first | trivial | (simp [conj]; done) | (simp [conj] at *; (try dsimp only [Ty.den, Ty.dflt] at *); omega)) ?_
  refine sw_seq ?_
  refine sw_dec hP 2 [] 3 rfl (fun g1_3 => ?_) (fun g1_3 => ?_)
  · skip
    refine sw_dec hP 2 [(3, true)] 8 rfl (fun g1_8 => ?_) (fun g1_8 => ?_)
    · skip
      refine sw_region hP 2 [(3, true), (8, true)] rfl (by kernel_rfl) (fun _ => by kernel_rfl) (by first | trivial | (simp [conj]; done) | (simp [conj] at *; (try dsimp only [Ty.den, Ty.dflt] at *); omega)) ?_
      refine sw_ret ⟨.inl rfl, _, rfl, ?_⟩
      simp [conj, noneV, *]
    · skip
      refine sw_region hP 2 [(3, true), (8, false)] rfl (by kernel_rfl) (fun _ => by kernel_rfl) (by first | trivial | (simp [conj]; done) | (simp [conj] at *; (try dsimp only [Ty.den, Ty.dflt] at *); omega)) ?_
      refine sw_ret ⟨.inl rfl, _, rfl, ?_⟩
      simp [conj, noneV, *]
  · skip
    refine sw_region hP 2 [(3, false)] rfl (by kernel_rfl) (fun _ => by kernel_rfl) (by first | trivial | (simp [conj]; done) | (simp [conj] at *; (try dsimp only [Ty.den, Ty.dflt] at *); omega)) ?_
    refine sw_ret ⟨.inl rfl, _, rfl, ?_⟩
    simp [conj, noneV, *]

def cMost : Ctr := ⟨86, [.val false TI pF], fun x => poolV x.1 = true, fun x => (sInt .i64 (mostV x.1), [])⟩
theorem cMost_ok : CtrOk Proofs.Tryz.prog cMost := by
  have hP := (Prg.none ttok mtok)
  refine ctr_of_body hP cMost (fn := Proofs.Tryz.f86) (rts := [.tmp 2]) Proofs.Tryz.func86 rfl (by kernel_rfl) rfl rfl ?_
  rintro ⟨(d : Int), ⟨⟩⟩ _ hpre
  try dsimp only [Ty.den, Mode.den, mdens] at hpre
  refine ⟨rfl, ?_⟩
  replace hpre : poolV d = true := hpre
  have hb : 3 ≤ d ∧ d ≤ 4 := by simpa [poolV, inV] using hpre
  have hmm := sMin_bd d hb
  refine sw_seq ?_
  refine sw_region hP 1 [] rfl (by kernel_rfl) (fun _ => by kernel_rfl) (by first | trivial | (simp [conj]; done) | (simp [conj] at *; (try dsimp only [Ty.den, Ty.dflt] at *); omega)) ?_
  refine sw_seq ?_
  refine sw_region hP 2 [] rfl (by kernel_rfl) (fun _ => by kernel_rfl) ?_ ?_
  · skip
    simp only [conj, List.nil_append, List.cons_append, List.append_nil, List.append_assoc, inR_i64, true_and, and_true, Int.toNat_natCast]
    try dsimp only [Ty.den, Ty.dflt]
    repeat' apply And.intro
    all_goals first | omega | (show _ ≤ 3 * sMin 3 (d - 1); omega) | (show 3 * sMin 3 (d - 1) ≤ _; omega)
  refine sw_ret ⟨.inl rfl, _, rfl, ?_⟩
  simp [conj, mostV]

def cCols : Ctr := ⟨87, [.val false TI pF], fun x => 0 ≤ x.1 ∧ x.1 ≤ 1000000, fun x => (sInt .i64 (colsV x.1), [])⟩
theorem cCols_ok : CtrOk Proofs.Tryz.prog cCols := by
  have hP := (Prg.none ttok mtok)
  refine ctr_of_body hP cCols (fn := Proofs.Tryz.f87) (rts := [.tmp 2]) Proofs.Tryz.func87 rfl (by kernel_rfl) rfl rfl ?_
  rintro ⟨(n : Int), ⟨⟩⟩ _ ⟨h0, h1⟩
  try dsimp only [Ty.den, Mode.den, mdens] at h0
  try dsimp only [Ty.den, Mode.den, mdens] at h1
  refine ⟨rfl, ?_⟩
  have hq := colsV_bd h0 h1
  unfold colsV at hq
  refine sw_seq ?_
  refine sw_region hP 1 [] rfl (by kernel_rfl) (fun _ => by kernel_rfl) (by first | trivial | (simp [conj]; done) | (simp [conj] at *; (try dsimp only [Ty.den, Ty.dflt] at *); omega)) ?_
  refine sw_seq ?_
  refine sw_region hP 2 [] rfl (by kernel_rfl) (fun _ => by kernel_rfl) ?_ ?_
  · skip
    simp only [conj, List.nil_append, List.cons_append, List.append_nil, List.append_assoc, inR_i64, true_and, and_true, Int.toNat_natCast]
    try dsimp only [Ty.den, Ty.dflt]
    repeat' apply And.intro
    all_goals first | rfl | omega | assumption | trivial
  refine sw_ret ⟨.inl rfl, _, rfl, ?_⟩
  simp [conj, colsV]

def cPlOk : Ctr := ⟨88, [.val true T_Place pF, .val false TI pF], fun x => True, fun x => (sBool (placeV x.2.1 x.1), [])⟩
theorem cPlOk_ok : CtrOk Proofs.Tryz.prog cPlOk := by
  have hP := (Prg.none ttok mtok)
  refine ctr_of_body hP cPlOk (fn := Proofs.Tryz.f88) (rts := [.tmp 4]) Proofs.Tryz.func88 rfl (by kernel_rfl) rfl rfl ?_
  rintro ⟨⟨(a : Int), (b : Int)⟩, (d : Int), ⟨⟩⟩ _ hpre
  try dsimp only [Ty.den, Mode.den, mdens] at hpre
  refine ⟨rfl, ?_⟩
  refine sw_seq ?_
  refine sw_region hP 1 [] rfl (by kernel_rfl) (fun _ => by kernel_rfl) (by first | trivial | (simp [conj]; done) | (simp [conj] at *; (try dsimp only [Ty.den, Ty.dflt] at *); omega)) ?_
  refine sw_seq ?_
  refine sw_dec hP 2 [] 3 rfl (fun g1_3 => ?_) (fun g1_3 => ?_)
  · skip
    refine sw_dec hP 2 [(3, true)] 9 rfl (fun g1_9 => ?_) (fun g1_9 => ?_)
    · skip
      refine sw_dec hP 2 [(3, true), (9, true)] 14 rfl (fun g1_14 => ?_) (fun g1_14 => ?_)
      · skip
        refine sw_region hP 2 [(3, true), (9, true), (14, true)] rfl (by kernel_rfl) (fun _ => by kernel_rfl) (by first | trivial | (simp [conj]; done) | (simp [conj] at *; (try dsimp only [Ty.den, Ty.dflt] at *); omega)) ?_
        refine sw_ret ⟨.inl rfl, _, rfl, ?_⟩
        simp [conj, placeV, *]
      · skip
        refine sw_region hP 2 [(3, true), (9, true), (14, false)] rfl (by kernel_rfl) (fun _ => by kernel_rfl) (by first | trivial | (simp [conj]; done) | (simp [conj] at *; (try dsimp only [Ty.den, Ty.dflt] at *); omega)) ?_
        refine sw_ret ⟨.inl rfl, _, rfl, ?_⟩
        simp [conj, placeV, *]
    · skip
      refine sw_region hP 2 [(3, true), (9, false)] rfl (by kernel_rfl) (fun _ => by kernel_rfl) (by first | trivial | (simp [conj]; done) | (simp [conj] at *; (try dsimp only [Ty.den, Ty.dflt] at *); omega)) ?_
      refine sw_ret ⟨.inl rfl, _, rfl, ?_⟩
      simp [conj, placeV, *]
  · skip
    refine sw_region hP 2 [(3, false)] rfl (by kernel_rfl) (fun _ => by kernel_rfl) (by first | trivial | (simp [conj]; done) | (simp [conj] at *; (try dsimp only [Ty.den, Ty.dflt] at *); omega)) ?_
    refine sw_ret ⟨.inl rfl, _, rfl, ?_⟩
    simp [conj, placeV, *]

def cPtr1 : Ctr := ⟨90, [.val true T_Place pF, .rp T_Place pF], fun x => True, fun x => (sBool (decide (x.1.1 = x.2.1.1)), [])⟩
theorem cPtr1_ok : CtrOk Proofs.Tryz.prog cPtr1 := by
  have hP := (Prg.none ttok mtok)
  refine ctr_of_body hP cPtr1 (fn := Proofs.Tryz.f90) (rts := [.tmp 3]) Proofs.Tryz.func90 rfl (by kernel_rfl) rfl rfl ?_
  rintro ⟨⟨(a : Int), (b : Int)⟩, ⟨(c : Int), (e : Int)⟩, ⟨⟩⟩ _ hpre
  try dsimp only [Ty.den, Mode.den, mdens] at hpre
  refine ⟨rfl, ?_⟩
  refine sw_seq ?_
  refine sw_region hP 1 [] rfl (by kernel_rfl) (fun _ => by kernel_rfl) (by first | trivial | (simp [conj]; done) | (simp [conj] at *; (try dsimp only [Ty.den, Ty.dflt] at *); omega)) ?_
  refine sw_seq ?_
  refine sw_region hP 2 [] rfl (by kernel_rfl) (fun _ => by kernel_rfl) (by first | trivial | (simp [conj]; done) | (simp [conj] at *; (try dsimp only [Ty.den, Ty.dflt] at *); omega)) ?_
  refine sw_ret ⟨.inl rfl, _, rfl, ?_⟩
  simp [conj]

def cIdxPl : Ctr := ⟨111, [.val false (.sl T_Place) (.all .b), .clo 90 [(false, T_Place, pF)]], fun _ => True, fun x => (sInt .i64 (idxF (fun q : Plc => decide (q.1 = x.2.1.1.1)) x.1), [])⟩
theorem cIdxPl_ok : CtrOk Proofs.Tryz.prog cIdxPl := by
  have hP := ((Prg.none ttok mtok).and cPtr1_ok)
  refine ctr_of_body hP cIdxPl (fn := Proofs.Tryz.f111) (rts := [.tmp 4]) Proofs.Tryz.func111 rfl (by kernel_rfl) rfl rfl ?_
  rintro ⟨(l : List Plc), ⟨(y : Plc), ⟨⟩⟩, ⟨⟩⟩ ⟨hdl, _⟩ hpre
  try dsimp only [Ty.den, Mode.den, mdens] at hpre
  refine ⟨rfl, ?_⟩
  have hml : l.length ≤ 140737488355328 := hdl.1
  refine sw_seq ?_
  refine sw_region hP 1 [] rfl (by kernel_rfl) (fun _ => by kernel_rfl) (by first | trivial | (simp [conj]; done) | (simp [conj] at *; (try dsimp only [Ty.den, Ty.dflt] at *); omega)) ?_
  refine sw_seq ?_
  refine sw_seq ?_
  refine sw_region hP 2 [] rfl (by kernel_rfl) (fun _ => by kernel_rfl) (by first | trivial | (simp [conj]; done) | (simp [conj] at *; (try dsimp only [Ty.den, Ty.dflt] at *); omega)) ?_
  refine sw_block ?_
  refine sw_loop (ι := Nat) (fun i => ⟨[.v false [.d (.sl T_Place) (.all .b) l], .fn 90 [.rpt .b T_Place pF y], .junk, .junk, .junk, .junk, .junk, sInt .i64 (l.length : Int), sInt .i64 (i : Int), .junk, .junk, .junk, .junk, .junk, .junk, .junk, .junk, .junk, .junk], [], 2, []⟩) (fun i => l.length - i) (fun i => i ≤ l.length ∧ idxFGo (fun q : Plc => decide (q.1 = y.1)) (l.drop i) i = idxF (fun q : Plc => decide (q.1 = y.1)) l) 0 ⟨?_, ?_⟩ ?_
  · skip
    exact ⟨Nat.zero_le _, rfl⟩
  · refine ent_ok rfl ?_
    first | trivial | (simp [conj]; done) | (simp [conj] at *; (try dsimp only [Ty.den, Ty.dflt] at *); omega)
  · rintro i ⟨hi, hgo⟩
    refine sw_seq ?_
    refine sw_region hP 3 [] rfl (by kernel_rfl) (fun _ => by kernel_rfl) (by first | trivial | (simp [conj]; done) | (simp [conj] at *; (try dsimp only [Ty.den, Ty.dflt] at *); omega)) ?_
    refine sw_seq ?_
    refine sw_cond rfl (fun c2 => ?_) (fun c2 => ?_)
    · skip
      have hlt : i < l.length := by simpa using c2
      refine sw_skip ?_
      refine sw_seq ?_
      refine sw_block ?_
      refine sw_seq ?_
      refine sw_region hP 4 [] rfl (by kernel_rfl) (fun _ => by kernel_rfl) (by first | trivial | (simp [conj]; done) | (simp [conj] at *; (try dsimp only [Ty.den, Ty.dflt] at *); omega)) ?_
      refine sw_seq ?_
      refine sw_region hP 5 [] rfl (by kernel_rfl) (fun _ => by kernel_rfl) ?_ ?_
      · skip
        simp [conj, maxL]
        try dsimp only [Ty.den, Ty.dflt]
        try simp only [rd_eta]
        repeat' apply And.intro
        all_goals first | assumption | omega | exact trivial
      refine sw_cond rfl (fun c4 => ?_) (fun c4 => ?_)
      · skip
        replace c4 : (fun q : Plc => decide (q.1 = y.1)) l[i] = true := by simpa [List.getElem?_eq_getElem hlt] using c4
        refine sw_seq ?_
        refine sw_region hP 6 [] rfl (by kernel_rfl) (fun _ => by kernel_rfl) (by first | trivial | (simp [conj]; done) | (simp [conj] at *; (try dsimp only [Ty.den, Ty.dflt] at *); omega)) ?_
        refine sw_ret ⟨.inl rfl, _, rfl, ?_⟩
        simp [conj, idxF_hit hlt hgo c4]
      · skip
        replace c4 : (fun q : Plc => decide (q.1 = y.1)) l[i] = false := by simpa [List.getElem?_eq_getElem hlt] using c4
        refine sw_skip ?_
        refine sw_region hP 6 [] rfl (by kernel_rfl) (fun _ => by kernel_rfl) (by first | trivial | (simp [conj]; done) | (simp [conj] at *; (try dsimp only [Ty.den, Ty.dflt] at *); omega)) ?_
        refine ⟨i + 1, ?_, ?_, ent_ok rfl ?_⟩
        · skip
          exact ⟨hlt, idxF_next hlt hgo c4⟩
        · skip
          omega
        · skip
          simp [conj, maxL]
          try dsimp only [Ty.den, Ty.dflt]
          try simp only [rd_eta]
          repeat' apply And.intro
          all_goals first | rfl | assumption | omega
    · skip
      obtain rfl : i = l.length := by simp at c2; omega
      refine sw_exit ?_
      refine sw_seq ?_
      refine sw_region hP 4 [] rfl (by kernel_rfl) (fun _ => by kernel_rfl) (by first | trivial | (simp [conj]; done) | (simp [conj] at *; (try dsimp only [Ty.den, Ty.dflt] at *); omega)) ?_
      refine sw_ret ⟨.inl rfl, _, rfl, ?_⟩
      simp [conj, idxF_end hgo]

def cContPl : Ctr := ⟨89, [.val false (.sl T_Place) (.all .b), .clo 90 [(false, T_Place, pF)]], fun _ => True, fun x => (sBool (List.any x.1 (fun q : Plc => decide (q.1 = x.2.1.1.1))), [])⟩
theorem cContPl_ok : CtrOk Proofs.Tryz.prog cContPl := by
  have hP := ((Prg.none ttok mtok).and cIdxPl_ok)
  refine ctr_of_body hP cContPl (fn := Proofs.Tryz.f89) (rts := [.tmp 4]) Proofs.Tryz.func89 rfl (by kernel_rfl) rfl rfl ?_
  rintro ⟨(l : List Plc), ⟨(y : Plc), ⟨⟩⟩, ⟨⟩⟩ _ hpre
  try dsimp only [Ty.den, Mode.den, mdens] at hpre
  refine ⟨rfl, ?_⟩
  refine sw_seq ?_
  refine sw_region hP 1 [] rfl (by kernel_rfl) (fun _ => by kernel_rfl) (by first | trivial | (simp [conj]; done) | (simp [conj] at *; (try dsimp only [Ty.den, Ty.dflt] at *); omega)) ?_
  refine sw_seq ?_
  refine sw_region hP 2 [] rfl (by kernel_rfl) (fun _ => by kernel_rfl) (by first | trivial | (simp [conj]; done) | (simp [conj] at *; (try dsimp only [Ty.den, Ty.dflt] at *); omega)) ?_
  refine sw_ret ⟨.inl rfl, _, rfl, ?_⟩
  simp [conj]
  exact idxF_any

def cPtrOk : Ctr := ⟨60, [.val false TI pF, .val true T_Ptr (.all .b)], fun x => True, fun x => (sBool (ptrV x.1 x.2.1), [])⟩
theorem cPtrOk_ok : CtrOk Proofs.Tryz.prog cPtrOk := by
  have hP := (((((((Prg.none ttok mtok).and cPool_ok).and cNone_ok).and cMost_ok).and cCols_ok).and cPlOk_ok).and cContPl_ok)
  refine ctr_of_body hP cPtrOk (fn := Proofs.Tryz.f60) (rts := [.tmp 4]) Proofs.Tryz.func60 rfl (by kernel_rfl) rfl rfl ?_
  rintro ⟨(d : Int), ⟨(sz : Int), (sm : Int), (pl : List Plc)⟩, ⟨⟩⟩ ⟨_, ⟨_, _, hpl0⟩, _⟩ _
  try dsimp only [Ty.den, Mode.den, mdens] at _
  refine ⟨rfl, ?_⟩
  have hml : pl.length ≤ 140737488355328 := hpl0.1
  refine sw_seq ?_
  refine sw_region hP 1 [] rfl (by kernel_rfl) (fun _ => by kernel_rfl) (by first | trivial | (simp [conj]; done) | (simp [conj] at *; (try dsimp only [Ty.den, Ty.dflt] at *); omega)) ?_
  refine sw_seq ?_
  refine sw_seq ?_
  refine sw_region hP 2 [] rfl (by kernel_rfl) (fun _ => by kernel_rfl) ?_ ?_
  · skip
    simp [conj, maxL]
    try dsimp only [Ty.den, Ty.dflt]
    try simp only [rd_eta]
    repeat' apply And.intro
    all_goals first | rfl | assumption | omega | trivial
  refine sw_cond rfl (fun c1 => ?_) (fun c1 => ?_)
  · skip
    replace c1 : poolV d = false := by simpa using c1
    refine sw_seq ?_
    refine sw_region hP 3 [] rfl (by kernel_rfl) (fun _ => by kernel_rfl) (by first | trivial | (simp [conj]; done) | (simp [conj] at *; (try dsimp only [Ty.den, Ty.dflt] at *); omega)) ?_
    refine sw_ret ⟨.inl rfl, _, rfl, ?_⟩
    simp [conj, ptrV, c1]
  · skip
    replace c1 : poolV d = true := by simpa using c1
    have hb : 3 ≤ d ∧ d ≤ 4 := by simpa [poolV, inV] using c1
    have hmm := sMin_bd d hb
    have hmv : mostV d = 3 * (d - 1) := by unfold mostV; rw [hmm]
    refine sw_skip ?_
    refine sw_seq ?_
    refine sw_seq ?_
    refine sw_region hP 3 [] rfl (by kernel_rfl) (fun _ => by kernel_rfl) ?_ ?_
    · skip
      simp [conj, maxL]
      try dsimp only [Ty.den, Ty.dflt]
      try simp only [rd_eta]
      repeat' apply And.intro
      all_goals first | rfl | assumption | omega | trivial
    refine sw_cond rfl (fun c3 => ?_) (fun c3 => ?_)
    · skip
      replace c3 : noneV ((sz, sm, pl) : Ptr_) = true := c3
      refine sw_seq ?_
      refine sw_region hP 4 [] rfl (by kernel_rfl) (fun _ => by kernel_rfl) (by first | trivial | (simp [conj]; done) | (simp [conj] at *; (try dsimp only [Ty.den, Ty.dflt] at *); omega)) ?_
      refine sw_ret ⟨.inl rfl, _, rfl, ?_⟩
      simp [conj, ptrV, c1, c3]
    · skip
      replace c3 : noneV ((sz, sm, pl) : Ptr_) = false := c3
      refine sw_skip ?_
      refine sw_seq ?_
      refine sw_seq ?_
      refine sw_dec hP 4 [] 3 rfl (fun g5_3 => ?_) (fun g5_3 => ?_)
      · skip
        have hsz : sizeV d ((sz, sm, pl) : Ptr_) = false := by
          have h : sz < 1 := of_decide_eq_true g5_3
          simp [sizeV, inV]; omega
        refine sw_region hP 4 [(3, true)] rfl (by kernel_rfl) (fun _ => by kernel_rfl) ?_ ?_
        · skip
          simp only [conj, List.nil_append, List.cons_append, List.append_nil, List.append_assoc, inR_i64, true_and, and_true, Int.toNat_natCast]
          try dsimp only [Ty.den, Ty.dflt]
          repeat' apply And.intro
          all_goals first | trivial | assumption | omega | (show 0 ≤ sz; omega) | (show sz ≤ 1000000; omega) | exact decide_eq_false g5_3 | exact decide_eq_false g5_10 | exact decide_eq_false g5_15 | exact decide_eq_false g5_20
        refine sw_condT rfl ?_
        refine sw_seq ?_
        refine sw_region hP 5 [] rfl (by kernel_rfl) (fun _ => by kernel_rfl) (by first | trivial | (simp [conj]; done) | (simp [conj] at *; (try dsimp only [Ty.den, Ty.dflt] at *); omega)) ?_
        refine sw_ret ⟨.inl rfl, _, rfl, ?_⟩
        simp [conj, ptrV, c1, c3, hsz]
      · skip
        replace g5_3 : ¬ sz < 1 := of_decide_eq_false g5_3
        refine sw_dec hP 4 [(3, false)] 10 rfl (fun g5_10 => ?_) (fun g5_10 => ?_)
        · skip
          have hsz : sizeV d ((sz, sm, pl) : Ptr_) = false := by
            have h : mostV d < sz := of_decide_eq_true g5_10
            simp [sizeV, inV]; omega
          refine sw_region hP 4 [(3, false), (10, true)] rfl (by kernel_rfl) (fun _ => by kernel_rfl) ?_ ?_
          · skip
            simp only [conj, List.nil_append, List.cons_append, List.append_nil, List.append_assoc, inR_i64, true_and, and_true, Int.toNat_natCast]
            try dsimp only [Ty.den, Ty.dflt]
            repeat' apply And.intro
            all_goals first | trivial | assumption | omega | (show 0 ≤ sz; omega) | (show sz ≤ 1000000; omega) | exact decide_eq_false g5_3 | exact decide_eq_false g5_10 | exact decide_eq_false g5_15 | exact decide_eq_false g5_20
          refine sw_condT rfl ?_
          refine sw_seq ?_
          refine sw_region hP 5 [] rfl (by kernel_rfl) (fun _ => by kernel_rfl) (by first | trivial | (simp [conj]; done) | (simp [conj] at *; (try dsimp only [Ty.den, Ty.dflt] at *); omega)) ?_
          refine sw_ret ⟨.inl rfl, _, rfl, ?_⟩
          simp [conj, ptrV, c1, c3, hsz]
        · skip
          replace g5_10 : ¬ mostV d < sz := of_decide_eq_false g5_10
          refine sw_dec hP 4 [(3, false), (10, false)] 15 rfl (fun g5_15 => ?_) (fun g5_15 => ?_)
          · skip
            have hsz : sizeV d ((sz, sm, pl) : Ptr_) = false := by
              have h : sm < 0 := of_decide_eq_true g5_15
              simp [sizeV, inV]; omega
            refine sw_region hP 4 [(3, false), (10, false), (15, true)] rfl (by kernel_rfl) (fun _ => by kernel_rfl) ?_ ?_
            · skip
              simp only [conj, List.nil_append, List.cons_append, List.append_nil, List.append_assoc, inR_i64, true_and, and_true, Int.toNat_natCast]
              try dsimp only [Ty.den, Ty.dflt]
              repeat' apply And.intro
              all_goals first | trivial | assumption | omega | (show 0 ≤ sz; omega) | (show sz ≤ 1000000; omega) | exact decide_eq_false g5_3 | exact decide_eq_false g5_10 | exact decide_eq_false g5_15 | exact decide_eq_false g5_20
            refine sw_condT rfl ?_
            refine sw_seq ?_
            refine sw_region hP 5 [] rfl (by kernel_rfl) (fun _ => by kernel_rfl) (by first | trivial | (simp [conj]; done) | (simp [conj] at *; (try dsimp only [Ty.den, Ty.dflt] at *); omega)) ?_
            refine sw_ret ⟨.inl rfl, _, rfl, ?_⟩
            simp [conj, ptrV, c1, c3, hsz]
          · skip
            replace g5_15 : ¬ sm < 0 := of_decide_eq_false g5_15
            refine sw_dec hP 4 [(3, false), (10, false), (15, false)] 20 rfl (fun g5_20 => ?_) (fun g5_20 => ?_)
            · skip
              have hsz : sizeV d ((sz, sm, pl) : Ptr_) = false := by
                have h : 1000000000 < sm := of_decide_eq_true g5_20
                simp [sizeV, inV]; omega
              refine sw_region hP 4 [(3, false), (10, false), (15, false), (20, true)] rfl (by kernel_rfl) (fun _ => by kernel_rfl) ?_ ?_
              · skip
                simp only [conj, List.nil_append, List.cons_append, List.append_nil, List.append_assoc, inR_i64, true_and, and_true, Int.toNat_natCast]
                try dsimp only [Ty.den, Ty.dflt]
                repeat' apply And.intro
                all_goals first | trivial | assumption | omega | (show 0 ≤ sz; omega) | (show sz ≤ 1000000; omega) | exact decide_eq_false g5_3 | exact decide_eq_false g5_10 | exact decide_eq_false g5_15 | exact decide_eq_false g5_20
              refine sw_condT rfl ?_
              refine sw_seq ?_
              refine sw_region hP 5 [] rfl (by kernel_rfl) (fun _ => by kernel_rfl) (by first | trivial | (simp [conj]; done) | (simp [conj] at *; (try dsimp only [Ty.den, Ty.dflt] at *); omega)) ?_
              refine sw_ret ⟨.inl rfl, _, rfl, ?_⟩
              simp [conj, ptrV, c1, c3, hsz]
            · skip
              replace g5_20 : ¬ 1000000000 < sm := of_decide_eq_false g5_20
              have hcb := colsV_bd (n := sz) (by omega) (by omega)
              refine sw_region hP 4 [(3, false), (10, false), (15, false), (20, false)] rfl (by kernel_rfl) (fun _ => by kernel_rfl) ?_ ?_
              · skip
                simp only [conj, List.nil_append, List.cons_append, List.append_nil, List.append_assoc, inR_i64, true_and, and_true, Int.toNat_natCast]
                try dsimp only [Ty.den, Ty.dflt]
                repeat' apply And.intro
                all_goals first | trivial | assumption | omega | (show 0 ≤ sz; omega) | (show sz ≤ 1000000; omega) | exact decide_eq_false g5_3 | exact decide_eq_false g5_10 | exact decide_eq_false g5_15 | exact decide_eq_false g5_20
              refine sw_cond rfl (fun c5 => ?_) (fun c5 => ?_)
              · skip
                have hsz : sizeV d ((sz, sm, pl) : Ptr_) = false := by
                  have h : (!decide ((pl.length : Int) = colsV sz + 1)) = true := c5
                  simp [sizeV] at h ⊢; intros; omega
                refine sw_seq ?_
                refine sw_region hP 5 [] rfl (by kernel_rfl) (fun _ => by kernel_rfl) (by first | trivial | (simp [conj]; done) | (simp [conj] at *; (try dsimp only [Ty.den, Ty.dflt] at *); omega)) ?_
                refine sw_ret ⟨.inl rfl, _, rfl, ?_⟩
                simp [conj, ptrV, c1, c3, hsz]
              · skip
                have hsz : sizeV d ((sz, sm, pl) : Ptr_) = true := by
                  have h : (!decide ((pl.length : Int) = colsV sz + 1)) = false := c5
                  simp [sizeV, inV] at h ⊢; omega
                refine sw_skip ?_
                refine sw_seq ?_
                refine sw_seq ?_
                refine sw_region hP 5 [] rfl (by kernel_rfl) (fun _ => by kernel_rfl) (by first | trivial | (simp [conj]; done) | (simp [conj] at *; (try dsimp only [Ty.den, Ty.dflt] at *); omega)) ?_
                refine sw_block ?_
                refine sw_loop (ι := Nat) (fun i => ⟨[sInt .i64 d, .junk, .junk, .v false [.ptr ⟨1, 0, 0⟩ 0], .junk, .junk, .junk, .junk, .junk, .junk, .junk, .junk, .junk, .junk, .junk, .junk, .junk, .junk, .junk, .junk, .junk, .junk, .junk, .junk, .junk, .junk, .junk, .junk, .junk, .junk, .junk, .junk, .junk, .junk, .junk, .junk, .junk, .junk, .junk, .junk, .junk, .junk, .junk, .v false [.d (.sl T_Place) (.all .b) pl], sInt .i64 (pl.length : Int), sInt .i64 (i : Int), .junk, .junk, .junk, .junk, .junk, .junk, .junk, .junk, .junk, .junk, .junk, .junk, .junk, .junk, .junk, .junk, .junk], [(⟨1, 0, 0⟩, .var [.d TI pF sz, .d TI pF sm, .d (.sl T_Place) (.all .b) pl])], 5, []⟩) (fun i => pl.length - i) (fun i => i ≤ pl.length ∧ chkGo (placeF d) (pl.take i) (pl.drop i) = chk (placeF d) pl) 0 ⟨?_, ?_⟩ ?_
                · skip
                  exact ⟨Nat.zero_le _, rfl⟩
                · refine ent_ok rfl ?_
                  simp [conj]
                · rintro i ⟨hi, hgo⟩
                  refine sw_seq ?_
                  refine sw_region hP 6 [] rfl (by kernel_rfl) (fun _ => by kernel_rfl) (by first | trivial | (simp [conj]; done) | (simp [conj] at *; (try dsimp only [Ty.den, Ty.dflt] at *); omega)) ?_
                  refine sw_seq ?_
                  refine sw_cond rfl (fun c8 => ?_) (fun c8 => ?_)
                  · skip
                    have hlt : i < pl.length := by simpa using c8
                    refine sw_skip ?_
                    refine sw_seq ?_
                    refine sw_block ?_
                    refine sw_seq ?_
                    refine sw_region hP 7 [] rfl (by kernel_rfl) (fun _ => by kernel_rfl) (by first | trivial | (simp [conj]; done) | (simp [conj] at *; (try dsimp only [Ty.den, Ty.dflt] at *); omega)) ?_
                    refine sw_seq ?_
                    refine sw_dec hP 8 [] 4 rfl (fun g10_4 => ?_) (fun g10_4 => ?_)
                    · skip
                      replace g10_4 : placeV d pl[i] = false := by simpa [List.getElem?_eq_getElem hlt] using g10_4
                      have hf : placeF d (pl.take i) pl[i] = false := by simp [placeF, g10_4]
                      refine sw_region hP 8 [(4, true)] rfl (by kernel_rfl) (fun _ => by kernel_rfl) ?_ ?_
                      · skip
                        simp [conj, List.getElem?_eq_getElem hlt]
                        repeat' apply And.intro
                        all_goals first | trivial | assumption | omega
                      refine sw_condT rfl ?_
                      refine sw_seq ?_
                      refine sw_region hP 9 [] rfl (by kernel_rfl) (fun _ => by kernel_rfl) (by first | trivial | (simp [conj]; done) | (simp [conj] at *; (try dsimp only [Ty.den, Ty.dflt] at *); omega)) ?_
                      refine sw_ret ⟨.inl rfl, _, rfl, ?_⟩
                      have hv := chk_hit hlt hgo hf
                      simp [conj, ptrV, c1, c3, hsz, hv]
                    · skip
                      replace g10_4 : placeV d pl[i] = true := by simpa [List.getElem?_eq_getElem hlt] using g10_4
                      refine sw_region hP 8 [(4, false)] rfl (by kernel_rfl) (fun _ => by kernel_rfl) ?_ ?_
                      · skip
                        simp [conj, List.getElem?_eq_getElem hlt]
                        repeat' apply And.intro
                        all_goals first | trivial | assumption | omega
                      refine sw_cond rfl (fun c10 => ?_) (fun c10 => ?_)
                      · skip
                        have hf : placeF d (pl.take i) pl[i] = false := by
                          have h : (pl.take i).any (fun q => decide (q.1 = pl[i].1)) = true := by simpa [List.getElem?_eq_getElem hlt] using c10
                          unfold placeF; rw [h]; simp
                        refine sw_seq ?_
                        refine sw_region hP 9 [] rfl (by kernel_rfl) (fun _ => by kernel_rfl) (by first | trivial | (simp [conj]; done) | (simp [conj] at *; (try dsimp only [Ty.den, Ty.dflt] at *); omega)) ?_
                        refine sw_ret ⟨.inl rfl, _, rfl, ?_⟩
                        have hv := chk_hit hlt hgo hf
                        simp [conj, ptrV, c1, c3, hsz, hv]
                      · skip
                        have hf : placeF d (pl.take i) pl[i] = true := by
                          have h : (pl.take i).any (fun q => decide (q.1 = pl[i].1)) = false := by simpa [List.getElem?_eq_getElem hlt] using c10
                          unfold placeF; rw [h, g10_4]; rfl
                        refine sw_skip ?_
                        refine sw_region hP 9 [] rfl (by kernel_rfl) (fun _ => by kernel_rfl) (by first | trivial | (simp [conj]; done) | (simp [conj] at *; (try dsimp only [Ty.den, Ty.dflt] at *); omega)) ?_
                        refine ⟨i + 1, ?_, ?_, ent_ok rfl ?_⟩
                        · skip
                          exact ⟨hlt, chk_next hlt hgo hf⟩
                        · skip
                          omega
                        · skip
                          simp [conj]
                  · skip
                    obtain rfl : i = pl.length := by simp at c8; omega
                    refine sw_exit ?_
                    refine sw_seq ?_
                    refine sw_region hP 7 [] rfl (by kernel_rfl) (fun _ => by kernel_rfl) (by first | trivial | (simp [conj]; done) | (simp [conj] at *; (try dsimp only [Ty.den, Ty.dflt] at *); omega)) ?_
                    refine sw_ret ⟨.inl rfl, _, rfl, ?_⟩
                    have hv := chk_end hgo
                    simp [conj, ptrV, c1, c3, hsz, hv]
end Go.Sx

namespace Go.Sx
open Go Go.RowKit
theorem volOk_eq (s : Str) : Proofs.volOk (mkS s) = nameV s := by
  have h : (mkS s).size = s.length := rfl
  have h2 : (mkS s).data.toList = s := rfl
  unfold Proofs.volOk nameV inV
  rw [h, h2, show (fun c : UInt8 => decide (97 ≤ c.toNat) && decide (c.toNat ≤ 122)) = lower from rfl]
  congr 1
  cases s with
  | nil => rfl
  | cons a l =>
    have e1 : ((a :: l).length == 0) = false := rfl
    rw [e1]
    simp only [Bool.not_false, Bool.true_and, List.length_cons]
    have e2 : decide ((1 : Int) ≤ ((l.length + 1 : Nat) : Int)) = true := by simp; omega
    rw [e2, Bool.true_and]
    exact decide_eq_decide.2 (by omega)
/-- a contract from a walk by the kit's own means, where nothing that lay has turned -/
theorem ctr_of_below {P : Program} {c : Ctr} {fn : Func} {body : Code} (hf : P.funcs[c.f]? = some fn) (hb : fn.body = some body) (hn : (fn.name == "runtime.NumGoroutine") = false) (href : noRefs c.ins = true)
    (h : ∀ G w args x, (∀ b, G.g b ≠ .no → b < w.heap.size) → Amb P G.g w → ArgsOk G w 0 c.ins x args → c.pre x → Calls P c.f args.toArray w fun e w' => ∃ v, e = .returned v ∧ Below w.heap.size w w' ∧ (∀ G', MtS G' w' (c.post x).1 v) ∧ (c.post x).2 = []) : CtrOk P c := by
  intro G w args x hbnd ham hargs hpre
  have hrun : (callFunc c.f args.toArray).run P w = .ok (.enter c.f args.toArray) w := by
    have hn' : ¬ fn.name = "runtime.NumGoroutine" := by simpa using hn
    simp [callFunc, hf, hn', hb]
  refine ⟨_, _, hrun, .inr (.inl ⟨rfl, ?_⟩)⟩
  intro cs
  obtain ⟨e, w', fr, ⟨v, rfl, hB, hm, hp⟩, h1, h2, h3⟩ := h G w args x hbnd ham hargs hpre cs
  refine ⟨_, w', fr, ?_, h1, h2, h3⟩
  let G' : Gh := ⟨fun _ => .bool false, G.g⟩
  have hk : ∀ b, G.g b ≠ .no → w'.heap[b]? = w.heap[b]? := fun b hb => hB.block b (hbnd b hb)
  refine ⟨G', ⟨fun _ h => h.elim, ⟨fun b hb => ⟨hb, hk b (by rw [hb]; simp)⟩, fun b hb => ⟨hb, hk b (by rw [hb]; simp)⟩⟩, fun b j q hg _ => ⟨hg, hk b (by rw [hg]; simp)⟩, fun b hlt hb => ⟨hB.block b hlt, hb⟩, fun b hb => Nat.lt_of_lt_of_le (hbnd b hb) hB.size, fun _ _ => rfl, hB.os, hB.tape, hB.output, hB.size⟩, fun _ => rfl, ?_, hm G', ?_⟩
  · rw [noRefs_ptr href]; intro p hp; cases hp
  · rw [hp]; intro i R hi; cases hi
def cVol : Ctr := ⟨55, [.val false .str pF], fun _ => True, fun x => (sBool (nameV x.1), [])⟩
theorem cVol_ok : CtrOk Proofs.Tryz.prog cVol := by
  refine ctr_of_below (fn := Proofs.Tryz.f55) Proofs.Tryz.func55 rfl rfl rfl ?_
  rintro G w args ⟨(s : Str), ⟨⟩⟩ _ _ ⟨v, vs, rfl, ⟨_, cs, rfl, _, ⟨rfl, hl⟩⟩, rfl⟩ _
  have h := Proofs.vol55_in Fence.wide 3 trivial trivial trivial rfl (Nat.le_refl _) (mkS s) (by exact hl) w
  refine (callsIn_wide.1 h).mono ?_
  rintro e w' ⟨rfl, hB⟩
  refine ⟨_, rfl, hB, fun G' => ?_, rfl⟩
  rw [volOk_eq]
  exact MtS.ofBool
end Go.Sx

namespace Go.Sx
open Go
set_option maxRecDepth 100000
set_option linter.unusedVariables false
set_option linter.unusedSimpArgs false
set_option maxHeartbeats 2000000

def cVols1 : Ctr := ⟨57, [.val true T_Vol (.all .b), .rp T_Vol (.all .b)], fun x => True, fun x => (sBool (decide ((x.1.1 : Str) = x.2.1.1)), [])⟩
theorem cVols1_ok : CtrOk Proofs.Tryz.prog cVols1 := by
  have hP := (Prg.none ttok mtok)
  refine ctr_of_body hP cVols1 (fn := Proofs.Tryz.f57) (rts := [.tmp 3]) Proofs.Tryz.func57 rfl (by kernel_rfl) rfl rfl ?_
  rintro ⟨⟨(a : Str), (b : List Ptr_)⟩, ⟨(c : Str), (e : List Ptr_)⟩, ⟨⟩⟩ _ hpre
  try dsimp only [Ty.den, Mode.den, mdens] at hpre
  refine ⟨rfl, ?_⟩
  refine sw_seq ?_
  refine sw_region hP 1 [] rfl (by kernel_rfl) (fun _ => by kernel_rfl) (by first | trivial | (simp [conj]; done) | (simp [conj] at *; (try dsimp only [Ty.den, Ty.dflt] at *); omega)) ?_
  refine sw_seq ?_
  refine sw_region hP 2 [] rfl (by kernel_rfl) (fun _ => by kernel_rfl) (by first | trivial | (simp [conj]; done) | (simp [conj] at *; (try dsimp only [Ty.den, Ty.dflt] at *); omega)) ?_
  refine sw_ret ⟨.inl rfl, _, rfl, ?_⟩
  simp [conj]

def cVols2 : Ctr := ⟨59, [.val true T_Ptr (.all .b), .rp TI pF], fun x => True, fun x => (sBool (!ptrV x.2.1 x.1), [])⟩
theorem cVols2_ok : CtrOk Proofs.Tryz.prog cVols2 := by
  have hP := ((Prg.none ttok mtok).and cPtrOk_ok)
  refine ctr_of_body hP cVols2 (fn := Proofs.Tryz.f59) (rts := [.tmp 3]) Proofs.Tryz.func59 rfl (by kernel_rfl) rfl rfl ?_
  rintro ⟨⟨(sz : Int), (sm : Int), (pl : List Plc)⟩, (d : Int), ⟨⟩⟩ _ hpre
  try dsimp only [Ty.den, Mode.den, mdens] at hpre
  refine ⟨rfl, ?_⟩
  refine sw_seq ?_
  refine sw_region hP 1 [] rfl (by kernel_rfl) (fun _ => by kernel_rfl) (by first | trivial | (simp [conj]; done) | (simp [conj] at *; (try dsimp only [Ty.den, Ty.dflt] at *); omega)) ?_
  refine sw_seq ?_
  refine sw_region hP 2 [] rfl (by kernel_rfl) (fun _ => by kernel_rfl) ?_ ?_
  · skip
    simp [conj, maxL]
    try dsimp only [Ty.den, Ty.dflt]
    try simp only [rd_eta]
    repeat' apply And.intro
    all_goals first | rfl | assumption | omega | trivial
  refine sw_ret ⟨.inl rfl, _, rfl, ?_⟩
  simp [conj]

def cIdxV1 : Ctr := ⟨84, [.val false (.sl T_Vol) (.all .b), .clo 57 [(false, T_Vol, (.all .b))]], fun _ => True, fun x => (sInt .i64 (idxF (fun w : Vol_ => decide (w.1 = x.2.1.1.1)) x.1), [])⟩
theorem cIdxV1_ok : CtrOk Proofs.Tryz.prog cIdxV1 := by
  have hP := ((Prg.none ttok mtok).and cVols1_ok)
  refine ctr_of_body hP cIdxV1 (fn := Proofs.Tryz.f84) (rts := [.tmp 4]) Proofs.Tryz.func84 rfl (by kernel_rfl) rfl rfl ?_
  rintro ⟨(l : List Vol_), ⟨(y : Vol_), ⟨⟩⟩, ⟨⟩⟩ ⟨hdl, _⟩ hpre
  try dsimp only [Ty.den, Mode.den, mdens] at hpre
  refine ⟨rfl, ?_⟩
  have hml : l.length ≤ 140737488355328 := hdl.1
  refine sw_seq ?_
  refine sw_region hP 1 [] rfl (by kernel_rfl) (fun _ => by kernel_rfl) (by first | trivial | (simp [conj]; done) | (simp [conj] at *; (try dsimp only [Ty.den, Ty.dflt] at *); omega)) ?_
  refine sw_seq ?_
  refine sw_seq ?_
  refine sw_region hP 2 [] rfl (by kernel_rfl) (fun _ => by kernel_rfl) (by first | trivial | (simp [conj]; done) | (simp [conj] at *; (try dsimp only [Ty.den, Ty.dflt] at *); omega)) ?_
  refine sw_block ?_
  refine sw_loop (ι := Nat) (fun i => ⟨[.v false [.d (.sl T_Vol) (.all .b) l], .fn 57 [.rpt .b T_Vol (.all .b) y], .junk, .junk, .junk, .junk, .junk, sInt .i64 (l.length : Int), sInt .i64 (i : Int), .junk, .junk, .junk, .junk, .junk, .junk, .junk, .junk, .junk, .junk], [], 2, []⟩) (fun i => l.length - i) (fun i => i ≤ l.length ∧ idxFGo (fun w : Vol_ => decide (w.1 = y.1)) (l.drop i) i = idxF (fun w : Vol_ => decide (w.1 = y.1)) l) 0 ⟨?_, ?_⟩ ?_
  · skip
    exact ⟨Nat.zero_le _, rfl⟩
  · refine ent_ok rfl ?_
    first | trivial | (simp [conj]; done) | (simp [conj] at *; (try dsimp only [Ty.den, Ty.dflt] at *); omega)
  · rintro i ⟨hi, hgo⟩
    refine sw_seq ?_
    refine sw_region hP 3 [] rfl (by kernel_rfl) (fun _ => by kernel_rfl) (by first | trivial | (simp [conj]; done) | (simp [conj] at *; (try dsimp only [Ty.den, Ty.dflt] at *); omega)) ?_
    refine sw_seq ?_
    refine sw_cond rfl (fun c2 => ?_) (fun c2 => ?_)
    · skip
      have hlt : i < l.length := by simpa using c2
      refine sw_skip ?_
      refine sw_seq ?_
      refine sw_block ?_
      refine sw_seq ?_
      refine sw_region hP 4 [] rfl (by kernel_rfl) (fun _ => by kernel_rfl) (by first | trivial | (simp [conj]; done) | (simp [conj] at *; (try dsimp only [Ty.den, Ty.dflt] at *); omega)) ?_
      refine sw_seq ?_
      refine sw_region hP 5 [] rfl (by kernel_rfl) (fun _ => by kernel_rfl) ?_ ?_
      · skip
        simp [conj, maxL]
        try dsimp only [Ty.den, Ty.dflt]
        try simp only [rd_eta]
        repeat' apply And.intro
        all_goals first | assumption | omega | exact trivial
      refine sw_cond rfl (fun c4 => ?_) (fun c4 => ?_)
      · skip
        replace c4 : (fun w : Vol_ => decide (w.1 = y.1)) l[i] = true := by simpa [List.getElem?_eq_getElem hlt] using c4
        refine sw_seq ?_
        refine sw_region hP 6 [] rfl (by kernel_rfl) (fun _ => by kernel_rfl) (by first | trivial | (simp [conj]; done) | (simp [conj] at *; (try dsimp only [Ty.den, Ty.dflt] at *); omega)) ?_
        refine sw_ret ⟨.inl rfl, _, rfl, ?_⟩
        simp [conj, idxF_hit hlt hgo c4]
      · skip
        replace c4 : (fun w : Vol_ => decide (w.1 = y.1)) l[i] = false := by simpa [List.getElem?_eq_getElem hlt] using c4
        refine sw_skip ?_
        refine sw_region hP 6 [] rfl (by kernel_rfl) (fun _ => by kernel_rfl) (by first | trivial | (simp [conj]; done) | (simp [conj] at *; (try dsimp only [Ty.den, Ty.dflt] at *); omega)) ?_
        refine ⟨i + 1, ?_, ?_, ent_ok rfl ?_⟩
        · skip
          exact ⟨hlt, idxF_next hlt hgo c4⟩
        · skip
          omega
        · skip
          simp [conj, maxL]
          try dsimp only [Ty.den, Ty.dflt]
          try simp only [rd_eta]
          repeat' apply And.intro
          all_goals first | rfl | assumption | omega
    · skip
      obtain rfl : i = l.length := by simp at c2; omega
      refine sw_exit ?_
      refine sw_seq ?_
      refine sw_region hP 4 [] rfl (by kernel_rfl) (fun _ => by kernel_rfl) (by first | trivial | (simp [conj]; done) | (simp [conj] at *; (try dsimp only [Ty.den, Ty.dflt] at *); omega)) ?_
      refine sw_ret ⟨.inl rfl, _, rfl, ?_⟩
      simp [conj, idxF_end hgo]

def cContV1 : Ctr := ⟨56, [.val false (.sl T_Vol) (.all .b), .clo 57 [(false, T_Vol, (.all .b))]], fun _ => True, fun x => (sBool (List.any x.1 (fun w : Vol_ => decide (w.1 = x.2.1.1.1))), [])⟩
theorem cContV1_ok : CtrOk Proofs.Tryz.prog cContV1 := by
  have hP := ((Prg.none ttok mtok).and cIdxV1_ok)
  refine ctr_of_body hP cContV1 (fn := Proofs.Tryz.f56) (rts := [.tmp 4]) Proofs.Tryz.func56 rfl (by kernel_rfl) rfl rfl ?_
  rintro ⟨(l : List Vol_), ⟨(y : Vol_), ⟨⟩⟩, ⟨⟩⟩ _ hpre
  try dsimp only [Ty.den, Mode.den, mdens] at hpre
  refine ⟨rfl, ?_⟩
  refine sw_seq ?_
  refine sw_region hP 1 [] rfl (by kernel_rfl) (fun _ => by kernel_rfl) (by first | trivial | (simp [conj]; done) | (simp [conj] at *; (try dsimp only [Ty.den, Ty.dflt] at *); omega)) ?_
  refine sw_seq ?_
  refine sw_region hP 2 [] rfl (by kernel_rfl) (fun _ => by kernel_rfl) (by first | trivial | (simp [conj]; done) | (simp [conj] at *; (try dsimp only [Ty.den, Ty.dflt] at *); omega)) ?_
  refine sw_ret ⟨.inl rfl, _, rfl, ?_⟩
  simp [conj]
  exact idxF_any

def cIdxV2 : Ctr := ⟨85, [.val false (.sl T_Ptr) (.all .b), .clo 59 [(false, TI, pF)]], fun _ => True, fun x => (sInt .i64 (idxF (fun p : Ptr_ => !ptrV x.2.1.1 p) x.1), [])⟩
theorem cIdxV2_ok : CtrOk Proofs.Tryz.prog cIdxV2 := by
  have hP := ((Prg.none ttok mtok).and cVols2_ok)
  refine ctr_of_body hP cIdxV2 (fn := Proofs.Tryz.f85) (rts := [.tmp 4]) Proofs.Tryz.func85 rfl (by kernel_rfl) rfl rfl ?_
  rintro ⟨(l : List Ptr_), ⟨(y : Int), ⟨⟩⟩, ⟨⟩⟩ ⟨hdl, _⟩ hpre
  try dsimp only [Ty.den, Mode.den, mdens] at hpre
  refine ⟨rfl, ?_⟩
  have hml : l.length ≤ 140737488355328 := hdl.1
  refine sw_seq ?_
  refine sw_region hP 1 [] rfl (by kernel_rfl) (fun _ => by kernel_rfl) (by first | trivial | (simp [conj]; done) | (simp [conj] at *; (try dsimp only [Ty.den, Ty.dflt] at *); omega)) ?_
  refine sw_seq ?_
  refine sw_seq ?_
  refine sw_region hP 2 [] rfl (by kernel_rfl) (fun _ => by kernel_rfl) (by first | trivial | (simp [conj]; done) | (simp [conj] at *; (try dsimp only [Ty.den, Ty.dflt] at *); omega)) ?_
  refine sw_block ?_
  refine sw_loop (ι := Nat) (fun i => ⟨[.v false [.d (.sl T_Ptr) (.all .b) l], .fn 59 [.rpt .b TI pF y], .junk, .junk, .junk, .junk, .junk, sInt .i64 (l.length : Int), sInt .i64 (i : Int), .junk, .junk, .junk, .junk, .junk, .junk, .junk, .junk, .junk, .junk], [], 2, []⟩) (fun i => l.length - i) (fun i => i ≤ l.length ∧ idxFGo (fun p : Ptr_ => !ptrV y p) (l.drop i) i = idxF (fun p : Ptr_ => !ptrV y p) l) 0 ⟨?_, ?_⟩ ?_
  · skip
    exact ⟨Nat.zero_le _, rfl⟩
  · refine ent_ok rfl ?_
    first | trivial | (simp [conj]; done) | (simp [conj] at *; (try dsimp only [Ty.den, Ty.dflt] at *); omega)
  · rintro i ⟨hi, hgo⟩
    refine sw_seq ?_
    refine sw_region hP 3 [] rfl (by kernel_rfl) (fun _ => by kernel_rfl) (by first | trivial | (simp [conj]; done) | (simp [conj] at *; (try dsimp only [Ty.den, Ty.dflt] at *); omega)) ?_
    refine sw_seq ?_
    refine sw_cond rfl (fun c2 => ?_) (fun c2 => ?_)
    · skip
      have hlt : i < l.length := by simpa using c2
      refine sw_skip ?_
      refine sw_seq ?_
      refine sw_block ?_
      refine sw_seq ?_
      refine sw_region hP 4 [] rfl (by kernel_rfl) (fun _ => by kernel_rfl) (by first | trivial | (simp [conj]; done) | (simp [conj] at *; (try dsimp only [Ty.den, Ty.dflt] at *); omega)) ?_
      refine sw_seq ?_
      refine sw_region hP 5 [] rfl (by kernel_rfl) (fun _ => by kernel_rfl) ?_ ?_
      · skip
        simp [conj, maxL]
        try dsimp only [Ty.den, Ty.dflt]
        try simp only [rd_eta]
        repeat' apply And.intro
        all_goals first | assumption | omega | exact trivial
      refine sw_cond rfl (fun c4 => ?_) (fun c4 => ?_)
      · skip
        replace c4 : (fun p : Ptr_ => !ptrV y p) l[i] = true := by simpa [List.getElem?_eq_getElem hlt] using c4
        refine sw_seq ?_
        refine sw_region hP 6 [] rfl (by kernel_rfl) (fun _ => by kernel_rfl) (by first | trivial | (simp [conj]; done) | (simp [conj] at *; (try dsimp only [Ty.den, Ty.dflt] at *); omega)) ?_
        refine sw_ret ⟨.inl rfl, _, rfl, ?_⟩
        simp [conj, idxF_hit hlt hgo c4]
      · skip
        replace c4 : (fun p : Ptr_ => !ptrV y p) l[i] = false := by simpa [List.getElem?_eq_getElem hlt] using c4
        refine sw_skip ?_
        refine sw_region hP 6 [] rfl (by kernel_rfl) (fun _ => by kernel_rfl) (by first | trivial | (simp [conj]; done) | (simp [conj] at *; (try dsimp only [Ty.den, Ty.dflt] at *); omega)) ?_
        refine ⟨i + 1, ?_, ?_, ent_ok rfl ?_⟩
        · skip
          exact ⟨hlt, idxF_next hlt hgo c4⟩
        · skip
          omega
        · skip
          simp [conj, maxL]
          try dsimp only [Ty.den, Ty.dflt]
          try simp only [rd_eta]
          repeat' apply And.intro
          all_goals first | rfl | assumption | omega
    · skip
      obtain rfl : i = l.length := by simp at c2; omega
      refine sw_exit ?_
      refine sw_seq ?_
      refine sw_region hP 4 [] rfl (by kernel_rfl) (fun _ => by kernel_rfl) (by first | trivial | (simp [conj]; done) | (simp [conj] at *; (try dsimp only [Ty.den, Ty.dflt] at *); omega)) ?_
      refine sw_ret ⟨.inl rfl, _, rfl, ?_⟩
      simp [conj, idxF_end hgo]

def cContV2 : Ctr := ⟨58, [.val false (.sl T_Ptr) (.all .b), .clo 59 [(false, TI, pF)]], fun _ => True, fun x => (sBool (List.any x.1 (fun p : Ptr_ => !ptrV x.2.1.1 p)), [])⟩
theorem cContV2_ok : CtrOk Proofs.Tryz.prog cContV2 := by
  have hP := ((Prg.none ttok mtok).and cIdxV2_ok)
  refine ctr_of_body hP cContV2 (fn := Proofs.Tryz.f58) (rts := [.tmp 4]) Proofs.Tryz.func58 rfl (by kernel_rfl) rfl rfl ?_
  rintro ⟨(l : List Ptr_), ⟨(y : Int), ⟨⟩⟩, ⟨⟩⟩ _ hpre
  try dsimp only [Ty.den, Mode.den, mdens] at hpre
  refine ⟨rfl, ?_⟩
  refine sw_seq ?_
  refine sw_region hP 1 [] rfl (by kernel_rfl) (fun _ => by kernel_rfl) (by first | trivial | (simp [conj]; done) | (simp [conj] at *; (try dsimp only [Ty.den, Ty.dflt] at *); omega)) ?_
  refine sw_seq ?_
  refine sw_region hP 2 [] rfl (by kernel_rfl) (fun _ => by kernel_rfl) (by first | trivial | (simp [conj]; done) | (simp [conj] at *; (try dsimp only [Ty.den, Ty.dflt] at *); omega)) ?_
  refine sw_ret ⟨.inl rfl, _, rfl, ?_⟩
  simp [conj]
  exact idxF_any

def cVols : Ctr := ⟨28, [.val false TI pF, .val false (.sl T_Vol) (.all .b)], fun x => True, fun x => (sBool (volsV x.1 x.2.1), [])⟩
theorem cVols_ok : CtrOk Proofs.Tryz.prog cVols := by
  have hP := ((((Prg.none ttok mtok).and cVol_ok).and cContV1_ok).and cContV2_ok)
  refine ctr_of_body hP cVols (fn := Proofs.Tryz.f28) (rts := [.tmp 4]) Proofs.Tryz.func28 rfl (by kernel_rfl) rfl rfl ?_
  rintro ⟨(d : Int), (l : List Vol_), ⟨⟩⟩ ⟨_, hl0, _⟩ _
  try dsimp only [Ty.den, Mode.den, mdens] at _
  refine ⟨rfl, ?_⟩
  have hml : l.length ≤ 140737488355328 := hl0.1
  refine sw_seq ?_
  refine sw_region hP 1 [] rfl (by kernel_rfl) (fun _ => by kernel_rfl) (by first | trivial | (simp [conj]; done) | (simp [conj] at *; (try dsimp only [Ty.den, Ty.dflt] at *); omega)) ?_
  refine sw_seq ?_
  refine sw_seq ?_
  refine sw_region hP 2 [] rfl (by kernel_rfl) (fun _ => by kernel_rfl) (by first | trivial | (simp [conj]; done) | (simp [conj] at *; (try dsimp only [Ty.den, Ty.dflt] at *); omega)) ?_
  refine sw_block ?_
  refine sw_loop (ι := Nat) (fun i => ⟨[.junk, .v false [.d (.sl T_Vol) (.all .b) l], .v false [.ptr ⟨1, 0, 0⟩ 0], .junk, .junk, .junk, .junk, .v false [.d (.sl T_Vol) (.all .b) l], sInt .i64 (l.length : Int), sInt .i64 (i : Int), .junk, .junk, .junk, .junk, .junk, .junk, .junk, .junk, .junk, .junk, .junk, .junk, .junk, .junk, .junk, .junk, .junk, .junk, .junk, .junk, .junk, .junk, .junk, .junk, .junk, .junk, .junk, .junk, .junk], [(⟨1, 0, 0⟩, .var [.d TI pF d])], 2, []⟩) (fun i => l.length - i) (fun i => i ≤ l.length ∧ chkGo (volF d) (l.take i) (l.drop i) = chk (volF d) l) 0 ⟨?_, ?_⟩ ?_
  · skip
    exact ⟨Nat.zero_le _, rfl⟩
  · refine ent_ok rfl ?_
    simp [conj]
  · rintro i ⟨hi, hgo⟩
    refine sw_seq ?_
    refine sw_region hP 3 [] rfl (by kernel_rfl) (fun _ => by kernel_rfl) (by first | trivial | (simp [conj]; done) | (simp [conj] at *; (try dsimp only [Ty.den, Ty.dflt] at *); omega)) ?_
    refine sw_seq ?_
    refine sw_cond rfl (fun c2 => ?_) (fun c2 => ?_)
    · skip
      have hlt : i < l.length := by simpa using c2
      have hml2 : l[i].2.length ≤ 140737488355328 := (hl0.2 _ (List.getElem_mem hlt)).2.1
      refine sw_skip ?_
      refine sw_seq ?_
      refine sw_block ?_
      refine sw_seq ?_
      refine sw_region hP 4 [] rfl (by kernel_rfl) (fun _ => by kernel_rfl) (by first | trivial | (simp [conj]; done) | (simp [conj] at *; (try dsimp only [Ty.den, Ty.dflt] at *); omega)) ?_
      refine sw_seq ?_
      refine sw_seq ?_
      refine sw_dec hP 5 [] 4 rfl (fun g4_4 => ?_) (fun g4_4 => ?_)
      · skip
        replace g4_4 : nameV l[i].1 = false := by simpa [List.getElem?_eq_getElem hlt] using g4_4
        have hf : volF d (l.take i) l[i] = false := by simp [volF, g4_4]
        refine sw_region hP 5 [(4, true)] rfl (by kernel_rfl) (fun _ => by kernel_rfl) ?_ ?_
        · skip
          simp [conj, List.getElem?_eq_getElem hlt]
          repeat' apply And.intro
          all_goals first | trivial | assumption | omega
        refine sw_condT rfl ?_
        refine sw_seq ?_
        refine sw_region hP 6 [] rfl (by kernel_rfl) (fun _ => by kernel_rfl) (by first | trivial | (simp [conj]; done) | (simp [conj] at *; (try dsimp only [Ty.den, Ty.dflt] at *); omega)) ?_
        refine sw_ret ⟨.inl rfl, _, rfl, ?_⟩
        have hv := chk_hit hlt hgo hf
        simp [conj, volsV, hv]
      · skip
        replace g4_4 : nameV l[i].1 = true := by simpa [List.getElem?_eq_getElem hlt] using g4_4
        refine sw_dec hP 5 [(4, false)] 10 rfl (fun g4_10 => ?_) (fun g4_10 => ?_)
        · skip
          replace g4_10 : ¬ l[i].2.length = 3 := by
            have h := g4_10
            simp [List.getElem?_eq_getElem hlt] at h
            omega
          have hf : volF d (l.take i) l[i] = false := by simp [volF, g4_10]
          refine sw_region hP 5 [(4, false), (10, true)] rfl (by kernel_rfl) (fun _ => by kernel_rfl) ?_ ?_
          · skip
            simp [conj, List.getElem?_eq_getElem hlt]
            repeat' apply And.intro
            all_goals first | trivial | assumption | omega
          refine sw_condT rfl ?_
          refine sw_seq ?_
          refine sw_region hP 6 [] rfl (by kernel_rfl) (fun _ => by kernel_rfl) (by first | trivial | (simp [conj]; done) | (simp [conj] at *; (try dsimp only [Ty.den, Ty.dflt] at *); omega)) ?_
          refine sw_ret ⟨.inl rfl, _, rfl, ?_⟩
          have hv := chk_hit hlt hgo hf
          simp [conj, volsV, hv]
        · skip
          replace g4_10 : l[i].2.length = 3 := by
            have h := g4_10
            simp [List.getElem?_eq_getElem hlt] at h
            omega
          refine sw_region hP 5 [(4, false), (10, false)] rfl (by kernel_rfl) (fun _ => by kernel_rfl) ?_ ?_
          · skip
            simp [conj, List.getElem?_eq_getElem hlt]
            repeat' apply And.intro
            all_goals first | trivial | assumption | omega
          refine sw_cond rfl (fun c4 => ?_) (fun c4 => ?_)
          · skip
            replace c4 : (l.take i).any (fun w => decide (w.1 = l[i].1)) = true := by simpa [List.getElem?_eq_getElem hlt] using c4
            have hf : volF d (l.take i) l[i] = false := by unfold volF; rw [c4]; simp
            refine sw_seq ?_
            refine sw_region hP 6 [] rfl (by kernel_rfl) (fun _ => by kernel_rfl) (by first | trivial | (simp [conj]; done) | (simp [conj] at *; (try dsimp only [Ty.den, Ty.dflt] at *); omega)) ?_
            refine sw_ret ⟨.inl rfl, _, rfl, ?_⟩
            have hv := chk_hit hlt hgo hf
            simp [conj, volsV, hv]
          · skip
            replace c4 : (l.take i).any (fun w => decide (w.1 = l[i].1)) = false := by simpa [List.getElem?_eq_getElem hlt] using c4
            refine sw_skip ?_
            refine sw_seq ?_
            refine sw_region hP 6 [] rfl (by kernel_rfl) (fun _ => by kernel_rfl) ?_ ?_
            · skip
              simp [conj, maxL]
              try dsimp only [Ty.den, Ty.dflt]
              try simp only [rd_eta]
              repeat' apply And.intro
              all_goals first | rfl | assumption | omega | trivial
            refine sw_cond rfl (fun c6 => ?_) (fun c6 => ?_)
            · skip
              replace c6 : l[i].2.any (fun p => !ptrV d p) = true := by simpa [List.getElem?_eq_getElem hlt] using c6
              have hf : volF d (l.take i) l[i] = false := by
                have h : l[i].2.all (ptrV d) = false := by rw [← not_any]; simp [c6]
                simp [volF, h]
              refine sw_seq ?_
              refine sw_region hP 7 [] rfl (by kernel_rfl) (fun _ => by kernel_rfl) (by first | trivial | (simp [conj]; done) | (simp [conj] at *; (try dsimp only [Ty.den, Ty.dflt] at *); omega)) ?_
              refine sw_ret ⟨.inl rfl, _, rfl, ?_⟩
              have hv := chk_hit hlt hgo hf
              simp [conj, volsV, hv]
            · skip
              replace c6 : l[i].2.any (fun p => !ptrV d p) = false := by simpa [List.getElem?_eq_getElem hlt] using c6
              have hf : volF d (l.take i) l[i] = true := by
                have h : l[i].2.all (ptrV d) = true := by rw [← not_any]; simp [c6]
                unfold volF; rw [g4_4, c4, h, g4_10]; rfl
              refine sw_skip ?_
              refine sw_region hP 7 [] rfl (by kernel_rfl) (fun _ => by kernel_rfl) (by first | trivial | (simp [conj]; done) | (simp [conj] at *; (try dsimp only [Ty.den, Ty.dflt] at *); omega)) ?_
              refine ⟨i + 1, ?_, ?_, ent_ok rfl ?_⟩
              · skip
                exact ⟨hlt, chk_next hlt hgo hf⟩
              · skip
                omega
              · skip
                simp [conj]
    · skip
      obtain rfl : i = l.length := by simp at c2; omega
      refine sw_exit ?_
      refine sw_seq ?_
      refine sw_region hP 4 [] rfl (by kernel_rfl) (fun _ => by kernel_rfl) (by first | trivial | (simp [conj]; done) | (simp [conj] at *; (try dsimp only [Ty.den, Ty.dflt] at *); omega)) ?_
      refine sw_ret ⟨.inl rfl, _, rfl, ?_⟩
      have hv := chk_end hgo
      simp [conj, volsV, hv]
      try omega

def cEqPl : Ctr := ⟨61, [.val false (.sl T_Place) (.all .b), .val false (.sl T_Place) (.all .b)], fun x => True, fun x => (sBool (decide ((x.1 : List Plc) = x.2.1)), [])⟩
theorem cEqPl_ok : CtrOk Proofs.Tryz.prog cEqPl := by
  have hP := (Prg.none ttok mtok)
  refine ctr_of_body hP cEqPl (fn := Proofs.Tryz.f61) (rts := [.tmp 4]) Proofs.Tryz.func61 rfl (by kernel_rfl) rfl rfl ?_
  rintro ⟨(a : List Plc), (b : List Plc), ⟨⟩⟩ ⟨hda, hdb, _⟩ _
  try dsimp only [Ty.den, Mode.den, mdens] at _
  refine ⟨rfl, ?_⟩
  have hml : a.length ≤ 140737488355328 := hda.1
  have hmb : b.length ≤ 140737488355328 := hdb.1
  refine sw_seq ?_
  refine sw_region hP 1 [] rfl (by kernel_rfl) (fun _ => by kernel_rfl) (by first | trivial | (simp [conj]; done) | (simp [conj] at *; (try dsimp only [Ty.den, Ty.dflt] at *); omega)) ?_
  refine sw_seq ?_
  refine sw_seq ?_
  refine sw_region hP 2 [] rfl (by kernel_rfl) (fun _ => by kernel_rfl) (by first | trivial | (simp [conj]; done) | (simp [conj] at *; (try dsimp only [Ty.den, Ty.dflt] at *); omega)) ?_
  refine sw_cond rfl (fun c1 => ?_) (fun c1 => ?_)
  · skip
    replace c1 : ¬ a.length = b.length := by simp at c1; omega
    refine sw_seq ?_
    refine sw_region hP 3 [] rfl (by kernel_rfl) (fun _ => by kernel_rfl) (by first | trivial | (simp [conj]; done) | (simp [conj] at *; (try dsimp only [Ty.den, Ty.dflt] at *); omega)) ?_
    refine sw_ret ⟨.inl rfl, _, rfl, ?_⟩
    have hv := eqL_len c1
    simp [conj, hv]
  · skip
    replace c1 : a.length = b.length := by simp at c1; omega
    refine sw_skip ?_
    refine sw_seq ?_
    refine sw_seq ?_
    refine sw_region hP 3 [] rfl (by kernel_rfl) (fun _ => by kernel_rfl) (by first | trivial | (simp [conj]; done) | (simp [conj] at *; (try dsimp only [Ty.den, Ty.dflt] at *); omega)) ?_
    refine sw_block ?_
    refine sw_loop (ι := Nat) (fun i => ⟨[.v false [.d (.sl T_Place) (.all .b) a], .v false [.d (.sl T_Place) (.all .b) b], .junk, .junk, .junk, .junk, .junk, .junk, .junk, .junk, .junk, .junk, sInt .i64 (a.length : Int), sInt .i64 (i : Int), .junk, .junk, .junk, .junk, .junk, .junk, .junk, .junk, .junk, .junk, .junk, .junk], [], 3, []⟩) (fun i => a.length - i) (fun i => i ≤ a.length ∧ decide (a.drop i = b.drop i) = decide (a = b)) 0 ⟨?_, ?_⟩ ?_
    · skip
      exact ⟨Nat.zero_le _, rfl⟩
    · refine ent_ok rfl ?_
      first | trivial | (simp [conj]; done) | (simp [conj] at *; (try dsimp only [Ty.den, Ty.dflt] at *); omega)
    · rintro i ⟨hi, hgo⟩
      refine sw_seq ?_
      refine sw_region hP 4 [] rfl (by kernel_rfl) (fun _ => by kernel_rfl) (by first | trivial | (simp [conj]; done) | (simp [conj] at *; (try dsimp only [Ty.den, Ty.dflt] at *); omega)) ?_
      refine sw_seq ?_
      refine sw_cond rfl (fun c4 => ?_) (fun c4 => ?_)
      · skip
        have hlt : i < a.length := by simpa using c4
        have hlt2 : i < b.length := by omega
        refine sw_skip ?_
        refine sw_seq ?_
        refine sw_block ?_
        refine sw_seq ?_
        refine sw_region hP 5 [] rfl (by kernel_rfl) (fun _ => by kernel_rfl) (by first | trivial | (simp [conj]; done) | (simp [conj] at *; (try dsimp only [Ty.den, Ty.dflt] at *); omega)) ?_
        refine sw_seq ?_
        refine sw_region hP 6 [] rfl (by kernel_rfl) (fun _ => by kernel_rfl) ?_ ?_
        · skip
          simp [conj, List.getElem?_eq_getElem hlt, List.getElem?_eq_getElem hlt2]
          try exact ⟨hlt, hlt2⟩
        refine sw_cond rfl (fun c6 => ?_) (fun c6 => ?_)
        · skip
          replace c6 : ¬ a[i] = b[i] := by intro e; simp [List.getElem?_eq_getElem hlt, List.getElem?_eq_getElem hlt2, e] at c6
          refine sw_seq ?_
          refine sw_region hP 7 [] rfl (by kernel_rfl) (fun _ => by kernel_rfl) (by first | trivial | (simp [conj]; done) | (simp [conj] at *; (try dsimp only [Ty.den, Ty.dflt] at *); omega)) ?_
          refine sw_ret ⟨.inl rfl, _, rfl, ?_⟩
          have hv := eqL_hit hlt hlt2 hgo c6
          simp [conj, hv]
        · skip
          replace c6 : a[i] = b[i] := by have h := c6; simp [List.getElem?_eq_getElem hlt, List.getElem?_eq_getElem hlt2] at h; exact Prod.ext h.1 h.2
          refine sw_skip ?_
          refine sw_region hP 7 [] rfl (by kernel_rfl) (fun _ => by kernel_rfl) (by first | trivial | (simp [conj]; done) | (simp [conj] at *; (try dsimp only [Ty.den, Ty.dflt] at *); omega)) ?_
          refine ⟨i + 1, ?_, ?_, ent_ok rfl ?_⟩
          · skip
            exact ⟨hlt, eqL_next hlt hlt2 hgo c6⟩
          · skip
            omega
          · skip
            simp [conj]
      · skip
        obtain rfl : i = a.length := by simp at c4; omega
        refine sw_exit ?_
        refine sw_seq ?_
        refine sw_region hP 5 [] rfl (by kernel_rfl) (fun _ => by kernel_rfl) (by first | trivial | (simp [conj]; done) | (simp [conj] at *; (try dsimp only [Ty.den, Ty.dflt] at *); omega)) ?_
        refine sw_ret ⟨.inl rfl, _, rfl, ?_⟩
        have hv := eqL_end c1 hgo
        simp [conj, hv]

def cSame : Ctr := ⟨30, [.val true T_Ptr (.all .b), .val true T_Ptr (.all .b)], fun x => True, fun x => (sBool (decide ((x.1 : Ptr_) = x.2.1)), [])⟩
theorem cSame_ok : CtrOk Proofs.Tryz.prog cSame := by
  have hP := ((Prg.none ttok mtok).and cEqPl_ok)
  refine ctr_of_body hP cSame (fn := Proofs.Tryz.f30) (rts := [.tmp 4]) Proofs.Tryz.func30 rfl (by kernel_rfl) rfl rfl ?_
  rintro ⟨⟨(sz : Int), (sm : Int), (pl : List Plc)⟩, ⟨(sz2 : Int), (sm2 : Int), (pl2 : List Plc)⟩, ⟨⟩⟩ _ _
  try dsimp only [Ty.den, Mode.den, mdens] at _
  refine ⟨rfl, ?_⟩
  refine sw_seq ?_
  refine sw_region hP 1 [] rfl (by kernel_rfl) (fun _ => by kernel_rfl) (by first | trivial | (simp [conj]; done) | (simp [conj] at *; (try dsimp only [Ty.den, Ty.dflt] at *); omega)) ?_
  refine sw_seq ?_
  refine sw_dec hP 2 [] 5 rfl (fun g1_5 => ?_) (fun g1_5 => ?_)
  · skip
    replace g1_5 : sz = sz2 := of_decide_eq_true g1_5
    refine sw_dec hP 2 [(5, true)] 12 rfl (fun g1_12 => ?_) (fun g1_12 => ?_)
    · skip
      replace g1_12 : sm = sm2 := of_decide_eq_true g1_12
      refine sw_region hP 2 [(5, true), (12, true)] rfl (by kernel_rfl) (fun _ => by kernel_rfl) ?_ ?_
      · skip
        simp only [conj, List.nil_append, List.cons_append, List.append_nil, List.append_assoc, inR_i64, true_and, and_true, Int.toNat_natCast]
        try dsimp only [Ty.den, Ty.dflt]
        repeat' apply And.intro
        all_goals first | trivial | assumption | omega | exact decide_eq_true ‹_› | exact decide_eq_false ‹_› | (simp [*]; done)
      refine sw_ret ⟨.inl rfl, _, rfl, ?_⟩
      simp [conj, Prod.ext_iff, *]
    · skip
      replace g1_12 : ¬ sm = sm2 := of_decide_eq_false g1_12
      refine sw_region hP 2 [(5, true), (12, false)] rfl (by kernel_rfl) (fun _ => by kernel_rfl) ?_ ?_
      · skip
        simp only [conj, List.nil_append, List.cons_append, List.append_nil, List.append_assoc, inR_i64, true_and, and_true, Int.toNat_natCast]
        try dsimp only [Ty.den, Ty.dflt]
        repeat' apply And.intro
        all_goals first | trivial | assumption | omega | exact decide_eq_true ‹_› | exact decide_eq_false ‹_› | (simp [*]; done)
      refine sw_ret ⟨.inl rfl, _, rfl, ?_⟩
      simp [conj, Prod.ext_iff, *]
  · skip
    replace g1_5 : ¬ sz = sz2 := of_decide_eq_false g1_5
    refine sw_region hP 2 [(5, false)] rfl (by kernel_rfl) (fun _ => by kernel_rfl) ?_ ?_
    · skip
      simp only [conj, List.nil_append, List.cons_append, List.append_nil, List.append_assoc, inR_i64, true_and, and_true, Int.toNat_natCast]
      try dsimp only [Ty.den, Ty.dflt]
      repeat' apply And.intro
      all_goals first | trivial | assumption | omega | exact decide_eq_true ‹_› | exact decide_eq_false ‹_› | (simp [*]; done)
    refine sw_ret ⟨.inl rfl, _, rfl, ?_⟩
    simp [conj, Prod.ext_iff, *]

def cPtrs : Ctr := ⟨29, [.val true T_Root (.all .b)], fun x => SmallV x.1.2, fun x => (.v false [.own ⟨1, 0, 0⟩], [(⟨1, 0, 0⟩, .sl T_Ptr (.all .b) (blksOf x.1.2))])⟩
theorem cPtrs_ok : CtrOk Proofs.Tryz.prog cPtrs := by
  have hP := (Prg.none ttok mtok)
  refine ctr_of_body hP cPtrs (fn := Proofs.Tryz.f29) (rts := [.tmp 2]) Proofs.Tryz.func29 rfl (by kernel_rfl) rfl rfl ?_
  rintro ⟨⟨(tg : Int), (l : List Vol_)⟩, ⟨⟩⟩ _ hpre
  try dsimp only [Ty.den, Mode.den, mdens] at hpre
  refine ⟨rfl, ?_⟩
  replace hpre : SmallV l := hpre
  have hml : l.length ≤ 100 := hpre.1
  refine sw_seq ?_
  refine sw_region hP 1 [] rfl (by kernel_rfl) (fun _ => by kernel_rfl) (by first | trivial | (simp [conj]; done) | (simp [conj] at *; (try dsimp only [Ty.den, Ty.dflt] at *); omega)) ?_
  refine sw_seq ?_
  refine sw_region hP 2 [] rfl (by kernel_rfl) (fun _ => by kernel_rfl) (by first | trivial | (simp [conj]; done) | (simp [conj] at *; (try dsimp only [Ty.den, Ty.dflt] at *); omega)) ?_
  refine sw_seq ?_
  refine sw_seq ?_
  refine sw_region hP 3 [] rfl (by kernel_rfl) (fun _ => by kernel_rfl) (by first | trivial | (simp [conj]; done) | (simp [conj] at *; (try dsimp only [Ty.den, Ty.dflt] at *); omega)) ?_
  refine sw_block ?_
  refine sw_loop (ι := Nat) (fun i => ⟨[.junk, .v false [.ptr ⟨1, 0, 0⟩ 0], .junk, .v false [.own ⟨0, 9, 0⟩], .junk, .junk, .junk, .v false [.d (.sl T_Vol) (.all .b) l], sInt .i64 (l.length : Int), sInt .i64 (i : Int), .junk, .junk, .junk, .junk, .junk, .junk, .junk, .junk, .junk], [(⟨0, 9, 0⟩, .sl T_Ptr (.all .b) (blksOf (l.take i)))], 3, []⟩) (fun i => l.length - i) (fun i => i ≤ l.length) 0 ⟨?_, ?_⟩ ?_
  · skip
    exact Nat.zero_le _
  · refine ent_ok rfl ?_
    simp [conj, blksOf]
  · rintro i hi
    refine sw_seq ?_
    refine sw_region hP 4 [] rfl (by kernel_rfl) (fun _ => by kernel_rfl) (by first | trivial | (simp [conj]; done) | (simp [conj] at *; (try dsimp only [Ty.den, Ty.dflt] at *); omega)) ?_
    refine sw_seq ?_
    refine sw_cond rfl (fun c3 => ?_) (fun c3 => ?_)
    · skip
      have hlt : i < l.length := by simpa using c3
      have hb1 := blks_len hpre (i := i)
      have hb2 := hpre.2 _ (List.getElem_mem hlt)
      refine sw_skip ?_
      refine sw_seq ?_
      refine sw_block ?_
      refine sw_seq ?_
      refine sw_region hP 5 [] rfl (by kernel_rfl) (fun _ => by kernel_rfl) (by first | trivial | (simp [conj]; done) | (simp [conj] at *; (try dsimp only [Ty.den, Ty.dflt] at *); omega)) ?_
      refine sw_region hP 6 [] rfl (by kernel_rfl) (fun _ => by kernel_rfl) ?_ ?_
      · skip
        simp [conj, maxL, List.getElem?_eq_getElem hlt]
        omega
      refine sw_region hP 7 [] rfl (by kernel_rfl) (fun _ => by kernel_rfl) (by first | trivial | (simp [conj]; done) | (simp [conj] at *; (try dsimp only [Ty.den, Ty.dflt] at *); omega)) ?_
      refine ⟨i + 1, ?_, ?_, ent_ok rfl ?_⟩
      · skip
        exact hlt
      · skip
        omega
      · skip
        simp [conj, List.getElem?_eq_getElem hlt]
        exact flat_next hlt
    · skip
      obtain rfl : i = l.length := by simp at c3; omega
      refine sw_exit ?_
      refine sw_seq ?_
      refine sw_region hP 5 [] rfl (by kernel_rfl) (fun _ => by kernel_rfl) (by first | trivial | (simp [conj]; done) | (simp [conj] at *; (try dsimp only [Ty.den, Ty.dflt] at *); omega)) ?_
      refine sw_ret ⟨.inl rfl, _, rfl, ?_⟩
      simp [conj]

def cRootOk : Ctr := ⟨12, [.val false TI pF, .val true T_Root (.all .b)], fun x => True, fun x => (sBool (rootV x.1 x.2.1), [])⟩
theorem cRootOk_ok : CtrOk Proofs.Tryz.prog cRootOk := by
  have hP := (((((Prg.none ttok mtok).and cPool_ok).and cVols_ok).and cPtrs_ok).and cSame_ok)
  refine ctr_of_body hP cRootOk (fn := Proofs.Tryz.f12) (rts := [.tmp 4]) Proofs.Tryz.func12 rfl (by kernel_rfl) rfl rfl ?_
  rintro ⟨(d : Int), ⟨(tg : Int), (l : List Vol_)⟩, ⟨⟩⟩ ⟨_, ⟨_, hl0⟩, _⟩ _
  try dsimp only [Ty.den, Mode.den, mdens] at _
  refine ⟨rfl, ?_⟩
  have hml : l.length ≤ 140737488355328 := hl0.1
  have hpl0 := blks_pl (l := l) (fun v hv p hp => ((hl0.2 v hv).2.2 p hp).2.2.1)
  refine sw_seq ?_
  refine sw_region hP 1 [] rfl (by kernel_rfl) (fun _ => by kernel_rfl) (by first | trivial | (simp [conj]; done) | (simp [conj] at *; (try dsimp only [Ty.den, Ty.dflt] at *); omega)) ?_
  refine sw_seq ?_
  refine sw_seq ?_
  refine sw_dec hP 2 [] 3 rfl (fun g1_3 => ?_) (fun g1_3 => ?_)
  · skip
    replace g1_3 : poolV d = false := by simpa using g1_3
    refine sw_region hP 2 [(3, true)] rfl (by kernel_rfl) (fun _ => by kernel_rfl) ?_ ?_
    · skip
      simp only [conj, List.nil_append, List.cons_append, List.append_nil, List.append_assoc, inR_i64, true_and, and_true, Int.toNat_natCast]
      try dsimp only [Ty.den, Ty.dflt]
      repeat' apply And.intro
      all_goals first | trivial | assumption | omega | exact decide_eq_true ‹_› | exact decide_eq_false ‹_› | (simp [*]; done)
    refine sw_condT rfl ?_
    refine sw_seq ?_
    refine sw_region hP 3 [] rfl (by kernel_rfl) (fun _ => by kernel_rfl) (by first | trivial | (simp [conj]; done) | (simp [conj] at *; (try dsimp only [Ty.den, Ty.dflt] at *); omega)) ?_
    refine sw_ret ⟨.inl rfl, _, rfl, ?_⟩
    simp [conj, rootV, inV, *]
    try omega
  · skip
    replace g1_3 : poolV d = true := by simpa using g1_3
    refine sw_dec hP 2 [(3, false)] 8 rfl (fun g1_8 => ?_) (fun g1_8 => ?_)
    · skip
      replace g1_8 : tg < 0 := of_decide_eq_true g1_8
      refine sw_region hP 2 [(3, false), (8, true)] rfl (by kernel_rfl) (fun _ => by kernel_rfl) ?_ ?_
      · skip
        simp only [conj, List.nil_append, List.cons_append, List.append_nil, List.append_assoc, inR_i64, true_and, and_true, Int.toNat_natCast]
        try dsimp only [Ty.den, Ty.dflt]
        repeat' apply And.intro
        all_goals first | trivial | assumption | omega | exact decide_eq_true ‹_› | exact decide_eq_false ‹_› | (simp [*]; done)
      refine sw_condT rfl ?_
      refine sw_seq ?_
      refine sw_region hP 3 [] rfl (by kernel_rfl) (fun _ => by kernel_rfl) (by first | trivial | (simp [conj]; done) | (simp [conj] at *; (try dsimp only [Ty.den, Ty.dflt] at *); omega)) ?_
      refine sw_ret ⟨.inl rfl, _, rfl, ?_⟩
      simp [conj, rootV, inV, *]
      try omega
    · skip
      replace g1_8 : ¬ tg < 0 := of_decide_eq_false g1_8
      refine sw_dec hP 2 [(3, false), (8, false)] 13 rfl (fun g1_13 => ?_) (fun g1_13 => ?_)
      · skip
        replace g1_13 : 100000 < tg := of_decide_eq_true g1_13
        refine sw_region hP 2 [(3, false), (8, false), (13, true)] rfl (by kernel_rfl) (fun _ => by kernel_rfl) ?_ ?_
        · skip
          simp only [conj, List.nil_append, List.cons_append, List.append_nil, List.append_assoc, inR_i64, true_and, and_true, Int.toNat_natCast]
          try dsimp only [Ty.den, Ty.dflt]
          repeat' apply And.intro
          all_goals first | trivial | assumption | omega | exact decide_eq_true ‹_› | exact decide_eq_false ‹_› | (simp [*]; done)
        refine sw_condT rfl ?_
        refine sw_seq ?_
        refine sw_region hP 3 [] rfl (by kernel_rfl) (fun _ => by kernel_rfl) (by first | trivial | (simp [conj]; done) | (simp [conj] at *; (try dsimp only [Ty.den, Ty.dflt] at *); omega)) ?_
        refine sw_ret ⟨.inl rfl, _, rfl, ?_⟩
        simp [conj, rootV, inV, *]
        try omega
      · skip
        replace g1_13 : ¬ 100000 < tg := of_decide_eq_false g1_13
        refine sw_region hP 2 [(3, false), (8, false), (13, false)] rfl (by kernel_rfl) (fun _ => by kernel_rfl) ?_ ?_
        · skip
          simp only [conj, List.nil_append, List.cons_append, List.append_nil, List.append_assoc, inR_i64, true_and, and_true, Int.toNat_natCast]
          try dsimp only [Ty.den, Ty.dflt]
          repeat' apply And.intro
          all_goals first | trivial | assumption | omega | exact decide_eq_true ‹_› | exact decide_eq_false ‹_› | (simp [*]; done)
        refine sw_cond rfl (fun c1 => ?_) (fun c1 => ?_)
        · skip
          replace c1 : volsV d l = false := by simpa using c1
          refine sw_seq ?_
          refine sw_region hP 3 [] rfl (by kernel_rfl) (fun _ => by kernel_rfl) (by first | trivial | (simp [conj]; done) | (simp [conj] at *; (try dsimp only [Ty.den, Ty.dflt] at *); omega)) ?_
          refine sw_ret ⟨.inl rfl, _, rfl, ?_⟩
          simp [conj, rootV, inV, *]
          try omega
        · skip
          replace c1 : volsV d l = true := by simpa using c1
          have hsv := volsV_small c1
          have hbl := blks_all hsv
          have hin : inV tg 0 100000 = true := by simp [inV]; omega
          refine sw_skip ?_
          refine sw_seq ?_
          refine sw_region hP 3 [] rfl (by kernel_rfl) (fun _ => by kernel_rfl) (by first | trivial | (simp [conj]; done) | (simp [conj] at *; (try dsimp only [Ty.den, Ty.dflt] at *); omega)) ?_
          refine sw_seq ?_
          refine sw_seq ?_
          refine sw_region hP 4 [] rfl (by kernel_rfl) (fun _ => by kernel_rfl) ?_ ?_
          · skip
            simp [conj, maxL]
            try dsimp only [Ty.den, Ty.dflt]
            try simp only [rd_eta]
            exact hsv
          refine sw_block ?_
          refine sw_loop (ι := Nat × List (Plc × Ptr_)) (fun ⟨i, m⟩ => ⟨[sInt .i64 d, .junk, .junk, .v false [.ptr ⟨1, 0, 0⟩ 0], .junk, .v false [.own ⟨0, 9, 0⟩], .junk, .junk, .junk, .junk, .junk, .junk, .junk, .junk, .junk, .junk, .junk, .junk, .junk, .junk, .junk, .junk, .junk, .junk, .junk, .junk, .junk, .junk, .junk, .junk, .junk, .junk, .junk, .junk, .v false [.own ⟨0, 9, 1⟩], sInt .i64 ((blksOf l).length : Int), sInt .i64 (i : Int), .junk, .junk, .junk, .junk, .junk, .junk, .junk, .junk, .junk, .junk, .junk, .junk, .junk, .junk, .junk, .junk, .junk, .junk, .junk, .junk, .junk, .junk, .junk, .junk, .junk, .junk, .junk, .junk], [(⟨1, 0, 0⟩, .var [.d TI pF tg, .d (.sl T_Vol) (.all .b) l]), (⟨0, 9, 0⟩, .mp true true T_Place T_Ptr mapF m), (⟨0, 9, 1⟩, .sl T_Ptr (.all .b) (blksOf l))], 4, []⟩) (fun ⟨i, m⟩ => (blksOf l).length - i) (fun ⟨i, m⟩ => i ≤ (blksOf l).length ∧ ownGo m (pairsOf ((blksOf l).drop i)) = ownGo [] (pairsOf (blksOf l))) (0, []) ⟨?_, ?_⟩ ?_
          · skip
            exact ⟨Nat.zero_le _, rfl⟩
          · refine ent_ok rfl ?_
            simp [conj]
          · rintro ⟨i, m⟩ ⟨hi, hgo0⟩
            refine sw_seq ?_
            refine sw_region hP 5 [] rfl (by kernel_rfl) (fun _ => by kernel_rfl) (by first | trivial | (simp [conj]; done) | (simp [conj] at *; (try dsimp only [Ty.den, Ty.dflt] at *); omega)) ?_
            refine sw_seq ?_
            refine sw_cond rfl (fun c5 => ?_) (fun c5 => ?_)
            · skip
              have hlt : i < (blksOf l).length := by simpa using c5
              have hpl1 := hpl0 _ (List.getElem_mem hlt)
              refine sw_skip ?_
              refine sw_seq ?_
              refine sw_block ?_
              refine sw_seq ?_
              refine sw_region hP 6 [] rfl (by kernel_rfl) (fun _ => by kernel_rfl) ?_ ?_
              · skip
                simp [conj, List.getElem?_eq_getElem hlt]
                exact hlt
              refine sw_seq ?_
              refine sw_region hP 7 [] rfl (by kernel_rfl) (fun _ => by kernel_rfl) (by first | trivial | (simp [conj]; done) | (simp [conj] at *; (try dsimp only [Ty.den, Ty.dflt] at *); omega)) ?_
              refine sw_block ?_
              refine sw_loop (ι := Nat × List (Plc × Ptr_)) (fun ⟨j, m⟩ => ⟨[sInt .i64 d, .junk, .junk, .v false [.ptr ⟨1, 0, 0⟩ 0], .junk, .v false [.own ⟨0, 9, 0⟩], .junk, .v false [.ptr ⟨0, 9, 2⟩ 0], .junk, .junk, .junk, .junk, .junk, .junk, .junk, .junk, .junk, .junk, .junk, .junk, .junk, .junk, .junk, .junk, .junk, .junk, .junk, .junk, .junk, .junk, .junk, .junk, .junk, .junk, .v false [.own ⟨0, 9, 1⟩], sInt .i64 ((blksOf l).length : Int), sInt .i64 (i : Int), .junk, .junk, .junk, .junk, .v false [.d (.sl T_Place) (.all .b) (blksOf l)[i].2.2], sInt .i64 ((blksOf l)[i].2.2.length : Int), sInt .i64 (j : Int), .junk, .junk, .junk, .junk, .junk, .junk, .junk, .junk, .junk, .junk, .junk, .junk, .junk, .junk, .junk, .junk, .junk, .junk, .junk, .junk, .junk], [(⟨1, 0, 0⟩, .var [.d TI pF tg, .d (.sl T_Vol) (.all .b) l]), (⟨0, 9, 0⟩, .mp true true T_Place T_Ptr mapF m), (⟨0, 9, 1⟩, .sl T_Ptr (.all .b) (blksOf l)), (⟨0, 9, 2⟩, .var [.d TI pF (blksOf l)[i].1, .d TI pF (blksOf l)[i].2.1, .d (.sl T_Place) (.all .b) (blksOf l)[i].2.2])], 7, []⟩) (fun ⟨j, m⟩ => (blksOf l)[i].2.2.length - j) (fun ⟨j, m⟩ => j ≤ (blksOf l)[i].2.2.length ∧ ownGo m (((blksOf l)[i].2.2.drop j).map (fun a => (a, (blksOf l)[i])) ++ pairsOf ((blksOf l).drop (i + 1))) = ownGo [] (pairsOf (blksOf l))) (0, m) ⟨?_, ?_⟩ ?_
              · skip
                exact ⟨Nat.zero_le _, own_in hlt hgo0⟩
              · refine ent_ok rfl ?_
                simp [conj, List.getElem?_eq_getElem hlt]
              · rintro ⟨j, m⟩ ⟨hj, hgo⟩
                refine sw_seq ?_
                refine sw_region hP 8 [] rfl (by kernel_rfl) (fun _ => by kernel_rfl) (by first | trivial | (simp [conj]; done) | (simp [conj] at *; (try dsimp only [Ty.den, Ty.dflt] at *); omega)) ?_
                refine sw_seq ?_
                refine sw_cond rfl (fun c8 => ?_) (fun c8 => ?_)
                · skip
                  have hlj : j < (blksOf l)[i].2.2.length := by simpa using c8
                  refine sw_skip ?_
                  refine sw_seq ?_
                  refine sw_block ?_
                  refine sw_seq ?_
                  refine sw_region hP 9 [] rfl (by kernel_rfl) (fun _ => by kernel_rfl) ?_ ?_
                  · skip
                    simp [conj, List.getElem?_eq_getElem hlj]
                    exact hlj
                  refine sw_seq ?_
                  refine sw_seq ?_
                  refine sw_region hP 10 [] rfl (by kernel_rfl) (fun _ => by kernel_rfl) ?_ ?_
                  · skip
                    simp [conj, List.getElem?_eq_getElem hlj]
                  refine sw_seq ?_
                  refine sw_dec hP 11 [] 1 rfl (fun g11_1 => ?_) (fun g11_1 => ?_)
                  · skip
                    have hg : (mget PK m (blksOf l)[i].2.2[j]).isSome = true := by simpa [List.getElem?_eq_getElem hlt, List.getElem?_eq_getElem hlj] using g11_1
                    obtain ⟨q, hq⟩ := Option.isSome_iff_exists.1 hg
                    refine sw_region hP 11 [(1, true)] rfl (by kernel_rfl) (fun _ => by kernel_rfl) ?_ ?_
                    · skip
                      simp only [conj, List.nil_append, List.cons_append, List.append_nil, List.append_assoc, inR_i64, true_and, and_true, Int.toNat_natCast]
                      try dsimp only [Ty.den, Ty.dflt]
                      repeat' apply And.intro
                      all_goals first | trivial | exact g11_1 | exact And.intro trivial g11_1
                    refine sw_cond rfl (fun c11 => ?_) (fun c11 => ?_)
                    · skip
                      replace c11 : ¬ (blksOf l)[i] = q := by
                        have h := c11
                        simp [List.getElem?_eq_getElem hlt, List.getElem?_eq_getElem hlj, hq] at h
                        intro e
                        rw [e] at h
                        simp at h
                      have hv := own_bad hlj hgo hq c11
                      refine sw_seq ?_
                      refine sw_region hP 12 [] rfl (by kernel_rfl) (fun _ => by kernel_rfl) (by first | trivial | (simp [conj]; done) | (simp [conj] at *; (try dsimp only [Ty.den, Ty.dflt] at *); omega)) ?_
                      refine sw_ret ⟨.inl rfl, _, rfl, ?_⟩
                      simp [conj, rootV, g1_3, hin, c1, hv]
                    · skip
                      replace c11 : (blksOf l)[i] = q := by
                        have h := c11
                        simp [List.getElem?_eq_getElem hlt, List.getElem?_eq_getElem hlj, hq] at h
                        exact Prod.ext h.1 (Prod.ext h.2.1 h.2.2)
                      have hnx := own_some hlj hgo hq c11
                      refine sw_skip ?_
                      refine sw_region hP 12 [] rfl (by kernel_rfl) (fun _ => by kernel_rfl) ?_ ?_
                      · skip
                        simp [conj, maxL]
                        try dsimp only [Ty.den, Ty.dflt]
                        try simp only [rd_eta]
                        repeat' apply And.intro
                        all_goals first | rfl | assumption | omega
                      refine sw_region hP 13 [] rfl (by kernel_rfl) (fun _ => by kernel_rfl) (by first | trivial | (simp [conj]; done) | (simp [conj] at *; (try dsimp only [Ty.den, Ty.dflt] at *); omega)) ?_
                      refine ⟨(j + 1, mset PK m (blksOf l)[i].2.2[j] (blksOf l)[i]), ?_, ?_, ent_ok rfl ?_⟩
                      · skip
                        exact ⟨hlj, hnx⟩
                      · skip
                        show (blksOf l)[i].2.2.length - (j + 1) < (blksOf l)[i].2.2.length - j
                        omega
                      · skip
                        simp [conj, List.getElem?_eq_getElem hlt, List.getElem?_eq_getElem hlj]
                  · skip
                    have hg : mget PK m (blksOf l)[i].2.2[j] = none := by simpa [List.getElem?_eq_getElem hlt, List.getElem?_eq_getElem hlj] using g11_1
                    have hnx := own_none hlj hgo hg
                    refine sw_region hP 11 [(1, false)] rfl (by kernel_rfl) (fun _ => by kernel_rfl) ?_ ?_
                    · skip
                      simp only [conj, List.nil_append, List.cons_append, List.append_nil, List.append_assoc, inR_i64, true_and, and_true, Int.toNat_natCast]
                      try dsimp only [Ty.den, Ty.dflt]
                      repeat' apply And.intro
                      all_goals first | trivial | exact g11_1 | exact And.intro trivial g11_1
                    refine sw_condF rfl ?_
                    refine sw_skip ?_
                    refine sw_region hP 12 [] rfl (by kernel_rfl) (fun _ => by kernel_rfl) ?_ ?_
                    · skip
                      simp [conj, maxL]
                      try dsimp only [Ty.den, Ty.dflt]
                      try simp only [rd_eta]
                      repeat' apply And.intro
                      all_goals first | rfl | assumption | omega
                    refine sw_region hP 13 [] rfl (by kernel_rfl) (fun _ => by kernel_rfl) (by first | trivial | (simp [conj]; done) | (simp [conj] at *; (try dsimp only [Ty.den, Ty.dflt] at *); omega)) ?_
                    refine ⟨(j + 1, mset PK m (blksOf l)[i].2.2[j] (blksOf l)[i]), ?_, ?_, ent_ok rfl ?_⟩
                    · skip
                      exact ⟨hlj, hnx⟩
                    · skip
                      show (blksOf l)[i].2.2.length - (j + 1) < (blksOf l)[i].2.2.length - j
                      omega
                    · skip
                      simp [conj, List.getElem?_eq_getElem hlt, List.getElem?_eq_getElem hlj]
                · skip
                  obtain rfl : j = (blksOf l)[i].2.2.length := by simp at c8; omega
                  refine sw_exit ?_
                  refine sw_region hP 9 [] rfl (by kernel_rfl) (fun _ => by kernel_rfl) (by first | trivial | (simp [conj]; done) | (simp [conj] at *; (try dsimp only [Ty.den, Ty.dflt] at *); omega)) ?_
                  refine ⟨(i + 1, m), ?_, ?_, ent_ok rfl ?_⟩
                  · skip
                    exact ⟨hlt, own_out hgo⟩
                  · skip
                    show (blksOf l).length - (i + 1) < (blksOf l).length - i
                    omega
                  · skip
                    simp [conj]
            · skip
              obtain rfl : i = (blksOf l).length := by simp at c5; omega
              refine sw_exit ?_
              refine sw_seq ?_
              refine sw_region hP 6 [] rfl (by kernel_rfl) (fun _ => by kernel_rfl) (by first | trivial | (simp [conj]; done) | (simp [conj] at *; (try dsimp only [Ty.den, Ty.dflt] at *); omega)) ?_
              refine sw_ret ⟨.inl rfl, _, rfl, ?_⟩
              have hv := own_end hgo0
              simp [conj, rootV, g1_3, hin, c1, hv]
end Go.Sx

namespace Go.Sx
open Go Go.RowKit
theorem weighGo_app : ∀ (l : Str) (i : Nat) (c : UInt8), weighGo (l ++ [c]) i = weighGo l i + (c.toNat : Int) * (65536 + ((i + l.length : Nat) : Int) + 1) := by
  intro l
  induction l with
  | nil => intro i c; simp [weighGo]
  | cons a l ih =>
    intro i c
    simp only [List.cons_append, weighGo, ih, List.length_cons]
    rw [show i + 1 + l.length = i + (l.length + 1) by omega]
    omega
theorem weiS_weigh (l : Str) (hl : l.length ≤ 1000000) : ∀ k, k ≤ l.length → Proofs.weiS (Proofs.weiUp (mkS l) k) = weighGo (l.take k) 0 := by
  intro k
  induction k with
  | zero => intro _; rfl
  | succ k ih =>
    intro hk
    have hlt : k < l.length := hk
    rw [Proofs.weiUp, Proofs.volUp_succ, Proofs.weiS_add, List.take_succ_eq_append_getElem hlt, weighGo_app, ← ih (by omega)]
    have e1 : (Proofs.weiF (mkS l) k).val = (k, l[k]) := by
      show (min k 999999, (mkS l).data[k]?.getD 0) = _
      have : (mkS l).data[k]? = some l[k] := by simp [mkS, hlt]
      rw [this]
      simp
      omega
    rw [e1, List.length_take]
    simp only
    rw [show ((0 + min k l.length : Nat) : Int) = (k : Int) by omega]
    rw [Proofs.weiUp]
    congr 1
def cWeigh : Ctr := ⟨42, [.val false .str pF], fun x => List.length x.1 ≤ 1000000, fun x => (sInt .i64 (weighV x.1), [])⟩
theorem weighV_bd {s : Str} (h : s.length ≤ 1000000) : 0 ≤ weighV s ∧ weighV s ≤ (s.length : Int) * 300000000 := by
  have h1 := weiS_weigh s h s.length (Nat.le_refl _)
  rw [List.take_length] at h1
  have h2 := Proofs.weiS_bd _ (Proofs.weiUp (mkS s) s.length) rfl
  rw [h1] at h2
  rw [show (Proofs.weiUp (mkS s) s.length).length = s.length from Proofs.volUp_length _ _] at h2
  exact h2
theorem cWeigh_ok : CtrOk Proofs.Tryz.prog cWeigh := by
  refine ctr_of_below (fn := Proofs.Tryz.f42) Proofs.Tryz.func42 rfl rfl rfl ?_
  rintro G w args ⟨(s : Str), ⟨⟩⟩ _ _ ⟨v, vs, rfl, ⟨_, cs, rfl, _, ⟨rfl, hl⟩⟩, rfl⟩ hpre
  replace hpre : s.length ≤ 1000000 := hpre
  have h := Proofs.wei_in Fence.wide 3 trivial trivial trivial rfl (Nat.le_refl _) (mkS s) (by exact hpre) w
  refine (callsIn_wide.1 h).mono ?_
  rintro e w' ⟨rfl, hB⟩
  refine ⟨_, rfl, hB, fun G' => ?_, rfl⟩
  rw [show (mkS s).size = s.length from rfl, weiS_weigh s hpre _ (Nat.le_refl _), List.take_length]
  have := weighV_bd hpre
  show MtS G' w' (sInt .i64 (weighV s)) (.int .i64 (weighV s))
  exact .ofInt (by rw [inR_i64]; omega)
theorem grown_below (w : World) (k : Nat) (os : Array Obj) : Below w.heap.size w (Sort.grow (w.drewN k) os) :=
  ⟨rfl, rfl, rfl, by show w.heap.size ≤ (w.heap ++ os).size; rw [Array.size_append]; omega, fun j hj => by
    show (w.heap ++ os)[j]? = w.heap[j]?
    exact Array.getElem?_append_left hj⟩
def cItoa : Ctr := ⟨40, [.val false TI pF], fun _ => True, fun x => (sStr (itoaV x.1), [])⟩
theorem cItoa_ok : CtrOk Proofs.Tryz.prog cItoa := by
  refine ctr_of_below (fn := Proofs.Tryz.f40) Proofs.Tryz.func40 rfl rfl rfl ?_
  rintro G w args ⟨(n : Int), ⟨⟩⟩ _ ham ⟨v, vs, rfl, ⟨_, cs, rfl, _, ⟨rfl, hn⟩⟩, rfl⟩ _
  rw [inR_i64] at hn
  have htab : Lib.TabIs Proofs.Tryz.prog w "internal/strconv.uint64pow10" .u64 Lib.pow10Tab := by
    unfold Lib.TabIs World.var?
    cases hg : Proofs.Tryz.prog.globalNamed "internal/strconv.uint64pow10" with
    | none =>
      have h0 : (Proofs.Tryz.prog.globalNamed "internal/strconv.uint64pow10").isSome = true := by kernel_rfl
      rw [hg] at h0
      cases h0
    | some b =>
      obtain ⟨_, C, t, fz, h2, h3⟩ := ham.1 _ _ (List.mem_cons_self ..) b hg
      simp only [Option.bind_some, h2, Option.some.injEq]
      apply Array.ext'
      rw [h3]
      rfl
  refine (Proofs.Tryz.strconv_Itoa n hn.1 hn.2 w htab).mono ?_
  rintro e w' ⟨rfl, k, os, rfl⟩
  refine ⟨_, rfl, grown_below w k os, fun G' => ?_, rfl⟩
  refine .of1 rfl ⟨rfl, rfl, ?_⟩
  have := Lib.itoa_length_le n hn.1 hn.2
  show (Lib.itoa n).length ≤ maxL
  unfold maxL; omega
def cJoin : Ctr := ⟨71, [.val false (.sl .str) (.all .b), .val false .str pF], fun x => List.length (Lib.join x.1 x.2.1) ≤ 1000000, fun x => (sStr (Lib.join x.1 x.2.1), [])⟩
theorem join_mk (l : List Str) (s : Str) : (⟨(Lib.join ((l.map mkS).map (·.data.toList)) (mkS s).data.toList).toArray⟩ : ByteArray) = mkS (Lib.join l s) := by
  have h : (l.map mkS).map (·.data.toList) = l := by
    rw [List.map_map]
    exact (List.map_congr_left (fun x _ => rfl)).trans (List.map_id l)
  rw [h]
  rfl
theorem cJoin_ok : CtrOk Proofs.Tryz.prog cJoin := by
  refine ctr_of_below (fn := Proofs.Tryz.f71) Proofs.Tryz.func71 rfl rfl rfl ?_
  rintro G w args ⟨(l : List Str), (s : Str), ⟨⟩⟩ hbnd ham ⟨v, vs, rfl, ⟨_, cs, rfl, _, ⟨A, n, c, rfl, hn, hc, hm, _, hblk⟩⟩, v2, vs2, rfl, ⟨_, cs2, rfl, _, ⟨rfl, hl2⟩⟩, rfl⟩ hpre
  replace hpre : (Lib.join l s).length ≤ 1000000 := hpre
  replace hn : n = l.length := hn
  subst hn
  have fin : ∀ G' w', MtS G' w' (sStr (Lib.join l s)) (.string (mkS (Lib.join l s))) := fun G' w' => .of1 rfl ⟨rfl, rfl, by show (Lib.join l s).length ≤ maxL; unfold maxL; omega⟩
  rcases hblk with ⟨_, hz⟩ | ⟨b, off, C, t, fz, rfl, hlab, hh, hs, _, hj⟩
  · have h0 : l = [] := List.eq_nil_of_length_eq_zero (by omega)
    subst h0
    refine (Proofs.Tryz.strings_Join_none A c (mkS s) w).mono ?_
    rintro e w' ⟨rfl, rfl⟩
    exact ⟨_, rfl, Below.refl _ _, fun G' => fin G' _, rfl⟩
  · have hb : b < w.heap.size := hbnd b (by rcases hlab with h | h <;> (rw [h]; simp))
    have := Proofs.Tryz.strings_Join b off c (l.map mkS) (mkS s) w (fun j x hx => by
      rw [List.getElem?_map, Option.map_eq_some_iff] at hx
      obtain ⟨y, hy, rfl⟩ := hx
      have h1 := (hj j y hy).1
      have h2 : (cellsAt C (off + j * 1) 1)[0]? = some (.string (mkS y)) := by
        rw [show (Ty.str).size = 1 from rfl] at h1
        rw [h1]; rfl
      have h3 := cellsAt_get h2
      rw [cell_of_heap hh (o := off) j]
      rw [show off + j * 1 + 0 = off + j by omega] at h3
      exact h3) hb (by rw [List.length_map]; exact hm) (by rw [List.length_map]; exact hc) (by
      have h := congrArg (fun b : ByteArray => b.data.toList.length) (join_mk l s)
      simp only [mkS] at h
      refine Nat.le_trans (Nat.le_of_eq ?_) (Nat.le_trans hpre (by omega))
      simpa [mkS] using h)
    rw [List.length_map] at this
    refine this.mono ?_
    rintro e w' ⟨rfl, hB⟩
    exact ⟨_, rfl, hB, fun G' => by rw [join_mk]; exact fin G' _, rfl⟩
end Go.Sx

namespace Go.Sx
open Go
set_option maxRecDepth 100000
set_option linter.unusedVariables false
set_option linter.unusedSimpArgs false
set_option maxHeartbeats 2000000

def cRootTextS : Ctr := ⟨8, [.val false TI pF, .val true T_Root (.all .b)], fun x => True, fun x => (sStr (rootT x.1 x.2.1), [])⟩
theorem cRootTextS_ok : CtrOk Proofs.Tryz.prog cRootTextS := by
  have hP := (((((Prg.none ttok mtok).and cRootOkS_ok).and cTextS_ok).and cCheck_ok).and cDec_ok)
  refine ctr_of_body hP cRootTextS (fn := Proofs.Tryz.f8) (rts := [.tmp 4]) Proofs.Tryz.func8 rfl (by kernel_rfl) rfl rfl ?_
  rintro ⟨(d : Int), ⟨(tg : Int), (l : List Vol_)⟩, ⟨⟩⟩ ⟨_, ⟨ht0, hl0⟩, _⟩ _
  try dsimp only [Ty.den, Mode.den, mdens] at _
  refine ⟨rfl, ?_⟩
  refine sw_seq ?_
  refine sw_region hP 1 [] rfl (by kernel_rfl) (fun _ => by kernel_rfl) (by first | trivial | (simp [conj]; done) | (simp [conj] at *; (try dsimp only [Ty.den, Ty.dflt] at *); omega)) ?_
  refine sw_seq ?_
  refine sw_seq ?_
  refine sw_region hP 2 [] rfl (by kernel_rfl) (fun _ => by kernel_rfl) ?_ ?_
  · skip
    simp only [conj, List.nil_append, List.cons_append, List.append_nil, List.append_assoc, inR_i64, true_and, and_true, Int.toNat_natCast]
    try dsimp only [Ty.den, Ty.dflt]
    repeat' apply And.intro
    all_goals first | trivial | assumption | omega | exact decide_eq_true ‹_› | exact decide_eq_false ‹_› | (simp [*]; done)
  refine sw_cond rfl (fun c1 => ?_) (fun c1 => ?_)
  · skip
    replace c1 : rootV d ((tg, l) : Root_) = false := by have h : (!rootS d ((tg, l) : Root_)) = true := c1; rw [← rootV_S] at h; simpa using h
    refine sw_seq ?_
    refine sw_region hP 3 [] rfl (by kernel_rfl) (fun _ => by kernel_rfl) (by first | trivial | (simp [conj]; done) | (simp [conj] at *; (try dsimp only [Ty.den, Ty.dflt] at *); omega)) ?_
    refine sw_ret ⟨.inl rfl, _, rfl, ?_⟩
    simp [conj, rootT, c1, bytesL]
    try (simp [sealV]; rfl)
  · skip
    replace c1 : rootV d ((tg, l) : Root_) = true := by have h : (!rootS d ((tg, l) : Root_)) = false := c1; rw [← rootV_S] at h; simpa using h
    have hbl : (bodyV ((tg, l) : Root_)).length ≤ 5000 := body_len ht0 (fun v hv p hp => by have h := (hl0.2 v hv).2.2 p hp; exact ⟨h.1, h.2.1, h.2.2.2⟩) c1
    have hw := weighV_bd (s := (bodyV ((tg, l) : Root_))) (by omega)
    have hi2 : (itoaV (weighV (bodyV ((tg, l) : Root_)))).length ≤ 21 := itoaV_len (by rw [inR_i64]; omega)
    refine sw_skip ?_
    refine sw_seq ?_
    refine sw_region hP 3 [] rfl (by kernel_rfl) (fun _ => by kernel_rfl) ?_ ?_
    · skip
      simp [conj]
      exact ⟨d, c1⟩
    refine sw_seq ?_
    refine sw_region hP 4 [] rfl (by kernel_rfl) (fun _ => by kernel_rfl) ?_ ?_
    · skip
      simp [conj, maxL, bytesL]
      repeat' apply And.intro
      all_goals first | omega | exact hw.1 | (show List.length (bodyV ((tg, l) : Root_)) ≤ 1000000; omega) | trivial
    refine sw_ret ⟨.inl rfl, _, rfl, ?_⟩
    simp [conj, rootT, c1, bytesL]
    try (simp [sealV]; rfl)
end Go.Sx

/- Marks, plain: what is written into a value, the next number, what is held. -/
namespace Go.Sx
open Go
structure Mk (α : Type) where of_ ::
  mk : Int → α → α
  nx : Int → α → Int
  hd : Int → α → Int
structure MkOk {α : Type} (m : Mk α) : Prop where
  ge : ∀ k x, k ≤ m.nx k x
  hm : ∀ k x, 0 ≤ k → m.hd k (m.mk k x) = m.nx k x
  nm : ∀ k x, m.nx k (m.mk k x) = m.nx k x
  val : ∀ k x, m.hd k x = -1 ∨ m.hd k x = m.nx k x
section
variable {α : Type} (m : Mk α)
def mkLs : Int → List α → List α
  | _, [] => []
  | k, x :: r => m.mk k x :: mkLs (m.nx k x) r
def nxLs : Int → List α → Int
  | k, [] => k
  | k, x :: r => nxLs (m.nx k x) r
def hdLs : Int → List α → Int
  | k, [] => k
  | k, x :: r => if m.hd k x < 0 then -1 else hdLs (m.hd k x) r
def mkList : Mk (List α) := ⟨mkLs m, nxLs m, hdLs m⟩
end
theorem mkList_ok {α : Type} {m : Mk α} (h : MkOk m) : MkOk (mkList m) := by
  have hge : ∀ (l : List α) k, k ≤ nxLs m k l := by
    intro l
    induction l with
    | nil => intro k; exact Int.le_refl _
    | cons x r ih => intro k; exact Int.le_trans (h.ge k x) (ih _)
  refine ⟨fun k x => hge x k, ?_, ?_, ?_⟩
  · intro k l
    show 0 ≤ k → hdLs m k (mkLs m k l) = nxLs m k l
    induction l generalizing k with
    | nil => intro _; rfl
    | cons x r ih =>
      intro h0
      simp only [mkLs, hdLs, nxLs]
      have h1 := h.ge k x
      rw [h.hm k x h0, if_neg (by omega)]
      exact ih _ (by omega)
  · intro k l
    show nxLs m k (mkLs m k l) = nxLs m k l
    induction l generalizing k with
    | nil => rfl
    | cons x r ih => simp only [mkLs, nxLs]; rw [h.nm]; exact ih _
  · intro k l
    show hdLs m k l = -1 ∨ hdLs m k l = nxLs m k l
    induction l generalizing k with
    | nil => exact .inr rfl
    | cons x r ih =>
      simp only [hdLs, nxLs]
      split
      · exact .inl rfl
      · rename_i hn
        rcases h.val k x with h1 | h1
        · rw [h1] at hn; exact absurd (by decide) hn
        · rw [h1]; exact ih _
section
variable {α : Type} {m : Mk α}
theorem mkLs_len : ∀ {l : List α} {k : Int}, (mkLs m k l).length = l.length := by
  intro l
  induction l with
  | nil => intro k; rfl
  | cons x r ih => intro k; simp only [mkLs, List.length_cons, ih]
theorem mkLs_app : ∀ {a b : List α} {k : Int}, mkLs m k (a ++ b) = mkLs m k a ++ mkLs m (nxLs m k a) b := by
  intro a
  induction a with
  | nil => intro b k; rfl
  | cons x r ih => intro b k; simp only [List.cons_append, mkLs, nxLs, ih]
theorem nxLs_app : ∀ {a b : List α} {k : Int}, nxLs m k (a ++ b) = nxLs m (nxLs m k a) b := by
  intro a
  induction a with
  | nil => intro b k; rfl
  | cons x r ih => intro b k; simp only [List.cons_append, nxLs, ih]
theorem drop_cons' {l : List α} {i : Nat} (h : i < l.length) : l.drop i = l[i] :: l.drop (i + 1) := List.drop_eq_getElem_cons h
theorem take_snoc {l : List α} {i : Nat} (h : i < l.length) : l.take (i + 1) = l.take i ++ [l[i]] := List.take_succ_eq_append_getElem h
theorem mk_clen {l : List α} {k : Int} {i : Nat} (hi : i ≤ l.length) : (mkLs m k (l.take i) ++ l.drop i).length = l.length := by
  rw [List.length_append, mkLs_len, List.length_take, List.length_drop]; omega
theorem mk_get {l : List α} {k : Int} {i : Nat} (h : i < l.length) : (mkLs m k (l.take i) ++ l.drop i)[i]? = some l[i] := by
  have hl : (mkLs m k (l.take i)).length = i := by rw [mkLs_len, List.length_take]; omega
  rw [List.getElem?_append_right (by omega), hl, Nat.sub_self, drop_cons' h]; rfl
theorem nx_next {l : List α} {k : Int} {i : Nat} (h : i < l.length) : nxLs m k (l.take (i + 1)) = m.nx (nxLs m k (l.take i)) l[i] := by
  rw [take_snoc h, nxLs_app]; rfl
theorem mk_next {l : List α} {k : Int} {i : Nat} (h : i < l.length) : (mkLs m k (l.take i) ++ l.drop i).set i (m.mk (nxLs m k (l.take i)) l[i]) = mkLs m k (l.take (i + 1)) ++ l.drop (i + 1) := by
  have hl : (mkLs m k (l.take i)).length = i := by rw [mkLs_len, List.length_take]; omega
  rw [List.set_append_right _ _ (by omega), hl, Nat.sub_self, drop_cons' h, List.set_cons_zero, take_snoc h, mkLs_app, List.append_assoc]
  rfl
theorem nx_split (hm : MkOk m) {l : List α} {k : Int} {i : Nat} (h : i < l.length) : k ≤ nxLs m k (l.take i) ∧ nxLs m k (l.take i) ≤ m.nx (nxLs m k (l.take i)) l[i] ∧ m.nx (nxLs m k (l.take i)) l[i] ≤ nxLs m k l := by
  refine ⟨(mkList_ok hm).ge _ _, hm.ge _ _, ?_⟩
  have e : nxLs m k l = nxLs m (m.nx (nxLs m k (l.take i)) l[i]) (l.drop (i + 1)) := by
    conv => lhs; rw [← List.take_append_drop i l, nxLs_app, drop_cons' h]
    rfl
  rw [e]
  exact (mkList_ok hm).ge _ _
theorem nx_drop (hm : MkOk m) {l : List α} {q : Int} {i : Nat} (h : i < l.length) : nxLs m q (l.drop i) = nxLs m (m.nx q l[i]) (l.drop (i + 1)) ∧ q ≤ m.nx q l[i] ∧ m.nx q l[i] ≤ nxLs m (m.nx q l[i]) (l.drop (i + 1)) := by
  refine ⟨by rw [drop_cons' h]; rfl, hm.ge _ _, (mkList_ok hm).ge _ _⟩
theorem hd_next {l : List α} {q V : Int} {i : Nat} (h : i < l.length) (hgo : hdLs m q (l.drop i) = V) (hn : ¬ m.hd q l[i] < 0) : hdLs m (m.hd q l[i]) (l.drop (i + 1)) = V := by
  rw [drop_cons' h] at hgo; simp only [hdLs, if_neg hn] at hgo; exact hgo
theorem hd_hit {l : List α} {q V : Int} {i : Nat} (h : i < l.length) (hgo : hdLs m q (l.drop i) = V) (hn : m.hd q l[i] < 0) : V = -1 := by
  rw [drop_cons' h] at hgo; simp only [hdLs, if_pos hn] at hgo; exact hgo.symm
theorem hd_end {l : List α} {q V : Int} (hgo : hdLs m q (l.drop l.length) = V) : V = q := by
  rw [List.drop_length] at hgo; exact hgo.symm
theorem hd_pos (hm : MkOk m) {q : Int} {x : α} (hn : ¬ m.hd q x < 0) : m.hd q x = m.nx q x := (hm.val q x).resolve_left fun e => hn (by rw [e]; decide)
theorem hd_neg (hm : MkOk m) {q : Int} {x : α} (h0 : 0 ≤ q) (hn : m.hd q x < 0) : m.hd q x = -1 := (hm.val q x).resolve_right fun e => by have := hm.ge q x; omega
end
/-- a value that is one number wide, or so many, and held if it is what is written -/
def mkOne {α : Type} [DecidableEq α] (n : Int) (f : Int → α) : Mk α := ⟨fun k _ => f k, fun k _ => k + n, fun k x => if x = f k then k + n else -1⟩
theorem mkOne_ok {α : Type} [DecidableEq α] {n : Int} {f : Int → α} (hn : 0 ≤ n) : MkOk (mkOne n f) := by
  refine ⟨fun k x => by show k ≤ k + n; omega, fun k x _ => if_pos rfl, fun _ _ => rfl, fun k x => ?_⟩
  show (if x = f k then k + n else -1) = -1 ∨ (if x = f k then k + n else -1) = k + n
  split
  · exact .inr rfl
  · exact .inl rfl
/-- one behind the other -/
def mkPair {α β : Type} (a : Mk α) (b : Mk β) : Mk (α × β) := ⟨fun k x => (a.mk k x.1, b.mk (a.nx k x.1) x.2), fun k x => b.nx (a.nx k x.1) x.2, fun k x => if a.hd k x.1 < 0 then -1 else b.hd (a.hd k x.1) x.2⟩
theorem mkPair_ok {α β : Type} {a : Mk α} {b : Mk β} (ha : MkOk a) (hb : MkOk b) : MkOk (mkPair a b) := by
  refine ⟨fun k x => Int.le_trans (ha.ge k x.1) (hb.ge _ _), fun k x h => ?_, fun k x => ?_, fun k x => ?_⟩
  · have := ha.ge k x.1
    show (if a.hd k (a.mk k x.1) < 0 then -1 else b.hd (a.hd k (a.mk k x.1)) (b.mk (a.nx k x.1) x.2)) = _
    rw [ha.hm k _ h, if_neg (by omega)]
    exact hb.hm _ _ (by omega)
  · show b.nx (a.nx k (a.mk k x.1)) (b.mk (a.nx k x.1) x.2) = _
    rw [ha.nm, hb.nm]; rfl
  · show (if a.hd k x.1 < 0 then -1 else b.hd (a.hd k x.1) x.2) = -1 ∨ (if a.hd k x.1 < 0 then -1 else b.hd (a.hd k x.1) x.2) = b.nx (a.nx k x.1) x.2
    split
    · exact .inl rfl
    · rename_i hn
      rw [hd_pos ha hn]
      exact hb.val _ _
/-- what is not marked -/
def mkNo {α : Type} : Mk α := ⟨fun _ x => x, fun k _ => k, fun k _ => k⟩
theorem mkNo_ok {α : Type} : MkOk (mkNo : Mk α) := ⟨fun _ _ => Int.le_refl _, fun _ _ _ => rfl, fun _ _ => rfl, fun _ _ => .inr rfl⟩
/-- a number -/
def mkI : Mk Int := mkOne 1 id
theorem mkI_ok : MkOk mkI := mkOne_ok (by decide)
/-- a mark that is a text -/
def digX (k : Nat) (out : Str) : Str := if h : k = 0 then out else digX (k / 10) (UInt8.ofNat (48 + k % 10) :: out)
  termination_by k
  decreasing_by omega
theorem digX_zero {out : Str} : digX 0 out = out := by rw [digX]; rfl
theorem digX_step {k : Nat} {out : Str} (h : k ≠ 0) : digX k out = digX (k / 10) (UInt8.ofNat (48 + k % 10) :: out) := by rw [digX, dif_neg h]
def mkT (k : Int) : Str := if k ≤ 0 then [109, 48] else 109 :: digX k.toNat []
def mkB (k : Int) : Bool := decide (k.tmod 3 = 0)
def mkStr : Mk Str := mkOne 1 mkT
theorem mkStr_ok : MkOk mkStr := mkOne_ok (by decide)
def mkBool : Mk Bool := mkOne 1 mkB
theorem mkBool_ok : MkOk mkBool := mkOne_ok (by decide)
end Go.Sx

/- Sizes and copies of roots: plain law. -/
namespace Go.Sx
open Go
instance : DecidableEq Plc := instDecidableEqProd
instance : DecidableEq Ptr_ := instDecidableEqProd
instance : DecidableEq Vol_ := instDecidableEqProd
instance : DecidableEq Root_ := instDecidableEqProd
def szGo {α : Type} (f : α → Int → Int) : List α → Int → Int
  | [], left => left
  | x :: r, left => if f x left < 0 then -1 else szGo f r (f x left)
def szL {α : Type} (f : α → Int → Int) (l : List α) (left : Int) : Int := if left - l.length < 0 then -1 else szGo f l (left - l.length)
def szPl (l : List Plc) (left : Int) : Int := if left - l.length < 0 then -1 else left - l.length
def szP (p : Ptr_) (left : Int) : Int := szPl p.2.2 left
def szPs (l : List Ptr_) (left : Int) : Int := szL szP l left
def szV (v : Vol_) (left : Int) : Int := if left - v.1.length < 0 then -1 else szPs v.2 (left - v.1.length)
def szVs (l : List Vol_) (left : Int) : Int := szL szV l left
def SzOk {α : Type} (f : α → Int → Int) : Prop := ∀ x left, 0 ≤ left → -1 ≤ f x left ∧ f x left ≤ left
theorem szGo_bd {α : Type} {f : α → Int → Int} (hf : SzOk f) : ∀ {l : List α} {left : Int}, 0 ≤ left → -1 ≤ szGo f l left ∧ szGo f l left ≤ left := by
  intro l
  induction l with
  | nil => intro left h; exact ⟨by simp only [szGo]; omega, Int.le_refl _⟩
  | cons s r ih =>
    intro left h
    simp only [szGo]
    have h1 := hf s left h
    split
    · omega
    · have := ih (left := f s left) (by omega)
      omega
theorem szL_ok {α : Type} {f : α → Int → Int} (hf : SzOk f) : SzOk (szL f) := by
  intro l left h
  unfold szL
  split
  · omega
  · have := szGo_bd hf (l := l) (left := left - l.length) (by omega)
    omega
theorem szPl_ok : SzOk szPl := by
  intro l left h
  unfold szPl
  split <;> omega
theorem szP_ok : SzOk szP := fun p left h => szPl_ok p.2.2 left h
theorem szPs_ok : SzOk szPs := szL_ok szP_ok
theorem szV_ok : SzOk szV := by
  intro v left h
  unfold szV
  split
  · omega
  · have := szPs_ok v.2 (left - v.1.length) (by omega)
    omega
theorem szVs_ok : SzOk szVs := szL_ok szV_ok
theorem sz_neg {α : Type} {f : α → Int → Int} (hf : SzOk f) {x : α} {left : Int} (h : 0 ≤ left) (h2 : f x left < 0) : f x left = -1 := by have := hf x left h; omega
theorem sz_next {α : Type} {f : α → Int → Int} {l : List α} {i : Nat} {left v : Int} (hlt : i < l.length) (h : szGo f (l.drop i) left = v) (h0 : ¬ f l[i] left < 0) : szGo f (l.drop (i + 1)) (f l[i] left) = v := by
  rw [drop_at hlt] at h; simp only [szGo] at h; rwa [if_neg h0] at h
theorem sz_hit {α : Type} {f : α → Int → Int} {l : List α} {i : Nat} {left v : Int} (hlt : i < l.length) (h : szGo f (l.drop i) left = v) (h0 : f l[i] left < 0) : v = -1 := by
  rw [drop_at hlt] at h; simp only [szGo] at h; rw [if_pos h0] at h; exact h.symm
theorem sz_end {α : Type} {f : α → Int → Int} {l : List α} {left v : Int} (h : szGo f (l.drop l.length) left = v) : v = left := by
  rw [List.drop_length] at h; exact h.symm
/-- within the bound that the laws set -/
def SmP (p : Ptr_) : Prop := p.2.2.length ≤ 1048576
def SmPs (l : List Ptr_) : Prop := l.length ≤ 1048576 ∧ ∀ p ∈ l, SmP p
def SmVs (l : List Vol_) : Prop := l.length ≤ 1048576 ∧ ∀ v ∈ l, SmPs v.2
theorem szGo_sm {α : Type} {f : α → Int → Int} {Q : α → Prop} (hf : SzOk f) (hq : ∀ x left, 0 ≤ left → left ≤ 1048576 → 0 ≤ f x left → Q x) : ∀ {l : List α} {left : Int}, 0 ≤ left → left ≤ 1048576 → 0 ≤ szGo f l left → ∀ x ∈ l, Q x := by
  intro l
  induction l with
  | nil => intro left _ _ _ x hx; cases hx
  | cons s r ih =>
    intro left h0 h1 h x hx
    simp only [szGo] at h
    have hb := hf s left h0
    split at h
    · omega
    · rcases List.mem_cons.1 hx with rfl | hx
      · exact hq x left h0 h1 (by omega)
      · exact ih (left := f s left) (by omega) (by omega) h x hx
theorem szP_sm (p : Ptr_) (left : Int) (h0 : 0 ≤ left) (h1 : left ≤ 1048576) (h : 0 ≤ szP p left) : SmP p := by
  unfold szP szPl at h
  split at h
  · omega
  · unfold SmP; omega
theorem szPs_sm (l : List Ptr_) (left : Int) (h0 : 0 ≤ left) (h1 : left ≤ 1048576) (h : 0 ≤ szPs l left) : SmPs l := by
  unfold szPs szL at h
  split at h
  · omega
  · exact ⟨by omega, szGo_sm szP_ok szP_sm (by omega) (by omega) h⟩
theorem szV_sm (v : Vol_) (left : Int) (h0 : 0 ≤ left) (h1 : left ≤ 1048576) (h : 0 ≤ szV v left) : SmPs v.2 := by
  unfold szV at h
  split at h
  · omega
  · exact szPs_sm v.2 _ (by omega) (by omega) h
theorem szVs_sm (l : List Vol_) (left : Int) (h0 : 0 ≤ left) (h1 : left ≤ 1048576) (h : 0 ≤ szVs l left) : SmVs l := by
  unfold szVs szL at h
  split at h
  · omega
  · exact ⟨by omega, szGo_sm szV_ok szV_sm (by omega) (by omega) h⟩
def cpL {α : Type} (l : List α) (d : α) (i : Nat) : List α := l.take i ++ List.replicate (l.length - i) d
theorem cpL_next {α : Type} {l : List α} {d : α} {i : Nat} (hlt : i < l.length) : (cpL l d i).set i l[i] = cpL l d (i + 1) := by
  unfold cpL
  rw [List.set_append_right _ _ (by simp; omega)]
  have h1 : i - (l.take i).length = 0 := by simp; omega
  rw [h1, show l.length - i = (l.length - (i + 1)) + 1 by omega, List.replicate_succ, List.set_cons_zero, List.take_succ_eq_append_getElem hlt, List.append_assoc]
  rfl
theorem cpL_len {α : Type} {l : List α} {d : α} {i : Nat} (h : i ≤ l.length) : (cpL l d i).length = l.length := by
  unfold cpL; simp; omega
theorem cpL_end {α : Type} {l : List α} {d : α} : cpL l d l.length = l := by unfold cpL; simp
theorem cpL_zero {α : Type} {l : List α} {d : α} : cpL l d 0 = List.replicate l.length d := by unfold cpL; simp
end Go.Sx

/- Roots drawn: plain law. -/
namespace Go.Sx
open Go
def rd0 (code : List Int) : Rd := (code.take 2000, 0)
theorem rd0_ok {code : List Int} (h : ∀ v ∈ code, inR .u8 v) : ROk (rd0 code) 3000 := by
  refine ⟨fun v hv => ?_, ?_, by show (0 : Int) ≤ 0; decide, by show (0 : Int) + 3000 ≤ 1099511627776; decide⟩
  · have := h v (List.mem_of_mem_take hv); rwa [inR_u8] at this
  · exact List.length_take_le _ _
def plcGo (d fr : Int) : Nat → Nat → Rd → List Plc → List Plc × Rd
  | 0, _, R, out => (out, R)
  | n + 1, i, R, out => plcGo d fr n (i + 1) (nx R) (out ++ [((fr + (i : Int)).tmod d, pk R 12)])
def plcD (R : Rd) (d c : Int) : List Plc × Rd := plcGo d (pk R d) c.toNat 0 (nx R) []
theorem plcGo_rd : ∀ (n i : Nat) (d fr : Int) (R : Rd) (out : List Plc), (plcGo d fr n i R out).2 = (R.1, R.2 + n) ∧ (plcGo d fr n i R out).1.length = out.length + n := by
  intro n
  induction n with
  | zero => intro i d fr R out; simp [plcGo]
  | succ n ih =>
    intro i d fr R out
    simp only [plcGo]
    obtain ⟨h1, h2⟩ := ih (i + 1) d fr (nx R) (out ++ [((fr + (i : Int)).tmod d, pk R 12)])
    rw [h1, h2]
    simp [nx]
    omega
def ptrT (R : Rd) (d : Int) : Str := textV R (3 * sMin 3 (d - 1) - 1) ++ [107]
def ptrD (R : Rd) (d : Int) : Ptr_ × Rd := ((((ptrT R d).length : Int), weighV ((ptrT R d).take 9), (plcD (textR R (3 * sMin 3 (d - 1) - 1)) d (colsV ((ptrT R d).length : Int) + 1)).1), (plcD (textR R (3 * sMin 3 (d - 1) - 1)) d (colsV ((ptrT R d).length : Int) + 1)).2)
theorem sMin_bd' {d : Int} (h : 3 ≤ d ∧ d ≤ 4) : 3 * sMin 3 (d - 1) - 1 = 3 * (d - 1) - 1 := by rw [sMin_bd d h]
theorem ptrT_len {R : Rd} {d : Int} (h : ROk R 30) (hd : 3 ≤ d ∧ d ≤ 4) : 1 ≤ (ptrT R d).length ∧ (ptrT R d).length ≤ 9 := by
  unfold ptrT
  rw [sMin_bd' hd]
  have := textV_len h (by decide) (most := 3 * (d - 1) - 1) (by omega)
  rw [List.length_append]
  simp only [List.length_cons, List.length_nil]
  omega
theorem colsV_le {n : Int} (h0 : 1 ≤ n) (h1 : n ≤ 9) : 1 ≤ colsV n ∧ colsV n ≤ 3 := by
  have : colsV n = (n + 3 - 1) / 3 := Int.tdiv_eq_ediv_of_nonneg (by omega)
  omega
theorem ptrD_len {R : Rd} {d : Int} (h : ROk R 30) (hd : 3 ≤ d ∧ d ≤ 4) : 2 ≤ (ptrD R d).1.2.2.length ∧ (ptrD R d).1.2.2.length ≤ 4 := by
  have h1 := ptrT_len h hd
  have h2 := colsV_le (n := ((ptrT R d).length : Int)) (by omega) (by omega)
  simp only [ptrD, plcD]
  rw [(plcGo_rd _ _ _ _ _ _).2]
  simp only [List.length_nil]
  omega
theorem ptrD_ok {R : Rd} {d m : Int} (hm : 0 ≤ m) (h : ROk R (m + 30)) (hd : 3 ≤ d ∧ d ≤ 4) : ROk (ptrD R d).2 m := by
  have h1 := ptrT_len (h.le (by omega)) hd
  have h2 := colsV_le (n := ((ptrT R d).length : Int)) (by omega) (by omega)
  have ht : ROk (textR R (3 * sMin 3 (d - 1) - 1)) (m + 5) := textR_ok h (by omega) (by rw [sMin_bd' hd]; omega) (by rw [sMin_bd' hd]; omega)
  simp only [ptrD, plcD]
  rw [(plcGo_rd _ _ _ _ _ _).1]
  have hp := ht.p1
  have hp0 := ht.p0
  refine ⟨ht.b, ht.len, ?_, ?_⟩ <;> simp only [nx] <;> omega
def zP : Ptr_ := (0, 0, [])
def aS : List Int := [-1, 1000000000, 1000000001]
def aT : List Int := [-1, 12]
def aX : List Int := [-1, 100000, 100001]
def someD (R : Rd) (d : Int) : Ptr_ × Rd :=
  if pk R 5 = 0 then (zP, nx R) else
  let q := ptrD (nx R) d
  let p := q.1
  let R2 := nx q.2
  if pk q.2 20 = 0 then ((pk R2 14 - 1, p.2.1, p.2.2), nx R2)
  else if pk q.2 20 = 1 then ((p.1, aS.getD (pk R2 3).toNat 0, p.2.2), nx R2)
  else if pk q.2 20 = 2 then ((p.1, p.2.1, p.2.2.set 0 ((p.2.2.getD 0 (0, 0)).1, aT.getD (pk R2 2).toNat 0)), nx R2)
  else if pk q.2 20 = 3 then ((p.1, p.2.1, p.2.2.set 0 (p.2.2.getD 1 (0, 0))), R2)
  else if pk q.2 20 = 4 then ((p.1, p.2.1, p.2.2.drop 1), R2)
  else (p, R2)
def meetsNo (p : Ptr_) (l : List Ptr_) : Bool := l.all fun x => !meetV p x
def clrB (R : Rd) (d : Int) (all : List Ptr_) (k : Nat) (bl : List Ptr_) : Bool := (decide (0 < pk (ptrD R d).2 3) && meetsNo (ptrD R d).1 all) && meetsNo (ptrD R d).1 (bl.take k)
def blkStep (d : Int) (all : List Ptr_) (k : Nat) (bl : List Ptr_) (R : Rd) : List Ptr_ × Rd :=
  let q := ptrD R d
  let R2 := nx q.2
  if clrB R d all k bl = true then (bl.set k q.1, R2)
  else if 0 < all.length then (if pk R2 2 = 0 then (bl.set k (all.getD (pk (nx R2) all.length).toNat zP), nx (nx R2)) else (bl, nx R2))
  else (bl, R2)
def blkGo (d : Int) (all : List Ptr_) : Nat → Nat → List Ptr_ → Rd → List Ptr_ × Rd
  | 0, _, bl, R => (bl, R)
  | n + 1, k, bl, R => blkGo d all n (k + 1) (blkStep d all k bl R).1 (blkStep d all k bl R).2
def nms : List Str := [[97], [98], [99, 100], [120, 121, 122], [113], [122, 122]]
def nmD (R : Rd) : Str := nms.getD (pk R 6).toNat []
def hasN_ (vs : List Vol_) (nm : Str) : Bool := vs.any fun v => decide (v.1 = nm)
def volGo (d : Int) : Nat → List Vol_ → Rd → List Vol_ × Rd
  | 0, vs, R => (vs, R)
  | n + 1, vs, R => if hasN_ vs (nmD R) = true then volGo d n vs (nx R) else
    volGo d n (vs ++ [(nmD R, (blkGo d (blksOf vs) 3 0 [zP, zP, zP] (nx R)).1)]) (blkGo d (blksOf vs) 3 0 [zP, zP, zP] (nx R)).2
def rootD (R : Rd) (d : Int) : Root_ × Rd := ((pk R 9, (volGo d (pk (nx R) 5).toNat [] (nx (nx R))).1), (volGo d (pk (nx R) 5).toNat [] (nx (nx R))).2)
def fillGo : Nat → List Vol_ → List Vol_
  | 0, vs => vs
  | n + 1, vs => fillGo n (vs ++ [([UInt8.ofNat (107 + vs.length)], [zP, zP, zP])])
def v0 (vs : List Vol_) : Vol_ := vs.getD 0 ([], [])
def offD (R : Rd) (d : Int) : Root_ × Rd :=
  let q := rootD R d
  let r := q.1
  let R1 := nx q.2
  let R2 := nx R1
  if 0 < pk q.2 12 then (r, R1)
  else if pk R1 6 = 0 then ((aX.getD (pk R2 3).toNat 0, r.2), nx R2)
  else if pk R1 6 = 1 then ((r.1, r.2 ++ [([65], [zP, zP, zP])]), R2)
  else if pk R1 6 = 2 then (if 0 < r.2.length then (r.1, r.2.set 0 ((v0 r.2).1, (v0 r.2).2.drop 1)) else r, R2)
  else if pk R1 6 = 3 then (if 0 < r.2.length then ((r.1, r.2.set 0 ((v0 r.2).1, (v0 r.2).2.set 0 (someD R2 d).1)), (someD R2 d).2) else (r, R2))
  else if pk R1 6 = 4 then (if 0 < r.2.length then (r.1, r.2 ++ [v0 r.2]) else r, R2)
  else ((r.1, fillGo (5 - r.2.length) r.2), R2)
theorem blkStep_ok {d m : Int} {all bl : List Ptr_} {k : Nat} {R : Rd} (hm : 0 ≤ m) (h : ROk R (m + 40)) (hd : 3 ≤ d ∧ d ≤ 4) : ROk (blkStep d all k bl R).2 m ∧ (blkStep d all k bl R).1.length = bl.length := by
  have h1 : ROk (ptrD R d).2 (m + 3) := ptrD_ok (m := m + 3) (by omega) (h.le (by omega)) hd
  have h2 : ROk (nx (ptrD R d).2) (m + 2) := h1.nx (by omega)
  have h3 : ROk (nx (nx (ptrD R d).2)) (m + 1) := h2.nx (by omega)
  have h4 : ROk (nx (nx (nx (ptrD R d).2))) m := h3.nx (by omega)
  unfold blkStep
  simp only
  split
  · exact ⟨h2.le (by omega), by simp⟩
  · split
    · split
      · exact ⟨h4, by simp⟩
      · exact ⟨h3.le (by omega), rfl⟩
    · exact ⟨h2.le (by omega), rfl⟩
theorem blkGo_ok {d : Int} {all : List Ptr_} (hd : 3 ≤ d ∧ d ≤ 4) : ∀ (n k : Nat) (bl : List Ptr_) (R : Rd) (m : Int), 0 ≤ m → ROk R (m + 40 * n) → ROk (blkGo d all n k bl R).2 m ∧ (blkGo d all n k bl R).1.length = bl.length := by
  intro n
  induction n with
  | zero => intro k bl R m _ h; exact ⟨h.le (by omega), rfl⟩
  | succ n ih =>
    intro k bl R m hm h
    simp only [blkGo]
    obtain ⟨h1, h2⟩ := blkStep_ok (m := m + 40 * n) (all := all) (bl := bl) (k := k) (by omega) (h.le (by push_cast; omega)) hd
    obtain ⟨h3, h4⟩ := ih (k + 1) (blkStep d all k bl R).1 (blkStep d all k bl R).2 m hm h1
    exact ⟨h3, by rw [h4, h2]⟩
theorem volGo_ok {d : Int} (hd : 3 ≤ d ∧ d ≤ 4) : ∀ (n : Nat) (vs : List Vol_) (R : Rd) (m : Int), 0 ≤ m → ROk R (m + 130 * n) → (∀ v ∈ vs, v.2.length = 3) → ROk (volGo d n vs R).2 m ∧ (volGo d n vs R).1.length ≤ vs.length + n ∧ ∀ v ∈ (volGo d n vs R).1, v.2.length = 3 := by
  intro n
  induction n with
  | zero => intro vs R m _ h hv; exact ⟨h.le (by omega), by simp [volGo], hv⟩
  | succ n ih =>
    intro vs R m hm h hv
    simp only [volGo]
    split
    · obtain ⟨a, b, c⟩ := ih vs (nx R) m hm (h.nx (by push_cast; omega)) hv
      exact ⟨a, by omega, c⟩
    · have hR : ROk (nx R) (m + 130 * n + 120) := h.nx (by push_cast; omega)
      obtain ⟨h1, h2⟩ := blkGo_ok (all := blksOf vs) hd 3 0 [zP, zP, zP] (nx R) (m + 130 * n) (by omega) (hR.le (by omega))
      obtain ⟨a, b, c⟩ := ih (vs ++ [(nmD R, (blkGo d (blksOf vs) 3 0 [zP, zP, zP] (nx R)).1)]) _ m hm h1 (fun v hv' => by
        rcases List.mem_append.1 hv' with hv' | hv'
        · exact hv v hv'
        · rw [List.mem_singleton.1 hv']; exact h2)
      exact ⟨a, by rw [List.length_append] at b; simp only [List.length_cons, List.length_nil] at b; omega, c⟩
theorem rootD_ok {R : Rd} {d m : Int} (hm : 0 ≤ m) (h : ROk R (m + 600)) (hd : 3 ≤ d ∧ d ≤ 4) : ROk (rootD R d).2 m ∧ (rootD R d).1.2.length ≤ 4 ∧ ∀ v ∈ (rootD R d).1.2, v.2.length = 3 := by
  have h1 : ROk (nx R) (m + 599) := h.nx (by omega)
  have h2 : ROk (nx (nx R)) (m + 598) := h1.nx (by omega)
  have hb := pk_bd h1 (by omega) (n := 5) (by omega)
  obtain ⟨a, b, c⟩ := volGo_ok hd (pk (nx R) 5).toNat [] (nx (nx R)) m hm (h2.le (by omega)) (fun v hv => by cases hv)
  exact ⟨a, by simp only [rootD]; simp only [List.length_nil] at b; omega, c⟩
end Go.Sx

/- Roots drawn: loops' plain lemmas. -/
namespace Go.Sx
open Go
theorem idxFGo_bd {α : Type} {p : α → Bool} : ∀ {l : List α} {i : Nat}, -1 ≤ idxFGo p l i ∧ idxFGo p l i ≤ ((i + l.length : Nat) : Int) := by
  intro l
  induction l with
  | nil => intro i; simp only [idxFGo]; omega
  | cons a l ih =>
    intro i
    simp only [idxFGo]
    have h := ih (i := i + 1)
    rw [List.length_cons]
    split
    · omega
    · omega
theorem hasN_idx {vs : List Vol_} {nm : Str} : hasN_ vs nm = decide (0 ≤ idxF (fun v : Vol_ => decide (v.1 = nm)) vs) := idxF_any.symm
theorem mN_next {c : Bool} {p : Ptr_} {l : List Ptr_} {i : Nat} (hlt : i < l.length) : (c && meetsNo p (l.take (i + 1))) = ((c && meetsNo p (l.take i)) && !meetV p l[i]) := by
  unfold meetsNo
  rw [List.take_succ_eq_append_getElem hlt, List.all_append]
  simp [Bool.and_assoc]
theorem mN_zero {p : Ptr_} {l : List Ptr_} : meetsNo p (l.take 0) = true := rfl
theorem mN_end {p : Ptr_} {l : List Ptr_} : meetsNo p (l.take l.length) = meetsNo p l := by rw [List.take_length]
theorem vols_small {vs : List Vol_} (h1 : vs.length ≤ 4) (h2 : ∀ v ∈ vs, v.2.length = 3) : SmallV vs := ⟨by omega, fun v hv => by have := h2 v hv; omega⟩
theorem blksOf_len {vs : List Vol_} (h1 : vs.length ≤ 4) (h2 : ∀ v ∈ vs, v.2.length = 3) : (blksOf vs).length ≤ 12 := by
  have : ∀ (vs : List Vol_), (∀ v ∈ vs, v.2.length = 3) → (blksOf vs).length = vs.length * 3 := by
    intro vs
    induction vs with
    | nil => intro _; rfl
    | cons v vs ih =>
      intro h
      have h3 := ih (fun w hw => h w (List.mem_cons_of_mem _ hw))
      have h4 := h v List.mem_cons_self
      simp only [blksOf, List.flatMap_cons, List.length_append, List.length_cons] at h3 ⊢
      omega
  have := this vs h2
  omega
end Go.Sx

/- Roots drawn; what is ok with fewer disks is ok with more: plain. -/
namespace Go.Sx
open Go
def drN (code : List Int) : Int := 3 + pk (rd0 code) 2
def drR (code : List Int) : Root_ := (offD (nx (rd0 code)) (drN code)).1
def drP (code : List Int) : Ptr_ := (someD (nx (rd0 code)) (drN code)).1
def drQ (code : List Int) : Rd := (someD (nx (rd0 code)) (drN code)).2
def aN : List Int := [2, 5, 0]
def drM (code : List Int) : Int := if pk (drQ code) 12 = 0 then aN.getD (pk (nx (drQ code)) 3).toNat 0 else drN code
theorem drN_bd {code : List Int} (h : ROk (rd0 code) 3000) : 3 ≤ drN code ∧ drN code ≤ 4 := by
  have := pk_bd h (by omega) (n := 2) (by omega)
  unfold drN; omega
theorem someD_ok {R : Rd} {d m : Int} (hm : 0 ≤ m) (h : ROk R (m + 40)) (hd : 3 ≤ d ∧ d ≤ 4) : ROk (someD R d).2 m := by
  have h0 : ROk (nx R) (m + 39) := h.nx (by omega)
  have h1 : ROk (ptrD (nx R) d).2 (m + 9) := ptrD_ok (m := m + 9) (by omega) (h0.le (by omega)) hd
  have h2 : ROk (nx (ptrD (nx R) d).2) (m + 8) := h1.nx (by omega)
  have h3 : ROk (nx (nx (ptrD (nx R) d).2)) (m + 7) := h2.nx (by omega)
  unfold someD
  simp only
  split
  · exact h0.le (by omega)
  · split
    · exact h3.le (by omega)
    · split
      · exact h3.le (by omega)
      · split
        · exact h3.le (by omega)
        · split
          · exact h2.le (by omega)
          · split <;> exact h2.le (by omega)
theorem chk_mono {α : Type} {f g : List α → α → Bool} (h : ∀ pre a, f pre a = true → g pre a = true) {l : List α} (hl : chk f l = true) : chk g l = true := by
  rw [chk_iff] at hl ⊢
  exact fun i hi => h _ _ (hl i hi)
theorem poolV_iff {d : Int} : poolV d = true ↔ 3 ≤ d ∧ d ≤ 4 := by simp [poolV, inV]
theorem placeF_wide {d : Int} (hd : d ≤ 4) (pre : List Plc) (a : Plc) (h : placeF d pre a = true) : placeF 4 pre a = true := by
  simp only [placeF, placeV, Bool.and_eq_true, decide_eq_true_eq] at h ⊢
  exact ⟨⟨h.1.1, by omega, h.1.2.2⟩, h.2⟩
theorem mostV_wide {d : Int} (h : 3 ≤ d ∧ d ≤ 4) : mostV d ≤ mostV 4 := by
  obtain rfl | rfl : d = 3 ∨ d = 4 := by omega
  · decide
  · decide
theorem sizeV_wide {d : Int} {p : Ptr_} (hd : 3 ≤ d ∧ d ≤ 4) (h : sizeV d p = true) : sizeV 4 p = true := by
  have hm := mostV_wide hd
  simp only [sizeV, inV, Bool.and_eq_true, decide_eq_true_eq] at h ⊢
  exact ⟨⟨h.1.1, by omega⟩, h.2⟩
theorem ptrV_wide {d : Int} {p : Ptr_} (h : ptrV d p = true) : ptrV 4 p = true := by
  simp only [ptrV, Bool.and_eq_true, Bool.or_eq_true] at h ⊢
  obtain ⟨hd, h⟩ := h
  have hd2 := poolV_iff.1 hd
  refine ⟨rfl, h.imp id fun h => ⟨sizeV_wide hd2 h.1, chk_mono (placeF_wide hd2.2) h.2⟩⟩
theorem volF_wide {d : Int} (pre : List Vol_) (v : Vol_) (h : volF d pre v = true) : volF 4 pre v = true := by
  simp only [volF, Bool.and_eq_true, List.all_eq_true] at h ⊢
  exact ⟨h.1, h.2.1, h.2.2.1, fun p hp => ptrV_wide (h.2.2.2 p hp)⟩
theorem rootV_wide {d : Int} {r : Root_} (h : rootV d r = true) : rootV 4 r = true := by
  simp only [rootV, volsV, Bool.and_eq_true] at h ⊢
  exact ⟨rfl, h.2.1, ⟨chk_mono volF_wide h.2.2.1.1, h.2.2.1.2⟩, h.2.2.2⟩
theorem rootT_wide {d : Int} {r : Root_} (h : rootV d r = true) : rootT 4 r = rootT d r := by
  unfold rootT; rw [if_pos h, if_pos (rootV_wide h)]
theorem ptrV_P {d : Int} {p : Ptr_} : ptrV d p = (poolV d && ptrW d p) := by
  cases h : poolV d with
  | true => rw [ptrV_W h, Bool.true_and]
  | false => simp [ptrV, h]
end Go.Sx
