/- The reader, and texts drawn from it: plain law. -/
import Derived.Test.YtbnmeeajooljmaaSxY
set_option linter.all false
namespace Go.Sx
open Go

@[simp] theorem inR_i64 {n : Int} : inR .i64 n ↔ -9223372036854775808 ≤ n ∧ n ≤ 9223372036854775807 := by simp [inR, IntKind.min, IntKind.max, IntKind.signed, IntKind.bits]
@[simp] theorem inR_u8 {n : Int} : inR .u8 n ↔ 0 ≤ n ∧ n ≤ 255 := by simp [inR, IntKind.min, IntKind.max, IntKind.signed, IntKind.bits]
abbrev TB : Ty := .sl (.int .u8)
abbrev TI : Ty := .int .i64
abbrev Rd := List Int × Int
abbrev rdA (r : Rd) : Res := .var [.d TB pF r.1, .d TI pF r.2]
theorem rd_eta (R : Rd) : (R.1, R.2) = R := rfl
def BOk (b : List Int) : Prop := ∀ v ∈ b, 0 ≤ v ∧ v ≤ 255
/-- where the reader stands, within bounds -/
structure ROk (r : Rd) (m : Int) : Prop where
  b : BOk r.1
  len : r.1.length ≤ 2000
  p0 : 0 ≤ r.2
  p1 : r.2 + m ≤ 1099511627776
def pickX (b : List Int) (p : Int) : Int := b.getD (p.tmod b.length).toNat 0 * 131 + b.getD ((p * 7 + 3).tmod b.length).toNat 0 * 1117 + p * 29 + p.tdiv b.length * 53
def pickV (b : List Int) (p n : Int) : Int :=
  if n < 1 then 0 else if b.length = 0 then 0 else if p < b.length then (b.getD p.toNat 0).tmod n else (bitsOp .xor .i64 (pickX b p) ((pickX b p).tdiv 64)).tmod n
def pk (r : Rd) (n : Int) : Int := pickV r.1 r.2 n
def nx (r : Rd) : Rd := (r.1, r.2 + 1)
theorem ROk.nx {r : Rd} {m m' : Int} (h : ROk r m) (hm : m' + 1 ≤ m) : ROk (nx r) m' := ⟨h.b, h.len, by have := h.p0; simp only [Sx.nx]; omega, by have := h.p1; simp only [Sx.nx]; omega⟩
theorem ROk.le {r : Rd} {m m' : Int} (h : ROk r m) (hm : m' ≤ m) : ROk r m' := ⟨h.b, h.len, h.p0, by have := h.p1; omega⟩
theorem getD_b {b : List Int} (h : BOk b) (i : Nat) : 0 ≤ b.getD i 0 ∧ b.getD i 0 ≤ 255 := by
  rw [List.getD_eq_getElem?_getD]
  cases hc : b[i]? with
  | none => simp
  | some v => exact h v (List.mem_of_getElem? hc)
theorem pickX_bd {r : Rd} {m : Int} (h : ROk r m) (hm : 0 ≤ m) : 0 ≤ pickX r.1 r.2 ∧ pickX r.1 r.2 ≤ 1000000000000000 := by
  unfold pickX
  have h1 := getD_b h.b (r.2.tmod r.1.length).toNat
  have h2 := getD_b h.b ((r.2 * 7 + 3).tmod r.1.length).toNat
  have h0 := h.p0
  have h3 : 0 ≤ r.2.tdiv r.1.length ∧ r.2.tdiv r.1.length ≤ r.2 := ⟨Int.tdiv_nonneg h0 (Int.natCast_nonneg _), Int.tdiv_le_self _ h0⟩
  have h4 := h.p1
  omega
theorem xor_bd {x : Int} (h : 0 ≤ x) (h2 : x ≤ 1000000000000000) : 0 ≤ bitsOp .xor .i64 x (x.tdiv 64) := by
  have h3 : 0 ≤ x.tdiv 64 ∧ x.tdiv 64 ≤ x := ⟨Int.tdiv_nonneg h (by omega), Int.tdiv_le_self _ h⟩
  obtain ⟨a, rfl⟩ := Int.eq_ofNat_of_zero_le h
  obtain ⟨c, hc⟩ := Int.eq_ofNat_of_zero_le h3.1
  rw [hc]
  have ha : a < 2 ^ 63 := by simp only [Nat.reducePow]; omega
  have hc' : c < 2 ^ 63 := by simp only [Nat.reducePow]; omega
  have e1 : (BitVec.ofInt 64 (a : Int)).toNat = a := by rw [BitVec.toNat_ofInt]; simp only [Nat.reducePow] at ha ⊢; omega
  have e2 : (BitVec.ofInt 64 (c : Int)).toNat = c := by rw [BitVec.toNat_ofInt]; simp only [Nat.reducePow] at hc' ⊢; omega
  have hx := Nat.xor_lt_two_pow ha hc'
  have hb : bitsOp .xor .i64 (a : Int) (c : Int) = IntKind.wrap .i64 ((BitVec.ofInt 64 (a : Int)).toNat ^^^ (BitVec.ofInt 64 (c : Int)).toNat : Nat) := by
    show IntKind.wrap .i64 ((BitVec.ofInt 64 (a : Int) ^^^ BitVec.ofInt 64 (c : Int)).toNat : Nat) = _
    rw [BitVec.toNat_xor]
  rw [hb, e1, e2, wrap_in]
  · omega
  · simp only [inR, IntKind.min, IntKind.max, IntKind.signed, IntKind.bits]
    simp only [Nat.reducePow] at hx
    constructor <;> simp <;> omega
theorem pk_bd {r : Rd} {m n : Int} (h : ROk r m) (hm : 0 ≤ m) (hn : 1 ≤ n) : 0 ≤ pk r n ∧ pk r n < n := by
  unfold pk pickV
  rw [if_neg (by omega)]
  split
  · omega
  · split
    · exact ⟨Int.tmod_nonneg _ (getD_b h.b _).1, Int.tmod_lt_of_pos _ (by omega)⟩
    · have h1 := pickX_bd h hm
      exact ⟨Int.tmod_nonneg _ (xor_bd h1.1 h1.2), Int.tmod_lt_of_pos _ (by omega)⟩


theorem tmod_ix {a n : Int} (h : 0 ≤ a) (hn : 0 < n) : 0 ≤ a.tmod n ∧ a.tmod n < n := ⟨Int.tmod_nonneg _ h, Int.tmod_lt_of_pos _ hn⟩
theorem getD_b' {b : List Int} (h : BOk b) (i : Nat) : 0 ≤ b[i]?.getD 0 ∧ b[i]?.getD 0 ≤ 255 := by rw [← List.getD_eq_getElem?_getD]; exact getD_b h i
def textGo : Nat → Rd → List Int → List Int × Rd
  | 0, r, out => (out, r)
  | k + 1, r, out => textGo k (nx (nx r)) (out ++ [(([97, 98, 122, 0, 255, 128] : List Int).getD (pk r 6).toNat 0 + pk (nx r) 3) % 256])
def textV (r : Rd) (most : Int) : Str := ofBytes (textGo (pk r (most + 1)).toNat (nx r) []).1
def textR (r : Rd) (most : Int) : Rd := (textGo (pk r (most + 1)).toNat (nx r) []).2
theorem textGo_len : ∀ (k : Nat) (r : Rd) (out : List Int), (textGo k r out).1.length = out.length + k := by
  intro k
  induction k with
  | zero => intro r out; rfl
  | succ k ih => intro r out; simp only [textGo]; rw [ih]; simp; omega
theorem textGo_rd : ∀ (k : Nat) (r : Rd) (out : List Int), (textGo k r out).2 = (r.1, r.2 + 2 * k) := by
  intro k
  induction k with
  | zero => intro r out; simp [textGo]
  | succ k ih => intro r out; simp only [textGo]; rw [ih]; simp [nx]; omega
theorem textV_len {r : Rd} {m most : Int} (h : ROk r m) (hm : 0 ≤ m) (h0 : 0 ≤ most) : ((textV r most).length : Int) ≤ most := by
  unfold textV ofBytes
  rw [List.length_map, textGo_len]
  have := pk_bd h hm (n := most + 1) (by omega)
  simp
  omega
theorem textR_ok {r : Rd} {m m' most : Int} (h : ROk r m) (hm : 0 ≤ m) (h0 : 0 ≤ most) (hm' : m' + 1 + 2 * most ≤ m) : ROk (textR r most) m' := by
  unfold textR
  rw [textGo_rd]
  have := pk_bd h hm (n := most + 1) (by omega)
  have h0 := h.p0
  have h1 := h.p1
  refine ⟨h.b, h.len, ?_, ?_⟩ <;> simp only [nx] <;> omega


end Go.Sx
