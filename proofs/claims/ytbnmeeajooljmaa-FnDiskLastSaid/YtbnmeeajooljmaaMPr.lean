/- Disks read, written, spoilt, drawn: plain law. -/
import Derived.Test.YtbnmeeajooljmaaMPq
set_option linter.all false
namespace Go.Sx
open Go
def readV (d : Dsk) (at_ : Int) : Str := if rdV d = true ∧ 0 ≤ at_ ∧ at_ < 12 then seenV (drvOf d) d.2.2.2.2 at_ else []
theorem readV_ok {d : Dsk} {a : Int} (h : rdV d = true) (h2 : 0 ≤ a ∧ a < 12) : readV d a = seenV (drvOf d) d.2.2.2.2 a := by unfold readV; rw [if_pos ⟨h, h2⟩]
theorem readV_bad {d : Dsk} {a : Int} (h : ¬ rdV d = true) : readV d a = [] := by unfold readV; rw [if_neg (fun h' => h h'.1)]
theorem readV_no {d : Dsk} {a : Int} (h : ¬ (0 ≤ a ∧ a < 12)) : readV d a = [] := by unfold readV; rw [if_neg (fun h' => h h'.2)]
def writeD (d : Dsk) (p : Put) : Dsk := dskOf d.1 (putU d.1 d.2.2.2.2 (drvOf d)) (putM d.1 d.2.2.2.2 p)
def newD (n : Int) : Dsk := (n, List.replicate 12 [], List.replicate 2 [], List.replicate 12 false, [])
def colS (t : Str) : Bool := decide (t = []) || decide (t.length = 3)
def xorT (t : Str) (b c : Int) : Str := ofBytes ((toBytes t).set b.toNat (bitsOp .xor .u8 ((toBytes t).getD b.toNat 0) c))
theorem xorT_len {t : Str} {b c : Int} : (xorT t b c).length = t.length := by simp [xorT, ofBytes, toBytes]
def spoilV (d : Dsk) (a b c : Int) : Dsk :=
  if d.2.1.getD a.toNat [] = [] ∨ d.2.2.2.1.getD a.toNat false = true then d else (d.1, d.2.1.set a.toNat (xorT (d.2.1.getD a.toNat []) b c), d.2.2.1, d.2.2.2.1.set a.toNat true, d.2.2.2.2)
theorem spoil_no {d : Dsk} {a b c : Int} (h : d.2.1.getD a.toNat [] = [] ∨ d.2.2.2.1.getD a.toNat false = true) : spoilV d a b c = d := by unfold spoilV; rw [if_pos h]
theorem spoil_yes {d : Dsk} {a b c : Int} (h : ¬ d.2.1.getD a.toNat [] = []) (h2 : ¬ d.2.2.2.1.getD a.toNat false = true) : spoilV d a b c = (d.1, d.2.1.set a.toNat (xorT (d.2.1.getD a.toNat []) b c), d.2.2.1, d.2.2.2.1.set a.toNat true, d.2.2.2.2) := by unfold spoilV; rw [if_neg (fun h' => h'.elim h h2)]
end Go.Sx
