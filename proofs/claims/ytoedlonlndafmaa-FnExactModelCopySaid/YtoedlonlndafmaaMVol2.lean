/- isVolName's contract for Sx. -/
import Derived.Test.YtoedlonlndafmaaMVol
import Derived.Test.YtoedlonlndafmaaMG3
set_option linter.all false
namespace Go.Sx
open Go Go.RowKit
theorem volOk_eq (s : Str) : Proofs.volOk (mkS s) = nameV s := by
  have h : (mkS s).size = s.length := rfl
  have h2 : (mkS s).data.toList = s := rfl
  unfold Proofs.volOk nameV inV
  rw [h, h2, show (fun c : UInt8 => decide (97 ≤ c.toNat) && decide (c.toNat ≤ 122)) = lower from rfl]
  congr 1
  cases s with
  | nil => rfl
  | cons a l =>
    have e1 : ((a :: l).length == 0) = false := rfl
    rw [e1]
    simp only [Bool.not_false, Bool.true_and, List.length_cons]
    have e2 : decide ((1 : Int) ≤ ((l.length + 1 : Nat) : Int)) = true := by simp; omega
    rw [e2, Bool.true_and]
    exact decide_eq_decide.2 (by omega)
/-- a contract from a walk by the kit's own means, where nothing that lay has turned -/
theorem ctr_of_below {P : Program} {c : Ctr} {fn : Func} {body : Code} (hf : P.funcs[c.f]? = some fn) (hb : fn.body = some body) (hn : (fn.name == "runtime.NumGoroutine") = false) (href : noRefs c.ins = true)
    (h : ∀ G w args x, ArgsOk G w 0 c.ins x args → c.pre x → Calls P c.f args.toArray w fun e w' => ∃ v, e = .returned v ∧ Below w.heap.size w w' ∧ (∀ G', MtS G' w' (c.post x).1 v) ∧ (c.post x).2 = []) : CtrOk P c := by
  intro G w args x hbnd hargs hpre
  have hrun : (callFunc c.f args.toArray).run P w = .ok (.enter c.f args.toArray) w := by
    have hn' : ¬ fn.name = "runtime.NumGoroutine" := by simpa using hn
    simp [callFunc, hf, hn', hb]
  refine ⟨_, _, hrun, .inr (.inl ⟨rfl, ?_⟩)⟩
  intro cs
  obtain ⟨e, w', fr, ⟨v, rfl, hB, hm, hp⟩, h1, h2, h3⟩ := h G w args x hargs hpre cs
  refine ⟨_, w', fr, ?_, h1, h2, h3⟩
  let G' : Gh := ⟨fun _ => .bool false, G.g⟩
  have hk : ∀ b, G.g b ≠ .no → w'.heap[b]? = w.heap[b]? := fun b hb => hB.block b (hbnd b hb)
  refine ⟨G', ⟨fun _ h => h.elim, ⟨fun b hb => ⟨hb, hk b (by rw [hb]; simp)⟩, fun b hb => ⟨hb, hk b (by rw [hb]; simp)⟩⟩, fun b j q hg _ => ⟨hg, hk b (by rw [hg]; simp)⟩, fun b hlt hb => ⟨hB.block b hlt, hb⟩, fun b hb => Nat.lt_of_lt_of_le (hbnd b hb) hB.size, fun _ _ => rfl, hB.os, hB.tape, hB.output, hB.size⟩, fun _ => rfl, ?_, hm G', ?_⟩
  · rw [noRefs_ptr href]; intro p hp; cases hp
  · rw [hp]; intro i R hi; cases hi
def cVol : Ctr := ⟨48, [.val false .str pF], fun _ => True, fun x => (sBool (nameV x.1), [])⟩
theorem cVol_ok : CtrOk Proofs.Try.prog cVol := by
  refine ctr_of_below (fn := Proofs.Try.f48) Proofs.Try.func48 rfl rfl rfl ?_
  rintro G w args ⟨(s : Str), ⟨⟩⟩ ⟨v, vs, rfl, ⟨_, cs, rfl, _, ⟨rfl, hl⟩⟩, rfl⟩ _
  have h := Proofs.vol48_in Fence.wide 3 trivial trivial trivial rfl (Nat.le_refl _) (mkS s) (by exact hl) w
  refine (callsIn_wide.1 h).mono ?_
  rintro e w' ⟨rfl, hB⟩
  refine ⟨_, rfl, hB, fun G' => ?_, rfl⟩
  rw [volOk_eq]
  exact MtS.ofBool
end Go.Sx
