/- sum.add: its summary. -/
import Derived.Test.YtjhlhihmdnifnaaGcmD
set_option linter.unusedVariables false
namespace Go
namespace Ev
open Go.Proofs
noncomputable def lpAdd : LP := { id := 5, ts := [0, 4, 5, 28], is := [0, 1, 4, 26], F := fun vs bs => match vs, bs with
  | [.ptr 0 0, .ptr 4 0, .ptr 26 0, .int .i64 (.ofNat 0)], [.ints .u64 S, .ints .u8 L, .ints .u64 [xh, xl], .ints .u64 [.ofNat 0, .ofNat 0]] =>
    some (.exit 0, addFr 32, addHp S L xh xl (addZ S xh xl 32).1 (addZ S xh xl 32).2, 30, Nat.beq (len S) 50)
  | _, _ => none }
theorem addHp_ok (i : Nat) (S L : List Int) (xh xl zh zl : Int) : okAll (addFr i) (addHp S L xh xl zh zl) [0, 1] = true := by kernel_rfl
theorem lpAdd_holds {D : Nat → Prop} (hD : ∀ i, D i → i ∈ [0, 1]) : lpAdd.Holds C2 D 94 addBody := by
  intro vs bs x l' m' nx e
  simp only [lpAdd] at e
  split at e
  · rename_i S L xh xl
    simp only [Option.some.injEq, Prod.mk.injEq, beq_true] at e
    obtain ⟨rfl, rfl, rfl, rfl, hlen⟩ := e
    have hs : ∀ i, i < 32 → CSpec C2 D 94 addBody (frT (addFr i)).get (hpT (addHp S L xh xl (addZ S xh xl i).1 (addZ S xh xl i).2)).get .normal (frT (addFr (i + 1))).get (hpT (addHp S L xh xl (addZ S xh xl (i + 1)).1 (addZ S xh xl (i + 1)).2)).get := fun i hi =>
      CSpec.ev C2_sound [0, 1] (LSound.none _) (add_steps.get i hi S L xh xl _ _) (addK_true S _ _ _ hlen) hD (addHp_ok _ S L xh xl _ _)
    exact RSpec.count (f := fun i => (frT (addFr i)).get) (g := fun i => (hpT (addHp S L xh xl (addZ S xh xl i).1 (addZ S xh xl i).2)).get) (by simp) hs
      (CSpec.ev C2_sound [0, 1] (LSound.none _) (add_last S L xh xl _ _) rfl hD (addHp_ok _ S L xh xl _ _)) 32 0 rfl
  · cases e
theorem add_loops : loopsOf (bodyOf Try.f20) = [addBody] := by kernel_rfl
theorem hpT2_get {a b : Blk} {i : Nat} {c : Blk} (h : (hpT [(0, a), (1, b)]).get i = some c) : (i = 0 ∧ c = a) ∨ (i = 1 ∧ c = b) := by
  have := look_mem (hpT_get h); simpa using this
end Ev
end Go
