/- sum.add: its summary. -/
import Derived.Test.YtjhlhihmdnifnaaGcmE
set_option linter.unusedVariables false
namespace Go
namespace Ev
open Go.Proofs
theorem add_spec (S L : List Int) (o n : Nat) (hS : len S = 50) (h1 : 16 ≤ n) (h2 : o + 16 ≤ len L) :
    FSpec Try.prog 20 [.ptr 0 0, .slice 1 o n 1] ⟨hpT [(0, .ints .u64 S), (1, .ints .u8 L)], 0⟩ (.tuple []) ⟨hpT [(0, .ints .u64 (addM S L o)), (1, .ints .u8 L)], 0⟩ :=
  have hD : ∀ i, (hpT [(0, Blk.ints .u64 S), (1, .ints .u8 L)]).get i ≠ none → i ∈ [0, 1] := fun i hi => by
    cases hg : (hpT [(0, Blk.ints .u64 S), (1, .ints .u8 L)]).get i with
    | none => exact absurd hg hi
    | some c => rcases hpT2_get hg with ⟨rfl, _⟩ | ⟨rfl, _⟩ <;> simp
  FSpec.ev (C := C2) (fn := Try.f20) (c := bodyOf Try.f20) (L := mkL [0, 1] [lpAdd]) (fuel := 300) (nx := 2) (m0 := [(0, .ints .u64 S), (1, .ints .u8 L)]) (m1 := [(0, .ints .u64 (addM S L o)), (1, .ints .u8 L)])
    (k := andr (andr true (andr (Nat.ble 16 n) (Nat.ble (o + 16) (len L)))) (andr (andr true (Nat.blt 48 (len S))) (andr (andr true (Nat.blt 49 (len S))) (andr true (andr (andr true (Nat.beq (len S) 50)) (andr true (Nat.ble (48 + 2) (len S))))))))
    C2_sound (by kernel_rfl) (by kernel_rfl)
    (LSound.of _ fun a ha fr h x fr' h' e => by
      rw [add_loops] at ha
      have ha' : a = addBody := by simpa using ha
      subst ha'
      exact mkL_sound hD (fun p hp _ => by
        have : p = lpAdd := by simpa using hp
        subst this
        exact lpAdd_holds hD) fr h x fr' h' e)
    (by kernel_rfl) (by rw [hS]; simp only [andr_true, ble_true, blt_true, beq_true]; (repeat' apply And.intro) <;> first | trivial | omega) (by kernel_rfl)
end Ev
end Go
