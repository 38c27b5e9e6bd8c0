/- Encrypt: its summary. -/
import Derived.Test.YtjhlhihmdnifnaaGcmP
set_option linter.unusedVariables false
namespace Go
namespace Ev
open Go.Proofs
theorem encIn_dom {R : Nat} {K : List Int} : ∀ i, (hpT (encIn R K)).get i ≠ none → i ∈ [0, 1] := fun i hi => by
  cases hg : (hpT (encIn R K)).get i with
  | none => exact absurd hg hi
  | some c => rcases hpT2_get hg with ⟨rfl, _⟩ | ⟨rfl, _⟩ <;> simp
theorem enc_spec11 (K : List Int) (b : Nat → Int) (hK : len K = 176) : FSpec Try.prog 18 [.ptr 0 0, .ints .u8 (S16 b)] ⟨hpT (encIn 11 K), 0⟩ (.ints .u8 (rndL 11 K 10 (encS 11 K (keyB K (S16 b) 16) 9))) ⟨hpT (encIn 11 K), 0⟩ :=
  FSpec.ev (C := C1) (fn := Try.f18) (c := bodyOf Try.f18) (L := LE) (fuel := 300) (nx := 2) (m0 := encIn 11 K) (m1 := encIn 11 K)
    (k := andr true (andr (andr true (andr true (Nat.beq (len K) 176))) (andr true (Nat.beq (len K) 176)))) C1_sound (by kernel_rfl) (by kernel_rfl) (LE_sound encIn_dom) (by kernel_rfl) (by rw [hK]; rfl) (by kernel_rfl)
theorem enc_spec15 (K : List Int) (b : Nat → Int) (hK : len K = 240) : FSpec Try.prog 18 [.ptr 0 0, .ints .u8 (S16 b)] ⟨hpT (encIn 15 K), 0⟩ (.ints .u8 (rndL 15 K 14 (encS 15 K (keyB K (S16 b) 16) 13))) ⟨hpT (encIn 15 K), 0⟩ :=
  FSpec.ev (C := C1) (fn := Try.f18) (c := bodyOf Try.f18) (L := LE) (fuel := 300) (nx := 2) (m0 := encIn 15 K) (m1 := encIn 15 K)
    (k := andr true (andr (andr true (andr true (Nat.beq (len K) 240))) (andr true (Nat.beq (len K) 240)))) C1_sound (by kernel_rfl) (by kernel_rfl) (LE_sound encIn_dom) (by kernel_rfl) (by rw [hK]; rfl) (by kernel_rfl)
end Ev
end Go
