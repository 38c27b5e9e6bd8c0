/- Encrypt: its summary. -/
import Derived.Test.YtjhlhihmdnifnaaGcmO
set_option linter.unusedVariables false
namespace Go
namespace Ev
open Go.Proofs
noncomputable def encP (R : Nat) (K B : List Int) : List Int := rndL R K (R - 1) (encS R K B (R - 2))
noncomputable def lpEnc : LP := { id := 7, ts := [0, 3, 4, 6], is := [0, 1, 2, 3], F := fun vs bs => match vs, bs with
  | [.ptr 0 0, .ptr 2 0, .ptr 3 0, .int .i64 (.ofNat 1)], [.vals l, .ints .u8 K, .ints .u8 B, .ints .u8 O] => match cellsR l sboxI with
    | some R => cond (Nat.beq R 11) (some (.exit 2, encFr 11, keyHp 11 K (rndL 11 K 10 (encS 11 K B 9)) O, 700, andr (Nat.beq (len K) 176) (Nat.beq (len B) 16)))
        (cond (Nat.beq R 15) (some (.exit 2, encFr 15, keyHp 15 K (rndL 15 K 14 (encS 15 K B 13)) O, 700, andr (Nat.beq (len K) 240) (Nat.beq (len B) 16))) none)
    | none => none
  | _, _ => none }
theorem lpEnc_holds {T : Nat → Option Bool} {D : Nat → Prop} (hD : ∀ i, D i → i ∈ [0, 1]) : lpEnc.Holds (CD T) D 162 encBody := by
  intro vs bs x l' m' nx e
  simp only [lpEnc] at e
  split at e
  · rename_i l K B O
    split at e
    · rename_i R hR
      cases h11 : Nat.beq R 11 <;> simp only [h11, cond_true, cond_false] at e
      · cases h15 : Nat.beq R 15 <;> simp only [h15, cond_true, cond_false] at e
        · cases e
        · simp only [Option.some.injEq, Prod.mk.injEq, beq_true, andr_true] at e
          obtain ⟨rfl, rfl, rfl, rfl, h1, h2⟩ := e
          rw [cellsR_eq _ _ _ hR, beq_true.1 h15]
          exact enc_rounds15 hD K B O h1 h2
      · simp only [Option.some.injEq, Prod.mk.injEq, beq_true, andr_true] at e
        obtain ⟨rfl, rfl, rfl, rfl, h1, h2⟩ := e
        rw [cellsR_eq _ _ _ hR, beq_true.1 h11]
        exact enc_rounds11 hD K B O h1 h2
    · cases e
  · cases e
theorem enc18_loops : loopsOf (bodyOf Try.f18) = [keyBody, encBody, subBody, mixBody, xorBody] := by kernel_rfl
noncomputable def LE : Nat → Fr → H → Option Out := mkL [0, 1] [lpKey, lpSub, lpXor, lpEnc]
noncomputable def encIn (R : Nat) (K : List Int) : List (Nat × Blk) := [(0, .vals (cells R)), (1, .ints .u8 K)]
theorem LE_sound {D : Nat → Prop} (hD : ∀ i, D i → i ∈ [0, 1]) : LSound C1 D 162 LE (bodyOf Try.f18) :=
  LSound.of _ fun a ha fr h x fr' h' e => by
    rw [enc18_loops] at ha
    refine mkL_sound hD (fun p hp hid => ?_) fr h x fr' h' e
    have ha' : a = keyBody ∨ a = encBody ∨ a = subBody ∨ a = mixBody ∨ a = xorBody := by simpa using ha
    have hp' : p = lpKey ∨ p = lpSub ∨ p = lpXor ∨ p = lpEnc := by simpa using hp
    have i1 : firstId subBody = 11 := by kernel_rfl
    have i2 : firstId mixBody = 17 := by kernel_rfl
    have i3 : firstId xorBody = 26 := by kernel_rfl
    have i4 : firstId keyBody = 2 := by kernel_rfl
    have i5 : firstId encBody = 7 := by kernel_rfl
    rcases ha' with rfl | rfl | rfl | rfl | rfl <;> rcases hp' with rfl | rfl | rfl | rfl
    all_goals first
      | exact lpKey_holds hD
      | exact lpSub_holds hD
      | exact lpXor_holds hD
      | exact lpEnc_holds (T := fun _ => none) hD
      | (first | rw [i1] at hid | rw [i2] at hid | rw [i3] at hid | rw [i4] at hid | rw [i5] at hid); cases hid
end Ev
end Go
