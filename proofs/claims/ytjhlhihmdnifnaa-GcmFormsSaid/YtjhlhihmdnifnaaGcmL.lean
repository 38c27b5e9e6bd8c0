/- Encrypt: the two loops that add a round's key. -/
import Derived.Test.YtjhlhihmdnifnaaGcmK
set_option linter.unusedVariables false
namespace Go
namespace Ev
open Go.Proofs
def xorStep (K T : List Int) (r i : Nat) (B : List Int) : List Int := set1 B i (ixor .u8 (gd T i) (gd K (0 + r * 16 + i)))
def xorB (K T : List Int) (r : Nat) (B : List Int) : Nat → List Int
  | 0 => B
  | i + 1 => xorStep K T r i (xorB K T r B i)
theorem xorB_len (K T : List Int) (r : Nat) (B : List Int) : ∀ i, len (xorB K T r B i) = len B
  | 0 => rfl
  | i + 1 => by show len (set1 _ _ _) = _; rw [set1_len]; exact xorB_len K T r B i
noncomputable def xorBody : Code := (nth (loopsOf (bodyOf Try.f18)) 4).getD .skip
def xorFr (r i : Nat) : List (Nat × V) := [(0, .ptr 0 0), (3, .ptr 2 0), (4, .ptr 3 0), (6, .int .i64 (.ofNat r)), (7, .ptr 37 0), (142, .int .i64 (.ofNat i))]
noncomputable def xorK (R r : Nat) (K B T : List Int) (i : Nat) : Bool := andr true (andr true (andr true (andr (andr (andr (andr true (Nat.blt i (len T))) (andr true (Nat.blt (nn (Int.ofNat r)) R))) (Nat.blt (0 + nn (Int.ofNat r) * 16 + i) (len K))) (Nat.blt i (len B)))))
theorem xor_steps : AllLt (fun i => ∀ (R r : Nat) (K B O T : List Int), pickO (evC C1 noL 162 300 xorBody (frT (xorFr r i)) ⟨hpT (subHp R K B O T), 40⟩) (keys (xorFr r (i + 1))) (keys (subHp R K B O T)) =
    some (.normal, vals (xorFr r (i + 1)), vals (subHp R K (xorStep K T r i B) O T), xorK R r K B T i)) 16 := by
  repeat (first | exact trivial | refine ⟨?_, fun R r K B O T => by kernel_rfl⟩)
theorem xor_last (R r : Nat) (K B O T : List Int) : pickO (evC C1 noL 162 300 xorBody (frT (xorFr r 16)) ⟨hpT (subHp R K B O T), 40⟩) (keys (xorFr r 16)) (keys (subHp R K B O T)) =
    some (.exit 8, vals (xorFr r 16), vals (subHp R K B O T), true) := by kernel_rfl
theorem xorHp_ok (R r : Nat) (i : Nat) (K B O T : List Int) : okAll (xorFr r i) (subHp R K B O T) [0, 1] = true := by kernel_rfl
theorem xorK_true {R r : Nat} {K B T : List Int} {i : Nat} (hB : len B = 16) (hT : len T = 16) (hr : r < R) (hK : len K = 16 * R) (hi : i < 16) : xorK R r K B T i = true := by
  unfold xorK
  rw [hB, hT, hK]
  simp only [andr_true, blt_true, nn]
  (repeat' apply And.intro) <;> first | trivial | omega
noncomputable def lpXor : LP := { id := 26, ts := [0, 3, 4, 6, 7, 142], is := [0, 1, 2, 3, 37], F := fun vs bs => match vs, bs with
  | [.ptr 0 0, .ptr 2 0, .ptr 3 0, .int .i64 (.ofNat r), .ptr 37 0, .int .i64 (.ofNat 0)], [.vals l, .ints .u8 K, .ints .u8 B, .ints .u8 O, .ints .u8 T] => match cellsR l sboxI with
    | some R => some (.exit 8, xorFr r 16, subHp R K (xorB K T r B 16) O T, 600, andr (Nat.blt r R) (andr (Nat.beq (len K) (16 * R)) (andr (Nat.beq (len T) 16) (Nat.beq (len B) 16))))
    | none => none
  | _, _ => none }
theorem lpXor_holds {D : Nat → Prop} (hD : ∀ i, D i → i ∈ [0, 1]) : lpXor.Holds C1 D 162 xorBody := by
  intro vs bs x l' m' nx e
  simp only [lpXor] at e
  split at e
  · rename_i r l K B O T
    split at e
    · rename_i R hR
      simp only [Option.some.injEq, Prod.mk.injEq, beq_true, blt_true, andr_true] at e
      obtain ⟨rfl, rfl, rfl, rfl, h1, h2, h3, h4⟩ := e
      rw [cellsR_eq _ _ _ hR]
      have hs : ∀ i, i < 16 → CSpec C1 D 162 xorBody (frT (xorFr r i)).get (hpT (subHp R K (xorB K T r B i) O T)).get .normal (frT (xorFr r (i + 1))).get (hpT (subHp R K (xorB K T r B (i + 1)) O T)).get := fun i hi =>
        CSpec.ev C1_sound [0, 1] (LSound.none _) (xor_steps.get i hi R r K _ O T) (xorK_true (by rw [xorB_len]; exact h4) h3 h1 h2 hi) hD (xorHp_ok R r _ K _ O T)
      exact RSpec.count (f := fun i => (frT (xorFr r i)).get) (g := fun i => (hpT (subHp R K (xorB K T r B i) O T)).get) (by simp) hs
        (CSpec.ev C1_sound [0, 1] (LSound.none _) (xor_last R r K _ O T) rfl hD (xorHp_ok R r _ K _ O T)) 16 0 rfl
    · cases e
  · cases e

def keyStep (K : List Int) (i : Nat) (B : List Int) : List Int := set1 B i (ixor .u8 (gd B i) (gd K i))
def keyB (K B : List Int) : Nat → List Int
  | 0 => B
  | i + 1 => keyStep K i (keyB K B i)
theorem keyB_len (K B : List Int) : ∀ i, len (keyB K B i) = len B
  | 0 => rfl
  | i + 1 => by show len (set1 _ _ _) = _; rw [set1_len]; exact keyB_len K B i
noncomputable def keyBody : Code := (nth (loopsOf (bodyOf Try.f18)) 0).getD .skip
def keyFr (i : Nat) : List (Nat × V) := [(0, .ptr 0 0), (3, .ptr 2 0), (4, .ptr 3 0), (16, .int .i64 (.ofNat i))]
noncomputable def keyHp (R : Nat) (K B O : List Int) : List (Nat × Blk) := [(0, .vals (cells R)), (1, .ints .u8 K), (2, .ints .u8 B), (3, .ints .u8 O)]
noncomputable def keyK (R : Nat) (K B : List Int) (i : Nat) : Bool := andr true (andr true (andr true (andr (andr (andr (andr true (Nat.blt i (len B))) (andr true (Nat.blt 0 R))) (Nat.blt i (len K))) (Nat.blt i (len B)))))
theorem key_steps : AllLt (fun i => ∀ (R : Nat) (K B O : List Int), pickO (evC C1 noL 162 300 keyBody (frT (keyFr i)) ⟨hpT (keyHp R K B O), 40⟩) (keys (keyFr (i + 1))) (keys (keyHp R K B O)) =
    some (.normal, vals (keyFr (i + 1)), vals (keyHp R K (keyStep K i B) O), keyK R K B i)) 16 := by
  repeat (first | exact trivial | refine ⟨?_, fun R K B O => by kernel_rfl⟩)
theorem key_last (R : Nat) (K B O : List Int) : pickO (evC C1 noL 162 300 keyBody (frT (keyFr 16)) ⟨hpT (keyHp R K B O), 40⟩) (keys (keyFr 16)) (keys (keyHp R K B O)) =
    some (.exit 0, vals (keyFr 16), vals (keyHp R K B O), true) := by kernel_rfl
theorem keyHp_ok (R : Nat) (i : Nat) (K B O : List Int) : okAll (keyFr i) (keyHp R K B O) [0, 1] = true := by kernel_rfl
theorem keyK_true {R : Nat} {K B : List Int} {i : Nat} (hB : len B = 16) (hr : 0 < R) (hK : len K = 16 * R) (hi : i < 16) : keyK R K B i = true := by
  unfold keyK
  rw [hB, hK]
  simp only [andr_true, blt_true]
  (repeat' apply And.intro) <;> first | trivial | omega
noncomputable def lpKey : LP := { id := 2, ts := [0, 3, 4, 16], is := [0, 1, 2, 3], F := fun vs bs => match vs, bs with
  | [.ptr 0 0, .ptr 2 0, .ptr 3 0, .int .i64 (.ofNat 0)], [.vals l, .ints .u8 K, .ints .u8 B, .ints .u8 O] => match cellsR l sboxI with
    | some R => some (.exit 0, keyFr 16, keyHp R K (keyB K B 16) O, 20, andr (Nat.blt 0 R) (andr (Nat.beq (len K) (16 * R)) (Nat.beq (len B) 16)))
    | none => none
  | _, _ => none }
theorem lpKey_holds {D : Nat → Prop} (hD : ∀ i, D i → i ∈ [0, 1]) : lpKey.Holds C1 D 162 keyBody := by
  intro vs bs x l' m' nx e
  simp only [lpKey] at e
  split at e
  · rename_i l K B O
    split at e
    · rename_i R hR
      simp only [Option.some.injEq, Prod.mk.injEq, beq_true, blt_true, andr_true] at e
      obtain ⟨rfl, rfl, rfl, rfl, h1, h2, h4⟩ := e
      rw [cellsR_eq _ _ _ hR]
      have hs : ∀ i, i < 16 → CSpec C1 D 162 keyBody (frT (keyFr i)).get (hpT (keyHp R K (keyB K B i) O)).get .normal (frT (keyFr (i + 1))).get (hpT (keyHp R K (keyB K B (i + 1)) O)).get := fun i hi =>
        CSpec.ev C1_sound [0, 1] (LSound.none _) (key_steps.get i hi R K _ O) (keyK_true (by rw [keyB_len]; exact h4) h1 h2 hi) hD (keyHp_ok R _ K _ O)
      exact RSpec.count (f := fun i => (frT (keyFr i)).get) (g := fun i => (hpT (keyHp R K (keyB K B i) O)).get) (by simp) hs
        (CSpec.ev C1_sound [0, 1] (LSound.none _) (key_last R K _ O) rfl hD (keyHp_ok R _ K _ O)) 16 0 rfl
    · cases e
  · cases e
end Ev
end Go
