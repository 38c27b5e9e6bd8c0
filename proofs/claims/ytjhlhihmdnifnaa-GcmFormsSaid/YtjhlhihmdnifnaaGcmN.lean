/- Encrypt: a round. -/
import Derived.Test.YtjhlhihmdnifnaaGcmL
set_option linter.unusedVariables false
namespace Go
namespace Ev
open Go.Proofs
def mixI (T : List Int) (c i j : Nat) : Int := ixor .u8 (gd T (4 * c + i)) (ixor .u8 (ixor .u8 (ixor .u8 (ixor .u8 (gd T (4 * c)) (gd T (4 * c + 1))) (gd T (4 * c + 2))) (gd T (4 * c + 3))) (twI (ixor .u8 (gd T (4 * c + i)) (gd T (4 * c + j)))))
def mixM (T : List Int) : List Int := [mixI T 0 0 1, mixI T 0 1 2, mixI T 0 2 3, mixI T 0 3 0, mixI T 1 0 1, mixI T 1 1 2, mixI T 1 2 3, mixI T 1 3 0, mixI T 2 0 1, mixI T 2 1 2, mixI T 2 2 3, mixI T 2 3 0, mixI T 3 0 1, mixI T 3 1 2, mixI T 3 2 3, mixI T 3 3 0]
noncomputable def encBody : Code := (nth (loopsOf (bodyOf Try.f18)) 1).getD .skip
noncomputable def mixBody : Code := (nth (loopsOf (bodyOf Try.f18)) 3).getD .skip
def encFr (r : Nat) : List (Nat × V) := [(0, .ptr 0 0), (3, .ptr 2 0), (4, .ptr 3 0), (6, .int .i64 (.ofNat r))]
noncomputable def CD (D : Nat → Option Bool) : Cfg := { P := Try.prog, OV := OV1, O := fun _ _ _ => none, D := D }
theorem CD_sound (D : Nat → Option Bool) : Sound (CD D) := ⟨(C1_sound).mixed, (fun _ _ _ _ _ _ e => nomatch e), OV1_sound⟩
/-- A round within, the last round, the end. -/
noncomputable def D1 (t : Nat) : Option Bool := cond (Nat.beq t 39) (some true) (cond (Nat.beq t 68) (some true) none)
noncomputable def D2 (t : Nat) : Option Bool := cond (Nat.beq t 39) (some true) (cond (Nat.beq t 68) (some false) none)
noncomputable def D3 (t : Nat) : Option Bool := cond (Nat.beq t 39) (some false) none
def S16 (b : Nat → Int) : List Int := [b 0, b 1, b 2, b 3, b 4, b 5, b 6, b 7, b 8, b 9, b 10, b 11, b 12, b 13, b 14, b 15]
noncomputable def rnd (R : Nat) (K : List Int) (r : Nat) (B : List Int) : List Int := xorB K (mixM (subT R B 16)) r B 16
noncomputable def rndL (R : Nat) (K : List Int) (r : Nat) (B : List Int) : List Int := xorB K (subT R B 16) r B 16
theorem round_mid11 (r : Nat) (K O : List Int) (b : Nat → Int) : pickO (evC (CD D1) (mkL [0, 1] [lpSub, lpXor]) 162 300 encBody (frT (encFr r)) ⟨hpT (keyHp 11 K (S16 b) O), 30⟩) (keys (encFr (r + 1))) (keys (keyHp 11 K (S16 b) O)) =
    some (.normal, vals (encFr (r + 1)), vals (keyHp 11 K (rnd 11 K r (S16 b)) O), andr (andr true (not (ile 11 (.ofNat r)))) (andr (andr true (andr true (andr (andr true (not (ile (Int.sub 11 1) (.ofNat r)))) (andr true (andr (Nat.blt r 11) (Nat.beq (len K) 176)))))) (andr true (fit .i64 (.ofNat (r + 1)))))) := by kernel_rfl
theorem round_end11 (r : Nat) (K O : List Int) (b : Nat → Int) : pickO (evC (CD D2) (mkL [0, 1] [lpSub, lpXor]) 162 300 encBody (frT (encFr r)) ⟨hpT (keyHp 11 K (S16 b) O), 30⟩) (keys (encFr (r + 1))) (keys (keyHp 11 K (S16 b) O)) =
    some (.normal, vals (encFr (r + 1)), vals (keyHp 11 K (rndL 11 K r (S16 b)) O), andr (andr true (not (ile 11 (.ofNat r)))) (andr (andr true (andr true (andr (andr true (not (not (ile (Int.sub 11 1) (.ofNat r))))) (andr true (andr (Nat.blt r 11) (Nat.beq (len K) 176)))))) (andr true (fit .i64 (.ofNat (r + 1)))))) := by kernel_rfl
theorem round_out11 (r : Nat) (K O B : List Int) : pickO (evC (CD D3) (mkL [0, 1] [lpSub, lpXor]) 162 300 encBody (frT (encFr r)) ⟨hpT (keyHp 11 K B O), 30⟩) (keys (encFr r)) (keys (keyHp 11 K B O)) =
    some (.exit 2, vals (encFr r), vals (keyHp 11 K B O), andr true (not (not (ile 11 (.ofNat r))))) := by kernel_rfl
theorem round_mid15 (r : Nat) (K O : List Int) (b : Nat → Int) : pickO (evC (CD D1) (mkL [0, 1] [lpSub, lpXor]) 162 300 encBody (frT (encFr r)) ⟨hpT (keyHp 15 K (S16 b) O), 30⟩) (keys (encFr (r + 1))) (keys (keyHp 15 K (S16 b) O)) =
    some (.normal, vals (encFr (r + 1)), vals (keyHp 15 K (rnd 15 K r (S16 b)) O), andr (andr true (not (ile 15 (.ofNat r)))) (andr (andr true (andr true (andr (andr true (not (ile (Int.sub 15 1) (.ofNat r)))) (andr true (andr (Nat.blt r 15) (Nat.beq (len K) 240)))))) (andr true (fit .i64 (.ofNat (r + 1)))))) := by kernel_rfl
theorem round_end15 (r : Nat) (K O : List Int) (b : Nat → Int) : pickO (evC (CD D2) (mkL [0, 1] [lpSub, lpXor]) 162 300 encBody (frT (encFr r)) ⟨hpT (keyHp 15 K (S16 b) O), 30⟩) (keys (encFr (r + 1))) (keys (keyHp 15 K (S16 b) O)) =
    some (.normal, vals (encFr (r + 1)), vals (keyHp 15 K (rndL 15 K r (S16 b)) O), andr (andr true (not (ile 15 (.ofNat r)))) (andr (andr true (andr true (andr (andr true (not (not (ile (Int.sub 15 1) (.ofNat r))))) (andr true (andr (Nat.blt r 15) (Nat.beq (len K) 240)))))) (andr true (fit .i64 (.ofNat (r + 1)))))) := by kernel_rfl
theorem round_out15 (r : Nat) (K O B : List Int) : pickO (evC (CD D3) (mkL [0, 1] [lpSub, lpXor]) 162 300 encBody (frT (encFr r)) ⟨hpT (keyHp 15 K B O), 30⟩) (keys (encFr r)) (keys (keyHp 15 K B O)) =
    some (.exit 2, vals (encFr r), vals (keyHp 15 K B O), andr true (not (not (ile 15 (.ofNat r))))) := by kernel_rfl
end Ev
end Go
