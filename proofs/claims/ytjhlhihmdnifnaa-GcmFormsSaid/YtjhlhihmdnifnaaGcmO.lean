/- Encrypt: its rounds. -/
import Derived.Test.YtjhlhihmdnifnaaGcmN
set_option linter.unusedVariables false
namespace Go
namespace Ev
open Go.Proofs
theorem S16_gd : ∀ (B : List Int), len B = 16 → S16 (gd B) = B
  | [b0, b1, b2, b3, b4, b5, b6, b7, b8, b9, b10, b11, b12, b13, b14, b15], _ => rfl
noncomputable def encS (R : Nat) (K B : List Int) : Nat → List Int
  | 0 => B
  | i + 1 => rnd R K (i + 1) (encS R K B i)
theorem rnd_len (R : Nat) (K : List Int) (r : Nat) (B : List Int) : len (rnd R K r B) = len B := xorB_len _ _ _ _ _
theorem rndL_len (R : Nat) (K : List Int) (r : Nat) (B : List Int) : len (rndL R K r B) = len B := xorB_len _ _ _ _ _
theorem encS_len (R : Nat) (K B : List Int) : ∀ i, len (encS R K B i) = len B
  | 0 => rfl
  | i + 1 => by show len (rnd _ _ _ _) = _; rw [rnd_len]; exact encS_len R K B i
noncomputable def encA (R : Nat) (K B : List Int) : List Int := rndL R K (R - 1) (encS R K B (R - 2))
theorem enc_loops : loopsOf encBody = [subBody, mixBody, xorBody] := by kernel_rfl
theorem CD_C1 {D : Nat → Option Bool} {E : Nat → Prop} {nt : Nat} {c : Code} {p : LP} (h : p.Holds C1 E nt c) : p.Holds (CD D) E nt c := h
theorem enc_L {T : Nat → Option Bool} {D : Nat → Prop} (hD : ∀ i, D i → i ∈ [0, 1]) : LSound (CD T) D 162 (mkL [0, 1] [lpSub, lpXor]) encBody :=
  LSound.of _ fun a ha fr h x fr' h' e => by
    rw [enc_loops] at ha
    refine mkL_sound hD (fun p hp hid => ?_) fr h x fr' h' e
    have ha' : a = subBody ∨ a = mixBody ∨ a = xorBody := by simpa using ha
    have hp' : p = lpSub ∨ p = lpXor := by simpa using hp
    have i1 : firstId subBody = 11 := by kernel_rfl
    have i2 : firstId mixBody = 17 := by kernel_rfl
    have i3 : firstId xorBody = 26 := by kernel_rfl
    rcases ha' with rfl | rfl | rfl <;> rcases hp' with rfl | rfl
    · exact CD_C1 (lpSub_holds hD)
    · rw [i1] at hid; cases hid
    · rw [i2] at hid; cases hid
    · rw [i2] at hid; cases hid
    · rw [i3] at hid; cases hid
    · exact CD_C1 (lpXor_holds hD)
theorem encHp_ok (R r : Nat) (K B O : List Int) : okAll (encFr r) (keyHp R K B O) [0, 1] = true := by kernel_rfl
theorem ile_nat (a b : Nat) : ile (.ofNat a) (.ofNat b) = Nat.ble a b := rfl
theorem ble_false {a b : Nat} (h : b < a) : Nat.ble a b = false := by
  cases hb : Nat.ble a b
  · rfl
  · rw [ble_true] at hb; omega
theorem fit_i64 {a : Nat} (h : a < 9223372036854775808) : fit .i64 (.ofNat a) = true := by
  show Nat.ble a 9223372036854775807 = true
  rw [ble_true]; omega
theorem enc_rounds11 {T : Nat → Option Bool} {D : Nat → Prop} (hD : ∀ i, D i → i ∈ [0, 1]) (K B O : List Int) (hK : len K = 176) (hB : len B = 16) :
    RSpec (CD T) D 162 encBody (frT (encFr 1)).get (hpT (keyHp 11 K B O)).get (.exit 2) (frT (encFr 11)).get (hpT (keyHp 11 K (rndL 11 K 10 (encS 11 K B 9)) O)).get := by
  have hmid : ∀ i, i < 9 → CSpec (CD T) D 162 encBody (frT (encFr (i + 1))).get (hpT (keyHp 11 K (encS 11 K B i) O)).get .normal (frT (encFr (i + 1 + 1))).get (hpT (keyHp 11 K (encS 11 K B (i + 1)) O)).get := fun i hi => by
    have e := round_mid11 (i + 1) K O (gd (encS 11 K B i))
    rw [S16_gd _ (by rw [encS_len]; exact hB)] at e
    refine CSpec.ev (CD_sound D1) [0, 1] (enc_L hD) e ?_ hD (encHp_ok 11 _ K _ O)
    rw [show (Int.sub 11 1) = .ofNat 10 from rfl, show (((11 : Int)) = .ofNat 11) from rfl, ile_nat, ile_nat, ble_false (by omega), ble_false (by omega), fit_i64 (by omega), hK]
    simp only [andr_true, blt_true, beq_true]
    (repeat' apply And.intro) <;> first | trivial | omega | rfl
  have hend : ∀ r X, r = 10 → len X = 16 → CSpec (CD T) D 162 encBody (frT (encFr r)).get (hpT (keyHp 11 K X O)).get .normal (frT (encFr (r + 1))).get (hpT (keyHp 11 K (rndL 11 K r X) O)).get := fun r X hr hX => by
    have e := round_end11 r K O (gd X)
    rw [S16_gd _ hX] at e
    refine CSpec.ev (CD_sound D2) [0, 1] (enc_L hD) e ?_ hD (encHp_ok 11 _ K _ O)
    rw [show (Int.sub 11 1) = .ofNat 10 from rfl, show (((11 : Int)) = .ofNat 11) from rfl, ile_nat, ile_nat, ble_false (by omega), fit_i64 (by omega), hK]
    simp only [andr_true, blt_true, beq_true, Bool.not_not, ble_true]
    (repeat' apply And.intro) <;> first | trivial | omega | rfl
  have hout : RSpec (CD T) D 162 encBody (frT (encFr 11)).get (hpT (keyHp 11 K (rndL 11 K 10 (encS 11 K B 9)) O)).get (.exit 2) (frT (encFr 11)).get (hpT (keyHp 11 K (rndL 11 K 10 (encS 11 K B 9)) O)).get :=
    RSpec.last (by simp) (CSpec.ev (CD_sound D3) [0, 1] (enc_L hD) (round_out11 11 K O (rndL 11 K 10 (encS 11 K B 9))) rfl hD (encHp_ok 11 _ K _ O))
  have hall : ∀ k i, i + k = 9 → RSpec (CD T) D 162 encBody (frT (encFr (i + 1))).get (hpT (keyHp 11 K (encS 11 K B i) O)).get (.exit 2) (frT (encFr 11)).get (hpT (keyHp 11 K (rndL 11 K 10 (encS 11 K B 9)) O)).get := fun k => by
    induction k with
    | zero => intro i hi; have : i = 9 := by omega
              subst this; exact RSpec.step (hend _ _ rfl (by rw [encS_len]; exact hB)) hout
    | succ k ih => intro i hi; exact RSpec.step (hmid i (by omega)) (ih (i + 1) (by omega))
  exact hall 9 0 rfl
theorem enc_rounds15 {T : Nat → Option Bool} {D : Nat → Prop} (hD : ∀ i, D i → i ∈ [0, 1]) (K B O : List Int) (hK : len K = 240) (hB : len B = 16) :
    RSpec (CD T) D 162 encBody (frT (encFr 1)).get (hpT (keyHp 15 K B O)).get (.exit 2) (frT (encFr 15)).get (hpT (keyHp 15 K (rndL 15 K 14 (encS 15 K B 13)) O)).get := by
  have hmid : ∀ i, i < 13 → CSpec (CD T) D 162 encBody (frT (encFr (i + 1))).get (hpT (keyHp 15 K (encS 15 K B i) O)).get .normal (frT (encFr (i + 1 + 1))).get (hpT (keyHp 15 K (encS 15 K B (i + 1)) O)).get := fun i hi => by
    have e := round_mid15 (i + 1) K O (gd (encS 15 K B i))
    rw [S16_gd _ (by rw [encS_len]; exact hB)] at e
    refine CSpec.ev (CD_sound D1) [0, 1] (enc_L hD) e ?_ hD (encHp_ok 15 _ K _ O)
    rw [show (Int.sub 15 1) = .ofNat 14 from rfl, show (((15 : Int)) = .ofNat 15) from rfl, ile_nat, ile_nat, ble_false (by omega), ble_false (by omega), fit_i64 (by omega), hK]
    simp only [andr_true, blt_true, beq_true]
    (repeat' apply And.intro) <;> first | trivial | omega | rfl
  have hend : ∀ r X, r = 14 → len X = 16 → CSpec (CD T) D 162 encBody (frT (encFr r)).get (hpT (keyHp 15 K X O)).get .normal (frT (encFr (r + 1))).get (hpT (keyHp 15 K (rndL 15 K r X) O)).get := fun r X hr hX => by
    have e := round_end15 r K O (gd X)
    rw [S16_gd _ hX] at e
    refine CSpec.ev (CD_sound D2) [0, 1] (enc_L hD) e ?_ hD (encHp_ok 15 _ K _ O)
    rw [show (Int.sub 15 1) = .ofNat 14 from rfl, show (((15 : Int)) = .ofNat 15) from rfl, ile_nat, ile_nat, ble_false (by omega), fit_i64 (by omega), hK]
    simp only [andr_true, blt_true, beq_true, Bool.not_not, ble_true]
    (repeat' apply And.intro) <;> first | trivial | omega | rfl
  have hout : RSpec (CD T) D 162 encBody (frT (encFr 15)).get (hpT (keyHp 15 K (rndL 15 K 14 (encS 15 K B 13)) O)).get (.exit 2) (frT (encFr 15)).get (hpT (keyHp 15 K (rndL 15 K 14 (encS 15 K B 13)) O)).get :=
    RSpec.last (by simp) (CSpec.ev (CD_sound D3) [0, 1] (enc_L hD) (round_out15 15 K O (rndL 15 K 14 (encS 15 K B 13))) rfl hD (encHp_ok 15 _ K _ O))
  have hall : ∀ k i, i + k = 13 → RSpec (CD T) D 162 encBody (frT (encFr (i + 1))).get (hpT (keyHp 15 K (encS 15 K B i) O)).get (.exit 2) (frT (encFr 15)).get (hpT (keyHp 15 K (rndL 15 K 14 (encS 15 K B 13)) O)).get := fun k => by
    induction k with
    | zero => intro i hi; have : i = 13 := by omega
              subst this; exact RSpec.step (hend _ _ rfl (by rw [encS_len]; exact hB)) hout
    | succ k ih => intro i hi; exact RSpec.step (hmid i (by omega)) (ih (i + 1) (by omega))
  exact hall 13 0 rfl
end Ev
end Go
