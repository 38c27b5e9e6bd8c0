/- gcm: Hash; the law's own functions. -/
import Derived.Test.YtjhlhihmdnifnaaGcmZ
set_option linter.unusedVariables false
namespace Go
namespace Ev
open Go.Proofs
noncomputable def DH (a b : Bool) (t : Nat) : Option Bool := cond (Nat.beq t 11) (some a) (cond (Nat.beq t 16) (some b) none)
theorem hash_spec (h s : List UInt8) (h1 : len h ≤ 9223372036854775807) (h2 : len s ≤ 9223372036854775807) : VSpec Try.prog 7 [.str h, .str s] (hashV h s) := by
  unfold hashV
  cases e1 : Nat.beq (len h) 16 <;> simp only [cond_true, cond_false]
  · exact VSpec.ev (C := C6 1 (DH true true)) (fn := Try.f7) (c := bodyOf Try.f7) (L := noL) (fuel := 100) (d := 9) (nx := 0)
      (k := andr true (andr (andr (andr (andr (andr (andr true ((len h).ble 9223372036854775807)) !ieq (Int.ofNat (len h)) (Int.ofNat 16)) !ieq (Int.ofNat (len h)) (Int.ofNat 16)) !ieq (Int.ofNat (len h)) (Int.ofNat 16)) !ieq (Int.ofNat (len h)) (Int.ofNat 16)) !ieq (Int.ofNat (len h)) (Int.ofNat 16)))
      (C6_sound _ _) (by kernel_rfl) (by kernel_rfl) (LSound.none _) (by kernel_rfl) (by simp only [ieq_nat, e1, andr_true, ble_true, Bool.not_false]; simp only [h1, and_self]) rfl
  cases e2 : Nat.beq (len s % 16) 0 <;> simp only [cond_true, cond_false]
  · exact VSpec.ev (C := C6 1 (DH false true)) (fn := Try.f7) (c := bodyOf Try.f7) (L := noL) (fuel := 100) (d := 9) (nx := 0)
      (k := andr true (andr (andr (andr (andr (andr (andr (andr (andr true ((len h).ble 9223372036854775807)) !!ieq (Int.ofNat (len h)) (Int.ofNat 16)) !!ieq (Int.ofNat (len h)) (Int.ofNat 16)) ((len s).ble 9223372036854775807)) !!ieq (Int.ofNat (len h)) (Int.ofNat 16)) !!ieq (Int.ofNat (len h)) (Int.ofNat 16)) !!ieq (Int.ofNat (len h)) (Int.ofNat 16)) !ieq (Int.ofNat (len s % 16)) (Int.ofNat 0)))
      (C6_sound _ _) (by kernel_rfl) (by kernel_rfl) (LSound.none _) (by kernel_rfl) (by simp only [ieq_nat, e1, e2, andr_true, ble_true, Bool.not_false, Bool.not_true]; simp only [h1, h2, and_self]) rfl
  · exact VSpec.ev (C := C6 1 (DH false false)) (fn := Try.f7) (c := bodyOf Try.f7) (L := noL) (fuel := 100) (d := 9) (nx := 0)
      (k := andr true (andr (andr (andr (andr (andr (andr (andr (andr (andr true ((len h).ble 9223372036854775807)) !!ieq (Int.ofNat (len h)) (Int.ofNat 16)) !!ieq (Int.ofNat (len h)) (Int.ofNat 16)) ((len s).ble 9223372036854775807)) !!ieq (Int.ofNat (len h)) (Int.ofNat 16)) !!ieq (Int.ofNat (len h)) (Int.ofNat 16)) !!ieq (Int.ofNat (len h)) (Int.ofNat 16)) !!ieq (Int.ofNat (len s % 16)) (Int.ofNat 0)) (andr (andr true (andr (Nat.ble 16 (len h)) (Nat.ble 16 (len (toI h))))) (andr (andr true (andr true (andr ((len s).ble 9223372036854775807) ((0 + len s).ble (len (toI s)))))) (andr true (Nat.ble 50 (len (allM (newM (ldI (toI h) 0 0 8) (ldI (toI h) 0 8 8)) (toI s) 0 (len s)))))))))
      (C6_sound _ _) (by kernel_rfl) (by kernel_rfl) (LSound.none _) (by kernel_rfl) (by
        rw [allM_len _ _ _ _ (newM_len _ _), toI_len, toI_len, beq_true.1 e1]
        simp only [ieq_nat, e2, andr_true, ble_true, Bool.not_false, Bool.not_true]
        (repeat' apply And.intro) <;> first | trivial | omega | rfl) rfl
theorem num_spec (x : Int) : VSpec Try.prog 8 [.int .i64 x] (.int .i64 x) :=
  VSpec.ev (C := C6 1 (fun _ => none)) (fn := Try.f8) (c := bodyOf Try.f8) (L := noL) (fuel := 100) (d := 9) (nx := 0) (k := true)
      (C6_sound _ _) (by kernel_rfl) (by kernel_rfl) (LSound.none _) (by kernel_rfl) rfl rfl
def okL (s : List UInt8) : Bool := Nat.ble (len s) 9223372036854775807
noncomputable def OV4 (f : Nat) (args : List V) : Option (V × Bool) := cond (Nat.beq f 8) (match args with
  | [.int .i64 x] => some (.int .i64 x, true)
  | _ => none) (cond (Nat.beq f 5) (match args with
  | [.str k, .str n, .str a, .str s] => some (sealV k n a s, andr (okL k) (andr (okL n) (andr (okL a) (okL s))))
  | _ => none) (cond (Nat.beq f 6) (match args with
  | [.str k, .str n, .str a, .str s] => some (openV k n a s, andr (okL k) (andr (okL n) (andr (okL a) (okL s))))
  | _ => none) (cond (Nat.beq f 7) (match args with
  | [.str h, .str s] => some (hashV h s, andr (okL h) (okL s))
  | _ => none) (OV3 f args))))
theorem OV4_sound : ∀ f args v, OV4 f args = some (v, true) → Callable Try.prog f ∧ VSpec Try.prog f args v := by
  intro f args v e
  unfold OV4 at e
  cases h : Nat.beq f 8 <;> rw [h] at e <;> simp only [cond_true, cond_false] at e
  case true =>
    rw [beq_true.1 h]
    split at e
    · cases e; exact ⟨callable (fn := Try.f8) (by kernel_rfl) (by kernel_rfl) (by kernel_rfl), num_spec _⟩
    · cases e
  cases h : Nat.beq f 5 <;> rw [h] at e <;> simp only [cond_true, cond_false] at e
  case true =>
    rw [beq_true.1 h]
    split at e
    · simp only [Option.some.injEq, Prod.mk.injEq, andr_true, okL, ble_true] at e
      obtain ⟨rfl, h1, h2, h3, h4⟩ := e
      exact ⟨callable (fn := Try.f5) (by kernel_rfl) (by kernel_rfl) (by kernel_rfl), seal_spec _ _ _ _ h1 h2 h3 h4⟩
    · cases e
  cases h : Nat.beq f 6 <;> rw [h] at e <;> simp only [cond_true, cond_false] at e
  case true =>
    rw [beq_true.1 h]
    split at e
    · simp only [Option.some.injEq, Prod.mk.injEq, andr_true, okL, ble_true] at e
      obtain ⟨rfl, h1, h2, h3, h4⟩ := e
      exact ⟨callable (fn := Try.f6) (by kernel_rfl) (by kernel_rfl) (by kernel_rfl), open_spec _ _ _ _ h1 h2 h3 h4⟩
    · cases e
  cases h : Nat.beq f 7 <;> rw [h] at e <;> simp only [cond_true, cond_false] at e
  case true =>
    rw [beq_true.1 h]
    split at e
    · simp only [Option.some.injEq, Prod.mk.injEq, andr_true, okL, ble_true] at e
      obtain ⟨rfl, h1, h2⟩ := e
      exact ⟨callable (fn := Try.f7) (by kernel_rfl) (by kernel_rfl) (by kernel_rfl), hash_spec _ _ h1 h2⟩
    · cases e
  exact OV3_sound f args v e
noncomputable def C7 (D : Nat → Option Bool) : Cfg := { P := Try.prog, OV := OV4, O := fun _ _ _ => none, D := D }
theorem C7_sound (D : Nat → Option Bool) : Sound (C7 D) := ⟨(C1_sound).mixed, (fun _ _ _ _ _ _ e => nomatch e), OV4_sound⟩
end Ev
end Go
