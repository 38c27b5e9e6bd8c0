/- The table of bytes. -/
import Derived.Test.YtjhlhihmdnifnaaGcmA
import Derived.Test.YtjhlhihmdnifnaaGcmS
set_option linter.unusedVariables false
namespace Go
namespace Ev
open Go.Proofs
/-- The functions of values, as oracles. -/
noncomputable def OV1 (f : Nat) (args : List V) : Option (V × Bool) :=
  cond (Nat.beq f 23) (match args with
    | [.int .u8 x] => some (.int .u8 (twI x), true)
    | _ => none)
  (cond (Nat.beq f 24) (match args with
    | [.int .u8 x, .int .i64 (.ofNat k)] => cond (Nat.beq k 1) (some (.int .u8 (rotI x 1), true)) (cond (Nat.beq k 2) (some (.int .u8 (rotI x 2), true)) (cond (Nat.beq k 3) (some (.int .u8 (rotI x 3), true)) (cond (Nat.beq k 4) (some (.int .u8 (rotI x 4), true)) none)))
    | _ => none)
  (cond (Nat.beq f 21) (match args with
    | [.ints .u64 [x, y]] => some (.ints .u64 [halfH x y, halfL x y], true)
    | _ => none)
  (cond (Nat.beq f 16) (match args with
    | [.ints .u64 [x, y]] => some (.ints .u8 (bytesI x y), true)
    | _ => none)
  (cond (Nat.beq f 19) (match args with
    | [.str [c0, c1, c2, c3, c4, c5, c6, c7, c8, c9, c10, c11], .int .u32 n] => some (.ints .u8 (app (toI [c0, c1, c2, c3, c4, c5, c6, c7, c8, c9, c10, c11]) (ctrI n)), true)
    | _ => none)
  none))))
theorem OV1_sound : ∀ f args v, OV1 f args = some (v, true) → Callable Try.prog f ∧ VSpec Try.prog f args v := by
  intro f args v e
  unfold OV1 at e
  cases h : Nat.beq f 23 <;> rw [h] at e <;> simp only [cond_true, cond_false] at e
  case true =>
    rw [beq_true.1 h]
    split at e
    · cases e; exact ⟨callable (fn := Try.f23) (by kernel_rfl) (by kernel_rfl) (by kernel_rfl), twice_spec _⟩
    · cases e
  cases h : Nat.beq f 24 <;> rw [h] at e <;> simp only [cond_true, cond_false] at e
  case true =>
    rw [beq_true.1 h]
    refine ⟨callable (fn := Try.f24) (by kernel_rfl) (by kernel_rfl) (by kernel_rfl), ?_⟩
    split at e
    · rename_i x k
      cases h1 : Nat.beq k 1 <;> rw [h1] at e <;> simp only [cond_true, cond_false] at e
      case true => cases e; rw [beq_true.1 h1]; exact rot1_spec x
      cases h1 : Nat.beq k 2 <;> rw [h1] at e <;> simp only [cond_true, cond_false] at e
      case true => cases e; rw [beq_true.1 h1]; exact rot2_spec x
      cases h1 : Nat.beq k 3 <;> rw [h1] at e <;> simp only [cond_true, cond_false] at e
      case true => cases e; rw [beq_true.1 h1]; exact rot3_spec x
      cases h1 : Nat.beq k 4 <;> rw [h1] at e <;> simp only [cond_true, cond_false] at e
      case true => cases e; rw [beq_true.1 h1]; exact rot4_spec x
      cases e
    · cases e
  cases h : Nat.beq f 21 <;> rw [h] at e <;> simp only [cond_true, cond_false] at e
  case true =>
    rw [beq_true.1 h]
    split at e
    · cases e; exact ⟨callable (fn := Try.f21) (by kernel_rfl) (by kernel_rfl) (by kernel_rfl), half_spec _ _⟩
    · cases e
  cases h : Nat.beq f 16 <;> rw [h] at e <;> simp only [cond_true, cond_false] at e
  case true =>
    rw [beq_true.1 h]
    split at e
    · cases e; exact ⟨callable (fn := Try.f16) (by kernel_rfl) (by kernel_rfl) (by kernel_rfl), bytes_spec _ _⟩
    · cases e
  cases h : Nat.beq f 19 <;> rw [h] at e <;> simp only [cond_true, cond_false] at e
  case true =>
    rw [beq_true.1 h]
    split at e
    · cases e; exact ⟨callable (fn := Try.f19) (by kernel_rfl) (by kernel_rfl) (by kernel_rfl), counter_spec _ _ _ _ _ _ _ _ _ _ _ _ _⟩
    · cases e
  cases e
noncomputable def C1 : Cfg := { P := Try.prog, OV := OV1, O := fun _ _ _ => none, D := fun _ => none }
theorem C1_sound : Sound C1 := ⟨by kernel_rfl, (fun _ _ _ _ _ _ e => nomatch e), OV1_sound⟩
theorem table_spec : VSpec Try.prog 22 [] (.ints .u8 sboxI) :=
  VSpec.ev (C := C1) (fn := Try.f22) (c := bodyOf Try.f22) (L := noL) (fuel := 2000) (d := 15) (nx := 0) (k := true) C1_sound (by kernel_rfl) (by kernel_rfl) (LSound.none _) (by kernel_rfl) rfl rfl
end Ev
end Go
