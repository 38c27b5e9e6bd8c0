/- The law's calls, as oracles that answer in one form. -/
import Derived.Test.YtjhlhihmdnifnaaGcmAB
set_option linter.unusedVariables false
namespace Go
namespace Ev
open Go.Proofs
def fstS : V → List UInt8
  | .tuple [.str s, _] => s
  | _ => []
def sndI : V → Int
  | .tuple [_, .int _ e] => e
  | _ => 0
def two (v : V) : V := .tuple [.str (fstS v), .int .i64 (sndI v)]
theorem two_vE (e : Nat) : two (vE e) = vE e := rfl
theorem two_vS (s : List UInt8) : two (vS s) = vS s := rfl
theorem two_seal (k n a s : List UInt8) : two (sealV k n a s) = sealV k n a s := by
  unfold sealV
  cases keyM k with
  | none => rfl
  | some p =>
    obtain ⟨R, K⟩ := p
    show two (cond (mayB n a 65536 (.ofNat (len s))) _ _) = cond (mayB n a 65536 (.ofNat (len s))) _ _
    cases mayB n a 65536 (.ofNat (len s)) <;> rfl
theorem two_open (k n a s : List UInt8) : two (openV k n a s) = openV k n a s := by
  unfold openV
  cases keyM k with
  | none => rfl
  | some p =>
    obtain ⟨R, K⟩ := p
    show two (cond (mayB n a 65552 (.ofNat (len s))) (cond (Nat.ble 16 (len s)) (cond (openB R K n a s) _ _) _) _) = cond (mayB n a 65552 (.ofNat (len s))) (cond (Nat.ble 16 (len s)) (cond (openB R K n a s) _ _) _) _
    cases mayB n a 65552 (.ofNat (len s)) <;> cases Nat.ble 16 (len s) <;> cases openB R K n a s <;> rfl
theorem two_hash (h s : List UInt8) : two (hashV h s) = hashV h s := by
  unfold hashV
  cases Nat.beq (len h) 16 <;> cases Nat.beq (len s % 16) 0 <;> rfl
noncomputable def OVL (f : Nat) (args : List V) : Option (V × Bool) := cond (Nat.beq f 4) (match args with
  | [] => some (.bool true, true)
  | _ => none) (cond (Nat.beq f 8) (match args with
  | [.int .i64 x] => some (.int .i64 x, true)
  | _ => none) (cond (Nat.beq f 5) (match args with
  | [.str k, .str n, .str a, .str s] => some (two (sealV k n a s), andr (okL k) (andr (okL n) (andr (okL a) (okL s))))
  | _ => none) (cond (Nat.beq f 6) (match args with
  | [.str k, .str n, .str a, .str s] => some (two (openV k n a s), andr (okL k) (andr (okL n) (andr (okL a) (okL s))))
  | _ => none) (cond (Nat.beq f 7) (match args with
  | [.str h, .str s] => some (two (hashV h s), andr (okL h) (okL s))
  | _ => none) none))))
theorem OVL_sound : ∀ f args v, OVL f args = some (v, true) → Callable Try.prog f ∧ VSpec Try.prog f args v := by
  intro f args v e
  unfold OVL at e
  cases h : Nat.beq f 4 <;> rw [h] at e <;> simp only [cond_true, cond_false] at e
  case true =>
    rw [beq_true.1 h]
    split at e
    · cases e; exact ⟨callable (fn := Try.f4) (by kernel_rfl) (by kernel_rfl) (by kernel_rfl), awake_spec⟩
    · cases e
  cases h : Nat.beq f 8 <;> rw [h] at e <;> simp only [cond_true, cond_false] at e
  case true =>
    rw [beq_true.1 h]
    split at e
    · cases e; exact ⟨callable (fn := Try.f8) (by kernel_rfl) (by kernel_rfl) (by kernel_rfl), num_spec _⟩
    · cases e
  cases h : Nat.beq f 5 <;> rw [h] at e <;> simp only [cond_true, cond_false] at e
  case true =>
    rw [beq_true.1 h]
    split at e
    · simp only [Option.some.injEq, Prod.mk.injEq, andr_true, okL, ble_true] at e
      obtain ⟨rfl, h1, h2, h3, h4⟩ := e
      rw [two_seal]
      exact ⟨callable (fn := Try.f5) (by kernel_rfl) (by kernel_rfl) (by kernel_rfl), seal_spec _ _ _ _ h1 h2 h3 h4⟩
    · cases e
  cases h : Nat.beq f 6 <;> rw [h] at e <;> simp only [cond_true, cond_false] at e
  case true =>
    rw [beq_true.1 h]
    split at e
    · simp only [Option.some.injEq, Prod.mk.injEq, andr_true, okL, ble_true] at e
      obtain ⟨rfl, h1, h2, h3, h4⟩ := e
      rw [two_open]
      exact ⟨callable (fn := Try.f6) (by kernel_rfl) (by kernel_rfl) (by kernel_rfl), open_spec _ _ _ _ h1 h2 h3 h4⟩
    · cases e
  cases h : Nat.beq f 7 <;> rw [h] at e <;> simp only [cond_true, cond_false] at e
  case true =>
    rw [beq_true.1 h]
    split at e
    · simp only [Option.some.injEq, Prod.mk.injEq, andr_true, okL, ble_true] at e
      obtain ⟨rfl, h1, h2⟩ := e
      rw [two_hash]
      exact ⟨callable (fn := Try.f7) (by kernel_rfl) (by kernel_rfl) (by kernel_rfl), hash_spec _ _ h1 h2⟩
    · cases e
  cases e
noncomputable def CL (D : Nat → Option Bool) (rp : {f : Nat → Int → List Int // f = rep}) : Cfg := { P := Try.prog, OV := OVL, O := fun _ _ _ => none, D := D, rp := rp }
theorem CL_sound (D : Nat → Option Bool) (rp : {f : Nat → Int → List Int // f = rep}) : Sound (CL D rp) := ⟨(C1_sound).mixed, (fun _ _ _ _ _ _ e => nomatch e), OVL_sound⟩
/-- The tests of the law: key 16, key of a length, nonce 12, hash's key 16, not fine. -/
noncomputable def DL (a b c d e : Bool) (t : Nat) : Option Bool := cond (Nat.beq t 34) (some a) (cond (Nat.beq t 38) (some b) (cond (Nat.beq t 108) (some c) (cond (Nat.beq t 83) (some d) (cond (Nat.beq t 130) (some e)
  (cond (Nat.beq t 114) (some true) (cond (Nat.beq t 120) (some true) (cond (Nat.beq t 127) (some true) (cond (Nat.beq t 136) (some true) (cond (Nat.beq t 141) (some true) none)))))))))
end Ev
end Go
