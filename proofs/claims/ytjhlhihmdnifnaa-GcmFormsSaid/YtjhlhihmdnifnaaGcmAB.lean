/- gcm: awake. -/
import Derived.Test.YtjhlhihmdnifnaaGcmAA
set_option linter.unusedVariables false
namespace Go
namespace Ev
open Go.Proofs
theorem awake_spec : VSpec Try.prog 4 [] (.bool true) :=
  VSpec.ev (C := C7 (fun _ => none)) (fn := Try.f4) (c := bodyOf Try.f4) (L := noL) (fuel := 100) (d := 9) (nx := 0) (k := true)
      (C7_sound _) (by kernel_rfl) (by kernel_rfl) (LSound.none _) (by kernel_rfl) rfl rfl
end Ev
end Go
