/- newSum: its summary. -/
import Derived.Test.YtjhlhihmdnifnaaGcmF
set_option linter.unusedVariables false
namespace Go
namespace Ev
open Go.Proofs
theorem newSum_spec (h l : Int) : FSpec Try.prog 13 [.ints .u64 [h, l]] ⟨hpT [], 0⟩ (.ptr 5 0) ⟨hpT [(5, .ints .u64 (newM h l))], 0⟩ :=
  FSpec.ev (C := C1) (fn := Try.f13) (c := bodyOf Try.f13) (L := noL) (fuel := 300) (nx := 2) (m0 := []) (m1 := [(5, .ints .u64 (newM h l))])
    (k := true) C1_sound (by kernel_rfl) (by kernel_rfl) (LSound.none _) (by kernel_rfl) rfl (by kernel_rfl)
end Ev
end Go
