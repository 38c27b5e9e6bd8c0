/- load: what it answers. -/
import Derived.Test.YtjhlhihmdnifnaaEvKnow
import Derived.Test.YtjhlhihmdnifnaaGcmB
set_option linter.unusedVariables false
namespace Go
namespace Ev
open Go.Proofs
theorem load_spec (L : List Int) (o n : Nat) (h1 : 16 ≤ n) (h2 : o + 16 ≤ len L) : FSpec Try.prog 14 [.slice 0 o n 1] ⟨hpT [(0, .ints .u8 L)], 0⟩ (.ints .u64 [ldI L o 0 8, ldI L o 8 8]) ⟨hpT [(0, .ints .u8 L)], 0⟩ :=
  FSpec.ev (C := C0) (fn := Try.f14) (c := bodyOf Try.f14) (L := noL) (fuel := 300) (nx := 1) (m0 := [(0, .ints .u8 L)]) (m1 := [(0, .ints .u8 L)])
    (k := andr true (andr true (andr true (andr (andr true (andr true (andr true (andr (andr (andr true (andr true (Nat.blt 0 n))) ((o + 0).blt (len L))) (andr (andr true (andr true (Nat.blt 8 n))) ((o + 8).blt (len L))))))) (andr (andr true (andr true (andr true (andr (andr (andr true (andr true (Nat.blt 1 n))) ((o + 1).blt (len L))) (andr (andr true (andr true (Nat.blt 9 n))) ((o + 9).blt (len L))))))) (andr (andr true (andr true (andr true (andr (andr (andr true (andr true (Nat.blt 2 n))) ((o + 2).blt (len L))) (andr (andr true (andr true (Nat.blt 10 n))) ((o + 10).blt (len L))))))) (andr (andr true (andr true (andr true (andr (andr (andr true (andr true (Nat.blt 3 n))) ((o + 3).blt (len L))) (andr (andr true (andr true (Nat.blt 11 n))) ((o + 11).blt (len L))))))) (andr (andr true (andr true (andr true (andr (andr (andr true (andr true (Nat.blt 4 n))) ((o + 4).blt (len L))) (andr (andr true (andr true (Nat.blt 12 n))) ((o + 12).blt (len L))))))) (andr (andr true (andr true (andr true (andr (andr (andr true (andr true (Nat.blt 5 n))) ((o + 5).blt (len L))) (andr (andr true (andr true (Nat.blt 13 n))) ((o + 13).blt (len L))))))) (andr (andr true (andr true (andr true (andr (andr (andr true (andr true (Nat.blt 6 n))) ((o + 6).blt (len L))) (andr (andr true (andr true (Nat.blt 14 n))) ((o + 14).blt (len L))))))) (andr true (andr true (andr true (andr (andr (andr true (andr true (Nat.blt 7 n))) ((o + 7).blt (len L))) (andr (andr true (andr true (Nat.blt 15 n))) ((o + 15).blt (len L)))))))))))))))))
    C0_sound (by kernel_rfl) (by kernel_rfl) (LSound.none _) (by kernel_rfl) (by simp only [andr_true, blt_true]; (repeat' apply And.intro) <;> first | trivial | omega) (by kernel_rfl)
end Ev
end Go
