/- The functions of values of aes and gcm: what each answers. -/
import Derived.Test.YtjhlhihmdnifnaaGcmM
import Derived.Test.YtjhlhihmdnifnaaProg
import Derived.KernelRfl
set_option linter.unusedVariables false
namespace Go
namespace Ev
open Go.Proofs
noncomputable def C0 : Cfg := { P := Try.prog, OV := fun _ _ => none, O := fun _ _ _ => none, D := fun _ => none }
theorem C0_sound : Sound C0 := ⟨by kernel_rfl, (fun _ _ _ _ _ _ e => nomatch e), (fun _ _ _ e => nomatch e)⟩
noncomputable def bodyOf (f : Func) : Code := f.body.getD .skip
theorem callable {f : Nat} {fn : Func} (h : Try.prog.funcs[f]? = some fn) (h2 : fn.body.isSome = true) (h3 : (fn.name == "runtime.NumGoroutine") = false) : Callable Try.prog f := ⟨fn, h, h2, h3⟩

theorem twice_spec (x : Int) : VSpec Try.prog 23 [.int .u8 x] (.int .u8 (twI x)) :=
  VSpec.ev (C := C0) (fn := Try.f23) (c := bodyOf Try.f23) (L := noL) (fuel := 100) (d := 6) (nx := 0) (k := true) C0_sound (by kernel_rfl) (by kernel_rfl) (LSound.none _) (by kernel_rfl) rfl rfl
theorem rot1_spec (x : Int) : VSpec Try.prog 24 [.int .u8 x, .int .i64 1] (.int .u8 (rotI x 1)) :=
  VSpec.ev (C := C0) (fn := Try.f24) (c := bodyOf Try.f24) (L := noL) (fuel := 100) (d := 6) (nx := 0) (k := true) C0_sound (by kernel_rfl) (by kernel_rfl) (LSound.none _) (by kernel_rfl) rfl rfl
theorem rot2_spec (x : Int) : VSpec Try.prog 24 [.int .u8 x, .int .i64 2] (.int .u8 (rotI x 2)) :=
  VSpec.ev (C := C0) (fn := Try.f24) (c := bodyOf Try.f24) (L := noL) (fuel := 100) (d := 6) (nx := 0) (k := true) C0_sound (by kernel_rfl) (by kernel_rfl) (LSound.none _) (by kernel_rfl) rfl rfl
theorem rot3_spec (x : Int) : VSpec Try.prog 24 [.int .u8 x, .int .i64 3] (.int .u8 (rotI x 3)) :=
  VSpec.ev (C := C0) (fn := Try.f24) (c := bodyOf Try.f24) (L := noL) (fuel := 100) (d := 6) (nx := 0) (k := true) C0_sound (by kernel_rfl) (by kernel_rfl) (LSound.none _) (by kernel_rfl) rfl rfl
theorem rot4_spec (x : Int) : VSpec Try.prog 24 [.int .u8 x, .int .i64 4] (.int .u8 (rotI x 4)) :=
  VSpec.ev (C := C0) (fn := Try.f24) (c := bodyOf Try.f24) (L := noL) (fuel := 100) (d := 6) (nx := 0) (k := true) C0_sound (by kernel_rfl) (by kernel_rfl) (LSound.none _) (by kernel_rfl) rfl rfl
theorem half_spec (x y : Int) : VSpec Try.prog 21 [.ints .u64 [x, y]] (.ints .u64 [halfH x y, halfL x y]) :=
  VSpec.ev (C := C0) (fn := Try.f21) (c := bodyOf Try.f21) (L := noL) (fuel := 100) (d := 6) (nx := 0) (k := true) C0_sound (by kernel_rfl) (by kernel_rfl) (LSound.none _) (by kernel_rfl) rfl rfl
theorem bytes_spec (x y : Int) : VSpec Try.prog 16 [.ints .u64 [x, y]] (.ints .u8 (bytesI x y)) :=
  VSpec.ev (C := C0) (fn := Try.f16) (c := bodyOf Try.f16) (L := noL) (fuel := 300) (d := 9) (nx := 0) (k := true) C0_sound (by kernel_rfl) (by kernel_rfl) (LSound.none _) (by kernel_rfl) rfl rfl
theorem counter_spec (c0 c1 c2 c3 c4 c5 c6 c7 c8 c9 c10 c11 : UInt8) (n : Int) : VSpec Try.prog 19 [.str [c0, c1, c2, c3, c4, c5, c6, c7, c8, c9, c10, c11], .int .u32 n]
    (.ints .u8 (app (toI [c0, c1, c2, c3, c4, c5, c6, c7, c8, c9, c10, c11]) (ctrI n))) :=
  VSpec.ev (C := C0) (fn := Try.f19) (c := bodyOf Try.f19) (L := noL) (fuel := 300) (d := 9) (nx := 0) (k := true) C0_sound (by kernel_rfl) (by kernel_rfl) (LSound.none _) (by kernel_rfl) rfl rfl
end Ev
end Go
