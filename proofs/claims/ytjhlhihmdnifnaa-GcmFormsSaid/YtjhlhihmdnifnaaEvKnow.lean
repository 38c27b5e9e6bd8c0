/- What a state tells of its numbers: that they fit their kinds. -/
import Derived.Test.YtjhlhihmdnifnaaEvEmb
set_option linter.unusedVariables false
namespace Go
namespace Ev
section
variable {C : Cfg}
theorem HG.fits {own : Nat → Prop} {ρ : Ren} {g : Nat → Option Blk} {w : World} (h : HG own ρ g w) {i : Nat} {k : IntKind} {l : List Int} (hi : g i = some (.ints k l)) : ∀ j, j < len l → fit k (gd l j) = true := fun j hj => by
  obtain ⟨r, cs, ty, fz, _, _, _, q4, _⟩ := h.blk i _ hi rfl
  exact (q4 j hj).2
theorem CSpec.know {D : Nat → Prop} {nt : Nat} {c : Code} {f f' : Nat → Option V} {g g' : Nat → Option Blk} {x : X} {i : Nat} {k : IntKind} {l : List Int} (hi : g i = some (.ints k l))
    (h : (∀ j, j < len l → fit k (gd l j) = true) → CSpec C D nt c f g x f' g') : CSpec C D nt c f g x f' g' :=
  fun own ρ a w hs => h (hs.heap.fits hi) own ρ a w hs
theorem RSpec.know {D : Nat → Prop} {nt : Nat} {c : Code} {f f' : Nat → Option V} {g g' : Nat → Option Blk} {x : X} {i : Nat} {k : IntKind} {l : List Int} (hi : g i = some (.ints k l))
    (h : (∀ j, j < len l → fit k (gd l j) = true) → RSpec C D nt c f g x f' g') : RSpec C D nt c f g x f' g' := by
  by_cases hf : ∀ j, j < len l → fit k (gd l j) = true
  · exact h hf
  · exact ⟨0, fun own ρ a w hs => absurd (hs.heap.fits hi) hf⟩
theorem CSpec.knowV {D : Nat → Prop} {nt : Nat} {c : Code} {f f' : Nat → Option V} {g g' : Nat → Option Blk} {x : X} {t : Nat} {k : IntKind} {n : Int} (ht : f t = some (.int k n))
    (h : fit k n = true → CSpec C D nt c f g x f' g') : CSpec C D nt c f g x f' g' :=
  fun own ρ a w hs => h (hs.fr t _ ht).2 own ρ a w hs
theorem RSpec.knowV {D : Nat → Prop} {nt : Nat} {c : Code} {f f' : Nat → Option V} {g g' : Nat → Option Blk} {x : X} {t : Nat} {k : IntKind} {n : Int} (ht : f t = some (.int k n))
    (h : fit k n = true → RSpec C D nt c f g x f' g') : RSpec C D nt c f g x f' g' := by
  by_cases hf : fit k n = true
  · exact h hf
  · exact ⟨0, fun own ρ a w hs => absurd (hs.fr t _ ht).2 hf⟩
theorem FSpec.know {P : Program} {f : Nat} {args : List V} {h h' : H} {v : V} {i : Nat} {k : IntKind} {l : List Int} (hi : h.bs.get i = some (.ints k l))
    (hs : (∀ j, j < len l → fit k (gd l j) = true) → FSpec P f args h v h') : FSpec P f args h v h' :=
  fun own ρ w as hH ha => hs (HG.fits hH hi) own ρ w as hH ha
theorem fit_u8 {n : Int} (h : fit .u8 n = true) : ∃ a, n = .ofNat a ∧ a < 256 := by
  cases n with
  | ofNat a => exact ⟨a, rfl, by have := ble_true.1 (show Nat.ble a 255 = true from h); omega⟩
  | negSucc a => cases h
theorem fit_u64 {n : Int} (h : fit .u64 n = true) : ∃ a, n = .ofNat a ∧ a < 18446744073709551616 := by
  cases n with
  | ofNat a => exact ⟨a, rfl, by have := ble_true.1 (show Nat.ble a 18446744073709551615 = true from h); omega⟩
  | negSucc a => cases h
end
end Ev
end Go
