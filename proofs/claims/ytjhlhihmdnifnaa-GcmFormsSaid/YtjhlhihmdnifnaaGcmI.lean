/- sum.all: its loop. -/
import Derived.Test.YtjhlhihmdnifnaaGcmH
set_option linter.unusedVariables false
namespace Go
namespace Ev
open Go.Proofs
theorem len_spl {α : Type} (l : List α) (o : Nat) (m : List α) (h : o + len m ≤ len l) : len (spl l o m) = len l := by
  simp only [len_eq] at h
  simp only [spl, app_eq, tk_eq, drp_eq, len_eq, List.length_append, List.length_take, List.length_drop]
  omega
theorem addM_len (S L : List Int) (o : Nat) (h : len S = 50) : len (addM S L o) = 50 := by
  rw [addM, len_spl _ _ _ (by rw [h]; exact Nat.le_refl 50), h]
def allQ (L : List Int) : Nat → Nat → List Int → List Int
  | 0, o, S => S
  | q + 1, o, S => allQ L q (o + 16) (addM S L o)
theorem allQ_len (L : List Int) : ∀ (q o : Nat) (S : List Int), len S = 50 → len (allQ L q o S) = 50
  | 0, o, S, h => h
  | q + 1, o, S, h => allQ_len L q (o + 16) _ (addM_len S L o h)
theorem all_step (S L : List Int) (o n : Nat) : pickO (evC (C3 (fun _ => some true)) noL 22 300 allBody (frT (allFr o n)) ⟨hpT (allHp S L), 30⟩) (keys (allFr (o + 16) (n - 16))) (keys (allHp (addM S L o) L)) =
    some (.normal, vals (allFr (o + 16) (n - 16)), vals (allHp (addM S L o) L),
      andr (andr (andr true (Nat.ble n 9223372036854775807)) (ile 16 (.ofNat n))) (andr (andr true (andr (Nat.beq (len S) 50) (andr (Nat.ble 16 n) (Nat.ble (o + 16) (len L))))) (andr true (andr (andr true (Nat.ble 16 n)) (Nat.ble n n))))) := by kernel_rfl
theorem all_last (S L : List Int) (o n : Nat) : pickO (evC (C3 (fun _ => some false)) noL 22 300 allBody (frT (allFr o n)) ⟨hpT (allHp S L), 30⟩) (keys (allFr o n)) (keys (allHp S L)) =
    some (.exit 0, vals (allFr o n), vals (allHp S L), andr (andr true (Nat.ble n 9223372036854775807)) (not (ile 16 (.ofNat n)))) := by kernel_rfl
theorem allHp_ok (S L : List Int) (o n : Nat) : okAll (allFr o n) (allHp S L) [0, 1] = true := by kernel_rfl
theorem ile16 (n : Nat) : ile 16 (.ofNat n) = Nat.ble 16 n := rfl
theorem all_rounds {T : Nat → Option Bool} {D : Nat → Prop} (hD : ∀ i, D i → i ∈ [0, 1]) (L : List Int) : ∀ (q o n : Nat) (S : List Int), len S = 50 → n ≤ 9223372036854775807 → o + n ≤ len L → n / 16 = q →
    RSpec (C3 T) D 22 allBody (frT (allFr o n)).get (hpT (allHp S L)).get (.exit 0) (frT (allFr (o + 16 * q) (n - 16 * q))).get (hpT (allHp (allQ L q o S) L)).get
  | 0, o, n, S, h1, h2, h3, h4 => by
    have hn : n < 16 := by omega
    have := CSpec.ev (C3_sound (fun _ => some false)) (D := D) [0, 1] (LSound.none _) (all_last S L o n) (by
      rw [ile16]
      have : Nat.ble 16 n = false := by
        cases hb : Nat.ble 16 n
        · rfl
        · rw [ble_true] at hb; omega
      rw [this]; simp only [andr_true, ble_true]; exact ⟨⟨trivial, h2⟩, rfl⟩) hD (allHp_ok S L o n)
    exact RSpec.last (by simp) this
  | q + 1, o, n, S, h1, h2, h3, h4 => by
    have hn : 16 ≤ n := by omega
    have := CSpec.ev (C3_sound (fun _ => some true)) (D := D) [0, 1] (LSound.none _) (all_step S L o n) (by
      rw [ile16, h1]; simp only [andr_true, ble_true, beq_true]; (repeat' apply And.intro) <;> first | trivial | omega) hD (allHp_ok (addM S L o) L (o + 16) (n - 16))
    have r := all_rounds (T := T) hD L q (o + 16) (n - 16) (addM S L o) (addM_len S L o h1) (by omega) (by omega) (by omega)
    have e1 : o + 16 + 16 * q = o + 16 * (q + 1) := by omega
    have e2 : n - 16 - 16 * q = n - 16 * (q + 1) := by omega
    rw [e1, e2] at r
    exact RSpec.step this r
noncomputable def lpAll : LP := { id := 0, ts := [0, 1], is := [0, 1], F := fun vs bs => match vs, bs with
  | [.ptr 0 0, .slice 1 o n 1], [.ints .u64 S, .ints .u8 L] =>
    some (.exit 0, allFr (o + 16 * (n / 16)) (n - 16 * (n / 16)), allHp (allQ L (n / 16) o S) L, 30, andr (Nat.beq (len S) 50) (andr (Nat.ble n 9223372036854775807) (Nat.ble (o + n) (len L))))
  | _, _ => none }
theorem lpAll_holds {T : Nat → Option Bool} {D : Nat → Prop} (hD : ∀ i, D i → i ∈ [0, 1]) : lpAll.Holds (C3 T) D 22 allBody := by
  intro vs bs x l' m' nx e
  simp only [lpAll] at e
  split at e
  · rename_i o n S L
    simp only [Option.some.injEq, Prod.mk.injEq, beq_true, ble_true, andr_true] at e
    obtain ⟨rfl, rfl, rfl, rfl, h1, h2, h3⟩ := e
    exact all_rounds hD L (n / 16) o n S h1 h2 h3 rfl
  · cases e
theorem all_loops : loopsOf (bodyOf Try.f15) = [allBody] := by kernel_rfl
end Ev
end Go
