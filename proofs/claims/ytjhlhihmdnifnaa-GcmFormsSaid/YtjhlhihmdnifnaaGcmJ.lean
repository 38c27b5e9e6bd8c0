/- sum.all: its summary. -/
import Derived.Test.YtjhlhihmdnifnaaGcmI
set_option linter.unusedVariables false
namespace Go
namespace Ev
open Go.Proofs
def Z16 : List Int := [0, 0, 0, 0, 0, 0, 0, 0, 0, 0, 0, 0, 0, 0, 0, 0]
/-- The last bytes, filled up. -/
def lastB (L : List Int) (o r : Nat) : List Int := spl Z16 0 (tk (drp L o) (Nat.min r 16 * 1))
/-- sum.all -/
def allM (S L : List Int) (o n : Nat) : List Int := cond (Nat.beq (n - 16 * (n / 16)) 0) (allQ L (n / 16) o S)
  (addM (allQ L (n / 16) o S) (lastB L (o + 16 * (n / 16)) (n - 16 * (n / 16))) 0)
theorem lastB_len (L : List Int) (o r : Nat) (h : o + r ≤ len L) : len (lastB L o r) = 16 := by
  rw [lastB, len_spl _ _ _ ?_]
  · rfl
  · show 0 + len (tk (drp L o) (Nat.min r 16 * 1)) ≤ 16
    simp only [len_eq, tk_eq, drp_eq, List.length_take, List.length_drop]
    have : Nat.min r 16 ≤ 16 := Nat.min_le_right _ _
    omega
theorem allM_len (S L : List Int) (o n : Nat) (h : len S = 50) : len (allM S L o n) = 50 := by
  unfold allM
  cases Nat.beq (n - 16 * (n / 16)) 0
  · exact addM_len _ _ _ (allQ_len _ _ _ _ h)
  · exact allQ_len _ _ _ _ h
noncomputable def TT (t : Nat) : Option Bool := cond (Nat.beq t 15) (some true) none
noncomputable def TF (t : Nat) : Option Bool := cond (Nat.beq t 15) (some false) none
theorem allHp_dom {S L : List Int} : ∀ i, (hpT (allHp S L)).get i ≠ none → i ∈ [0, 1] := fun i hi => by
  cases hg : (hpT (allHp S L)).get i with
  | none => exact absurd hg hi
  | some c => rcases hpT2_get hg with ⟨rfl, _⟩ | ⟨rfl, _⟩ <;> simp
theorem all_L {T : Nat → Option Bool} {S L : List Int} : LSound (C3 T) (fun i => (hpT (allHp S L)).get i ≠ none) 22 (mkL [0, 1] [lpAll]) (bodyOf Try.f15) :=
  LSound.of _ fun a ha fr h x fr' h' e => by
    rw [all_loops] at ha
    have ha' : a = allBody := by simpa using ha
    subst ha'
    exact mkL_sound allHp_dom (fun p hp _ => by
      have : p = lpAll := by simpa using hp
      subst this
      exact lpAll_holds allHp_dom) fr h x fr' h' e
theorem all_spec (S L : List Int) (o n : Nat) (hS : len S = 50) (h1 : n ≤ 9223372036854775807) (h2 : o + n ≤ len L) :
    FSpec Try.prog 15 [.ptr 0 0, .slice 1 o n 1] ⟨hpT (allHp S L), 0⟩ (.tuple []) ⟨hpT (allHp (allM S L o n) L), 0⟩ := by
  have hq := allQ_len L (n / 16) o S hS
  have hmod : n - 16 * (n / 16) < 16 := by omega
  have hmin : Nat.min (n - 16 * (n / 16)) 16 = n - 16 * (n / 16) := Nat.min_eq_left (by omega)
  unfold allM
  cases hr : Nat.beq (n - 16 * (n / 16)) 0
  · have hne : n - 16 * (n / 16) ≠ 0 := fun h => by rw [h] at hr; cases hr
    refine FSpec.ev (C := C3 TT) (fn := Try.f15) (c := bodyOf Try.f15) (L := mkL [0, 1] [lpAll]) (fuel := 300) (nx := 2) (m0 := allHp S L) (m1 := allHp (addM (allQ L (n / 16) o S) (lastB L (o + 16 * (n / 16)) (n - 16 * (n / 16))) 0) L)
      (k := andr (andr (Nat.beq (len S) 50) (andr (Nat.ble n 9223372036854775807) (Nat.ble (o + n) (len L))))
        (andr (andr true (Nat.ble (n - 16 * (n / 16)) 9223372036854775807))
          (andr (not (ile (Int.ofNat (n - 16 * (n / 16))) 0))
            (andr true
              (andr
                (andr true
                  (andr (Nat.ble (o + 16 * (n / 16) + Nat.min (n - 16 * (n / 16)) 16 * 1) (len L))
                    (Nat.ble (0 + len (tk (drp L (o + 16 * (n / 16))) (Nat.min (n - 16 * (n / 16)) 16 * 1))) 16)))
                (andr
                  (andr true (andr true (Nat.ble 16 (len (lastB L (o + 16 * (n / 16)) (n - 16 * (n / 16)))))))
                  (andr (Nat.beq (len (allQ L (n / 16) o S)) 50)
                    (andr true (Nat.ble 16 (len (lastB L (o + 16 * (n / 16)) (n - 16 * (n / 16))))))))))))) (C3_sound TT) (by kernel_rfl) (by kernel_rfl) all_L (by kernel_rfl) ?_ (by kernel_rfl)
    have hl := lastB_len L (o + 16 * (n / 16)) (n - 16 * (n / 16)) (by omega)
    have ht : len (tk (drp L (o + 16 * (n / 16))) (Nat.min (n - 16 * (n / 16)) 16 * 1)) ≤ 16 := by
      simp only [len_eq, tk_eq, drp_eq, List.length_take, List.length_drop]
      omega
    have hi : ile (Int.ofNat (n - 16 * (n / 16))) 0 = false := by
      show Nat.ble (n - 16 * (n / 16)) 0 = false
      cases hb : Nat.ble (n - 16 * (n / 16)) 0
      · rfl
      · rw [ble_true] at hb; omega
    rw [hl, hq, hS, hi, hmin]
    rw [hmin] at ht
    simp only [andr_true, ble_true, beq_true]
    (repeat' apply And.intro) <;> first | trivial | omega | rfl
  · have h0 : n - 16 * (n / 16) = 0 := beq_true.1 hr
    refine FSpec.ev (C := C3 TF) (fn := Try.f15) (c := bodyOf Try.f15) (L := mkL [0, 1] [lpAll]) (fuel := 300) (nx := 2) (m0 := allHp S L) (m1 := allHp (allQ L (n / 16) o S) L)
      (k := andr (andr (Nat.beq (len S) 50) (andr (Nat.ble n 9223372036854775807) (Nat.ble (o + n) (len L))))
        (andr (andr true (Nat.ble (n - 16 * (n / 16)) 9223372036854775807)) (not (not (ile (Int.ofNat (n - 16 * (n / 16))) 0))))) (C3_sound TF) (by kernel_rfl) (by kernel_rfl) all_L (by kernel_rfl) ?_ (by kernel_rfl)
    rw [h0, hS]
    have hi : ile (Int.ofNat 0) 0 = true := rfl
    rw [hi]
    simp only [andr_true, ble_true, beq_true]
    (repeat' apply And.intro) <;> first | trivial | omega | rfl
end Ev
end Go
