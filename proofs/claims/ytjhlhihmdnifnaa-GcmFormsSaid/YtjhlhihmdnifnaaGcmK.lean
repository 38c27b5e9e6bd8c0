/- Encrypt: the bytes by the table, the rows turned. -/
import Derived.Test.YtjhlhihmdnifnaaGcmJ
set_option linter.unusedVariables false
namespace Go
namespace Ev
open Go.Proofs
noncomputable def cells (R : Nat) : List V := app (mapInt .u8 sboxI) [.slice 1 0 R 16]
theorem isI_app {k : IntKind} {r : List V} : ∀ {L : List Int} {n : Nat}, n < len L → isI k (app (mapInt k L) r) n = true
  | [], n, h => absurd h (Nat.not_lt_zero n)
  | a :: L, 0, h => decide_eq_true rfl
  | a :: L, n + 1, h => isI_app (L := L) (n := n) (Nat.lt_of_succ_lt_succ h)
theorem gdV_app {k : IntKind} {r : List V} : ∀ {L : List Int} {n : Nat}, n < len L → gdV (app (mapInt k L) r) n = gd L n
  | [], n, h => absurd h (Nat.not_lt_zero n)
  | a :: L, 0, h => rfl
  | a :: L, n + 1, h => gdV_app (L := L) (n := n) (Nat.lt_of_succ_lt_succ h)
theorem sbox_len : len sboxI = 256 := by kernel_rfl
def shI (i : Nat) : Nat := (i + 4 * (i % 4)) % 16
noncomputable def subStep (R : Nat) (B : List Int) (i : Nat) (T : List Int) : List Int := set1 T i (gdV (cells R) (0 + nn (gd B (shI i)) * 1))
noncomputable def subT (R : Nat) (B : List Int) : Nat → List Int
  | 0 => Z16
  | i + 1 => subStep R B i (subT R B i)
theorem set1_len {α : Type} : ∀ (l : List α) (i : Nat) (x : α), len (set1 l i x) = len l
  | [], i, x => rfl
  | a :: l, 0, x => rfl
  | a :: l, i + 1, x => by show len (set1 l i x) + 1 = len l + 1; rw [set1_len l i x]
theorem subT_len (R : Nat) (B : List Int) : ∀ i, len (subT R B i) = 16
  | 0 => rfl
  | i + 1 => by show len (set1 _ _ _) = 16; rw [set1_len]; exact subT_len R B i
noncomputable def subBody : Code := (nth (loopsOf (bodyOf Try.f18)) 2).getD .skip
def subFr (r : Int) (i : Nat) : List (Nat × V) := [(0, .ptr 0 0), (3, .ptr 2 0), (4, .ptr 3 0), (6, .int .i64 r), (7, .ptr 37 0), (42, .int .i64 (.ofNat i))]
noncomputable def subHp (R : Nat) (K B O T : List Int) : List (Nat × Blk) := [(0, .vals (cells R)), (1, .ints .u8 K), (2, .ints .u8 B), (3, .ints .u8 O), (37, .ints .u8 T)]
noncomputable def subK (R : Nat) (B T : List Int) (i : Nat) : Bool := andr true (andr true (andr true (andr (andr (andr true (Nat.blt (shI i) (len B))) (isI .u8 (cells R) (0 + nn (gd B (shI i)) * 1))) (Nat.blt i (len T)))))
theorem sub_steps : AllLt (fun i => ∀ (R : Nat) (r : Int) (K B O T : List Int), pickO (evC C1 noL 162 300 subBody (frT (subFr r i)) ⟨hpT (subHp R K B O T), 40⟩) (keys (subFr r (i + 1))) (keys (subHp R K B O T)) =
    some (.normal, vals (subFr r (i + 1)), vals (subHp R K B O (subStep R B i T)), subK R B T i)) 16 := by
  repeat (first | exact trivial | refine ⟨?_, fun R r K B O T => by kernel_rfl⟩)
theorem sub_last (R : Nat) (r : Int) (K B O T : List Int) : pickO (evC C1 noL 162 300 subBody (frT (subFr r 16)) ⟨hpT (subHp R K B O T), 40⟩) (keys (subFr r 16)) (keys (subHp R K B O T)) =
    some (.exit 4, vals (subFr r 16), vals (subHp R K B O T), true) := by kernel_rfl
theorem subHp_ok (R : Nat) (r : Int) (i : Nat) (K B O T : List Int) : okAll (subFr r i) (subHp R K B O T) [0, 1] = true := by kernel_rfl
theorem fit8_lt {n : Int} (h : fit .u8 n = true) : nn n < 256 := by
  obtain ⟨a, rfl, ha⟩ := fit_u8 h; exact ha
theorem subK_true {R : Nat} {B T : List Int} {i : Nat} (hB : len B = 16) (hf : ∀ j, j < len B → fit .u8 (gd B j) = true) (hT : len T = 16) (hi : i < 16) : subK R B T i = true := by
  have h1 : shI i < 16 := Nat.mod_lt _ (by omega)
  have h2 := fit8_lt (hf (shI i) (by omega))
  have h3 : isI .u8 (cells R) (0 + nn (gd B (shI i)) * 1) = true := isI_app (by rw [sbox_len]; omega)
  unfold subK
  rw [h3, hB, hT]
  simp only [andr_true, blt_true]
  (repeat' apply And.intro) <;> first | trivial | omega
/-- A cipher's block: the keys' number, if it is one. -/
def cellsR : List V → List Int → Option Nat
  | .int .u8 n :: l, a :: L => cond (ieq n a) (cellsR l L) none
  | [.slice 1 0 R 16], [] => some R
  | _, _ => none
theorem ieqK {a b : Int} (h : ieq a b = true) : a = b := by
  cases a <;> cases b <;> simp only [ieq, beq_true, Bool.false_eq_true] at h <;> rw [h]
theorem lieqK : ∀ {l m : List Int}, lieq l m = true → l = m
  | [], [], _ => rfl
  | a :: l, b :: m, h => by
    simp only [lieq] at h
    cases hi : ieq a b <;> simp only [hi, cond_true, cond_false, Bool.false_eq_true] at h
    rw [ieqK hi, lieqK h]
theorem cellsR_eq : ∀ (L : List Int) (l : List V) (R : Nat), cellsR l L = some R → l = app (mapInt .u8 L) [.slice 1 0 R 16] := fun L => by
  induction L with
  | nil =>
    intro l R h
    unfold cellsR at h
    split at h
    · contradiction
    · cases h; rfl
    · cases h
  | cons a L ih =>
    intro l R h
    unfold cellsR at h
    split at h
    · rename_i n l' a' L' heq
      cases heq
      cases hi : ieq n a <;> simp only [hi, cond_true, cond_false, reduceCtorEq] at h
      rw [ieqK hi, ih _ _ h]; rfl
    · contradiction
    · cases h
noncomputable def lpSub : LP := { id := 11, ts := [0, 3, 4, 6, 7, 42], is := [0, 1, 2, 3, 37], F := fun vs bs => match vs, bs with
  | [.ptr 0 0, .ptr 2 0, .ptr 3 0, .int .i64 r, .ptr 37 0, .int .i64 (.ofNat 0)], [.vals l, .ints .u8 K, .ints .u8 B, .ints .u8 O, .ints .u8 T] => match cellsR l sboxI with
    | some R => some (.exit 4, subFr r 16, subHp R K B O (subT R B 16), 60, andr (lieq T Z16) (Nat.beq (len B) 16))
    | none => none
  | _, _ => none }
theorem lpSub_holds {D : Nat → Prop} (hD : ∀ i, D i → i ∈ [0, 1]) : lpSub.Holds C1 D 162 subBody := by
  intro vs bs x l' m' nx e
  simp only [lpSub] at e
  split at e
  · rename_i r l K B O T
    split at e
    · rename_i R hR
      simp only [Option.some.injEq, Prod.mk.injEq, beq_true, andr_true] at e
      obtain ⟨rfl, rfl, rfl, rfl, h1, h2⟩ := e
      rw [cellsR_eq _ _ _ hR, lieqK h1]
      refine RSpec.know (i := 2) (k := .u8) (l := B) rfl fun hf => ?_
      have hs : ∀ i, i < 16 → CSpec C1 D 162 subBody (frT (subFr r i)).get (hpT (subHp R K B O (subT R B i))).get .normal (frT (subFr r (i + 1))).get (hpT (subHp R K B O (subT R B (i + 1)))).get := fun i hi =>
        CSpec.ev C1_sound [0, 1] (LSound.none _) (sub_steps.get i hi R r K B O _) (subK_true h2 hf (subT_len R B i) hi) hD (subHp_ok R r _ K B O _)
      exact RSpec.count (f := fun i => (frT (subFr r i)).get) (g := fun i => (hpT (subHp R K B O (subT R B i))).get) (by simp) hs
        (CSpec.ev C1_sound [0, 1] (LSound.none _) (sub_last R r K B O _) rfl hD (subHp_ok R r _ K B O _)) 16 0 rfl
    · cases e
  · cases e
end Ev
end Go
