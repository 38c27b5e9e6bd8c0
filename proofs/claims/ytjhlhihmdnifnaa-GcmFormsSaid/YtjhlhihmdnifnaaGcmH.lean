/- sum.add as an oracle. -/
import Derived.Test.YtjhlhihmdnifnaaGcmG
set_option linter.unusedVariables false
namespace Go
namespace Ev
open Go.Proofs
/-- load, sum.add as oracles. -/
noncomputable def O3 (f : Nat) (args : List V) (h : H) : Option (V × List (Nat × Blk) × Nat × Bool) :=
  cond (Nat.beq f 20) (match args with
    | [.ptr s 0, .slice b o n 1] => match h.bs.get s, h.bs.get b with
      | some (.ints .u64 S), some (.ints .u8 L) => some (.tuple [], [(s, .ints .u64 (addM S L o))], h.nx, andr (Nat.beq (len S) 50) (andr (Nat.ble 16 n) (andr (Nat.ble (o + 16) (len L)) (not (Nat.beq s b)))))
      | _, _ => none
    | _ => none) (O2 f args h)
theorem get_put_some {α : Type} (t : Tr α) : ∀ (k : Nat) (x y : α), t.get k = some y → (t.put k (some x)).get k = some x := fun k x y h => by
  have hd : t.dom k = true := by
    cases hd : t.dom k
    · rw [Tr.get_dom t k hd] at h; cases h
    · rfl
  exact Tr.get_put_dom t k (some x) hd
theorem O3_sound : ∀ f args h v l n, O3 f args h = some (v, l, n, true) → Callable Try.prog f ∧ FSpec Try.prog f args h v ⟨putAll h.bs l, n⟩ := by
  intro f args h v l n e
  unfold O3 at e
  cases hf : Nat.beq f 20 <;> rw [hf] at e <;> simp only [cond_true, cond_false] at e
  case false => exact O2_sound f args h v l n e
  rw [beq_true.1 hf]
  refine ⟨callable (fn := Try.f20) (by kernel_rfl) (by kernel_rfl) (by kernel_rfl), ?_⟩
  split at e
  · rename_i s b o m
    split at e
    · rename_i S L hS hL
      simp only [Option.some.injEq, Prod.mk.injEq, andr_true, ble_true, beq_true, Bool.not_eq_true'] at e
      obtain ⟨rfl, rfl, rfl, h1, h2, h3, h4⟩ := e
      have hne : s ≠ b := fun he => by rw [he] at h4; simp at h4
      refine FSpec.embed (add_spec S L o m h1 h2 h3) (by kernel_rfl) (by kernel_rfl) (by kernel_rfl) (r := fun i => if i = 0 then s else b) ?_ ?_ ?_ ?_ ?_
      · intro i j hi hj he
        cases g1 : (hpT [(0, Blk.ints .u64 (addM S L o)), (1, .ints .u8 L)]).get i with
        | none => exact absurd g1 hi
        | some c => cases g2 : (hpT [(0, Blk.ints .u64 (addM S L o)), (1, .ints .u8 L)]).get j with
          | none => exact absurd g2 hj
          | some d =>
            rcases hpT2_get g1 with ⟨rfl, _⟩ | ⟨rfl, _⟩ <;> rcases hpT2_get g2 with ⟨rfl, _⟩ | ⟨rfl, _⟩
            · rfl
            · exact absurd he hne
            · exact absurd he.symm hne
            · rfl
      · intro i c hc
        rcases hpT2_get hc with ⟨rfl, rfl⟩ | ⟨rfl, rfl⟩
        · exact hS
        · exact hL
      · intro i hi hn
        cases g1 : (hpT [(0, Blk.ints .u64 (addM S L o)), (1, .ints .u8 L)]).get i with
        | none => exact absurd g1 hi
        | some c =>
          rcases hpT2_get g1 with ⟨rfl, _⟩ | ⟨rfl, _⟩
          · exact absurd hn (by show ¬ (some _ = none); simp)
          · exact absurd hn (by show ¬ (some _ = none); simp)
      · intro i c hc
        rcases hpT2_get hc with ⟨rfl, rfl⟩ | ⟨rfl, rfl⟩
        · exact get_put_some _ _ _ _ hS
        · show ((h.bs.put s _).get b) = some (Blk.ints .u8 L)
          rw [Tr.get_put_ne _ _ _ _ hne]; exact hL
      · intro j hj
        have : s ≠ j := hj 0 (by show ¬ (some _ = none); simp)
        show ((h.bs.put s _).get j) = _
        rw [Tr.get_put_ne _ _ _ _ this]
    · cases e
  · cases e
noncomputable def C3 (D : Nat → Option Bool) : Cfg := { P := Try.prog, OV := OV1, O := O3, D := D }
theorem C3_sound (D : Nat → Option Bool) : Sound (C3 D) := ⟨(C1_sound).mixed, O3_sound, OV1_sound⟩
noncomputable def allBody : Code := (nth (loopsOf (bodyOf Try.f15)) 0).getD .skip
def allFr (o n : Nat) : List (Nat × V) := [(0, .ptr 0 0), (1, .slice 1 o n 1)]
def allHp (S L : List Int) : List (Nat × Blk) := [(0, .ints .u64 S), (1, .ints .u8 L)]
end Ev
end Go
