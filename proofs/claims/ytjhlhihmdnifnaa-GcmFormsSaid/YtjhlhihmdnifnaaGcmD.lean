/- sum.add: what it does. -/
import Derived.Test.YtjhlhihmdnifnaaGcmC
set_option linter.unusedVariables false
namespace Go
namespace Ev
open Go.Proofs
theorem putAll_nil (t : Tr Blk) : putAll t [] = t := rfl
theorem hpT1_get {b : Blk} {i : Nat} {c : Blk} (h : (hpT [(0, b)]).get i = some c) : i = 0 ∧ c = b := by
  have := look_mem (hpT_get h); simp at this; exact ⟨this.1, this.2⟩
/-- load, as an oracle. -/
noncomputable def O2 (f : Nat) (args : List V) (h : H) : Option (V × List (Nat × Blk) × Nat × Bool) :=
  cond (Nat.beq f 14) (match args with
    | [.slice b o n 1] => match h.bs.get b with
      | some (.ints .u8 L) => some (.ints .u64 [ldI L o 0 8, ldI L o 8 8], [], h.nx, andr (Nat.ble 16 n) (Nat.ble (o + 16) (len L)))
      | _ => none
    | _ => none) none
theorem O2_sound : ∀ f args h v l n, O2 f args h = some (v, l, n, true) → Callable Try.prog f ∧ FSpec Try.prog f args h v ⟨putAll h.bs l, n⟩ := by
  intro f args h v l n e
  unfold O2 at e
  cases hf : Nat.beq f 14 <;> rw [hf] at e <;> simp only [cond_true, cond_false] at e
  case false => cases e
  rw [beq_true.1 hf]
  refine ⟨callable (fn := Try.f14) (by kernel_rfl) (by kernel_rfl) (by kernel_rfl), ?_⟩
  split at e
  · rename_i b o m
    split at e
    · rename_i L hL
      simp only [Option.some.injEq, Prod.mk.injEq, andr_true, ble_true] at e
      obtain ⟨rfl, rfl, rfl, h1, h2⟩ := e
      exact FSpec.embed (load_spec L o m h1 h2) (by kernel_rfl) (by kernel_rfl) (by kernel_rfl) (r := fun _ => b)
        (fun i j hi hj _ => by
          cases h1 : (hpT [(0, Blk.ints .u8 L)]).get i with
          | none => exact absurd h1 hi
          | some c => cases h2 : (hpT [(0, Blk.ints .u8 L)]).get j with
            | none => exact absurd h2 hj
            | some d => rw [(hpT1_get h1).1, (hpT1_get h2).1])
        (fun i c hc => by rw [(hpT1_get hc).2]; exact hL)
        (fun i hi hn => absurd hn hi)
        (fun i c hc => by rw [(hpT1_get hc).2]; exact hL)
        (fun j hj => rfl)
    · cases e
  · cases e
noncomputable def C2 : Cfg := { P := Try.prog, OV := OV1, O := O2, D := fun _ => none }
theorem C2_sound : Sound C2 := ⟨by kernel_rfl, O2_sound, OV1_sound⟩
noncomputable def addBody : Code := (nth (loopsOf (bodyOf Try.f20)) 0).getD .skip
def addFr (i : Nat) : List (Nat × V) := [(0, .ptr 0 0), (4, .ptr 4 0), (5, .ptr 26 0), (28, .int .i64 (.ofNat i))]
def addHp (S L : List Int) (xh xl zh zl : Int) : List (Nat × Blk) := [(0, .ints .u64 S), (1, .ints .u8 L), (4, .ints .u64 [xh, xl]), (26, .ints .u64 [zh, zl])]
def addK (S : List Int) (d zh zl : Int) : Bool := andr true (andr true (andr true (andr true (andr true (andr (andr (andr true (andr (ile 0 (iand .u64 zl 15)) (Nat.blt (nn (iand .u64 zl 15)) 16))) (Nat.blt (32 + nn (iand .u64 zl 15) * 1) (len S)))
  (andr (andr (andr true (andr (ile 0 d) (Nat.blt (nn d) 16))) (Nat.blt (0 + nn d * 2 + 0) (len S))) (andr (andr true (andr (ile 0 d) (Nat.blt (nn d) 16))) (Nat.blt (0 + nn d * 2 + 1) (len S)))))))))
theorem addK_true (S : List Int) (x zh zl : Int) (h : len S = 50) : addK S (iand .u64 x 15) zh zl = true := by
  obtain ⟨a, ha, ha'⟩ := iand15 zl
  obtain ⟨b, hb, hb'⟩ := iand15 x
  unfold addK
  rw [ha, hb, h]
  have : ∀ n : Nat, ile 0 (Int.ofNat n) = true := fun n => by show Nat.ble 0 n = true; simp
  simp only [andr_true, blt_true, this, nn]
  (repeat' apply And.intro) <;> first | trivial | omega
theorem add_steps : AllLt (fun i => ∀ (S L : List Int) (xh xl zh zl : Int), pickO (evC C2 noL 94 300 addBody (frT (addFr i)) ⟨hpT (addHp S L xh xl zh zl), 30⟩) (keys (addFr (i + 1))) (keys (addHp S L xh xl 0 0)) =
    some (.normal, vals (addFr (i + 1)), vals (addHp S L xh xl (addH S (digI xh xl i) zh zl) (addL S (digI xh xl i) zh zl)), addK S (digI xh xl i) zh zl)) 32 := by
  repeat (first | exact trivial | refine ⟨?_, fun S L xh xl zh zl => by kernel_rfl⟩)
theorem add_last (S L : List Int) (xh xl zh zl : Int) : pickO (evC C2 noL 94 300 addBody (frT (addFr 32)) ⟨hpT (addHp S L xh xl zh zl), 30⟩) (keys (addFr 32)) (keys (addHp S L xh xl 0 0)) =
    some (.exit 0, vals (addFr 32), vals (addHp S L xh xl zh zl), true) := by kernel_rfl
end Ev
end Go
