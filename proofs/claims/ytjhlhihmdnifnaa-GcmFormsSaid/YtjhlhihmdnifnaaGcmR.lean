/- aes.New: the words of the keys. -/
import Derived.Test.YtjhlhihmdnifnaaGcmQ
set_option linter.unusedVariables false
namespace Go
namespace Ev
open Go.Proofs
noncomputable def OV2 (f : Nat) (args : List V) : Option (V × Bool) := cond (Nat.beq f 22) (match args with
  | [] => some (.ints .u8 sboxI, true)
  | _ => none) (OV1 f args)
theorem OV2_sound : ∀ f args v, OV2 f args = some (v, true) → Callable Try.prog f ∧ VSpec Try.prog f args v := by
  intro f args v e
  unfold OV2 at e
  cases h : Nat.beq f 22 <;> rw [h] at e <;> simp only [cond_true, cond_false] at e
  · exact OV1_sound f args v e
  · rw [beq_true.1 h]
    split at e
    · cases e; exact ⟨callable (fn := Try.f22) (by kernel_rfl) (by kernel_rfl) (by kernel_rfl), table_spec⟩
    · cases e
noncomputable def C4 : Cfg := { P := Try.prog, OV := OV2, O := fun _ _ _ => none, D := fun _ => none }
theorem C4_sound : Sound C4 := ⟨(C1_sound).mixed, (fun _ _ _ _ _ _ e => nomatch e), OV2_sound⟩
def tabF {α : Type} (f : Nat → α) (n : Nat) : Nat → List α := Nat.rec (fun _ => []) (fun _ t s => f s :: t (s + 1)) n
def tab {α : Type} (n : Nat) (f : Nat → α) : List α := tabF f n 0
theorem tabF_len {α : Type} (f : Nat → α) : ∀ n s, len (tabF f n s) = n
  | 0, s => rfl
  | n + 1, s => congrArg (· + 1) (tabF_len f n (s + 1))
theorem tab_len {α : Type} (n : Nat) (f : Nat → α) : len (tab n f) = n := tabF_len f n 0
theorem gd_tabF (f : Nat → Int) : ∀ n s i, i < n → gd (tabF f n s) i = f (s + i)
  | n + 1, s, 0, _ => rfl
  | n + 1, s, i + 1, h => by
    show gd (tabF f n (s + 1)) i = _
    rw [gd_tabF f n (s + 1) i (by omega)]; congr 1; omega
theorem gd_tab (n : Nat) (f : Nat → Int) (i : Nat) (h : i < n) : gd (tab n f) i = f i := by
  rw [tab, gd_tabF f n 0 i h]; congr 1; omega
theorem tabF_shift {α : Type} (f : Nat → α) : ∀ n s t, tabF (fun i => f (t + i)) n s = tabF f n (t + s)
  | 0, s, t => rfl
  | n + 1, s, t => by
    show _ :: tabF _ n (s + 1) = _ :: tabF f n (t + s + 1)
    rw [tabF_shift f n (s + 1) t]; rfl
theorem tab_gd : ∀ (L : List Int) (n : Nat), len L = n → tab n (gd L) = L
  | [], 0, _ => rfl
  | a :: L, n + 1, h => by
    have ih := tab_gd L n (Nat.succ.inj h)
    have e : (fun i => gd (a :: L) (1 + i)) = gd L := by
      funext i; rw [Nat.add_comm]; rfl
    have := tabF_shift (gd (a :: L)) n 0 1
    rw [e] at this
    exact congrArg (a :: ·) (this.symm.trans ih)
theorem tab_gd8 : ∀ (L : List UInt8) (n : Nat), len L = n → tab n (gd8 L) = L
  | [], 0, _ => rfl
  | a :: L, n + 1, h => by
    have ih := tab_gd8 L n (Nat.succ.inj h)
    have e : (fun i => gd8 (a :: L) (1 + i)) = gd8 L := by
      funext i; rw [Nat.add_comm]; rfl
    have := tabF_shift (gd8 (a :: L)) n 0 1
    rw [e] at this
    exact congrArg (a :: ·) (this.symm.trans ih)
noncomputable def cells0 : List V := app (mapInt .u8 sboxI) [.nilslice]
noncomputable def sub0 (x : Int) : Int := gdV cells0 (0 + nn x * 1)
noncomputable def wT (n : Nat) (r : Int) (w : Nat → Int) (i k : Nat) : Int := cond (Nat.beq (i % n) 0) (cond (Nat.beq k 0) (ixor .u8 (sub0 (w (4 * (i - 1) + 1))) r) (sub0 (w (4 * (i - 1) + (k + 1) % 4))))
  (cond (cond (Nat.beq n 8) (Nat.beq (i % n) 4) false) (sub0 (w (4 * (i - 1) + k))) (w (4 * (i - 1) + k)))
noncomputable def wN (n : Nat) (c : Nat → UInt8) (i : Nat) (r : Int) (w : Nat → Int) (j : Nat) : Int := cond (Nat.beq (j / 4) i) (cond (Nat.blt i n) (.ofNat (c j).toNat) (ixor .u8 (w (4 * (i - n) + j % 4)) (wT n r w i (j % 4)))) (w j)
def rN (n i : Nat) (r : Int) : Int := cond (cond (Nat.blt i n) false (Nat.beq (i % n) 0)) (twI r) r
noncomputable def wKA (w : Nat → Int) (b : Nat) : Bool := andr true (andr true (andr true (andr true (andr true (andr true (andr true (andr (andr (andr (andr true (isI IntKind.u8 cells0 (0 + nn (w (b + 1)) * 1))) (isI IntKind.u8 cells0 (0 + nn (w (b + 2)) * 1))) (isI IntKind.u8 cells0 (0 + nn (w (b + 3)) * 1))) (isI IntKind.u8 cells0 (0 + nn (w b) * 1)))))))))
noncomputable def wKB (w : Nat → Int) (b : Nat) : Bool := andr true (andr true (andr true (andr true (andr true (andr true (andr true (andr true (andr true (andr true (andr (andr true (andr true (andr true (andr true (isI IntKind.u8 cells0 (0 + nn (w b) * 1)))))) (andr (andr true (andr true (andr true (andr true (isI IntKind.u8 cells0 (0 + nn (w (b + 1)) * 1)))))) (andr (andr true (andr true (andr true (andr true (isI IntKind.u8 cells0 (0 + nn (w (b + 2)) * 1)))))) (andr true (andr true (andr true (andr true (isI IntKind.u8 cells0 (0 + nn (w (b + 3)) * 1))))))))))))))))))
noncomputable def wK (n i : Nat) (w : Nat → Int) : Bool := cond (Nat.blt i n) true (cond (Nat.beq (i % n) 0) (wKA w (4 * (i - 1))) (cond (cond (Nat.beq n 8) (Nat.beq (i % n) 4) false) (wKB w (4 * (i - 1))) true))
noncomputable def wBody : Code := (nth (loopsOf (bodyOf Try.f17)) 0).getD .skip
def wFr (n i : Nat) (c : Nat → UInt8) (r : Int) : List (Nat × V) := [(0, .str (tab (4 * n) c)), (4, .ptr 12 0), (5, .int .i64 (.ofNat n)), (6, .slice 21 0 (4 * (n + 7)) 4), (7, .int .u8 r), (32, .int .i64 (.ofNat (4 * (n + 7)))), (33, .int .i64 (.ofNat i))]
noncomputable def wHp (n : Nat) (w : Nat → Int) : List (Nat × Blk) := [(12, .vals cells0), (21, .ints .u8 (tab (16 * (n + 7)) w))]
theorem w_steps4 : AllLt (fun i => ∀ (w : Nat → Int) (c : Nat → UInt8) (r : Int), pickO (evC C4 noL 163 300 wBody (frT (wFr 4 i c r)) ⟨hpT (wHp 4 w), 30⟩) (keys (wFr 4 (i + 1) c r)) (keys (wHp 4 w)) =
    some (.normal, vals (wFr 4 (i + 1) c (rN 4 i r)), vals (wHp 4 (wN 4 c i r w)), wK 4 i w)) 44 := by
  repeat (first | exact trivial | refine ⟨?_, fun w c r => by kernel_rfl⟩)
theorem w_steps8 : AllLt (fun i => ∀ (w : Nat → Int) (c : Nat → UInt8) (r : Int), pickO (evC C4 noL 163 300 wBody (frT (wFr 8 i c r)) ⟨hpT (wHp 8 w), 30⟩) (keys (wFr 8 (i + 1) c r)) (keys (wHp 8 w)) =
    some (.normal, vals (wFr 8 (i + 1) c (rN 8 i r)), vals (wHp 8 (wN 8 c i r w)), wK 8 i w)) 60 := by
  repeat (first | exact trivial | refine ⟨?_, fun w c r => by kernel_rfl⟩)
theorem w_last4 (w : Nat → Int) (c : Nat → UInt8) (r : Int) : pickO (evC C4 noL 163 300 wBody (frT (wFr 4 44 c r)) ⟨hpT (wHp 4 w), 30⟩) (keys (wFr 4 44 c r)) (keys (wHp 4 w)) =
    some (.exit 0, vals (wFr 4 44 c r), vals (wHp 4 w), true) := by kernel_rfl
theorem w_last8 (w : Nat → Int) (c : Nat → UInt8) (r : Int) : pickO (evC C4 noL 163 300 wBody (frT (wFr 8 60 c r)) ⟨hpT (wHp 8 w), 30⟩) (keys (wFr 8 60 c r)) (keys (wHp 8 w)) =
    some (.exit 0, vals (wFr 8 60 c r), vals (wHp 8 w), true) := by kernel_rfl
end Ev
end Go
