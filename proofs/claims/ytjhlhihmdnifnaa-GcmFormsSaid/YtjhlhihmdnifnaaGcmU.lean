/- aes.New: its summary. -/
import Derived.Test.YtjhlhihmdnifnaaGcmT
set_option linter.unusedVariables false
namespace Go
namespace Ev
open Go.Proofs
theorem new_loops : loopsOf (bodyOf Try.f17) = [wBody, (nth (loopsOf (bodyOf Try.f17)) 1).getD .skip, (nth (loopsOf (bodyOf Try.f17)) 2).getD .skip, cpBody] := by kernel_rfl
noncomputable def LN : Nat → Fr → H → Option Out := mkL [] [lpW, lpCp]
/-- The keys of a key of 4 n bytes. -/
noncomputable def keysL (n : Nat) (s : List UInt8) : List Int := (wL n s (4 * (n + 7))).1
theorem keysL_len (n : Nat) (s : List UInt8) : len (keysL n s) = 16 * (n + 7) := wL_len _ _ _
noncomputable def newHp (n : Nat) (K : List Int) : List (Nat × Blk) := [(12, .vals (cellsA 103 (n + 7))), (103, .ints .u8 K)]
theorem LN_sound {D : Nat → Prop} (hD : ∀ i, D i → i ∈ ([] : List Nat)) : LSound C4 D 163 LN (bodyOf Try.f17) :=
  LSound.of _ fun a ha fr h x fr' h' e => by
    rw [new_loops] at ha
    refine mkL_sound hD (fun p hp hid => ?_) fr h x fr' h' e
    have ha' : a = wBody ∨ a = (nth (loopsOf (bodyOf Try.f17)) 1).getD .skip ∨ a = (nth (loopsOf (bodyOf Try.f17)) 2).getD .skip ∨ a = cpBody := by simpa using ha
    have hp' : p = lpW ∨ p = lpCp := by simpa using hp
    have i1 : firstId wBody = 8 := by kernel_rfl
    have i2 : firstId ((nth (loopsOf (bodyOf Try.f17)) 1).getD .skip) = 18 := by kernel_rfl
    have i3 : firstId ((nth (loopsOf (bodyOf Try.f17)) 2).getD .skip) = 23 := by kernel_rfl
    have i4 : firstId cpBody = 30 := by kernel_rfl
    rcases ha' with rfl | rfl | rfl | rfl <;> rcases hp' with rfl | rfl
    all_goals first
      | exact lpW_holds hD
      | exact lpCp_holds hD
      | (first | rw [i1] at hid | rw [i2] at hid | rw [i3] at hid | rw [i4] at hid); cases hid
theorem hp0_none (i : Nat) : (hpT []).get i = none := full_get 20 i
theorem nil_dom : ∀ i, (hpT ([] : List (Nat × Blk))).get i ≠ none → i ∈ ([] : List Nat) := fun i hi => absurd (hp0_none i) hi
theorem new_spec4 (c : Nat → UInt8) : FSpec Try.prog 17 [.str (tab 16 c)] ⟨hpT [], 0⟩ (.tuple [.ptr 12 0, .bool true]) ⟨hpT (newHp 4 (tab 176 (gd (wL 4 (tab 16 c) 44).1))), 0⟩ :=
  FSpec.ev (C := C4) (fn := Try.f17) (c := bodyOf Try.f17) (L := LN) (fuel := 300) (nx := 0) (m0 := []) (m1 := newHp 4 (tab 176 (gd (wL 4 (tab 16 c) 44).1)))
    (k := true) C4_sound (by kernel_rfl) (by kernel_rfl) (LN_sound nil_dom) (by kernel_rfl) rfl (by kernel_rfl)
theorem new_spec8 (c : Nat → UInt8) : FSpec Try.prog 17 [.str (tab 32 c)] ⟨hpT [], 0⟩ (.tuple [.ptr 12 0, .bool true]) ⟨hpT (newHp 8 (tab 240 (gd (wL 8 (tab 32 c) 60).1))), 0⟩ :=
  FSpec.ev (C := C4) (fn := Try.f17) (c := bodyOf Try.f17) (L := LN) (fuel := 300) (nx := 0) (m0 := []) (m1 := newHp 8 (tab 240 (gd (wL 8 (tab 32 c) 60).1)))
    (k := true) C4_sound (by kernel_rfl) (by kernel_rfl) (LN_sound nil_dom) (by kernel_rfl) rfl (by kernel_rfl)
theorem new16 (s : List UInt8) (h : len s = 16) : FSpec Try.prog 17 [.str s] ⟨hpT [], 0⟩ (.tuple [.ptr 12 0, .bool true]) ⟨hpT (newHp 4 (keysL 4 s)), 0⟩ := by
  have := new_spec4 (gd8 s)
  rw [tab_gd8 s 16 h, tab_gd (wL 4 s 44).1 176 (wL_len 4 s 44)] at this
  exact this
theorem new32 (s : List UInt8) (h : len s = 32) : FSpec Try.prog 17 [.str s] ⟨hpT [], 0⟩ (.tuple [.ptr 12 0, .bool true]) ⟨hpT (newHp 8 (keysL 8 s)), 0⟩ := by
  have := new_spec8 (gd8 s)
  rw [tab_gd8 s 32 h, tab_gd (wL 8 s 60).1 240 (wL_len 8 s 60)] at this
  exact this
noncomputable def CN (D : Nat → Option Bool) : Cfg := { P := Try.prog, OV := OV2, O := fun _ _ _ => none, D := D }
theorem CN_sound (D : Nat → Option Bool) : Sound (CN D) := ⟨(C1_sound).mixed, (fun _ _ _ _ _ _ e => nomatch e), OV2_sound⟩
noncomputable def DN (t : Nat) : Option Bool := cond (Nat.beq t 16) (some true) (cond (Nat.beq t 20) (some true) none)
theorem new_no (s : List UInt8) (h0 : len s ≤ 9223372036854775807) (h1 : len s ≠ 16) (h2 : len s ≠ 32) : FSpec Try.prog 17 [.str s] ⟨hpT [], 0⟩ (.tuple [.nilptr, .bool false]) ⟨hpT [], 0⟩ :=
  FSpec.ev (C := CN DN) (fn := Try.f17) (c := bodyOf Try.f17) (L := noL) (fuel := 300) (nx := 0) (m0 := []) (m1 := [])
    (k := andr true (andr (andr (andr (andr (andr (andr (andr true ((len s).ble 9223372036854775807)) !ieq (Int.ofNat (len s)) (Int.ofNat 16)) !ieq (Int.ofNat (len s)) (Int.ofNat 16)) ((len s).ble 9223372036854775807)) !ieq (Int.ofNat (len s)) (Int.ofNat 16)) !ieq (Int.ofNat (len s)) (Int.ofNat 16)) !ieq (Int.ofNat (len s)) (Int.ofNat 32)))
    (CN_sound DN) (by kernel_rfl) (by kernel_rfl) (LSound.none _) (by kernel_rfl) (by simp only [ieq, andr_true, ble_true, Bool.not_eq_true', beq_iff_false]; simp only [h0, h1, h2, ne_eq, not_false_eq_true, and_self]) (by kernel_rfl)
end Ev
end Go
