/- aes.New: its loops' summaries. -/
import Derived.Test.YtjhlhihmdnifnaaGcmR
set_option linter.unusedVariables false
namespace Go
namespace Ev
open Go.Proofs
noncomputable def wL (n : Nat) (s : List UInt8) : Nat → List Int × Int
  | 0 => (rep (16 * (n + 7)) 0, 1)
  | i + 1 => (tab (16 * (n + 7)) (wN n (gd8 s) i (wL n s i).2 (gd (wL n s i).1)), rN n i (wL n s i).2)
theorem rep_len {α : Type} (a : α) : ∀ n, len (rep n a) = n
  | 0 => rfl
  | n + 1 => congrArg (· + 1) (rep_len a n)
theorem wL_len (n : Nat) (s : List UInt8) : ∀ i, len (wL n s i).1 = 16 * (n + 7)
  | 0 => by simp only [wL]; exact rep_len _ _
  | i + 1 => by simp only [wL]; exact tab_len _ _
theorem isI_cells0 {a : Nat} (h : a < 256) : isI .u8 cells0 (0 + a * 1) = true := isI_app (by rw [sbox_len]; omega)
theorem wK_true {n i : Nat} {w : Nat → Int} (hi : i < 4 * (n + 7)) (hw : ∀ j, j < 16 * (n + 7) → fit .u8 (w j) = true) : wK n i w = true := by
  have h : ∀ k, k < 4 → isI .u8 cells0 (0 + nn (w (4 * (i - 1) + k)) * 1) = true := fun k hk => isI_cells0 (fit8_lt (hw _ (by omega)))
  have h0 := h 0 (by omega)
  have h1 := h 1 (by omega)
  have h2 := h 2 (by omega)
  have h3 := h 3 (by omega)
  unfold wK
  cases Nat.blt i n <;> simp only [cond_true, cond_false]
  cases Nat.beq (i % n) 0 <;> simp only [cond_true, cond_false]
  · cases cond (Nat.beq n 8) (Nat.beq (i % n) 4) false <;> simp only [cond_true, cond_false]
    simp only [wKB, andr_true, Nat.add_zero] at *
    simp only [h0, h1, h2, h3, and_self]
  · simp only [wKA, andr_true, Nat.add_zero] at *
    simp only [h0, h1, h2, h3, and_self]
theorem wHp_next (n : Nat) (s : List UInt8) (i : Nat) : wHp n (wN n (gd8 s) i (wL n s i).2 (gd (wL n s i).1)) = wHp n (gd (wL n s (i + 1)).1) := by
  simp only [wHp, wL]
  rw [tab_gd _ _ (tab_len _ _)]
theorem wHp_ok (n i : Nat) (c : Nat → UInt8) (r : Int) (w : Nat → Int) : okAll (wFr n i c r) (wHp n w) [] = true := by kernel_rfl
theorem w_rounds {D : Nat → Prop} (hD : ∀ i, D i → i ∈ ([] : List Nat)) (n : Nat) (s : List UInt8)
    (st : ∀ i, i < 4 * (n + 7) → ∀ (w : Nat → Int) (c : Nat → UInt8) (r : Int), pickO (evC C4 noL 163 300 wBody (frT (wFr n i c r)) ⟨hpT (wHp n w), 30⟩) (keys (wFr n (i + 1) c r)) (keys (wHp n w)) =
      some (.normal, vals (wFr n (i + 1) c (rN n i r)), vals (wHp n (wN n c i r w)), wK n i w))
    (la : ∀ (w : Nat → Int) (c : Nat → UInt8) (r : Int), pickO (evC C4 noL 163 300 wBody (frT (wFr n (4 * (n + 7)) c r)) ⟨hpT (wHp n w), 30⟩) (keys (wFr n (4 * (n + 7)) c r)) (keys (wHp n w)) =
      some (.exit 0, vals (wFr n (4 * (n + 7)) c r), vals (wHp n w), true)) :
    RSpec C4 D 163 wBody (frT (wFr n 0 (gd8 s) 1)).get (hpT (wHp n (gd (rep (16 * (n + 7)) 0)))).get (.exit 0) (frT (wFr n (4 * (n + 7)) (gd8 s) (wL n s (4 * (n + 7))).2)).get (hpT (wHp n (gd (wL n s (4 * (n + 7))).1))).get := by
  have hs : ∀ i, i < 4 * (n + 7) → CSpec C4 D 163 wBody (frT (wFr n i (gd8 s) (wL n s i).2)).get (hpT (wHp n (gd (wL n s i).1))).get .normal (frT (wFr n (i + 1) (gd8 s) (wL n s (i + 1)).2)).get (hpT (wHp n (gd (wL n s (i + 1)).1))).get := fun i hi => by
    refine CSpec.know (i := 21) (k := .u8) (l := tab (16 * (n + 7)) (gd (wL n s i).1)) rfl fun hf => ?_
    rw [tab_gd _ _ (wL_len n s i)] at hf
    have := CSpec.ev (l' := wFr n (i + 1) (gd8 s) (rN n i (wL n s i).2)) (m' := wHp n (wN n (gd8 s) i (wL n s i).2 (gd (wL n s i).1))) C4_sound [] (LSound.none _) (st i hi (gd (wL n s i).1) (gd8 s) (wL n s i).2) (wK_true hi fun j hj => hf j (by rw [wL_len]; exact hj)) hD (wHp_ok n _ _ _ _)
    rw [wHp_next] at this
    exact this
  exact RSpec.count (f := fun i => (frT (wFr n i (gd8 s) (wL n s i).2)).get) (g := fun i => (hpT (wHp n (gd (wL n s i).1))).get) (by simp) hs
    (CSpec.ev C4_sound [] (LSound.none _) (la _ _ _) rfl hD (wHp_ok n _ _ _ _)) (4 * (n + 7)) 0 (Nat.zero_add _)
/-- A cipher's block: no keys yet; its keys in a block. -/
def cellsN : List V → List Int → Bool
  | .int .u8 n :: l, a :: L => cond (ieq n a) (cellsN l L) false
  | [.nilslice], [] => true
  | _, _ => false
theorem cellsN_eq : ∀ (L : List Int) (l : List V), cellsN l L = true → l = app (mapInt .u8 L) [.nilslice] := fun L => by
  induction L with
  | nil =>
    intro l h
    unfold cellsN at h
    split at h
    · contradiction
    · rfl
    · cases h
  | cons a L ih =>
    intro l h
    unfold cellsN at h
    split at h
    · rename_i n l' a' L' heq
      cases heq
      cases hi : ieq n a <;> simp only [hi, cond_true, cond_false, Bool.false_eq_true] at h
      rw [ieqK hi, ih _ h]; rfl
    · contradiction
    · cases h
def cellsI (b R : Nat) : List V → List Int → Bool
  | .int .u8 n :: l, a :: L => cond (ieq n a) (cellsI b R l L) false
  | [.slice b' 0 R' 16], [] => cond (Nat.beq b b') (Nat.beq R R') false
  | _, _ => false
theorem cellsI_eq {b R : Nat} : ∀ (L : List Int) (l : List V), cellsI b R l L = true → l = app (mapInt .u8 L) [.slice b 0 R 16] := fun L => by
  induction L with
  | nil =>
    intro l h
    unfold cellsI at h
    split at h
    · contradiction
    · rename_i b' R' _
      cases h1 : Nat.beq b b' <;> simp only [h1, cond_true, cond_false, Bool.false_eq_true] at h
      rw [beq_true.1 h1, beq_true.1 h]; rfl
    · cases h
  | cons a L ih =>
    intro l h
    unfold cellsI at h
    split at h
    · rename_i n l' a' L' heq
      cases heq
      cases hi : ieq n a <;> simp only [hi, cond_true, cond_false, Bool.false_eq_true] at h
      rw [ieqK hi, ih _ h]; rfl
    · contradiction
    · cases h
noncomputable def lpW : LP := { id := 8, ts := [0, 4, 5, 6, 7, 32, 33], is := [12, 21], F := fun vs bs => match vs, bs with
  | [.str s, .ptr 12 0, .int .i64 (.ofNat n), .slice 21 0 m 4, .int .u8 (.ofNat 1), .int .i64 (.ofNat m'), .int .i64 (.ofNat 0)], [.vals l, .ints .u8 W] =>
    cond (Nat.beq n 4) (some (.exit 0, wFr 4 44 (gd8 s) (wL 4 s 44).2, wHp 4 (gd (wL 4 s 44).1), 100, andr (Nat.beq (len s) 16) (andr (cellsN l sboxI) (andr (Nat.beq m 44) (andr (Nat.beq m' 44) (lieq W (rep 176 0)))))))
    (cond (Nat.beq n 8) (some (.exit 0, wFr 8 60 (gd8 s) (wL 8 s 60).2, wHp 8 (gd (wL 8 s 60).1), 100, andr (Nat.beq (len s) 32) (andr (cellsN l sboxI) (andr (Nat.beq m 60) (andr (Nat.beq m' 60) (lieq W (rep 240 0))))))) none)
  | _, _ => none }
theorem lpW_holds {D : Nat → Prop} (hD : ∀ i, D i → i ∈ ([] : List Nat)) : lpW.Holds C4 D 163 wBody := by
  intro vs bs x l' m' nx e
  simp only [lpW] at e
  split at e
  · rename_i s n m mm l W
    cases h4 : Nat.beq n 4 <;> simp only [h4, cond_true, cond_false] at e
    · cases h8 : Nat.beq n 8 <;> simp only [h8, cond_true, cond_false] at e
      · cases e
      · simp only [Option.some.injEq, Prod.mk.injEq, beq_true, andr_true] at e
        obtain ⟨rfl, rfl, rfl, rfl, h1, h2, h3, h5, h6⟩ := e
        have := w_rounds hD 8 s (fun i hi => w_steps8.get i hi) w_last8
        rw [cellsN_eq _ _ h2, lieqK h6, beq_true.1 h8, h3, h5]
        have e1 := tab_gd8 s (4 * 8) h1
        have e2 := tab_gd (rep (16 * (8 + 7)) 0) (16 * (8 + 7)) (rep_len _ _)
        unfold wFr wHp at this
        rw [e1, e2] at this
        unfold wFr wHp
        rw [e1]
        exact this
    · simp only [Option.some.injEq, Prod.mk.injEq, beq_true, andr_true] at e
      obtain ⟨rfl, rfl, rfl, rfl, h1, h2, h3, h5, h6⟩ := e
      have := w_rounds hD 4 s (fun i hi => w_steps4.get i hi) w_last4
      rw [cellsN_eq _ _ h2, lieqK h6, beq_true.1 h4, h3, h5]
      have e1 := tab_gd8 s (4 * 4) h1
      have e2 := tab_gd (rep (16 * (4 + 7)) 0) (16 * (4 + 7)) (rep_len _ _)
      unfold wFr wHp at this
      rw [e1, e2] at this
      unfold wFr wHp
      rw [e1]
      exact this
  · cases e
/-! The second loop: the words as keys. -/
noncomputable def cpBody : Code := (nth (loopsOf (bodyOf Try.f17)) 3).getD .skip
noncomputable def cellsA (id R : Nat) : List V := app (mapInt .u8 sboxI) [.slice id 0 R 16]
def cpFr (n i : Nat) : List (Nat × V) := [(4, .ptr 12 0), (6, .slice 21 0 (4 * (n + 7)) 4), (141, .int .i64 (.ofNat (4 * (n + 7)))), (142, .int .i64 (.ofNat i))]
noncomputable def cpHp (n : Nat) (w v : Nat → Int) : List (Nat × Blk) := [(12, .vals (cellsA 103 (n + 7))), (21, .ints .u8 (tab (16 * (n + 7)) w)), (103, .ints .u8 (tab (16 * (n + 7)) v))]
def cpN (i : Nat) (w v : Nat → Int) (j : Nat) : Int := cond (Nat.beq (j / 4) i) (w j) (v j)
theorem cp_steps4 : AllLt (fun i => ∀ (w v : Nat → Int), pickO (evC C4 noL 163 300 cpBody (frT (cpFr 4 i)) ⟨hpT (cpHp 4 w v), 200⟩) (keys (cpFr 4 (i + 1))) (keys (cpHp 4 w v)) =
    some (.normal, vals (cpFr 4 (i + 1)), vals (cpHp 4 w (cpN i w v)), true)) 44 := by
  repeat (first | exact trivial | refine ⟨?_, fun w v => by kernel_rfl⟩)
theorem cp_steps8 : AllLt (fun i => ∀ (w v : Nat → Int), pickO (evC C4 noL 163 300 cpBody (frT (cpFr 8 i)) ⟨hpT (cpHp 8 w v), 200⟩) (keys (cpFr 8 (i + 1))) (keys (cpHp 8 w v)) =
    some (.normal, vals (cpFr 8 (i + 1)), vals (cpHp 8 w (cpN i w v)), true)) 60 := by
  repeat (first | exact trivial | refine ⟨?_, fun w v => by kernel_rfl⟩)
theorem cp_last4 (w v : Nat → Int) : pickO (evC C4 noL 163 300 cpBody (frT (cpFr 4 44)) ⟨hpT (cpHp 4 w v), 200⟩) (keys (cpFr 4 44)) (keys (cpHp 4 w v)) =
    some (.exit 6, vals (cpFr 4 44), vals (cpHp 4 w v), true) := by kernel_rfl
theorem cp_last8 (w v : Nat → Int) : pickO (evC C4 noL 163 300 cpBody (frT (cpFr 8 60)) ⟨hpT (cpHp 8 w v), 200⟩) (keys (cpFr 8 60)) (keys (cpHp 8 w v)) =
    some (.exit 6, vals (cpFr 8 60), vals (cpHp 8 w v), true) := by kernel_rfl
def cpV (w v : Nat → Int) (i j : Nat) : Int := cond (Nat.blt j (4 * i)) (w j) (v j)
theorem blt_iff_false {a b : Nat} : Nat.blt a b = false ↔ b ≤ a := by
  rw [← Bool.not_eq_true, blt_true]; omega
theorem beq_iff_false {a b : Nat} : Nat.beq a b = false ↔ a ≠ b := by
  rw [← Bool.not_eq_true, beq_true]
theorem cpV_next (w v : Nat → Int) (i : Nat) : cpN i w (cpV w v i) = cpV w v (i + 1) := by
  funext j
  simp only [cpN, cpV]
  cases h1 : Nat.beq (j / 4) i <;> cases h2 : Nat.blt j (4 * i) <;> cases h3 : Nat.blt j (4 * (i + 1)) <;> simp only [cond_true, cond_false] <;>
    simp only [beq_true, blt_true, beq_iff_false, blt_iff_false] at h1 h2 h3 <;> omega
theorem tab_congr {α : Type} {f g : Nat → α} : ∀ (n s : Nat), (∀ i, s ≤ i → i < s + n → f i = g i) → tabF f n s = tabF g n s
  | 0, s, _ => rfl
  | n + 1, s, h => by
    show f s :: tabF f n (s + 1) = g s :: tabF g n (s + 1)
    rw [h s (Nat.le_refl _) (by omega), tab_congr n (s + 1) fun i h1 h2 => h i (by omega) (by omega)]
theorem cpHp_ok (n i : Nat) (w v : Nat → Int) : okAll (cpFr n i) (cpHp n w v) [] = true := by kernel_rfl
theorem cp_rounds {D : Nat → Prop} (hD : ∀ i, D i → i ∈ ([] : List Nat)) (n : Nat) (w v : Nat → Int)
    (st : ∀ i, i < 4 * (n + 7) → ∀ (w v : Nat → Int), pickO (evC C4 noL 163 300 cpBody (frT (cpFr n i)) ⟨hpT (cpHp n w v), 200⟩) (keys (cpFr n (i + 1))) (keys (cpHp n w v)) =
      some (.normal, vals (cpFr n (i + 1)), vals (cpHp n w (cpN i w v)), true))
    (la : ∀ (w v : Nat → Int), pickO (evC C4 noL 163 300 cpBody (frT (cpFr n (4 * (n + 7)))) ⟨hpT (cpHp n w v), 200⟩) (keys (cpFr n (4 * (n + 7)))) (keys (cpHp n w v)) =
      some (.exit 6, vals (cpFr n (4 * (n + 7))), vals (cpHp n w v), true)) :
    RSpec C4 D 163 cpBody (frT (cpFr n 0)).get (hpT (cpHp n w v)).get (.exit 6) (frT (cpFr n (4 * (n + 7)))).get (hpT (cpHp n w w)).get := by
  have hs : ∀ i, i < 4 * (n + 7) → CSpec C4 D 163 cpBody (frT (cpFr n i)).get (hpT (cpHp n w (cpV w v i))).get .normal (frT (cpFr n (i + 1))).get (hpT (cpHp n w (cpV w v (i + 1)))).get := fun i hi => by
    have := CSpec.ev (l' := cpFr n (i + 1)) (m' := cpHp n w (cpN i w (cpV w v i))) C4_sound [] (LSound.none _) (st i hi w (cpV w v i)) rfl hD (cpHp_ok n _ _ _)
    rw [cpV_next] at this
    exact this
  have h0 : cpV w v 0 = v := by funext j; rfl
  have h1 : cpHp n w (cpV w v (4 * (n + 7))) = cpHp n w w := by
    have : tab (16 * (n + 7)) (cpV w v (4 * (n + 7))) = tab (16 * (n + 7)) w := tab_congr _ _ fun i _ hi => by
      have : Nat.blt i (4 * (4 * (n + 7))) = true := by rw [blt_true]; omega
      simp only [cpV, this, cond_true]
    unfold cpHp; rw [this]
  have := RSpec.count (f := fun i => (frT (cpFr n i)).get) (g := fun i => (hpT (cpHp n w (cpV w v i))).get) (by simp) hs
    (CSpec.ev C4_sound [] (LSound.none _) (la w (cpV w v (4 * (n + 7)))) rfl hD (cpHp_ok n _ _ _)) (4 * (n + 7)) 0 (Nat.zero_add _)
  rw [h0, h1] at this
  exact this
noncomputable def lpCp : LP := { id := 30, ts := [4, 6, 141, 142], is := [12, 21, 103], F := fun vs bs => match vs, bs with
  | [.ptr 12 0, .slice 21 0 m 4, .int .i64 (.ofNat m'), .int .i64 (.ofNat 0)], [.vals l, .ints .u8 W, .ints .u8 K] =>
    cond (Nat.beq m 44) (some (.exit 6, cpFr 4 44, cpHp 4 (gd W) (gd W), 2000, andr (cellsI 103 11 l sboxI) (andr (Nat.beq m' 44) (andr (Nat.beq (len W) 176) (Nat.beq (len K) 176)))))
    (cond (Nat.beq m 60) (some (.exit 6, cpFr 8 60, cpHp 8 (gd W) (gd W), 2000, andr (cellsI 103 15 l sboxI) (andr (Nat.beq m' 60) (andr (Nat.beq (len W) 240) (Nat.beq (len K) 240))))) none)
  | _, _ => none }
theorem lpCp_holds {D : Nat → Prop} (hD : ∀ i, D i → i ∈ ([] : List Nat)) : lpCp.Holds C4 D 163 cpBody := by
  intro vs bs x l' m' nx e
  simp only [lpCp] at e
  split at e
  · rename_i m mm l W K
    cases h4 : Nat.beq m 44 <;> simp only [h4, cond_true, cond_false] at e
    · cases h8 : Nat.beq m 60 <;> simp only [h8, cond_true, cond_false] at e
      · cases e
      · simp only [Option.some.injEq, Prod.mk.injEq, beq_true, andr_true] at e
        obtain ⟨rfl, rfl, rfl, rfl, h2, h3, h5, h6⟩ := e
        have := cp_rounds hD 8 (gd W) (gd K) (fun i hi => cp_steps8.get i hi) cp_last8
        rw [cellsI_eq _ _ h2, beq_true.1 h8, h3]
        have e1 := tab_gd W (16 * (8 + 7)) h5
        have e2 := tab_gd K (16 * (8 + 7)) h6
        unfold cpHp at this
        rw [e1, e2] at this
        unfold cpHp
        rw [e1]
        exact this
    · simp only [Option.some.injEq, Prod.mk.injEq, beq_true, andr_true] at e
      obtain ⟨rfl, rfl, rfl, rfl, h2, h3, h5, h6⟩ := e
      have := cp_rounds hD 4 (gd W) (gd K) (fun i hi => cp_steps4.get i hi) cp_last4
      rw [cellsI_eq _ _ h2, beq_true.1 h4, h3]
      have e1 := tab_gd W (16 * (4 + 7)) h5
      have e2 := tab_gd K (16 * (4 + 7)) h6
      unfold cpHp at this
      rw [e1, e2] at this
      unfold cpHp
      rw [e1]
      exact this
  · cases e
end Ev
end Go
