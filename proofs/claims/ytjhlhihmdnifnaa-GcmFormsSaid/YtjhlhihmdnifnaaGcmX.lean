/- gcm: Xor. -/
import Derived.Test.YtjhlhihmdnifnaaGcmW
set_option linter.unusedVariables false
namespace Go
namespace Ev
open Go.Proofs
noncomputable def lpXi : LP := { id := 6, ts := [0, 1, 2, 6, 7, 8, 26, 27], is := [41, 0, 1, 2, 3], F := fun vs bs => match vs, bs with
  | [.ptr 0 0, .str c, .slice 3 o n 1, .int .u32 x, .ptr 41 0, .int .i64 (.ofNat m), .int .i64 (.ofNat m'), .int .i64 (.ofNat 0)], [.ints .u8 E, .vals [.ptr 1 0, .int .u64 h, .int .u64 l], .vals cl, .ints .u8 K, .ints .u8 L] => match cellsP cl sboxI with
    | some (b, R) => some (.exit 2, xiFr c o n x m m, xiHp R K h l E (xs o E L m), 400, andr (Nat.beq b 2) (andr (Nat.beq m' m) (andr (Nat.beq (len E) 16) (andr (Nat.ble m 16) (andr (Nat.ble m n) (Nat.ble (o + n) (len L)))))))
    | none => none
  | _, _ => none }
theorem lpXi_holds {mode : Nat} {T : Nat → Option Bool} {D : Nat → Prop} (hD : ∀ i, D i → i ∈ [0, 1, 2, 3]) : lpXi.Holds (C5 mode T) D 43 xiBody := by
  intro vs bs x l' m' nx e
  simp only [lpXi] at e
  split at e
  · rename_i c o n x m mm E h l cl K L
    split at e
    · rename_i b R hR
      simp only [Option.some.injEq, Prod.mk.injEq, beq_true, ble_true, andr_true] at e
      obtain ⟨rfl, rfl, rfl, rfl, h1, h2, h3, h4, h5, h6⟩ := e
      rw [cellsP_eq _ _ hR, h1, h2]
      exact xi_rounds hD c R K L E h l o n x m h3 h4 h5 h6
    · cases e
  · cases e
def ctr1 (x : Int) : Int := .ofNat ((nn x + nn 1) % 4294967296)
def xoFr (c : List UInt8) (o n : Nat) (x : Int) : List (Nat × V) := [(0, .ptr 0 0), (1, .str c), (2, .slice 3 o n 1), (6, .int .u32 x)]
theorem xi_L {mode : Nat} {T : Nat → Option Bool} {D : Nat → Prop} (hD : ∀ i, D i → i ∈ [0, 1, 2, 3]) : LSound (C5 mode T) D 43 (mkL [0, 1, 2, 3] [lpXi]) xoBody :=
  LSound.of _ fun a ha fr h x fr' h' e => by
    rw [show loopsOf xoBody = [xiBody] by kernel_rfl] at ha
    have ha' : a = xiBody := by simpa using ha
    subst ha'
    exact mkL_sound hD (fun p hp _ => by
      have : p = lpXi := by simpa using hp
      subst this
      exact lpXi_holds hD) fr h x fr' h' e
/-- Xor: so many blocks from a place, a number on. -/
noncomputable def xorQ (R : Nat) (K : List Int) (c : List UInt8) : Nat → Nat → Nat → Int → List Int → List Int
  | 0, o, n, x, L => L
  | q + 1, o, n, x, L => xorQ R K c q (o + 16) (n - 16) (ctr1 x) (xs o (ksB R K c x) L (Nat.min n 16))
def ctrQ : Nat → Int → Int
  | 0, x => x
  | q + 1, x => ctrQ q (ctr1 x)
theorem xo_full (c : Nat → UInt8) (R : Nat) (K L : List Int) (h l : Int) (o n : Nat) (x : Int) : pickO (evC (C5 1 (Dt 12 true)) (mkL [0, 1, 2, 3] [lpXi]) 43 300 xoBody (frT (xoFr (tab 12 c) o (n + 16) x)) ⟨hpT (gcIn R K h l L), 30⟩) (keys (xoFr (tab 12 c) (o + 16) n (ctr1 x))) (keys (gcIn R K h l L)) =
    some (.normal, vals (xoFr (tab 12 c) (o + 16) n (ctr1 x)), vals (gcIn R K h l (xs o (ksB R K (tab 12 c) x) L 16)),
      andr (andr true ((n + 16).ble 9223372036854775807)) (andr (andr true (andr true (keyOk R K))) (andr (andr true ((n + 16).ble 9223372036854775807)) (andr (andr true (andr true (andr true (andr true (andr true (andr true ((o + (n + 16)).ble (len L)))))))) (andr true (andr true ((n + 16).ble (n + 16)))))))) := by kernel_rfl
theorem xo_part : AllLt (fun i => ∀ (c : Nat → UInt8) (R : Nat) (K L : List Int) (h l : Int) (o : Nat) (x : Int), pickO (evC (C5 1 (Dt 12 true)) (mkL [0, 1, 2, 3] [lpXi]) 43 300 xoBody (frT (xoFr (tab 12 c) o (i + 1) x)) ⟨hpT (gcIn R K h l L), 30⟩) (keys (xoFr (tab 12 c) (o + (i + 1)) 0 (ctr1 x))) (keys (gcIn R K h l L)) =
    some (.normal, vals (xoFr (tab 12 c) (o + (i + 1)) 0 (ctr1 x)), vals (gcIn R K h l (xs o (ksB R K (tab 12 c) x) L (i + 1))),
      andr true (andr (andr true (andr true (keyOk R K))) (andr true (andr true (andr true (andr true (andr true (andr true (andr true ((o + (i + 1)).ble (len L)))))))))))) 15 := by
  repeat (first | exact trivial | refine ⟨?_, fun c R K L h l o x => by kernel_rfl⟩)
theorem xo_last (c : List UInt8) (R : Nat) (K L : List Int) (h l : Int) (o : Nat) (x : Int) : pickO (evC (C5 1 (fun _ => none)) (mkL [0, 1, 2, 3] [lpXi]) 43 300 xoBody (frT (xoFr c o 0 x)) ⟨hpT (gcIn R K h l L), 30⟩) (keys (xoFr c o 0 x)) (keys (gcIn R K h l L)) =
    some (.exit 0, vals (xoFr c o 0 x), vals (gcIn R K h l L), true) := by kernel_rfl
theorem xoHp_ok (c : List UInt8) (R : Nat) (K L : List Int) (h l : Int) (o n : Nat) (x : Int) : okAll (xoFr c o n x) (gcIn R K h l L) [0, 1, 2, 3] = true := by kernel_rfl
theorem xo_rounds {mode : Nat} {T : Nat → Option Bool} {D : Nat → Prop} (hD : ∀ i, D i → i ∈ [0, 1, 2, 3]) (c : Nat → UInt8) (R : Nat) (K : List Int) (h l : Int) (hK : keyOk R K = true) : ∀ (q o n : Nat) (x : Int) (L : List Int), n ≤ 9223372036854775807 → o + n ≤ len L → (n + 15) / 16 = q →
    RSpec (C5 mode T) D 43 xoBody (frT (xoFr (tab 12 c) o n x)).get (hpT (gcIn R K h l L)).get (.exit 0) (frT (xoFr (tab 12 c) (o + n) 0 (ctrQ q x))).get (hpT (gcIn R K h l (xorQ R K (tab 12 c) q o n x L))).get
  | 0, o, n, x, L, h1, h2, h3 => by
    have hn : n = 0 := by omega
    subst hn
    exact RSpec.last (by simp) (CSpec.ev (l' := xoFr (tab 12 c) o 0 x) (m' := gcIn R K h l L) (C5_sound 1 (fun _ => none)) [0, 1, 2, 3] (xi_L hD) (xo_last (tab 12 c) R K L h l o x) rfl hD (xoHp_ok _ R K L h l o 0 x))
  | q + 1, o, n, x, L, h1, h2, h3 => by
    rcases Nat.lt_or_ge n 16 with hn | hn
    · have hq : q = 0 := by omega
      subst hq
      obtain ⟨i, rfl⟩ : ∃ i, n = i + 1 := ⟨n - 1, by omega⟩
      have hm : Nat.min (i + 1) 16 = i + 1 := Nat.min_eq_left (by omega)
      have st := CSpec.ev (l' := xoFr (tab 12 c) (o + (i + 1)) 0 (ctr1 x)) (m' := gcIn R K h l (xs o (ksB R K (tab 12 c) x) L (i + 1))) (C5_sound 1 (Dt 12 true)) [0, 1, 2, 3] (xi_L hD) (xo_part.get i (by omega) c R K L h l o x) (by
        rw [hK]; simp only [andr_true, ble_true]; (repeat' apply And.intro) <;> first | trivial | omega) hD (xoHp_ok _ R K _ h l _ _ _)
      have la := RSpec.last (C := C5 mode T) (by simp) (CSpec.ev (l' := xoFr (tab 12 c) (o + (i + 1)) 0 (ctr1 x)) (m' := gcIn R K h l (xs o (ksB R K (tab 12 c) x) L (i + 1))) (C5_sound 1 (fun _ => none)) [0, 1, 2, 3] (xi_L hD) (xo_last (tab 12 c) R K (xs o (ksB R K (tab 12 c) x) L (i + 1)) h l (o + (i + 1)) (ctr1 x)) rfl hD (xoHp_ok _ R K _ h l _ 0 _))
      simp only [xorQ, ctrQ, hm]
      exact RSpec.step st la
    · obtain ⟨n', rfl⟩ : ∃ n', n = n' + 16 := ⟨n - 16, by omega⟩
      have hm : Nat.min (n' + 16) 16 = 16 := Nat.min_eq_right (by omega)
      have st := CSpec.ev (l' := xoFr (tab 12 c) (o + 16) n' (ctr1 x)) (m' := gcIn R K h l (xs o (ksB R K (tab 12 c) x) L 16)) (C5_sound 1 (Dt 12 true)) [0, 1, 2, 3] (xi_L hD) (xo_full c R K L h l o n' x) (by
        rw [hK]; simp only [andr_true, ble_true]; (repeat' apply And.intro) <;> first | trivial | omega) hD (xoHp_ok _ R K _ h l _ _ _)
      have r := xo_rounds (mode := mode) (T := T) hD c R K h l hK q (o + 16) n' (ctr1 x) (xs o (ksB R K (tab 12 c) x) L 16) (by omega) (by rw [xs_len]; omega) (by omega)
      rw [show o + 16 + n' = o + (n' + 16) by omega] at r
      simp only [xorQ, ctrQ, hm, Nat.add_sub_cancel]
      exact RSpec.step st r
noncomputable def lpXo : LP := { id := 1, ts := [0, 1, 2, 6], is := [0, 1, 2, 3], F := fun vs bs => match vs, bs with
  | [.ptr 0 0, .str c, .slice 3 o n 1, .int .u32 x], [.vals [.ptr 1 0, .int .u64 h, .int .u64 l], .vals cl, .ints .u8 K, .ints .u8 L] => match cellsP cl sboxI with
    | some (b, R) => some (.exit 0, xoFr c (o + n) 0 (ctrQ ((n + 15) / 16) x), gcIn R K h l (xorQ R K c ((n + 15) / 16) o n x L), 400, andr (Nat.beq b 2) (andr (Nat.beq (len c) 12) (andr (keyOk R K) (andr (Nat.ble n 9223372036854775807) (Nat.ble (o + n) (len L))))))
    | none => none
  | _, _ => none }
theorem lpXo_holds {mode : Nat} {T : Nat → Option Bool} {D : Nat → Prop} (hD : ∀ i, D i → i ∈ [0, 1, 2, 3]) : lpXo.Holds (C5 mode T) D 43 xoBody := by
  intro vs bs x l' m' nx e
  simp only [lpXo] at e
  split at e
  · rename_i c o n x h l cl K L
    split at e
    · rename_i b R hR
      simp only [Option.some.injEq, Prod.mk.injEq, beq_true, ble_true, andr_true] at e
      obtain ⟨rfl, rfl, rfl, rfl, h1, h2, h3, h4, h5⟩ := e
      have := xo_rounds (mode := mode) (T := T) hD (gd8 c) R K h l h3 ((n + 15) / 16) o n x L h4 h5 rfl
      rw [tab_gd8 c 12 h2] at this
      rw [cellsP_eq _ _ hR, h1]
      exact this
    · cases e
  · cases e
theorem xor_L {mode : Nat} {T : Nat → Option Bool} {D : Nat → Prop} (hD : ∀ i, D i → i ∈ [0, 1, 2, 3]) : LSound (C5 mode T) D 43 (mkL [0, 1, 2, 3] [lpXo]) (bodyOf Try.f11) :=
  LSound.of _ fun a ha fr h x fr' h' e => by
    rw [show loopsOf (bodyOf Try.f11) = [xoBody, xiBody] by kernel_rfl] at ha
    have ha' : a = xoBody ∨ a = xiBody := by simpa using ha
    refine mkL_sound hD (fun p hp hid => ?_) fr h x fr' h' e
    have : p = lpXo := by simpa using hp
    subst this
    have i1 : firstId xiBody = 6 := by kernel_rfl
    rcases ha' with rfl | rfl
    · exact lpXo_holds hD
    · rw [i1] at hid; cases hid
noncomputable def xorA (R : Nat) (K : List Int) (c : List UInt8) (L : List Int) (o n : Nat) : List Int := xorQ R K c ((n + 15) / 16) o n 2 L
theorem xor_spec (R : Nat) (K : List Int) (h l : Int) (nonce : List UInt8) (L : List Int) (o n : Nat) (hN : len nonce = 12) (hK : keyOk R K = true) (hn : n ≤ 9223372036854775807) (hL : o + n ≤ len L) :
    FSpec Try.prog 11 [.ptr 0 0, .str nonce, .slice 3 o n 1] ⟨hpT (gcIn R K h l L), 0⟩ (.tuple []) ⟨hpT (gcIn R K h l (xorA R K nonce L o n)), 0⟩ :=
  FSpec.ev (C := C5 1 (fun _ => none)) (fn := Try.f11) (c := bodyOf Try.f11) (L := mkL [0, 1, 2, 3] [lpXo]) (fuel := 300) (nx := 4) (m0 := gcIn R K h l L) (m1 := gcIn R K h l (xorA R K nonce L o n))
    (k := andr true (andr (andr true (andr (Nat.beq (len nonce) 12) (andr (keyOk R K) (andr (Nat.ble n 9223372036854775807) (Nat.ble (o + n) (len L)))))) true)) (C5_sound _ _) (by kernel_rfl) (by kernel_rfl) (xor_L gcIn_dom) (by kernel_rfl) (by
      rw [hK]; simp only [andr_true, ble_true, beq_true]; (repeat' apply And.intro) <;> first | trivial | omega) (by kernel_rfl)
end Ev
end Go
