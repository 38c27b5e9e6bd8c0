/- gcm: Tag; Xor's inner loop. -/
import Derived.Test.YtjhlhihmdnifnaaGcmV
set_option linter.unusedVariables false
namespace Go
namespace Ev
open Go.Proofs
/-- gcm's cipher: its block, aes's, its keys, the data. -/
noncomputable def gcIn (R : Nat) (K : List Int) (h l : Int) (L : List Int) : List (Nat × Blk) := [(0, .vals [.ptr 1 0, .int .u64 h, .int .u64 l]), (1, .vals (cellsA 2 R)), (2, .ints .u8 K), (3, .ints .u8 L)]
def lenB (n : Nat) : Int := .ofNat (nn (.ofNat (tm .u64 (.ofNat n))) * 8 % 18446744073709551616)
def xor16 (A B : List Int) : List Int := [ixor .u8 (gd A 0) (gd B 0), ixor .u8 (gd A 1) (gd B 1), ixor .u8 (gd A 2) (gd B 2), ixor .u8 (gd A 3) (gd B 3), ixor .u8 (gd A 4) (gd B 4), ixor .u8 (gd A 5) (gd B 5), ixor .u8 (gd A 6) (gd B 6), ixor .u8 (gd A 7) (gd B 7),
  ixor .u8 (gd A 8) (gd B 8), ixor .u8 (gd A 9) (gd B 9), ixor .u8 (gd A 10) (gd B 10), ixor .u8 (gd A 11) (gd B 11), ixor .u8 (gd A 12) (gd B 12), ixor .u8 (gd A 13) (gd B 13), ixor .u8 (gd A 14) (gd B 14), ixor .u8 (gd A 15) (gd B 15)]
/-- GHASH of what stands beside, the text, their lengths. -/
def ghM (h l : Int) (s : List UInt8) (L : List Int) (o n : Nat) : List Int := addM (allM (allM (newM h l) (toI s) 0 (len s)) L o n) (bytesI (lenB (len s)) (lenB n)) 0
/-- A key's stream: the block of a nonce, a number. -/
noncomputable def ksB (R : Nat) (K : List Int) (nonce : List UInt8) (x : Int) : List Int := encE R K (app (toI nonce) (ctrI x))
noncomputable def tagM (R : Nat) (K : List Int) (h l : Int) (nonce s : List UInt8) (L : List Int) (o n : Nat) : List Int :=
  xor16 (bytesI (gd (ghM h l s L o n) 48) (gd (ghM h l s L o n) 49)) (ksB R K nonce 1)
theorem toI_len : ∀ s : List UInt8, len (toI s) = len s
  | [] => rfl
  | b :: l => congrArg (· + 1) (toI_len l)
theorem gcIn_dom {R : Nat} {K : List Int} {h l : Int} {L : List Int} : ∀ i, (hpT (gcIn R K h l L)).get i ≠ none → i ∈ [0, 1, 2, 3] := fun i hi => by
  cases hg : (hpT (gcIn R K h l L)).get i with
  | none => exact absurd hg hi
  | some c =>
    have := look_keys (hpT_get hg)
    simpa [gcIn, keys] using this
theorem newM_len (h l : Int) : len (newM h l) = 50 := by kernel_rfl
theorem tag_ev (R : Nat) (K : List Int) (h l : Int) (c : Nat → UInt8) (s : List UInt8) (L : List Int) (o n : Nat) (hK : keyOk R K = true) (hs : len s ≤ 9223372036854775807) (hn : n ≤ 9223372036854775807) (hL : o + n ≤ len L) :
    FSpec Try.prog 12 [.ptr 0 0, .str (tab 12 c), .str s, .slice 3 o n 1] ⟨hpT (gcIn R K h l L), 0⟩ (.str (ofI (tagM R K h l (tab 12 c) s L o n))) ⟨hpT (gcIn R K h l L), 0⟩ :=
  FSpec.ev (C := C5 1 (fun _ => none)) (fn := Try.f12) (c := bodyOf Try.f12) (L := noL) (fuel := 300) (nx := 4) (m0 := gcIn R K h l L) (m1 := gcIn R K h l L)
    (k := andr true (andr true (andr (andr true (andr true (andr ((len s).ble 9223372036854775807) ((0 + len s).ble (len (toI s)))))) (andr (andr true (andr ((len (allM (newM h l) (toI s) 0 (len s))).beq 50) (andr (n.ble 9223372036854775807) ((o + n).ble (len L))))) (andr (andr (andr true ((len s).ble 9223372036854775807)) (n.ble 9223372036854775807)) (andr true (andr (andr true ((len (allM (allM (newM h l) (toI s) 0 (len s)) L o n)).beq 50)) (andr (andr true (Nat.ble 50 (len (ghM h l s L o n)))) (andr true (andr true (keyOk R K)))))))))))
    (C5_sound _ _) (by kernel_rfl) (by kernel_rfl) (LSound.none _) (by kernel_rfl) (by
      have h1 : len (allM (newM h l) (toI s) 0 (len s)) = 50 := allM_len _ _ _ _ (newM_len h l)
      have h2 : len (allM (allM (newM h l) (toI s) 0 (len s)) L o n) = 50 := allM_len _ _ _ _ h1
      have h3 : len (ghM h l s L o n) = 50 := addM_len _ _ _ h2
      rw [h1, h2, h3, hK, toI_len]
      simp only [andr_true, ble_true, beq_true]
      (repeat' apply And.intro) <;> first | trivial | omega) (by kernel_rfl)
theorem tag_spec (R : Nat) (K : List Int) (h l : Int) (nonce : List UInt8) (s : List UInt8) (L : List Int) (o n : Nat) (hN : len nonce = 12) (hK : keyOk R K = true) (hs : len s ≤ 9223372036854775807) (hn : n ≤ 9223372036854775807) (hL : o + n ≤ len L) :
    FSpec Try.prog 12 [.ptr 0 0, .str nonce, .str s, .slice 3 o n 1] ⟨hpT (gcIn R K h l L), 0⟩ (.str (ofI (tagM R K h l nonce s L o n))) ⟨hpT (gcIn R K h l L), 0⟩ := by
  have := tag_ev R K h l (gd8 nonce) s L o n hK hs hn hL
  rw [tab_gd8 nonce 12 hN] at this
  exact this
/-! Xor: a block's bytes. -/
def xiFr (c : List UInt8) (o n : Nat) (x : Int) (m i : Nat) : List (Nat × V) := [(0, .ptr 0 0), (1, .str c), (2, .slice 3 o n 1), (6, .int .u32 x), (7, .ptr 41 0), (8, .int .i64 (.ofNat m)), (26, .int .i64 (.ofNat m)), (27, .int .i64 (.ofNat i))]
noncomputable def xiHp (R : Nat) (K : List Int) (h l : Int) (E L : List Int) : List (Nat × Blk) := (41, .ints .u8 E) :: gcIn R K h l L
noncomputable def xiBody : Code := (nth (loopsOf (bodyOf Try.f11)) 1).getD .skip
noncomputable def xoBody : Code := (nth (loopsOf (bodyOf Try.f11)) 0).getD .skip
noncomputable def Dt (s : Nat) (b : Bool) (t : Nat) : Option Bool := cond (Nat.beq t s) (some b) none
def xs (o : Nat) (E L : List Int) : Nat → List Int
  | 0 => L
  | i + 1 => set1 (xs o E L i) (o + i * 1) (ixor .u8 (gd (xs o E L i) (o + i * 1)) (gd E (0 + i * 1)))
theorem xs_len (o : Nat) (E L : List Int) : ∀ i, len (xs o E L i) = len L
  | 0 => rfl
  | i + 1 => by show len (set1 _ _ _) = _; rw [set1_len]; exact xs_len o E L i
theorem xi_step (c : List UInt8) (R : Nat) (K L E : List Int) (h l : Int) (o n : Nat) (x : Int) (m i : Nat) : pickO (evC (C5 1 (Dt 28 true)) noL 43 300 xiBody (frT (xiFr c o n x m i)) ⟨hpT (xiHp R K h l E L), 60⟩) (keys (xiFr c o n x m (i + 1))) (keys (xiHp R K h l E L)) =
    some (.normal, vals (xiFr c o n x m (i + 1)), vals (xiHp R K h l E (set1 L (o + i * 1) (ixor .u8 (gd L (o + i * 1)) (gd E (0 + i * 1))))),
      andr true (andr (!ile (Int.ofNat m) (Int.ofNat i)) (andr (andr true (andr (andr (andr (andr (andr (andr true (andr true (i.blt n))) ((o + i * 1).blt (len L))) (andr true (i.blt 16))) ((0 + i * 1).blt (len E))) (andr true (i.blt n))) ((o + i * 1).blt (len L)))) (andr true (fit IntKind.i64 (Int.ofNat (i + 1))))))) := by kernel_rfl
theorem xi_last (c : List UInt8) (R : Nat) (K L E : List Int) (h l : Int) (o n : Nat) (x : Int) (m i : Nat) : pickO (evC (C5 1 (Dt 28 false)) noL 43 300 xiBody (frT (xiFr c o n x m i)) ⟨hpT (xiHp R K h l E L), 60⟩) (keys (xiFr c o n x m i)) (keys (xiHp R K h l E L)) =
    some (.exit 2, vals (xiFr c o n x m i), vals (xiHp R K h l E L), andr true !!ile (Int.ofNat m) (Int.ofNat i)) := by kernel_rfl
theorem xiHp_ok (c : List UInt8) (R : Nat) (K L E : List Int) (h l : Int) (o n : Nat) (x : Int) (m i : Nat) : okAll (xiFr c o n x m i) (xiHp R K h l E L) [0, 1, 2, 3] = true := by kernel_rfl
theorem C5_mode {mode : Nat} {D T : Nat → Option Bool} {E : Nat → Prop} {nt : Nat} {c : Code} {f f' : Nat → Option V} {g g' : Nat → Option Blk} {x : X} (h : RSpec (C5 1 D) E nt c f g x f' g') : RSpec (C5 mode T) E nt c f g x f' g' := h
theorem xi_rounds {T : Nat → Option Bool} {mode : Nat} {D : Nat → Prop} (hD : ∀ i, D i → i ∈ [0, 1, 2, 3]) (c : List UInt8) (R : Nat) (K L E : List Int) (h l : Int) (o n : Nat) (x : Int) (m : Nat) (hE : len E = 16) (hm : m ≤ 16) (hmn : m ≤ n) (hL : o + n ≤ len L) :
    RSpec (C5 mode T) D 43 xiBody (frT (xiFr c o n x m 0)).get (hpT (xiHp R K h l E L)).get (.exit 2) (frT (xiFr c o n x m m)).get (hpT (xiHp R K h l E (xs o E L m))).get := by
  have hs : ∀ i, i < m → CSpec (C5 mode T) D 43 xiBody (frT (xiFr c o n x m i)).get (hpT (xiHp R K h l E (xs o E L i))).get .normal (frT (xiFr c o n x m (i + 1))).get (hpT (xiHp R K h l E (xs o E L (i + 1)))).get := fun i hi => by
    refine CSpec.ev (l' := xiFr c o n x m (i + 1)) (m' := xiHp R K h l E (xs o E L (i + 1))) (C5_sound 1 (Dt 28 true)) [0, 1, 2, 3] (LSound.none _) (xi_step c R K (xs o E L i) E h l o n x m i) ?_ hD (xiHp_ok c R K _ E h l o n x m _)
    rw [ile_nat, ble_false hi, fit_i64 (by omega), hE, xs_len]
    simp only [andr_true, blt_true]
    (repeat' apply And.intro) <;> first | trivial | omega | rfl
  refine RSpec.count (f := fun i => (frT (xiFr c o n x m i)).get) (g := fun i => (hpT (xiHp R K h l E (xs o E L i))).get) (by simp) hs
    (CSpec.ev (l' := xiFr c o n x m m) (m' := xiHp R K h l E (xs o E L m)) (C5_sound 1 (Dt 28 false)) [0, 1, 2, 3] (LSound.none _) (xi_last c R K (xs o E L m) E h l o n x m m) ?_ hD (xiHp_ok c R K _ E h l o n x m _)) m 0 (Nat.zero_add _)
  rw [ile_nat, show Nat.ble m m = true from ble_true.2 (Nat.le_refl _)]; rfl
end Ev
end Go
