/- gcm: may, New, and all as oracles. -/
import Derived.Test.YtjhlhihmdnifnaaGcmX
set_option linter.unusedVariables false
namespace Go
namespace Ev
open Go.Proofs
def mayB (nonce aad : List UInt8) (most long : Int) : Bool := cond (Nat.beq (len nonce) 12) (cond (Nat.ble (len aad) 65536) (ile long most) false) false
noncomputable def CM (D : Nat → Option Bool) : Cfg := { P := Try.prog, OV := OV2, O := fun _ _ _ => none, D := D }
theorem CM_sound (D : Nat → Option Bool) : Sound (CM D) := ⟨(C1_sound).mixed, (fun _ _ _ _ _ _ e => nomatch e), OV2_sound⟩
noncomputable def DM (a b : Bool) (t : Nat) : Option Bool := cond (Nat.beq t 12) (some a) (cond (Nat.beq t 17) (some b) none)
theorem ieq_nat (a b : Nat) : ieq (.ofNat a) (.ofNat b) = Nat.beq a b := rfl
theorem may_spec (n a : List UInt8) (x y : Int) (hn : len n ≤ 9223372036854775807) (ha : len a ≤ 9223372036854775807) : VSpec Try.prog 10 [.str n, .str a, .int .i64 x, .int .i64 y] (.bool (mayB n a x y)) := by
  unfold mayB
  cases h1 : Nat.beq (len n) 12 <;> simp only [cond_true, cond_false]
  · exact VSpec.ev (C := CM (DM false false)) (fn := Try.f10) (c := bodyOf Try.f10) (L := noL) (fuel := 100) (d := 9) (nx := 0)
      (k := andr true (andr (andr (andr (andr (andr true ((len n).ble 9223372036854775807)) !ieq (Int.ofNat (len n)) (Int.ofNat 12)) !ieq (Int.ofNat (len n)) (Int.ofNat 12)) !ieq (Int.ofNat (len n)) (Int.ofNat 12)) !ieq (Int.ofNat (len n)) (Int.ofNat 12)))
      (CM_sound _) (by kernel_rfl) (by kernel_rfl) (LSound.none _) (by kernel_rfl) (by simp only [ieq_nat, h1, andr_true, ble_true, Bool.not_false]; simp only [hn, and_self]) rfl
  cases h2 : Nat.ble (len a) 65536 <;> simp only [cond_true, cond_false]
  · exact VSpec.ev (C := CM (DM true false)) (fn := Try.f10) (c := bodyOf Try.f10) (L := noL) (fuel := 100) (d := 9) (nx := 0)
      (k := andr true (andr (andr (andr (andr (andr (andr (andr (andr (andr (andr true ((len n).ble 9223372036854775807)) (ieq (Int.ofNat (len n)) (Int.ofNat 12))) (ieq (Int.ofNat (len n)) (Int.ofNat 12))) ((len a).ble 9223372036854775807)) (ieq (Int.ofNat (len n)) (Int.ofNat 12))) (ieq (Int.ofNat (len n)) (Int.ofNat 12))) !ile (Int.ofNat (len a)) (Int.ofNat 65536)) !ile (Int.ofNat (len a)) (Int.ofNat 65536)) !ile (Int.ofNat (len a)) (Int.ofNat 65536)) !ile (Int.ofNat (len a)) (Int.ofNat 65536)))
      (CM_sound _) (by kernel_rfl) (by kernel_rfl) (LSound.none _) (by kernel_rfl) (by simp only [ieq_nat, ile_nat, h1, h2, andr_true, Bool.not_false]; simp only [ble_true, hn, ha, and_self]) rfl
  · exact VSpec.ev (C := CM (DM true true)) (fn := Try.f10) (c := bodyOf Try.f10) (L := noL) (fuel := 100) (d := 9) (nx := 0)
      (k := andr true (andr (andr (andr (andr (andr (andr (andr (andr (andr (andr true ((len n).ble 9223372036854775807)) (ieq (Int.ofNat (len n)) (Int.ofNat 12))) (ieq (Int.ofNat (len n)) (Int.ofNat 12))) ((len a).ble 9223372036854775807)) (ieq (Int.ofNat (len n)) (Int.ofNat 12))) (ieq (Int.ofNat (len n)) (Int.ofNat 12))) (ile (Int.ofNat (len a)) (Int.ofNat 65536))) (ile (Int.ofNat (len a)) (Int.ofNat 65536))) (ile (Int.ofNat (len a)) (Int.ofNat 65536))) (ile (Int.ofNat (len a)) (Int.ofNat 65536))))
      (CM_sound _) (by kernel_rfl) (by kernel_rfl) (LSound.none _) (by kernel_rfl) (by simp only [ieq_nat, ile_nat, h1, h2, andr_true]; simp only [ble_true, hn, ha, and_self]) rfl
noncomputable def OV3 (f : Nat) (args : List V) : Option (V × Bool) := cond (Nat.beq f 10) (match args with
  | [.str n, .str a, .int .i64 x, .int .i64 y] => some (.bool (mayB n a x y), andr (Nat.ble (len n) 9223372036854775807) (Nat.ble (len a) 9223372036854775807))
  | _ => none) (OV2 f args)
theorem OV3_sound : ∀ f args v, OV3 f args = some (v, true) → Callable Try.prog f ∧ VSpec Try.prog f args v := by
  intro f args v e
  unfold OV3 at e
  cases h : Nat.beq f 10 <;> rw [h] at e <;> simp only [cond_true, cond_false] at e
  · exact OV2_sound f args v e
  · rw [beq_true.1 h]
    split at e
    · simp only [Option.some.injEq, Prod.mk.injEq, andr_true, ble_true] at e
      obtain ⟨rfl, h1, h2⟩ := e
      exact ⟨callable (fn := Try.f10) (by kernel_rfl) (by kernel_rfl) (by kernel_rfl), may_spec _ _ _ _ h1 h2⟩
    · cases e
noncomputable def hE (R : Nat) (K : List Int) : List Int := encE R K Z16
noncomputable def hH (R : Nat) (K : List Int) : Int := ldI (hE R K) 0 0 8
noncomputable def hL (R : Nat) (K : List Int) : Int := ldI (hE R K) 0 8 8
noncomputable def gnHp (R : Nat) (K : List Int) : List (Nat × Blk) := [(9, .vals (cellsA 10 R)), (10, .ints .u8 K), (22, .vals [.ptr 9 0, .int .u64 (hH R K), .int .u64 (hL R K)])]
theorem gnew16 (s : List UInt8) (h : len s = 16) : FSpec Try.prog 9 [.str s] ⟨hpT [], 0⟩ (.tuple [.ptr 22 0, .bool true]) ⟨hpT (gnHp 11 (keysL 4 s)), 0⟩ :=
  FSpec.ev (C := C5 1 (fun _ => none)) (fn := Try.f9) (c := bodyOf Try.f9) (L := noL) (fuel := 300) (nx := 0) (m0 := []) (m1 := gnHp 11 (keysL 4 s))
    (k := andr true (andr true ((len s).beq 16))) (C5_sound _ _) (by kernel_rfl) (by kernel_rfl) (LSound.none _) (by kernel_rfl) (by rw [h]; rfl) (by kernel_rfl)
theorem gnew32 (s : List UInt8) (h : len s = 32) : FSpec Try.prog 9 [.str s] ⟨hpT [], 0⟩ (.tuple [.ptr 22 0, .bool true]) ⟨hpT (gnHp 15 (keysL 8 s)), 0⟩ :=
  FSpec.ev (C := C5 2 (fun _ => none)) (fn := Try.f9) (c := bodyOf Try.f9) (L := noL) (fuel := 300) (nx := 0) (m0 := []) (m1 := gnHp 15 (keysL 8 s))
    (k := andr true (andr true ((len s).beq 32))) (C5_sound _ _) (by kernel_rfl) (by kernel_rfl) (LSound.none _) (by kernel_rfl) (by rw [h]; rfl) (by kernel_rfl)
theorem gnew_no (s : List UInt8) (h0 : len s ≤ 9223372036854775807) (h1 : len s ≠ 16) (h2 : len s ≠ 32) : FSpec Try.prog 9 [.str s] ⟨hpT [], 0⟩ (.tuple [.nilptr, .bool false]) ⟨hpT [], 0⟩ :=
  FSpec.ev (C := C5 0 (fun _ => none)) (fn := Try.f9) (c := bodyOf Try.f9) (L := noL) (fuel := 300) (nx := 0) (m0 := []) (m1 := [])
    (k := andr true (andr true (andr ((len s).ble 9223372036854775807) (andr (!(len s).beq 16) !(len s).beq 32)))) (C5_sound _ _) (by kernel_rfl) (by kernel_rfl) (LSound.none _) (by kernel_rfl)
    (by simp only [andr_true, ble_true, Bool.not_eq_true', beq_iff_false]; simp only [h0, h1, h2, ne_eq, not_false_eq_true, and_self]) (by kernel_rfl)
/-- gcm.New, as one looks at its key's length. -/
noncomputable def gnOut (h : H) (R : Nat) (K : List Int) : List (Nat × Blk) := [(h.nx, .vals (cellsA (h.nx + 1) R)), (h.nx + 1, .ints .u8 K), (h.nx + 2, .vals [.ptr h.nx 0, .int .u64 (hH R K), .int .u64 (hL R K)])]
noncomputable def gnOr (mode : Nat) (args : List V) (h : H) : Option (V × List (Nat × Blk) × Nat × Bool) := match args with
  | [.str s] => cond (Nat.beq mode 0) (some (.tuple [.nilptr, .bool false], [], h.nx, andr (Nat.ble (len s) 9223372036854775807) (andr (not (Nat.beq (len s) 16)) (not (Nat.beq (len s) 32)))))
      (cond (Nat.beq mode 1) (some (.tuple [.ptr (h.nx + 2) 0, .bool true], gnOut h 11 (keysL 4 s), h.nx + 3, andr (Nat.beq (len s) 16) (embOk [(9, h.nx), (10, h.nx + 1), (22, h.nx + 2)] [] (gnHp 11 (keysL 4 s)) h)))
        (some (.tuple [.ptr (h.nx + 2) 0, .bool true], gnOut h 15 (keysL 8 s), h.nx + 3, andr (Nat.beq (len s) 32) (embOk [(9, h.nx), (10, h.nx + 1), (22, h.nx + 2)] [] (gnHp 15 (keysL 8 s)) h))))
  | _ => none
theorem gnHp_ok (R : Nat) (K : List Int) : okAll [(0, .tuple [.ptr 22 0, .bool true])] (gnHp R K) [] = true := by kernel_rfl
theorem gnHp_rel (h : H) (R : Nat) (K : List Int) : relM [(9, h.nx), (10, h.nx + 1), (22, h.nx + 2)] (gnHp R K) = gnOut h R K := by
  show [(h.nx, relB _ (.vals (cellsA 10 R))), (h.nx + 1, Blk.ints .u8 K), (h.nx + 2, Blk.vals [.ptr h.nx 0, .int .u64 (hH R K), .int .u64 (hL R K)])] = _
  have : relB (rn [(9, h.nx), (10, h.nx + 1), (22, h.nx + 2)]) (.vals (cellsA 10 R)) = .vals (cellsA (h.nx + 1) R) := by
    show Blk.vals (relL (relN _ 5) (cellsA 10 R)) = _
    rw [cellsA, relL_ints]; rfl
  rw [this]; rfl
theorem gnOr_sound (mode : Nat) : ∀ args h v l n, gnOr mode args h = some (v, l, n, true) → FSpec Try.prog 9 args h v ⟨putAll h.bs l, n⟩ := by
  intro args h v l n e
  unfold gnOr at e
  split at e
  · rename_i s
    cases h0 : Nat.beq mode 0 <;> simp only [h0, cond_true, cond_false] at e
    · cases h1 : Nat.beq mode 1 <;> simp only [h1, cond_true, cond_false] at e
      · simp only [Option.some.injEq, Prod.mk.injEq, andr_true, beq_true] at e
        obtain ⟨rfl, rfl, rfl, hs, ho⟩ := e
        have := FSpec.embedL (gnew32 s hs) (by kernel_rfl) (by kernel_rfl) (gnHp_ok _ _) [(9, h.nx), (10, h.nx + 1), (22, h.nx + 2)] (h := h) (h.nx + 3) trivial ho
        rw [gnHp_rel] at this
        exact this
      · simp only [Option.some.injEq, Prod.mk.injEq, andr_true, beq_true] at e
        obtain ⟨rfl, rfl, rfl, hs, ho⟩ := e
        have := FSpec.embedL (gnew16 s hs) (by kernel_rfl) (by kernel_rfl) (gnHp_ok _ _) [(9, h.nx), (10, h.nx + 1), (22, h.nx + 2)] (h := h) (h.nx + 3) trivial ho
        rw [gnHp_rel] at this
        exact this
    · simp only [Option.some.injEq, Prod.mk.injEq, andr_true, ble_true, Bool.not_eq_true', beq_iff_false] at e
      obtain ⟨rfl, rfl, rfl, h1, h2, h3⟩ := e
      exact FSpec.embedL (gnew_no s h1 h2 h3) (by kernel_rfl) (by kernel_rfl) (by kernel_rfl) [] (h := h) h.nx trivial (by kernel_rfl)
  · cases e
/-- gcm's cipher in memory. -/
noncomputable def gcRd (h : H) (g b : Nat) : Option (Nat × Nat × Nat × List Int × Int × Int × List Int) := match h.bs.get g with
  | some (.vals [.ptr a 0, .int .u64 x, .int .u64 y]) => match h.bs.get a with
    | some (.vals l) => match cellsP l sboxI with
      | some (k, R) => match h.bs.get k, h.bs.get b with
        | some (.ints .u8 K), some (.ints .u8 L) => some (a, k, R, K, x, y, L)
        | _, _ => none
      | none => none
    | _ => none
  | _ => none
theorem gcRd_eq {h : H} {g b a k R : Nat} {K L : List Int} {x y : Int} (e : gcRd h g b = some (a, k, R, K, x, y, L)) : At0 [(0, g), (1, a), (2, k), (3, b)] h (gcIn R K x y L) := by
  unfold gcRd at e
  split at e
  · rename_i a' x' y' h1
    split at e
    · rename_i l h2
      split at e
      · rename_i k' R' h3
        split at e
        · rename_i K' L' h4 h5
          cases e
          have rel : relB (rn [(0, g), (1, a), (2, k), (3, b)]) (.vals (cellsA 2 R)) = .vals (cellsA k R) := by
            show Blk.vals (relL (relN _ 5) (cellsA 2 R)) = _
            rw [cellsA, relL_ints]; rfl
          exact ⟨h1, by rw [rel, show rn [(0, g), (1, a), (2, k), (3, b)] 1 = a from rfl, h2, cellsP_eq _ _ h3]; rfl, h4, h5, trivial⟩
        · cases e
      · cases e
    · cases e
  · cases e
noncomputable def tagOr (args : List V) (h : H) : Option (V × List (Nat × Blk) × Nat × Bool) := match args with
  | [.ptr g 0, .str c, .str s, .slice b o n 1] => match gcRd h g b with
    | some (a, k, R, K, x, y, L) => some (.str (ofI (tagM R K x y c s L o n)), [], h.nx, andr (Nat.beq (len c) 12) (andr (keyOk R K) (andr (Nat.ble (len s) 9223372036854775807) (andr (Nat.ble n 9223372036854775807) (andr (Nat.ble (o + n) (len L)) (distinctB [g, a, k, b]))))))
    | none => none
  | _ => none
theorem gcIn_ok (R : Nat) (K L : List Int) (x y : Int) : okBs (hasT (hpT (gcIn R K x y L))) (gcIn R K x y L) = true := by kernel_rfl
theorem gcIn_ok1 (R : Nat) (K L L' : List Int) (x y : Int) (s : List UInt8) : okAll [(0, .str s)] (gcIn R K x y L) (keys (gcIn R K x y L')) = true := by kernel_rfl
theorem gcIn_ok2 (R : Nat) (K L L' : List Int) (x y : Int) : okAll [(0, .tuple [])] (gcIn R K x y L) (keys (gcIn R K x y L')) = true := by kernel_rfl
theorem tagOr_sound : ∀ args h v l n, tagOr args h = some (v, l, n, true) → FSpec Try.prog 12 args h v ⟨putAll h.bs l, n⟩ := by
  intro args h v l n e
  unfold tagOr at e
  split at e
  · rename_i g c s b o m
    split at e
    · rename_i a k R K x y L he
      simp only [Option.some.injEq, Prod.mk.injEq, andr_true, beq_true, ble_true] at e
      obtain ⟨rfl, rfl, rfl, h1, h2, h3, h4, h5, h6⟩ := e
      exact FSpec.embed0 (tag_spec R K x y c s L o m h1 h2 h3 h4 h5) (by kernel_rfl) (gcIn_ok R K L x y) (gcIn_ok1 R K L L x y _) [(0, g), (1, a), (2, k), (3, b)] h.nx (gcRd_eq he) h6
    · cases e
  · cases e
noncomputable def xorOr (args : List V) (h : H) : Option (V × List (Nat × Blk) × Nat × Bool) := match args with
  | [.ptr g 0, .str c, .slice b o n 1] => match gcRd h g b with
    | some (a, k, R, K, x, y, L) => some (.tuple [], relM [(0, g), (1, a), (2, k), (3, b)] (gcIn R K x y (xorA R K c L o n)), h.nx, andr (Nat.beq (len c) 12) (andr (keyOk R K) (andr (Nat.ble n 9223372036854775807) (andr (Nat.ble (o + n) (len L)) (embOk [(0, g), (1, a), (2, k), (3, b)] (gcIn R K x y L) (gcIn R K x y (xorA R K c L o n)) h)))))
    | none => none
  | _ => none
theorem xorOr_sound : ∀ args h v l n, xorOr args h = some (v, l, n, true) → FSpec Try.prog 11 args h v ⟨putAll h.bs l, n⟩ := by
  intro args h v l n e
  unfold xorOr at e
  split at e
  · rename_i g c b o m
    split at e
    · rename_i a k R K x y L he
      simp only [Option.some.injEq, Prod.mk.injEq, andr_true, beq_true, ble_true] at e
      obtain ⟨rfl, rfl, rfl, h1, h2, h3, h4, h5⟩ := e
      exact FSpec.embedL (xor_spec R K x y c L o m h1 h2 h3 h4) (by kernel_rfl) (gcIn_ok R K L x y) (gcIn_ok2 R K _ L x y) [(0, g), (1, a), (2, k), (3, b)] h.nx (gcRd_eq he) h5
    · cases e
  · cases e
noncomputable def O6 (mode f : Nat) (args : List V) (h : H) : Option (V × List (Nat × Blk) × Nat × Bool) :=
  cond (Nat.beq f 9) (gnOr mode args h) (cond (Nat.beq f 12) (tagOr args h) (cond (Nat.beq f 11) (xorOr args h) (O5 mode f args h)))
theorem O6_sound (mode : Nat) : ∀ f args h v l n, O6 mode f args h = some (v, l, n, true) → Callable Try.prog f ∧ FSpec Try.prog f args h v ⟨putAll h.bs l, n⟩ := by
  intro f args h v l n e
  unfold O6 at e
  cases h9 : Nat.beq f 9 <;> rw [h9] at e <;> simp only [cond_true, cond_false] at e
  · cases h12 : Nat.beq f 12 <;> rw [h12] at e <;> simp only [cond_true, cond_false] at e
    · cases h11 : Nat.beq f 11 <;> rw [h11] at e <;> simp only [cond_true, cond_false] at e
      · exact O5_sound mode f args h v l n e
      · rw [beq_true.1 h11]
        exact ⟨callable (fn := Try.f11) (by kernel_rfl) (by kernel_rfl) (by kernel_rfl), xorOr_sound args h v l n e⟩
    · rw [beq_true.1 h12]
      exact ⟨callable (fn := Try.f12) (by kernel_rfl) (by kernel_rfl) (by kernel_rfl), tagOr_sound args h v l n e⟩
  · rw [beq_true.1 h9]
    exact ⟨callable (fn := Try.f9) (by kernel_rfl) (by kernel_rfl) (by kernel_rfl), gnOr_sound mode args h v l n e⟩
noncomputable def C6 (mode : Nat) (D : Nat → Option Bool) : Cfg := { P := Try.prog, OV := OV3, O := O6 mode, D := D }
theorem C6_sound (mode : Nat) (D : Nat → Option Bool) : Sound (C6 mode D) := ⟨(C1_sound).mixed, O6_sound mode, OV3_sound⟩
end Ev
end Go
