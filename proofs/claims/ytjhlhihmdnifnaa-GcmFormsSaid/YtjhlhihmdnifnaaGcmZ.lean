/- gcm: Seal, Open, Hash. -/
import Derived.Test.YtjhlhihmdnifnaaGcmY
set_option linter.unusedVariables false
namespace Go
namespace Ev
open Go.Proofs
noncomputable def sealS (R : Nat) (K : List Int) (n a s : List UInt8) : List UInt8 :=
  app (ofI (tk (drp (xorA R K n (toI s) 0 (len s)) 0) (len s))) (ofI (tagM R K (hH R K) (hL R K) n a (xorA R K n (toI s) 0 (len s)) 0 (len s)))
def op16 (s : List UInt8) : Nat := nn (Int.sub (.ofNat (len s)) (.ofNat 16))
def opC (s : List UInt8) : List UInt8 := tk (drp s 0) (op16 s - 0)
def opT (s : List UInt8) : List UInt8 := tk (drp s (op16 s)) (len s - op16 s)
noncomputable def openS (R : Nat) (K : List Int) (n s : List UInt8) : List UInt8 := ofI (tk (drp (xorA R K n (toI (opC s)) 0 (len (opC s))) 0) (len (opC s)))
noncomputable def openB (R : Nat) (K : List Int) (n a s : List UInt8) : Bool := seq8 (ofI (tagM R K (hH R K) (hL R K) n a (toI (opC s)) 0 (len (opC s)))) (opT s)
/-- The keys of a key, if it is one. -/
noncomputable def keyM (k : List UInt8) : Option (Nat × List Int) := cond (Nat.beq (len k) 16) (some (11, keysL 4 k)) (cond (Nat.beq (len k) 32) (some (15, keysL 8 k)) none)
def vE (e : Nat) : V := .tuple [.str [], .int .i64 (.ofNat e)]
def vS (s : List UInt8) : V := .tuple [.str s, .int .i64 (.ofNat 0)]
noncomputable def sealV (k n a s : List UInt8) : V := match keyM k with
  | some (R, K) => cond (mayB n a 65536 (.ofNat (len s))) (vS (sealS R K n a s)) (vE 500)
  | none => vE 500
noncomputable def openV (k n a s : List UInt8) : V := match keyM k with
  | some (R, K) => cond (mayB n a 65552 (.ofNat (len s))) (cond (Nat.ble 16 (len s)) (cond (openB R K n a s) (vS (openS R K n s)) (vE 501)) (vE 501)) (vE 500)
  | none => vE 500
noncomputable def DO (a b c : Bool) (t : Nat) : Option Bool := cond (Nat.beq t 28) (some a) (cond (Nat.beq t 33) (some b) (cond (Nat.beq t 46) (some c) none))
noncomputable def hashS (h s : List UInt8) : List UInt8 := ofI (bytesI (gd (allM (newM (ldI (toI h) 0 0 8) (ldI (toI h) 0 8 8)) (toI s) 0 (len s)) 48) (gd (allM (newM (ldI (toI h) 0 0 8) (ldI (toI h) 0 8 8)) (toI s) 0 (len s)) 49))
noncomputable def hashV (h s : List UInt8) : V := cond (Nat.beq (len h) 16) (cond (Nat.beq (len s % 16) 0) (vS (hashS h s)) (vE 500)) (vE 500)
theorem xorQ_len (R : Nat) (K : List Int) (c : List UInt8) : ∀ (q o n : Nat) (x : Int) (L : List Int), len (xorQ R K c q o n x L) = len L
  | 0, o, n, x, L => rfl
  | q + 1, o, n, x, L => by rw [xorQ, xorQ_len, xs_len]
theorem xorA_len (R : Nat) (K : List Int) (c : List UInt8) (L : List Int) (o n : Nat) : len (xorA R K c L o n) = len L := xorQ_len _ _ _ _ _ _ _ _
theorem ofI_len : ∀ L : List Int, len (ofI L) = len L
  | [] => rfl
  | a :: l => congrArg (· + 1) (ofI_len l)
theorem tkdrp_len {α : Type} (l : List α) (o n : Nat) : len (tk (drp l o) n) = Nat.min n (len l - o) := by
  simp only [len_eq, tk_eq, drp_eq, List.length_take, List.length_drop]
theorem mayB_true {n a : List UInt8} {m : Nat} {s : Nat} (h : mayB n a (.ofNat m) (.ofNat s) = true) : len n = 12 ∧ len a ≤ 65536 ∧ s ≤ m := by
  unfold mayB at h
  cases h1 : Nat.beq (len n) 12 <;> rw [h1] at h <;> simp only [cond_true, cond_false, Bool.false_eq_true] at h
  cases h2 : Nat.ble (len a) 65536 <;> rw [h2] at h <;> simp only [cond_true, cond_false, Bool.false_eq_true] at h
  rw [ile_nat, ble_true] at h
  exact ⟨beq_true.1 h1, ble_true.1 h2, h⟩
theorem op16_eq {s : List UInt8} (h : 16 ≤ len s) : op16 s = len s - 16 := by
  show nn (Int.sub (.ofNat (len s)) (.ofNat 16)) = _
  have : Int.sub (.ofNat (len s)) (.ofNat 16) = .ofNat (len s - 16) := by
    show (len s : Int) - 16 = ((len s - 16 : Nat) : Int)
    omega
  rw [this]; rfl
theorem sub16 (n : Nat) : (Int.ofNat n).sub (Int.ofNat 16) = (n : Int) - 16 := rfl
theorem ile_zero (x : Int) : ile (.ofNat 0) x = true ↔ 0 ≤ x := by
  cases x with
  | ofNat a => simp [ile, Nat.ble]
  | negSucc a => simp [ile]
theorem fit_i64' (x : Int) (h1 : -9223372036854775808 ≤ x) (h2 : x ≤ 9223372036854775807) : fit .i64 x = true := by
  cases x with
  | ofNat a => show Nat.ble a 9223372036854775807 = true; rw [ble_true]; have : (a : Int) ≤ 9223372036854775807 := h2; omega
  | negSucc a => show Nat.ble a 9223372036854775807 = true; rw [ble_true]; omega
theorem opC_len {s : List UInt8} (h : 16 ≤ len s) : len (opC s) = len s - 16 := by
  rw [opC, tkdrp_len, op16_eq h]; exact Nat.min_eq_left (by omega)
theorem seal_no16 (k n a s : List UInt8) (hk : len k = 16) (hn : len n ≤ 9223372036854775807) (ha : len a ≤ 9223372036854775807) (hs : len s ≤ 9223372036854775807) (hm : mayB n a (.ofNat 65536) (.ofNat (len s)) = false) : VSpec Try.prog 5 [.str k, .str n, .str a, .str s] (vE 500) :=
  VSpec.ev (C := C6 1 (Dt 27 true)) (fn := Try.f5) (c := bodyOf Try.f5) (L := noL) (fuel := 100) (d := 9) (nx := 0)
    (k := andr true (andr (andr true ((len k).beq 16)) (andr (andr (andr true ((len s).ble 9223372036854775807)) (andr ((len n).ble 9223372036854775807) ((len a).ble 9223372036854775807))) !mayB n a (Int.ofNat 65536) (Int.ofNat (len s)))))
    (C6_sound _ _) (by kernel_rfl) (by kernel_rfl) (LSound.none _) (by kernel_rfl) (by rw [hk, hm]; simp only [andr_true, ble_true, beq_true, Bool.not_false]; simp only [hn, ha, hs, and_self]) rfl
theorem seal_yes16 (k n a s : List UInt8) (hk : len k = 16) (hm : mayB n a (.ofNat 65536) (.ofNat (len s)) = true) : VSpec Try.prog 5 [.str k, .str n, .str a, .str s] (vS (sealS 11 (keysL 4 k) n a s)) :=
  VSpec.ev (C := C6 1 (Dt 27 false)) (fn := Try.f5) (c := bodyOf Try.f5) (L := noL) (fuel := 100) (d := 9) (nx := 0)
    (k := andr true (andr (andr true ((len k).beq 16)) (andr (andr (andr (andr true ((len s).ble 9223372036854775807)) (andr ((len n).ble 9223372036854775807) ((len a).ble 9223372036854775807))) !!mayB n a (Int.ofNat 65536) (Int.ofNat (len s))) (andr true (andr (andr true (andr ((len n).beq 12) (andr true (andr ((len s).ble 9223372036854775807) ((0 + len s).ble (len (toI s))))))) (andr (andr (andr true ((0 + len s).ble (len (xorA 11 (keysL 4 k) n (toI s) 0 (len s))))) (andr ((len n).beq 12) (andr true (andr ((len a).ble 9223372036854775807) (andr ((len s).ble 9223372036854775807) ((0 + len s).ble (len (xorA 11 (keysL 4 k) n (toI s) 0 (len s))))))))) ((len (ofI (tk (drp (xorA 11 (keysL 4 k) n (toI s) 0 (len s)) 0) (len s))) + 16).ble 9223372036854775807)))))))
    (C6_sound _ _) (by kernel_rfl) (by kernel_rfl) (LSound.none _) (by kernel_rfl) (by
      obtain ⟨h1, h2, h3⟩ := mayB_true hm
      rw [hk, hm, h1, xorA_len, toI_len, ofI_len, tkdrp_len, xorA_len, toI_len]
      have : Nat.min (len s) (len s - 0) ≤ len s := Nat.min_le_left _ _
      simp only [andr_true, ble_true, beq_true, Bool.not_true, Bool.not_false]
      (repeat' apply And.intro) <;> first | trivial | omega) rfl
theorem open_no16 (k n a s : List UInt8) (hk : len k = 16) (hn : len n ≤ 9223372036854775807) (ha : len a ≤ 9223372036854775807) (hs : len s ≤ 9223372036854775807) (hm : mayB n a (.ofNat 65552) (.ofNat (len s)) = false) : VSpec Try.prog 6 [.str k, .str n, .str a, .str s] (vE 500) :=
  VSpec.ev (C := C6 1 (DO true true true)) (fn := Try.f6) (c := bodyOf Try.f6) (L := noL) (fuel := 100) (d := 9) (nx := 0)
    (k := andr true (andr (andr true ((len k).beq 16)) (andr (andr (andr true ((len s).ble 9223372036854775807)) (andr ((len n).ble 9223372036854775807) ((len a).ble 9223372036854775807))) !mayB n a (Int.ofNat 65552) (Int.ofNat (len s)))))
    (C6_sound _ _) (by kernel_rfl) (by kernel_rfl) (LSound.none _) (by kernel_rfl) (by rw [hk, hm]; simp only [andr_true, ble_true, beq_true, Bool.not_false]; simp only [hn, ha, hs, and_self]) rfl
theorem open_cut16 (k n a s : List UInt8) (hk : len k = 16) (hm : mayB n a (.ofNat 65552) (.ofNat (len s)) = true) (h16 : len s < 16) : VSpec Try.prog 6 [.str k, .str n, .str a, .str s] (vE 501) :=
  VSpec.ev (C := C6 1 (DO false true true)) (fn := Try.f6) (c := bodyOf Try.f6) (L := noL) (fuel := 100) (d := 9) (nx := 0)
    (k := andr true (andr (andr true ((len k).beq 16)) (andr (andr (andr (andr true ((len s).ble 9223372036854775807)) (andr ((len n).ble 9223372036854775807) ((len a).ble 9223372036854775807))) !!mayB n a (Int.ofNat 65552) (Int.ofNat (len s))) (andr (andr (andr true ((len s).ble 9223372036854775807)) (fit IntKind.i64 ((Int.ofNat (len s)).sub (Int.ofNat 16)))) (andr true !ile (Int.ofNat 0) ((Int.ofNat (len s)).sub (Int.ofNat 16)))))))
    (C6_sound _ _) (by kernel_rfl) (by kernel_rfl) (LSound.none _) (by kernel_rfl) (by
      obtain ⟨h1, h2, h3⟩ := mayB_true hm
      have h4 : ile (Int.ofNat 0) ((Int.ofNat (len s)).sub (Int.ofNat 16)) = false := by rw [← Bool.not_eq_true, ile_zero, sub16]; omega
      have h5 : fit IntKind.i64 ((Int.ofNat (len s)).sub (Int.ofNat 16)) = true := fit_i64' _ (by rw [sub16]; omega) (by rw [sub16]; omega)
      rw [hk, hm, h1, h4, h5]
      simp only [andr_true, ble_true, beq_true, Bool.not_true, Bool.not_false]
      (repeat' apply And.intro) <;> first | trivial | omega) rfl
theorem open_bad16 (k n a s : List UInt8) (hk : len k = 16) (hm : mayB n a (.ofNat 65552) (.ofNat (len s)) = true) (h16 : 16 ≤ len s) (hb : openB 11 (keysL 4 k) n a s = false) : VSpec Try.prog 6 [.str k, .str n, .str a, .str s] (vE 501) :=
  VSpec.ev (C := C6 1 (DO false false true)) (fn := Try.f6) (c := bodyOf Try.f6) (L := noL) (fuel := 100) (d := 9) (nx := 0)
    (k := andr true (andr (andr true ((len k).beq 16)) (andr (andr (andr (andr true ((len s).ble 9223372036854775807)) (andr ((len n).ble 9223372036854775807) ((len a).ble 9223372036854775807))) !!mayB n a (Int.ofNat 65552) (Int.ofNat (len s))) (andr (andr (andr true ((len s).ble 9223372036854775807)) (fit IntKind.i64 ((Int.ofNat (len s)).sub (Int.ofNat 16)))) (andr (andr true !!ile (Int.ofNat 0) ((Int.ofNat (len s)).sub (Int.ofNat 16))) (andr (andr true (andr (andr true (ile (Int.ofNat 0) ((Int.ofNat (len s)).sub (Int.ofNat 16)))) ((op16 s).ble (len s)))) (andr (andr (andr true (andr ((len n).beq 12) (andr true (andr ((len a).ble 9223372036854775807) (andr ((len (opC s)).ble 9223372036854775807) ((0 + len (opC s)).ble (len (toI (opC s))))))))) (andr (andr (ile (Int.ofNat 0) ((Int.ofNat (len s)).sub (Int.ofNat 16))) ((op16 s).ble (len s))) ((len s).ble (len s)))) !seq8 (ofI (tagM 11 (keysL 4 k) (hH 11 (keysL 4 k)) (hL 11 (keysL 4 k)) n a (toI (opC s)) 0 (len (opC s)))) (opT s))))))))
    (C6_sound _ _) (by kernel_rfl) (by kernel_rfl) (LSound.none _) (by kernel_rfl) (by
      obtain ⟨h1, h2, h3⟩ := mayB_true hm
      have h4 : ile (Int.ofNat 0) ((Int.ofNat (len s)).sub (Int.ofNat 16)) = true := by rw [ile_zero, sub16]; omega
      have h5 : fit IntKind.i64 ((Int.ofNat (len s)).sub (Int.ofNat 16)) = true := fit_i64' _ (by rw [sub16]; omega) (by rw [sub16]; omega)
      have h6 : seq8 (ofI (tagM 11 (keysL 4 k) (hH 11 (keysL 4 k)) (hL 11 (keysL 4 k)) n a (toI (opC s)) 0 (len (opC s)))) (opT s) = false := hb
      rw [hk, hm, h1, h4, h5, h6, toI_len, opC_len h16, op16_eq h16]
      simp only [andr_true, ble_true, beq_true, Bool.not_true, Bool.not_false]
      (repeat' apply And.intro) <;> first | trivial | omega) rfl
theorem open_yes16 (k n a s : List UInt8) (hk : len k = 16) (hm : mayB n a (.ofNat 65552) (.ofNat (len s)) = true) (h16 : 16 ≤ len s) (hb : openB 11 (keysL 4 k) n a s = true) : VSpec Try.prog 6 [.str k, .str n, .str a, .str s] (vS (openS 11 (keysL 4 k) n s)) :=
  VSpec.ev (C := C6 1 (DO false false false)) (fn := Try.f6) (c := bodyOf Try.f6) (L := noL) (fuel := 100) (d := 9) (nx := 0)
    (k := andr true (andr (andr true ((len k).beq 16)) (andr (andr (andr (andr true ((len s).ble 9223372036854775807)) (andr ((len n).ble 9223372036854775807) ((len a).ble 9223372036854775807))) !!mayB n a (Int.ofNat 65552) (Int.ofNat (len s))) (andr (andr (andr true ((len s).ble 9223372036854775807)) (fit IntKind.i64 ((Int.ofNat (len s)).sub (Int.ofNat 16)))) (andr (andr true !!ile (Int.ofNat 0) ((Int.ofNat (len s)).sub (Int.ofNat 16))) (andr (andr true (andr (andr true (ile (Int.ofNat 0) ((Int.ofNat (len s)).sub (Int.ofNat 16)))) ((op16 s).ble (len s)))) (andr (andr (andr (andr true (andr ((len n).beq 12) (andr true (andr ((len a).ble 9223372036854775807) (andr ((len (opC s)).ble 9223372036854775807) ((0 + len (opC s)).ble (len (toI (opC s))))))))) (andr (andr (ile (Int.ofNat 0) ((Int.ofNat (len s)).sub (Int.ofNat 16))) ((op16 s).ble (len s))) ((len s).ble (len s)))) !!seq8 (ofI (tagM 11 (keysL 4 k) (hH 11 (keysL 4 k)) (hL 11 (keysL 4 k)) n a (toI (opC s)) 0 (len (opC s)))) (opT s)) (andr (andr true (andr ((len n).beq 12) (andr true (andr ((len (opC s)).ble 9223372036854775807) ((0 + len (opC s)).ble (len (toI (opC s)))))))) (andr true ((0 + len (opC s)).ble (len (xorA 11 (keysL 4 k) n (toI (opC s)) 0 (len (opC s))))))))))))))
    (C6_sound _ _) (by kernel_rfl) (by kernel_rfl) (LSound.none _) (by kernel_rfl) (by
      obtain ⟨h1, h2, h3⟩ := mayB_true hm
      have h4 : ile (Int.ofNat 0) ((Int.ofNat (len s)).sub (Int.ofNat 16)) = true := by rw [ile_zero, sub16]; omega
      have h5 : fit IntKind.i64 ((Int.ofNat (len s)).sub (Int.ofNat 16)) = true := fit_i64' _ (by rw [sub16]; omega) (by rw [sub16]; omega)
      have h6 : seq8 (ofI (tagM 11 (keysL 4 k) (hH 11 (keysL 4 k)) (hL 11 (keysL 4 k)) n a (toI (opC s)) 0 (len (opC s)))) (opT s) = true := hb
      rw [hk, hm, h1, h4, h5, h6, xorA_len, toI_len, opC_len h16, op16_eq h16]
      simp only [andr_true, ble_true, beq_true, Bool.not_true, Bool.not_false]
      (repeat' apply And.intro) <;> first | trivial | omega) rfl
theorem seal_no32 (k n a s : List UInt8) (hk : len k = 32) (hn : len n ≤ 9223372036854775807) (ha : len a ≤ 9223372036854775807) (hs : len s ≤ 9223372036854775807) (hm : mayB n a (.ofNat 65536) (.ofNat (len s)) = false) : VSpec Try.prog 5 [.str k, .str n, .str a, .str s] (vE 500) :=
  VSpec.ev (C := C6 2 (Dt 27 true)) (fn := Try.f5) (c := bodyOf Try.f5) (L := noL) (fuel := 100) (d := 9) (nx := 0)
    (k := andr true (andr (andr true ((len k).beq 32)) (andr (andr (andr true ((len s).ble 9223372036854775807)) (andr ((len n).ble 9223372036854775807) ((len a).ble 9223372036854775807))) !mayB n a (Int.ofNat 65536) (Int.ofNat (len s)))))
    (C6_sound _ _) (by kernel_rfl) (by kernel_rfl) (LSound.none _) (by kernel_rfl) (by rw [hk, hm]; simp only [andr_true, ble_true, beq_true, Bool.not_false]; simp only [hn, ha, hs, and_self]) rfl
theorem seal_yes32 (k n a s : List UInt8) (hk : len k = 32) (hm : mayB n a (.ofNat 65536) (.ofNat (len s)) = true) : VSpec Try.prog 5 [.str k, .str n, .str a, .str s] (vS (sealS 15 (keysL 8 k) n a s)) :=
  VSpec.ev (C := C6 2 (Dt 27 false)) (fn := Try.f5) (c := bodyOf Try.f5) (L := noL) (fuel := 100) (d := 9) (nx := 0)
    (k := andr true (andr (andr true ((len k).beq 32)) (andr (andr (andr (andr true ((len s).ble 9223372036854775807)) (andr ((len n).ble 9223372036854775807) ((len a).ble 9223372036854775807))) !!mayB n a (Int.ofNat 65536) (Int.ofNat (len s))) (andr true (andr (andr true (andr ((len n).beq 12) (andr true (andr ((len s).ble 9223372036854775807) ((0 + len s).ble (len (toI s))))))) (andr (andr (andr true ((0 + len s).ble (len (xorA 15 (keysL 8 k) n (toI s) 0 (len s))))) (andr ((len n).beq 12) (andr true (andr ((len a).ble 9223372036854775807) (andr ((len s).ble 9223372036854775807) ((0 + len s).ble (len (xorA 15 (keysL 8 k) n (toI s) 0 (len s))))))))) ((len (ofI (tk (drp (xorA 15 (keysL 8 k) n (toI s) 0 (len s)) 0) (len s))) + 16).ble 9223372036854775807)))))))
    (C6_sound _ _) (by kernel_rfl) (by kernel_rfl) (LSound.none _) (by kernel_rfl) (by
      obtain ⟨h1, h2, h3⟩ := mayB_true hm
      rw [hk, hm, h1, xorA_len, toI_len, ofI_len, tkdrp_len, xorA_len, toI_len]
      have : Nat.min (len s) (len s - 0) ≤ len s := Nat.min_le_left _ _
      simp only [andr_true, ble_true, beq_true, Bool.not_true, Bool.not_false]
      (repeat' apply And.intro) <;> first | trivial | omega) rfl
theorem open_no32 (k n a s : List UInt8) (hk : len k = 32) (hn : len n ≤ 9223372036854775807) (ha : len a ≤ 9223372036854775807) (hs : len s ≤ 9223372036854775807) (hm : mayB n a (.ofNat 65552) (.ofNat (len s)) = false) : VSpec Try.prog 6 [.str k, .str n, .str a, .str s] (vE 500) :=
  VSpec.ev (C := C6 2 (DO true true true)) (fn := Try.f6) (c := bodyOf Try.f6) (L := noL) (fuel := 100) (d := 9) (nx := 0)
    (k := andr true (andr (andr true ((len k).beq 32)) (andr (andr (andr true ((len s).ble 9223372036854775807)) (andr ((len n).ble 9223372036854775807) ((len a).ble 9223372036854775807))) !mayB n a (Int.ofNat 65552) (Int.ofNat (len s)))))
    (C6_sound _ _) (by kernel_rfl) (by kernel_rfl) (LSound.none _) (by kernel_rfl) (by rw [hk, hm]; simp only [andr_true, ble_true, beq_true, Bool.not_false]; simp only [hn, ha, hs, and_self]) rfl
theorem open_cut32 (k n a s : List UInt8) (hk : len k = 32) (hm : mayB n a (.ofNat 65552) (.ofNat (len s)) = true) (h16 : len s < 16) : VSpec Try.prog 6 [.str k, .str n, .str a, .str s] (vE 501) :=
  VSpec.ev (C := C6 2 (DO false true true)) (fn := Try.f6) (c := bodyOf Try.f6) (L := noL) (fuel := 100) (d := 9) (nx := 0)
    (k := andr true (andr (andr true ((len k).beq 32)) (andr (andr (andr (andr true ((len s).ble 9223372036854775807)) (andr ((len n).ble 9223372036854775807) ((len a).ble 9223372036854775807))) !!mayB n a (Int.ofNat 65552) (Int.ofNat (len s))) (andr (andr (andr true ((len s).ble 9223372036854775807)) (fit IntKind.i64 ((Int.ofNat (len s)).sub (Int.ofNat 16)))) (andr true !ile (Int.ofNat 0) ((Int.ofNat (len s)).sub (Int.ofNat 16)))))))
    (C6_sound _ _) (by kernel_rfl) (by kernel_rfl) (LSound.none _) (by kernel_rfl) (by
      obtain ⟨h1, h2, h3⟩ := mayB_true hm
      have h4 : ile (Int.ofNat 0) ((Int.ofNat (len s)).sub (Int.ofNat 16)) = false := by rw [← Bool.not_eq_true, ile_zero, sub16]; omega
      have h5 : fit IntKind.i64 ((Int.ofNat (len s)).sub (Int.ofNat 16)) = true := fit_i64' _ (by rw [sub16]; omega) (by rw [sub16]; omega)
      rw [hk, hm, h1, h4, h5]
      simp only [andr_true, ble_true, beq_true, Bool.not_true, Bool.not_false]
      (repeat' apply And.intro) <;> first | trivial | omega) rfl
theorem open_bad32 (k n a s : List UInt8) (hk : len k = 32) (hm : mayB n a (.ofNat 65552) (.ofNat (len s)) = true) (h16 : 16 ≤ len s) (hb : openB 15 (keysL 8 k) n a s = false) : VSpec Try.prog 6 [.str k, .str n, .str a, .str s] (vE 501) :=
  VSpec.ev (C := C6 2 (DO false false true)) (fn := Try.f6) (c := bodyOf Try.f6) (L := noL) (fuel := 100) (d := 9) (nx := 0)
    (k := andr true (andr (andr true ((len k).beq 32)) (andr (andr (andr (andr true ((len s).ble 9223372036854775807)) (andr ((len n).ble 9223372036854775807) ((len a).ble 9223372036854775807))) !!mayB n a (Int.ofNat 65552) (Int.ofNat (len s))) (andr (andr (andr true ((len s).ble 9223372036854775807)) (fit IntKind.i64 ((Int.ofNat (len s)).sub (Int.ofNat 16)))) (andr (andr true !!ile (Int.ofNat 0) ((Int.ofNat (len s)).sub (Int.ofNat 16))) (andr (andr true (andr (andr true (ile (Int.ofNat 0) ((Int.ofNat (len s)).sub (Int.ofNat 16)))) ((op16 s).ble (len s)))) (andr (andr (andr true (andr ((len n).beq 12) (andr true (andr ((len a).ble 9223372036854775807) (andr ((len (opC s)).ble 9223372036854775807) ((0 + len (opC s)).ble (len (toI (opC s))))))))) (andr (andr (ile (Int.ofNat 0) ((Int.ofNat (len s)).sub (Int.ofNat 16))) ((op16 s).ble (len s))) ((len s).ble (len s)))) !seq8 (ofI (tagM 15 (keysL 8 k) (hH 15 (keysL 8 k)) (hL 15 (keysL 8 k)) n a (toI (opC s)) 0 (len (opC s)))) (opT s))))))))
    (C6_sound _ _) (by kernel_rfl) (by kernel_rfl) (LSound.none _) (by kernel_rfl) (by
      obtain ⟨h1, h2, h3⟩ := mayB_true hm
      have h4 : ile (Int.ofNat 0) ((Int.ofNat (len s)).sub (Int.ofNat 16)) = true := by rw [ile_zero, sub16]; omega
      have h5 : fit IntKind.i64 ((Int.ofNat (len s)).sub (Int.ofNat 16)) = true := fit_i64' _ (by rw [sub16]; omega) (by rw [sub16]; omega)
      have h6 : seq8 (ofI (tagM 15 (keysL 8 k) (hH 15 (keysL 8 k)) (hL 15 (keysL 8 k)) n a (toI (opC s)) 0 (len (opC s)))) (opT s) = false := hb
      rw [hk, hm, h1, h4, h5, h6, toI_len, opC_len h16, op16_eq h16]
      simp only [andr_true, ble_true, beq_true, Bool.not_true, Bool.not_false]
      (repeat' apply And.intro) <;> first | trivial | omega) rfl
theorem open_yes32 (k n a s : List UInt8) (hk : len k = 32) (hm : mayB n a (.ofNat 65552) (.ofNat (len s)) = true) (h16 : 16 ≤ len s) (hb : openB 15 (keysL 8 k) n a s = true) : VSpec Try.prog 6 [.str k, .str n, .str a, .str s] (vS (openS 15 (keysL 8 k) n s)) :=
  VSpec.ev (C := C6 2 (DO false false false)) (fn := Try.f6) (c := bodyOf Try.f6) (L := noL) (fuel := 100) (d := 9) (nx := 0)
    (k := andr true (andr (andr true ((len k).beq 32)) (andr (andr (andr (andr true ((len s).ble 9223372036854775807)) (andr ((len n).ble 9223372036854775807) ((len a).ble 9223372036854775807))) !!mayB n a (Int.ofNat 65552) (Int.ofNat (len s))) (andr (andr (andr true ((len s).ble 9223372036854775807)) (fit IntKind.i64 ((Int.ofNat (len s)).sub (Int.ofNat 16)))) (andr (andr true !!ile (Int.ofNat 0) ((Int.ofNat (len s)).sub (Int.ofNat 16))) (andr (andr true (andr (andr true (ile (Int.ofNat 0) ((Int.ofNat (len s)).sub (Int.ofNat 16)))) ((op16 s).ble (len s)))) (andr (andr (andr (andr true (andr ((len n).beq 12) (andr true (andr ((len a).ble 9223372036854775807) (andr ((len (opC s)).ble 9223372036854775807) ((0 + len (opC s)).ble (len (toI (opC s))))))))) (andr (andr (ile (Int.ofNat 0) ((Int.ofNat (len s)).sub (Int.ofNat 16))) ((op16 s).ble (len s))) ((len s).ble (len s)))) !!seq8 (ofI (tagM 15 (keysL 8 k) (hH 15 (keysL 8 k)) (hL 15 (keysL 8 k)) n a (toI (opC s)) 0 (len (opC s)))) (opT s)) (andr (andr true (andr ((len n).beq 12) (andr true (andr ((len (opC s)).ble 9223372036854775807) ((0 + len (opC s)).ble (len (toI (opC s)))))))) (andr true ((0 + len (opC s)).ble (len (xorA 15 (keysL 8 k) n (toI (opC s)) 0 (len (opC s))))))))))))))
    (C6_sound _ _) (by kernel_rfl) (by kernel_rfl) (LSound.none _) (by kernel_rfl) (by
      obtain ⟨h1, h2, h3⟩ := mayB_true hm
      have h4 : ile (Int.ofNat 0) ((Int.ofNat (len s)).sub (Int.ofNat 16)) = true := by rw [ile_zero, sub16]; omega
      have h5 : fit IntKind.i64 ((Int.ofNat (len s)).sub (Int.ofNat 16)) = true := fit_i64' _ (by rw [sub16]; omega) (by rw [sub16]; omega)
      have h6 : seq8 (ofI (tagM 15 (keysL 8 k) (hH 15 (keysL 8 k)) (hL 15 (keysL 8 k)) n a (toI (opC s)) 0 (len (opC s)))) (opT s) = true := hb
      rw [hk, hm, h1, h4, h5, h6, xorA_len, toI_len, opC_len h16, op16_eq h16]
      simp only [andr_true, ble_true, beq_true, Bool.not_true, Bool.not_false]
      (repeat' apply And.intro) <;> first | trivial | omega) rfl
theorem keyM_no {k : List UInt8} (h : keyM k = none) : len k ≠ 16 ∧ len k ≠ 32 := by
  unfold keyM at h
  cases h1 : Nat.beq (len k) 16 <;> rw [h1] at h <;> simp only [cond_true, cond_false, reduceCtorEq] at h
  cases h2 : Nat.beq (len k) 32 <;> rw [h2] at h <;> simp only [cond_true, cond_false, reduceCtorEq] at h
  exact ⟨beq_iff_false.1 h1, beq_iff_false.1 h2⟩
theorem keyM_some {k : List UInt8} {R : Nat} {K : List Int} (h : keyM k = some (R, K)) : (len k = 16 ∧ R = 11 ∧ K = keysL 4 k) ∨ (len k = 32 ∧ R = 15 ∧ K = keysL 8 k) := by
  unfold keyM at h
  cases h1 : Nat.beq (len k) 16 <;> rw [h1] at h <;> simp only [cond_true, cond_false] at h
  · cases h2 : Nat.beq (len k) 32 <;> rw [h2] at h <;> simp only [cond_true, cond_false, reduceCtorEq] at h
    cases h; exact .inr ⟨beq_true.1 h2, rfl, rfl⟩
  · cases h; exact .inl ⟨beq_true.1 h1, rfl, rfl⟩
theorem seal_none (k n a s : List UInt8) (h0 : len k ≤ 9223372036854775807) (h1 : len k ≠ 16) (h2 : len k ≠ 32) : VSpec Try.prog 5 [.str k, .str n, .str a, .str s] (vE 500) :=
  VSpec.ev (C := C6 0 (fun _ => none)) (fn := Try.f5) (c := bodyOf Try.f5) (L := noL) (fuel := 100) (d := 9) (nx := 0)
    (k := andr true (andr true (andr ((len k).ble 9223372036854775807) (andr (!(len k).beq 16) !(len k).beq 32))))
    (C6_sound _ _) (by kernel_rfl) (by kernel_rfl) (LSound.none _) (by kernel_rfl) (by simp only [andr_true, ble_true, Bool.not_eq_true', beq_iff_false]; simp only [h0, h1, h2, ne_eq, not_false_eq_true, and_self]) rfl
theorem open_none (k n a s : List UInt8) (h0 : len k ≤ 9223372036854775807) (h1 : len k ≠ 16) (h2 : len k ≠ 32) : VSpec Try.prog 6 [.str k, .str n, .str a, .str s] (vE 500) :=
  VSpec.ev (C := C6 0 (fun _ => none)) (fn := Try.f6) (c := bodyOf Try.f6) (L := noL) (fuel := 100) (d := 9) (nx := 0)
    (k := andr true (andr true (andr ((len k).ble 9223372036854775807) (andr (!(len k).beq 16) !(len k).beq 32))))
    (C6_sound _ _) (by kernel_rfl) (by kernel_rfl) (LSound.none _) (by kernel_rfl) (by simp only [andr_true, ble_true, Bool.not_eq_true', beq_iff_false]; simp only [h0, h1, h2, ne_eq, not_false_eq_true, and_self]) rfl
/-- Seal, for all texts. -/
theorem seal_spec (k n a s : List UInt8) (hk : len k ≤ 9223372036854775807) (hn : len n ≤ 9223372036854775807) (ha : len a ≤ 9223372036854775807) (hs : len s ≤ 9223372036854775807) : VSpec Try.prog 5 [.str k, .str n, .str a, .str s] (sealV k n a s) := by
  unfold sealV
  cases h : keyM k with
  | none => exact seal_none k n a s hk (keyM_no h).1 (keyM_no h).2
  | some p =>
    obtain ⟨R, K⟩ := p
    show VSpec Try.prog 5 _ (cond (mayB n a 65536 (.ofNat (len s))) (vS (sealS R K n a s)) (vE 500))
    rcases keyM_some h with ⟨h1, rfl, rfl⟩ | ⟨h1, rfl, rfl⟩ <;> cases hm : mayB n a 65536 (.ofNat (len s)) <;> simp only [cond_true, cond_false]
    · exact seal_no16 k n a s h1 hn ha hs hm
    · exact seal_yes16 k n a s h1 hm
    · exact seal_no32 k n a s h1 hn ha hs hm
    · exact seal_yes32 k n a s h1 hm
/-- Open, for all texts. -/
theorem open_spec (k n a s : List UInt8) (hk : len k ≤ 9223372036854775807) (hn : len n ≤ 9223372036854775807) (ha : len a ≤ 9223372036854775807) (hs : len s ≤ 9223372036854775807) : VSpec Try.prog 6 [.str k, .str n, .str a, .str s] (openV k n a s) := by
  unfold openV
  cases h : keyM k with
  | none => exact open_none k n a s hk (keyM_no h).1 (keyM_no h).2
  | some p =>
    obtain ⟨R, K⟩ := p
    show VSpec Try.prog 6 _ (cond (mayB n a 65552 (.ofNat (len s))) (cond (Nat.ble 16 (len s)) (cond (openB R K n a s) (vS (openS R K n s)) (vE 501)) (vE 501)) (vE 500))
    rcases keyM_some h with ⟨h1, rfl, rfl⟩ | ⟨h1, rfl, rfl⟩ <;> cases hm : mayB n a 65552 (.ofNat (len s)) <;> simp only [cond_true, cond_false]
    · exact open_no16 k n a s h1 hn ha hs hm
    · cases h16 : Nat.ble 16 (len s) <;> simp only [cond_true, cond_false]
      · exact open_cut16 k n a s h1 hm (by rw [← Bool.not_eq_true, ble_true] at h16; omega)
      · cases hb : openB 11 (keysL 4 k) n a s <;> simp only [cond_true, cond_false]
        · exact open_bad16 k n a s h1 hm (ble_true.1 h16) hb
        · exact open_yes16 k n a s h1 hm (ble_true.1 h16) hb
    · exact open_no32 k n a s h1 hn ha hs hm
    · cases h16 : Nat.ble 16 (len s) <;> simp only [cond_true, cond_false]
      · exact open_cut32 k n a s h1 hm (by rw [← Bool.not_eq_true, ble_true] at h16; omega)
      · cases hb : openB 15 (keysL 8 k) n a s <;> simp only [cond_true, cond_false]
        · exact open_bad32 k n a s h1 hm (ble_true.1 h16) hb
        · exact open_yes32 k n a s h1 hm (ble_true.1 h16) hb
end Ev
end Go
