/- What the pieces of aes and gcm compute, in plain numbers. -/
import Derived.Test.YtjhlhihmdnifnaaEvUse
set_option linter.unusedVariables false
namespace Go
namespace Ev
/-- aes.twice -/
def twI (x : Int) : Int := .ofNat (Nat.xor (Nat.shiftLeft (nn x) 1 % 256) (Nat.land 27 ((256 - nn (ishr .u8 x 7)) % 256)))
/-- bits.RotateLeft8 by k < 8 -/
def rotI (x : Int) (k : Nat) : Int := ior .u8 (.ofNat (Nat.shiftLeft (nn x) k % 256)) (ishr .u8 x (.ofNat (8 - k)))
/-- element.half -/
def halfH (x y : Int) : Int := ixor .u64 (ishr .u64 x 1) (iand .u64 16212958658533785600 (.ofNat ((18446744073709551616 - nn (iand .u64 y 1)) % 18446744073709551616)))
def halfL (x y : Int) : Int := ior .u64 (ishr .u64 y 1) (.ofNat (Nat.shiftLeft (nn x) 63 % 18446744073709551616))
/-- element.bytes -/
def byI (x : Int) (i : Nat) : Int := .ofNat (tm .u8 (ishr .u64 x (.ofNat (56 - 8 * i))))
def bytesI (x y : Int) : List Int := [byI x 0, byI x 1, byI x 2, byI x 3, byI x 4, byI x 5, byI x 6, byI x 7, byI y 0, byI y 1, byI y 2, byI y 3, byI y 4, byI y 5, byI y 6, byI y 7]
/-- load -/
def ldI (L : List Int) (o j : Nat) : Nat → Int
  | 0 => 0
  | i + 1 => ior .u64 (.ofNat (Nat.shiftLeft (nn (ldI L o j i)) 8 % 18446744073709551616)) (gd L (o + (j + i)))
/-- counter -/
def ctrI (n : Int) : List Int := [.ofNat (tm .u8 (ishr .u32 n 24)), .ofNat (tm .u8 (ishr .u32 n 16)), .ofNat (tm .u8 (ishr .u32 n 8)), .ofNat (tm .u8 (ishr .u32 n 0))]
/-- sum.add: a digit, a step, the whole. S: table (32), folds (16), y (2). -/
def digI (xh xl : Int) (i : Nat) : Int := iand .u64 (ishr .u64 (cond (Nat.blt i 16) xl xh) (.ofNat (4 * (i % 16)))) 15
def addH (S : List Int) (d zh zl : Int) : Int := ixor .u64 (ixor .u64 (ishr .u64 zh 4) (gd S (32 + nn (iand .u64 zl 15) * 1))) (gd S (0 + nn d * 2 + 0))
def addL (S : List Int) (d zh zl : Int) : Int := ixor .u64 (ior .u64 (ishr .u64 zl 4) (.ofNat (Nat.shiftLeft (nn zh) 60 % 18446744073709551616))) (gd S (0 + nn d * 2 + 1))
def addZ (S : List Int) (xh xl : Int) : Nat → Int × Int
  | 0 => (0, 0)
  | i + 1 => (addH S (digI xh xl i) (addZ S xh xl i).1 (addZ S xh xl i).2, addL S (digI xh xl i) (addZ S xh xl i).1 (addZ S xh xl i).2)
def addX (S L : List Int) (o j : Nat) : Int := ixor .u64 (ldI L o (8 * j) 8) (gd S (48 + j))
def addM (S L : List Int) (o : Nat) : List Int := spl S 48 [(addZ S (addX S L o 0) (addX S L o 1) 32).1, (addZ S (addX S L o 0) (addX S L o 1) 32).2]
theorem iand15 (x : Int) : ∃ a, iand .u64 x 15 = .ofNat a ∧ a < 16 := ⟨Nat.land (tz .u64 x) 15, rfl, Nat.lt_of_le_of_lt (Nat.and_le_right (n := tz .u64 x) (m := 15)) (by decide)⟩
/-- newSum: the multiples' halves, the table, the folds. -/
def hfs (h l : Int) : Nat → Int × Int
  | 0 => (h, l)
  | k + 1 => (halfH (hfs h l k).1 (hfs h l k).2, halfL (hfs h l k).1 (hfs h l k).2)
def tbI (x : Nat → Int) (i : Nat) : Nat → Int
  | 0 => 0
  | k + 1 => cond (Nat.beq (Nat.land i (Nat.shiftRight 8 k)) 0) (tbI x i k) (ixor .u64 (tbI x i k) (x k))
def tbS (h l : Int) : Nat → List Int → List Int
  | 0, r => r
  | i + 1, r => tbS h l i (tbI (fun k => (hfs h l k).1) i 4 :: tbI (fun k => (hfs h l k).2) i 4 :: r)
def fdS : Nat → List Int → List Int
  | 0, r => r
  | i + 1, r => fdS i ((hfs 0 (.ofNat i) 4).1 :: r)
def newM (h l : Int) : List Int := tbS h l 16 (fdS 16 [0, 0])
def AllLt (P : Nat → Prop) : Nat → Prop
  | 0 => True
  | n + 1 => AllLt P n ∧ P n
theorem AllLt.get {P : Nat → Prop} : ∀ {n : Nat}, AllLt P n → ∀ i, i < n → P i
  | n + 1, h, i, hi => by
    rcases Nat.lt_or_ge i n with h' | h'
    · exact h.1.get i h'
    · have : i = n := by omega
      subst this; exact h.2
end Ev
end Go
