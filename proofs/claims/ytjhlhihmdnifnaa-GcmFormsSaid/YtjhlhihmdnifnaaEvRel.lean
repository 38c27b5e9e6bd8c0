/- What it says that a value, a frame, a memory of the evaluator stands for the machine's. -/
import Derived.Test.YtjhlhihmdnifnaaEvDef
set_option linter.unusedVariables false
namespace Go
namespace Ev

structure Loc where
  blk : Nat
  base : Nat
  room : Nat

abbrev Ren := Nat → Option Loc
def Ren.le (ρ σ : Ren) : Prop := ∀ i l, ρ i = some l → σ i = some l
theorem Ren.le_refl (ρ : Ren) : ρ.le ρ := fun _ _ h => h
theorem Ren.le_trans {ρ σ τ : Ren} (h : ρ.le σ) (k : σ.le τ) : ρ.le τ := fun i l e => k i l (h i l e)
def Loc.at (r : Loc) (o : Nat) : Addr := ⟨r.blk, r.base + o, none⟩

mutual
def VR (ρ : Ren) : V → Value → Prop
  | .any, _ => True
  | .bool b, v => v = .bool b
  | .int k n, v => v = .int k n ∧ fit k n = true
  | .str l, v => v = .string ⟨⟨l⟩⟩
  | .ptr b o, v => ∃ r, ρ b = some r ∧ v = .pointer (some (r.at o))
  | .nilptr, v => v = .pointer none
  | .slice b o n z, v => ∃ a cap, v = .slice (some a) n cap ∧ n ≤ cap ∧ ((n = 0 ∧ cap = 0) ∨ ∃ r, ρ b = some r ∧ a = r.at o ∧ o + cap * z ≤ r.room)
  | .nilslice, v => v = .slice none 0 0
  | .agg l, v => ∃ m, v = .agg ⟨m⟩ ∧ VRs ρ l m
  | .ints k l, v => v = .agg ⟨l.map (Value.int k)⟩ ∧ ∀ n ∈ l, fit k n = true
  | .tuple l, v => ∃ m, v = .tuple ⟨m⟩ ∧ VRs ρ l m
  | .fn f, v => v = .func (.func f) #[] #[]
  | .iface t x, v => ∃ y, v = .iface t y ∧ VR ρ x y
  | .nilIface, v => v = .nilIface
def VRs (ρ : Ren) : List V → List Value → Prop
  | [], m => m = []
  | a :: l, m => ∃ b r, m = b :: r ∧ VR ρ a b ∧ VRs ρ l r
end

mutual
theorem VR.mono {ρ σ : Ren} (hρ : ρ.le σ) : ∀ (v : V) (x : Value), VR ρ v x → VR σ v x
  | .any, _, _ => trivial
  | .bool b, v, h => h
  | .int k n, v, h => h
  | .str l, v, h => h
  | .ptr b o, v, ⟨r, h1, h2⟩ => ⟨r, hρ _ _ h1, h2⟩
  | .nilptr, v, h => h
  | .slice b o n z, v, ⟨a, cap, h1, h2, h3⟩ => ⟨a, cap, h1, h2, h3.imp id fun ⟨r, k1, k2⟩ => ⟨r, hρ _ _ k1, k2⟩⟩
  | .nilslice, v, h => h
  | .agg l, v, ⟨m, h1, h2⟩ => ⟨m, h1, VRs.mono hρ l m h2⟩
  | .ints k l, v, h => h
  | .tuple l, v, ⟨m, h1, h2⟩ => ⟨m, h1, VRs.mono hρ l m h2⟩
  | .fn f, v, h => h
  | .iface t x, v, ⟨y, h1, h2⟩ => ⟨y, h1, VR.mono hρ x y h2⟩
  | .nilIface, v, h => h
theorem VRs.mono {ρ σ : Ren} (hρ : ρ.le σ) : ∀ (l : List V) (m : List Value), VRs ρ l m → VRs σ l m
  | [], m, h => h
  | a :: l, m, ⟨b, r, h1, h2, h3⟩ => ⟨b, r, h1, VR.mono hρ a b h2, VRs.mono hρ l r h3⟩
end

/-- The cells of a block lie in a row from 'base' on. -/
def BR (ρ : Ren) (b : Blk) (cs : Array Value) (base : Nat) : Prop := match b with
  | .vals l => ∀ i v, nth l i = some v → one v = true ∧ ∃ x, cs[base + i]? = some x ∧ VR ρ v x
  | .ints k l => ∀ i, i < len l → cs[base + i]? = some (.int k (gd l i)) ∧ fit k (gd l i) = true
  | .dead => True

theorem BR.mono {ρ σ : Ren} (hρ : ρ.le σ) {b : Blk} {cs : Array Value} {n : Nat} (h : BR ρ b cs n) : BR σ b cs n := by
  cases b with
  | vals l => exact fun i v hv => let ⟨o, x, h1, h2⟩ := h i v hv; ⟨o, x, h1, VR.mono hρ v x h2⟩
  | ints k l => exact h
  | dead => exact h

structure HG (own : Nat → Prop) (ρ : Ren) (g : Nat → Option Blk) (w : World) : Prop where
  blk : ∀ i b, g i = some b → b.live = true → ∃ r cs ty fz, ρ i = some r ∧ w.heap[r.blk]? = some (.cells cs ty fz) ∧ own r.blk ∧ BR ρ b cs r.base ∧ b.size ≤ r.room ∧
    r.base + r.room ≤ cs.size ∧ (fz.2 ≤ fz.1 ∨ cs.size ≤ fz.1)
  inj : ∀ i j b c r s, g i = some b → b.live = true → g j = some c → c.live = true → ρ i = some r → ρ j = some s → r.blk = s.blk → i = j
  fresh : ∀ i, g i = none → ρ i = none
  own : ∀ k, w.heap.size ≤ k → own k
abbrev HR (own : Nat → Prop) (ρ : Ren) (h : H) (w : World) : Prop := HG own ρ h.bs.get w

/-- What is not owned is as it was. -/
structure Frm (own : Nat → Prop) (w w' : World) : Prop where
  os : w'.os = w.os
  tape : w'.tape = w.tape
  output : w'.output = w.output
  size : w.heap.size ≤ w'.heap.size
  block : ∀ k, ¬ own k → w'.heap[k]? = w.heap[k]?

theorem Frm.refl (own : Nat → Prop) (w : World) : Frm own w w := ⟨rfl, rfl, rfl, Nat.le_refl _, fun _ _ => rfl⟩
theorem Frm.trans {own : Nat → Prop} {a b c : World} (h : Frm own a b) (k : Frm own b c) : Frm own a c :=
  ⟨k.os.trans h.os, k.tape.trans h.tape, k.output.trans h.output, Nat.le_trans h.size k.size, fun i hi => (k.block i hi).trans (h.block i hi)⟩

def FrG (ρ : Ren) (f : Nat → Option V) (a : Act) : Prop := ∀ t v, f t = some v → VR ρ v (a.tmps.getD t undef)
abbrev FrR (ρ : Ren) (fr : Fr) (a : Act) : Prop := FrG ρ fr.get a

theorem FrG.mono {ρ σ : Ren} (hρ : ρ.le σ) {f : Nat → Option V} {a : Act} (h : FrG ρ f a) : FrG σ f a := fun t v e => VR.mono hρ v _ (h t v e)

/-! The tree -/
theorem Tr.get_e {α : Type} (k : Nat) : (Tr.e : Tr α).get k = none := rfl
theorem Tr.get_zero {α : Type} (v : Option α) (l r : Tr α) : (Tr.n v l r).get 0 = v := rfl
theorem Tr.get_succ {α : Type} (v : Option α) (l r : Tr α) (k : Nat) :
    (Tr.n v l r).get (k + 1) = cond (Nat.beq (Nat.land k 1) 0) (l.get (Nat.shiftRight k 1)) (r.get (Nat.shiftRight k 1)) := rfl
theorem Tr.put_e {α : Type} (k : Nat) (x : Option α) : (Tr.e : Tr α).put k x = .e := rfl
theorem Tr.put_zero {α : Type} (v x : Option α) (l r : Tr α) : (Tr.n v l r).put 0 x = .n x l r := rfl
theorem Tr.put_succ {α : Type} (v x : Option α) (l r : Tr α) (k : Nat) :
    (Tr.n v l r).put (k + 1) x = cond (Nat.beq (Nat.land k 1) 0) (.n v (l.put (Nat.shiftRight k 1) x) r) (.n v l (r.put (Nat.shiftRight k 1) x)) := rfl

theorem half_inj {a b : Nat} (h1 : Nat.beq (Nat.land a 1) 0 = Nat.beq (Nat.land b 1) 0) (h2 : Nat.shiftRight a 1 = Nat.shiftRight b 1) : a = b := by
  have ha : Nat.land a 1 = a % 2 := Nat.and_one_is_mod a
  have hb : Nat.land b 1 = b % 2 := Nat.and_one_is_mod b
  have sa : Nat.shiftRight a 1 = a / 2 := by show a >>> 1 = a / 2; rw [Nat.shiftRight_eq_div_pow]
  have sb : Nat.shiftRight b 1 = b / 2 := by show b >>> 1 = b / 2; rw [Nat.shiftRight_eq_div_pow]
  rw [ha, hb] at h1
  rw [sa, sb] at h2
  rcases Nat.mod_two_eq_zero_or_one a with h | h <;> rcases Nat.mod_two_eq_zero_or_one b with h' | h' <;> rw [h, h'] at h1
  · omega
  · cases h1
  · cases h1
  · omega

theorem Tr.get_put_same {α : Type} (t : Tr α) : ∀ (k : Nat) (x : Option α) (y : α), (t.put k x).get k = some y → x = some y := by
  induction t with
  | e => intro k x y h; simp [Tr.put_e, Tr.get_e] at h
  | n v l r ihl ihr =>
    intro k x y h
    cases k with
    | zero => simpa [Tr.put_zero, Tr.get_zero] using h
    | succ k =>
      rw [Tr.put_succ] at h
      cases hb : Nat.beq (Nat.land k 1) 0
      · rw [hb, cond_false, Tr.get_succ, hb, cond_false] at h; exact ihr _ _ _ h
      · rw [hb, cond_true, Tr.get_succ, hb, cond_true] at h; exact ihl _ _ _ h

theorem Tr.get_put_ne {α : Type} (t : Tr α) : ∀ (k j : Nat) (x : Option α), k ≠ j → (t.put k x).get j = t.get j := by
  induction t with
  | e => intro k j x h; rfl
  | n v l r ihl ihr =>
    intro k j x h
    cases k with
    | zero =>
      cases j with
      | zero => exact absurd rfl h
      | succ j => rfl
    | succ k =>
      rw [Tr.put_succ]
      cases j with
      | zero => cases hb : Nat.beq (Nat.land k 1) 0 <;> rfl
      | succ j =>
        have hne : k ≠ j := fun e => h (by rw [e])
        cases hb : Nat.beq (Nat.land k 1) 0 <;> cases hc : Nat.beq (Nat.land j 1) 0 <;>
          simp only [cond_true, cond_false, Tr.get_succ, hc]
        · exact ihr _ _ _ fun e => hne (half_inj (by rw [hb, hc]) e)
        · exact ihl _ _ _ fun e => hne (half_inj (by rw [hb, hc]) e)

/-! Lists -/
theorem len_eq {α : Type} (l : List α) : len l = l.length := by induction l with
  | nil => rfl
  | cons a l ih => simp [len, ih]
theorem app_eq {α : Type} (l m : List α) : app l m = l ++ m := by induction l with
  | nil => rfl
  | cons a l ih => simp [app, ih]
theorem nth_eq {α : Type} (l : List α) : ∀ n, nth l n = l[n]? := by
  induction l with
  | nil => intro n; rfl
  | cons a l ih => intro n; cases n with
    | zero => rfl
    | succ n => simp [nth, ih]
theorem gd_eq (l : List Int) : ∀ n, gd l n = l[n]?.getD 0 := by
  induction l with
  | nil => intro n; rfl
  | cons a l ih => intro n; cases n with
    | zero => rfl
    | succ n => simp [gd, ih]
theorem gd8_eq (l : List UInt8) : ∀ n, gd8 l n = l[n]?.getD 0 := by
  induction l with
  | nil => intro n; rfl
  | cons a l ih => intro n; cases n with
    | zero => rfl
    | succ n => simp [gd8, ih]
theorem drp_eq {α : Type} (l : List α) : ∀ n, drp l n = l.drop n := by
  induction l with
  | nil => intro n; simp [drp]
  | cons a l ih => intro n; cases n with
    | zero => rfl
    | succ n => simp [drp, ih]
theorem tk_eq {α : Type} (l : List α) : ∀ n, tk l n = l.take n := by
  induction l with
  | nil => intro n; simp [tk]
  | cons a l ih => intro n; cases n with
    | zero => rfl
    | succ n => simp [tk, ih]
theorem set1_eq {α : Type} (l : List α) : ∀ n x, set1 l n x = l.set n x := by
  induction l with
  | nil => intro n x; simp [set1]
  | cons a l ih => intro n x; cases n with
    | zero => rfl
    | succ n => simp [set1, ih]
theorem rep_eq {α : Type} (n : Nat) (a : α) : rep n a = List.replicate n a := by induction n with
  | zero => rfl
  | succ n ih => rw [List.replicate_succ, ← ih]; rfl
theorem reps_eq {α : Type} (n : Nat) (a : List α) : reps n a = (List.replicate n a).flatten := by induction n with
  | zero => rfl
  | succ n ih => rw [List.replicate_succ, List.flatten_cons, ← ih, ← app_eq]; rfl
theorem toI_eq (l : List UInt8) : toI l = l.map fun b => (b.toNat : Int) := by induction l with
  | nil => rfl
  | cons a l ih => simp [toI, ih]
theorem ofI_eq (l : List Int) : ofI l = l.map fun n => UInt8.ofNat (nn n) := by induction l with
  | nil => rfl
  | cons a l ih => simp [ofI, ih]
theorem mapInt_eq (k : IntKind) (l : List Int) : mapInt k l = l.map (V.int k) := by induction l with
  | nil => rfl
  | cons a l ih => simp [mapInt, ih]

theorem andr_true {a b : Bool} : andr a b = true ↔ a = true ∧ b = true := by cases a <;> cases b <;> simp [andr]

end Ev
end Go
