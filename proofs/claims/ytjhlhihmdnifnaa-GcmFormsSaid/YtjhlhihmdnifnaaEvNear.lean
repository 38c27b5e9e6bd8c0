/- What an operation turns of the evaluator's memory. -/
import Derived.Test.YtjhlhihmdnifnaaEvOps7
set_option linter.unusedVariables false
namespace Go
namespace Ev

/-! Trees: places, and what is kept of them. -/
noncomputable def Tr.dom {α : Type} (t : Tr α) : Nat → Bool :=
  Tr.rec (fun _ => false) (fun _ _ _ dl dr k => Nat.rec true (fun k _ => cond (Nat.beq (Nat.land k 1) 0) (dl (Nat.shiftRight k 1)) (dr (Nat.shiftRight k 1))) k) t
theorem Tr.dom_succ {α : Type} (v : Option α) (l r : Tr α) (k : Nat) : (Tr.n v l r).dom (k + 1) = cond (Nat.beq (Nat.land k 1) 0) (l.dom (Nat.shiftRight k 1)) (r.dom (Nat.shiftRight k 1)) := rfl

theorem Tr.dom_put {α : Type} (t : Tr α) : ∀ (k : Nat) (x : Option α) (j : Nat), (t.put k x).dom j = t.dom j := by
  induction t with
  | e => intro k x j; rfl
  | n v l r ihl ihr =>
    intro k x j
    cases k with
    | zero => cases j <;> rfl
    | succ k =>
      rw [Tr.put_succ]
      cases j with
      | zero => cases Nat.beq (Nat.land k 1) 0 <;> rfl
      | succ j =>
        cases hb : Nat.beq (Nat.land k 1) 0 <;> cases hc : Nat.beq (Nat.land j 1) 0 <;> simp only [cond_true, cond_false, Tr.dom_succ, hc]
        · exact ihr _ _ _
        · exact ihl _ _ _

theorem Tr.get_put_dom {α : Type} (t : Tr α) : ∀ (k : Nat) (x : Option α), t.dom k = true → (t.put k x).get k = x := by
  induction t with
  | e => intro k x h; cases h
  | n v l r ihl ihr =>
    intro k x h
    cases k with
    | zero => rfl
    | succ k =>
      rw [Tr.dom_succ] at h
      rw [Tr.put_succ]
      cases hb : Nat.beq (Nat.land k 1) 0
      · rw [hb, cond_false] at h; rw [cond_false, Tr.get_succ, hb, cond_false]; exact ihr _ _ h
      · rw [hb, cond_true] at h; rw [cond_true, Tr.get_succ, hb, cond_true]; exact ihl _ _ h

theorem Tr.get_dom {α : Type} (t : Tr α) : ∀ (k : Nat), t.dom k = false → t.get k = none := by
  induction t with
  | e => intro k h; rfl
  | n v l r ihl ihr =>
    intro k h
    cases k with
    | zero => cases h
    | succ k =>
      rw [Tr.dom_succ] at h
      rw [Tr.get_succ]
      cases hb : Nat.beq (Nat.land k 1) 0
      · rw [hb, cond_false] at h; rw [cond_false]; exact ihr _ h
      · rw [hb, cond_true] at h; rw [cond_true]; exact ihl _ h

theorem Tr.dead_dom (t : Tr Blk) : ∀ k, t.dead.dom k = t.dom k := by
  induction t with
  | e => intro k; rfl
  | n v l r ihl ihr =>
    intro k
    show (Tr.n _ l.dead r.dead).dom k = _
    cases k with
    | zero => rfl
    | succ k => rw [Tr.dom_succ, Tr.dom_succ, ihl, ihr]

theorem Tr.dead_get (t : Tr Blk) : ∀ k, t.dead.get k = (t.get k).map fun _ => .dead := by
  induction t with
  | e => intro k; rfl
  | n v l r ihl ihr =>
    intro k
    show (Tr.n (match v with | some _ => some .dead | none => none) l.dead r.dead).get k = _
    cases k with
    | zero => cases v <;> rfl
    | succ k => rw [Tr.get_succ, Tr.get_succ, ihl, ihr]; cases Nat.beq (Nat.land k 1) 0 <;> rfl

theorem keepOnly_dom (t : Tr Blk) : ∀ (F : List Nat) (u : Tr Blk) (k : Nat), (keepOnly t u F).dom k = u.dom k
  | [], u, k => rfl
  | i :: l, u, k => by rw [keepOnly, keepOnly_dom t l, Tr.dom_put]

theorem mem_true {n : Nat} : ∀ {l : List Nat}, mem n l = true ↔ n ∈ l
  | [] => by simp [mem]
  | a :: l => by
    simp only [mem]
    cases h : Nat.beq n a
    · have : n ≠ a := fun e => by rw [e, Nat.beq_refl] at h; cases h
      simp [this, mem_true (l := l)]
    · rw [beq_true] at h
      simp [h]

theorem keepOnly_get (t : Tr Blk) : ∀ (F : List Nat) (u : Tr Blk) (k : Nat), (∀ k, u.dom k = t.dom k) → (keepOnly t u F).get k = if k ∈ F then t.get k else u.get k
  | [], u, k, _ => by simp [keepOnly]
  | i :: l, u, k, hd => by
    rw [keepOnly, keepOnly_get t l _ k fun k => by rw [Tr.dom_put, hd]]
    by_cases hk : k ∈ l
    · simp [hk]
    · rw [if_neg hk]
      by_cases he : k = i
      · subst he
        rw [if_pos (by simp)]
        cases hdom : t.dom k
        · rw [Tr.get_dom t k hdom, Tr.get_dom]
          rw [Tr.dom_put, hd, hdom]
        · exact Tr.get_put_dom _ _ _ (by rw [hd, hdom])
      · rw [if_neg (by simp [he, hk]), Tr.get_put_ne _ _ _ _ (Ne.symm he)]

theorem only_get (h : H) (F : List Nat) (k : Nat) : (h.only F).bs.get k = if k ∈ F then h.bs.get k else (h.bs.get k).map fun _ => .dead := by
  rw [← Tr.dead_get]
  exact keepOnly_get h.bs F _ k (Tr.dead_dom h.bs)
theorem only_dom (h : H) (F : List Nat) (k : Nat) : (h.only F).bs.dom k = h.bs.dom k := by
  show (keepOnly h.bs h.bs.dead F).dom k = _
  rw [keepOnly_dom, Tr.dead_dom]

theorem copyBack_dom (u : Tr Blk) : ∀ (W : List Nat) (t : Tr Blk) (k : Nat), (copyBack t u W).dom k = t.dom k
  | [], t, k => rfl
  | i :: l, t, k => by rw [copyBack, copyBack_dom u l, Tr.dom_put]
theorem copyBack_get (u : Tr Blk) : ∀ (W : List Nat) (t : Tr Blk) (k : Nat), (∀ k, u.dom k = t.dom k) → (copyBack t u W).get k = if k ∈ W then u.get k else t.get k
  | [], t, k, _ => by simp [copyBack]
  | i :: l, t, k, hd => by
    rw [copyBack, copyBack_get u l _ k fun k => by rw [Tr.dom_put, hd]]
    by_cases hk : k ∈ l
    · simp [hk]
    · rw [if_neg hk]
      by_cases he : k = i
      · subst he
        rw [if_pos (by simp)]
        cases hdom : t.dom k
        · rw [Tr.get_dom u k (by rw [hd, hdom]), Tr.get_dom]
          rw [Tr.dom_put, hdom]
        · exact Tr.get_put_dom _ _ _ hdom
      · rw [if_neg (by simp [he, hk]), Tr.get_put_ne _ _ _ _ (Ne.symm he)]

theorem onlyFr_get (fr : Fr) : ∀ (l : List Nat) (u : Fr) (t : Nat) (v : V), (onlyFr fr u l).get t = some v → fr.get t = some v ∨ u.get t = some v
  | [], u, t, v, h => .inr h
  | i :: l, u, t, v, h => by
    rcases onlyFr_get fr l _ t v h with h' | h'
    · exact .inl h'
    · by_cases he : t = i
      · subst he
        have := Tr.get_put_same _ _ _ _ h'
        exact .inl this
      · rw [Tr.get_put_ne _ _ _ _ (Ne.symm he)] at h'
        exact .inr h'

/-- Only these places have turned. -/
def Near (W : List Nat) (t t' : Tr Blk) : Prop := (∀ k, t'.dom k = t.dom k) ∧ (∀ k, k ∉ W → t'.get k = t.get k) ∧ ∀ k, t.get k ≠ none → t'.get k ≠ none
theorem Near.refl (W : List Nat) (t : Tr Blk) : Near W t t := ⟨fun _ => rfl, fun _ _ => rfl, fun _ h => h⟩
theorem Near.put {W : List Nat} {t t' : Tr Blk} (h : Near W t t') {i : Nat} (hi : i ∈ W) (x : Blk) : Near W t (t'.put i (some x)) := by
  refine ⟨fun k => by rw [Tr.dom_put, h.1], fun k hk => by rw [Tr.get_put_ne _ _ _ _ (show i ≠ k from fun e => by subst e; exact hk hi), h.2.1 k hk], fun k hk => ?_⟩
  have h2 := h.2.2 k hk
  by_cases e : i = k
  · subst e
    rw [Tr.get_put_some]
    · simp
    · cases hg : t'.get i with
      | none => exact absurd hg h2
      | some y => rfl
  · rw [Tr.get_put_ne _ _ _ _ e]; exact h2
theorem Near.putAll {W : List Nat} {t : Tr Blk} : ∀ (l : List (Nat × Blk)) {t' : Tr Blk}, Near W t t' → (∀ i ∈ fsts l, i ∈ W) → Near W t (putAll t' l)
  | [], t', h, _ => h
  | (i, b) :: l, t', h, hl => Near.putAll l (h.put (hl i (by simp [fsts])) _) fun j hj => hl j (by simp [fsts, hj])

theorem add_near {h h' : H} {id : Nat} {b : Blk} {W : List Nat} (hi : id ∈ W) (e : h.add id b = some h') : Near W h.bs h'.bs := by
  unfold H.add at e
  split at e
  · split at e
    · cases e; exact (Near.refl W h.bs).put hi _
    · cases e
  · cases e
theorem wr_near {h h' : H} {b o : Nat} {v : V} {k : Bool} {W : List Nat} (hi : b ∈ W) (e : h.wr b o v = some (h', k)) : Near W h.bs h'.bs := by
  have up : ∀ x : Blk, Near W h.bs (h.upd b x).bs := fun x => (Near.refl W h.bs).put hi _
  unfold H.wr at e
  split at e
  · rename_i k1 l k2 n hb
    cases hk : decide (k2 = k1) <;> simp only [hk, cond_true, cond_false, reduceCtorEq, Option.some.injEq, Prod.mk.injEq] at e
    obtain ⟨rfl, _⟩ := e; exact up _
  · rename_i k1 l k2 n hb
    cases hk : decide (k2 = k1) <;> simp only [hk, cond_true, cond_false, reduceCtorEq, Option.some.injEq, Prod.mk.injEq] at e
    obtain ⟨rfl, _⟩ := e; exact up _
  · simp only [Option.some.injEq, Prod.mk.injEq] at e
    obtain ⟨rfl, _⟩ := e; exact up _
  · rename_i l m hb
    cases hk : allOne m <;> simp only [hk, cond_true, cond_false, reduceCtorEq, Option.some.injEq, Prod.mk.injEq] at e
    obtain ⟨rfl, _⟩ := e; exact up _
  · rename_i v0 x0 v1 l hb h1 h2
    cases hk : one v0 <;> simp only [hk, cond_true, cond_false, reduceCtorEq, Option.some.injEq, Prod.mk.injEq] at e
    obtain ⟨rfl, _⟩ := e; exact up _
  · cases e

section
variable {C : Cfg} {fr : Fr} {h h' : H} {v : V} {k : Bool}

theorem newV_near {id : Nat} {u : V} (e : newV h id u = some (v, h', k)) : Near [id] h.bs h'.bs := by
  unfold newV at e
  split at e
  · split at e
    · rename_i h1 h2; cases e; exact add_near (by simp) h2
    · cases e
  · cases e

/-- An operation turns no more than that. -/
theorem opE_near {id : Nat} {o : Op} (e : opE C id fr h o = some (v, h', k)) : Near (touched C id fr h o) h.bs h'.bs := by
  have same : ∀ {x : R}, x = some (v, h', k) → (∀ v1 h1 k1, x = some (v1, h1, k1) → h1 = h) → ∀ W, Near W h.bs h'.bs := fun hx hh W => by rw [hh _ _ _ hx]; exact Near.refl _ _
  unfold opE at e
  split at e
  · cases e; exact Near.refl _ _
  · cases e; exact Near.refl _ _
  · unfold opPick at e; split at e <;> cases e; exact Near.refl _ _
  · exact newV_near e
  · exact newV_near e
  · unfold opBuild at e; (repeat' split at e) <;> cases e <;> exact Near.refl _ _
  · unfold opLoad at e; (repeat' split at e) <;> cases e <;> exact Near.refl _ _
  · rename_i t x y
    unfold opStore at e
    split at e
    · rename_i b o m hb hm
      split at e
      · rename_i h1 k1 hw
        cases e
        exact wr_near (by simp [touched, hb, idV]) hw
      · cases e
    · cases e
  · unfold opNil at e; split at e <;> cases e <;> exact Near.refl _ _
  · unfold opBin eqScal at e
    ((try simp only [cond_eq_ite] at e); (repeat' split at e) <;> first | (cases e; done) | (cases e; exact Near.refl _ _))
  · unfold opUn at e
    ((try simp only [cond_eq_ite] at e); (repeat' split at e) <;> first | (cases e; done) | (cases e; exact Near.refl _ _))
  · rename_i s0 t x
    split at e
    · rename_i v1 h1 k1 he
      cases e
      unfold opConv at he
      split at he
      · split at he; cases he; exact Near.refl _ _
      · rename_i el l hus hu hb
        split at he
        · split at he
          · rename_i h2 hadd
            cases he
            exact add_near (by simp [touched, hb]) hadd
          · cases he
        · cases he
      · split at he <;> cases he; exact Near.refl _ _
      · split at he <;> cases he; exact Near.refl _ _
      · cases he; exact Near.refl _ _
      · cases he
    · cases e
  · rename_i t l c
    unfold opMake at e
    split at e
    · split at e
      · split at e
        · rename_i h1 h2; cases e; exact add_near (by simp [touched]) h2
        · cases e
      · cases e
    · cases e
  · split at e
    · unfold opSlice at e
      ((try simp only [cond_eq_ite] at e); (repeat' split at e) <;> first | (cases e; done) | (cases e; exact Near.refl _ _))
    · cases e
  · unfold opFieldA at e
    ((try simp only [cond_eq_ite] at e); (repeat' split at e) <;> first | (cases e; done) | (cases e; exact Near.refl _ _))
  · unfold opField at e
    ((try simp only [cond_eq_ite] at e); (repeat' split at e) <;> first | (cases e; done) | (cases e; exact Near.refl _ _))
  · unfold opIndexA at e
    ((try simp only [cond_eq_ite] at e); (repeat' split at e) <;> first | (cases e; done) | (cases e; exact Near.refl _ _))
  · unfold opIndex at e
    ((try simp only [cond_eq_ite] at e); (repeat' split at e) <;> first | (cases e; done) | (cases e; exact Near.refl _ _))
  · unfold opExtract at e; (repeat' split at e) <;> cases e <;> exact Near.refl _ _
  · rename_i c
    unfold opCall at e
    split at e
    · rename_i f hc
      split at e
      · cases e; exact Near.refl _ _
      · rename_i hov
        split at e
        · rename_i v1 l1 n1 k1 hO
          cases e
          refine Near.putAll l1 (Near.refl _ _) fun i hi => ?_
          simp only [touched, hc, hov, hO]
          exact hi
        · cases e
    · rename_i b hc
      split at e
      · rename_i t ts u us hts hus
        split at e
        · unfold opLen at e
          ((try simp only [cond_eq_ite] at e); (repeat' split at e) <;> first | (cases e; done) | (cases e; exact Near.refl _ _))
        · unfold opMin at e
          ((try simp only [cond_eq_ite] at e); (repeat' split at e) <;> first | (cases e; done) | (cases e; exact Near.refl _ _))
        · unfold opMin at e
          ((try simp only [cond_eq_ite] at e); (repeat' split at e) <;> first | (cases e; done) | (cases e; exact Near.refl _ _))
        · unfold opCopy at e
          split at e
          · rename_i b0 o0 n0 z0 s0 heq
            (repeat' split at e) <;> first | (cases e; done) | skip
            rename_i hw
            cases e
            cases heq
            exact wr_near (by simp [touched, hc, hus, idV]) hw
          · cases e
        · split at e
          · unfold opAppend at e
            split at e
            · rename_i s0 heq
              (repeat' split at e) <;> first | (cases e; done) | skip
              rename_i hadd
              cases e
              cases heq
              exact add_near (by simp [touched, hc, hus]) hadd
            · rename_i b0 o0 n0 z0 s0 heq
              (repeat' split at e) <;> first | (cases e; done) | skip
              rename_i hadd
              cases e
              cases heq
              have h2 := add_near (W := touched C id fr h (.call c)) (by simp [touched, hc, hus]) hadd
              have h1 : Near (touched C id fr h (.call c)) h.bs (h.bs.put b0 (some .dead)) := (Near.refl _ _).put (by simp [touched, hc, hus, idV]) .dead
              exact ⟨fun k => (h2.1 k).trans (h1.1 k), fun k hk => (h2.2.1 k hk).trans (h1.2.1 k hk), fun k hk => h2.2.2 k (h1.2.2 k hk)⟩
            · cases e
          · cases e
        · cases e
      · cases e
    · cases e
  · cases e
end
end Ev
end Go
