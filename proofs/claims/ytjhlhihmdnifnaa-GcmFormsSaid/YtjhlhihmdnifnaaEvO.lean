/- A function's summary over its own blocks as an oracle over any memory, by a list of numbers. -/
import Derived.Test.YtjhlhihmdnifnaaEvKnow
set_option linter.unusedVariables false
namespace Go
namespace Ev
theorem get_some_dom {α : Type} {t : Tr α} {k : Nat} {y : α} (h : t.get k = some y) : t.dom k = true := by
  cases hd : t.dom k
  · rw [Tr.get_dom t k hd] at h; cases h
  · rfl
def rn (R : List (Nat × Nat)) (i : Nat) : Nat := match look R i with
  | some j => j
  | none => i
def rnL (R : List (Nat × Nat)) : List Nat → List Nat
  | [] => []
  | i :: l => rn R i :: rnL R l
noncomputable def relM (R : List (Nat × Nat)) : List (Nat × Blk) → List (Nat × Blk)
  | [] => []
  | (i, b) :: l => (rn R i, relB (rn R) b) :: relM R l
def distinctB : List Nat → Bool
  | [] => true
  | a :: l => cond (mem a l) false (distinctB l)
noncomputable def newOk (R : List (Nat × Nat)) (m0 : List (Nat × Blk)) (h : H) : List Nat → Bool
  | [] => true
  | i :: l => cond (cond (hasT (hpT m0) i) true (cond (hasT h.bs (rn R i)) false (h.bs.dom (rn R i)))) (newOk R m0 h l) false
noncomputable def embOk (R : List (Nat × Nat)) (m0 m1 : List (Nat × Blk)) (h : H) : Bool :=
  cond (distinctB (rnL R (keys m1))) (cond (allHas (hasT (hpT m1)) (keys m1)) (newOk R m0 h (keys m1)) false) false
noncomputable def At0 (R : List (Nat × Nat)) (h : H) : List (Nat × Blk) → Prop
  | [] => True
  | (i, b) :: l => h.bs.get (rn R i) = some (relB (rn R) b) ∧ At0 R h l
theorem At0.get {R : List (Nat × Nat)} {h : H} : ∀ {m : List (Nat × Blk)}, At0 R h m → ∀ {i : Nat} {b : Blk}, look m i = some b → h.bs.get (rn R i) = some (relB (rn R) b)
  | (j, c) :: l, ⟨h1, h2⟩, i, b, hl => by
    simp only [look] at hl
    cases hb : Nat.beq j i <;> simp only [hb, cond_true, cond_false] at hl
    · exact At0.get h2 hl
    · cases hl; rw [← beq_true.1 hb]; exact h1
theorem mem_iff {a : Nat} : ∀ {l : List Nat}, mem a l = true ↔ a ∈ l
  | [] => by simp [mem]
  | b :: l => by
    simp only [mem]
    cases h : Nat.beq a b <;> simp only [cond_true, cond_false, List.mem_cons]
    · rw [mem_iff (l := l)]
      constructor
      · exact Or.inr
      · rintro (rfl | h')
        · simp at h
        · exact h'
    · simp [beq_true.1 h]
theorem rnL_mem {R : List (Nat × Nat)} {i : Nat} : ∀ {l : List Nat}, i ∈ l → rn R i ∈ rnL R l
  | a :: l, h => by
    rcases List.mem_cons.1 h with rfl | h
    · exact List.mem_cons_self
    · exact List.mem_cons_of_mem _ (rnL_mem h)
theorem distinct_inj {R : List (Nat × Nat)} : ∀ {l : List Nat}, distinctB (rnL R l) = true → ∀ i j, i ∈ l → j ∈ l → rn R i = rn R j → i = j
  | a :: l, h, i, j, hi, hj, e => by
    simp only [rnL, distinctB] at h
    cases hm : mem (rn R a) (rnL R l) <;> simp only [hm, cond_true, cond_false, Bool.false_eq_true] at h
    have hm' : rn R a ∉ rnL R l := fun h => by rw [mem_iff.2 h] at hm; cases hm
    rcases List.mem_cons.1 hi with hi | hi <;> rcases List.mem_cons.1 hj with hj | hj
    · rw [hi, hj]
    · rw [hi] at e; exact absurd (e ▸ rnL_mem hj) hm'
    · rw [hj] at e; exact absurd (e ▸ rnL_mem hi) hm'
    · exact distinct_inj h i j hi hj e
theorem look_keys {α : Type} : ∀ {l : List (Nat × α)} {i : Nat} {a : α}, look l i = some a → i ∈ keys l
  | (j, c) :: l, i, a, h => by
    simp only [look] at h
    cases hb : Nat.beq j i <;> simp only [hb, cond_true, cond_false] at h
    · exact List.mem_cons_of_mem _ (look_keys h)
    · rw [beq_true.1 hb]; exact List.mem_cons_self
theorem newOk_mem {R : List (Nat × Nat)} {m0 : List (Nat × Blk)} {h : H} : ∀ {l : List Nat}, newOk R m0 h l = true → ∀ i ∈ l, hasT (hpT m0) i = true ∨ (h.bs.get (rn R i) = none ∧ h.bs.dom (rn R i) = true)
  | a :: l, hk, i, hi => by
    simp only [newOk] at hk
    cases hc : (cond (hasT (hpT m0) a) true (cond (hasT h.bs (rn R a)) false (h.bs.dom (rn R a)))) <;> simp only [hc, cond_true, cond_false, Bool.false_eq_true] at hk
    rcases List.mem_cons.1 hi with rfl | hi
    · cases h1 : hasT (hpT m0) i
      · rw [h1] at hc
        cases h2 : hasT h.bs (rn R i) <;> rw [h2] at hc <;> simp only [cond_true, cond_false, Bool.false_eq_true] at hc
        refine .inr ⟨?_, hc⟩
        cases hg : h.bs.get (rn R i) with
        | none => rfl
        | some b => rw [hasT_true.2 (by rw [hg]; simp)] at h2; cases h2
      · exact .inl rfl
    · exact newOk_mem hk i hi
theorem putAll_dom : ∀ (l : List (Nat × Blk)) (t : Tr Blk) (k : Nat), (putAll t l).dom k = t.dom k
  | [], t, k => rfl
  | (i, b) :: l, t, k => by rw [putAll, putAll_dom l, Tr.dom_put]
theorem putAll_out : ∀ (l : List (Nat × Blk)) (t : Tr Blk) (k : Nat), (∀ i ∈ keys l, i ≠ k) → (putAll t l).get k = t.get k
  | [], t, k, h => rfl
  | (i, b) :: l, t, k, h => by
    rw [putAll, putAll_out l _ k fun j hj => h j (List.mem_cons_of_mem _ hj), Tr.get_put_ne _ _ _ _ (h i List.mem_cons_self)]
theorem relM_keys (R : List (Nat × Nat)) : ∀ m : List (Nat × Blk), keys (relM R m) = rnL R (keys m)
  | [] => rfl
  | (i, b) :: l => congrArg (rn R i :: ·) (relM_keys R l)
theorem mem_rnL {R : List (Nat × Nat)} {j : Nat} : ∀ {l : List Nat}, j ∈ rnL R l → ∃ i ∈ l, rn R i = j
  | a :: l, h => by
    rcases List.mem_cons.1 h with rfl | h
    · exact ⟨a, List.mem_cons_self, rfl⟩
    · obtain ⟨i, h1, h2⟩ := mem_rnL h
      exact ⟨i, List.mem_cons_of_mem _ h1, h2⟩
theorem putAll_in {R : List (Nat × Nat)} : ∀ (m : List (Nat × Blk)) (t : Tr Blk), distinctB (rnL R (keys m)) = true → (∀ i ∈ keys m, t.dom (rn R i) = true) → ∀ i b, look m i = some b → (putAll t (relM R m)).get (rn R i) = some (relB (rn R) b)
  | (j, c) :: l, t, hd, hdom, i, b, hl => by
    simp only [keys, rnL, distinctB] at hd
    cases hm : mem (rn R j) (rnL R (keys l)) <;> simp only [hm, cond_true, cond_false, Bool.false_eq_true] at hd
    simp only [look] at hl
    cases hb : Nat.beq j i <;> simp only [hb, cond_true, cond_false] at hl
    · exact putAll_in l _ hd (fun k hk => by rw [Tr.dom_put]; exact hdom k (List.mem_cons_of_mem _ hk)) i b hl
    · cases hl
      have hji := beq_true.1 hb
      subst hji
      show (putAll (t.put (rn R j) (some (relB (rn R) c))) (relM R l)).get (rn R j) = _
      rw [putAll_out _ _ _ fun k hk he => by
        rw [relM_keys] at hk
        rw [he] at hk
        rw [mem_iff.2 hk] at hm; cases hm]
      exact Tr.get_put_dom _ _ _ (hdom j List.mem_cons_self)
theorem FSpec.embedL {P : Program} {f : Nat} {args0 : List V} {m0 m1 : List (Nat × Blk)} {n0 n1 : Nat} {v0 : V} (hs : FSpec P f args0 ⟨hpT m0, n0⟩ v0 ⟨hpT m1, n1⟩)
    (ok0 : okArgs (hasT (hpT m0)) args0 = true) (okB : okBs (hasT (hpT m0)) m0 = true) (ok1 : okAll [(0, v0)] m1 (keys m0) = true)
    (R : List (Nat × Nat)) {h : H} (n : Nat) (h0 : At0 R h m0) (hk : embOk R m0 m1 h = true) : FSpec P f (relL (relN (rn R) 5) args0) h (relN (rn R) 5 v0) ⟨putAll h.bs (relM R m1), n⟩ := by
  unfold embOk at hk
  cases hd : distinctB (rnL R (keys m1)) <;> simp only [hd, cond_true, cond_false, Bool.false_eq_true] at hk
  cases ha : allHas (hasT (hpT m1)) (keys m1) <;> simp only [ha, cond_true, cond_false, Bool.false_eq_true] at hk
  have hdom : ∀ i ∈ keys m1, h.bs.dom (rn R i) = true := fun i hi => by
    rcases newOk_mem hk i hi with h1 | h1
    · cases hg : (hpT m0).get i with
      | none => exact absurd hg (hasT_true.1 h1)
      | some b => exact get_some_dom (h0.get (hpT_get hg))
    · exact h1.2
  have key : ∀ {i}, (hpT m1).get i ≠ none → i ∈ keys m1 := fun {i} hi => by
    cases hg : (hpT m1).get i with
    | none => exact absurd hg hi
    | some b => exact look_keys (hpT_get hg)
  exact FSpec.embed hs ok0 okB ok1 (r := rn R) (h := h) (h' := ⟨putAll h.bs (relM R m1), n⟩)
    (fun i j hi hj e => distinct_inj hd i j (key hi) (key hj) e)
    (fun i b hb => h0.get (hpT_get hb))
    (fun i hi hn => (newOk_mem hk i (key hi)).resolve_left (fun h1 => hasT_true.1 h1 hn) |>.1)
    (fun i b hb => putAll_in m1 h.bs hd hdom i b (hpT_get hb))
    (fun j hj => putAll_out _ _ _ fun k hk' he => by
      rw [relM_keys] at hk'
      obtain ⟨i, hi, e⟩ := mem_rnL hk'
      exact hj i (hasT_true.1 (allHas_mem ha i hi)) (e.trans he))
/-- A call that only reads. -/
theorem FSpec.embed0 {P : Program} {f : Nat} {args0 : List V} {m0 : List (Nat × Blk)} {n0 n1 : Nat} {v0 : V} (hs : FSpec P f args0 ⟨hpT m0, n0⟩ v0 ⟨hpT m0, n1⟩)
    (ok0 : okArgs (hasT (hpT m0)) args0 = true) (okB : okBs (hasT (hpT m0)) m0 = true) (ok1 : okAll [(0, v0)] m0 (keys m0) = true)
    (R : List (Nat × Nat)) {h : H} (n : Nat) (h0 : At0 R h m0) (hk : distinctB (rnL R (keys m0)) = true) : FSpec P f (relL (relN (rn R) 5) args0) h (relN (rn R) 5 v0) ⟨putAll h.bs [], n⟩ := by
  have key : ∀ {i}, (hpT m0).get i ≠ none → i ∈ keys m0 := fun {i} hi => by
    cases hg : (hpT m0).get i with
    | none => exact absurd hg hi
    | some b => exact look_keys (hpT_get hg)
  exact FSpec.embed hs ok0 okB ok1 (r := rn R) (h := h) (h' := ⟨putAll h.bs [], n⟩)
    (fun i j hi hj e => distinct_inj hk i j (key hi) (key hj) e)
    (fun i b hb => h0.get (hpT_get hb))
    (fun i hi hn => absurd hn hi)
    (fun i b hb => h0.get (hpT_get hb))
    (fun j hj => rfl)
end Ev
end Go
