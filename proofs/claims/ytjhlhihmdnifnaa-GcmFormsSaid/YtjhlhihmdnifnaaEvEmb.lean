/- A function's summary over its own blocks holds over any memory that holds these blocks. -/
import Derived.Test.YtjhlhihmdnifnaaEvUse
set_option linter.unusedVariables false
namespace Go
namespace Ev
section
variable {C : Cfg}

def relL (f : V → V) : List V → List V
  | [] => []
  | v :: l => f v :: relL f l
/-- A value under other block numbers. -/
noncomputable def relN (r : Nat → Nat) (d : Nat) : V → V := Nat.rec (fun v => v) (fun _ f v => match v with
  | .ptr b o => .ptr (r b) o
  | .slice b o n z => .slice (r b) o n z
  | .agg l => .agg (relL f l)
  | .tuple l => .tuple (relL f l)
  | .iface t v => .iface t (f v)
  | v => v) d
noncomputable def relB (r : Nat → Nat) : Blk → Blk
  | .vals l => .vals (relL (relN r 5) l)
  | b => b

theorem relL_len (f : V → V) : ∀ l : List V, len (relL f l) = len l
  | [] => rfl
  | a :: l => by simp [relL, len, relL_len f l]
theorem relL_nth (f : V → V) : ∀ (l : List V) (i : Nat), nth (relL f l) i = (nth l i).map f
  | [], i => rfl
  | a :: l, 0 => rfl
  | a :: l, i + 1 => relL_nth f l i
theorem relB_live (r : Nat → Nat) (b : Blk) : (relB r b).live = b.live := by cases b <;> rfl
theorem relB_size (r : Nat → Nat) (b : Blk) : (relB r b).size = b.size := by cases b <;> simp [relB, Blk.size, relL_len]
theorem relN_one (r : Nat → Nat) (v : V) : one (relN r 5 v) = one v := by cases v <;> rfl

theorem relN_VR {ρ σ : Ren} {r : Nat → Nat} {p : Nat → Bool} (hp : ∀ i, p i = true → σ i = ρ (r i)) : ∀ (d : Nat) (v : V) (x : Value), okIdsN d p v = true → (VR ρ (relN r d v) x ↔ VR σ v x)
  | 0, v, x, h => by cases h
  | d + 1, v, x, h => by
    have all : ∀ (l : List V) (m : List Value), noIdsN.allB (okIdsN d p) l = true → (VRs ρ (relL (relN r d) l) m ↔ VRs σ l m) := fun l => by
      induction l with
      | nil => exact fun m _ => Iff.rfl
      | cons v l ih =>
        intro m hl
        simp only [noIdsN.allB] at hl
        cases hv : okIdsN d p v <;> simp [hv] at hl
        constructor
        · rintro ⟨y, q, rfl, h1, h2⟩; exact ⟨y, q, rfl, (relN_VR hp d v y hv).1 h1, (ih q hl).1 h2⟩
        · rintro ⟨y, q, rfl, h1, h2⟩; exact ⟨y, q, rfl, (relN_VR hp d v y hv).2 h1, (ih q hl).2 h2⟩
    cases v
    case ptr b o =>
      have hb : σ b = ρ (r b) := hp b h
      show (∃ l, ρ (r b) = some l ∧ _) ↔ (∃ l, σ b = some l ∧ _)
      rw [hb]
    case slice b o n z =>
      have hb : σ b = ρ (r b) := hp b h
      show (∃ a cap, _ ∧ _ ∧ (_ ∨ ∃ l, ρ (r b) = some l ∧ _)) ↔ (∃ a cap, _ ∧ _ ∧ (_ ∨ ∃ l, σ b = some l ∧ _))
      rw [hb]
    case agg l =>
      constructor
      · rintro ⟨m, rfl, h1⟩; exact ⟨m, rfl, (all l m h).1 h1⟩
      · rintro ⟨m, rfl, h1⟩; exact ⟨m, rfl, (all l m h).2 h1⟩
    case tuple l =>
      constructor
      · rintro ⟨m, rfl, h1⟩; exact ⟨m, rfl, (all l m h).1 h1⟩
      · rintro ⟨m, rfl, h1⟩; exact ⟨m, rfl, (all l m h).2 h1⟩
    case iface t u =>
      constructor
      · rintro ⟨y, rfl, h1⟩; exact ⟨y, rfl, (relN_VR hp d u y h).1 h1⟩
      · rintro ⟨y, rfl, h1⟩; exact ⟨y, rfl, (relN_VR hp d u y h).2 h1⟩
    all_goals exact Iff.rfl

def okArgs (p : Nat → Bool) : List V → Bool
  | [] => true
  | v :: l => cond (okIdsN 5 p v) (okArgs p l) false
theorem relL_VRs {ρ σ : Ren} {r : Nat → Nat} {p : Nat → Bool} (hp : ∀ i, p i = true → σ i = ρ (r i)) : ∀ (l : List V) (m : List Value), okArgs p l = true → VRs ρ (relL (relN r 5) l) m → VRs σ l m
  | [], m, _, h => h
  | v :: l, m, hk, ⟨y, q, e, h1, h2⟩ => by
    simp only [okArgs] at hk
    cases hv : okIdsN 5 p v <;> simp [hv] at hk
    exact ⟨y, q, e, (relN_VR hp 5 v y hv).1 h1, relL_VRs hp l q hk h2⟩

theorem allB_nth {p : Nat → Bool} : ∀ {l : List V} {i : Nat} {v : V}, noIdsN.allB (okIdsN 5 p) l = true → nth l i = some v → okIdsN 5 p v = true := fun {l i v} h hn => by
  rw [nth_eq] at hn
  exact allB_true h v (List.mem_of_getElem? hn)

theorem relB_BR {ρ σ : Ren} {r : Nat → Nat} {p : Nat → Bool} (hp : ∀ i, p i = true → σ i = ρ (r i)) {b : Blk} {cs : Array Value} {n : Nat} (hk : okBlk p (some b) = true) : BR ρ (relB r b) cs n ↔ BR σ b cs n := by
  cases b
  case vals l =>
    constructor
    · intro h i v hv
      have := h i (relN r 5 v) (by rw [relL_nth, hv]; rfl)
      rw [relN_one] at this
      obtain ⟨h1, x, h2, h3⟩ := this
      exact ⟨h1, x, h2, (relN_VR hp 5 v x (allB_nth hk hv)).1 h3⟩
    · intro h i v hv
      rw [relL_nth] at hv
      cases hn : nth l i with
      | none => rw [hn] at hv; cases hv
      | some u =>
        rw [hn] at hv; cases hv
        obtain ⟨h1, x, h2, h3⟩ := h i u hn
        exact ⟨by rw [relN_one]; exact h1, x, h2, (relN_VR hp 5 u x (allB_nth hk hn)).2 h3⟩
  all_goals exact Iff.rfl

theorem FSpec.embed {P : Program} {f : Nat} {args0 : List V} {m0 m1 : List (Nat × Blk)} {n0 n1 : Nat} {v0 : V} (hs : FSpec P f args0 ⟨hpT m0, n0⟩ v0 ⟨hpT m1, n1⟩)
    (ok0 : okArgs (hasT (hpT m0)) args0 = true) (okB : okBs (hasT (hpT m0)) m0 = true) (ok1 : okAll [(0, v0)] m1 (keys m0) = true)
    {r : Nat → Nat} {h h' : H} (inj : ∀ i j, (hpT m1).get i ≠ none → (hpT m1).get j ≠ none → r i = r j → i = j)
    (h0 : ∀ i b, (hpT m0).get i = some b → h.bs.get (r i) = some (relB r b))
    (hnew : ∀ i, (hpT m1).get i ≠ none → (hpT m0).get i = none → h.bs.get (r i) = none)
    (h1 : ∀ i b, (hpT m1).get i = some b → h'.bs.get (r i) = some (relB r b))
    (hrest : ∀ j, (∀ i, (hpT m1).get i ≠ none → r i ≠ j) → h'.bs.get j = h.bs.get j) : FSpec P f (relL (relN r 5) args0) h (relN r 5 v0) h' := by
  intro own ρ w as hH hargs
  obtain ⟨okv, okb1, oka⟩ := okAll_true ok1
  have h01 : ∀ i, (hpT m0).get i ≠ none → (hpT m1).get i ≠ none := fun i hi => by
    cases hb : (hpT m0).get i with
    | none => exact absurd hb hi
    | some b =>
      have hm := look_mem (hpT_get hb)
      have hk : i ∈ keys m0 := by
        have : ∀ (l : List (Nat × Blk)), (i, b) ∈ l → i ∈ keys l := fun l => by
          induction l with
          | nil => intro h; cases h
          | cons a l ih =>
            intro h
            rcases List.mem_cons.1 h with h' | h'
            · subst h'; simp [keys]
            · obtain ⟨a1, a2⟩ := a; simp [keys, ih h']
        exact this m0 hm
      exact hasT_true.1 (allHas_mem oka i hk)
  let σ : Ren := fun i => if hasT (hpT m0) i = true then ρ (r i) else none
  have hσ : ∀ i, hasT (hpT m0) i = true → σ i = ρ (r i) := fun i hi => by simp [σ, hi]
  let own0 : Nat → Prop := fun k => (∃ i l b, (hpT m0).get i = some b ∧ b.live = true ∧ σ i = some l ∧ l.blk = k) ∨ w.heap.size ≤ k
  have own_of : ∀ k, own0 k → own k := by
    rintro k (⟨i, l, b, hi, hlive, hl, rfl⟩ | hk)
    · have hh : hasT (hpT m0) i = true := hasT_true.2 (by rw [hi]; simp)
      obtain ⟨l', cs, ty, fz, q1, q2, q3, _⟩ := hH.blk (r i) (relB r b) (h0 i b hi) (by rw [relB_live]; exact hlive)
      rw [hσ i hh, q1] at hl; cases hl
      exact q3
    · exact hH.own k hk
  have hG : HG own0 σ (hpT m0).get w := by
    refine ⟨fun i b hi hlive => ?_, fun i j b c l s hi hb hj hc hl hs' he => ?_, fun i hi => ?_, fun k hk => .inr hk⟩
    · have hh : hasT (hpT m0) i = true := hasT_true.2 (by rw [hi]; simp)
      obtain ⟨l', cs, ty, fz, q1, q2, q3, q4, q5, q6⟩ := hH.blk (r i) (relB r b) (h0 i b hi) (by rw [relB_live]; exact hlive)
      have hl : σ i = some l' := by rw [hσ i hh]; exact q1
      refine ⟨l', cs, ty, fz, hl, q2, .inl ⟨i, l', b, hi, hlive, hl, rfl⟩, (relB_BR hσ (okBs_mem okB i b (look_mem (hpT_get hi)))).1 q4, by rw [relB_size] at q5; exact q5, q6⟩
    · have h1' : hasT (hpT m0) i = true := hasT_true.2 (by rw [hi]; simp)
      have h2' : hasT (hpT m0) j = true := hasT_true.2 (by rw [hj]; simp)
      rw [hσ i h1'] at hl
      rw [hσ j h2'] at hs'
      exact inj i j (h01 i (by rw [hi]; simp)) (h01 j (by rw [hj]; simp)) (hH.inj (r i) (r j) _ _ l s (h0 i b hi) (by rw [relB_live]; exact hb) (h0 j c hj) (by rw [relB_live]; exact hc) hl hs' he)
    · have : ¬ hasT (hpT m0) i = true := fun h => hasT_true.1 h hi
      simp [σ, this]
  refine (hs own0 σ w as hG (relL_VRs hσ args0 as ok0 hargs)).mono ?_
  rintro e w' ⟨σ', y, hle, rfl, hv, hG', hF, hN⟩
  classical
  let ρ' : Ren := fun j => if hx : ∃ i, (hpT m1).get i ≠ none ∧ (hpT m0).get i = none ∧ r i = j then σ' (Classical.choose hx) else ρ j
  have hout : ∀ j, (∀ i, (hpT m1).get i ≠ none → (hpT m0).get i = none → r i ≠ j) → ρ' j = ρ j := fun j hj => by
    have : ¬ ∃ i, (hpT m1).get i ≠ none ∧ (hpT m0).get i = none ∧ r i = j := fun ⟨i, a, b, c⟩ => hj i a b c
    simp only [ρ', dif_neg this]
  have hin : ∀ i, (hpT m1).get i ≠ none → ρ' (r i) = σ' i := fun i hi => by
    by_cases hn : (hpT m0).get i = none
    · have hx : ∃ i', (hpT m1).get i' ≠ none ∧ (hpT m0).get i' = none ∧ r i' = r i := ⟨i, hi, hn, rfl⟩
      simp only [ρ', dif_pos hx]
      have hc := Classical.choose_spec hx
      rw [inj _ i hc.1 hi hc.2.2]
    · rw [hout (r i) fun i' a b c => hn (by rw [← inj i' i a hi c]; exact b)]
      have hh : hasT (hpT m0) i = true := hasT_true.2 hn
      cases hs' : σ' i with
      | none =>
        cases hr : ρ (r i) with
        | none => rfl
        | some l => rw [hle i l (by rw [hσ i hh]; exact hr)] at hs'; cases hs'
      | some l =>
        rcases hN i l hs' with h2 | h2
        · rw [hσ i hh] at h2; exact h2
        · exact absurd h2 hn
  have hle' : ρ.le ρ' := fun j l hj => by
    by_cases hx : ∃ i, (hpT m1).get i ≠ none ∧ (hpT m0).get i = none ∧ r i = j
    · obtain ⟨i, a, b, rfl⟩ := hx
      rw [hH.fresh _ (hnew i a b)] at hj; cases hj
    · simp only [ρ', dif_neg hx]; exact hj
  have hp1 : ∀ i, hasT (hpT m1) i = true → σ' i = ρ' (r i) := fun i hi => (hin i (hasT_true.1 hi)).symm
  refine ⟨ρ', y, hle', rfl, (relN_VR hp1 5 v0 y (okVs_mem okv 0 v0 (by simp))).2 hv, ⟨fun j b hj hlive => ?_, fun i j b c l s hi hb hj hc hl hs' he => ?_, fun j hj => ?_, fun k hk => hH.own k (Nat.le_trans hF.size hk)⟩, ⟨hF.os, hF.tape, hF.output, hF.size, fun k hk => hF.block k fun h => hk (own_of k h)⟩, fun j l hj => ?_⟩
  · by_cases hx : ∃ i, (hpT m1).get i ≠ none ∧ r i = j
    · obtain ⟨i, hi, rfl⟩ := hx
      cases hb1 : (hpT m1).get i with
      | none => exact absurd hb1 hi
      | some b1 =>
        rw [h1 i b1 hb1] at hj; cases hj
        obtain ⟨l, cs, ty, fz, q1, q2, q3, q4, q5, q6⟩ := hG'.blk i b1 hb1 (by rw [relB_live] at hlive; exact hlive)
        refine ⟨l, cs, ty, fz, by rw [hin i hi]; exact q1, q2, own_of _ q3, (relB_BR hp1 (okBs_mem okb1 i b1 (look_mem (hpT_get hb1)))).2 q4, by rw [relB_size]; exact q5, q6⟩
    · have hno : ∀ i, (hpT m1).get i ≠ none → r i ≠ j := fun i hi he => hx ⟨i, hi, he⟩
      rw [hrest j hno] at hj
      obtain ⟨l, cs, ty, fz, q1, q2, q3, q4, q5⟩ := hH.blk j b hj hlive
      have hnot : ¬ own0 l.blk := by
        rintro (⟨i, l2, b2, g1, g2, g3, g4⟩ | hk)
        · have hh : hasT (hpT m0) i = true := hasT_true.2 (by rw [g1]; simp)
          rw [hσ i hh] at g3
          have := hH.inj (r i) j _ _ l2 l (h0 i b2 g1) (by rw [relB_live]; exact g2) hj hlive g3 q1 g4
          exact hno i (h01 i (by rw [g1]; simp)) this
        · have := (Array.getElem?_eq_some_iff.1 q2).1; omega
      refine ⟨l, cs, ty, fz, hle' j l q1, by rw [hF.block _ hnot]; exact q2, q3, q4.mono hle', q5⟩
  · have side : ∀ j c s, (∀ i, (hpT m1).get i ≠ none → r i ≠ j) → h'.bs.get j = some c → c.live = true → ρ' j = some s → ¬ own0 s.blk := fun j c s hno hj hc hs' => by
      rw [hrest j hno] at hj
      rw [hout j fun i a _ => hno i a] at hs'
      obtain ⟨l, cs, ty, fz, q1, q2, _⟩ := hH.blk j c hj hc
      rw [hs'] at q1; cases q1
      rintro (⟨i, l2, b2, g1, g2, g3, g4⟩ | hk)
      · have hh : hasT (hpT m0) i = true := hasT_true.2 (by rw [g1]; simp)
        rw [hσ i hh] at g3
        have := hH.inj (r i) j _ _ l2 s (h0 i b2 g1) (by rw [relB_live]; exact g2) hj hc g3 hs' g4
        exact hno i (h01 i (by rw [g1]; simp)) this
      · have := (Array.getElem?_eq_some_iff.1 q2).1; omega
    have inn : ∀ i b l, (hpT m1).get i ≠ none → h'.bs.get (r i) = some b → b.live = true → ρ' (r i) = some l → ∃ b1, (hpT m1).get i = some b1 ∧ b1.live = true ∧ σ' i = some l ∧ own0 l.blk := fun i b l hi hb hlive hl => by
      cases hb1 : (hpT m1).get i with
      | none => exact absurd hb1 hi
      | some b1 =>
        rw [h1 i b1 hb1] at hb; cases hb
        rw [relB_live] at hlive
        rw [hin i hi] at hl
        obtain ⟨l', cs, ty, fz, q1, q2, q3, _⟩ := hG'.blk i b1 hb1 hlive
        rw [hl] at q1; cases q1
        exact ⟨b1, rfl, hlive, hl, q3⟩
    by_cases hx : ∃ i', (hpT m1).get i' ≠ none ∧ r i' = i <;> by_cases hy : ∃ j', (hpT m1).get j' ≠ none ∧ r j' = j
    · obtain ⟨i', hi', rfl⟩ := hx
      obtain ⟨j', hj', rfl⟩ := hy
      obtain ⟨b1, e1, e2, e3, _⟩ := inn i' b l hi' hi hb hl
      obtain ⟨c1, k1, k2, k3, _⟩ := inn j' c s hj' hj hc hs'
      rw [hG'.inj i' j' b1 c1 l s e1 e2 k1 k2 e3 k3 he]
    · obtain ⟨i', hi', rfl⟩ := hx
      obtain ⟨b1, e1, e2, e3, e4⟩ := inn i' b l hi' hi hb hl
      exact absurd (he ▸ e4) (side j c s (fun k hk hkj => hy ⟨k, hk, hkj⟩) hj hc hs')
    · obtain ⟨j', hj', rfl⟩ := hy
      obtain ⟨c1, k1, k2, k3, k4⟩ := inn j' c s hj' hj hc hs'
      exact absurd (he ▸ k4) (side i b l (fun k hk hki => hx ⟨k, hk, hki⟩) hi hb hl)
    · have n1 : ∀ k, (hpT m1).get k ≠ none → r k ≠ i := fun k hk hki => hx ⟨k, hk, hki⟩
      have n2 : ∀ k, (hpT m1).get k ≠ none → r k ≠ j := fun k hk hki => hy ⟨k, hk, hki⟩
      rw [hrest i n1] at hi
      rw [hrest j n2] at hj
      rw [hout i fun k a _ => n1 k a] at hl
      rw [hout j fun k a _ => n2 k a] at hs'
      exact hH.inj i j b c l s hi hb hj hc hl hs' he
  · by_cases hx : ∃ i, (hpT m1).get i ≠ none ∧ r i = j
    · obtain ⟨i, hi, rfl⟩ := hx
      cases hb1 : (hpT m1).get i with
      | none => exact absurd hb1 hi
      | some b1 => rw [h1 i b1 hb1] at hj; cases hj
    · have hno : ∀ i, (hpT m1).get i ≠ none → r i ≠ j := fun i hi he => hx ⟨i, hi, he⟩
      rw [hrest j hno] at hj
      rw [hout j fun i a _ => hno i a]
      exact hH.fresh j hj
  · by_cases hx : ∃ i, (hpT m1).get i ≠ none ∧ (hpT m0).get i = none ∧ r i = j
    · obtain ⟨i, a, b, rfl⟩ := hx
      exact .inr (hnew i a b)
    · simp only [ρ', dif_neg hx] at hj
      exact .inl hj

/-- A function's summary, over its own blocks. -/
theorem FSpec.ev (S : Sound C) {L : Nat → Fr → H → Option Out} {f : Nat} {fn : Func} {c : Code} {fuel nx : Nat} {args : List V} {v : V} {m0 m1 : List (Nat × Blk)} {k : Bool} (hf : C.P.funcs[f]? = some fn) (hb : fn.body = some c)
    (hL : LSound C (fun i => (hpT m0).get i ≠ none) fn.ntmps L c) (e : pickF (evF C L fuel fn args ⟨hpT m0, nx⟩) (keys m1) = some (v, vals m1, k)) (hk : k = true) (ho : okAll [(0, v)] m1 (keys m0) = true) : FSpec C.P f args ⟨hpT m0, 0⟩ v ⟨hpT m1, 0⟩ := by
  unfold pickF at e
  split at e
  · rename_i v1 h1 k1 he
    simp only [Option.some.injEq, Prod.mk.injEq] at e
    obtain ⟨rfl, em, rfl⟩ := e
    subst hk
    have hs := evF_sound S hf hb hL he
    obtain ⟨okv, okb1, oka⟩ := okAll_true ho
    intro own ρ w as hH hargs
    refine (hs own ρ w as hH hargs).mono ?_
    rintro e w' ⟨ρ', y, hle, rfl, hv, hG', hF, hN⟩
    have hσ : ∀ b x, hasT (hpT m1) b = true → ρ' b = some x → (fun i => if hasT (hpT m1) i = true then ρ' i else none : Ren) b = some x := fun b x h1 h2 => by simp [h1, h2]
    have hget := getsB_look em
    refine ⟨fun i => if hasT (hpT m1) i = true then ρ' i else none, y, fun i l hi => ?_, rfl, okIdsN_VR 5 _ v1 _ ρ' _ (okVs_mem okv 0 v1 (by simp)) hσ hv, ⟨fun i b hi hlive => ?_, fun i j b c r s hi hb hj hc hr hs' he => ?_, fun i hi => ?_, hG'.own⟩, hF, fun i l hi => ?_⟩
    · have hm0 : (hpT m0).get i ≠ none := fun hn => by
        have hn' : ρ i = none := hH.fresh i hn
        rw [hn'] at hi; cases hi
      have hkey : i ∈ keys m0 := by
        cases hb : (hpT m0).get i with
        | none => exact absurd hb hm0
        | some b =>
          have : ∀ (l : List (Nat × Blk)), (i, b) ∈ l → i ∈ keys l := fun l => by
            induction l with
            | nil => intro h; cases h
            | cons a l ih =>
              intro h
              rcases List.mem_cons.1 h with h' | h'
              · subst h'; simp [keys]
              · obtain ⟨a1, a2⟩ := a; simp [keys, ih h']
          exact this m0 (look_mem (hpT_get hb))
      exact hσ i l (allHas_mem oka i hkey) (hle i l hi)
    · have hh : hasT (hpT m1) i = true := hasT_true.2 (by rw [hi]; simp)
      have hlb := hpT_get hi
      obtain ⟨r, cs, ty, fz, q1, q2, q3, q4, q5⟩ := hG'.blk i b (hget i b hlb) hlive
      exact ⟨r, cs, ty, fz, hσ i r hh q1, q2, q3, q4.restrict (okBs_mem okb1 i b (look_mem hlb)) hσ, q5⟩
    · have h1' : hasT (hpT m1) i = true := hasT_true.2 (by rw [hi]; simp)
      have h2' : hasT (hpT m1) j = true := hasT_true.2 (by rw [hj]; simp)
      simp only [h1', h2', if_true] at hr hs'
      exact hG'.inj i j b c r s (hget i b (hpT_get hi)) hb (hget j c (hpT_get hj)) hc hr hs' he
    · have : ¬ hasT (hpT m1) i = true := fun h => hasT_true.1 h hi
      simp [this]
    · by_cases hh : hasT (hpT m1) i = true
      · simp only [hh, if_true] at hi
        exact hN i l hi
      · simp [hh] at hi
  · cases e
end
end Ev
end Go
