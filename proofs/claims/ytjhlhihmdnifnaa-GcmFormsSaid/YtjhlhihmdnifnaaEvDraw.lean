/- Statements whose order is open. -/
import Derived.Test.YtjhlhihmdnifnaaEvRunA
set_option linter.unusedVariables false
namespace Go
namespace Ev
section
variable {C : Cfg}

theorem okIdsN_VR : ∀ (d : Nat) (p : Nat → Bool) (v : V) (x : Value) (ρ σ : Ren), okIdsN d p v = true → (∀ b l, p b = true → ρ b = some l → σ b = some l) → VR ρ v x → VR σ v x
  | 0, p, v, x, ρ, σ, h, _, _ => by cases h
  | d + 1, p, v, x, ρ, σ, h, hp, hx => by
    have all : ∀ (l : List V) (m : List Value), noIdsN.allB (okIdsN d p) l = true → VRs ρ l m → VRs σ l m := fun l => by
      induction l with
      | nil => exact fun m _ hm => hm
      | cons v l ih =>
        rintro m hl ⟨y, r, rfl, h1, h2⟩
        simp only [noIdsN.allB] at hl
        cases hv : okIdsN d p v <;> simp [hv] at hl
        exact ⟨y, r, rfl, okIdsN_VR d p v y ρ σ hv hp h1, ih r hl h2⟩
    cases v
    case ptr b o => obtain ⟨r, hr, e⟩ := hx; exact ⟨r, hp b r h hr, e⟩
    case slice b o n z => obtain ⟨a, cap, e, h1, h2⟩ := hx; exact ⟨a, cap, e, h1, h2.imp id fun ⟨r, k1, k2⟩ => ⟨r, hp b r h k1, k2⟩⟩
    case agg l => obtain ⟨m, rfl, hm⟩ := hx; exact ⟨m, rfl, all l m h hm⟩
    case tuple l => obtain ⟨m, rfl, hm⟩ := hx; exact ⟨m, rfl, all l m h hm⟩
    case iface t u => obtain ⟨y, rfl, hy⟩ := hx; exact ⟨y, rfl, okIdsN_VR d p u y ρ σ h hp hy⟩
    all_goals exact hx

theorem okFr_get {f : Nat → Option V} {p : Nat → Bool} : ∀ {l : List Nat}, okFr f p l = true → ∀ t ∈ l, ∀ v, f t = some v → okIdsN 5 p v = true
  | [], _, t, ht, v, hv => by cases ht
  | s :: l, h, t, ht, v, hv => by
    simp only [okFr] at h
    split at h
    · rename_i u hu
      cases hk : okIdsN 5 p u <;> simp [hk] at h
      rcases List.mem_cons.1 ht with rfl | ht
      · rw [hu] at hv; cases hv; exact hk
      · exact okFr_get h t ht v hv
    · rename_i hu
      rcases List.mem_cons.1 ht with rfl | ht
      · rw [hu] at hv; cases hv
      · exact okFr_get h t ht v hv

theorem okBlks_get {g : Nat → Option Blk} {p : Nat → Bool} : ∀ {l : List Nat}, okBlks g p l = true → ∀ i ∈ l, okBlk p (g i) = true
  | [], _, i, hi => by cases hi
  | s :: l, h, i, hi => by
    simp only [okBlks] at h
    cases hk : okBlk p (g s) <;> simp [hk] at h
    rcases List.mem_cons.1 hi with rfl | hi
    · exact hk
    · exact okBlks_get h i hi

theorem onlyFr_mem (fr : Fr) : ∀ (l : List Nat) (u : Fr) (t : Nat) (v : V), (∀ t, u.get t = none) → (onlyFr fr u l).get t = some v → t ∈ l ∧ fr.get t = some v := by
  have key : ∀ (l : List Nat) (u : Fr) (t : Nat) (v : V), (onlyFr fr u l).get t = some v → (t ∈ l ∧ fr.get t = some v) ∨ u.get t = some v := by
    intro l
    induction l with
    | nil => exact fun u t v h => .inr h
    | cons i l ih =>
      intro u t v h
      rcases ih _ t v h with ⟨h1, h2⟩ | h'
      · exact .inl ⟨by simp [h1], h2⟩
      · by_cases he : t = i
        · subst he
          have := Tr.get_put_same _ _ _ _ h'
          exact .inl ⟨by simp, this⟩
        · rw [Tr.get_put_ne _ _ _ _ (Ne.symm he)] at h'
          exact .inr h'
  intro l u t v hu h
  rcases key l u t v h with h' | h'
  · exact h'
  · rw [hu t] at h'; cases h'

theorem has_true {h : H} {i : Nat} : h.has i = true ↔ h.bs.get i ≠ none := by
  unfold H.has
  split <;> simp [*]

theorem BR.restrict {ρ σ : Ren} {p : Nat → Bool} {b : Blk} {cs : Array Value} {n : Nat} (h : BR ρ b cs n) (hk : okBlk p (some b) = true) (hp : ∀ b l, p b = true → ρ b = some l → σ b = some l) : BR σ b cs n := by
  cases b with
  | vals l =>
    intro i v hv
    obtain ⟨o, x, h1, h2⟩ := h i v hv
    have hm : v ∈ l := by rw [nth_eq] at hv; exact List.mem_of_getElem? hv
    exact ⟨o, x, h1, okIdsN_VR 5 p v x ρ σ (allB_true hk v hm) hp h2⟩
  | ints k l => exact h
  | dead => exact h

/-- An operation that was seen by itself does the same beside whatever else there is. -/
theorem OpSpec.loc {F W : List Nat} {h h2 : H} {o : Oper} {f : Nat → Option V} {v : V} (hs : OpSpec C o f (h.only F).bs.get v h2.bs.get) (hn : Near W (h.only F).bs h2.bs)
    (hf : ∀ t u, f t = some u → okIdsN 5 h.has u = true) (hb : ∀ i ∈ F, okBlk h.has (h.bs.get i) = true) {g g' : Nat → Option Blk} (hg : ∀ i, i ∈ F ∨ i ∈ W → g i = h.bs.get i)
    (hg1 : ∀ i, i ∈ W → g' i = h2.bs.get i) (hg2 : ∀ i, i ∉ W → g' i = g i) : OpSpec C o f g v g' := by
  intro own ρ a w hF hH K Q hK
  let own1 : Nat → Prop := fun k => own k ∧ ¬ ∃ i b r, i ∉ F ∧ g i = some b ∧ b.live = true ∧ ρ i = some r ∧ r.blk = k
  let ρ1 : Ren := fun i => match h.bs.get i with
    | some _ => ρ i
    | none => none
  have r1 : ∀ i l, h.has i = true → ρ i = some l → ρ1 i = some l := fun i l hi hl => by
    rw [has_true] at hi
    show (match h.bs.get i with | some _ => ρ i | none => none) = some l
    cases hg : h.bs.get i with
    | none => exact absurd hg hi
    | some b => exact hl
  have r1' : ∀ i l, ρ1 i = some l → ρ i = some l ∧ h.bs.get i ≠ none := fun i l hl => by
    have hl : (match h.bs.get i with | some _ => ρ i | none => none) = some l := hl
    cases hg : h.bs.get i with
    | none => rw [hg] at hl; cases hl
    | some b => rw [hg] at hl; exact ⟨hl, by simp⟩
  have inF : ∀ i b, (h.only F).bs.get i = some b → b.live = true → i ∈ F ∧ h.bs.get i = some b := fun i b hi hl => by
    rw [only_get] at hi
    by_cases hm : i ∈ F
    · rw [if_pos hm] at hi; exact ⟨hm, hi⟩
    · rw [if_neg hm] at hi
      cases hx : h.bs.get i with
      | none => rw [hx] at hi; cases hi
      | some c => rw [hx] at hi; cases hi; cases hl
  have noneF : ∀ i, (h.only F).bs.get i = none ↔ h.bs.get i = none := fun i => by
    rw [only_get]
    split
    · exact Iff.rfl
    · simp
  have hHF : HG own1 ρ1 (h.only F).bs.get w := by
    refine ⟨fun i b hi hl => ?_, fun i j b c r s hi hl hj hl' hr hs' he => ?_, fun i hi => ?_, fun k hk => ⟨hH.own k hk, ?_⟩⟩
    · obtain ⟨hm, hx⟩ := inF i b hi hl
      have hgi : g i = some b := by rw [hg i (.inl hm), hx]
      obtain ⟨r, cs, ty, fz, e1, e2, e3, e4, e5, e6, e7⟩ := hH.blk i b hgi hl
      refine ⟨r, cs, ty, fz, r1 i r (by rw [has_true, hx]; simp) e1, e2, ⟨e3, ?_⟩, e4.restrict (p := h.has) (by have := hb i hm; rwa [hx] at this) r1, e5, e6, e7⟩
      rintro ⟨j, c, s, hj, hgj, hlj, hsj, he⟩
      have := hH.inj i j b c r s hgi hl hgj hlj e1 hsj he.symm
      exact hj (this ▸ hm)
    · obtain ⟨hm, hx⟩ := inF i b hi hl
      obtain ⟨hm', hx'⟩ := inF j c hj hl'
      exact hH.inj i j b c r s (by rw [hg i (.inl hm), hx]) hl (by rw [hg j (.inl hm'), hx']) hl' (r1' i r hr).1 (r1' j s hs').1 he
    · have := (noneF i).1 hi
      show (match h.bs.get i with | some _ => ρ i | none => none) = none
      rw [this]
    · rintro ⟨j, c, s, hj, hgj, hlj, hsj, he⟩
      obtain ⟨s', ds, ty', fz', e1, e2, _⟩ := hH.blk j c hgj hlj
      rw [hsj] at e1; cases e1
      have := (Array.getElem?_eq_some_iff.1 e2).1
      omega
  have hF1 : FrG ρ1 f a := fun t u hu => okIdsN_VR 5 h.has u _ ρ ρ1 (hf t u hu) r1 (hF t u hu)
  refine hs own1 ρ1 a w hF1 hHF K Q fun ρ' y w' k1 k2 k3 k4 k5 => ?_
  let ρ2 : Ren := fun i => match ρ i with
    | some r => some r
    | none => ρ' i
  have le2 : ρ.le ρ2 := fun i l hl => by show (match ρ i with | some r => some r | none => ρ' i) = some l; rw [hl]
  have notF : ∀ i, g i ≠ none → h.bs.get i = none → i ∉ F ∧ i ∉ W := fun i h1 h2 => ⟨fun hm => h1 (by rw [hg i (.inl hm), h2]), fun hm => h1 (by rw [hg i (.inr hm), h2])⟩
  have off : ∀ i, g i ≠ none → h.bs.get i = none → ρ' i = none := fun i h1 h2 => k3.fresh i (by rw [hn.2.1 i (notF i h1 h2).2]; exact (noneF i).2 h2)
  have le3 : ρ'.le ρ2 := fun i l hl => by
    show (match ρ i with | some r => some r | none => ρ' i) = some l
    cases hr : ρ i with
    | none => exact hl
    | some r =>
      have hgi : g i ≠ none := fun hn => by rw [hH.fresh i hn] at hr; cases hr
      cases hx : h.bs.get i with
      | none => rw [off i hgi hx] at hl; cases hl
      | some b =>
        have := k1 i r (r1 i r (by rw [has_true, hx]; simp) hr)
        rw [hl] at this; cases this; rfl
  have new2 : New ρ ρ2 g := fun i l hl => by
    have hl : (match ρ i with | some r => some r | none => ρ' i) = some l := hl
    cases hr : ρ i with
    | some r => rw [hr] at hl; exact .inl hl
    | none =>
      rw [hr] at hl
      right
      cases hgi : g i with
      | none => rfl
      | some b =>
        exfalso
        rcases k5 i l hl with h' | h'
        · rw [(r1' i l h').1] at hr; cases hr
        · rw [off i (by rw [hgi]; simp) ((noneF i).1 h')] at hl; cases hl
  -- where a block of g' comes from
  have src : ∀ i b, g' i = some b → b.live = true → (h2.bs.get i = some b) ∨ (i ∉ F ∧ i ∉ W ∧ g i = some b) := fun i b hi hl => by
    by_cases hm : i ∈ W
    · rw [hg1 i hm] at hi; exact .inl hi
    · rw [hg2 i hm] at hi
      by_cases hm' : i ∈ F
      · left
        rw [hn.2.1 i hm, only_get, if_pos hm', ← hg i (.inl hm'), hi]
      · exact .inr ⟨hm', hm, hi⟩
  have hH2 : HG own ρ2 g' w' := by
    refine ⟨fun i b hi hl => ?_, fun i j b c r s hi hl hj hl' hr hs' he => ?_, fun i hi => ?_, fun k hk => (k3.own k hk).1⟩
    · rcases src i b hi hl with hx | ⟨h1, h2', hx⟩
      · obtain ⟨r, cs, ty, fz, e1, e2, e3, e4, e5, e6, e7⟩ := k3.blk i b hx hl
        exact ⟨r, cs, ty, fz, le3 i r e1, e2, e3.1, e4.mono le3, e5, e6, e7⟩
      · obtain ⟨r, cs, ty, fz, e1, e2, e3, e4, e5, e6, e7⟩ := hH.blk i b hx hl
        refine ⟨r, cs, ty, fz, le2 i r e1, ?_, e3, e4.mono le2, e5, e6, e7⟩
        rw [k4.block r.blk fun ho => ho.2 ⟨i, b, r, h1, hx, hl, e1, rfl⟩]
        exact e2
    · rcases src i b hi hl with hx | ⟨h1, h2', hx⟩ <;> rcases src j c hj hl' with hy | ⟨h3, h4', hy⟩
      · obtain ⟨r', _, _, _, e1, _⟩ := k3.blk i b hx hl
        obtain ⟨s', _, _, _, e2, _⟩ := k3.blk j c hy hl'
        have a1 := le3 i r' e1
        have a2 := le3 j s' e2
        rw [hr] at a1; cases a1
        rw [hs'] at a2; cases a2
        exact k3.inj i j b c r s hx hl hy hl' e1 e2 he
      · obtain ⟨r', _, _, _, e1, _, e3, _⟩ := k3.blk i b hx hl
        obtain ⟨s', _, _, _, e2, _⟩ := hH.blk j c hy hl'
        have a1 := le3 i r' e1
        have a2 := le2 j s' e2
        rw [hr] at a1; cases a1
        rw [hs'] at a2; cases a2
        exact absurd ⟨j, c, s, h3, hy, hl', e2, he.symm⟩ e3.2
      · obtain ⟨r', _, _, _, e1, _⟩ := hH.blk i b hx hl
        obtain ⟨s', _, _, _, e2, _, e3, _⟩ := k3.blk j c hy hl'
        have a1 := le2 i r' e1
        have a2 := le3 j s' e2
        rw [hr] at a1; cases a1
        rw [hs'] at a2; cases a2
        exact absurd ⟨i, b, r, h1, hx, hl, e1, he⟩ e3.2
      · obtain ⟨r', _, _, _, e1, _⟩ := hH.blk i b hx hl
        obtain ⟨s', _, _, _, e2, _⟩ := hH.blk j c hy hl'
        have a1 := le2 i r' e1
        have a2 := le2 j s' e2
        rw [hr] at a1; cases a1
        rw [hs'] at a2; cases a2
        exact hH.inj i j b c r s hx hl hy hl' e1 e2 he
    · show (match ρ i with | some r => some r | none => ρ' i) = none
      by_cases hm : i ∈ W
      · rw [hg1 i hm] at hi
        have hp := k3.fresh i hi
        cases hr : ρ i with
        | none => exact hp
        | some r =>
          exfalso
          have hgi : g i ≠ none := fun hn => by rw [hH.fresh i hn] at hr; cases hr
          have hx : h.bs.get i ≠ none := by rw [← hg i (.inr hm)]; exact hgi
          rw [k1 i r (r1 i r (has_true.2 hx) hr)] at hp; cases hp
      · rw [hg2 i hm] at hi
        rw [hH.fresh i hi]
        cases hp : ρ' i with
        | none => rfl
        | some l =>
          exfalso
          rcases k5 i l hp with h' | h'
          · have := (r1' i l h').1
            rw [hH.fresh i hi] at this; cases this
          · have : h2.bs.get i = none := by rw [hn.2.1 i hm]; exact h'
            rw [k3.fresh i this] at hp; cases hp
  exact hK ρ2 y w' le2 (k2.mono le3 v y) hH2 ⟨k4.os, k4.tape, k4.output, k4.size, fun k hk => k4.block k fun ho => hk ho.1⟩ new2

/-! Any order -/
inductive Pre (ops : Array Oper) : Nat → Nat → Prop where
  | base {i j : Nat} {o : Oper} {e : Edge} (ho : ops[j]? = some o) (he : e ∈ o.after) (hb : Region.binds .any e = true) (hi : e.on = i) : Pre ops i j
  | step {i j : Nat} {o : Oper} {e : Edge} (ho : ops[j]? = some o) (he : e ∈ o.after) (hb : Region.binds .any e = true) (h : Pre ops i e.on) : Pre ops i j

/-- What is listed has all that stands before it listed. -/
def Down (ops : Array Oper) (listed : Array Bool) : Prop := ∀ j o, ops[j]? = some o → listed.getD j true = true → j < listed.size → ∀ e ∈ o.after, Region.binds .any e = true → listed.getD e.on false = true

theorem lt_of_getD {listed : Array Bool} {j : Nat} (h : listed.getD j false = true) : j < listed.size ∧ listed.getD j true = true := by
  rcases Nat.lt_or_ge j listed.size with h' | h'
  · exact ⟨h', by simp [h'] at h ⊢; exact h⟩
  · simp [Array.getElem?_eq_none h'] at h

theorem Pre.listed {ops : Array Oper} {listed : Array Bool} (hd : Down ops listed) {i j : Nat} (h : Pre ops i j) : (∀ o, ops[j]? = some o → ∀ e ∈ o.after, Region.binds .any e = true → listed.getD e.on false = true) → listed.getD i false = true := by
  induction h with
  | base ho he hb hi => exact fun hr => hi ▸ hr _ ho _ he hb
  | step ho he hb _ ih =>
    intro hr
    have h1 := lt_of_getD (hr _ ho _ he hb)
    exact ih fun o ho' e' he' hb' => hd _ o ho' h1.2 h1.1 e' he' hb'

def putF (f : Nat → Option V) (dst : Option Nat) (u : V) : Nat → Option V := fun t => if dst = some t then some u else f t

/-- Is it wanted, as the frame tells? -/
def WantF (ops : Array Oper) (f : Nat → Option V) (o : Oper) (t : Bool) : Prop := (o.guard = none ∧ t = true) ∨ ∃ j want oj d, o.guard = some (j, want) ∧ ops[j]? = some oj ∧ oj.dst = some d ∧
  ((∃ b, f d = some (.bool b) ∧ t = (b == want)) ∨ (f d = some (.tuple []) ∧ t = false))

def Loc' (C : Cfg) (o : Oper) (fo : Nat → Option V) (u : V) (F W : List Nat) (g g' : Nat → Option Blk) : Prop := (∀ i, i ∉ W → g' i = g i) ∧ ∀ g2 g2' : Nat → Option Blk, (∀ i, i ∈ F ∨ i ∈ W → g2 i = g i) → (∀ i, i ∈ W → g2' i = g' i) →
  (∀ i, i ∉ W → g2' i = g2 i) → OpSpec C o fo g2 u g2'

structure Step1 (C : Cfg) (ops : Array Oper) (nt i : Nat) (F W : List Nat) (f : Nat → Option V) (g : Nat → Option Blk) (f' : Nat → Option V) (g' : Nat → Option Blk) : Prop where
  ex : ∃ o u, ops[i]? = some o ∧ f' = putF f o.dst u ∧ (∀ d, o.dst = some d → d < nt) ∧ ((WantF ops f o false ∧ u = .tuple [] ∧ g' = g) ∨
    (WantF ops f o true ∧ ∃ fo, (∀ t v, fo t = some v → f t = some v ∧ t ∈ tmpsL o.op.operands.toList) ∧ Loc' C o fo u F W g g'))
  grow : ∀ i, g i ≠ none → g' i ≠ none

theorem WantF.sound {ops : Array Oper} {ρ : Ren} {f : Nat → Option V} {a : Act} (hF : FrG ρ f a) {o : Oper} {t : Bool} (h : WantF ops f o t) : Region.wanted o (yielded ops a.tmps) = t := by
  rcases h with ⟨hg, rfl⟩ | ⟨j, want, oj, d, hg, hj, hd, hor⟩
  · simp [Region.wanted, hg]
  · have hlook : ∀ x, a.tmps.getD d undef = x → (∀ b, x = .bool b → yielded ops a.tmps j = some b) ∧ (x = undef → yielded ops a.tmps j = none) := fun x hx => by
      unfold yielded
      simp only [hj, Option.bind_some, hd]
      rw [Array.getD_eq_getD_getElem?] at hx
      cases hg : a.tmps[d]? with
      | none => rw [hg] at hx; refine ⟨fun b hb => ?_, fun _ => rfl⟩; rw [hb] at hx; cases hx
      | some u => rw [hg] at hx; simp at hx; subst hx; exact ⟨fun b hb => by rw [hb], fun hu => by rw [hu]; rfl⟩
    rcases hor with ⟨b, hb, rfl⟩ | ⟨hb, rfl⟩
    · have hv : a.tmps.getD d undef = .bool b := hF d _ hb
      simp only [Region.wanted, hg, (hlook _ hv).1 b rfl]
      cases b <;> cases want <;> rfl
    · obtain ⟨m, hm, hnil⟩ := hF d _ hb
      cases hnil
      simp [Region.wanted, hg, (hlook _ hm).2 rfl]

theorem putF_FrG {ρ σ : Ren} {f : Nat → Option V} {a : Act} {nt : Nat} (hF : FrG ρ f a) (hs : a.tmps.size = nt) (hρ : ρ.le σ) {dst : Option Nat} (hd : ∀ d, dst = some d → d < nt) {u : V} {y : Value} (hy : VR σ u y) : FrG σ (putF f dst u) (a.put dst y) := by
  intro t v hv
  unfold putF at hv
  by_cases he : dst = some t
  · rw [if_pos he] at hv; cases hv
    subst he
    have hlt : t < a.tmps.size := by rw [hs]; exact hd t rfl
    simpa [Act.put, Array.getD, hlt] using hy
  · rw [if_neg he] at hv
    have := (hF.mono hρ) t v hv
    cases dst with
    | none => exact this
    | some d =>
      have e2 : (a.tmps.setIfInBounds d y).getD t undef = a.tmps.getD t undef := by
        simp only [Array.getD_eq_getD_getElem?]
        rw [Array.getElem?_setIfInBounds_ne fun e => he (by rw [e])]
      show VR σ v ((a.tmps.setIfInBounds d y).getD t undef)
      rw [e2]; exact this

theorem put_size (a : Act) (dst : Option Nat) (y : Value) : (a.put dst y).tmps.size = a.tmps.size := by cases dst <;> simp [Act.put]
theorem put_defers (a : Act) (dst : Option Nat) (y : Value) : (a.put dst y).defers = a.defers := by cases dst <;> rfl

theorem Step1.sound {ops : Array Oper} {nt i : Nat} {F W : List Nat} {f f' : Nat → Option V} {g g' : Nat → Option Blk} (h : Step1 C ops nt i F W f g f' g') {D own : Nat → Prop} {ρ : Ren} {a : Act} {w : World} (hs : St D own ρ nt f g a w)
    {K : Act → World → Prop} {Q : Exit → Act → World → Prop} (hK : ∀ ρ' a' w', Ren.eqOn D ρ ρ' → St D own ρ' nt f' g' a' w' → Frm own w w' → K a' w') : wpOp C.P ops Q i K a w := by
  obtain ⟨o, u, ho, rfl, hd, hor⟩ := h.ex
  unfold wpOp
  simp only [ho]
  rcases hor with ⟨hw, rfl, rfl⟩ | ⟨hw, fo, hfo, hloc⟩
  · simp only [hw.sound hs.fr, Bool.false_eq_true, if_false]
    exact hK ρ _ w (Ren.eqOn.refl D ρ) ⟨putF_FrG hs.fr hs.size ρ.le_refl hd ⟨[], rfl, rfl⟩, by rw [put_size]; exact hs.size, by rw [put_defers]; exact hs.defers, hs.heap, hs.keep⟩ (Frm.refl _ _)
  · simp only [hw.sound hs.fr, if_true]
    left
    refine hloc.2 g g' (fun _ _ => rfl) (fun _ _ => rfl) hloc.1 own ρ a w (fun t v hv => hs.fr t v (hfo t v hv).1) hs.heap K Q fun ρ' y w' g1 g2 g3 g4 g5 => ?_
    exact hK ρ' _ w' (g1.eqOn g5 hs.keep) ⟨putF_FrG hs.fr hs.size g1 hd g2, by rw [put_size]; exact hs.size, by rw [put_defers]; exact hs.defers, g3, fun i hi => h.grow i (hs.keep i hi)⟩ g4

/-- From here on, whatever order is taken, the same comes out. -/
def AnyE (C : Cfg) (ops : Array Oper) (nt : Nat) (Rs : List Rec) (ff : Nat → Option V) (gf : Nat → Option Blk) : Nat → Array Bool → (Nat → Option V) → (Nat → Option Blk) → Prop
  | 0, listed, f, g => Region.ready .any ops listed = [] ∧ f = ff ∧ g = gf
  | n + 1, listed, f, g => (Region.ready .any ops listed = [] → f = ff ∧ g = gf) ∧ ∀ i ∈ Region.ready .any ops listed, ∃ r ∈ Rs, r.i = i ∧ ∃ f' g', Step1 C ops nt i r.F r.W f g f' g' ∧ AnyE C ops nt Rs ff gf n (listed.setIfInBounds i true) f' g'

theorem AnyE.sound {ops : Array Oper} {nt : Nat} {Rs : List Rec} {ff : Nat → Option V} {gf : Nat → Option Blk} {D own : Nat → Prop} {Q : Exit → Act → World → Prop} : ∀ (n : Nat) (listed : Array Bool) (f : Nat → Option V) (g : Nat → Option Blk) (ρ : Ren) (a : Act) (w : World),
    AnyE C ops nt Rs ff gf n listed f g → St D own ρ nt f g a w → (∀ ρ' a' w', Ren.eqOn D ρ ρ' → St D own ρ' nt ff gf a' w' → Frm own w w' → Q .normal a' w') → wpAny C.P .any ops Q n listed a w
  | 0, listed, f, g, ρ, a, w, h, hs, hQ => by
    obtain ⟨h1, rfl, rfl⟩ := h
    exact ⟨h1, hQ ρ a w (Ren.eqOn.refl D ρ) hs (Frm.refl _ _)⟩
  | n + 1, listed, f, g, ρ, a, w, h, hs, hQ => by
    refine ⟨fun h0 => ?_, fun i hi => ?_⟩
    · obtain ⟨rfl, rfl⟩ := h.1 h0
      exact hQ ρ a w (Ren.eqOn.refl D ρ) hs (Frm.refl _ _)
    · obtain ⟨r, _, rfl, f', g', hst, hnext⟩ := h.2 i hi
      refine hst.sound hs fun ρ' a' w' h1 h2 h3 => ?_
      exact AnyE.sound n _ f' g' ρ' a' w' hnext h2 fun ρ'' a'' w'' k1 k2 k3 => hQ ρ'' a'' w'' (h1.trans k1) k2 (h3.trans k3)

theorem apartL_spec : ∀ {l m : List Nat}, apartL l m = true → ∀ i, i ∈ l → i ∉ m
  | [], m, _, i, hi => by cases hi
  | a :: l, m, h, i, hi => by
    simp only [apartL] at h
    cases hm : mem a m <;> simp [hm] at h
    rcases List.mem_cons.1 hi with rfl | hi
    · intro hc; rw [mem_true.2 hc] at hm; cases hm
    · exact apartL_spec h i hi

/-- Two that touch nothing of each other's. -/
structure Ind (r s : Rec) : Prop where
  fw : ∀ i, i ∈ r.F → i ∉ s.W
  wf : ∀ i, i ∈ r.W → i ∉ s.F
  ld : ∀ i, i ∈ r.L → i ∉ s.D
  dl : ∀ i, i ∈ r.D → i ∉ s.L
  dd : ∀ i, i ∈ r.D → i ∉ s.D

theorem indB_spec {r s : Rec} (h : indB r s = true) : Ind r s := by
  unfold indB at h
  cases h1 : apartL r.F s.W <;> simp only [h1, cond_true, cond_false, reduceCtorEq, Bool.false_eq_true] at h
  cases h2 : apartL r.W s.F <;> simp only [h2, cond_true, cond_false, reduceCtorEq, Bool.false_eq_true] at h
  cases h3 : apartL r.L s.D <;> simp only [h3, cond_true, cond_false, reduceCtorEq, Bool.false_eq_true] at h
  cases h4 : apartL r.D s.L <;> simp only [h4, cond_true, cond_false, reduceCtorEq, Bool.false_eq_true] at h
  exact ⟨apartL_spec h1, apartL_spec h2, apartL_spec h3, apartL_spec h4, apartL_spec h⟩

/-- What a record says of its operation. -/
structure RecOk (ops : Array Oper) (r : Rec) : Prop where
  o : ∃ o, ops[r.i]? = some o ∧ r.L = looksL ops.toList o ∧ r.D = dstL o
  wf : ∀ i, i ∈ r.W → i ∈ r.F
  pre : ∀ x ∈ r.p, Pre ops x r.i

theorem WantF.move {ops : Array Oper} {f f' : Nat → Option V} {o : Oper} {t : Bool} (h : WantF ops f o t) (he : ∀ d, d ∈ looksL ops.toList o → f' d = f d) : WantF ops f' o t := by
  rcases h with h | ⟨j, want, oj, d, hg, hj, hd, hor⟩
  · exact .inl h
  · refine .inr ⟨j, want, oj, d, hg, hj, hd, ?_⟩
    have hm : d ∈ looksL ops.toList o := by
      unfold looksL
      rw [app_eq, hg]
      simp only [nth_eq, Array.getElem?_toList, hj, dstL, hd]
      simp
    rw [he d hm]; exact hor

theorem commute {ops : Array Oper} {nt : Nat} {r s : Rec} {f f1 f2 : Nat → Option V} {g g1 g2 : Nat → Option Blk} (hr : RecOk ops r) (hs : RecOk ops s) (hi : Ind r s)
    (h1 : Step1 C ops nt r.i r.F r.W f g f1 g1) (h2 : Step1 C ops nt s.i s.F s.W f1 g1 f2 g2) : ∃ fj gj, Step1 C ops nt s.i s.F s.W f g fj gj ∧ Step1 C ops nt r.i r.F r.W fj gj f2 g2 := by
  obtain ⟨o, u, ho, rfl, hd, hor⟩ := h1.ex
  obtain ⟨p, v, hp, rfl, hd', hor'⟩ := h2.ex
  obtain ⟨o', ho', hL, hD⟩ := hr.o
  rw [ho] at ho'; cases ho'
  obtain ⟨p', hp', hL', hD'⟩ := hs.o
  rw [hp] at hp'; cases hp'
  have dmem : ∀ {q : Oper} {d : Nat}, q.dst = some d → d ∈ dstL q := fun h => by simp [dstL, h]
  have tmem : ∀ {q : Oper} {t : Nat}, t ∈ tmpsL q.op.operands.toList → t ∈ looksL ops.toList q := fun h => by unfold looksL; rw [app_eq]; simp [h]
  have e1 : ∀ d, d ∈ looksL ops.toList p → putF f o.dst u d = f d := fun d hm => by
    unfold putF
    rw [if_neg fun e => ?_]
    exact hi.dl d (hD ▸ dmem e) (hL' ▸ hm)
  have e2 : ∀ d, d ∈ looksL ops.toList o → putF f p.dst v d = f d := fun d hm => by
    unfold putF
    rw [if_neg fun e => ?_]
    exact hi.ld d (hL ▸ hm) (hD' ▸ dmem e)
  have e3 : putF (putF f o.dst u) p.dst v = putF (putF f p.dst v) o.dst u := by
    funext t
    unfold putF
    by_cases c1 : p.dst = some t
    · by_cases c2 : o.dst = some t
      · exact absurd (hD' ▸ dmem c1) (hi.dd t (hD ▸ dmem c2))
      · simp [c1, c2]
    · by_cases c2 : o.dst = some t
      · simp [c1, c2]
      · simp [c1, c2]
  have off2 : ∀ i, i ∉ s.W → g2 i = g1 i := fun i hm => by
    rcases hor' with ⟨_, _, rfl⟩ | ⟨_, fo, _, hloc⟩
    · rfl
    · exact hloc.1 i hm
  have off1 : ∀ i, i ∉ r.W → g1 i = g i := fun i hm => by
    rcases hor with ⟨_, _, rfl⟩ | ⟨_, fo, _, hloc⟩
    · rfl
    · exact hloc.1 i hm
  let gj : Nat → Option Blk := fun i => if i ∈ s.W then g2 i else g i
  have gjW : ∀ i, i ∈ s.W → gj i = g2 i := fun i hm => if_pos hm
  have gjN : ∀ i, i ∉ s.W → gj i = g i := fun i hm => if_neg hm
  refine ⟨putF f p.dst v, gj, ⟨⟨p, v, hp, rfl, hd', ?_⟩, fun i hn => ?_⟩, ⟨⟨o, u, ho, e3, hd, ?_⟩, fun i hn => ?_⟩⟩
  · rcases hor' with ⟨hw, rfl, hg⟩ | ⟨hw, fo, hfo, hloc⟩
    · refine .inl ⟨hw.move fun d hm => (e1 d hm).symm, rfl, ?_⟩
      funext i
      by_cases hm : i ∈ s.W
      · rw [gjW i hm, hg, off1 i fun hc => hi.wf i hc (hs.wf i hm)]
      · exact gjN i hm
    · refine .inr ⟨hw.move fun d hm => (e1 d hm).symm, fo, fun t v hv => ?_, gjN, fun ga ga' a1 a2 a3 => ?_⟩
      · obtain ⟨q1, q2⟩ := hfo t v hv
        rw [e1 t (tmem q2)] at q1
        exact ⟨q1, q2⟩
      · refine hloc.2 ga ga' (fun i hm => ?_) (fun i hm => by rw [a2 i hm, gjW i hm]) a3
        rw [a1 i hm, off1 i fun hc => ?_]
        rcases hm with hm | hm
        · exact hi.wf i hc hm
        · exact hi.wf i hc (hs.wf i hm)
  · by_cases hm : i ∈ s.W
    · rw [gjW i hm]; exact h2.grow i (h1.grow i hn)
    · rw [gjN i hm]; exact hn
  · rcases hor with ⟨hw, rfl, hg⟩ | ⟨hw, fo, hfo, hloc⟩
    · refine .inl ⟨hw.move e2, rfl, ?_⟩
      funext i
      by_cases hm : i ∈ s.W
      · rw [gjW i hm]
      · rw [gjN i hm, off2 i hm, hg]
    · refine .inr ⟨hw.move e2, fo, fun t v hv => ?_, fun i hm => ?_, fun ga ga' a1 a2 a3 => ?_⟩
      · obtain ⟨q1, q2⟩ := hfo t v hv
        rw [e2 t (tmem q2)]
        exact ⟨q1, q2⟩
      · by_cases hm' : i ∈ s.W
        · rw [gjW i hm']
        · rw [gjN i hm', off2 i hm', off1 i hm]
      · refine hloc.2 ga ga' (fun i hm => ?_) (fun i hm => ?_) a3
        · rw [a1 i hm, gjN i fun hc => ?_]
          rcases hm with hm | hm
          · exact hi.fw i hm hc
          · exact hi.fw i (hr.wf i hm) hc
        · rw [a2 i hm, off2 i fun hc => hi.fw i (hr.wf i hm) hc]
  · by_cases hm : i ∈ s.W
    · rw [gjW i hm] at hn; exact hn
    · rw [gjN i hm] at hn; exact h2.grow i (h1.grow i hn)

theorem Down.set {ops : Array Oper} {listed : Array Bool} (hd : Down ops listed) {j : Nat} (hj : j ∈ Region.ready .any ops listed) : Down ops (listed.setIfInBounds j true) := by
  intro x o ho hx hxs e he hb
  obtain ⟨_, oj, hoj, hall⟩ := mem_ready.1 hj
  by_cases hxj : x = j
  · subst hxj
    rw [ho] at hoj; cases hoj
    exact getD_set_true (hall e he hb)
  · rw [getD_set_ne true (Ne.symm hxj)] at hx
    exact getD_set_true (hd x o ho hx (by simpa using hxs) e he hb)

/-- The one that stands first in the text may as well be carried out first. -/
theorem AnyE.first {ops : Array Oper} {nt : Nat} {Rs : List Rec} {ff : Nat → Option V} {gf : Nat → Option Blk} {r : Rec} (hRs : ∀ s ∈ Rs, RecOk ops s) (hr : r ∈ Rs) : ∀ (n : Nat) (listed : Array Bool) (f f1 : Nat → Option V) (g g1 : Nat → Option Blk), Down ops listed →
    (∀ s ∈ Rs, s.i ≠ r.i → listed.getD s.i true = false → Pre ops r.i s.i ∨ Ind r s) → r.i ∈ Region.ready .any ops listed → Step1 C ops nt r.i r.F r.W f g f1 g1 →
    AnyE C ops nt Rs ff gf n (listed.setIfInBounds r.i true) f1 g1 → AnyE C ops nt Rs ff gf (n + 1) listed f g
  | 0, listed, f, f1, g, g1, hd, hind, hrd, hst, H => by
    refine ⟨fun h => (by rw [h] at hrd; cases hrd), fun j hj => ?_⟩
    by_cases hji : j = r.i
    · subst hji; exact ⟨r, hr, rfl, f1, g1, hst, H⟩
    · have := ready_mono hj hji
      rw [H.1] at this
      cases this
  | n + 1, listed, f, f1, g, g1, hd, hind, hrd, hst, H => by
    refine ⟨fun h => (by rw [h] at hrd; cases hrd), fun j hj => ?_⟩
    by_cases hji : j = r.i
    · subst hji; exact ⟨r, hr, rfl, f1, g1, hst, H⟩
    · obtain ⟨s, hs, rfl, f2, g2, hst2, H2⟩ := H.2 j (ready_mono hj hji)
      have hun := (mem_ready.1 hj).1
      have hI : Ind r s := by
        rcases hind s hs hji hun with hp | hI
        · exfalso
          have h1 := hp.listed hd fun o ho e he hb => by
            obtain ⟨_, oj, hoj, hall⟩ := mem_ready.1 hj
            rw [ho] at hoj; cases hoj
            exact hall e he hb
          have h2 := (mem_ready.1 hrd).1
          rw [(lt_of_getD h1).2] at h2; cases h2
        · exact hI
      obtain ⟨fj, gj, k1, k2⟩ := commute (hRs r hr) (hRs s hs) hI hst hst2
      refine ⟨s, hs, rfl, fj, gj, k1, ?_⟩
      refine AnyE.first hRs hr n _ fj f2 gj g2 (hd.set hj) (fun x hx hxi hxu => ?_) (ready_mono hrd (Ne.symm hji)) k2 ?_
      · by_cases hxs : x.i = s.i
        · exfalso
          rw [hxs] at hxu
          have hlt : s.i < listed.size := by
            rcases Nat.lt_or_ge s.i listed.size with h' | h'
            · exact h'
            · simp [Array.getElem?_eq_none h'] at hun
          simp [hlt] at hxu
        · rw [getD_set_ne true (Ne.symm hxs)] at hxu
          exact hind x hx hxi hxu
      · rw [Array.setIfInBounds_comm _ _ hji]
        exact H2

def UpTo (n i : Nat) (listed : Array Bool) : Prop := listed.size = n ∧ ∀ j d, j < n → listed.getD j d = decide (j < i)
theorem UpTo.start (n : Nat) : UpTo n 0 (Array.replicate n false) := ⟨by simp, fun j d hj => by simp [hj]⟩
theorem UpTo.next {n i : Nat} {listed : Array Bool} (h : UpTo n i listed) : UpTo n (i + 1) (listed.setIfInBounds i true) := by
  refine ⟨by simpa using h.1, fun j d hj => ?_⟩
  by_cases he : i = j
  · subst he
    have : i < listed.size := by rw [h.1]; exact hj
    simp [this]
  · rw [getD_set_ne d he, h.2 j d hj]
    congr 1
    exact propext ⟨fun hlt => by omega, fun hlt => by omega⟩

theorem onlyBefore_spec {i : Nat} : ∀ {l : List Edge}, onlyBefore i l = true → ∀ e ∈ l, Region.binds .any e = true → e.on < i
  | [], _, e, he, _ => by cases he
  | a :: l, h, e, he, hbi => by
    simp only [onlyBefore] at h
    cases h2 : Region.binds .any a
    · simp only [h2, cond_false] at h
      rcases List.mem_cons.1 he with rfl | he
      · rw [h2] at hbi; cases hbi
      · exact onlyBefore_spec h e he hbi
    · cases h1 : Nat.blt a.on i <;> simp only [h1, h2, cond_true, cond_false, reduceCtorEq, Bool.false_eq_true] at h
      rcases List.mem_cons.1 he with rfl | he
      · exact blt_true.1 h1
      · exact onlyBefore_spec h e he hbi

theorem freeOf_spec {s : Rec} : ∀ {ms : List Rec}, freeOf s ms = true → ∀ r ∈ ms, r.i ∈ s.p ∨ Ind r s
  | [], _, r, hr => by cases hr
  | a :: l, h, r, hr => by
    simp only [freeOf] at h
    cases h1 : mem a.i s.p
    · cases h2 : indB a s <;> simp only [h1, h2, cond_true, cond_false, reduceCtorEq, Bool.false_eq_true] at h
      rcases List.mem_cons.1 hr with rfl | hr
      · exact .inr (indB_spec h2)
      · exact freeOf_spec h r hr
    · simp only [h1, cond_true] at h
      rcases List.mem_cons.1 hr with rfl | hr
      · exact .inl (mem_true.1 h1)
      · exact freeOf_spec h r hr

theorem maskOf_mem {ms : List Rec} {e x : Nat} (h : x ∈ maskOf ms e) : ∃ r ∈ ms, r.i = e ∧ x ∈ r.p := by
  induction ms with
  | nil => cases h
  | cons r l ih =>
    simp only [maskOf] at h
    cases hb : Nat.beq r.i e
    · rw [hb, cond_false] at h
      obtain ⟨s, hs, h1⟩ := ih h
      exact ⟨s, by simp [hs], h1⟩
    · rw [hb, cond_true] at h
      exact ⟨r, by simp, beq_true.1 hb, h⟩

theorem prevs_pre {ops : Array Oper} {ms : List Rec} (hms : ∀ r ∈ ms, RecOk ops r) {i : Nat} {o : Oper} (ho : ops[i]? = some o) : ∀ (l : List Edge), (∀ e ∈ l, e ∈ o.after) → ∀ x ∈ prevs ms (ons l), Pre ops x i
  | [], _, x, hx => by cases hx
  | e :: l, h, x, hx => by
    have he := h e (by simp)
    cases hb : Region.binds .any e <;> simp only [ons, hb, cond_true, cond_false] at hx
    · exact prevs_pre hms ho l (fun e' he' => h e' (by simp [he'])) x hx
    · simp only [prevs, app_eq, List.mem_cons, List.mem_append] at hx
      rcases hx with rfl | hx | hx
      · exact .base ho he hb rfl
      · obtain ⟨r, hr, hre, hxr⟩ := maskOf_mem hx
        exact .step ho he hb (hre ▸ (hms r hr).pre x hxr)
      · exact prevs_pre hms ho l (fun e' he' => h e' (by simp [he'])) x hx

theorem wantB_F {ops : Array Oper} {fr : Fr} {o : Oper} {t : Bool} (e : wantB C ops.toList fr o = some (t, true)) {f : Nat → Option V} (hf : ∀ t v, fr.get t = some v → f t = some v) : WantF ops f o t := by
  unfold wantB at e
  split at e
  · rename_i hg
    cases e
    exact .inl ⟨hg, rfl⟩
  · rename_i j want hg
    split at e
    · rename_i oj hj
      rw [nth_eq, Array.getElem?_toList] at hj
      split at e
      · rename_i d hd
        refine .inr ⟨j, want, oj, d, hg, hj, hd, ?_⟩
        split at e
        · rename_i b hb
          refine .inl ⟨b, hf d _ hb, ?_⟩
          split at e
          · rename_i x hx
            simp only [Option.some.injEq, Prod.mk.injEq] at e
            obtain ⟨rfl, hk⟩ := e
            cases x <;> cases b <;> cases want <;> simp_all
          · simp only [Option.some.injEq, Prod.mk.injEq, and_true] at e
            subst e
            cases b <;> cases want <;> rfl
        · rename_i hb
          cases e
          exact .inr ⟨hf d _ hb, rfl⟩
        · cases e
      · cases e
    · cases e

theorem putD_F {nt : Nat} {fr fr' : Fr} {dst : Option Nat} {v : V} (e : putD nt fr dst v = some fr') {f : Nat → Option V} (hf : ∀ t v, fr.get t = some v → f t = some v) :
    (∀ t u, fr'.get t = some u → putF f dst v t = some u) ∧ ∀ d, dst = some d → d < nt := by
  unfold putD at e
  split at e
  · rename_i d
    cases hd : Nat.blt d nt <;> simp [hd] at e
    subst e
    refine ⟨fun t u hu => ?_, fun x hx => by cases hx; exact blt_true.1 hd⟩
    unfold putF
    rcases Tr.get_put _ _ _ _ _ hu with ⟨rfl, rfl⟩ | ⟨hne, hu'⟩
    · simp
    · rw [if_neg (by simp; exact fun h => hne h.symm)]; exact hf t u hu'
  · cases e
    exact ⟨fun t u hu => by unfold putF; simpa using hf t u hu, fun d hd => by cases hd⟩

theorem evOpsD_ok {nt : Nat} {ops : List Oper} {n0 : Nat} {fr' : Fr} {h' : H} : ∀ (l : List Oper) (i : Nat) (fr : Fr) (h : H) (ms : List Rec) (k : Bool), evOpsD C nt ops n0 l i fr h ms k = some (fr', h', true) → k = true
  | [], i, fr, h, ms, k, e => by cases e; rfl
  | o :: l, i, fr, h, ms, k, e => by
    change (match wantB C ops fr o with
      | some (t, k1) => cond t
          (match opD C nt (n0 + i) fr h o.op with
          | some (v, h2, F, W, k2) => match putD nt fr o.dst v with
            | some fr' => evOpsD C nt ops n0 l (i + 1) fr' ⟨copyBack h.bs h2.bs W, h2.nx⟩ (⟨i, prevs ms (ons o.after.toList), app F W, W, looksL ops o, dstL o⟩ :: ms)
                (andr (andr (andr k k1) k2) (cond (onlyBefore i o.after.toList) (freeOf ⟨i, prevs ms (ons o.after.toList), app F W, W, looksL ops o, dstL o⟩ ms) false))
            | none => none
          | none => none)
          (match putD nt fr o.dst (.tuple []) with
          | some fr' => evOpsD C nt ops n0 l (i + 1) fr' h (⟨i, prevs ms (ons o.after.toList), [], [], looksL ops o, dstL o⟩ :: ms)
                (andr (andr k k1) (cond (onlyBefore i o.after.toList) (freeOf ⟨i, prevs ms (ons o.after.toList), [], [], looksL ops o, dstL o⟩ ms) false))
          | none => none)
      | none => none) = some (fr', h', true) at e
    split at e
    · rename_i t k1 hw
      cases t
      · simp only [cond_false] at e
        split at e
        · have := evOpsD_ok _ _ _ _ _ _ e
          rw [andr_true, andr_true] at this
          exact this.1.1
        · cases e
      · simp only [cond_true] at e
        split at e
        · split at e
          · have := evOpsD_ok _ _ _ _ _ _ e
            rw [andr_true, andr_true, andr_true] at this
            exact this.1.1.1
          · cases e
        · cases e
    · cases e

theorem full_get {α : Type} : ∀ (d k : Nat), (Tr.full d : Tr α).get k = none
  | 0, k => rfl
  | d + 1, 0 => rfl
  | d + 1, k + 1 => by
    show (Tr.n none (Tr.full d) (Tr.full d)).get (k + 1) = none
    rw [Tr.get_succ, full_get d]
    cases Nat.beq (Nat.land k 1) 0 <;> rfl

theorem evOpsD_sound (S : Sound C) {nt : Nat} {ops : Array Oper} {n0 : Nat} : ∀ (l : List Oper) (i : Nat) (fr : Fr) (h : H) (ms : List Rec) (k : Bool) (fr' : Fr) (h' : H), (∀ j, l[j]? = ops[i + j]?) → (∀ r ∈ ms, r.i < i) → (∀ r ∈ ms, RecOk ops r) →
    (∀ j o, j < i → ops[j]? = some o → ∀ e ∈ o.after, Region.binds .any e = true → e.on < j) → evOpsD C nt ops.toList n0 l i fr h ms k = some (fr', h', true) →
    k = true ∧ ∃ Rs : List Rec, (∀ r ∈ Rs, RecOk ops r) ∧ (∀ r ∈ Rs, r.i < i → r ∈ ms) ∧ (∀ r ∈ ms, r ∈ Rs) ∧ (∀ s ∈ Rs, i ≤ s.i → ∀ r ∈ Rs, r.i < s.i → Pre ops r.i s.i ∨ Ind r s) ∧
      ∀ f : Nat → Option V, (∀ t v, fr.get t = some v → f t = some v) → ∃ ff : Nat → Option V, (∀ t v, fr'.get t = some v → ff t = some v) ∧ ∀ listed, UpTo ops.size i listed → AnyE C ops nt Rs ff h'.bs.get l.length listed f h.bs.get
  | [], i, fr, h, ms, k, fr', h', hl, hm, hR, hE, e => by
    cases e
    refine ⟨rfl, ms, hR, fun r hr _ => hr, fun r hr => hr, fun s hs hi => absurd (hm s hs) (by omega), fun f hf => ⟨f, hf, fun listed hu => ⟨?_, rfl, rfl⟩⟩⟩
    have hsz : ops.size ≤ i := by
      have := hl 0
      simpa [Array.getElem?_eq_none_iff] using this.symm
    refine List.eq_nil_iff_forall_not_mem.2 fun j hj => ?_
    obtain ⟨h1, o, ho, _⟩ := mem_ready.1 hj
    have hlt := (Array.getElem?_eq_some_iff.1 ho).1
    rw [hu.2 j true hlt] at h1
    simp at h1
    omega
  | o :: l, i, fr, h, ms, k, fr', h', hl, hm, hR, hE, e => by
    have ho : ops[i]? = some o := by have := hl 0; simpa using this.symm
    have hlt : i < ops.size := (Array.getElem?_eq_some_iff.1 ho).1
    have hl' : ∀ j, l[j]? = ops[i + 1 + j]? := fun j => by have := hl (j + 1); simpa [Nat.add_assoc, Nat.add_comm 1 j] using this
    change (match wantB C ops.toList fr o with
      | some (t, k1) => cond t
          (match opD C nt (n0 + i) fr h o.op with
          | some (v, h2, F, W, k2) => match putD nt fr o.dst v with
            | some fr' => evOpsD C nt ops.toList n0 l (i + 1) fr' ⟨copyBack h.bs h2.bs W, h2.nx⟩ (⟨i, prevs ms (ons o.after.toList), app F W, W, looksL ops.toList o, dstL o⟩ :: ms)
                (andr (andr (andr k k1) k2) (cond (onlyBefore i o.after.toList) (freeOf ⟨i, prevs ms (ons o.after.toList), app F W, W, looksL ops.toList o, dstL o⟩ ms) false))
            | none => none
          | none => none)
          (match putD nt fr o.dst (.tuple []) with
          | some fr' => evOpsD C nt ops.toList n0 l (i + 1) fr' h (⟨i, prevs ms (ons o.after.toList), [], [], looksL ops.toList o, dstL o⟩ :: ms)
                (andr (andr k k1) (cond (onlyBefore i o.after.toList) (freeOf ⟨i, prevs ms (ons o.after.toList), [], [], looksL ops.toList o, dstL o⟩ ms) false))
          | none => none)
      | none => none) = some (fr', h', true) at e
    -- the step, once the record and the suffix are there
    have fin : ∀ (F W : List Nat) (fr1 : Fr) (h1 : H) (u : V), (∀ x, x ∈ W → x ∈ F) → putD nt fr o.dst u = some fr1 → cond (onlyBefore i o.after.toList) (freeOf ⟨i, prevs ms (ons o.after.toList), F, W, looksL ops.toList o, dstL o⟩ ms) false = true →
        (∀ f : Nat → Option V, (∀ t v, fr.get t = some v → f t = some v) → Step1 C ops nt i F W f h.bs.get (putF f o.dst u) h1.bs.get) → ∀ k', evOpsD C nt ops.toList n0 l (i + 1) fr1 h1 (⟨i, prevs ms (ons o.after.toList), F, W, looksL ops.toList o, dstL o⟩ :: ms) k' = some (fr', h', true) →
        k' = true ∧ ∃ Rs : List Rec, (∀ r ∈ Rs, RecOk ops r) ∧ (∀ r ∈ Rs, r.i < i → r ∈ ms) ∧ (∀ r ∈ ms, r ∈ Rs) ∧ (∀ s ∈ Rs, i ≤ s.i → ∀ r ∈ Rs, r.i < s.i → Pre ops r.i s.i ∨ Ind r s) ∧
          ∀ f : Nat → Option V, (∀ t v, fr.get t = some v → f t = some v) → ∃ ff : Nat → Option V, (∀ t v, fr'.get t = some v → ff t = some v) ∧ ∀ listed, UpTo ops.size i listed → AnyE C ops nt Rs ff h'.bs.get (l.length + 1) listed f h.bs.get := by
      intro F W fr1 h1 u hWF hput hcheck hstep k' hrec
      cases hob : onlyBefore i o.after.toList <;> simp only [hob, cond_true, cond_false, Bool.false_eq_true] at hcheck
      have hb := onlyBefore_spec hob
      have hbind : ∀ e ∈ o.after.toList, e ∈ o.after := fun e he => by simpa using he
      have hok : RecOk ops ⟨i, prevs ms (ons o.after.toList), F, W, looksL ops.toList o, dstL o⟩ := ⟨⟨o, ho, rfl, rfl⟩, hWF, prevs_pre hR ho o.after.toList hbind⟩
      have hE' : ∀ j p, j < i + 1 → ops[j]? = some p → ∀ e ∈ p.after, Region.binds .any e = true → e.on < j := fun j p hj hp ed hed hbi => by
        rcases Nat.lt_or_ge j i with h' | h'
        · exact hE j p h' hp ed hed hbi
        · have : j = i := by omega
          subst this
          rw [ho] at hp; cases hp
          exact hb ed (by simpa using hed) hbi
      obtain ⟨hk, Rs, q1, q2, q3, q4, q5⟩ := evOpsD_sound S l (i + 1) fr1 h1 _ k' fr' h' hl' (fun r hr => by
        rcases List.mem_cons.1 hr with rfl | hr
        · exact Nat.lt_succ_self i
        · exact Nat.lt_succ_of_lt (hm r hr)) (fun r hr => by
        rcases List.mem_cons.1 hr with rfl | hr
        · exact hok
        · exact hR r hr) hE' hrec
      have q4' : ∀ s ∈ Rs, i ≤ s.i → ∀ r ∈ Rs, r.i < s.i → Pre ops r.i s.i ∨ Ind r s := fun s hs hi r hr hlt' => by
        rcases Nat.lt_or_ge i s.i with h' | h'
        · exact q4 s hs h' r hr hlt'
        · have hsi : s.i = i := by omega
          rcases List.mem_cons.1 (q2 s hs (by omega)) with hs' | hs'
          · subst hs'
            rcases List.mem_cons.1 (q2 r hr (by simp only at hlt'; omega)) with hr' | hr'
            · subst hr'; simp at hlt'
            · rcases freeOf_spec hcheck r hr' with h1 | h1
              · exact .inl (hok.pre _ h1)
              · exact .inr h1
          · have := hm s hs'; omega
      refine ⟨hk, Rs, q1, fun r hr hri => ?_, fun r hr => q3 r (by simp [hr]), q4', fun f hf => ?_⟩
      · rcases List.mem_cons.1 (q2 r hr (by omega)) with hr' | hr'
        · subst hr'; simp at hri
        · exact hr'
      · obtain ⟨hf1, hdst⟩ := putD_F hput hf
        obtain ⟨ff, hff, hany⟩ := q5 (putF f o.dst u) hf1
        refine ⟨ff, hff, fun listed hu => ?_⟩
        have hr0 : (⟨i, prevs ms (ons o.after.toList), F, W, looksL ops.toList o, dstL o⟩ : Rec) ∈ Rs := q3 _ (by simp)
        refine AnyE.first (r := ⟨i, prevs ms (ons o.after.toList), F, W, looksL ops.toList o, dstL o⟩) q1 hr0 l.length listed f (putF f o.dst u) h.bs.get h1.bs.get ?_ ?_ ?_ (hstep f hf) (hany _ hu.next)
        · intro j p hp hj hjs e he hbi
          rw [hu.1] at hjs
          rw [hu.2 j true hjs] at hj
          have hji : j < i := by simpa using hj
          have := hE j p hji hp e he hbi
          rw [hu.2 e.on false (by omega)]
          simp; omega
        · intro s hs hne hun
          obtain ⟨so, hso, _⟩ := (q1 s hs).o
          have hss := (Array.getElem?_eq_some_iff.1 hso).1
          rw [hu.2 s.i true hss] at hun
          have : ¬ s.i < i := by simpa using hun
          have hlt2 : i < s.i := by
            have : s.i ≠ i := hne
            omega
          exact q4' s hs (by omega) _ hr0 hlt2
        · refine mem_ready.2 ⟨by rw [hu.2 i true hlt]; simp, o, ho, fun e he hbi => ?_⟩
          have := hb e (by simpa using he) hbi
          rw [hu.2 e.on false (by omega)]
          simp; omega
    split at e
    · rename_i t k1 hw
      cases t
      · simp only [cond_false] at e
        split at e
        · rename_i fr1 hp
          obtain ⟨hk, hrest⟩ := (by
            have hk0 : cond (onlyBefore i o.after.toList) (freeOf ⟨i, prevs ms (ons o.after.toList), [], [], looksL ops.toList o, dstL o⟩ ms) false = true ∧ k = true ∧ k1 = true := by
              have hk' : ∀ (l : List Oper) (i : Nat) (fr : Fr) (h : H) (ms : List Rec) (k : Bool), evOpsD C nt ops.toList n0 l i fr h ms k = some (fr', h', true) → k = true := evOpsD_ok
              have := hk' _ _ _ _ _ _ e
              rw [andr_true, andr_true] at this
              exact ⟨this.2, this.1.1, this.1.2⟩
            exact hk0)
          obtain ⟨rfl, rfl⟩ := hrest
          refine ⟨rfl, (fin [] [] fr1 h (.tuple []) (fun x hx => by cases hx) hp hk (fun f hf => ⟨⟨o, .tuple [], ho, rfl, (putD_F hp hf).2, .inl ⟨wantB_F hw hf, rfl, rfl⟩⟩, fun i hi => hi⟩) _ e).2⟩
        · cases e
      · simp only [cond_true] at e
        split at e
        · rename_i v h2 F0 W k2 hop
          split at e
          · rename_i fr1 hp
            have hkk := evOpsD_ok _ _ _ _ _ _ e
            rw [andr_true, andr_true, andr_true] at hkk
            obtain ⟨⟨⟨rfl, rfl⟩, rfl⟩, hcheck⟩ := hkk
            unfold opD at hop
            split at hop
            · rename_i v1 h3 k3 hE3
              simp only [Option.some.injEq, Prod.mk.injEq, andr_true] at hop
              obtain ⟨rfl, rfl, rfl, rfl, rfl, hids⟩ := hop
              have hi1 : okFr fr.get h.has (tmpsL o.op.operands.toList) = true := by cases hq : okFr fr.get h.has (tmpsL o.op.operands.toList) <;> simp [hq] at hids ⊢
              have hi2 : okBlks h.bs.get h.has (opIds C (n0 + i) fr h o.op) = true := by simpa [hi1] using hids
              have hnear := opE_near hE3
              have hspec := opE_sound S hE3
              refine ⟨rfl, (fin _ _ fr1 _ v1 (fun x hx => by rw [app_eq]; simp [hx]) hp hcheck (fun f hf => ?_) _ e).2⟩
              have hdom : ∀ q, h3.bs.dom q = h.bs.dom q := fun q => by rw [hnear.1 q, only_dom]
              have hcb := fun x => copyBack_get h3.bs (touched C (n0 + i) (onlyFr fr (Tr.full (Nat.log2 (nt + 1) + 1)) (tmpsL o.op.operands.toList)) (h.only (opIds C (n0 + i) fr h o.op)) o.op) h.bs x hdom
              have fo : ∀ t v, (onlyFr fr (Tr.full (Nat.log2 (nt + 1) + 1)) (tmpsL o.op.operands.toList)).get t = some v → t ∈ tmpsL o.op.operands.toList ∧ fr.get t = some v := fun t v hv => onlyFr_mem fr _ _ t v (full_get _) hv
              refine ⟨⟨o, v1, ho, rfl, (putD_F hp hf).2, .inr ⟨wantB_F hw hf, _, fun t v hv => ⟨hf t v (fo t v hv).2, (fo t v hv).1⟩, fun x hx => ?_, fun g2 g2' a1 a2 a3 => ?_⟩⟩, fun x hx => ?_⟩
              · show (copyBack _ _ _).get x = _
                rw [hcb x, if_neg hx]
              · refine OpSpec.loc hspec hnear (fun t u hu => okFr_get hi1 t (fo t u hu).1 u (fo t u hu).2) (okBlks_get hi2) (fun x hx => a1 x ?_) (fun x hx => ?_) a3
                · rw [app_eq]
                  rcases hx with hx | hx
                  · exact .inl (by simp [hx])
                  · exact .inr hx
                · rw [a2 x hx]
                  show (copyBack _ _ _).get x = _
                  rw [hcb x, if_pos hx]
              · show (copyBack _ _ _).get x ≠ none
                rw [hcb x]
                split
                · refine hnear.2.2 x ?_
                  rw [only_get]
                  split
                  · exact hx
                  · cases hq : h.bs.get x with
                    | none => exact absurd hq hx
                    | some b => simp
                · exact hx
            · cases hop
          · cases e
        · cases e
    · cases e
end
end Ev
end Go
