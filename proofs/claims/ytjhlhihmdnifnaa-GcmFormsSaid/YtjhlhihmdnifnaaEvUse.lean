/- Use of the evaluator: what is kept of a state, loops' summaries, a function's summary out of one equation. -/
import Derived.Test.YtjhlhihmdnifnaaEvRun
set_option linter.unusedVariables false
namespace Go
namespace Ev
section
variable {C : Cfg}

def noL : Nat → Fr → H → Option Out := fun _ _ _ => none
theorem LSound.none {D : Nat → Prop} {nt : Nat} (c : Code) : LSound C D nt noL c := by
  induction c <;> simp_all [LSound, noL]

/-! Lists of slots, of blocks -/
def look {α : Type} : List (Nat × α) → Nat → Option α
  | [], _ => none
  | (i, a) :: l, j => cond (Nat.beq i j) (some a) (look l j)
noncomputable def putL {α : Type} : List (Nat × α) → Tr α → Tr α
  | [], t => t
  | (i, a) :: l, t => (putL l t).put i (some a)
theorem putL_get {α : Type} {t : Tr α} (ht : ∀ k, t.get k = none) : ∀ {l : List (Nat × α)} {k : Nat} {v : α}, (putL l t).get k = some v → look l k = some v
  | [], k, v, h => by rw [putL, ht] at h; cases h
  | (i, a) :: l, k, v, h => by
    rcases Tr.get_put _ _ _ _ _ h with ⟨rfl, h'⟩ | ⟨hne, h'⟩
    · cases h'; simp [look]
    · have : Nat.beq i k = false := by
        cases hb : Nat.beq i k
        · rfl
        · exact absurd (beq_true.1 hb).symm hne
      simp only [look, this, cond_false]
      exact putL_get ht h'
theorem look_mem {α : Type} : ∀ {l : List (Nat × α)} {k : Nat} {v : α}, look l k = some v → (k, v) ∈ l
  | (i, a) :: l, k, v, h => by
    simp only [look] at h
    cases hb : Nat.beq i k <;> simp only [hb, cond_true, cond_false] at h
    · exact List.mem_cons_of_mem _ (look_mem h)
    · cases h; rw [beq_true.1 hb]; exact List.mem_cons_self

noncomputable def frT (l : List (Nat × V)) : Fr := putL l (Tr.full 9)
noncomputable def hpT (m : List (Nat × Blk)) : Tr Blk := putL m (Tr.full 20)
theorem frT_get {l : List (Nat × V)} {k : Nat} {v : V} (h : (frT l).get k = some v) : look l k = some v := putL_get (full_get 9) h
theorem hpT_get {l : List (Nat × Blk)} {k : Nat} {v : Blk} (h : (hpT l).get k = some v) : look l k = some v := putL_get (full_get 20) h

/-! Forgetting -/
noncomputable def hasT (t : Tr Blk) (i : Nat) : Bool := match t.get i with
  | some _ => true
  | none => false
theorem hasT_true {t : Tr Blk} {i : Nat} : hasT t i = true ↔ t.get i ≠ none := by
  unfold hasT; cases t.get i <;> simp
def okVs (p : Nat → Bool) : List (Nat × V) → Bool
  | [] => true
  | (_, v) :: l => cond (okIdsN 5 p v) (okVs p l) false
def okBs (p : Nat → Bool) : List (Nat × Blk) → Bool
  | [] => true
  | (_, b) :: l => cond (okBlk p (some b)) (okBs p l) false
def allHas (p : Nat → Bool) : List Nat → Bool
  | [] => true
  | i :: l => cond (p i) (allHas p l) false
theorem okVs_mem {p : Nat → Bool} : ∀ {l : List (Nat × V)}, okVs p l = true → ∀ i v, (i, v) ∈ l → okIdsN 5 p v = true
  | (_, u) :: l, h, i, v, hm => by
    simp only [okVs] at h
    cases hu : okIdsN 5 p u <;> simp [hu] at h
    rcases List.mem_cons.1 hm with h' | h'
    · cases h'; exact hu
    · exact okVs_mem h i v h'
theorem okBs_mem {p : Nat → Bool} : ∀ {l : List (Nat × Blk)}, okBs p l = true → ∀ i v, (i, v) ∈ l → okBlk p (some v) = true
  | (_, u) :: l, h, i, v, hm => by
    simp only [okBs] at h
    cases hu : okBlk p (some u) <;> simp [hu] at h
    rcases List.mem_cons.1 hm with h' | h'
    · cases h'; exact hu
    · exact okBs_mem h i v h'
theorem allHas_mem {p : Nat → Bool} : ∀ {l : List Nat}, allHas p l = true → ∀ i ∈ l, p i = true
  | u :: l, h, i, hm => by
    simp only [allHas] at h
    cases hu : p u <;> simp [hu] at h
    rcases List.mem_cons.1 hm with h' | h'
    · cases h'; exact hu
    · exact allHas_mem h i h'
/-- These slots and blocks refer to nothing else; the blocks ahead are among them. -/
noncomputable def okAll (l : List (Nat × V)) (m : List (Nat × Blk)) (ids : List Nat) : Bool :=
  cond (okVs (hasT (hpT m)) l) (cond (okBs (hasT (hpT m)) m) (allHas (hasT (hpT m)) ids) false) false
theorem okAll_true {l : List (Nat × V)} {m : List (Nat × Blk)} {ids : List Nat} (h : okAll l m ids = true) : okVs (hasT (hpT m)) l = true ∧ okBs (hasT (hpT m)) m = true ∧ allHas (hasT (hpT m)) ids = true := by
  unfold okAll at h
  cases h1 : okVs (hasT (hpT m)) l <;> cases h2 : okBs (hasT (hpT m)) m <;> simp_all

theorem St.forget {D own : Nat → Prop} {ρ : Ren} {nt : Nat} {f : Nat → Option V} {g : Nat → Option Blk} {a : Act} {w : World} (hs : St D own ρ nt f g a w) {l : List (Nat × V)} {m : List (Nat × Blk)} {ids : List Nat}
    (hl : ∀ t v, look l t = some v → f t = some v) (hm : ∀ i b, look m i = some b → g i = some b) (hD : ∀ i, D i → i ∈ ids) (hk : okAll l m ids = true) :
    ∃ σ, Ren.eqOn D ρ σ ∧ St D own σ nt (frT l).get (hpT m).get a w := by
  obtain ⟨k1, k2, k3⟩ := okAll_true hk
  have hσ : ∀ b x, hasT (hpT m) b = true → ρ b = some x → (fun i => if hasT (hpT m) i = true then ρ i else none : Ren) b = some x := fun b x h1 h2 => by simp [h1, h2]
  refine ⟨fun i => if hasT (hpT m) i = true then ρ i else none, fun i hi => by simp [allHas_mem k3 i (hD i hi)], ⟨fun t v hv => ?_, hs.size, hs.defers, ⟨fun i b hi hlive => ?_, fun i j b c r s hi hb hj hc hr hs' he => ?_, fun i hi => ?_, hs.heap.own⟩, fun i hi => hasT_true.1 (allHas_mem k3 i (hD i hi))⟩⟩
  · have hlv := frT_get hv
    exact okIdsN_VR 5 _ v _ ρ _ (okVs_mem k1 t v (look_mem hlv)) hσ (hs.fr t v (hl t v hlv))
  · have hlb := hpT_get hi
    obtain ⟨r, cs, ty, fz, q1, q2, q3, q4, q5⟩ := hs.heap.blk i b (hm i b hlb) hlive
    have hh : hasT (hpT m) i = true := hasT_true.2 (by rw [hi]; simp)
    exact ⟨r, cs, ty, fz, hσ i r hh q1, q2, q3, q4.restrict (okBs_mem k2 i b (look_mem hlb)) hσ, q5⟩
  · have h1 : hasT (hpT m) i = true := hasT_true.2 (by rw [hi]; simp)
    have h2 : hasT (hpT m) j = true := hasT_true.2 (by rw [hj]; simp)
    simp only [h1, h2, if_true] at hr hs'
    exact hs.heap.inj i j b c r s (hm i b (hpT_get hi)) hb (hm j c (hpT_get hj)) hc hr hs' he
  · have : ¬ hasT (hpT m) i = true := fun h => hasT_true.1 h hi
    simp [this]

theorem Post.forget {own : Nat → Prop} {ρ : Ren} {D : Nat → Prop} {nt : Nat} {w : World} {x : X} {f : Nat → Option V} {g : Nat → Option Blk} {l : List (Nat × V)} {m : List (Nat × Blk)} {ids : List Nat}
    (hl : ∀ t v, look l t = some v → f t = some v) (hm : ∀ i b, look m i = some b → g i = some b) (hD : ∀ i, D i → i ∈ ids) (hk : okAll l m ids = true) :
    ∀ e a' w', Post own ρ D nt w x f g e a' w' → Post own ρ D nt w x (frT l).get (hpT m).get e a' w' := by
  rintro e a' w' ⟨ρ', h1, h2, h3, h4⟩
  obtain ⟨σ, q1, q2⟩ := h3.forget hl hm hD hk
  exact ⟨σ, h1.trans q1, h2, q2, h4⟩

theorem CSpec.post {D : Nat → Prop} {nt : Nat} {c : Code} {f f' : Nat → Option V} {g g' : Nat → Option Blk} {x : X} (h : CSpec C D nt c f g x f' g') {l : List (Nat × V)} {m : List (Nat × Blk)} {ids : List Nat}
    (hl : ∀ t v, look l t = some v → f' t = some v) (hm : ∀ i b, look m i = some b → g' i = some b) (hD : ∀ i, D i → i ∈ ids) (hk : okAll l m ids = true) : CSpec C D nt c f g x (frT l).get (hpT m).get :=
  fun own ρ a w hs => wp_mono (h own ρ a w hs) (Post.forget hl hm hD hk)

theorem RSpec.pre {D : Nat → Prop} {nt : Nat} {c : Code} {f f' : Nat → Option V} {g g' : Nat → Option Blk} {x : X} {l : List (Nat × V)} {m : List (Nat × Blk)} {ids : List Nat} (h : RSpec C D nt c (frT l).get (hpT m).get x f' g')
    (hl : ∀ t v, look l t = some v → f t = some v) (hm : ∀ i b, look m i = some b → g i = some b) (hD : ∀ i, D i → i ∈ ids) (hk : okAll l m ids = true) : RSpec C D nt c f g x f' g' := by
  obtain ⟨n, hn⟩ := h
  refine ⟨n, fun own ρ a w hs => ?_⟩
  obtain ⟨σ, q1, q2⟩ := hs.forget hl hm hD hk
  exact rounds_mono (Post.pull q1 (Frm.refl _ _)) n a w (hn own σ a w q2)

/-! A piece of code, of which some is kept -/
noncomputable def getsV (fr : Fr) : List Nat → List (Option V)
  | [] => []
  | t :: l => fr.get t :: getsV fr l
noncomputable def getsB (t : Tr Blk) : List Nat → List (Option Blk)
  | [] => []
  | i :: l => t.get i :: getsB t l
def keys {α : Type} : List (Nat × α) → List Nat
  | [] => []
  | (i, _) :: l => i :: keys l
def vals {α : Type} : List (Nat × α) → List (Option α)
  | [] => []
  | (_, v) :: l => some v :: vals l
noncomputable def pickO (o : Option Out) (ts is : List Nat) : Option (X × List (Option V) × List (Option Blk) × Bool) := match o with
  | some (x, fr, h, k) => some (x, getsV fr ts, getsB h.bs is, k)
  | none => none
theorem getsV_look {fr : Fr} : ∀ {l : List (Nat × V)}, getsV fr (keys l) = vals l → ∀ t v, look l t = some v → fr.get t = some v
  | (i, a) :: l, h, t, v, hl => by
    simp only [keys, getsV, vals, List.cons.injEq] at h
    simp only [look] at hl
    cases hb : Nat.beq i t <;> simp only [hb, cond_true, cond_false] at hl
    · exact getsV_look h.2 t v hl
    · cases hl; rw [← beq_true.1 hb]; exact h.1
theorem getsB_look {fr : Tr Blk} : ∀ {l : List (Nat × Blk)}, getsB fr (keys l) = vals l → ∀ t v, look l t = some v → fr.get t = some v
  | (i, a) :: l, h, t, v, hl => by
    simp only [keys, getsB, vals, List.cons.injEq] at h
    simp only [look] at hl
    cases hb : Nat.beq i t <;> simp only [hb, cond_true, cond_false] at hl
    · exact getsB_look h.2 t v hl
    · cases hl; rw [← beq_true.1 hb]; exact h.1

theorem CSpec.ev (S : Sound C) {L : Nat → Fr → H → Option Out} {D : Nat → Prop} {nt n nx : Nat} {c : Code} {l l' : List (Nat × V)} {m m' : List (Nat × Blk)} {x : X} {k : Bool} (ids : List Nat) (hL : LSound C D nt L c)
    (e : pickO (evC C L nt n c (frT l) ⟨hpT m, nx⟩) (keys l') (keys m') = some (x, vals l', vals m', k)) (hk : k = true) (hD : ∀ i, D i → i ∈ ids) (ho : okAll l' m' ids = true) :
    CSpec C D nt c (frT l).get (hpT m).get x (frT l').get (hpT m').get := by
  unfold pickO at e
  split at e
  · rename_i x1 fr1 h1 k1 he
    simp only [Option.some.injEq, Prod.mk.injEq] at e
    obtain ⟨rfl, e1, e2, rfl⟩ := e
    subst hk
    exact ((evC_sound S n c _ _ _ _ _ hL he).1).post (getsV_look e1) (getsB_look e2) hD ho
  · cases e

/-! Loops' summaries -/
structure LP where
  id : Nat
  ts : List Nat
  is : List Nat
  F : List V → List Blk → Option (X × List (Nat × V) × List (Nat × Blk) × Nat × Bool)
noncomputable def readV (fr : Fr) : List Nat → Option (List V)
  | [] => some []
  | t :: l => match fr.get t, readV fr l with
    | some v, some vs => some (v :: vs)
    | _, _ => none
noncomputable def readB (t : Tr Blk) : List Nat → Option (List Blk)
  | [] => some []
  | i :: l => match t.get i, readB t l with
    | some v, some vs => some (v :: vs)
    | _, _ => none
def zip {α : Type} : List Nat → List α → List (Nat × α)
  | i :: l, a :: m => (i, a) :: zip l m
  | _, _ => []
theorem readV_zip {fr : Fr} : ∀ {ts : List Nat} {vs : List V}, readV fr ts = some vs → ∀ t v, look (zip ts vs) t = some v → fr.get t = some v
  | [], vs, h, t, v, hl => by cases h; simp [zip, look] at hl
  | i :: ts, vs, h, t, v, hl => by
    simp only [readV] at h
    split at h
    · rename_i u us h1 h2
      cases h
      simp only [zip, look] at hl
      cases hb : Nat.beq i t <;> simp only [hb, cond_true, cond_false] at hl
      · exact readV_zip h2 t v hl
      · cases hl; rw [← beq_true.1 hb]; exact h1
    · cases h
theorem readB_zip {fr : Tr Blk} : ∀ {ts : List Nat} {vs : List Blk}, readB fr ts = some vs → ∀ t v, look (zip ts vs) t = some v → fr.get t = some v
  | [], vs, h, t, v, hl => by cases h; simp [zip, look] at hl
  | i :: ts, vs, h, t, v, hl => by
    simp only [readB] at h
    split at h
    · rename_i u us h1 h2
      cases h
      simp only [zip, look] at hl
      cases hb : Nat.beq i t <;> simp only [hb, cond_true, cond_false] at hl
      · exact readB_zip h2 t v hl
      · cases hl; rw [← beq_true.1 hb]; exact h1
    · cases h
noncomputable def mkL (ids : List Nat) : List LP → Nat → Fr → H → Option Out
  | [], _, _, _ => none
  | p :: ps, id, fr, h => cond (Nat.beq p.id id)
      (match readV fr p.ts, readB h.bs p.is with
      | some vs, some bs => match p.F vs bs with
        | some (x, l', m', nx, k) => some (x, frT l', ⟨hpT m', nx⟩, andr k (okAll (zip p.ts vs) (zip p.is bs) ids))
        | none => none
      | _, _ => none)
      (mkL ids ps id fr h)
/-- A loop's summary holds. -/
def LP.Holds (C : Cfg) (D : Nat → Prop) (nt : Nat) (body : Code) (p : LP) : Prop := ∀ vs bs x l' m' nx, p.F vs bs = some (x, l', m', nx, true) →
  RSpec C D nt body (frT (zip p.ts vs)).get (hpT (zip p.is bs)).get x (frT l').get (hpT m').get
def loopsOf : Code → List Code
  | .seq a b => app (loopsOf a) (loopsOf b)
  | .cond _ a b => app (loopsOf a) (loopsOf b)
  | .block _ a => loopsOf a
  | .scope a => loopsOf a
  | .loop a => a :: loopsOf a
  | _ => []
theorem mem_app {α : Type} {x : α} : ∀ {l m : List α}, x ∈ app l m ↔ x ∈ l ∨ x ∈ m
  | [], m => by simp [app]
  | a :: l, m => by simp [app, mem_app, or_assoc]
theorem LSound.of {D : Nat → Prop} {nt : Nat} {L : Nat → Fr → H → Option Out} : ∀ (c : Code), (∀ a ∈ loopsOf c, ∀ fr h x fr' h', L (firstId a) fr h = some (x, fr', h', true) → RSpec C D nt a fr.get h.bs.get x fr'.get h'.bs.get) → LSound C D nt L c := by
  intro c
  induction c <;> intro h <;> simp_all [LSound, loopsOf, mem_app]
theorem mkL_sound {D : Nat → Prop} {nt : Nat} {ids : List Nat} (hD : ∀ i, D i → i ∈ ids) {a : Code} : ∀ {ps : List LP}, (∀ p ∈ ps, p.id = firstId a → p.Holds C D nt a) → ∀ fr h x fr' h', mkL ids ps (firstId a) fr h = some (x, fr', h', true) →
    RSpec C D nt a fr.get h.bs.get x fr'.get h'.bs.get
  | [], _, fr, h, x, fr', h', e => by cases e
  | p :: ps, hp, fr, h, x, fr', h', e => by
    simp only [mkL] at e
    cases hb : Nat.beq p.id (firstId a) <;> simp only [hb, cond_true, cond_false] at e
    · exact mkL_sound hD (fun q hq => hp q (by simp [hq])) fr h x fr' h' e
    · split at e
      · rename_i vs bs h1 h2
        split at e
        · rename_i x1 l' m' nx k h3
          simp only [Option.some.injEq, Prod.mk.injEq, andr_true] at e
          obtain ⟨rfl, rfl, rfl, rfl, ho⟩ := e
          exact (hp p (by simp) (beq_true.1 hb) vs bs _ l' m' nx h3).pre (readV_zip h1) (readB_zip h2) hD ho
        · cases e
      · cases e

/-- Round by round, by a count. -/
theorem RSpec.count {D : Nat → Prop} {nt : Nat} {c : Code} {f : Nat → Nat → Option V} {g : Nat → Nat → Option Blk} {x : X} {f' : Nat → Option V} {g' : Nat → Option Blk} {n : Nat} (hx : x ≠ .normal)
    (hstep : ∀ i, i < n → CSpec C D nt c (f i) (g i) .normal (f (i + 1)) (g (i + 1))) (hlast : CSpec C D nt c (f n) (g n) x f' g') : ∀ k i, i + k = n → RSpec C D nt c (f i) (g i) x f' g'
  | 0, i, h => by
    have : i = n := by omega
    subst this
    exact RSpec.last hx hlast
  | k + 1, i, h => RSpec.step (hstep i (by omega)) (RSpec.count hx hstep hlast k (i + 1) (by omega))

/-! A function -/
noncomputable def pickF (o : Option (V × H × Bool)) (is : List Nat) : Option (V × List (Option Blk) × Bool) := match o with
  | some (v, h, k) => some (v, getsB h.bs is, k)
  | none => none
theorem VSpec.ev (S : Sound C) {L : Nat → Fr → H → Option Out} {f : Nat} {fn : Func} {c : Code} {fuel d nx : Nat} {args : List V} {v : V} {k : Bool} (hf : C.P.funcs[f]? = some fn) (hb : fn.body = some c)
    (hL : LSound C (fun _ => False) fn.ntmps L c) (e : pickF (evF C L fuel fn args ⟨Tr.full d, nx⟩) [] = some (v, [], k)) (hk : k = true) (hv : noIds v = true) : VSpec C.P f args v := by
  unfold pickF at e
  split at e
  · rename_i v1 h1 k1 he
    simp only [Option.some.injEq, Prod.mk.injEq] at e
    obtain ⟨rfl, _, rfl⟩ := e
    subst hk
    have hd : (fun i => (⟨Tr.full d, nx⟩ : H).bs.get i ≠ none) = (fun _ => False) := by
      funext i; simp [full_get]
    exact VSpec.of (evF_sound S hf hb (by rw [hd]; exact hL) he) (full_get d) hv
  · cases e
end
end Ev
end Go
