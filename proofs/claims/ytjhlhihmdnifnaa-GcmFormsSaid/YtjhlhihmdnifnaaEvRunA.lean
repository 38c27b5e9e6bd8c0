/- Operations, regions in the order of the text: what the evaluator answers, the machine does. -/
import Derived.Test.YtjhlhihmdnifnaaEvNear
import Derived.LoopN
import Derived.Scope
set_option linter.unusedVariables false
namespace Go
namespace Ev

/-- What a call does, from memory that stands for h. -/
def FSpec (P : Program) (f : Nat) (args : List V) (h : H) (v : V) (h' : H) : Prop := ∀ (own : Nat → Prop) (ρ : Ren) (w : World) (as : List Value), HR own ρ h w → VRs ρ args as →
  Calls P f as.toArray w (fun e w' => ∃ ρ' y, ρ.le ρ' ∧ e = .returned y ∧ VR ρ' v y ∧ HR own ρ' h' w' ∧ Frm own w w' ∧ New ρ ρ' h.bs.get)
def none' : Ren := fun _ => none
/-- What a call of values answers. -/
def VSpec (P : Program) (f : Nat) (args : List V) (v : V) : Prop := ∀ (w : World) (as : List Value), VRs none' args as →
  Calls P f as.toArray w (fun e w' => ∃ y, e = .returned y ∧ VR none' v y ∧ Frm (fun k => w.heap.size ≤ k) w w')
def Callable (P : Program) (f : Nat) : Prop := ∃ fn, P.funcs[f]? = some fn ∧ fn.body.isSome = true ∧ (fn.name == "runtime.NumGoroutine") = false

structure Sound (C : Cfg) : Prop where
  mixed : C.P.follows .mixedOrders = true
  O : ∀ f args h v l n, C.O f args h = some (v, l, n, true) → Callable C.P f ∧ FSpec C.P f args h v ⟨putAll h.bs l, n⟩
  OV : ∀ f args v, C.OV f args = some (v, true) → Callable C.P f ∧ VSpec C.P f args v

theorem allB_true {f : V → Bool} : ∀ {l : List V}, noIdsN.allB f l = true → ∀ v ∈ l, f v = true
  | [], _, v, hv => by cases hv
  | a :: l, h, v, hv => by
    simp only [noIdsN.allB] at h
    cases ha : f a <;> simp [ha] at h
    rcases List.mem_cons.1 hv with rfl | hv
    · exact ha
    · exact allB_true h v hv

theorem noIdsN_VR : ∀ (d : Nat) (v : V) (x : Value) (ρ σ : Ren), noIdsN d v = true → VR ρ v x → VR σ v x
  | 0, v, x, ρ, σ, h, _ => by cases h
  | d + 1, v, x, ρ, σ, h, hx => by
    have all : ∀ (l : List V) (m : List Value), noIdsN.allB (noIdsN d) l = true → VRs ρ l m → VRs σ l m := fun l => by
      induction l with
      | nil => exact fun m _ hm => hm
      | cons v l ih =>
        rintro m hl ⟨y, r, rfl, h1, h2⟩
        simp only [noIdsN.allB] at hl
        cases hv : noIdsN d v <;> simp [hv] at hl
        exact ⟨y, r, rfl, noIdsN_VR d v y ρ σ hv h1, ih r hl h2⟩
    cases v
    case any => exact trivial
    case ptr b o => cases h
    case slice b o n z => cases h
    case agg l => obtain ⟨m, rfl, hm⟩ := hx; exact ⟨m, rfl, all l m h hm⟩
    case tuple l => obtain ⟨m, rfl, hm⟩ := hx; exact ⟨m, rfl, all l m h hm⟩
    case iface t u => obtain ⟨y, rfl, hy⟩ := hx; exact ⟨y, rfl, noIdsN_VR d u y ρ σ h hy⟩
    all_goals exact hx

theorem noIds_VR {v : V} {x : Value} {ρ σ : Ren} (h : noIds v = true) (hx : VR ρ v x) : VR σ v x := noIdsN_VR 4 v x ρ σ h hx
theorem noIdsL_VRs {ρ σ : Ren} : ∀ {l : List V} {m : List Value}, noIdsL l = true → VRs ρ l m → VRs σ l m
  | [], m, _, hm => hm
  | v :: l, m, h, ⟨y, r, e, h1, h2⟩ => by
    simp only [noIdsL] at h
    cases hv : noIds v <;> simp [hv] at h
    exact ⟨y, r, e, noIds_VR hv h1, noIdsL_VRs h h2⟩

theorem HG.keep {own : Nat → Prop} {ρ : Ren} {g : Nat → Option Blk} {w w' : World} (h : HG own ρ g w) (f : Frm (fun k => w.heap.size ≤ k) w w') : HG own ρ g w' := by
  refine ⟨fun i b hi hl => ?_, h.inj, h.fresh, fun k hk => h.own k (Nat.le_trans f.size hk)⟩
  obtain ⟨r, cs, ty, fz, h1, h2, h3⟩ := h.blk i b hi hl
  refine ⟨r, cs, ty, fz, h1, ?_, h3⟩
  rw [f.block _ (by have := (Array.getElem?_eq_some_iff.1 h2).1; omega)]
  exact h2

theorem Frm.widen {own : Nat → Prop} {w w' : World} (f : Frm (fun k => w.heap.size ≤ k) w w') (h : ∀ k, w.heap.size ≤ k → own k) : Frm own w w' :=
  ⟨f.os, f.tape, f.output, f.size, fun k hk => f.block k fun hge => hk (h k hge)⟩

section
variable {C : Cfg}

/-- What an operation does. -/
def OpSpec (C : Cfg) (o : Oper) (f : Nat → Option V) (g : Nat → Option Blk) (v : V) (g' : Nat → Option Blk) : Prop := ∀ (own : Nat → Prop) (ρ : Ren) (a : Act) (w : World), FrG ρ f a → HG own ρ g w →
  ∀ (K : Act → World → Prop) (Q : Exit → Act → World → Prop), (∀ ρ' y w', ρ.le ρ' → VR ρ' v y → HG own ρ' g' w' → Frm own w w' → New ρ ρ' g → K (a.put o.dst y) w') → o.wp C.P a w K Q

theorem OpSpec.of_sem {o : Oper} {fr : Fr} {h h' : H} {v : V} (hs : ∀ (own : Nat → Prop) (ρ : Ren) (a : Act) (w : World), FrR ρ fr a → HR own ρ h w →
    ∃ s : Sem Value, (execOp a.eval o).run C.P w = ((do Pure.pure (Next.value (← s))) : Sem Next).run C.P w ∧ SemOK C.P own ρ h w v h' s) : OpSpec C o fr.get h.bs.get v h'.bs.get := by
  intro own ρ a w hF hH K Q hK
  obtain ⟨s, he, y, w', ρ', h1, h2, h3, h4, h5, h6⟩ := hs own ρ a w hF hH
  simp only [Oper.wp, he, Sem.run_bind, h1, Result.andThen_ok, Sem.run_pure, Oper.upon]
  exact hK ρ' y w' h2 h3 h4 h5 h6

theorem evs_toArray (a : Act) (args : Array Operand) : (args.toList.map a.eval).toArray = args.map a.eval := by
  apply Array.ext'; simp

theorem opCall_sound (S : Sound C) {o : Oper} {id : Nat} {fr : Fr} {h h' : H} {v : V} {c : Call} (ho : o.op = .call c) (e : opCall C id fr h c = some (v, h', true)) : OpSpec C o fr.get h.bs.get v h'.bs.get := by
  intro own ρ a w hF hH K Q hK
  have hargs := evs_VRs hF c.args.toList
  unfold opCall at e
  split at e
  · rename_i f hc
    have enter : Callable C.P f → (execOp a.eval o).run C.P w = .ok (.enter f (c.args.map a.eval)) w := fun ⟨fn, h1, h2, h3⟩ => by
      have hb : fn.body.isNone = false := by cases hfb : fn.body <;> simp_all
      simp only [execOp, ho, resolve, hc, Act.eval, Deferred.ofValue, Sem.run_bind, Sem.run_pure, Result.andThen_ok, invoke, callFunc, run_program, h1, h3, hb]
      simp
    split at e
    · rename_i u k hov
      simp only [Option.some.injEq, Prod.mk.injEq, andr_true] at e
      obtain ⟨rfl, rfl, rfl, hno⟩ := e
      have hno1 : noIdsL (evs fr c.args.toList) = true := by cases hq : noIdsL (evs fr c.args.toList) <;> simp [hq] at hno ⊢
      have hno2 : noIds u = true := by simpa [hno1] using hno
      obtain ⟨hcall, hspec⟩ := S.OV f _ u hov
      simp only [Oper.wp, enter hcall, Oper.upon]
      have hsp := hspec w _ (noIdsL_VRs hno1 hargs)
      rw [evs_toArray] at hsp
      refine hsp.mono ?_
      rintro en w' ⟨y, rfl, h1, h2⟩
      exact hK ρ y w' ρ.le_refl (noIds_VR hno2 h1) (hH.keep h2) (h2.widen hH.own) (New.refl _ _)
    · split at e
      rotate_left
      · cases e
      rename_i v1 l1 n1 k1 hO
      simp only [Option.some.injEq, Prod.mk.injEq] at e
      obtain ⟨rfl, rfl, rfl⟩ := e
      obtain ⟨hcall, hspec⟩ := S.O f _ h v1 l1 n1 hO
      simp only [Oper.wp, enter hcall, Oper.upon]
      have hsp := hspec own ρ w _ hH hargs
      rw [evs_toArray] at hsp
      refine hsp.mono ?_
      rintro en w' ⟨ρ', y, h1, rfl, h2, h3, h4, h5⟩
      exact hK ρ' y w' h1 h2 h3 h4 h5
  · rename_i b hc
    have hex : (execOp a.eval o).run C.P w = (builtin b c.argTypes o.type (c.args.map fun | .const _ => true | _ => false) (c.args.map a.eval)).run C.P w := by
      simp only [execOp, ho, resolve, hc, Sem.run_bind, Sem.run_pure, Result.andThen_ok, invoke]
      rfl
    have fin : ∀ s : Sem Value, (builtin b c.argTypes o.type (c.args.map fun | .const _ => true | _ => false) (c.args.map a.eval)) = ((do Pure.pure (Next.value (← s))) : Sem Next) → SemOK C.P own ρ h w v h' s → o.wp C.P a w K Q := fun s hs hok => by
      obtain ⟨y, w', ρ', h1, h2, h3, h4, h5, h6⟩ := hok
      simp only [Oper.wp, hex, hs, Sem.run_bind, h1, Result.andThen_ok, Sem.run_pure, Oper.upon]
      exact hK ρ' y w' h2 h3 h4 h5 h6
    split at e
    · rename_i t ts u us hts hus
      rw [hus] at hargs
      have ht0 : c.argTypes[0]? = some t := by rw [← Array.getElem?_toList, hts]; rfl
      have harr : c.args.map a.eval = (c.args.toList.map a.eval).toArray := (evs_toArray a c.args).symm
      split at e
      · obtain ⟨x, r, hr, hx, hrs⟩ := hargs
        exact fin (Builtin.len_ c.argTypes o.type (c.args.map a.eval)) rfl (by rw [harr, hr]; exact opLen_sound hH hx ht0 e)
      · have := opMin_sound (C := C) hH hargs e c.argTypes o.type
        exact fin (Builtin.min_ c.argTypes o.type (c.args.map a.eval)) rfl (by rw [harr]; simpa using this)
      · have := opMin_sound (C := C) hH hargs e c.argTypes o.type
        exact fin (Builtin.max_ c.argTypes o.type (c.args.map a.eval)) rfl (by rw [harr]; simpa using this)
      · exact fin (Builtin.copy_ c.argTypes o.type (c.args.map a.eval)) rfl (by rw [harr]; exact opCopy_sound hH hargs ht0 e)
      · split at e
        · rename_i tx
          have hat : c.argTypes = #[t, tx] := by apply Array.ext'; rw [hts]
          exact fin (Builtin.append_ c.argTypes o.type (c.args.map a.eval)) rfl (by rw [harr, hat]; exact opAppend_sound hH hargs e)
        · cases e
      · cases e
    · cases e
  · cases e

theorem opE_sound (S : Sound C) {o : Oper} {id : Nat} {fr : Fr} {h h' : H} {v : V} (e : opE C id fr h o.op = some (v, h', true)) : OpSpec C o fr.get h.bs.get v h'.bs.get := by
  unfold opE at e
  split at e
  · rename_i x ho
    cases e
    refine OpSpec.of_sem fun own ρ a w hF hH => ⟨Pure.pure (a.eval x), by simp [execOp, ho], SemOK.pure hH rfl (ev_VR hF x)⟩
  · rename_i x ho
    cases e
    refine OpSpec.of_sem fun own ρ a w hF hH => ⟨Pure.pure (a.eval x), by simp [execOp, ho], SemOK.pure hH rfl (ev_VR hF x)⟩
  · rename_i c x y ho
    exact OpSpec.of_sem fun own ρ a w hF hH => ⟨_, by simp [execOp, ho], opPick_sound hF hH e⟩
  · rename_i t ho
    exact OpSpec.of_sem fun own ρ a w hF hH => ⟨_, by simp [execOp, ho], opAlloc_sound hH e⟩
  · rename_i t x ho
    exact OpSpec.of_sem fun own ρ a w hF hH => ⟨_, by simp [execOp, ho], opBox_sound (t := t) hF hH e⟩
  · rename_i t ps ho
    exact OpSpec.of_sem fun own ρ a w hF hH => ⟨_, by simp [execOp, ho], opBuild_sound hF hH e⟩
  · rename_i t x ho
    exact OpSpec.of_sem fun own ρ a w hF hH => ⟨_, by simp [execOp, ho], opLoad_sound hF hH e⟩
  · rename_i t x y ho
    intro own ρ a w hF hH K Q hK
    obtain ⟨w', h1, rfl, h2, h3⟩ := opStore_sound hF hH e
    simp only [Oper.wp, execOp, ho, Sem.run_bind, h1, Result.andThen_ok, Sem.run_pure, Oper.upon]
    exact hK ρ undef w' ρ.le_refl ⟨[], rfl, rfl⟩ h2 h3 (New.refl _ _)
  · rename_i x ho
    refine OpSpec.of_sem fun own ρ a w hF hH => ?_
    obtain ⟨rfl, hor, hv⟩ := opNil_sound hF hH e
    refine ⟨Pure.pure (a.eval x), ?_, SemOK.pure hH rfl hv⟩
    rcases hor with ⟨r, hr⟩ | ⟨t, y, hr⟩ <;> simp [execOp, ho, hr]
  · rename_i op t x y ty ho
    exact OpSpec.of_sem fun own ρ a w hF hH => ⟨_, by simp only [execOp, ho], opBin_sound hF hH e⟩
  · rename_i op t x ho
    exact OpSpec.of_sem fun own ρ a w hF hH => ⟨_, by simp [execOp, ho], opUn_sound hF hH e⟩
  · rename_i s t x ho
    split at e
    · rename_i v1 h1 k1 he
      simp only [Option.some.injEq, Prod.mk.injEq, andr_true] at e
      obtain ⟨rfl, rfl, rfl, hu⟩ := e
      obtain ⟨d, hd⟩ := undB_some hu
      exact OpSpec.of_sem fun own ρ a w hF hH => ⟨_, by simp [execOp, ho], opConv_sound hF hH he (by rw [hd]; rfl)⟩
    · cases e
  · rename_i t l c ho
    exact OpSpec.of_sem fun own ρ a w hF hH => ⟨_, by simp [execOp, ho], opMake_sound hF hH e⟩
  · rename_i t x lo hi mx ho
    split at e
    · exact OpSpec.of_sem fun own ρ a w hF hH => ⟨_, by simp [execOp, ho], opSlice_sound hF hH e⟩
    · cases e
  · rename_i t x f ho
    exact OpSpec.of_sem fun own ρ a w hF hH => ⟨_, by simp [execOp, ho], opFieldA_sound hF hH e⟩
  · rename_i t x f ho
    exact OpSpec.of_sem fun own ρ a w hF hH => ⟨_, by simp [execOp, ho], opField_sound hF hH e⟩
  · rename_i t x i ho
    exact OpSpec.of_sem fun own ρ a w hF hH => ⟨_, by simp [execOp, ho], opIndexA_sound hF hH e⟩
  · rename_i t x i ho
    exact OpSpec.of_sem fun own ρ a w hF hH => ⟨_, by simp [execOp, ho], opIndex_sound hF hH e⟩
  · rename_i x i ho
    exact OpSpec.of_sem fun own ρ a w hF hH => ⟨_, by simp [execOp, ho], opExtract_sound hF hH e⟩
  · rename_i c ho
    exact opCall_sound S ho e
  · cases e

/-! A state of the evaluator and the machine's. -/
structure St (D : Nat → Prop) (own : Nat → Prop) (ρ : Ren) (nt : Nat) (f : Nat → Option V) (g : Nat → Option Blk) (a : Act) (w : World) : Prop where
  fr : FrG ρ f a
  size : a.tmps.size = nt
  defers : a.defers = []
  heap : HG own ρ g w
  keep : ∀ i, D i → g i ≠ none

def X.toExit : X → Exit
  | .normal => .normal
  | .exit id => .exit id
  | .ret => .ret

/-- Agreement on the blocks that were there. -/
def Ren.eqOn (D : Nat → Prop) (ρ σ : Ren) : Prop := ∀ i, D i → σ i = ρ i
theorem Ren.le.eqOn {ρ σ : Ren} {g : Nat → Option Blk} {D : Nat → Prop} (h : ρ.le σ) (n : New ρ σ g) (hD : ∀ i, D i → g i ≠ none) : Ren.eqOn D ρ σ := fun i hi => by
  cases hs : σ i with
  | none =>
    cases hr : ρ i with
    | none => rfl
    | some l => rw [h i l hr] at hs; cases hs
  | some l => rcases n i l hs with h' | h'
              · exact h'.symm
              · exact absurd h' (hD i hi)
theorem Ren.eqOn.refl (D : Nat → Prop) (ρ : Ren) : Ren.eqOn D ρ ρ := fun _ _ => rfl
theorem Ren.eqOn.trans {D : Nat → Prop} {ρ σ τ : Ren} (h : Ren.eqOn D ρ σ) (k : Ren.eqOn D σ τ) : Ren.eqOn D ρ τ := fun i hi => (k i hi).trans (h i hi)

def Post (own : Nat → Prop) (ρ : Ren) (D : Nat → Prop) (nt : Nat) (w : World) (x : X) (f : Nat → Option V) (g : Nat → Option Blk) : Exit → Act → World → Prop := fun e a' w' =>
  ∃ ρ', Ren.eqOn D ρ ρ' ∧ e = x.toExit ∧ St D own ρ' nt f g a' w' ∧ Frm own w w'

/-- What a piece of code does. -/
def CSpec (C : Cfg) (D : Nat → Prop) (nt : Nat) (c : Code) (f : Nat → Option V) (g : Nat → Option Blk) (x : X) (f' : Nat → Option V) (g' : Nat → Option Blk) : Prop :=
  ∀ own ρ a w, St D own ρ nt f g a w → c.wp C.P (Post own ρ D nt w x f' g') a w

theorem Post.pull {own : Nat → Prop} {ρ σ : Ren} {D : Nat → Prop} {nt : Nat} {w w1 : World} {x : X} {f : Nat → Option V} {g : Nat → Option Blk} (h : Ren.eqOn D ρ σ) (k : Frm own w w1) :
    ∀ e a' w', Post own σ D nt w1 x f g e a' w' → Post own ρ D nt w x f g e a' w' :=
  fun e a' w' ⟨τ, h1, h2, h3, h4⟩ => ⟨τ, h.trans h1, h2, h3, k.trans h4⟩

theorem St.put {D : Nat → Prop} {own : Nat → Prop} {ρ σ : Ren} {nt : Nat} {fr fr' : Fr} {g g' : Nat → Option Blk} {a : Act} {w w' : World} {dst : Option Nat} {v : V} {y : Value} (h : St D own ρ nt fr.get g a w) (e : putD nt fr dst v = some fr')
    (hρ : ρ.le σ) (hy : VR σ v y) (hg : HG own σ g' w') (hk : ∀ i, D i → g' i ≠ none) : St D own σ nt fr'.get g' (a.put dst y) w' := by
  unfold putD at e
  split at e
  · rename_i d
    cases hd : Nat.blt d nt <;> simp [hd] at e
    subst e
    rw [blt_true] at hd
    refine ⟨fun t u hu => ?_, by simp [Act.put, h.size], h.defers, hg, hk⟩
    rcases Tr.get_put _ _ _ _ _ hu with ⟨rfl, rfl⟩ | ⟨hne, hu'⟩
    · have hlt : t < a.tmps.size := by rw [h.size]; exact hd
      simpa [Act.put, Array.getD, hlt] using hy
    · have := (h.fr.mono hρ) t u hu'
      have e2 : (a.tmps.setIfInBounds d y).getD t undef = a.tmps.getD t undef := by
        simp only [Array.getD_eq_getD_getElem?]
        rw [Array.getElem?_setIfInBounds_ne (Ne.symm hne)]
      show VR σ u ((a.tmps.setIfInBounds d y).getD t undef)
      rw [e2]; exact this
  · cases e
    exact ⟨h.fr.mono hρ, h.size, h.defers, hg, hk⟩

theorem wantB_sound {D : Nat → Prop} {own : Nat → Prop} {ρ : Ren} {nt : Nat} {fr : Fr} {g : Nat → Option Blk} {a : Act} {w : World} (h : St D own ρ nt fr.get g a w) {ops : Array Oper} {o : Oper} {t : Bool} (e : wantB C ops.toList fr o = some (t, true)) :
    Region.wanted o (yielded ops a.tmps) = t := by
  unfold wantB at e
  split at e
  · rename_i hg
    cases e
    simp [Region.wanted, hg]
  · rename_i j want hg
    split at e
    · rename_i oj hj
      rw [nth_eq, Array.getElem?_toList] at hj
      split at e
      · rename_i d hd
        have hy : ∀ (u : V) , fr.get d = some u → ∀ x, VR ρ u x → x ≠ undef ∨ x = undef := fun _ _ x _ => by by_cases hx : x = undef <;> simp [hx]
        have hlook : ∀ x, a.tmps.getD d undef = x → (∀ b, x = .bool b → yielded ops a.tmps j = some b) ∧ (x = undef → yielded ops a.tmps j = none) := fun x hx => by
          unfold yielded
          simp only [hj, Option.bind_some, hd]
          rw [Array.getD_eq_getD_getElem?] at hx
          cases hg : a.tmps[d]? with
          | none => rw [hg] at hx; refine ⟨fun b hb => ?_, fun _ => rfl⟩; rw [hb] at hx; cases hx
          | some u => rw [hg] at hx; simp at hx; subst hx; exact ⟨fun b hb => by rw [hb], fun hu => by rw [hu]; rfl⟩
        split at e
        · rename_i b hb
          have hv : a.tmps.getD d undef = .bool b := h.fr d _ hb
          have hyl := (hlook _ hv).1 b rfl
          simp only [Region.wanted, hg, hyl]
          split at e
          · rename_i x hx
            simp only [Option.some.injEq, Prod.mk.injEq] at e
            obtain ⟨rfl, hk⟩ := e
            cases x <;> cases b <;> cases want <;> simp_all
          · simp only [Option.some.injEq, Prod.mk.injEq, and_true] at e
            subst e
            cases b <;> cases want <;> rfl
        · rename_i hb
          cases e
          obtain ⟨m, hm, hnil⟩ := h.fr d _ hb
          cases hnil
          have hyl := (hlook _ hm).2 rfl
          simp [Region.wanted, hg, hyl]
        · cases e
      · cases e
    · cases e

/-- The operations one by one. -/
theorem evOps_sound (S : Sound C) {D : Nat → Prop} {nt : Nat} {ops : Array Oper} {n0 : Nat} : ∀ (l : List Oper) (i : Nat) (fr : Fr) (h : H) (k : Bool) (fr' : Fr) (h' : H), (∀ j, l[j]? = ops[i + j]?) →
    evOps C nt ops.toList n0 l i fr h k = some (fr', h', true) → k = true ∧ ∀ own ρ a w, St D own ρ nt fr.get h.bs.get a w → ∀ (Q : Exit → Act → World → Prop),
      (∀ ρ' a' w', Ren.eqOn D ρ ρ' → St D own ρ' nt fr'.get h'.bs.get a' w' → Frm own w w' → Q .normal a' w') → wpOps C.P ops Q (List.range' i l.length) a w
  | [], i, fr, h, k, fr', h', hl, e => by
    cases e
    exact ⟨rfl, fun own ρ a w hs Q hQ => by simp only [List.length_nil, List.range'_zero, wpOps]; exact hQ ρ a w (Ren.eqOn.refl D ρ) hs (Frm.refl _ _)⟩
  | o :: l, i, fr, h, k, fr', h', hl, e => by
    have ho : ops[i]? = some o := by have := hl 0; simpa using this.symm
    have hl' : ∀ j, l[j]? = ops[i + 1 + j]? := fun j => by have := hl (j + 1); simpa [Nat.add_assoc, Nat.add_comm 1 j] using this
    change (match wantB C ops.toList fr o with
      | some (t, k1) => cond t
          (match opE C (n0 + i) fr h o.op with
          | some (v, h, k2) => match putD nt fr o.dst v with
            | some fr => evOps C nt ops.toList n0 l (i + 1) fr h (andr (andr k k1) k2)
            | none => none
          | none => none)
          (match putD nt fr o.dst (.tuple []) with
          | some fr => evOps C nt ops.toList n0 l (i + 1) fr h (andr k k1)
          | none => none)
      | none => none) = some (fr', h', true) at e
    split at e
    · rename_i t k1 hw
      cases t
      · simp only [cond_false] at e
        split at e
        · rename_i fr1 hp
          obtain ⟨hk, ih⟩ := evOps_sound S l (i + 1) fr1 h _ fr' h' hl' e
          rw [andr_true] at hk
          obtain ⟨rfl, rfl⟩ := hk
          refine ⟨rfl, fun own ρ a w hs Q hQ => ?_⟩
          rw [List.length_cons, List.range'_succ]
          simp only [wpOps, ho, wantB_sound hs hw, Bool.false_eq_true, if_false]
          exact ih own ρ _ w (hs.put hp ρ.le_refl ⟨[], rfl, rfl⟩ hs.heap hs.keep) Q hQ
        · cases e
      · simp only [cond_true] at e
        split at e
        · rename_i v h1 k2 hop
          split at e
          · rename_i fr1 hp
            obtain ⟨hk, ih⟩ := evOps_sound S l (i + 1) fr1 h1 _ fr' h' hl' e
            rw [andr_true, andr_true] at hk
            obtain ⟨⟨rfl, rfl⟩, rfl⟩ := hk
            refine ⟨rfl, fun own ρ a w hs Q hQ => ?_⟩
            rw [List.length_cons, List.range'_succ]
            simp only [wpOps, ho, wantB_sound hs hw, if_true]
            left
            refine opE_sound S hop own ρ a w hs.fr hs.heap _ Q fun ρ' y w' g1 g2 g3 g4 g5 => ?_
            exact ih own ρ' _ w' (hs.put hp g1 g2 g3 fun i hi => (opE_near hop).2.2 i (hs.keep i hi)) Q fun ρ'' a'' w'' q1 q2 q3 => hQ ρ'' a'' w'' ((g1.eqOn g5 hs.keep).trans q1) q2 (g4.trans q3)
          · cases e
        · cases e
    · cases e

end
end Ev
end Go
