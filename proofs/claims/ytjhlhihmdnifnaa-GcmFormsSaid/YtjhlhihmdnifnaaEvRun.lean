/- Regions, code, calls: what the evaluator answers, the machine does. -/
import Derived.Test.YtjhlhihmdnifnaaEvDraw
import Derived.LoopN
import Derived.Scope
set_option linter.unusedVariables false
namespace Go
namespace Ev
section
variable {C : Cfg}

theorem evReg_sound (S : Sound C) {D : Nat → Prop} {nt id : Nat} {ops : Array Oper} {d : Bool} {fr fr' : Fr} {h h' : H} {x : X} (e : evReg C nt d ops.toList fr h = some (x, fr', h', true)) : CSpec C D nt (.region id ops d) fr.get h.bs.get x fr'.get h'.bs.get := by
  unfold evReg at e
  split at e
  · split at e
    · rename_i f1 h1 k he
      simp only [Option.some.injEq, Prod.mk.injEq] at e
      obtain ⟨rfl, rfl, rfl, rfl⟩ := e
      obtain ⟨_, hs⟩ := evOps_sound S ops.toList 0 fr ⟨h.bs, h.nx + len ops.toList⟩ true f1 h1 (fun j => by simp) he
      intro own ρ a w hst
      refine wp_region ?_
      have := hs own ρ a w hst (Post own ρ D nt w .normal f1.get h1.bs.get) fun ρ' a' w' g1 g2 g3 => ⟨ρ', g1, rfl, g2, g3⟩
      simpa [List.range_eq_range'] using this
    · cases e
  · split at e
    · rename_i f1 h1 k he
      simp only [Option.some.injEq, Prod.mk.injEq] at e
      obtain ⟨rfl, rfl, rfl, rfl⟩ := e
      obtain ⟨_, Rs, _, _, _, _, hany⟩ := evOpsD_sound S ops.toList 0 fr ⟨h.bs, h.nx + len ops.toList⟩ [] true f1 h1 (fun j => by simp) (by simp) (by simp) (by simp) he
      obtain ⟨ff, hff, hany⟩ := hany fr.get (fun _ _ h => h)
      intro own ρ a w hst
      refine wp_region_any S.mixed ?_
      have hst' : St D own ρ nt fr.get h.bs.get a { w with drawn := w.drawn + 1 } := ⟨hst.fr, hst.size, hst.defers, ⟨hst.heap.blk, hst.heap.inj, hst.heap.fresh, hst.heap.own⟩, hst.keep⟩
      have := AnyE.sound (Q := Post own ρ D nt w .normal f1.get h1.bs.get) ops.toList.length (Array.replicate ops.size false) fr.get h.bs.get ρ a { w with drawn := w.drawn + 1 } (hany _ (UpTo.start _)) hst'
        fun ρ' a' w' g1 g2 g3 => ⟨ρ', g1, rfl, ⟨fun t v hv => g2.fr t v (hff t v hv), g2.size, g2.defers, g2.heap, g2.keep⟩, ⟨g3.os, g3.tape, g3.output, g3.size, g3.block⟩⟩
      simpa using this
    · cases e

/-- A loop, round by round. -/
def RSpec (C : Cfg) (D : Nat → Prop) (nt : Nat) (c : Code) (f : Nat → Option V) (g : Nat → Option Blk) (x : X) (f' : Nat → Option V) (g' : Nat → Option Blk) : Prop :=
  ∃ n, ∀ own ρ a w, St D own ρ nt f g a w → Code.rounds C.P c (Post own ρ D nt w x f' g') n a w

theorem rounds_mono {P : Program} {c : Code} {Q Q' : Exit → Act → World → Prop} (h : ∀ e a w, Q e a w → Q' e a w) : ∀ (n : Nat) (a : Act) (w : World), Code.rounds P c Q n a w → Code.rounds P c Q' n a w
  | 0, a, w, hr => by simp [Code.rounds] at hr
  | n + 1, a, w, hr => by
    rw [rounds_succ] at *
    refine wp_mono hr fun e a' w' he => ?_
    cases e <;> simp only [Exit.then] at he ⊢
    · exact rounds_mono h n a' w' he
    all_goals exact h _ _ _ he

theorem RSpec.step {D : Nat → Prop} {nt : Nat} {c : Code} {f f1 f2 : Nat → Option V} {g g1 g2 : Nat → Option Blk} {x : X} (h : CSpec C D nt c f g .normal f1 g1) (k : RSpec C D nt c f1 g1 x f2 g2) : RSpec C D nt c f g x f2 g2 := by
  obtain ⟨n, hn⟩ := k
  refine ⟨n + 1, fun own ρ a w hs => ?_⟩
  rw [rounds_succ]
  refine wp_mono (h own ρ a w hs) ?_
  rintro e a' w' ⟨ρ', h1, rfl, h2, h3⟩
  exact rounds_mono (Post.pull h1 h3) n a' w' (hn own ρ' a' w' h2)

theorem RSpec.last {D : Nat → Prop} {nt : Nat} {c : Code} {f f1 : Nat → Option V} {g g1 : Nat → Option Blk} {x : X} (hx : x ≠ .normal) (h : CSpec C D nt c f g x f1 g1) : RSpec C D nt c f g x f1 g1 := by
  refine ⟨1, fun own ρ a w hs => ?_⟩
  rw [rounds_succ]
  refine wp_mono (h own ρ a w hs) ?_
  rintro e a' w' ⟨ρ', h1, rfl, h2, h3⟩
  cases x
  · exact absurd rfl hx
  · exact ⟨ρ', h1, rfl, h2, h3⟩
  · exact ⟨ρ', h1, rfl, h2, h3⟩

theorem RSpec.loop {D : Nat → Prop} {nt : Nat} {c : Code} {f f1 : Nat → Option V} {g g1 : Nat → Option Blk} {x : X} (h : RSpec C D nt c f g x f1 g1) : CSpec C D nt (.loop c) f g x f1 g1 := by
  obtain ⟨n, hn⟩ := h
  exact fun own ρ a w hs => wp_loop_rounds n (hn own ρ a w hs)

/-- What is known of loops. -/
def LSound (C : Cfg) (D : Nat → Prop) (nt : Nat) (L : Nat → Fr → H → Option Out) (c : Code) : Prop := match c with
  | .seq a b => LSound C D nt L a ∧ LSound C D nt L b
  | .cond _ a b => LSound C D nt L a ∧ LSound C D nt L b
  | .block _ a => LSound C D nt L a
  | .scope a => LSound C D nt L a
  | .loop a => (∀ fr h x fr' h', L (firstId a) fr h = some (x, fr', h', true) → RSpec C D nt a fr.get h.bs.get x fr'.get h'.bs.get) ∧ LSound C D nt L a
  | _ => True

theorem noGoto_post {own : Nat → Prop} {ρ : Ren} {D : Nat → Prop} {nt : Nat} {w : World} {x : X} {f : Nat → Option V} {g : Nat → Option Blk} : ∀ e a' w', Post own ρ D nt w x f g e a' w' → Exit.noGoto (Post own ρ D nt w x f g) e a' w' := by
  rintro e a' w' ⟨ρ', h1, rfl, h2⟩
  cases x <;> exact ⟨ρ', h1, rfl, h2⟩

theorem CSpec.seq {D : Nat → Prop} {nt : Nat} {c d : Code} {f f1 f2 : Nat → Option V} {g g1 g2 : Nat → Option Blk} {x : X} (h : CSpec C D nt c f g .normal f1 g1) (k : CSpec C D nt d f1 g1 x f2 g2) : CSpec C D nt (.seq c d) f g x f2 g2 := by
  intro own ρ a w hs
  refine wp_seq (wp_mono (h own ρ a w hs) ?_)
  rintro e a' w' ⟨ρ', h1, rfl, h2, h3⟩
  exact wp_mono (k own ρ' a' w' h2) (Post.pull h1 h3)

theorem CSpec.seq_out {D : Nat → Prop} {nt : Nat} {c d : Code} {f f1 : Nat → Option V} {g g1 : Nat → Option Blk} {x : X} (hx : x ≠ .normal) (h : CSpec C D nt c f g x f1 g1) : CSpec C D nt (.seq c d) f g x f1 g1 := by
  intro own ρ a w hs
  refine wp_seq (wp_mono (h own ρ a w hs) ?_)
  rintro e a' w' ⟨ρ', h1, rfl, h2⟩
  cases x
  · exact absurd rfl hx
  · exact ⟨ρ', h1, rfl, h2⟩
  · exact ⟨ρ', h1, rfl, h2⟩

theorem evC_sound (S : Sound C) {L : Nat → Fr → H → Option Out} {D : Nat → Prop} {nt : Nat} : ∀ (n : Nat) (c : Code) (fr fr' : Fr) (h h' : H) (x : X), LSound C D nt L c → evC C L nt n c fr h = some (x, fr', h', true) →
    CSpec C D nt c fr.get h.bs.get x fr'.get h'.bs.get ∧ (∀ d, c = .loop d → RSpec C D nt d fr.get h.bs.get x fr'.get h'.bs.get)
  | 0, c, fr, fr', h, h', x, hL, e => by cases e
  | n + 1, c, fr, fr', h, h', x, hL, e => by
    have ih := fun c fr fr' h h' x hL e => (evC_sound S (L := L) (D := D) (nt := nt) n c fr fr' h h' x hL e)
    have nl : (∀ d, c ≠ .loop d) → CSpec C D nt c fr.get h.bs.get x fr'.get h'.bs.get → CSpec C D nt c fr.get h.bs.get x fr'.get h'.bs.get ∧ (∀ d, c = .loop d → RSpec C D nt d fr.get h.bs.get x fr'.get h'.bs.get) :=
      fun h1 h2 => ⟨h2, fun d hd => absurd hd (h1 d)⟩
    cases c
    case loop a =>
      change (match L (firstId a) fr h with
        | some o => some o
        | none => match evC C L nt n a fr h with
          | some (x, fr, h, k) => match x with
            | .normal => match evC C L nt n (.loop a) fr h with
              | some (x, fr, h, k') => some (x, fr, h, andr k k')
              | none => none
            | x => some (x, fr, h, k)
          | none => none) = _ at e
      have key : RSpec C D nt a fr.get h.bs.get x fr'.get h'.bs.get := by
        split at e
        · rename_i o ho
          cases e
          exact hL.1 fr h _ _ _ ho
        · split at e
          · rename_i x1 f1 h1 k1 h2
            split at e
            · split at e
              · rename_i x2 f2 h3 k2 h4
                simp only [Option.some.injEq, Prod.mk.injEq, andr_true] at e
                obtain ⟨rfl, rfl, rfl, rfl, rfl⟩ := e
                exact RSpec.step (ih _ _ _ _ _ _ hL.2 h2).1 ((ih _ _ _ _ _ _ hL h4).2 a rfl)
              · cases e
            · rename_i hx
              cases e
              exact RSpec.last (fun he => hx he) (ih _ _ _ _ _ _ hL.2 h2).1
          · cases e
      exact ⟨key.loop, fun d hd => by cases hd; exact key⟩
    all_goals refine nl (by simp) ?_
    case skip => cases e; exact fun own ρ a w hs => wp_skip ⟨ρ, Ren.eqOn.refl D ρ, rfl, hs, Frm.refl _ _⟩
    case region id ops d => exact evReg_sound S e
    case seq a b =>
      change (match evC C L nt n a fr h with
        | some (x, fr, h, k) => match x with
          | .normal => match evC C L nt n b fr h with
            | some (x, fr, h, k') => some (x, fr, h, andr k k')
            | none => none
          | x => some (x, fr, h, k)
        | none => none) = _ at e
      split at e
      · rename_i x1 f1 h1 k1 h2
        split at e
        · split at e
          · rename_i x2 f2 h3 k2 h4
            simp only [Option.some.injEq, Prod.mk.injEq, andr_true] at e
            obtain ⟨rfl, rfl, rfl, rfl, rfl⟩ := e
            exact CSpec.seq (ih _ _ _ _ _ _ hL.1 h2).1 (ih _ _ _ _ _ _ hL.2 h4).1
          · cases e
        · rename_i hx
          cases e
          exact CSpec.seq_out (fun he => hx he) (ih _ _ _ _ _ _ hL.1 h2).1
      · cases e
    case cond c a b =>
      change (match test C fr c with
        | some (t, k) => match cond t (evC C L nt n a fr h) (evC C L nt n b fr h) with
          | some (x, fr, h, k') => some (x, fr, h, andr k k')
          | none => none
        | none => none) = _ at e
      split at e
      · rename_i t k ht
        split at e
        · rename_i x1 f1 h1 k1 h2
          simp only [Option.some.injEq, Prod.mk.injEq, andr_true] at e
          obtain ⟨rfl, rfl, rfl, rfl, rfl⟩ := e
          intro own ρ ac w hs
          have hc := test_sound hs.fr ht
          cases t
          · exact wp_cond_false hc ((ih _ _ _ _ _ _ hL.2 h2).1 own ρ ac w hs)
          · exact wp_cond_true hc ((ih _ _ _ _ _ _ hL.1 h2).1 own ρ ac w hs)
        · cases e
      · cases e
    case block id a =>
      change (match evC C L nt n a fr h with
        | some (x, fr, h, k) => match x with
          | .exit j => cond (Nat.beq j id) (some (X.normal, fr, h, k)) (some (.exit j, fr, h, k))
          | x => some (x, fr, h, k)
        | none => none) = _ at e
      split at e
      · rename_i x1 f1 h1 k1 h2
        split at e
        · rename_i j
          cases hj : Nat.beq j id <;> simp only [hj, cond_true, cond_false, Option.some.injEq, Prod.mk.injEq] at e
          · obtain ⟨rfl, rfl, rfl, rfl⟩ := e
            intro own ρ ac w hs
            refine wp_block (wp_mono ((ih a _ _ _ _ _ hL h2).1 own ρ ac w hs) ?_)
            rintro e a' w' ⟨ρ', q1, rfl, q2⟩
            simp only [X.toExit, Exit.inBlock]
            have hne : ¬ j = id := fun he => by rw [he] at hj; simp [Nat.beq_refl] at hj
            rw [if_neg hne]
            exact ⟨ρ', q1, rfl, q2⟩
          · obtain ⟨rfl, rfl, rfl, rfl⟩ := e
            intro own ρ ac w hs
            refine wp_block (wp_mono ((ih a _ _ _ _ _ hL h2).1 own ρ ac w hs) ?_)
            rintro e a' w' ⟨ρ', q1, rfl, q2⟩
            simp only [X.toExit, Exit.inBlock]
            rw [if_pos (beq_true.1 hj)]
            exact ⟨ρ', q1, rfl, q2⟩
        · rename_i hx
          cases e
          intro own ρ ac w hs
          refine wp_block (wp_mono ((ih a _ _ _ _ _ hL h2).1 own ρ ac w hs) ?_)
          rintro e a' w' ⟨ρ', q1, rfl, q2⟩
          cases x
          · exact ⟨ρ', q1, rfl, q2⟩
          · exact absurd rfl (hx _)
          · exact ⟨ρ', q1, rfl, q2⟩
      · cases e
    case scope a =>
      change evC C L nt n a fr h = _ at e
      intro own ρ ac w hs
      exact wp_scope_straight (wp_mono ((ih a _ _ _ _ _ hL e).1 own ρ ac w hs) noGoto_post)
    case exit id => cases e; exact fun own ρ a w hs => wp_exit ⟨ρ, Ren.eqOn.refl D ρ, rfl, hs, Frm.refl _ _⟩
    case ret => cases e; exact fun own ρ a w hs => wp_ret ⟨ρ, Ren.eqOn.refl D ρ, rfl, hs, Frm.refl _ _⟩
    all_goals cases e

/-! A call -/
def resSem (tmps : Array Value) : ResultVar → Sem Value
  | .tmp t => Pure.pure (tmps.getD t undef)
  | .cell x t => do loadVar t (← asAddr (tmps.getD x undef))

theorem results_eq (fn : Func) (tmps : Array Value) : results fn tmps = (do let vs ← fn.results.mapM (resSem tmps); Pure.pure (if h : vs.size = 1 then vs[0] else .tuple vs)) := by
  unfold results
  congr 1

theorem resOf_sound {D : Nat → Prop} {own : Nat → Prop} {ρ : Ren} {nt : Nat} {fr : Fr} {h : H} {a : Act} {w : World} (hs : St D own ρ nt fr.get h.bs.get a w) {r : ResultVar} {v : V} (e : resOf C fr h r = some (v, true)) :
    ∃ y, (resSem a.tmps r).run C.P w = .ok y w ∧ VR ρ v y := by
  unfold resOf at e
  split at e
  · rename_i t
    split at e
    · rename_i u hu
      cases e
      exact ⟨_, rfl, hs.fr t _ hu⟩
    · cases e
  · rename_i x t
    split at e
    · rename_i b o hx
      obtain ⟨r, hr, hp⟩ := hs.fr x _ hx
      split at e
      · rename_i u k hrd
        simp only [Option.some.injEq, Prod.mk.injEq, andr_true] at e
        obtain ⟨rfl, rfl, hu⟩ := e
        obtain ⟨d, hd⟩ := undB_some hu
        have hund : und C t = d := by simp [und, hd]
        rw [hund] at hrd
        have hh : HR own ρ h w := hs.heap
        cases hagg : aggT d
        · simp only [hagg, cond_false] at hrd
          obtain ⟨y, hy, hv, _⟩ := rd1_sound hh hr hrd
          refine ⟨y, ?_, hv⟩
          simp only [resSem, hp, asAddr, Sem.run_bind, Sem.run_pure, Result.andThen_ok, loadVar, run_isAgg hd, hagg, Bool.false_eq_true, if_false, run_load, hy]
        · simp only [hagg, cond_true] at hrd
          obtain ⟨xs, hl, hc, hv⟩ := rdN_sound hh hr hrd
          refine ⟨_, ?_, hv⟩
          have hld := run_loadCells_list (P := C.P) w (r.at o) xs hc
          rw [hl] at hld
          simp only [resSem, hp, asAddr, Sem.run_bind, Sem.run_pure, Result.andThen_ok, loadVar, run_isAgg hd, hagg, if_true, run_sizeOf (info_of_und hd), hld]
      · cases e
    · cases e

theorem resAll_sound {D : Nat → Prop} {own : Nat → Prop} {ρ : Ren} {nt : Nat} {fr : Fr} {h : H} {a : Act} {w : World} (hs : St D own ρ nt fr.get h.bs.get a w) : ∀ {rs : List ResultVar} {vs : List V}, resAll C fr h rs = some (vs, true) →
    ∃ ys, (rs.mapM (resSem a.tmps)).run C.P w = .ok ys w ∧ VRs ρ vs ys
  | [], vs, e => by cases e; exact ⟨[], by simp, rfl⟩
  | r :: rs, vs, e => by
    simp only [resAll] at e
    split at e
    · rename_i v k us k' h1 h2
      simp only [Option.some.injEq, Prod.mk.injEq, andr_true] at e
      obtain ⟨rfl, rfl, rfl⟩ := e
      obtain ⟨y, g1, g2⟩ := resOf_sound hs h1
      obtain ⟨ys, g3, g4⟩ := resAll_sound hs h2
      exact ⟨y :: ys, by rw [List.mapM_cons, Sem.run_bind, g1]; simp only [Result.andThen_ok, Sem.run_bind, g3, Sem.run_pure], y, ys, rfl, g2, g4⟩
    · cases e

theorem tup_VR {ρ : Ren} {vs : List V} {ys : List Value} (h : VRs ρ vs ys) : VR ρ (tup vs) (if h : ys.toArray.size = 1 then ys.toArray[0] else .tuple ys.toArray) := by
  have hl := h.length
  unfold tup
  split
  · rename_i v
    obtain ⟨y, r, rfl, h1, h2⟩ := h
    cases h2
    simpa using h1
  · rename_i hne
    have : ¬ ys.toArray.size = 1 := fun h1 => by
      simp at h1
      rw [h1, len_eq] at hl
      match vs, hl with
      | [v], _ => exact hne v rfl
    rw [dif_neg this]
    exact ⟨ys, rfl, h⟩

theorem setArgs_get : ∀ (args : List V) (i : Nat) (fr : Fr) (t : Nat) (v : V), (setArgs args i fr).get t = some v → (∃ j, t = i + j ∧ nth args j = some v) ∨ fr.get t = some v
  | [], i, fr, t, v, h => .inr h
  | a :: l, i, fr, t, v, h => by
    rcases setArgs_get l (i + 1) _ t v h with ⟨j, rfl, hj⟩ | h'
    · exact .inl ⟨j + 1, by omega, hj⟩
    · rcases Tr.get_put _ _ _ _ _ h' with ⟨rfl, rfl⟩ | ⟨_, h''⟩
      · exact .inl ⟨0, rfl, rfl⟩
      · exact .inr h''

theorem evF_sound (S : Sound C) {L : Nat → Fr → H → Option Out} {f : Nat} {fn : Func} {c : Code} {fuel : Nat} {args : List V} {h h' : H} {v : V} (hf : C.P.funcs[f]? = some fn) (hb : fn.body = some c)
    (hL : LSound C (fun i => h.bs.get i ≠ none) fn.ntmps L c) (e : evF C L fuel fn args h = some (v, h', true)) : FSpec C.P f args h v h' := by
  intro own ρ w as hH hargs
  have hal := hargs.length
  unfold evF at e
  rw [hb] at e
  simp only at e
  split at e
  · rename_i x fr1 h1 k hc
    have fin : x.toExit = .normal ∨ x.toExit = .ret → (match resAll C fr1 h1 fn.results.toList with
        | some (vs, k') => some (tup vs, h1, andr (andr k k') (Nat.ble (len args) fn.ntmps))
        | none => none) = some (v, h', true) → Calls C.P f as.toArray w (fun e w' => ∃ ρ' y, ρ.le ρ' ∧ e = .returned y ∧ VR ρ' v y ∧ HR own ρ' h' w' ∧ Frm own w w' ∧ New ρ ρ' h.bs.get) := fun hx e => by
      split at e
      · rename_i vs k' hr
        simp only [Option.some.injEq, Prod.mk.injEq, andr_true, ble_true] at e
        obtain ⟨rfl, rfl, ⟨rfl, rfl⟩, hlen⟩ := e
        refine calls_of_wp hf hb ?_
        have hst : St (fun i => h.bs.get i ≠ none) own ρ fn.ntmps (setArgs args 0 (Tr.full (Nat.log2 (fn.ntmps + 1) + 1))).get h.bs.get { tmps := as.toArray ++ Array.replicate (fn.ntmps - as.toArray.size) undef, defers := [] } w := by
          refine ⟨fun t u hu => ?_, by simp; omega, rfl, hH, fun i hi => hi⟩
          rcases setArgs_get args 0 _ t u hu with ⟨j, rfl, hj⟩ | hu'
          · obtain ⟨y, hy, hr⟩ := hargs.get j u hj
            have hjl := (List.getElem?_eq_some_iff.1 hy).1
            have : (as.toArray ++ Array.replicate (fn.ntmps - as.toArray.size) undef).getD (0 + j) undef = y := by
              rw [Array.getD_eq_getD_getElem?, Nat.zero_add, Array.getElem?_append_left (by simpa using hjl)]
              simp [hy]
            rw [this]; exact hr
          · rw [full_get] at hu'; cases hu'
        refine wp_mono ((evC_sound S fuel c _ _ _ _ _ hL hc).1 own ρ _ w hst) ?_
        rintro en a' w' ⟨ρ', g1, rfl, g2, g3⟩
        obtain ⟨ys, r1, r2⟩ := resAll_sound g2 hr
        have hres : (results fn a'.tmps).run C.P w' = .ok (if h : ys.toArray.size = 1 then ys.toArray[0] else .tuple ys.toArray) w' := by
          rw [results_eq, Array.mapM_eq_mapM_toList, Sem.run_bind, Sem.run_map, r1]
          rfl
        have hle : ρ.le ρ' := fun i l hi => by
          rw [g1 i fun hn => by rw [hH.fresh i hn] at hi; cases hi]; exact hi
        have hnew : New ρ ρ' h.bs.get := fun i l hi => by
          by_cases hn : h.bs.get i = none
          · exact .inr hn
          · rw [g1 i hn] at hi; exact .inl hi
        rcases hx with hx | hx <;> rw [hx]
        · exact ⟨g2.defers, _, hres, ρ', _, hle, rfl, tup_VR r2, g2.heap, g3, hnew⟩
        · exact ⟨g2.defers, _, hres, ρ', _, hle, rfl, tup_VR r2, g2.heap, g3, hnew⟩
      · cases e
    split at e
    · cases e
    · rename_i hx
      refine fin ?_ e
      cases x
      · exact .inl rfl
      · exact absurd rfl (hx _)
      · exact .inr rfl
  · cases e

theorem HG.empty {g : Nat → Option Blk} {w : World} (hh : ∀ i, g i = none) : HG (fun k => w.heap.size ≤ k) none' g w := by
  refine ⟨fun i b hi => ?_, fun i j b c r s hi => ?_, fun i hi => rfl, fun k hk => hk⟩
  · rw [hh i] at hi; cases hi
  · rw [hh i] at hi; cases hi

/-- A call of values, from no memory. -/
theorem VSpec.of {P : Program} {f : Nat} {args : List V} {h h' : H} {v : V} (hs : FSpec P f args h v h') (hh : ∀ i, h.bs.get i = none) (hv : noIds v = true) : VSpec P f args v := by
  intro w as hargs
  refine (hs (fun k => w.heap.size ≤ k) none' w as (HG.empty hh) hargs).mono ?_
  rintro e w' ⟨ρ', y, _, rfl, h1, _, h2, _⟩
  exact ⟨y, rfl, noIds_VR hv h1, h2⟩
end
end Ev
end Go
