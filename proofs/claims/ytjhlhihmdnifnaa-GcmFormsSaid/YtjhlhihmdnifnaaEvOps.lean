/- Each operation of the evaluator is the machine's. -/
import Derived.Test.YtjhlhihmdnifnaaEvNum
import Derived.Laws.Entries
import Derived.Laws.Slices
import Derived.Laws.Append
import Derived.Laws.BytesArg
set_option linter.unusedVariables false
namespace Go
namespace Ev

/-- Numbers are given to new blocks alone. -/
def New (ρ ρ' : Ren) (g : Nat → Option Blk) : Prop := ∀ i l, ρ' i = some l → ρ i = some l ∨ g i = none
theorem New.refl (ρ : Ren) (g : Nat → Option Blk) : New ρ ρ g := fun i l h => .inl h
theorem New.set {ρ : Ren} {g : Nat → Option Blk} {id : Nat} (h : g id = none) (l : Loc) : New ρ (ρ.set id l) g := fun i m hi => by
  by_cases e : i = id
  · subst e; exact .inr h
  · exact .inl (by simpa [Ren.set, e] using hi)
theorem H.add_none {h h' : H} {id : Nat} {b : Blk} (e : h.add id b = some h') : h.bs.get id = none := by
  unfold H.add at e
  split at e
  · assumption
  · cases e

def SemOK (P : Program) (own : Nat → Prop) (ρ : Ren) (h : H) (w : World) (v : V) (h' : H) (s : Sem Value) : Prop :=
  ∃ y w' ρ', s.run P w = .ok y w' ∧ ρ.le ρ' ∧ VR ρ' v y ∧ HR own ρ' h' w' ∧ Frm own w w' ∧ New ρ ρ' h.bs.get

section
variable {C : Cfg} {own : Nat → Prop} {ρ : Ren} {fr : Fr} {a : Act} {h h' : H} {w : World} {v : V}

theorem SemOK.pure {P : Program} (hH : HR own ρ h w) {s : Sem Value} {y : Value} (hs : s.run P w = .ok y w) (hv : VR ρ v y) : SemOK P own ρ h w v h s :=
  ⟨y, w, ρ, hs, ρ.le_refl, hv, hH, Frm.refl _ _, New.refl _ _⟩

theorem ofScal_VR (ρ : Ren) (v : Value) : VR ρ (ofScal v) v := by
  cases v <;> simp only [ofScal, VR]
  case int k n => cases hf : fit k n <;> simp [VR, hf]
  case pointer p => cases p <;> simp [VR]
  case slice p n c =>
    cases p
    · simp only
      cases hn : Nat.beq n 0 <;> cases hc : Nat.beq c 0 <;> simp only [cond_true, cond_false, VR]
      rw [beq_true] at hn hc
      rw [hn, hc]
    · simp [VR]
  case func f x y =>
    cases f <;> simp only [VR]
    cases hn : Nat.beq (len x.toList) 0 <;> cases hc : Nat.beq (len y.toList) 0 <;> simp only [cond_true, cond_false, VR]
    rw [beq_true, len_eq] at hn hc
    have e1 : x = #[] := by simpa using hn
    have e2 : y = #[] := by simpa using hc
    rw [e1, e2]

theorem ofScals_VRs (ρ : Ren) : ∀ l : List Value, VRs ρ (ofScals l) l
  | [] => rfl
  | v :: l => ⟨v, l, rfl, ofScal_VR ρ v, ofScals_VRs ρ l⟩

theorem ofValue_VR (ρ : Ren) (v : Value) : VR ρ (ofValue v) v := by
  cases v
  case agg x => exact pack_VR (ofScals_VRs ρ x.toList)
  case tuple x => exact ⟨x.toList, rfl, ofScals_VRs ρ x.toList⟩
  all_goals (simp only [ofValue]; exact ofScal_VR ρ _)

theorem ev_VR (hF : FrR ρ fr a) (x : Operand) : VR ρ (ev fr x) (a.eval x) := by
  cases x <;> simp only [ev, Act.eval]
  case tmp t =>
    cases e : fr.get t with
    | none => exact trivial
    | some v => exact hF t v e
  case const v => exact ofValue_VR ρ v
  case global g => exact trivial
  case func f => exact rfl

theorem evs_VRs (hF : FrR ρ fr a) : ∀ l : List Operand, VRs ρ (evs fr l) (l.map a.eval)
  | [] => rfl
  | x :: l => ⟨_, _, rfl, ev_VR hF x, evs_VRs hF l⟩

theorem und_eq {t : Nat} {d : TypeDesc} (h : und C t = d) (hd : d ≠ .invalid) : C.P.underlying t = some d := by
  unfold und at h
  split at h
  · rename_i e he; rw [he, h]
  · exact absurd h.symm hd

theorem run_und {t : Nat} {d : TypeDesc} (h : C.P.underlying t = some d) (w : World) : (underlying t).run C.P w = .ok d w := by
  simp [underlying, h]

theorem test_sound (hF : FrR ρ fr a) {c : Operand} {t : Bool} (e : test C fr c = some (t, true)) : a.eval c = .bool t := by
  have hv := ev_VR hF c
  unfold test at e
  split at e
  · rename_i b hb
    rw [hb] at hv
    have hv : a.eval c = .bool b := hv
    split at e
    · split at e
      · rename_i d _
        simp only [Option.some.injEq, Prod.mk.injEq] at e
        obtain ⟨rfl, e2⟩ := e
        rw [hv]
        cases d <;> cases b <;> simp_all
      · cases e; exact hv
    · cases e; exact hv
  · cases e

theorem opPick_sound (hF : FrR ρ fr a) (hH : HR own ρ h w) {c x y : Operand} (e : opPick C fr h c x y = some (v, h', true)) :
    SemOK C.P own ρ h w v h' (do Pure.pure (if ← asBool (a.eval c) then a.eval x else a.eval y)) := by
  unfold opPick at e
  split at e
  · rename_i t k ht
    simp only [Option.some.injEq, Prod.mk.injEq] at e
    obtain ⟨rfl, rfl, rfl⟩ := e
    rw [test_sound hF ht]
    cases t
    · exact SemOK.pure hH rfl (ev_VR hF y)
    · exact SemOK.pure hH rfl (ev_VR hF x)
  · cases e

theorem blkOf_sound {v : V} {b : Blk} {x : Value} (e : blkOf v = some b) (hx : VR ρ v x) : BR ρ b x.cells 0 ∧ b.size = x.cells.size ∧ b.live = true := by
  cases v <;> simp only [blkOf, one, cond_true, cond_false, Option.some.injEq, reduceCtorEq] at e
  case agg l =>
    cases ha : allOne l <;> simp only [ha, cond_true, cond_false, reduceCtorEq, Option.some.injEq] at e
    subst e
    obtain ⟨m, rfl, hm⟩ := hx
    refine ⟨fun i v hv => ⟨allOne_get ha i v hv, ?_⟩, ?_, rfl⟩
    · obtain ⟨y, hy, hv⟩ := hm.get i v hv
      exact ⟨y, by simpa [Value.cells] using hy, hv⟩
    · simp [Blk.size, Value.cells, hm.length]
  case ints k l =>
    subst e
    obtain ⟨rfl, hf⟩ := hx
    refine ⟨fun i hi => ?_, by simp [Blk.size, Value.cells, len_eq], rfl⟩
    rw [len_eq] at hi
    rw [gd_eq]
    simp [Value.cells, hi]
    exact hf _ (List.getElem_mem _)
  case int k n =>
    subst e
    obtain ⟨rfl, hf⟩ := hx
    refine ⟨fun i hi => ?_, rfl, rfl⟩
    have : i = 0 := by simp [len] at hi; exact hi
    subst this
    exact ⟨rfl, hf⟩
  all_goals
    subst e
    have hone : x.oneCell' = true := one_oneCell hx rfl
    have hc : x.cells = #[x] := by cases x <;> first | rfl | (simp [Value.oneCell'] at hone)
    refine ⟨fun i v hv => ?_, by rw [hc]; rfl, rfl⟩
    cases i with
    | zero => cases hv; exact ⟨rfl, x, by rw [hc]; rfl, hx⟩
    | succ i => simp [nth] at hv

theorem newV_sound (hH : HR own ρ h w) {id : Nat} {u : V} {x : Value} (hx : VR ρ u x) (e : newV h id u = some (v, h', true)) (t : TypeId) :
    SemOK C.P own ρ h w v h' (do Pure.pure (.pointer (some (← newVar t x)))) := by
  unfold newV at e
  split at e
  · rename_i b hb
    split at e
    · rename_i h1 h2
      simp only [Option.some.injEq, Prod.mk.injEq, and_true] at e
      obtain ⟨rfl, rfl⟩ := e
      obtain ⟨b1, b2, b3⟩ := blkOf_sound hb hx
      obtain ⟨g1, g2, g3, g4⟩ := add_sound hH h2 (ty := t) (fz := (0, 0)) b1 (Nat.le_of_eq b2) b3 (.inl (Nat.le_refl _)) (w' := w.alloc (.cells x.cells t)) rfl rfl rfl rfl
      exact ⟨_, _, _, by simp [newVar, newRow]; rfl, g1, ⟨_, g2, rfl⟩, g3, g4, New.set (H.add_none h2) _⟩
    · cases e
  · cases e

theorem zeroOf_VR {t : Nat} {w : World} (hne : zeroOf C t ≠ .any) : ∃ z, (zeroValue t).run C.P w = .ok z w ∧ VR ρ (zeroOf C t) z := by
  unfold zeroOf at *
  split at hne
  · rename_i i hi
    split at hne
    · rename_i z hz
      exact ⟨z, by simp [zeroValue, typeInfo, hi, hz], by first | exact ofValue_VR ρ z | (simp only [hi, hz]; exact ofValue_VR ρ z)⟩
    · exact absurd rfl hne
  · exact absurd rfl hne

theorem opAlloc_sound (hH : HR own ρ h w) {id t : Nat} (e : newV h id (zeroOf C t) = some (v, h', true)) : SemOK C.P own ρ h w v h' (Instr.alloc t true (.tuple #[])) := by
  have hne : zeroOf C t ≠ .any := fun hz => by rw [hz] at e; simp [newV, blkOf, one] at e
  obtain ⟨z, hz, hv⟩ := zeroOf_VR (C := C) (ρ := ρ) (w := w) hne
  obtain ⟨y, w', ρ', h1, h2⟩ := newV_sound (C := C) hH hv e t
  exact ⟨y, w', ρ', by simpa [Instr.alloc, hz] using h1, h2⟩

theorem opBox_sound (hF : FrR ρ fr a) (hH : HR own ρ h w) {id t : Nat} {x : Operand} (e : newV h id (ev fr x) = some (v, h', true)) : SemOK C.P own ρ h w v h' (Instr.box t (a.eval x)) :=
  newV_sound hH (ev_VR hF x) e t

theorem run_isAgg {t : Nat} {d : TypeDesc} (hd : C.P.underlying t = some d) (w : World) : (isAgg t).run C.P w = .ok (aggT d) w := by
  simp only [isAgg, Sem.run_bind, run_und hd, Result.andThen_ok]
  cases d <;> rfl

theorem run_sizeOf {t : Nat} (hp : (C.P.info? t).isSome = true) (w : World) : (sizeOf t).run C.P w = .ok (cellsOf C t) w := by
  obtain ⟨i, hi⟩ := Option.isSome_iff_exists.1 hp
  simp [sizeOf, typeInfo, hi, cellsOf, Program.cellsOf]

theorem info_of_und {t : Nat} {d : TypeDesc} (hd : C.P.underlying t = some d) : (C.P.info? t).isSome = true := by
  unfold Program.underlying at hd
  cases hi : C.P.info? t with
  | none => simp [hi] at hd
  | some i => rfl

theorem undB_some {t : Nat} (h : undB C t = true) : ∃ d, C.P.underlying t = some d := by
  unfold undB at h
  split at h
  · exact ⟨_, ‹_›⟩
  · cases h
theorem infoB_some {t : Nat} (h : infoB C t = true) : ∃ i, C.P.info? t = some i ∧ i.size = cellsOf C t := by
  unfold infoB at h
  split at h
  · rename_i i hi; exact ⟨i, hi, by simp [cellsOf, Program.cellsOf, hi]⟩
  · cases h

theorem isI_nth {k : IntKind} : ∀ {l : List V} {o : Nat}, isI k l o = true → nth l o = some (.int k (gdV l o))
  | [], o, h => by cases h
  | a :: l, 0, h => by
    cases a
    case int k' n => have hk : k' = k := of_decide_eq_true h; subst hk; rfl
    all_goals exact absurd h Bool.false_ne_true
  | a :: l, o + 1, h => isI_nth (l := l) (o := o) h
theorem rdI_rd1 {h : H} {b o : Nat} {d : TypeDesc} {v : V} (e : h.rdI b o d = some (v, true)) : h.rd1 b o = some (v, true) := by
  unfold H.rdI at e
  split at e
  · split at e
    · rename_i l hl
      simp only [Option.some.injEq, Prod.mk.injEq] at e
      obtain ⟨rfl, hi⟩ := e
      simp only [H.rd1, hl, isI_nth hi]
    · exact e
  · exact e
theorem opLoad_sound (hF : FrR ρ fr a) (hH : HR own ρ h w) {t : Nat} {x : Operand} (e : opLoad C fr h t x = some (v, h', true)) : SemOK C.P own ρ h w v h' (Instr.loadAt t (a.eval x)) := by
  have hx := ev_VR hF x
  unfold opLoad at e
  split at e
  · rename_i b o hb
    rw [hb] at hx
    obtain ⟨r, hr, hp⟩ := hx
    have hu : undB C t = true := by
      split at e
      · simp only [Option.some.injEq, Prod.mk.injEq, andr_true] at e; exact e.2.2.2
      · cases e
    obtain ⟨d, hd⟩ := undB_some hu
    have hund : und C t = d := by simp [und, hd]
    rw [hund] at e
    cases hagg : aggT d
    · simp only [hagg, cond_false] at e
      split at e
      · rename_i u k hrd
        simp only [Option.some.injEq, Prod.mk.injEq, andr_true] at e
        obtain ⟨rfl, rfl, rfl, _⟩ := e
        obtain ⟨y, hy, hv, _⟩ := rd1_sound hH hr (rdI_rd1 hrd)
        refine SemOK.pure hH ?_ hv
        simp only [Instr.loadAt, hp, Instr.sureAddr, Sem.run_bind, Sem.run_pure, Result.andThen_ok, loadVar, run_isAgg hd, hagg, Bool.false_eq_true, if_false, run_load, hy]
      · cases e
    · simp only [hagg, cond_true] at e
      split at e
      · rename_i u k hrd
        simp only [Option.some.injEq, Prod.mk.injEq, andr_true] at e
        obtain ⟨rfl, rfl, rfl, _⟩ := e
        obtain ⟨xs, hl, hc, hv⟩ := rdN_sound hH hr hrd
        refine SemOK.pure hH ?_ hv
        have hld := run_loadCells_list (P := C.P) w (r.at o) xs hc
        rw [hl] at hld
        simp only [Instr.loadAt, hp, Instr.sureAddr, Sem.run_bind, Sem.run_pure, Result.andThen_ok, loadVar, run_isAgg hd, hagg, if_true, run_sizeOf (info_of_und hd), hld]
      · cases e
  · cases e

theorem cells_len {v : V} {x : Value} {m : List V} (h : VR ρ v x) (e : cellsV v = some m) : x.cells.size = len m := by
  have := (cellsV_VR h e).length
  simpa using this

theorem opStore_sound (hF : FrR ρ fr a) (hH : HR own ρ h w) {t : Nat} {x y : Operand} (e : opStore C fr h t x y = some (v, h', true)) :
    ∃ w', (Instr.storeAt t (a.eval x) (a.eval y)).run C.P w = .ok () w' ∧ v = .tuple [] ∧ HR own ρ h' w' ∧ Frm own w w' := by
  have hx := ev_VR hF x
  have hy := ev_VR hF y
  unfold opStore at e
  split at e
  · rename_i b o m hb hm
    rw [hb] at hx
    obtain ⟨r, hr, hp⟩ := hx
    split at e
    · rename_i h1 k hw
      simp only [Option.some.injEq, Prod.mk.injEq, andr_true, beq_true] at e
      obtain ⟨rfl, rfl, ⟨rfl, hl⟩, hi⟩ := e
      have hi : (C.P.info? t).isSome = true := by obtain ⟨i, hi, _⟩ := infoB_some hi; rw [hi]; rfl
      obtain ⟨w', g1, g2, g3⟩ := wr_sound hH hr hm (cellsV_VR hy hm) hw
      refine ⟨w', ?_, rfl, g2, g3⟩
      have hs : (a.eval y).cells.size = cellsOf C t := by rw [cells_len hy hm, hl]
      simp only [Instr.storeAt, hp, Instr.sureAddr, Sem.run_bind, Sem.run_pure, Result.andThen_ok, storeVar, run_sizeOf hi]
      simp only [hs, ne_eq, not_true, if_false, g1 C.P, Sem.run_ite, Sem.run_bind, Sem.run_pure, Result.andThen_ok, ite_false]
    · cases e
  · cases e

theorem opNil_sound (hF : FrR ρ fr a) (hH : HR own ρ h w) {x : Operand} (e : opNil fr h x = some (v, h', true)) : h' = h ∧ ((∃ r, a.eval x = .pointer (some r)) ∨ ∃ t y, a.eval x = .iface t y) ∧ VR ρ v (a.eval x) := by
  have hx := ev_VR hF x
  unfold opNil at e
  split at e
  · rename_i b o hb
    rw [hb] at hx
    simp only [Option.some.injEq, Prod.mk.injEq, and_true] at e
    obtain ⟨rfl, rfl⟩ := e
    obtain ⟨r, hr, hp⟩ := hx
    exact ⟨rfl, .inl ⟨_, hp⟩, r, hr, hp⟩
  · rename_i t u hb
    rw [hb] at hx
    simp only [Option.some.injEq, Prod.mk.injEq, and_true] at e
    obtain ⟨rfl, rfl⟩ := e
    obtain ⟨y, hp, hy⟩ := hx
    exact ⟨rfl, .inr ⟨_, _, hp⟩, y, hp, hy⟩
  · cases e

end
end Ev
end Go
