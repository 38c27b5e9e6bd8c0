/- Each operation of the evaluator is the machine's: the third part. -/
import Derived.Test.YtjhlhihmdnifnaaEvOps2
import Derived.ChangeKeysEq
set_option linter.unusedVariables false
namespace Go
namespace Ev
section
variable {C : Cfg} {own : Nat → Prop} {ρ : Ren} {fr : Fr} {a : Act} {h h' : H} {w : World} {v : V}

theorem VRs.sub {ρ : Ren} {l : List V} {m : List Value} (h : VRs ρ l m) (o n : Nat) : VRs ρ (tk (drp l o) n) ((m.drop o).take n) := by
  have hl := h.length
  rw [len_eq] at hl
  refine VRs.of (by rw [len_eq, tk_eq, drp_eq]; simp [hl]) fun i v x hv hx => ?_
  rw [nth_eq, tk_eq, drp_eq, List.getElem?_take, List.getElem?_drop] at hv
  rw [List.getElem?_take, List.getElem?_drop] at hx
  split at hv
  · rw [if_pos ‹_›] at hx
    rw [← nth_eq] at hv
    obtain ⟨y, hy, hr⟩ := h.get _ _ hv
    rw [hx] at hy; cases hy; exact hr
  · cases hv

theorem run_part {t : Nat} {d : TypeDesc} (hd : C.P.underlying t = some d) (cs : Array Value) (o : Nat) (w : World) :
    (part t cs o).run C.P w = if aggT d then .ok (.agg (cs.extract o (o + cellsOf C t))) w else match cs[o]? with
      | some v => .ok v w
      | none => .halt (.stuck "part: no such cell") w := by
  simp only [part, Sem.run_bind, run_isAgg hd, Result.andThen_ok]
  cases aggT d
  · simp only [Bool.false_eq_true, if_false]
    cases cs[o]? <;> rfl
  · simp [run_sizeOf (info_of_und hd)]

theorem partOf_sound {t o : Nat} {x : Value} {u : V} (hx : VR ρ v x) (e : partOf C t v o = some (u, true)) (w : World) :
    ∃ cs y, x = .agg cs ∧ (part t cs o).run C.P w = .ok y w ∧ VR ρ u y := by
  unfold partOf at e
  cases hu : undB C t <;> simp only [hu, cond_true, cond_false, reduceCtorEq] at e
  obtain ⟨d, hd⟩ := undB_some hu
  · have hd' : und C t = d := by simp [und, hd]
    rw [hd'] at e
    have hp := fun cs => run_part hd cs o w
    split at e
    · rename_i k l
      obtain ⟨rfl, hf⟩ := hx
      cases ha : aggT d <;> simp only [ha, cond_true, cond_false, Option.some.injEq, Prod.mk.injEq, andr_true, ble_true, blt_true, len_eq] at e
      · obtain ⟨rfl, ho⟩ := e
        refine ⟨_, .int k (gd l o), rfl, ?_, rfl, ?_⟩
        · rw [hp]; simp [ha, ho, gd_eq]
        · rw [gd_eq]; simp [ho]; exact hf _ (List.getElem_mem _)
      · obtain ⟨rfl, ho, hz⟩ := e
        refine ⟨_, .agg (((l.map (Value.int k)).drop o).take (cellsOf C t)).toArray, rfl, ?_, ?_, ?_⟩
        · rw [hp]; simp [ha]
        · rw [tk_eq, drp_eq]; simp
        · intro n hn
          rw [tk_eq, drp_eq] at hn
          exact hf n (List.mem_of_mem_drop (List.mem_of_mem_take hn))
    · rename_i l
      obtain ⟨m, rfl, hm⟩ := hx
      cases ha : aggT d <;> simp only [ha, cond_true, cond_false] at e
      · split at e
        · rename_i v' hv
          cases e
          obtain ⟨y, hy, hr⟩ := hm.get _ _ hv
          exact ⟨_, y, rfl, by rw [hp]; simp [ha, hy], hr⟩
        · cases e
      · simp only [Option.some.injEq, Prod.mk.injEq, ble_true] at e
        obtain ⟨rfl, ho⟩ := e
        refine ⟨_, .agg ((m.drop o).take (cellsOf C t)).toArray, rfl, ?_, pack_VR (hm.sub o _)⟩
        rw [hp]; simp [ha]
    · cases e

/-! Equality -/
theorem eqItems_sound {e : Nat} {f : V → V → Option (Bool × Bool)} {D : Nat}
    (hf : ∀ u v r x y (w : World), f u v = some (r, true) → VR ρ u x → VR ρ v y → (Op.equalIn D e x y).run C.P w = .ok r w)
    {x y : V} {xs ys : Array Value} (hx : VR ρ x (.agg xs)) (hy : VR ρ y (.agg ys)) : ∀ (is : List Nat) (r : Bool) (w : World), eqItems C e f x y is = some (r, true) →
    (Op.eqItems D e (C.P.cellsOf e) xs ys is).run C.P w = .ok r w
  | [], r, w, h => by cases h; rfl
  | i :: is, r, w, h => by
    simp only [eqItems] at h
    split at h
    · rename_i u p v q hu hv
      split at h
      · rename_i r1 k s k' h1 h2
        simp only [Option.some.injEq, Prod.mk.injEq, andr_true] at h
        obtain ⟨rfl, ⟨⟨rfl, rfl⟩, rfl⟩, rfl⟩ := h
        obtain ⟨cs, a, e1, g1, g2⟩ := partOf_sound (C := C) hx hu w
        cases e1
        obtain ⟨cs', b, e2, g3, g4⟩ := partOf_sound (C := C) hy hv w
        cases e2
        have ih := eqItems_sound hf hx hy is s w h2
        simp only [Op.eqItems, Sem.run_bind]
        rw [show (i * C.P.cellsOf e) = i * cellsOf C e from rfl, g1, Result.andThen_ok, g3, Result.andThen_ok, hf u v r1 a b w h1 g2 g4, Result.andThen_ok]
        cases r1
        · simp
        · simpa using ih
      · cases h
    · cases h

theorem eqFields_sound {f : Nat → V → V → Option (Bool × Bool)} {D : Nat}
    (hf : ∀ e u v r x y (w : World), f e u v = some (r, true) → VR ρ u x → VR ρ v y → (Op.equalIn D e x y).run C.P w = .ok r w)
    {x y : V} {xs ys : Array Value} (hx : VR ρ x (.agg xs)) (hy : VR ρ y (.agg ys)) : ∀ (fs : List Field) (r : Bool) (w : World), eqFieldsE C f x y fs = some (r, true) →
    (Op.eqFields D xs ys fs).run C.P w = .ok r w
  | [], r, w, h => by cases h; rfl
  | g :: gs, r, w, h => by
    simp only [eqFieldsE] at h
    split at h
    · rename_i u p v q hu hv
      split at h
      · rename_i r1 k s k' h1 h2
        simp only [Option.some.injEq, Prod.mk.injEq, andr_true] at h
        obtain ⟨rfl, ⟨⟨⟨rfl, rfl⟩, rfl⟩, rfl⟩, hn⟩ := h
        have hn : g.name ≠ "_" := by simpa using hn
        obtain ⟨cs, a, e1, g1, g2⟩ := partOf_sound (C := C) hx hu w
        cases e1
        obtain ⟨cs', b, e2, g3, g4⟩ := partOf_sound (C := C) hy hv w
        cases e2
        have ih := eqFields_sound hf hx hy gs s w h2
        simp only [Op.eqFields, hn, ne_eq, not_false_eq_true, if_true, Sem.run_bind]
        rw [g1, Result.andThen_ok, g3, Result.andThen_ok, hf _ u v r1 a b w h1 g2 g4, Result.andThen_ok]
        cases r1
        · simp
        · simpa using ih
      · cases h
    · cases h

theorem agg_of_partOf {t o : Nat} {x : Value} {u : V × Bool} (hx : VR ρ v x) (e : partOf C t v o = some u) : ∃ cs, x = .agg cs := by
  unfold partOf at e
  cases hu : undB C t <;> simp only [hu, cond_true, cond_false, reduceCtorEq] at e
  split at e
  · exact ⟨_, hx.1⟩
  · obtain ⟨m, rfl, _⟩ := hx; exact ⟨_, rfl⟩
  · cases e

theorem fieldsOf_eq {t : Nat} {fs : Array Field} (h : C.P.underlying t = some (.struct fs)) : C.P.fieldsOf t = fs := by
  unfold Program.fieldsOf; rw [h]

theorem cond_some {α : Type} {a b : Bool} {o : Option α} {z : α} (h : cond (cond a b false) o none = some z) : a = true ∧ b = true ∧ o = some z := by
  cases a <;> cases b <;> simp_all

theorem Small_bool {t : Nat} (h : C.P.underlying t = some .bool) {d : Nat} {a b : Bool} : (Op.equalIn (d + 1) t (.bool a) (.bool b)).run C.P w = .ok (a == b) w := by
  simp [Op.equalIn, run_und h]
theorem Small_int {t : Nat} {k' : IntKind} (h : C.P.underlying t = some (.int k')) {d : Nat} {k : IntKind} {a b : Int} : (Op.equalIn (d + 1) t (.int k a) (.int k b)).run C.P w = .ok (a == b) w := by
  simp [Op.equalIn, run_und h]
theorem Small_string {t : Nat} (h : C.P.underlying t = some .string) {d : Nat} {a b : ByteArray} : (Op.equalIn (d + 1) t (.string a) (.string b)).run C.P w = .ok (a == b) w := by
  simp [Op.equalIn, run_und h]

theorem isAggV_VR {v : V} {x : Value} (h : isAggV v = true) (hx : VR ρ v x) : ∃ cs, x = .agg cs := by
  cases v <;> simp only [isAggV, Bool.false_eq_true] at h
  case agg l => obtain ⟨m, rfl, _⟩ := hx; exact ⟨_, rfl⟩
  case ints k l => exact ⟨_, hx.1⟩

theorem eqT_sound : ∀ (d D : Nat), d ≤ D → ∀ (t : Nat) (x y : V) (r : Bool) (p q : Value) (w : World), eqT C d t x y = some (r, true) → VR ρ x p → VR ρ y q →
    (Op.equalIn D t p q).run C.P w = .ok r w
  | 0, D, hD, t, x, y, r, p, q, w, h, _, _ => by cases h
  | d + 1, D + 1, hD, t, x, y, r, p, q, w, h, hp, hq => by
    have ih := eqT_sound d D (by omega)
    replace h : eqStep C (eqT C d) t x y = some (r, true) := h
    have dec : ∀ b : Bool, (if b = true then true else false) = b := fun b => by cases b <;> rfl
    unfold eqStep at h
    split at h
    · rename_i a b hu
      cases h
      have hu := und_eq hu (by simp)
      rw [show p = .bool a from hp, show q = .bool b from hq, Small_bool hu]
      cases a <;> cases b <;> rfl
    · rename_i k0 k a k' b hu
      have hu := und_eq hu (by simp)
      by_cases hk : k = k'
      · subst hk
        simp only [decide_true, cond_true, Option.some.injEq, Prod.mk.injEq, and_true] at h
        subst h
        rw [hp.1, hq.1, Small_int hu, ieq_eq]
      · simp [hk] at h
    · rename_i a b hu
      cases h
      have hu := und_eq hu (by simp)
      rw [show p = .string ⟨⟨a⟩⟩ from hp, show q = .string ⟨⟨b⟩⟩ from hq, Small_string hu, seq8_eq, beq_toListBytes, toList_mk, toList_mk]
    · rename_i x y n e hu
      have hu := und_eq hu (by simp)
      obtain ⟨hx, hy, h⟩ := cond_some h
      obtain ⟨cs, rfl⟩ := isAggV_VR hx hp
      obtain ⟨ds, rfl⟩ := isAggV_VR hy hq
      split at h
      · rename_i r' k hit
        simp only [Option.some.injEq, Prod.mk.injEq, andr_true] at h
        obtain ⟨rfl, rfl, hi⟩ := h
        obtain ⟨i, hi, _⟩ := infoB_some hi
        rw [run_equalIn_array w D cs ds hu hi]
        exact eqItems_sound (fun u v r x y w h hx hy => ih e u v r x y w h hx hy) hp hq _ _ _ hit
      · cases h
    · rename_i x y fs hu
      have hu := und_eq hu (by simp)
      obtain ⟨hx, hy, h⟩ := cond_some h
      obtain ⟨cs, rfl⟩ := isAggV_VR hx hp
      obtain ⟨ds, rfl⟩ := isAggV_VR hy hq
      split at h
      · rename_i r' k hit
        simp only [Option.some.injEq, Prod.mk.injEq, andr_true] at h
        obtain ⟨rfl, rfl, hi⟩ := h
        have hfs := fieldsOf_eq hu
        rw [run_equalIn_struct w D t cs ds (by rw [hfs]; exact hu) (by simpa using hi), hfs]
        exact eqFields_sound (fun e u v r x y w h hx hy => ih e u v r x y w h hx hy) hp hq _ _ _ hit
      · cases h
    · cases h

def eqR (op : BinOp) (r : Bool) : Bool := match op with
  | .eql => r
  | _ => not r

theorem run_bin_eq {op : BinOp} {t : Nat} {p q : Value} {r : Bool} (hop : op = .eql ∨ op = .neq) (hne : (∃ a b, p = .bool a ∧ q = .bool b) ∨ (∃ a b, p = .agg a ∧ q = .agg b) ∨ (∃ a b, p = .pointer a ∧ q = .pointer b) ∨
      (∃ a b c d e f, p = .slice a b c ∧ q = .slice d e f) ∨ (p = .nilIface ∧ q = .nilIface) ∨ (∃ t x, p = .iface t x ∧ q = .nilIface) ∨ (∃ t x, q = .iface t x ∧ p = .nilIface)) (h : (Op.equalIn 10000 t p q).run C.P w = .ok r w) :
    (binOp op t p q).run C.P w = .ok (.bool (eqR op r)) w := by
  have he : (Op.equal t p q).run C.P w = .ok r w := h
  rcases hne with ⟨a, b, rfl, rfl⟩ | ⟨a, b, rfl, rfl⟩ | ⟨a, b, rfl, rfl⟩ | ⟨a, b, c, d, e, f, rfl, rfl⟩ | ⟨rfl, rfl⟩ | ⟨t', x, rfl, rfl⟩ | ⟨t', x, rfl, rfl⟩ <;> rcases hop with rfl | rfl <;>
    simp only [binOp, Sem.run_bind, he, Result.andThen_ok, Sem.run_pure, eqR]

theorem eqGuard_other {op : BinOp} {t : Nat} {x y : Operand} {p q : Value} (h1 : ∀ cs, p ≠ .agg cs) (h2 : ¬ (p = .nilIface ∧ q = .nilIface)) (w : World) : (eqGuard op t x y p q).run C.P w = .ok () w := by
  cases op <;> simp only [eqGuard, Bool.not_true, Bool.false_eq_true, if_false, if_true, Sem.run_pure] <;> (try rfl) <;> cases p <;> first | rfl | exact absurd rfl (h1 _) | (cases q <;> first | rfl | exact absurd ⟨rfl, rfl⟩ h2)

theorem eqS_sound {t : Nat} {x y : V} {r : Bool} {p q : Value} (e : eqS (und C t) x y = some r) (hx : VR ρ x p) (hy : VR ρ y q) :
    (∀ d, (Op.equalIn (d + 1) t p q).run C.P w = .ok r w) ∧ (∀ cs, p ≠ .agg cs) ∧ ¬ (p = .nilIface ∧ q = .nilIface) ∧ ((∃ a b, p = .bool a ∧ q = .bool b) ∨ (∃ a b, p = .agg a ∧ q = .agg b) ∨ (∃ a b, p = .pointer a ∧ q = .pointer b) ∨
      (∃ a b c d e f, p = .slice a b c ∧ q = .slice d e f) ∨ (p = .nilIface ∧ q = .nilIface) ∨ (∃ t x, p = .iface t x ∧ q = .nilIface) ∨ (∃ t x, q = .iface t x ∧ p = .nilIface)) := by
  unfold eqS at e
  split at e
  · rename_i a b hu
    cases e
    rw [show p = .bool a from hx, show q = .bool b from hy]
    refine ⟨fun d => by rw [Small_bool (und_eq hu (by simp))]; cases a <;> cases b <;> rfl, by simp, by simp, .inl ⟨_, _, rfl, rfl⟩⟩
  · rename_i el hu
    cases e
    rw [show p = .pointer none from hx, show q = .pointer none from hy]
    exact ⟨fun d => by simp [Op.equalIn, run_und (und_eq hu (by simp))], by simp, by simp, .inr (.inr (.inl ⟨_, _, rfl, rfl⟩))⟩
  · rename_i el b o hu
    cases e
    obtain ⟨l, _, hq⟩ := hy
    rw [show p = .pointer none from hx, hq]
    exact ⟨fun d => by simp [Op.equalIn, run_und (und_eq hu (by simp))], by simp, by simp, .inr (.inr (.inl ⟨_, _, rfl, rfl⟩))⟩
  · rename_i el b o hu
    cases e
    obtain ⟨l, _, hp⟩ := hx
    rw [hp, show q = .pointer none from hy]
    exact ⟨fun d => by simp [Op.equalIn, run_und (und_eq hu (by simp))], by simp, by simp, .inr (.inr (.inl ⟨_, _, rfl, rfl⟩))⟩
  · rename_i el hu
    cases e
    rw [show p = .slice none 0 0 from hx, show q = .slice none 0 0 from hy]
    exact ⟨fun d => by simp [Op.equalIn, run_und (und_eq hu (by simp))], by simp, by simp, .inr (.inr (.inr (.inl ⟨_, _, _, _, _, _, rfl, rfl⟩)))⟩
  · rename_i el b o n z hu
    cases e
    obtain ⟨l, c, hq, _⟩ := hy
    rw [show p = .slice none 0 0 from hx, hq]
    exact ⟨fun d => by simp [Op.equalIn, run_und (und_eq hu (by simp))], by simp, by simp, .inr (.inr (.inr (.inl ⟨_, _, _, _, _, _, rfl, rfl⟩)))⟩
  · rename_i el b o n z hu
    cases e
    obtain ⟨l, c, hp, _⟩ := hx
    rw [hp, show q = .slice none 0 0 from hy]
    exact ⟨fun d => by simp [Op.equalIn, run_und (und_eq hu (by simp))], by simp, by simp, .inr (.inr (.inr (.inl ⟨_, _, _, _, _, _, rfl, rfl⟩)))⟩
  · rename_i ms u z hu
    cases e
    obtain ⟨l, hq, _⟩ := hy
    rw [show p = .nilIface from hx, hq]
    exact ⟨fun d => by simp [Op.equalIn, run_und (und_eq hu (by simp))], by simp, by simp, .inr (.inr (.inr (.inr (.inr (.inr ⟨_, _, rfl, rfl⟩)))))⟩
  · rename_i ms u z hu
    cases e
    obtain ⟨l, hp, _⟩ := hx
    rw [hp, show q = .nilIface from hy]
    exact ⟨fun d => by simp [Op.equalIn, run_und (und_eq hu (by simp))], by simp, by simp, .inr (.inr (.inr (.inr (.inr (.inl ⟨_, _, rfl, rfl⟩)))))⟩
  · cases e

theorem iface_nil {t : Nat} {ms : Array (String × TypeId)} (hu : C.P.underlying t = some (.interface ms)) (d : Nat) : (Op.equalIn (d + 1) t .nilIface .nilIface).run C.P w = .ok true w := by
  simp [Op.equalIn, run_und hu]

theorem opBin_scal (hH : HR own ρ h w) {op : BinOp} {t : Nat} {x y : Operand} {p q : V} {pv qv : Value} (hx : VR ρ p pv) (hy : VR ρ q qv)
    (e : eqScal C h op t (cond (isConst x) true (isConst y)) p q = some (v, h', true)) :
    SemOK C.P own ρ h w v h' (do eqGuard op t x y pv qv; binOp op t pv qv) := by
  unfold eqScal at e
  split at e
  · rw [show pv = .nilIface from hx, show qv = .nilIface from hy]
    have hc : cond (isConst x) true (isConst y) = true → op = .eql ∨ op = .neq → (eqGuard op t x y .nilIface .nilIface).run C.P w = .ok () w := fun hc ho => by
      cases x <;> cases y <;> simp [isConst] at hc <;> rcases ho with rfl | rfl <;> simp [eqGuard]
    split at e
    · rename_i ms hu
      simp only [Option.some.injEq, Prod.mk.injEq] at e
      obtain ⟨rfl, rfl, hk⟩ := e
      refine SemOK.pure hH (y := .bool true) ?_ rfl
      rw [Sem.run_bind, hc hk (.inl rfl), Result.andThen_ok]
      exact run_bin_eq (.inl rfl) (.inr (.inr (.inr (.inr (.inl ⟨rfl, rfl⟩))))) (r := true) (iface_nil (und_eq hu (by simp)) 9999)
    · rename_i ms hu
      simp only [Option.some.injEq, Prod.mk.injEq] at e
      obtain ⟨rfl, rfl, hk⟩ := e
      refine SemOK.pure hH (y := .bool false) ?_ rfl
      rw [Sem.run_bind, hc hk (.inr rfl), Result.andThen_ok]
      exact run_bin_eq (.inr rfl) (.inr (.inr (.inr (.inr (.inl ⟨rfl, rfl⟩))))) (r := true) (iface_nil (und_eq hu (by simp)) 9999)
    · cases e
  · have fin : ∀ r, (op = .eql ∨ op = .neq) → eqS (und C t) p q = some r → (do eqGuard op t x y pv qv; binOp op t pv qv).run C.P w = .ok (.bool (eqR op r)) w := fun r ho hr => by
      obtain ⟨g1, g2, g3, g4⟩ := eqS_sound (w := w) hr ‹VR ρ p pv› ‹VR ρ q qv›
      rw [Sem.run_bind, eqGuard_other g2 g3, Result.andThen_ok]
      exact run_bin_eq ho g4 (g1 9999)
    split at e
    · rename_i o1 r hr
      cases e
      exact SemOK.pure hH (fin r (.inl rfl) hr) rfl
    · rename_i o1 r hr
      cases e
      exact SemOK.pure hH (fin r (.inr rfl) hr) rfl
    · cases e

theorem opBin_sound (hF : FrR ρ fr a) (hH : HR own ρ h w) {op : BinOp} {t : Nat} {x y : Operand} (e : opBin C fr h op t x y = some (v, h', true)) :
    SemOK C.P own ρ h w v h' (do eqGuard op t x y (a.eval x) (a.eval y); binOp op t (a.eval x) (a.eval y)) := by
  have hx := ev_VR hF x
  have hy := ev_VR hF y
  have guardNo : ∀ p q : Value, (∀ cs, p ≠ .agg cs) → (p ≠ .nilIface) → (eqGuard op t x y p q).run C.P w = .ok () w := by
    intro p q h1 h2
    cases op <;> simp only [eqGuard, Bool.not_true, Bool.false_eq_true, if_false, if_true, Sem.run_pure] <;> (try rfl) <;> cases p <;> first | rfl | exact absurd rfl (h1 _) | exact absurd rfl h2
  unfold opBin at e
  split at e
  · rename_i k p k' q h1 h2
    rw [h1] at hx; rw [h2] at hy
    obtain ⟨hx, fx⟩ := hx
    obtain ⟨hy, fy⟩ := hy
    rw [hx, hy]
    have hg := guardNo (.int k p) (.int k' q) (by simp) (by simp)
    split at e
    · rename_i r hc
      by_cases hk : k = k'
      · subst hk
        simp only [decide_true, cond_true, Option.some.injEq, Prod.mk.injEq, and_true] at e
        obtain ⟨rfl, rfl⟩ := e
        refine SemOK.pure hH (y := .bool r) ?_ rfl
        rw [Sem.run_bind, hg, Result.andThen_ok, ← cmp_sound (P := C.P) (w := w) hc]
        cases op <;> simp only [cint, reduceCtorEq] at hc <;> simp [binOp]
      · simp [hk] at e
    · rename_i hc
      have shift : op = .shl ∨ op = .shr → (match bint op k p q with | some (n, ok) => some (V.int k n, h, ok) | none => none) = some (v, h', true) →
          SemOK C.P own ρ h w v h' (do eqGuard op t x y (.int k p) (.int k' q); binOp op t (.int k p) (.int k' q)) := fun ho e => by
        split at e
        · rename_i n ok hb
          simp only [Option.some.injEq, Prod.mk.injEq] at e
          obtain ⟨rfl, rfl, rfl⟩ := e
          obtain ⟨g1, g2⟩ := shift_sound (P := C.P) (w := w) (k' := k') ho fx hb
          refine SemOK.pure hH (y := .int k n) ?_ ⟨rfl, g2⟩
          rw [Sem.run_bind, hg, Result.andThen_ok, ← g1]
          rcases ho with rfl | rfl <;> rfl
        · cases e
      have same : ¬ (op = .shl ∨ op = .shr) → (cond (decide (k = k')) (match bint op k p q with | some (n, ok) => some (V.int k n, h, ok) | none => none) none) = some (v, h', true) →
          SemOK C.P own ρ h w v h' (do eqGuard op t x y (.int k p) (.int k' q); binOp op t (.int k p) (.int k' q)) := fun ho e => by
        by_cases hk : k = k'
        · subst hk
          simp only [decide_true, cond_true] at e
          split at e
          · rename_i n ok hb
            simp only [Option.some.injEq, Prod.mk.injEq] at e
            obtain ⟨rfl, rfl, rfl⟩ := e
            have : (binOp op t (.int k p) (.int k q)).run C.P w = .ok (.int k n) w ∧ fit k n = true := by
              cases op <;> simp only [cint, reduceCtorEq] at hc <;> simp only [not_or, reduceCtorEq, not_true, not_false_eq_true, and_true, and_false, false_and] at ho
              · have := arith_sound (P := C.P) (w := w) (.inl rfl) fx fy hb; simpa [binOp] using this
              · have := arith_sound (P := C.P) (w := w) (.inr (.inl rfl)) fx fy hb; simpa [binOp] using this
              · have := arith_sound (P := C.P) (w := w) (.inr (.inr rfl)) fx fy hb; simpa [binOp] using this
              · have := div_sound (P := C.P) (w := w) (.inl rfl) fx fy hb; simpa [binOp] using this
              · have := div_sound (P := C.P) (w := w) (.inr rfl) fx fy hb; simpa [binOp] using this
              · have := bits_sound (P := C.P) (w := w) (.inl rfl) fx fy hb; simpa [binOp] using this
              · have := bits_sound (P := C.P) (w := w) (.inr (.inl rfl)) fx fy hb; simpa [binOp] using this
              · have := bits_sound (P := C.P) (w := w) (.inr (.inr (.inl rfl))) fx fy hb; simpa [binOp] using this
              · have := bits_sound (P := C.P) (w := w) (.inr (.inr (.inr rfl))) fx fy hb; simpa [binOp] using this
            refine SemOK.pure hH (y := .int k n) ?_ ⟨rfl, this.2⟩
            rw [Sem.run_bind, hg, Result.andThen_ok, this.1]
          · cases e
        · simp [hk] at e
      split at e
      · exact shift (.inl rfl) e
      · exact shift (.inr rfl) e
      · rename_i n1 n2
        exact same (fun ho => ho.elim n1 n2) e
  · rename_i p q h1 h2
    rw [h1] at hx; rw [h2] at hy
    rw [show a.eval x = _ from hx, show a.eval y = _ from hy]
    have hg := guardNo (.string ⟨⟨p⟩⟩) (.string ⟨⟨q⟩⟩) (by simp) (by simp)
    split at e
    · simp only [Option.some.injEq, Prod.mk.injEq, ble_true, len_eq] at e
      obtain ⟨rfl, rfl, hl⟩ := e
      refine SemOK.pure hH (y := .string ⟨⟨p ++ q⟩⟩) ?_ (by rw [app_eq]; rfl)
      rw [Sem.run_bind, hg, Result.andThen_ok]
      have hm : IntKind.i64.max = 9223372036854775807 := rfl
      have hs : ¬ ((((ByteArray.mk ⟨p⟩).size + (ByteArray.mk ⟨q⟩).size : Nat) : Int) > IntKind.i64.max) := by
        rw [hm, show (ByteArray.mk ⟨p⟩).size = p.length from rfl, show (ByteArray.mk ⟨q⟩).size = q.length from rfl]; omega
      show Sem.run C.P (if _ then _ else _) w = _
      rw [if_neg hs, Sem.run_pure]
      congr 2
    · split at e
      · rename_i r hc
        simp only [Option.some.injEq, Prod.mk.injEq, and_true] at e
        obtain ⟨rfl, rfl⟩ := e
        refine SemOK.pure hH (y := .bool r) ?_ rfl
        rw [Sem.run_bind, hg, Result.andThen_ok]
        have t1 := bytesLess_tri p q
        cases op <;> simp only [cstr, reduceCtorEq, Option.some.injEq] at hc <;> subst hc <;>
          simp only [binOp, Op.stringOp, toList_mk, seq8_eq, slt8_eq, Sem.run_pure]
        · rw [t1]; simp
        · rw [t1]
      · cases e
  · rename_i hn1 hn2
    cases hxa : isAggV (ev fr x) <;> cases hya : isAggV (ev fr y) <;> simp only [hxa, hya, cond_true, cond_false] at e
    case true.true =>
      obtain ⟨cs, hcx⟩ := isAggV_VR hxa hx
      obtain ⟨ds, hcy⟩ := isAggV_VR hya hy
      rw [hcx] at hx ⊢
      rw [hcy] at hy ⊢
      have fin : ∀ r k, (op = .eql ∨ op = .neq) → eqT C 8 t (ev fr x) (ev fr y) = some (r, k) → andr k (not (C.P.eqGuardType C.P.depth t)) = true →
          (do eqGuard op t x y (.agg cs) (.agg ds); binOp op t (.agg cs) (.agg ds)).run C.P w = .ok (.bool (eqR op r)) w := fun r k ho hr hk => by
        rw [andr_true] at hk
        obtain ⟨rfl, hk⟩ := hk
        have hg : (eqGuard op t x y (.agg cs) (.agg ds)).run C.P w = .ok () w := run_eqGuard_agg w op t x y cs ds (by simpa using hk)
        rw [Sem.run_bind, hg, Result.andThen_ok]
        exact run_bin_eq ho (.inr (.inl ⟨_, _, rfl, rfl⟩)) (eqT_sound 8 10000 (by omega) t _ _ r _ _ w hr hx hy)
      split at e
      · rename_i o1 r k hr
        simp only [Option.some.injEq, Prod.mk.injEq] at e
        obtain ⟨rfl, rfl, hk⟩ := e
        exact SemOK.pure hH (fin r k (.inl rfl) hr hk) rfl
      · rename_i o1 r k hr
        simp only [Option.some.injEq, Prod.mk.injEq] at e
        obtain ⟨rfl, rfl, hk⟩ := e
        exact SemOK.pure hH (fin r k (.inr rfl) hr hk) rfl
      · cases e
    all_goals exact opBin_scal hH hx hy e
end
end Ev
end Go
