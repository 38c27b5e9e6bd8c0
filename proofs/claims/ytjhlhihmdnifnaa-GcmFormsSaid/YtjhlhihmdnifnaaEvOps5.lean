/- Each operation of the evaluator is the machine's: the fifth part. -/
import Derived.Test.YtjhlhihmdnifnaaEvOps4
set_option linter.unusedVariables false
namespace Go
namespace Ev
section
variable {C : Cfg} {own : Nat → Prop} {ρ : Ren} {fr : Fr} {a : Act} {h h' : H} {w : World} {v : V}

theorem bound_sound (hF : FrR ρ fr a) {d n : Nat} {x : Operand} (e : bound fr d (some x) = some (n, true)) : ∃ k, a.eval x = .int k (n : Int) := by
  have hx := ev_VR hF x
  simp only [bound] at e
  split at e
  · rename_i k m hm
    rw [hm] at hx
    simp only [Option.some.injEq, Prod.mk.injEq, ile_eq, decide_eq_true_eq] at e
    obtain ⟨rfl, h0⟩ := e
    refine ⟨k, ?_⟩
    rw [hx.1]
    cases m with
    | ofNat a => rfl
    | negSucc a => simp at h0
  · cases e

theorem bounds_sound (hF : FrR ρ fr a) {P : Program} {lo hi : Option Operand} {A B len cap : Nat} {isS : Bool} (e1 : bound fr 0 lo = some (A, true)) (e2 : bound fr len hi = some (B, true)) (h1 : A ≤ B) (h2 : B ≤ cap) (w : World) :
    (Instr.sliceBounds isS len cap (lo.map a.eval) (hi.map a.eval) none).run P w = .ok (A, B, cap) w := by
  have rb : ∀ (k : IntKind) (i y : Nat) (code : BoundsCode), i ≤ y → (Instr.sliceBound (.int k (i : Int)) y code).run P w = .ok i w := fun k i y code h => by
    have := run_sliceBound (P := P) w k (i : Int) y code (by omega) (by omega)
    simpa using this
  cases hi with
  | none =>
    simp only [bound, Option.some.injEq, Prod.mk.injEq, and_true] at e2
    subst e2
    cases lo with
    | none =>
      simp only [bound, Option.some.injEq, Prod.mk.injEq, and_true] at e1
      subst e1
      simp [Instr.sliceBounds]
    | some x =>
      obtain ⟨k, hk⟩ := bound_sound hF e1
      simp [Instr.sliceBounds, hk, rb _ _ _ _ h1]
  | some y =>
    obtain ⟨k', hk'⟩ := bound_sound hF e2
    cases lo with
    | none =>
      simp only [bound, Option.some.injEq, Prod.mk.injEq, and_true] at e1
      subst e1
      simp [Instr.sliceBounds, hk', rb _ _ _ _ h2]
    | some x =>
      obtain ⟨k, hk⟩ := bound_sound hF e1
      simp [Instr.sliceBounds, hk, hk', rb _ _ _ _ h1, rb _ _ _ _ h2]

theorem opSlice_sound (hF : FrR ρ fr a) (hH : HR own ρ h w) {t : Nat} {x : Operand} {lo hi : Option Operand} (e : opSlice C fr h t x lo hi = some (v, h', true)) :
    SemOK C.P own ρ h w v h' (Instr.sliceAt t (a.eval x) (lo.map a.eval) (hi.map a.eval) none) := by
  have hx := ev_VR hF x
  unfold opSlice at e
  split at e
  · rename_i l hu hb
    have hu := und_eq hu (by simp)
    rw [hb] at hx
    rw [show a.eval x = .string ⟨⟨l⟩⟩ from hx]
    split at e
    · rename_i A p B q h1 h2
      simp only [Option.some.injEq, Prod.mk.injEq, andr_true, ble_true, len_eq] at e
      obtain ⟨rfl, rfl, ⟨⟨rfl, rfl⟩, hab⟩, hbl⟩ := e
      rw [len_eq] at h2
      have hb' := bounds_sound hF (P := C.P) (isS := false) (cap := l.length) h1 h2 hab hbl w
      refine SemOK.pure hH (y := .string ⟨⟨tk (drp l A) (B - A)⟩⟩) ?_ rfl
      simp only [Instr.sliceAt, Instr.slice, Sem.run_bind, run_und hu, Result.andThen_ok, size_mk, hb', Option.isSome_none, Bool.false_eq_true, if_false, Sem.run_pure]
      congr 2
      rw [tk_eq, drp_eq]
      apply ByteArray.ext
      apply Array.ext'
      simp [ByteArray.data_extract, List.extract_eq_take_drop]
    · cases e
  · rename_i el b o n z hu hb
    have hu := und_eq hu (by simp)
    rw [hb] at hx
    obtain ⟨ad, cap, hx, hle, hor⟩ := hx
    rw [hx]
    split at e
    · rename_i A p B q h1 h2
      cases hz : Nat.beq z (cellsOf C el) <;> simp only [hz, cond_true, cond_false, reduceCtorEq, Option.some.injEq, Prod.mk.injEq, andr_true, ble_true] at e
      obtain ⟨rfl, rfl, ⟨⟨⟨rfl, rfl⟩, hab⟩, hbl⟩, hinf⟩ := e
      rw [beq_true] at hz
      have hb' := bounds_sound hF (P := C.P) (isS := true) (cap := cap) h1 h2 hab (by omega) w
      have hinfo : (C.P.info? el).isSome = true := by obtain ⟨i, hi', _⟩ := infoB_some hinf; rw [hi']; rfl
      refine SemOK.pure hH (y := .slice (some (if cap = A then ad else ad.add (A * z))) (B - A) (cap - A)) ?_ ⟨_, _, rfl, by omega, ?_⟩
      · simp only [Instr.sliceAt, Instr.slice, Sem.run_bind, run_und hu, Result.andThen_ok, hb', run_sizeOf hinfo, Sem.run_pure, ← hz]
        congr 2
        split <;> rfl
      · rcases hor with ⟨h0, h0'⟩ | ⟨r, hr, rfl, hroom⟩
        · left; omega
        · by_cases hc : cap = A
          · left; omega
          · right
            refine ⟨r, hr, by rw [if_neg hc, Loc.at_add], ?_⟩
            have : A * z + (cap - A) * z = cap * z := by rw [← Nat.add_mul]; congr 1; omega
            omega
    · cases e
  · rename_i el hu hb
    have hu := und_eq hu (by simp)
    rw [hb] at hx
    rw [show a.eval x = .slice none 0 0 from hx]
    split at e
    · rename_i A p B q h1 h2
      simp only [Option.some.injEq, Prod.mk.injEq, andr_true, beq_true] at e
      obtain ⟨rfl, rfl, ⟨⟨⟨rfl, rfl⟩, rfl⟩, rfl⟩, hinf⟩ := e
      have hb' := bounds_sound hF (P := C.P) (isS := true) (cap := 0) h1 h2 (Nat.le_refl _) (Nat.le_refl _) w
      have hinfo : (C.P.info? el).isSome = true := by obtain ⟨i, hi', _⟩ := infoB_some hinf; rw [hi']; rfl
      refine SemOK.pure hH (y := .slice none 0 0) ?_ rfl
      simp only [Instr.sliceAt, Instr.slice, Sem.run_bind, run_und hu, Result.andThen_ok, hb', run_sizeOf hinfo, Sem.run_pure]
      simp
    · cases e
  · rename_i n el b o hu hb
    have hu := und_eq hu (by simp)
    rw [hb] at hx
    obtain ⟨r, hr, hx⟩ := hx
    rw [hx]
    split at e
    · rename_i A p B q k h1 h2 hbl
      simp only [Option.some.injEq, Prod.mk.injEq, andr_true, ble_true] at e
      obtain ⟨rfl, rfl, ⟨⟨⟨rfl, rfl⟩, hab⟩, hbn⟩, hroom, hkl, hinf⟩ := e
      have hb' := bounds_sound hF (P := C.P) (isS := false) (cap := n) h1 h2 hab hbn w
      have hinfo : (C.P.info? el).isSome = true := by obtain ⟨i, hi', _⟩ := infoB_some hinf; rw [hi']; rfl
      refine SemOK.pure hH (y := .slice (some (if n = A then r.at o else (r.at o).add (A * cellsOf C el))) (B - A) (n - A)) ?_ ⟨_, _, rfl, by omega, ?_⟩
      · simp only [Instr.sliceAt, Sem.run_bind, run_und hu, Result.andThen_ok, Instr.sureAddr, hb', run_sizeOf hinfo, Sem.run_pure]
      · by_cases hc : n = A
        · left; omega
        · right
          obtain ⟨r', cs, ty, fz, g1, g2, g3, g4, g5, g6, g7⟩ := hH.blk b k hbl hkl
          rw [hr] at g1; cases g1
          refine ⟨r, hr, by rw [if_neg hc, Loc.at_add], ?_⟩
          have : A * cellsOf C el + (n - A) * cellsOf C el = n * cellsOf C el := by rw [← Nat.add_mul]; congr 1; omega
          omega
    · cases e
  · cases e

theorem opFieldA_sound (hF : FrR ρ fr a) (hH : HR own ρ h w) {t f : Nat} {x : Operand} (e : opFieldA C fr h t x f = some (v, h', true)) : SemOK C.P own ρ h w v h' (Instr.fieldAt t (a.eval x) f) := by
  have hx := ev_VR hF x
  unfold opFieldA at e
  split at e
  · rename_i fs b o hu hb
    have hu := und_eq hu (by simp)
    rw [hb] at hx
    obtain ⟨r, hr, hx⟩ := hx
    split at e
    · rename_i g hg
      cases hz : Nat.beq (cellsOf C g.type) 0 <;> simp only [hz, cond_true, cond_false, reduceCtorEq, Option.some.injEq, Prod.mk.injEq, and_true] at e
      obtain ⟨rfl, rfl⟩ := e
      have hz0 : cellsOf C g.type ≠ 0 := fun h0 => by rw [h0] at hz; cases hz
      have hinfo : (C.P.info? g.type).isSome = true := by
        cases hi : C.P.info? g.type with
        | none => exact absurd (by simp [cellsOf, Program.cellsOf, hi]) hz0
        | some i => rfl
      refine SemOK.pure hH (y := .pointer (some (r.at (o + g.offset)))) ?_ ⟨r, hr, rfl⟩
      rw [hx]
      simp only [Instr.fieldAt, Sem.run_bind, run_und hu, Result.andThen_ok, hg, Instr.sureAddr, Sem.run_pure, fieldPlace, run_sizeOf hinfo, hz0, if_false, Sem.run_ite]
      rw [Loc.at_add]
    · cases e
  · cases e

theorem opField_sound (hF : FrR ρ fr a) (hH : HR own ρ h w) {t f : Nat} {x : Operand} (e : opField C fr h t x f = some (v, h', true)) : SemOK C.P own ρ h w v h' (Instr.field t (a.eval x) f) := by
  have hx := ev_VR hF x
  unfold opField at e
  split at e
  · rename_i fs hu
    have hu := und_eq hu (by simp)
    split at e
    · rename_i g hg
      split at e
      · rename_i u k hp
        simp only [Option.some.injEq, Prod.mk.injEq] at e
        obtain ⟨rfl, rfl, rfl⟩ := e
        obtain ⟨cs, y, h1, h2, h3⟩ := partOf_sound (C := C) hx hp w
        refine SemOK.pure hH (y := y) ?_ h3
        rw [h1]
        simp only [Instr.field, Sem.run_bind, run_und hu, Result.andThen_ok, hg, asAgg, Sem.run_pure, h2]
      · cases e
    · cases e
  · cases e

theorem index_ok {k : IntKind} {i : Int} {n : Nat} (hf : fit k i = true) (e : cond (cond (sg k) false (Nat.ble (md k) n)) true (andr (ile 0 i) (Nat.blt (nn i) n)) = true) : i = (nn i : Int) ∧ nn i < n := by
  cases hk : sg k
  · obtain ⟨h1, h2⟩ := nn_of hk hf
    refine ⟨h1, ?_⟩
    simp only [hk, cond_false] at e
    cases hb : Nat.ble (md k) n
    · rw [hb, cond_false, andr_true, blt_true] at e; exact e.2
    · rw [ble_true] at hb; omega
  · simp only [hk, cond_true, cond_false, andr_true, ile_eq, decide_eq_true_eq, blt_true] at e
    refine ⟨?_, e.2⟩
    cases i with
    | ofNat a => rfl
    | negSucc a => simp at e

theorem opIndexA_sound (hF : FrR ρ fr a) (hH : HR own ρ h w) {t : Nat} {x i : Operand} (e : opIndexA C fr h t x i = some (v, h', true)) : SemOK C.P own ρ h w v h' (Instr.indexAt t (a.eval x) (a.eval i)) := by
  have hx := ev_VR hF x
  have hi := ev_VR hF i
  unfold opIndexA at e
  split at e
  · rename_i n el b o k j hu hb hj
    have hu := und_eq hu (by simp)
    rw [hb] at hx
    rw [hj] at hi
    obtain ⟨r, hr, hx⟩ := hx
    obtain ⟨hi, hf⟩ := hi
    simp only [Option.some.injEq, Prod.mk.injEq, andr_true (b := infoB C el)] at e
    obtain ⟨rfl, rfl, hk, hinf⟩ := e
    obtain ⟨h1, h2⟩ := index_ok hf hk
    have hinfo : (C.P.info? el).isSome = true := by obtain ⟨i, hi', _⟩ := infoB_some hinf; rw [hi']; rfl
    refine SemOK.pure hH (y := .pointer (some (r.at (o + nn j * cellsOf C el)))) ?_ ⟨r, hr, rfl⟩
    have c : 0 ≤ j ∧ j < (n : Int) := by omega
    rw [hx, hi]
    simp only [Instr.indexAt, asIntOf, Sem.run_bind, Sem.run_pure, run_und hu, Result.andThen_ok, Instr.sureAddr, c, and_self, if_true, Sem.run_ite, run_sizeOf hinfo, Loc.at_add]
    rw [show j.toNat = nn j by omega]
  · rename_i el b o n z k j hu hb hj
    have hu := und_eq hu (by simp)
    rw [hb] at hx
    rw [hj] at hi
    obtain ⟨ad, cap, hx, hle, hor⟩ := hx
    obtain ⟨hi, hf⟩ := hi
    cases hz : Nat.beq z (cellsOf C el) <;> simp only [hz, cond_true, cond_false, reduceCtorEq, Option.some.injEq, Prod.mk.injEq, andr_true, ile_eq, decide_eq_true_eq, blt_true] at e
    obtain ⟨rfl, rfl, ⟨h0, h2⟩, hinf⟩ := e
    rw [beq_true] at hz
    have h1 : j = (nn j : Int) := by cases j with | ofNat a => rfl | negSucc a => simp at h0
    rcases hor with ⟨h0', _⟩ | ⟨r, hr, rfl, hroom⟩
    · omega
    have hinfo : (C.P.info? el).isSome = true := by obtain ⟨i, hi', _⟩ := infoB_some hinf; rw [hi']; rfl
    refine SemOK.pure hH (y := .pointer (some (r.at (o + nn j * z)))) ?_ ⟨r, hr, rfl⟩
    have c : 0 ≤ j ∧ j < (n : Int) := by omega
    rw [hx, hi]
    simp only [Instr.indexAt, asIntOf, Sem.run_bind, Sem.run_pure, run_und hu, Result.andThen_ok, c, and_self, if_true, Sem.run_ite, run_sizeOf hinfo, Loc.at_add]
    rw [show j.toNat = nn j by omega, hz]
  · cases e

theorem opIndex_sound (hF : FrR ρ fr a) (hH : HR own ρ h w) {t : Nat} {x i : Operand} (e : opIndex C fr h t x i = some (v, h', true)) : SemOK C.P own ρ h w v h' (Instr.index t (a.eval x) (a.eval i)) := by
  have hx := ev_VR hF x
  have hi := ev_VR hF i
  unfold opIndex at e
  split at e
  · rename_i l k j hu hb hj
    have hu := und_eq hu (by simp)
    rw [hb] at hx
    rw [hj] at hi
    obtain ⟨hi, hf⟩ := hi
    simp only [Option.some.injEq, Prod.mk.injEq, andr_true, ile_eq, decide_eq_true_eq, blt_true, len_eq] at e
    obtain ⟨rfl, rfl, h0, h2⟩ := e
    have h1 : j = (nn j : Int) := by cases j with | ofNat a => rfl | negSucc a => simp at h0
    have hb8 : (gd8 l (nn j)).toNat < 256 := (gd8 l (nn j)).toNat_lt
    refine SemOK.pure hH (y := .int .u8 (Int.ofNat (gd8 l (nn j)).toNat)) ?_ ⟨rfl, by rw [fit_nat]; exact hb8⟩
    rw [show a.eval x = .string ⟨⟨l⟩⟩ from hx, hi]
    have hg : (ByteArray.mk ⟨l⟩)[j.toNat]? = some (gd8 l (nn j)) := by
      rw [show j.toNat = nn j by omega, gd8_eq]
      have : nn j < (ByteArray.mk ⟨l⟩).size := h2
      rw [getElem?_pos (ByteArray.mk ⟨l⟩) (nn j) this]
      simp [h2]
      rfl
    simp only [Instr.index, asIntOf, Sem.run_bind, Sem.run_pure, run_und hu, Result.andThen_ok, h0, if_true, hg]
    rfl
  · rename_i u n el k j hu hj
    have hu := und_eq hu (by simp)
    rw [hj] at hi
    obtain ⟨hi, hf⟩ := hi
    split at e
    · rename_i u' ok hp
      simp only [Option.some.injEq, Prod.mk.injEq, andr_true (b := infoB C el)] at e
      obtain ⟨rfl, rfl, hk, hinf⟩ := e
      rw [andr_true] at hk
      obtain ⟨rfl, hk⟩ := hk
      obtain ⟨h1, h2⟩ := index_ok hf hk
      obtain ⟨cs, y, g1, g2, g3⟩ := partOf_sound (C := C) hx hp w
      have hinfo : (C.P.info? el).isSome = true := by obtain ⟨i, hi', _⟩ := infoB_some hinf; rw [hi']; rfl
      refine SemOK.pure hH (y := y) ?_ g3
      have c : 0 ≤ j ∧ j < (n : Int) := by omega
      rw [g1, hi]
      simp only [Instr.index, asIntOf, Sem.run_bind, Sem.run_pure, run_und hu, Result.andThen_ok, c, and_self, if_true, Sem.run_ite, run_sizeOf hinfo, show j.toNat = nn j by omega, g2]
    · cases e
  · cases e

theorem opExtract_sound (hF : FrR ρ fr a) (hH : HR own ρ h w) {x : Operand} {i : Nat} (e : opExtract fr h x i = some (v, h', true)) : SemOK C.P own ρ h w v h' (Instr.extract (a.eval x) i) := by
  have hx := ev_VR hF x
  unfold opExtract at e
  split at e
  · rename_i l hb
    rw [hb] at hx
    obtain ⟨m, hx, hm⟩ := hx
    split at e
    · rename_i u hu
      cases e
      obtain ⟨y, hy, hr⟩ := hm.get _ _ hu
      refine SemOK.pure hH (y := y) ?_ hr
      rw [hx]
      simp [Instr.extract, hy]
    · cases e
  · cases e
end
end Ev
end Go
