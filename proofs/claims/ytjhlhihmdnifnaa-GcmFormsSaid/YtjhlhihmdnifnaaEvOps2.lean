/- Each operation of the evaluator is the machine's: the second part. -/
import Derived.Test.YtjhlhihmdnifnaaEvOps
import Derived.Laws.Tables
import Derived.Laws.Strings
import Derived.Laws.MakeOwn
import Derived.Deep.AppendSrc
import Derived.Laws.IdiomArrays
set_option linter.unusedVariables false
namespace Go
namespace Ev

theorem spl_get {α : Type} (l m : List α) (o i : Nat) (h : o + m.length ≤ l.length) : (spl l o m)[i]? = if i < o then l[i]? else if i < o + m.length then m[i - o]? else l[i]? := by
  rw [spl, app_eq, app_eq, tk_eq, drp_eq, len_eq]
  by_cases c1 : i < o
  · rw [List.getElem?_append_left (by simp; omega), List.getElem?_take, if_pos c1, if_pos c1]
  · rw [List.getElem?_append_right (by simp; omega), if_neg c1]
    simp only [List.length_take, Nat.min_eq_left (show o ≤ l.length by omega)]
    by_cases c2 : i < o + m.length
    · rw [List.getElem?_append_left (by omega), if_pos c2]
    · rw [List.getElem?_append_right (by omega), if_neg c2, List.getElem?_drop, show o + m.length + (i - o - m.length) = i by omega]

theorem fill_fold : ∀ (vs : List Value) (k off : Nat) (cells : Array Value), off + k + vs.length ≤ cells.size →
    ((vs.zipIdx k).foldl (fun cs (x : Value × Nat) => cs.setIfInBounds (off + x.2) x.1) cells).toList = spl cells.toList (off + k) vs
  | [], k, off, cells, h => by simp [spl, app_eq, tk_eq, drp_eq, len_eq]
  | v :: vs, k, off, cells, h => by
    simp only [List.zipIdx_cons, List.foldl_cons]
    simp only [List.length_cons] at h
    rw [fill_fold vs (k + 1) off _ (by simp; omega)]
    have hl : cells.toList.length = cells.size := by simp
    apply List.ext_getElem?
    intro i
    rw [spl_get _ _ _ _ (by simp; omega), spl_get _ _ _ _ (by simp; omega)]
    simp only [Array.toList_setIfInBounds, List.length_cons, List.getElem?_set]
    by_cases h1 : i < off + k
    · rw [if_pos (by omega), if_neg (by omega), if_pos h1]
    · by_cases h2 : i = off + k
      · subst h2
        simp [show off + k < off + (k + 1) by omega, show off + k < cells.size by omega]
      · rw [if_neg (by omega), if_neg h1]
        by_cases h3 : i < off + (k + 1) + vs.length
        · rw [if_pos h3, if_pos (by omega), show i - (off + k) = (i - (off + (k + 1))) + 1 by omega]; simp
        · rw [if_neg h3, if_neg (by omega), if_neg (by omega)]

theorem VRs.splice {ρ : Ren} {l m : List V} {xs ys : List Value} (h : VRs ρ l xs) (hm : VRs ρ m ys) (o : Nat) (ho : o + len m ≤ len l) : VRs ρ (spl l o m) (spl xs o ys) := by
  have h1 := h.length
  have h2 := hm.length
  rw [len_eq] at h1 h2 ho
  rw [len_eq] at ho
  refine VRs.of ?_ fun i v x hv hx => ?_
  · rw [← len_eq, spl_len _ _ _ (by omega), spl_len _ _ _ (by omega), len_eq, len_eq, h1]
  · rw [nth_eq, spl_get _ _ _ _ ho] at hv
    rw [spl_get _ _ _ _ (by omega), h2] at hx
    have fin : ∀ {l : List V} {xs : List Value} {i : Nat}, VRs ρ l xs → l[i]? = some v → xs[i]? = some x → VR ρ v x := fun h hv hx => by
      rw [← nth_eq] at hv
      obtain ⟨y, hy, hr⟩ := h.get _ _ hv
      rw [hx] at hy; cases hy; exact hr
    split at hv
    · rw [if_pos ‹_›] at hx; exact fin h hv hx
    · rw [if_neg ‹_›] at hx
      split at hv
      · rw [if_pos ‹_›] at hx; exact fin hm hv hx
      · rw [if_neg ‹_›] at hx; exact fin h hv hx

section
variable {C : Cfg} {own : Nat → Prop} {ρ : Ren} {fr : Fr} {a : Act} {h h' : H} {w : World} {v : V}

theorem buildL_sound (hF : FrR ρ fr a) {place : Nat → Option (Nat × Nat)} : ∀ (ps : List (Nat × Operand)) (z l : List V) (zs : Array Value), buildL fr place ps z = some l → VRs ρ z zs.toList →
    ∃ cs, Instr.fill place zs (ps.map fun (i, x) => (i, a.eval x)) = some cs ∧ VRs ρ l cs.toList
  | [], z, l, zs, e, hz => by cases e; exact ⟨zs, rfl, hz⟩
  | (i, x) :: ps, z, l, zs, e, hz => by
    simp only [buildL] at e
    split at e
    · rename_i o n m hp hm
      cases hc : Nat.beq (len m) n <;> simp only [hc, cond_true, cond_false, reduceCtorEq] at e
      cases hb : Nat.ble (o + len m) (len z) <;> simp only [hb, cond_true, cond_false, reduceCtorEq] at e
      rw [beq_true] at hc
      rw [ble_true] at hb
      have hx := ev_VR hF x
      have hv := cellsV_VR hx hm
      have hl := cells_len hx hm
      have hzl := hz.length
      simp only [Array.length_toList] at hzl
      have hfold := fill_fold (a.eval x).cells.toList 0 o zs (by simp; omega)
      have hz' : VRs ρ (spl z o m) (((a.eval x).cells.toList.zipIdx 0).foldl (fun cs (x : Value × Nat) => cs.setIfInBounds (o + x.2) x.1) zs).toList := by
        rw [hfold]; exact hz.splice hv o hb
      obtain ⟨cs, h1, h2⟩ := buildL_sound hF ps _ _ _ e hz'
      refine ⟨cs, ?_, h2⟩
      simp only [List.map_cons, Instr.fill, hp]
      rw [if_neg (by simp; omega)]
      rw [← h1]
      congr 1
      rw [← Array.foldl_toList]
      simp [Array.toList_zipIdx]
    · cases e

theorem infos_places : ∀ fs : List Field, infos C fs = true → fs.mapM (fun f => (C.P.info? f.type).map fun i => (f.offset, i.size)) = some (fs.map fun f => (f.offset, cellsOf C f.type))
  | [], _ => rfl
  | f :: fs, h => by
    simp only [infos] at h
    cases hf : infoB C f.type <;> simp only [hf, cond_true, cond_false, reduceCtorEq, Bool.false_eq_true] at h
    obtain ⟨i, hi, hs⟩ := infoB_some hf
    have ih := infos_places fs h
    simp [List.mapM_cons, hi, ih, hs]

theorem opBuild_sound (hF : FrR ρ fr a) (hH : HR own ρ h w) {t : Nat} {ps : Array (Nat × Operand)} (e : opBuild C fr h t ps.toList = some (v, h', true)) :
    SemOK C.P own ρ h w v h' (Instr.build t (ps.map fun (i, x) => (i, a.eval x))) := by
  have zero : ∀ z, cellsV (zeroOf C t) = some z → ∃ it zv, C.P.info? t = some it ∧ it.zero = some zv ∧ VRs ρ z zv.cells.toList := by
    intro z hz
    unfold zeroOf at hz
    split at hz
    · rename_i i hi
      split at hz
      · rename_i zv hzv
        exact ⟨i, zv, hi, hzv, cellsV_VR (ofValue_VR ρ zv) hz⟩
      · simp [cellsV, one] at hz
    · simp [cellsV, one] at hz
  unfold opBuild at e
  split at e
  · rename_i z fs hz hu
    split at e
    · rename_i l hl
      simp only [Option.some.injEq, Prod.mk.injEq] at e
      obtain ⟨rfl, rfl, hfs⟩ := e
      obtain ⟨it, zv, hi, hzv, hv⟩ := zero z hz
      obtain ⟨cs, h1, h2⟩ := buildL_sound hF ps.toList z l zv.cells hl hv
      have hu' := und_eq hu (by simp)
      refine SemOK.pure hH (run_build w t _ cs ?_) (pack_VR h2)
      simp only [Program.built, hi, hu', hzv, infos_places fs.toList hfs]
      rw [show (fun x => (fs.toList.map fun f => (f.offset, cellsOf C f.type)).toArray[x]?) = placeS C fs from funext fun i => by
        simp only [placeS]
        cases hfi : fs[i]? <;> simp [hfi]]
      simpa using h1
    · cases e
  · rename_i z n el hz hu
    split at e
    · rename_i l hl
      simp only [Option.some.injEq, Prod.mk.injEq] at e
      obtain ⟨rfl, rfl, hie⟩ := e
      obtain ⟨it, zv, hi, hzv, hv⟩ := zero z hz
      obtain ⟨ie, hie, hs⟩ := infoB_some hie
      obtain ⟨cs, h1, h2⟩ := buildL_sound hF ps.toList z l zv.cells hl hv
      have hu' := und_eq hu (by simp)
      refine SemOK.pure hH (run_build w t _ cs ?_) (pack_VR h2)
      simp only [Program.built, hi, hu', hzv, hie]
      rw [hs, show (fun i => some (i * cellsOf C el, cellsOf C el)) = placeA C el from rfl]
      simpa using h1
    · cases e
  · cases e

theorem seq8_eq : ∀ a b : List UInt8, seq8 a b = (a == b)
  | [], [] => rfl
  | [], b :: y => rfl
  | a :: x, [] => rfl
  | a :: x, b :: y => by
    have hb : Nat.beq a.toNat b.toNat = (a == b) := by rw [Bool.eq_iff_iff]; simp [beq_true, UInt8.toNat_inj]
    simp only [seq8, seq8_eq x y, hb]
    cases h : a == b <;> simp [h]

theorem slt8_eq : ∀ a b : List UInt8, slt8 a b = Op.bytesLess a b
  | [], [] => rfl
  | [], b :: y => rfl
  | a :: x, [] => rfl
  | a :: x, b :: y => by
    have hb : Nat.beq a.toNat b.toNat = (a == b) := by rw [Bool.eq_iff_iff]; simp [beq_true, UInt8.toNat_inj]
    have hl : Nat.blt a.toNat b.toNat = decide (a < b) := by rw [Bool.eq_iff_iff]; simp [blt_true, UInt8.lt_iff_toNat_lt]
    simp only [slt8, Op.bytesLess, slt8_eq x y, hb, hl]
    cases h : decide (a < b) <;> cases h2 : a == b <;> simp [h, h2]

theorem bytesLess_tri : ∀ a b : List UInt8, Op.bytesLess b a = !(Op.bytesLess a b || a == b)
  | [], [] => rfl
  | [], b :: y => rfl
  | a :: x, [] => rfl
  | a :: x, b :: y => by
    simp only [Op.bytesLess, bytesLess_tri x y]
    rcases Nat.lt_trichotomy a.toNat b.toNat with h | h | h
    · have h1 : a < b := UInt8.lt_iff_toNat_lt.2 h
      have h2 : ¬ b < a := fun h' => by have := UInt8.lt_iff_toNat_lt.1 h'; omega
      have h3 : (b == a) = false := by simp; intro e; subst e; omega
      simp [h1, h2, h3]
    · have : a = b := UInt8.toNat_inj.1 h
      subst this
      have h2 : ¬ a < a := fun h' => by have := UInt8.lt_iff_toNat_lt.1 h'; omega
      simp [h2]
    · have h1 : b < a := UInt8.lt_iff_toNat_lt.2 h
      have h2 : ¬ a < b := fun h' => by have := UInt8.lt_iff_toNat_lt.1 h'; omega
      have h3 : (a == b) = false := by simp; intro e; subst e; omega
      have h4 : ¬ (a = b) := by simpa using h3
      simp [h1, h2, h3, h4]

theorem lieq_eq : ∀ a b : List Int, lieq a b = (a == b)
  | [], [] => rfl
  | [], b :: y => rfl
  | a :: x, [] => rfl
  | a :: x, b :: y => by
    simp only [lieq, lieq_eq x y, ieq_eq]
    cases h : a == b <;> simp [h]

theorem toList_mk (l : List UInt8) : (ByteArray.mk ⟨l⟩).toList = l := by
  rw [ByteArray.toList_eq]

end
end Ev
end Go
