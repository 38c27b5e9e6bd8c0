/- Each operation of the evaluator is the machine's: the sixth part. -/
import Derived.Test.YtjhlhihmdnifnaaEvOps5
set_option linter.unusedVariables false
namespace Go
namespace Ev
section
variable {C : Cfg} {own : Nat → Prop} {ρ : Ren} {fr : Fr} {a : Act} {h h' : H} {w : World} {v : V}

theorem opLen_sound (hH : HR own ρ h w) {t : Nat} {u : V} {x : Value} {ts : Array TypeId} {ty : TypeId} {l : List Value} (hx : VR ρ u x) (ht : ts[0]? = some t) (e : opLen C h t u = some (v, h', true)) :
    SemOK C.P own ρ h w v h' (Builtin.len_ ts ty (x :: l).toArray) := by
  have h63 : ∀ n : Nat, n ≤ 9223372036854775807 → fit .i64 (Int.ofNat n) = true := fun n hn => by rw [fit_nat]; simp [sg, md]; omega
  unfold opLen at e
  split at e
  · rename_i q hu
    have hu := und_eq hu (by simp)
    simp only [Option.some.injEq, Prod.mk.injEq, ble_true, len_eq] at e
    obtain ⟨rfl, rfl, hl⟩ := e
    refine SemOK.pure hH (y := .int .i64 (Int.ofNat q.length)) ?_ ⟨rfl, h63 _ hl⟩
    rw [show x = .string ⟨⟨q⟩⟩ from hx]
    simp only [Builtin.len_, ht, List.getElem?_toArray, List.getElem?_cons_zero, Sem.run_bind, run_und hu, Result.andThen_ok, Sem.run_pure, goInt]
    rfl
  · rename_i el b o n z hu
    have hu := und_eq hu (by simp)
    simp only [Option.some.injEq, Prod.mk.injEq, ble_true] at e
    obtain ⟨rfl, rfl, hl⟩ := e
    obtain ⟨ad, cap, rfl, _⟩ := hx
    refine SemOK.pure hH (y := .int .i64 (Int.ofNat n)) ?_ ⟨rfl, h63 _ hl⟩
    simp only [Builtin.len_, ht, List.getElem?_toArray, List.getElem?_cons_zero, Sem.run_bind, run_und hu, Result.andThen_ok, Sem.run_pure, goInt]
    rfl
  · rename_i el hu
    have hu := und_eq hu (by simp)
    cases e
    rw [show x = .slice none 0 0 from hx]
    refine SemOK.pure hH (y := .int .i64 (Int.ofNat 0)) ?_ ⟨rfl, rfl⟩
    simp only [Builtin.len_, ht, List.getElem?_toArray, List.getElem?_cons_zero, Sem.run_bind, run_und hu, Result.andThen_ok, Sem.run_pure, goInt]
    rfl
  · rename_i u n el hu
    have hu := und_eq hu (by simp)
    simp only [Option.some.injEq, Prod.mk.injEq, ble_true] at e
    obtain ⟨rfl, rfl, hl⟩ := e
    refine SemOK.pure hH (y := .int .i64 (Int.ofNat n)) ?_ ⟨rfl, h63 _ hl⟩
    simp only [Builtin.len_, ht, List.getElem?_toArray, List.getElem?_cons_zero, Sem.run_bind, run_und hu, Result.andThen_ok]
    cases x <;> rfl
  · cases e

theorem opMin_sound (hH : HR own ρ h w) {mx : Bool} {us : List V} {xs : List Value} (hx : VRs ρ us xs) (e : opMin h mx us = some (v, h', true)) (ts : Array TypeId) (ty : TypeId) :
    SemOK C.P own ρ h w v h' (if mx then Builtin.max_ ts ty xs.toArray else Builtin.min_ ts ty xs.toArray) := by
  unfold opMin at e
  split at e
  · rename_i k p k' q
    obtain ⟨x, r, rfl, ⟨rfl, f1⟩, y, r', rfl, ⟨rfl, f2⟩, hr⟩ := hx
    cases hr
    by_cases hk : k = k'
    · subst hk
      simp only [decide_true, cond_true, Option.some.injEq, Prod.mk.injEq, and_true] at e
      obtain ⟨rfl, rfl⟩ := e
      refine SemOK.pure hH (y := .int k (cond (cond mx (ile p q) (ile q p)) q p)) ?_ ⟨rfl, by cases (cond mx (ile p q) (ile q p)) <;> assumption⟩
      cases mx
      · simp only [Bool.false_eq_true, if_false, Builtin.min_, List.foldlM, Builtin.min2, Sem.run_bind, Sem.run_pure, Result.andThen_ok, cond_false, ile_eq]
        congr 2
        by_cases hlt : q < p
        · rw [if_pos hlt]; simp [show q ≤ p by omega]
        · rw [if_neg hlt]
          by_cases heq : q ≤ p
          · simp [heq]; omega
          · simp [heq]
      · simp only [if_true, Builtin.max_, List.foldlM, Builtin.max2, Sem.run_bind, Sem.run_pure, Result.andThen_ok, cond_true, ile_eq]
        congr 2
        by_cases hlt : p < q
        · simp [hlt, show p ≤ q by omega]
        · by_cases heq : p ≤ q
          · simp [hlt, heq]; omega
          · simp [hlt, heq]
    · simp [hk] at e
  · cases e

theorem lenOf_sound {u : V} {x : Value} {m : Nat} (hx : VR ρ u x) (e : lenOf u = some m) (P : Program) (w : World) : (Builtin.lenOf x).run P w = .ok m w := by
  cases u <;> simp only [lenOf, reduceCtorEq, Option.some.injEq] at e <;> subst e
  case str l => rw [show x = _ from hx, len_eq]; rfl
  case slice b o n z => obtain ⟨ad, cap, rfl, _⟩ := hx; rfl
  case nilslice => rw [show x = _ from hx]; rfl

theorem srcOf_sound (hH : HR own ρ h w) {z n m : Nat} {u : V} {x : Value} {k : Blk} (hx : VR ρ u x) (hm : lenOf u = some m) (hn : n ≤ m) (e : srcOf h z n u = some (k, true)) :
    ∃ (xs : List Value) (l : List V), xs.length = n * z ∧ cellsV k.val = some l ∧ VRs ρ l xs ∧ allOne l = true ∧ k.live = true ∧ k.size = n * z ∧
      (∀ (P : Program) (w' : World), w'.heap = w.heap → (Builtin.firstCells z n x).run P w' = .ok xs.toArray w') ∧
      ∀ b o n' z' r cs ty fz, u = .slice b o n' z' → ρ b = some r → w.heap[r.blk]? = some (.cells cs ty fz) → ∀ j, j < n * z → cs[r.base + (o + j)]? = xs[j]? := by
  unfold srcOf at e
  split at e
  · rename_i l
    simp only [Option.some.injEq, Prod.mk.injEq, beq_true] at e
    obtain ⟨rfl, rfl⟩ := e
    simp only [lenOf, len_eq, Option.some.injEq] at hm
    subst hm
    have hf : ∀ i ∈ toI (tk l n), fit .u8 i = true := fun i hi => by
      rw [toI_eq] at hi
      obtain ⟨b, _, rfl⟩ := List.mem_map.1 hi
      have : b.toNat < 256 := b.toNat_lt
      rw [fit_iff]; simp [sg, md]; omega
    refine ⟨(toI (tk l n)).map (Value.int .u8), mapInt .u8 (toI (tk l n)), by rw [toI_eq, tk_eq]; simp; omega, rfl, mapInt_VRs hf, allOne_mapInt _ _, rfl, by simp [Blk.size, len_eq, toI_eq, tk_eq]; omega, fun P w' hw => ?_, fun _ _ _ _ _ _ _ _ he => by cases he⟩
    rw [show x = _ from hx]
    simp only [Builtin.firstCells, Sem.run_pure]
    congr 1
    apply Array.ext'
    rw [toI_eq, tk_eq]
    simp [ByteArray.data_extract, List.extract_eq_take_drop]
    rfl
  · rename_i b o n' z'
    simp only [lenOf, Option.some.injEq] at hm
    subst hm
    obtain ⟨ad, cap, rfl, hcap, hor⟩ := hx
    have hemp : n * z = 0 ∨ ∃ r, ρ b = some r ∧ ad = r.at o := by
      rcases hor with ⟨h0, _⟩ | ⟨r, hr, rfl, _⟩
      · left; have : n = 0 := by omega
        simp [this]
      · exact .inr ⟨r, hr, rfl⟩
    split at e
    · rename_i k l hb
      simp only [Option.some.injEq, Prod.mk.injEq, andr_true, ble_true, beq_true, len_eq] at e
      obtain ⟨rfl, hol, hz⟩ := e
      obtain ⟨r', cs, ty, fz, h1, h2, _, h4, _⟩ := hH.blk b _ hb rfl
      have hf : ∀ i ∈ tk (drp l o) (n * z), fit k i = true := fun i hi => by
        rw [tk_eq, drp_eq] at hi
        obtain ⟨j, hj⟩ := List.mem_iff_getElem?.1 (List.mem_of_mem_drop (List.mem_of_mem_take hi))
        have hjl := (List.getElem?_eq_some_iff.1 hj).1
        have := (h4 j (by rw [len_eq]; exact hjl)).2
        rwa [gd_eq, hj] at this
      have hlen : ((tk (drp l o) (n * z)).map (Value.int k)).length = n * z := by rw [tk_eq, drp_eq]; simp; omega
      refine ⟨(tk (drp l o) (n * z)).map (Value.int k), mapInt k (tk (drp l o) (n * z)), hlen, rfl, mapInt_VRs hf, allOne_mapInt _ _, rfl, by simpa [Blk.size, len_eq] using hlen, fun P w' hw => ?_, fun b0 o0 n0 z0 r cs0 ty0 fz0 he hr hw0 j hj => ?_⟩
      rotate_left
      · cases he
        rw [hr] at h1; cases h1
        rw [hw0] at h2; cases h2
        rw [(h4 (o + j) (by rw [len_eq]; omega)).1, gd_eq, tk_eq, drp_eq]
        simp [hj, List.getElem?_drop, show o + j < l.length by omega]
      refine run_firstCells_some w' z n ad _ _ _ hlen (fun j v hj => ?_)
      rcases hemp with h0 | ⟨r, hr, rfl⟩
      · have := (List.getElem?_eq_some_iff.1 hj).1; omega
      · rw [hr] at h1; cases h1
        have hjn : j < n * z := by have := (List.getElem?_eq_some_iff.1 hj).1; omega
        rw [Loc.at_add, cell_of (by rw [hw]; exact h2), (h4 (o + j) (by rw [len_eq]; omega)).1, ← hj, gd_eq, tk_eq, drp_eq]
        simp [hjn, List.getElem?_drop, show o + j < l.length by omega]
    · rename_i l hb
      simp only [Option.some.injEq, Prod.mk.injEq, andr_true, ble_true, beq_true, len_eq] at e
      obtain ⟨rfl, hol, hz⟩ := e
      obtain ⟨r', cs, ty, fz, h1, h2, _, h4, _⟩ := hH.blk b _ hb rfl
      have hget : ∀ j, j < n * z → ∃ x, cs[r'.base + (o + j)]? = some x ∧ ∀ v, nth l (o + j) = some v → VR ρ v x ∧ one v = true := fun j hj => by
        obtain ⟨h7, x, h5, h6⟩ := h4 (o + j) l[o + j] (by rw [nth_eq]; simp [show o + j < l.length by omega])
        refine ⟨x, h5, fun v hv => ?_⟩
        rw [nth_eq, List.getElem?_eq_getElem (by omega)] at hv
        cases hv; exact ⟨h6, h7⟩
      let f : Nat → Value := fun j => (cs[r'.base + (o + j)]?).getD undef
      have hlen : ((List.range (n * z)).map f).length = n * z := by simp
      have hrs : VRs ρ (tk (drp l o) (n * z)) ((List.range (n * z)).map f) := VRs.of (by rw [len_eq, tk_eq, drp_eq]; simp; omega) fun i v x hv hx => by
        have hi : i < n * z := by simpa using (List.getElem?_eq_some_iff.1 hx).1
        obtain ⟨y, hy, h7⟩ := hget i hi
        simp [hi, f, hy] at hx
        rw [nth_sub l o (n * z) i hi] at hv
        exact hx ▸ (h7 v hv).1
      have hone : allOne (tk (drp l o) (n * z)) = true := by
        have key : ∀ (q : List V), (∀ v ∈ q, one v = true) → allOne q = true := fun q => by
          induction q with
          | nil => intro _; rfl
          | cons v q ih => intro hq; simp [allOne, hq v (by simp), ih fun u hu => hq u (by simp [hu])]
        refine key _ fun v hv => ?_
        obtain ⟨j, hj⟩ := List.mem_iff_getElem?.1 hv
        rw [← nth_eq] at hj
        have hjn : j < n * z := by
          rw [nth_eq, tk_eq, drp_eq] at hj
          have := (List.getElem?_eq_some_iff.1 hj).1; simp at this; omega
        rw [nth_sub l o (n * z) j hjn] at hj
        exact (h4 (o + j) v hj).1
      refine ⟨_, tk (drp l o) (n * z), hlen, rfl, hrs, hone, rfl, by simp only [Blk.size, len_eq, tk_eq, drp_eq]; simp; omega, fun P w' hw => ?_, fun b0 o0 n0 z0 r cs0 ty0 fz0 he hr hw0 j hj => ?_⟩
      rotate_left
      · cases he
        rw [hr] at h1; cases h1
        rw [hw0] at h2; cases h2
        obtain ⟨y, hy, _⟩ := hget j hj
        rw [hy]
        simp [hj, f, hy]
      refine run_firstCells_some w' z n ad _ _ _ hlen (fun j v hj => ?_)
      rcases hemp with h0 | ⟨r, hr, rfl⟩
      · have := (List.getElem?_eq_some_iff.1 hj).1; omega
      · rw [hr] at h1; cases h1
        have hjn : j < n * z := by have := (List.getElem?_eq_some_iff.1 hj).1; omega
        obtain ⟨y, hy, _⟩ := hget j hjn
        rw [Loc.at_add, cell_of (by rw [hw]; exact h2), hy]
        simp [hjn, f, hy] at hj
        rw [hj]
    · cases e
  · cases e

theorem opCopy_sound (hH : HR own ρ h w) {t : Nat} {us : List V} {xs : List Value} {ts : Array TypeId} {ty : TypeId} (hx : VRs ρ us xs) (ht : ts[0]? = some t) (e : opCopy C h t us = some (v, h', true)) :
    SemOK C.P own ρ h w v h' (Builtin.copy_ ts ty xs.toArray) := by
  unfold opCopy at e
  split at e
  · rename_i b o n z s
    obtain ⟨d, r1, rfl, hd, x, r2, rfl, hs, hnil⟩ := hx
    cases hnil
    obtain ⟨ad, cap, rfl, hcap, hor⟩ := hd
    split at e
    · rename_i el m hu hm
      have hu := und_eq hu (by simp)
      split at e
      · rename_i k p hk
        split at e
        · rename_i h1 q hw
          simp only [Option.some.injEq, Prod.mk.injEq, andr_true, ble_true, beq_true] at e
          obtain ⟨rfl, rfl, ⟨⟨rfl, rfl⟩, hz, hn63⟩, hinf⟩ := e
          obtain ⟨i, hi, hsz⟩ := infoB_some hinf
          obtain ⟨xs, l, s1, s2, s3, s4, s5, s6, s7, _⟩ := srcOf_sound hH hs hm (Nat.min_le_left m n) hk
          have hfit : fit .i64 (Int.ofNat (Nat.min m n)) = true := by
            have : Nat.min m n ≤ n := Nat.min_le_right m n
            rw [fit_nat]; simp [sg, md]; omega
          have hblk : ∃ kb, h.bs.get b = some kb ∧ kb.live = true := by
            obtain ⟨kb, kb', g1, g2, _⟩ := wr_shape hw s2 s3
            exact ⟨kb, g1, g2⟩
          obtain ⟨kb, hkb, hkl⟩ := hblk
          obtain ⟨r', _, _, _, hr', _⟩ := hH.blk b kb hkb hkl
          obtain ⟨w', g1, g2, g3⟩ := wr_sound hH hr' s2 s3 hw
          have hst : ∀ P : Program, (storeCells ad xs 0).run P w = .ok () w' := by
            rcases hor with ⟨h0, _⟩ | ⟨r, hr, rfl, _⟩
            · have hx0 : xs = [] := List.eq_nil_of_length_eq_zero (by rw [s1, h0]; simp)
              subst hx0
              exact g1
            · rw [hr] at hr'; cases hr'; exact g1
          refine ⟨.int .i64 (Int.ofNat (Nat.min m n)), w', ρ, ?_, ρ.le_refl, ⟨rfl, hfit⟩, g2, g3, New.refl _ _⟩
          have hl := lenOf_sound hs hm C.P w
          have hf := s7 C.P w rfl
          rw [hz, ← hsz] at hf
          simp only [Builtin.copy_, ht, List.getElem?_toArray, List.getElem?_cons_zero, List.getElem?_cons_succ, Sem.run_bind, run_und hu, Result.andThen_ok, hl, sizeOf, typeInfo, run_program, hi, Sem.run_pure, hf, hst C.P, goInt]
          rfl
        · cases e
      · cases e
    · cases e
  · cases e
end
end Ev
end Go
