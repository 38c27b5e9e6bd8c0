/- append. -/
import Derived.Test.YtjhlhihmdnifnaaEvOps6
import Derived.Deep.Upon
set_option linter.unusedVariables false
namespace Go
namespace Ev
section
variable {C : Cfg} {own : Nat → Prop} {ρ : Ren} {fr : Fr} {a : Act} {h h' : H} {w : World} {v : V}

theorem VRs.append {ρ : Ren} : ∀ {l m : List V} {xs ys : List Value}, VRs ρ l xs → VRs ρ m ys → VRs ρ (l ++ m) (xs ++ ys)
  | [], m, xs, ys, h, k => by rw [show xs = [] from h]; exact k
  | v :: l, m, xs, ys, ⟨x, r, e, h1, h2⟩, k => by subst e; exact ⟨x, r ++ ys, rfl, h1, VRs.append h2 k⟩

theorem allOne_append {l m : List V} (h : allOne l = true) (k : allOne m = true) : allOne (l ++ m) = true := by
  induction l with
  | nil => exact k
  | cons v l ih =>
    simp only [allOne, List.cons_append] at *
    cases hv : one v <;> simp [hv] at h ⊢
    exact ih h

theorem mapInt_append (k : IntKind) (l m : List Int) : mapInt k (l ++ m) = mapInt k l ++ mapInt k m := by rw [mapInt_eq, mapInt_eq, mapInt_eq, List.map_append]

/-- A block whose cells are these. -/
theorem BR_of_cells {k : Blk} {l : List V} {xs : List Value} (hk : cellsV k.val = some l) (hx : VRs ρ l xs) (hone : allOne l = true) (hlive : k.live = true) {cs : Array Value} {base : Nat}
    (hcs : ∀ i, i < xs.length → cs[base + i]? = xs[i]?) : BR ρ k cs base ∧ k.size = xs.length := by
  have hl := hx.length
  rw [len_eq] at hl
  cases k with
  | dead => cases hlive
  | ints k q =>
    simp only [Blk.val, cellsV, Option.some.injEq] at hk
    subst hk
    rw [mapInt_eq, List.length_map] at hl
    refine ⟨fun i hi => ?_, by simp [Blk.size, len_eq, hl]⟩
    rw [len_eq] at hi
    obtain ⟨y, hy, rfl, hf⟩ := hx.get i (.int k q[i]) (by rw [nth_eq, mapInt_eq]; simp [hi])
    rw [hcs i (by omega), hy, gd_eq]
    simp [hi, hf]
  | vals q =>
    simp only [Blk.val, cellsV, Option.some.injEq] at hk
    subst hk
    refine ⟨fun i v hv => ?_, by simp [Blk.size, len_eq, hl]⟩
    obtain ⟨y, hy, hr⟩ := hx.get i v hv
    have hi := (List.getElem?_eq_some_iff.1 hy).1
    exact ⟨allOne_get hone i v hv, y, by rw [hcs i hi, hy], hr⟩

theorem joinB_sound {k0 k1 k : Blk} {l0 l1 : List V} (e : joinB k0 k1 = some k) (h0 : cellsV k0.val = some l0) (h1 : cellsV k1.val = some l1) : cellsV k.val = some (l0 ++ l1) ∧ k.live = true := by
  unfold joinB at e
  split at e
  · rename_i q l q' m
    by_cases hq : q = q'
    · subst hq
      simp only [decide_true, cond_true, Option.some.injEq] at e
      subst e
      simp only [Blk.val, cellsV, Option.some.injEq] at h0 h1 ⊢
      subst h0; subst h1
      exact ⟨by rw [app_eq, mapInt_append], rfl⟩
    · simp [hq] at e
  · simp only [Option.some.injEq] at e
    subst e
    simp only [Blk.val, cellsV, Option.some.injEq] at h0 h1 ⊢
    subst h0; subst h1
    exact ⟨by rw [app_eq], rfl⟩
  · simp only [Option.some.injEq] at e
    subst e
    simp only [Blk.val, cellsV, Option.some.injEq] at h0 h1 ⊢
    subst h0; subst h1
    exact ⟨by rw [app_eq], rfl⟩
  · cases e

theorem HR.kill (hH : HR own ρ h w) {b : Nat} (hb : (h.bs.get b).isSome = true) : HR own ρ ⟨h.bs.put b (some .dead), h.nx⟩ w := by
  have old : ∀ i c, (h.bs.put b (some .dead)).get i = some c → c.live = true → i ≠ b ∧ h.bs.get i = some c := fun i c hi hl => by
    rcases Tr.get_put _ _ _ _ _ hi with ⟨rfl, rfl⟩ | ⟨hne, hi'⟩
    · cases hl
    · exact ⟨hne, hi'⟩
  refine ⟨fun i c hi hl => hH.blk i c (old i c hi hl).2 hl, fun i j c d r s hi hl hj hl' hr hs he => hH.inj i j c d r s (old i c hi hl).2 hl (old j d hj hl').2 hl' hr hs he, fun i hi => ?_, hH.own⟩
  refine hH.fresh i ?_
  by_cases e : i = b
  · subst e
    have : (h.bs.put i (some .dead)).get i = some .dead := Tr.get_put_some _ _ _ hb
    rw [show (⟨h.bs.put i (some .dead), h.nx⟩ : H).bs.get i = _ from this] at hi
    cases hi
  · rwa [show (⟨h.bs.put b (some .dead), h.nx⟩ : H).bs.get i = h.bs.get i from Tr.get_put_ne _ _ _ _ (Ne.symm e)] at hi

theorem kill_none {t : Tr Blk} {b id : Nat} (h : (t.put b (some .dead)).get id = none) : t.get id = none := by
  cases hg : t.get id with
  | none => rfl
  | some x =>
    by_cases e : id = b
    · subst e; rw [Tr.get_put_some t id _ (by rw [hg]; rfl)] at h; cases h
    · rw [Tr.get_put_ne _ _ _ _ (Ne.symm e), hg] at h; cases h

/-- The block that is given up lives on under a new number, with more cells. -/
theorem reuse_sound (hH : HR own ρ h w) {b id : Nat} {bb k : Blk} {h' : H} (hb : h.bs.get b = some bb) (hlb : bb.live = true) (e : H.add ⟨h.bs.put b (some .dead), h.nx⟩ id k = some h') {r : Loc} (hr : ρ b = some r)
    {w' : World} {cs cs' : Array Value} {ty : TypeId} {fz : Nat × Nat} (hw : w.heap[r.blk]? = some (.cells cs ty fz)) (hw' : w'.heap[r.blk]? = some (.cells cs' ty fz)) (hsz : cs'.size = cs.size)
    (hoth : ∀ i, i ≠ r.blk → w'.heap[i]? = w.heap[i]?) (hos : w'.os = w.os) (htape : w'.tape = w.tape) (hout : w'.output = w.output) (hsize : w'.heap.size = w.heap.size)
    {o : Nat} (ho : o ≤ r.room) (hk : BR ρ k cs' (r.base + o)) (hks : k.size ≤ r.room - o) (hkl : k.live = true) :
    ρ.le (ρ.set id ⟨r.blk, r.base + o, r.room - o⟩) ∧ (ρ.set id ⟨r.blk, r.base + o, r.room - o⟩) id = some ⟨r.blk, r.base + o, r.room - o⟩ ∧ HR own (ρ.set id ⟨r.blk, r.base + o, r.room - o⟩) h' w' ∧ Frm own w w' := by
  have hH' := hH.kill (b := b) (by rw [hb]; rfl)
  obtain ⟨r', ds, ty', fz', q1, q2, q3, q4, q5, q6, q7⟩ := hH.blk b bb hb hlb
  rw [hr] at q1; cases q1
  rw [hw] at q2; cases q2
  unfold H.add at e
  split at e
  · rename_i hnone
    split at e
    · rename_i y hy
      cases e
      have hid : ρ id = none := hH'.fresh id hnone
      have hle : ρ.le (ρ.set id ⟨r.blk, r.base + o, r.room - o⟩) := fun i l hl => by
        unfold Ren.set
        split
        · rename_i he; subst he; rw [hid] at hl; cases hl
        · exact hl
      have hset : (ρ.set id ⟨r.blk, r.base + o, r.room - o⟩) id = some ⟨r.blk, r.base + o, r.room - o⟩ := by simp [Ren.set]
      have hother : ∀ i, i ≠ id → (ρ.set id ⟨r.blk, r.base + o, r.room - o⟩) i = ρ i := fun i hi => by simp [Ren.set, hi]
      have old : ∀ i c, ((h.bs.put b (some .dead)).put id (some k)).get i = some c → c.live = true → (i = id ∧ c = k) ∨ (i ≠ id ∧ i ≠ b ∧ h.bs.get i = some c) := fun i c hi hl => by
        rcases Tr.get_put _ _ _ _ _ hi with ⟨rfl, rfl⟩ | ⟨hne, hi'⟩
        · exact .inl ⟨rfl, rfl⟩
        · rcases Tr.get_put _ _ _ _ _ hi' with ⟨rfl, rfl⟩ | ⟨hne', hi''⟩
          · cases hl
          · exact .inr ⟨hne, hne', hi''⟩
      refine ⟨hle, hset, ⟨fun i c hi hl => ?_, fun i j c d r1 s1 hi hl hj hl' hr1 hs1 he => ?_, fun i hi => ?_, fun i hi => hH.own i (by rw [hsize] at hi; exact hi)⟩, ⟨hos, htape, hout, Nat.le_of_eq hsize.symm, fun i hi => hoth i fun e => hi (e ▸ q3)⟩⟩
      · rcases old i c hi hl with ⟨rfl, rfl⟩ | ⟨hne, hne', hi'⟩
        · exact ⟨_, cs', ty, fz, hset, hw', q3, BR.mono hle hk, hks, by rw [hsz]; simp only; omega, by rw [hsz]; exact q7⟩
        · obtain ⟨s, ds, ty', fz', e1, e2, e3, e4, e5, e6, e7⟩ := hH.blk i c hi' hl
          refine ⟨s, ds, ty', fz', by rw [hother i hne]; exact e1, ?_, e3, BR.mono hle e4, e5, e6, e7⟩
          rw [hoth s.blk fun he => hne' (hH.inj i b c bb s r hi' hl hb hlb e1 hr he)]
          exact e2
      · have which : ∀ i c r1, ((h.bs.put b (some .dead)).put id (some k)).get i = some c → c.live = true → (ρ.set id ⟨r.blk, r.base + o, r.room - o⟩) i = some r1 →
            ∃ i' c', h.bs.get i' = some c' ∧ c'.live = true ∧ (∃ r', ρ i' = some r' ∧ r'.blk = r1.blk) ∧ ((i = id ∧ i' = b) ∨ (i ≠ id ∧ i' = i ∧ i ≠ b)) := fun i c r1 hi hl hr1 => by
          rcases old i c hi hl with ⟨rfl, rfl⟩ | ⟨hne, hne', hi'⟩
          · rw [hset] at hr1; cases hr1
            exact ⟨b, bb, hb, hlb, ⟨r, hr, rfl⟩, .inl ⟨rfl, rfl⟩⟩
          · rw [hother i hne] at hr1
            exact ⟨i, c, hi', hl, ⟨r1, hr1, rfl⟩, .inr ⟨hne, rfl, hne'⟩⟩
        obtain ⟨i', c', a1, a2, ⟨r', a3, a4⟩, a5⟩ := which i c r1 hi hl hr1
        obtain ⟨j', d', b1, b2, ⟨s', b3, b4⟩, b5⟩ := which j d s1 hj hl' hs1
        have := hH.inj i' j' c' d' r' s' a1 a2 b1 b2 a3 b3 (by rw [a4, b4, he])
        rcases a5 with ⟨x1, x2⟩ | ⟨x1, x2, x3⟩ <;> rcases b5 with ⟨y1, y2⟩ | ⟨y1, y2, y3⟩
        · rw [x1, y1]
        · exact absurd (by rw [← y2, ← this, x2]) y3
        · exact absurd (by rw [← x2, this, y2]) x3
        · rw [← x2, this, y2]
      · by_cases e' : i = id
        · subst e'; rw [show (⟨(h.bs.put b (some .dead)).put i (some k), h.nx⟩ : H).bs.get i = _ from rfl] at hi; rw [hi] at hy; cases hy
        · rw [hother i e']
          exact hH'.fresh i (by rwa [show (⟨(h.bs.put b (some .dead)).put id (some k), h.nx⟩ : H).bs.get i = (h.bs.put b (some .dead)).get i from Tr.get_put_ne _ _ _ _ (Ne.symm e')] at hi)
    · cases e
  · cases e

theorem zeroB_some {t : Nat} (hz : zeroB C t = true) : ∃ i z, C.P.info? t = some i ∧ i.zero = some z ∧ i.size = cellsOf C t ∧ i.bytes = C.P.bytesOf t ∧ z.cells.size = cellsOf C t := by
  unfold zeroB at hz
  split at hz
  · rename_i i hi
    split at hz
    · rename_i z hzz
      exact ⟨i, z, hi, hzz, by simp [cellsOf, Program.cellsOf, hi], by simp [Program.bytesOf, hi], by rw [beq_true] at hz; simp [cellsOf, Program.cellsOf, hi, hz]⟩
    · cases hz
  · cases hz

theorem srcT_kind {t : Nat} (hs : srcT (und C t) = true) : (∃ e, C.P.underlying t = some (.slice e)) ∨ C.P.underlying t = some .string := by
  cases hd : und C t <;> rw [hd] at hs <;> simp [srcT] at hs
  · exact .inr (und_eq hd (by simp))
  · exact .inl ⟨_, und_eq hd (by simp)⟩

theorem VRs.one_all {l : List V} {xs : List Value} (h : VRs ρ l xs) (k : allOne l = true) : ∀ u ∈ xs, u.oneCell' = true := fun u hu => by
  obtain ⟨i, hi⟩ := List.mem_iff_getElem?.1 hu
  have hil := (List.getElem?_eq_some_iff.1 hi).1
  rw [h.length, len_eq] at hil
  obtain ⟨y, hy, hv⟩ := h.get i l[i] (by rw [nth_eq]; simp [hil])
  rw [hi] at hy; cases hy
  exact one_oneCell hv (allOne_get k i _ (by rw [nth_eq]; simp [hil]))

theorem opAppend_sound (hH : HR own ρ h w) {id t tx : Nat} {us : List V} {xs : List Value} {ty : TypeId} (hx : VRs ρ us xs) (e : opAppend C id h t tx us = some (v, h', true)) :
    SemOK C.P own ρ h w v h' (Builtin.append_ #[t, tx] ty xs.toArray) := by
  unfold opAppend at e
  split at e
  · rename_i s
    obtain ⟨d, r1, rfl, hd, x, r2, rfl, hs, hnil⟩ := hx
    cases hnil
    rw [show d = .slice none 0 0 from hd]
    split at e
    · rename_i el m hu hm
      have hu := und_eq hu (by simp)
      split at e
      · rename_i k p hk
        split at e
        · rename_i h1 hadd
          simp only [Option.some.injEq, Prod.mk.injEq, andr_true, ble_true, blt_true] at e
          obtain ⟨rfl, rfl, ⟨⟨rfl, hst⟩, hzb⟩, hm0, hfit, h63⟩ := e
          obtain ⟨i, z, hi, hz, hsz, hby, hzc⟩ := zeroB_some hzb
          obtain ⟨xs, l, s1, s2, s3, s4, s5, s6, s7, _⟩ := srcOf_sound hH hs hm (Nat.le_refl m) hk
          have hsrc : Src C.P i.size tx x m xs w := ⟨(srcT_kind hst), fun w' => lenOf_sound hs hm _ _, by rw [hsz]; exact s7 _ _ rfl, by rw [hsz]; exact s7 _ _ rfl, by rw [s1, hsz], s3.one_all s4⟩
          have hrun := run_append_grow_src (P := C.P) w t tx ty el i z hu hi hz none 0 0 [] (run_firstCells_none _ _ _ _ _) x m xs hsrc (by omega) (by simp; omega) (by
            rw [hby]
            have := nextslicecap_le (need := 0 + m) (old := 0) (by omega)
            exact Nat.le_trans (Nat.mul_le_mul_right _ this) (by rw [Nat.zero_add]; exact hfit))
          simp only [Nat.zero_add, List.nil_append] at hrun
          generalize hg : grownCap w m 0 el = cap at hrun
          have hgc : m ≤ cap := by rw [← hg]; show m ≤ m + _; omega
          obtain ⟨b1, b2⟩ := BR_of_cells (ρ := ρ) s2 s3 s4 s5 (cs := (xs.toArray ++ Builtin.zeroCells z.cells (cap - m))) (base := 0) (fun j hj => by
            rw [Nat.zero_add, Array.getElem?_append_left (by simpa using hj)]; simp)
          have hzs : (Builtin.zeroCells z.cells (cap - m)).size = (cap - m) * cellsOf C el := by simp [Builtin.zeroCells, hzc]
          obtain ⟨g1, g2, g3, g4⟩ := add_sound hH hadd (ty := el) (fz := (0, 0)) b1 (by rw [b2]; simp) s5 (.inl (Nat.le_refl _)) (w' := w.drew.alloc (.cells (xs.toArray ++ Builtin.zeroCells z.cells (cap - m)) el)) rfl rfl rfl rfl
          refine ⟨_, _, _, hrun, g1, ⟨_, cap, rfl, hgc, .inr ⟨_, g2, rfl, ?_⟩⟩, g3, g4, New.set (H.add_none hadd) _⟩
          have : m * cellsOf C el + (cap - m) * cellsOf C el = cap * cellsOf C el := by rw [← Nat.add_mul]; congr 1; omega
          simp only [Array.size_append, List.size_toArray, hzs, s1]
          omega
        · cases e
      · cases e
    · cases e
  · rename_i b o n z s
    obtain ⟨d, r1, rfl, hd, x, r2, rfl, hs, hnil⟩ := hx
    cases hnil
    have hd' := hd
    obtain ⟨ad, cap, rfl, hcap, hor⟩ := hd
    split at e
    · rename_i el m hu hm
      have hu := und_eq hu (by simp)
      split at e
      · rename_i k0 p0 k1 p1 bb hk0 hk1 hbb
        split at e
        · rename_i k hj
          split at e
          · rename_i h1 hadd
            simp only [Option.some.injEq, Prod.mk.injEq, andr_true, ble_true, beq_true] at e
            obtain ⟨rfl, rfl, ⟨⟨⟨⟨rfl, rfl⟩, hst⟩, hend, hz⟩, hzb⟩, hfit, h63⟩ := e
            obtain ⟨i, zz, hi, hzz, hsz, hby, hzc⟩ := zeroB_some hzb
            obtain ⟨ys, l0, q1, q2, q3, q4, q5, q6, q7, q8⟩ := srcOf_sound hH hd' rfl (Nat.le_refl n) hk0
            obtain ⟨xs, l, s1, s2, s3, s4, s5, s6, s7, _⟩ := srcOf_sound hH hs hm (Nat.le_refl m) hk1
            obtain ⟨j1, j2⟩ := joinB_sound hj q2 s2
            have j3 : VRs ρ (l0 ++ l) (ys ++ xs) := q3.append s3
            have j4 := allOne_append q4 s4
            have hlb : bb.live = true := by
              unfold srcOf at hk0
              simp only [hbb] at hk0
              cases bb <;> first | rfl | cases hk0
            obtain ⟨r', cs, ty', fz, t1, t2, t3, t4, t5, t6, t7⟩ := hH.blk b bb hbb hlb
            have hsrc : Src C.P i.size tx x m xs w := ⟨(srcT_kind hst), fun w' => lenOf_sound hs hm _ _, by rw [hsz, ← hz]; exact s7 _ _ rfl, by rw [hsz, ← hz]; exact s7 _ _ rfl, by rw [s1, hsz, ← hz], s3.one_all s4⟩
            by_cases hroom : n + m ≤ cap
            · -- there is room
              have hor' : ad = r'.at o ∧ o + cap * z ≤ r'.room ∨ (n = 0 ∧ cap = 0) := by
                rcases hor with h0 | ⟨r, hr, he, hro⟩
                · exact .inr h0
                · rw [hr] at t1; cases t1; exact .inl ⟨he, hro⟩
              have hnm : ∀ q, q < m * z → 0 < m := fun q hq => by rcases Nat.eq_zero_or_pos m with h0 | h0; · rw [h0] at hq; simp at hq
                                                                  · exact h0
              have hxl : o + n * z + xs.length ≤ r'.room ∨ xs = [] := by
                rcases hor' with ⟨_, hro⟩ | ⟨h0, h0'⟩
                · left
                  have : (n + m) * z ≤ cap * z := Nat.mul_le_mul_right _ hroom
                  rw [Nat.add_mul] at this
                  omega
                · right
                  have : m = 0 := by omega
                  exact List.eq_nil_of_length_eq_zero (by rw [s1, this]; simp)
              have hadr : ad = r'.at o ∨ (m = 0 ∧ xs = []) := by
                rcases hor' with ⟨he, _⟩ | ⟨h0, h0'⟩
                · exact .inl he
                · right
                  have : m = 0 := by omega
                  exact ⟨this, List.eq_nil_of_length_eq_zero (by rw [s1, this]; simp)⟩
              have hob : o + n * z ≤ r'.room := by omega
              obtain ⟨cs', c1, c2, c3, c4, c5, c6, c7, c8⟩ := setCells_at (b := r'.blk) xs (r'.base + o + n * z) w cs t2 (by
                rcases hxl with hxl | hxl
                · omega
                · rw [hxl]; simp; omega)
              have hrun : (Builtin.append_ #[t, tx] ty #[.slice (some ad) n cap, x]).run C.P w = .ok (.slice (some ad) (n + m) cap) (w.setCells r'.blk (r'.base + o + n * z) xs) := by
                rcases hadr with rfl | ⟨hm0, hx0⟩
                · have := run_append_room_src (P := C.P) w t tx ty el i hu hi r'.blk (r'.base + o) n cap x m xs hsrc hroom (fun j hj => by
                    rw [hsz, ← hz]
                    have hlt : r'.base + o + n * z + j < cs.size := by
                      rcases hxl with hxl | hxl
                      · omega
                      · rw [hxl] at hj; simp at hj
                    simp [World.cell?, t2, hlt])
                    (fun j hj => by
                      rw [hsz, ← hz]
                      have hlt : r'.base + o + n * z + j < cs.size := by
                        rcases hxl with hxl | hxl
                        · omega
                        · rw [hxl] at hj; simp at hj
                      simp only [World.frozen?, t2]
                      rcases t7 with t7 | t7 <;> simp <;> omega)
                  rw [hsz, ← hz] at this
                  exact this
                · subst hx0
                  subst hm0
                  rw [World.setCells, Nat.add_zero]
                  exact run_append_nothing w t tx ty el i hu hi (some ad) n cap hcap x hsrc
              have hbr : BR ρ k cs' (r'.base + o) ∧ k.size = (ys ++ xs).length := BR_of_cells j1 j3 j4 j2 (fun q hq => by
                rw [c3]
                by_cases hq1 : q < n * z
                · rw [if_neg (by omega), List.getElem?_append_left (by omega), ← q8 b o n z r' cs ty' fz rfl t1 t2 q hq1, Nat.add_assoc]
                · rw [if_pos (by simp at hq; omega), List.getElem?_append_right (by omega), q1]
                  congr 1; omega)
              obtain ⟨g1, g2, g3, g4⟩ := reuse_sound hH hbb hlb hadd t1 t2 c1 c2 c4 c5 c6 c7 c8 (o := o) (by omega) hbr.1 (by
                rw [hbr.2, List.length_append, q1]
                rcases hxl with hxl | hxl
                · omega
                · rw [hxl]; simp; omega) j2
              refine ⟨_, _, _, hrun, g1, ⟨ad, cap, rfl, hroom, ?_⟩, g3, g4, New.set (kill_none (H.add_none hadd)) _⟩
              rcases hor' with ⟨he, hro⟩ | ⟨h0, h0'⟩
              · exact .inr ⟨_, g2, he, by simp only; omega⟩
              · exact .inl ⟨by omega, h0'⟩
            · -- a new row
              have hrun := run_append_grow_src (P := C.P) w t tx ty el i zz hu hi hzz (some ad) n cap ys (by rw [hsz, ← hz]; exact q7 _ _ rfl) x m xs hsrc (by omega) (by omega) (by
                rw [hby]
                exact Nat.le_trans (Nat.mul_le_mul_right _ (nextslicecap_le (by omega))) hfit)
              generalize hg : grownCap w (n + m) cap el = cap' at hrun
              have hgc : n + m ≤ cap' := by rw [← hg]; show n + m ≤ n + m + _; omega
              obtain ⟨b1, b2⟩ := BR_of_cells (ρ := ρ) j1 j3 j4 j2 (cs := ((ys ++ xs).toArray ++ Builtin.zeroCells zz.cells (cap' - (n + m)))) (base := 0) (fun j hj => by
                rw [Nat.zero_add, Array.getElem?_append_left (by simpa using hj)]; simp)
              have hzs : (Builtin.zeroCells zz.cells (cap' - (n + m))).size = (cap' - (n + m)) * z := by simp [Builtin.zeroCells, hzc, hz]
              obtain ⟨g1, g2, g3, g4⟩ := add_sound (hH.kill (b := b) (by rw [hbb]; rfl)) hadd (ty := el) (fz := (0, 0)) b1 (by rw [b2]; simp) j2 (.inl (Nat.le_refl _)) (w' := w.drew.alloc (.cells ((ys ++ xs).toArray ++ Builtin.zeroCells zz.cells (cap' - (n + m))) el)) rfl rfl rfl rfl
              refine ⟨_, _, _, hrun, g1, ⟨_, cap', rfl, hgc, .inr ⟨_, g2, rfl, ?_⟩⟩, g3, g4, New.set (kill_none (H.add_none hadd)) _⟩
              have : (n + m) * z + (cap' - (n + m)) * z = cap' * z := by rw [← Nat.add_mul]; congr 1; omega
              have h2 : (n + m) * z = n * z + m * z := Nat.add_mul _ _ _
              simp only [Array.size_append, List.size_toArray, hzs, List.length_append, s1, q1]
              omega
          · cases e
        · cases e
      · cases e
    · cases e
  · cases e
end
end Ev
end Go
