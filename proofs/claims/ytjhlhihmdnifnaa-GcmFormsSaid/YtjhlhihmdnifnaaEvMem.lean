/- Reading and writing the memory that a block stands for. -/
import Derived.Test.YtjhlhihmdnifnaaEvRel
import Derived.Laws.IdiomCopy
import Derived.Laws.Cells
import Derived.Laws.World
set_option linter.unusedVariables false
namespace Go
namespace Ev

theorem VRs.length {ρ : Ren} : ∀ {l : List V} {m : List Value}, VRs ρ l m → m.length = len l
  | [], m, h => by rw [show m = [] from h]; rfl
  | a :: l, m, h => by obtain ⟨b, r, rfl, _, h2⟩ := h; simp [len, VRs.length h2]

theorem VRs.get {ρ : Ren} : ∀ {l : List V} {m : List Value}, VRs ρ l m → ∀ i v, nth l i = some v → ∃ x, m[i]? = some x ∧ VR ρ v x
  | [], m, h, i, v, hv => by simp [nth] at hv
  | a :: l, m, h, 0, v, hv => by obtain ⟨b, r, rfl, h1, h2⟩ := h; cases hv; exact ⟨b, rfl, h1⟩
  | a :: l, m, h, i + 1, v, hv => by
    obtain ⟨b, r, rfl, h1, h2⟩ := h
    obtain ⟨x, e, h3⟩ := VRs.get h2 i v hv
    exact ⟨x, by simpa using e, h3⟩

theorem VRs.of {ρ : Ren} : ∀ {l : List V} {m : List Value}, m.length = len l → (∀ i v x, nth l i = some v → m[i]? = some x → VR ρ v x) → VRs ρ l m
  | [], m, h, _ => List.eq_nil_of_length_eq_zero h
  | a :: l, [], h, _ => by simp [len] at h
  | a :: l, b :: m, h, hg => ⟨b, m, rfl, hg 0 a b rfl rfl, VRs.of (by simpa [len] using h) fun i v x hv hx => hg (i + 1) v x hv (by simpa using hx)⟩

theorem unints_VRs {ρ : Ren} {k : IntKind} : ∀ {l : List V} {ns : List Int} {m : List Value}, unints k l = some ns → VRs ρ l m → m = ns.map (Value.int k) ∧ ∀ n ∈ ns, fit k n = true
  | [], ns, m, h, hm => by cases h; exact ⟨hm, by simp⟩
  | a :: l, ns, m, h, hm => by
    cases a <;> simp only [unints, reduceCtorEq] at h
    rename_i k' n
    by_cases hk : k' = k
    · subst hk
      simp only [decide_true, cond_true] at h
      cases hu : unints k' l with
      | none => simp [hu] at h
      | some r =>
        simp only [hu, Option.some.injEq] at h
        subst h
        obtain ⟨b, r', rfl, h1, h2⟩ := hm
        obtain ⟨e1, e2⟩ := unints_VRs hu h2
        obtain ⟨rfl, hf⟩ := h1
        exact ⟨by simp [e1], by simpa using ⟨hf, e2⟩⟩
    · simp [hk] at h

theorem pack_VR {ρ : Ren} {l : List V} {m : List Value} (h : VRs ρ l m) : VR ρ (pack l) (.agg ⟨m⟩) := by
  have hd : VR ρ (.agg l) (.agg ⟨m⟩) := ⟨m, rfl, h⟩
  unfold pack
  split
  · rename_i k n r
    split
    · rename_i ns hn
      obtain ⟨b, r', rfl, h1, h2⟩ := h
      obtain ⟨e1, e2⟩ := unints_VRs hn h2
      obtain ⟨rfl, hf⟩ := h1
      exact ⟨by simp [e1], by simpa using ⟨hf, e2⟩⟩
    · exact hd
  · exact hd

theorem mapInt_VRs {ρ : Ren} {k : IntKind} : ∀ {l : List Int}, (∀ n ∈ l, fit k n = true) → VRs ρ (mapInt k l) (l.map (Value.int k))
  | [], _ => rfl
  | n :: l, h => ⟨_, _, rfl, ⟨rfl, h n (by simp)⟩, mapInt_VRs fun m hm => h m (by simp [hm])⟩

/-- The cells of a value, for the machine too. -/
theorem cellsV_VR {ρ : Ren} {v : V} {x : Value} {m : List V} (h : VR ρ v x) (e : cellsV v = some m) : VRs ρ m x.cells.toList := by
  have sc : ∀ {v : V} {x : Value}, VR ρ v x → x.cells = #[x] → VRs ρ [v] x.cells.toList := fun h hx => by rw [hx]; exact ⟨_, _, rfl, h, rfl⟩
  cases v <;> simp only [cellsV, one, cond_true, cond_false, Option.some.injEq, reduceCtorEq] at e <;> subst e
  case agg l => obtain ⟨m, rfl, h2⟩ := h; exact h2
  case ints k l => obtain ⟨rfl, h2⟩ := h; exact mapInt_VRs h2
  case bool b => exact sc h (by rw [show x = _ from h]; rfl)
  case int k n => exact sc h (by rw [h.1]; rfl)
  case str l => exact sc h (by rw [show x = _ from h]; rfl)
  case ptr b o => exact sc h (by obtain ⟨r, _, rfl⟩ := h; rfl)
  case nilptr => exact sc h (by rw [show x = _ from h]; rfl)
  case slice b o n z => exact sc h (by obtain ⟨a, cap, rfl, _⟩ := h; rfl)
  case nilslice => exact sc h (by rw [show x = _ from h]; rfl)
  case fn f => exact sc h (by rw [show x = _ from h]; rfl)
  case iface t v => exact sc h (by obtain ⟨y, rfl, _⟩ := h; rfl)
  case nilIface => exact sc h (by rw [show x = _ from h]; rfl)

theorem one_oneCell {ρ : Ren} {v : V} {x : Value} (h : VR ρ v x) (e : one v = true) : x.oneCell' = true := by
  cases v <;> simp only [one, reduceCtorEq, Bool.false_eq_true] at e
  case bool b => rw [show x = _ from h]; rfl
  case int k n => rw [h.1]; rfl
  case str l => rw [show x = _ from h]; rfl
  case ptr b o => obtain ⟨r, _, rfl⟩ := h; rfl
  case nilptr => rw [show x = _ from h]; rfl
  case slice b o n z => obtain ⟨a, cap, rfl, _⟩ := h; rfl
  case nilslice => rw [show x = _ from h]; rfl
  case fn f => rw [show x = _ from h]; rfl
  case iface t v => obtain ⟨y, rfl, _⟩ := h; rfl
  case nilIface => rw [show x = _ from h]; rfl

theorem allOne_get : ∀ {l : List V}, allOne l = true → ∀ i v, nth l i = some v → one v = true
  | [], _, i, v, hv => by simp [nth] at hv
  | a :: l, h, 0, v, hv => by cases hv; simp only [allOne] at h; cases ha : one a <;> simp_all
  | a :: l, h, i + 1, v, hv => allOne_get (l := l) (by simp only [allOne] at h; cases ha : one a <;> simp_all) i v hv

theorem allOne_mapInt (k : IntKind) (m : List Int) : allOne (mapInt k m) = true := by
  induction m with
  | nil => rfl
  | cons n m ih => simpa [mapInt, allOne, one] using ih

theorem Loc.at_add (r : Loc) (o j : Nat) : (r.at o).add j = r.at (o + j) := by
  unfold Addr.add Loc.at
  split
  · rename_i h; simp [h]
  · simp [Nat.add_assoc]

theorem cell_of {w : World} {r : Loc} {cs : Array Value} {ty : TypeId} {fz : Nat × Nat} (h : w.heap[r.blk]? = some (.cells cs ty fz)) (o : Nat) : w.cell? (r.at o) = cs[r.base + o]? := by
  simp [World.cell?, Loc.at, h]

theorem ble_true {a b : Nat} : Nat.ble a b = true ↔ a ≤ b := by rw [Nat.ble_eq]
theorem blt_true {a b : Nat} : Nat.blt a b = true ↔ a < b := by unfold Nat.blt; rw [Nat.ble_eq]; exact Iff.rfl
theorem beq_true {a b : Nat} : Nat.beq a b = true ↔ a = b := by rw [Nat.beq_eq]

/-- A block's cells, one by one. -/
theorem BR.cell {ρ : Ren} {b : Blk} {cs : Array Value} {base : Nat} (h : BR ρ b cs base) : ∀ i, i < b.size → ∃ x, cs[base + i]? = some x ∧ x.oneCell' = true := by
  intro i hi
  cases b with
  | vals l =>
    simp only [Blk.size, len_eq] at hi
    obtain ⟨o, x, h1, h2⟩ := h i l[i] (by rw [nth_eq]; simp [hi])
    exact ⟨x, h1, one_oneCell h2 o⟩
  | ints k l => exact ⟨_, (h i hi).1, rfl⟩
  | dead => simp [Blk.size] at hi

section
variable {own : Nat → Prop} {ρ : Ren} {h : H} {w : World}

theorem rd1_sound (hH : HR own ρ h w) {b o : Nat} {v : V} {r : Loc} (hr : ρ b = some r) (e : h.rd1 b o = some (v, true)) :
    ∃ x, w.cell? (r.at o) = some x ∧ VR ρ v x ∧ one v = true := by
  unfold H.rd1 at e
  split at e
  · rename_i k l hb
    simp only [Option.some.injEq, Prod.mk.injEq, blt_true] at e
    obtain ⟨rfl, ho⟩ := e
    obtain ⟨r', cs, ty, fz, h1, h2, _, h4, _⟩ := hH.blk b _ hb rfl
    rw [hr] at h1; cases h1
    obtain ⟨h5, h6⟩ := h4 o ho
    exact ⟨_, by rw [cell_of h2, h5], ⟨rfl, h6⟩, rfl⟩
  · rename_i l hb
    split at e
    · rename_i v' hv
      cases e
      obtain ⟨r', cs, ty, fz, h1, h2, _, h4, _⟩ := hH.blk b _ hb rfl
      rw [hr] at h1; cases h1
      obtain ⟨h7, x, h5, h6⟩ := h4 o _ hv
      exact ⟨x, by rw [cell_of h2, h5], h6, h7⟩
    · cases e
  · cases e

theorem nth_sub (l : List V) (o n i : Nat) (hi : i < n) : nth (tk (drp l o) n) i = nth l (o + i) := by
  rw [nth_eq, nth_eq, tk_eq, drp_eq, List.getElem?_take, if_pos hi, List.getElem?_drop]

theorem gdN_eq : ∀ (n : Nat) (l : List Int) (o : Nat), o + n ≤ l.length → gdN l o n = tk (drp l o) n
  | 0, l, o, _ => by rw [tk_eq]; rfl
  | n + 1, l, o, h => by
    show gd l o :: gdN l (o + 1) n = _
    rw [gdN_eq n l (o + 1) (by omega), tk_eq, tk_eq, drp_eq, drp_eq, gd_eq, List.drop_eq_getElem_cons (show o < l.length by omega), List.take_succ_cons]
    simp [show o < l.length by omega]
theorem rdN_sound (hH : HR own ρ h w) {b o n : Nat} {v : V} {r : Loc} (hr : ρ b = some r) (e : h.rdN b o n = some (v, true)) :
    ∃ xs : List Value, xs.length = n ∧ (∀ j x, xs[j]? = some x → w.cell? ((r.at o).add j) = some x) ∧ VR ρ v (.agg ⟨xs⟩) := by
  unfold H.rdN at e
  split at e
  · rename_i k l hb
    simp only [Option.some.injEq, Prod.mk.injEq, andr_true, ble_true, blt_true] at e
    obtain ⟨rfl, ho, _⟩ := e
    obtain ⟨r', cs, ty, fz, h1, h2, _, h4, _⟩ := hH.blk b _ hb rfl
    rw [hr] at h1; cases h1
    rw [len_eq] at ho
    rw [gdN_eq n l o ho]
    refine ⟨((l.drop o).take n).map (Value.int k), by simp; omega, fun j x hx => ?_, ?_⟩
    · rw [Loc.at_add, cell_of h2]
      have hj : j < n := by
        have := (List.getElem?_eq_some_iff.1 hx).1
        simp at this; omega
      have h5 := (h4 (o + j) (by rw [len_eq]; omega)).1
      rw [h5, ← hx, gd_eq]
      simp [List.getElem?_take, hj, List.getElem?_drop, show o + j < l.length by omega]
    · rw [tk_eq, drp_eq]
      refine ⟨rfl, fun m hm => ?_⟩
      obtain ⟨j, hj⟩ := List.mem_iff_getElem?.1 (List.mem_of_mem_drop (List.mem_of_mem_take hm))
      have hjl := (List.getElem?_eq_some_iff.1 hj).1
      have := (h4 j (by rw [len_eq]; exact hjl)).2
      rwa [gd_eq, hj] at this
  · rename_i l hb
    simp only [Option.some.injEq, Prod.mk.injEq, ble_true] at e
    obtain ⟨rfl, ho⟩ := e
    obtain ⟨r', cs, ty, fz, h1, h2, _, h4, _⟩ := hH.blk b _ hb rfl
    rw [hr] at h1; cases h1
    rw [len_eq] at ho
    have hg : ∀ j, j < n → ∃ x, w.cell? ((r.at o).add j) = some x ∧ ∀ v, nth l (o + j) = some v → VR ρ v x := by
      intro j hj
      obtain ⟨_, x, h5, h6⟩ := h4 (o + j) l[o + j] (by rw [nth_eq]; simp [show o + j < l.length by omega])
      refine ⟨x, by rw [Loc.at_add, cell_of h2, h5], fun v hv => ?_⟩
      rw [nth_eq, List.getElem?_eq_getElem (by omega)] at hv
      cases hv; exact h6
    let f : Nat → Value := fun j => (w.cell? ((r.at o).add j)).getD undef
    refine ⟨(List.range n).map f, by simp, fun j x hx => ?_, pack_VR (VRs.of (by rw [len_eq, tk_eq, drp_eq]; simp; omega) fun i v x hv hx => ?_)⟩
    · have hj : j < n := by simpa using (List.getElem?_eq_some_iff.1 hx).1
      obtain ⟨y, hy, _⟩ := hg j hj
      simp [hj, f, hy] at hx
      rw [hy, hx]
    · have hi : i < n := by simpa using (List.getElem?_eq_some_iff.1 hx).1
      obtain ⟨y, hy, h7⟩ := hg i hi
      simp [hi, f, hy] at hx
      rw [nth_sub l o n i hi] at hv
      exact hx ▸ h7 v hv
  · cases e
end

/-! Stores -/
theorem setCells_at {b : Nat} {ty : TypeId} {fz : Nat × Nat} : ∀ (vs : List Value) (o : Nat) (w : World) (cs : Array Value), w.heap[b]? = some (.cells cs ty fz) → o + vs.length ≤ cs.size →
    ∃ cs', (w.setCells b o vs).heap[b]? = some (.cells cs' ty fz) ∧ cs'.size = cs.size ∧ (∀ j, cs'[j]? = if o ≤ j ∧ j < o + vs.length then vs[j - o]? else cs[j]?) ∧
      (∀ k, k ≠ b → (w.setCells b o vs).heap[k]? = w.heap[k]?) ∧ (w.setCells b o vs).os = w.os ∧ (w.setCells b o vs).tape = w.tape ∧ (w.setCells b o vs).output = w.output ∧ (w.setCells b o vs).heap.size = w.heap.size
  | [], o, w, cs, h, hl => ⟨cs, h, rfl, fun j => by rw [if_neg (by simp only [List.length_nil]; omega)], fun k hk => rfl, rfl, rfl, rfl, rfl⟩
  | v :: r, o, w, cs, h, hl => by
    simp only [List.length_cons] at hl
    have hb : b < w.heap.size := (Array.getElem?_eq_some_iff.1 h).1
    have h' : (w.setCell ⟨b, o, none⟩ v).heap[b]? = some (.cells (cs.setIfInBounds o v) ty fz) := by
      simp [World.setCell, Array.getElem?_modify, h]
    obtain ⟨cs', h1, h2, h3, h4, h5, h6, h7, h8⟩ := setCells_at r (o + 1) _ _ h' (by simp; omega)
    refine ⟨cs', h1, by simpa using h2, fun j => ?_, fun k hk => ?_, h5, h6, h7, by rw [World.setCells, h8]; simp⟩
    · rw [h3 j]
      by_cases hj : o + 1 ≤ j ∧ j < o + 1 + r.length
      · rw [if_pos hj, if_pos (by simp; omega), show j - o = (j - (o + 1)) + 1 by omega]; simp
      · rw [if_neg hj]
        by_cases he : j = o
        · subst he; rw [if_pos (by simp)]; simp [show j < cs.size by omega]
        · rw [if_neg (by simp; omega), Array.getElem?_setIfInBounds_ne (by omega)]
    · rw [World.setCells, h4 k hk]
      simp only [World.setCell, Array.getElem?_modify]
      rw [if_neg (by simpa using fun e => hk e.symm)]

/-- A block that is another one with a part written over. -/
def Spliced (ρ : Ren) (o : Nat) (xs : List Value) (b b' : Blk) : Prop := match b, b' with
  | .vals l, .vals l' => ∃ m, l' = spl l o m ∧ VRs ρ m xs ∧ allOne m = true
  | .ints k l, .ints k' l' => k' = k ∧ ∃ m, l' = spl l o m ∧ xs = m.map (Value.int k) ∧ ∀ n ∈ m, fit k n = true
  | _, _ => False

/-- Part of a block is written: what the block then stands for. -/
theorem BR.splice {ρ : Ren} {b b' : Blk} {cs cs' : Array Value} {base o : Nat} {xs : List Value} (h : BR ρ b cs base) (hs : b'.size = b.size) (ho : o + xs.length ≤ b.size)
    (hk : Spliced ρ o xs b b')
    (hc : ∀ j, cs'[j]? = if base + o ≤ j ∧ j < base + o + xs.length then xs[j - (base + o)]? else cs[j]?) : BR ρ b' cs' base := by
  cases b with
  | dead => cases b' <;> exact hk.elim
  | vals l =>
    cases b' <;> try exact hk.elim
    rename_i l'
    obtain ⟨m, rfl, hm, h1⟩ := hk
    simp only [Blk.size, len_eq] at ho
    have hml := hm.length
    rw [len_eq] at hml
    intro i v hv
    rw [nth_eq, spl, app_eq, app_eq, tk_eq, drp_eq, len_eq] at hv
    rw [hc]
    by_cases c1 : i < o
    · rw [List.getElem?_append_left (by simp; omega), List.getElem?_take, if_pos c1, ← nth_eq] at hv
      rw [if_neg (by omega)]
      exact h i v hv
    · rw [List.getElem?_append_right (by simp; omega)] at hv
      simp only [List.length_take, Nat.min_eq_left (show o ≤ l.length by omega)] at hv
      by_cases c2 : i < o + m.length
      · rw [List.getElem?_append_left (by omega), ← nth_eq] at hv
        rw [if_pos (by omega), show base + i - (base + o) = i - o by omega]
        exact ⟨allOne_get h1 _ _ hv, hm.get _ _ hv⟩
      · rw [List.getElem?_append_right (by omega), List.getElem?_drop, show o + m.length + (i - o - m.length) = i by omega, ← nth_eq] at hv
        rw [if_neg (by omega)]
        exact h i v hv
  | ints k l =>
    cases b' <;> try exact hk.elim
    rename_i k' l'
    obtain ⟨rfl, m, rfl, rfl, hf⟩ := hk
    simp only [Blk.size, len_eq, List.length_map] at ho hs hc
    intro i hi
    rw [len_eq] at hi
    have hg := h i (by rw [len_eq]; omega)
    rw [hc, gd_eq, spl, app_eq, app_eq, tk_eq, drp_eq, len_eq]
    by_cases c1 : i < o
    · rw [List.getElem?_append_left (by simp; omega), List.getElem?_take, if_pos c1, ← gd_eq, if_neg (by omega)]
      exact hg
    · rw [List.getElem?_append_right (by simp; omega)]
      simp only [List.length_take, Nat.min_eq_left (show o ≤ l.length by omega)]
      by_cases c2 : i < o + m.length
      · rw [List.getElem?_append_left (by omega), if_pos (by omega), show base + i - (base + o) = i - o by omega]
        have : i - o < m.length := by omega
        simp [this]
        exact hf _ (List.getElem_mem _)
      · rw [List.getElem?_append_right (by omega), List.getElem?_drop, show o + m.length + (i - o - m.length) = i by omega, ← gd_eq, if_neg (by omega)]
        exact hg

theorem set1_spl {α : Type} (l : List α) (o : Nat) (x : α) (h : o < l.length) : set1 l o x = spl l o [x] := by
  rw [set1_eq, spl, app_eq, app_eq, tk_eq, drp_eq]
  simp [len, List.set_eq_take_append_cons_drop, h]

theorem spl_len {α : Type} (l : List α) (o : Nat) (m : List α) (h : o + m.length ≤ l.length) : len (spl l o m) = len l := by
  rw [len_eq, len_eq, spl, app_eq, app_eq, tk_eq, drp_eq, len_eq]
  simp; omega

/-- What a store makes of the block. -/
theorem wr_shape {h h' : H} {b o : Nat} {v : V} {m : List V} {ρ : Ren} {xs : List Value} (e : h.wr b o v = some (h', true)) (hm : cellsV v = some m) (hx : VRs ρ m xs) :
    ∃ k k', h.bs.get b = some k ∧ k.live = true ∧ h' = h.upd b k' ∧ k'.live = true ∧ k'.size = k.size ∧ o + xs.length ≤ k.size ∧ (∀ x ∈ xs, x.oneCell' = true) ∧
      Spliced ρ o xs k k' := by
  have hxl := hx.length
  have oneL : allOne m = true → ∀ x ∈ xs, x.oneCell' = true := fun ha x hxm => by
    obtain ⟨i, hi⟩ := List.mem_iff_getElem?.1 hxm
    have hil := (List.getElem?_eq_some_iff.1 hi).1
    rw [hxl, len_eq] at hil
    obtain ⟨y, hy, hv⟩ := hx.get i m[i] (by rw [nth_eq]; simp [hil])
    rw [hi] at hy; cases hy
    exact one_oneCell hv (allOne_get ha i _ (by rw [nth_eq]; simp [hil]))
  unfold H.wr at e
  split at e
  · rename_i k l k' n hb
    simp only [cellsV, one, cond_true, Option.some.injEq] at hm
    subst hm
    by_cases hk : k' = k
    · subst hk
      simp only [decide_true, cond_true, Option.some.injEq, Prod.mk.injEq, blt_true] at e
      obtain ⟨rfl, ho⟩ := e
      rw [len_eq] at ho
      obtain ⟨x, r, rfl, ⟨rfl, hf⟩, hr⟩ := hx
      cases hr
      exact ⟨_, .ints k' (set1 l o n), hb, rfl, rfl, rfl, by simp [Blk.size, len_eq, set1_eq], by simp [Blk.size, len_eq]; omega, by simp [Value.oneCell'], rfl, [n], set1_spl l o n ho, rfl, by simpa using hf⟩
    · simp [hk] at e
  · rename_i k l k' m' hb
    simp only [cellsV, Option.some.injEq] at hm
    subst hm
    by_cases hk : k' = k
    · subst hk
      simp only [decide_true, cond_true, Option.some.injEq, Prod.mk.injEq, ble_true] at e
      obtain ⟨rfl, ho⟩ := e
      rw [len_eq, len_eq] at ho
      have hxs : xs = m'.map (Value.int k') ∧ ∀ n ∈ m', fit k' n = true := by
        clear ho hxl oneL hb
        induction m' generalizing xs with
        | nil => exact ⟨hx, by simp⟩
        | cons n m' ih =>
          obtain ⟨x, r, rfl, ⟨rfl, hf⟩, hr⟩ := hx
          obtain ⟨e1, e2⟩ := ih hr
          exact ⟨by simp [e1], by simpa using ⟨hf, e2⟩⟩
      obtain ⟨rfl, hf⟩ := hxs
      exact ⟨_, .ints k' (spl l o m'), hb, rfl, rfl, rfl, by simp only [Blk.size]; exact spl_len l o m' ho, by simpa [Blk.size, len_eq] using ho, by simp [Value.oneCell'], rfl, m', rfl, rfl, hf⟩
    · simp [hk] at e
  · rename_i l k' m' hb
    simp only [cellsV, Option.some.injEq] at hm
    subst hm
    simp only [Option.some.injEq, Prod.mk.injEq, ble_true] at e
    obtain ⟨rfl, ho⟩ := e
    rw [len_eq, len_eq] at ho
    rw [len_eq, mapInt_eq, List.length_map] at hxl
    have ha : allOne (mapInt k' m') = true := allOne_mapInt k' m'
    exact ⟨_, .vals (spl l o (mapInt k' m')), hb, rfl, rfl, rfl, by simp only [Blk.size]; exact spl_len l o _ (by rw [mapInt_eq]; simpa using ho), by simp only [Blk.size, len_eq]; omega, oneL ha, _, rfl, hx, ha⟩
  · rename_i l m' hb
    simp only [cellsV, Option.some.injEq] at hm
    subst hm
    cases ha : allOne m' with
    | false => simp [ha] at e
    | true =>
      simp only [ha, cond_true, Option.some.injEq, Prod.mk.injEq, ble_true] at e
      obtain ⟨rfl, ho⟩ := e
      rw [len_eq, len_eq] at ho
      rw [len_eq] at hxl
      exact ⟨_, .vals (spl l o m'), hb, rfl, rfl, rfl, by simp only [Blk.size]; exact spl_len l o _ ho, by simp only [Blk.size, len_eq]; omega, oneL ha, _, rfl, hx, ha⟩
  · rename_i v x0 v1 l hb h1 h2
    cases ho : one v with
    | false => simp [ho] at e
    | true =>
      have hm' : m = [v] := by
        cases v <;> simp_all [cellsV, one]
      subst hm'
      simp only [ho, cond_true, Option.some.injEq, Prod.mk.injEq, blt_true] at e
      obtain ⟨rfl, hl⟩ := e
      rw [len_eq] at hl
      have hxl' : xs.length = 1 := by rw [hxl]; rfl
      exact ⟨_, .vals (set1 l o v), hb, rfl, rfl, rfl, by simp [Blk.size, len_eq, set1_eq], by simp only [Blk.size, len_eq]; omega, oneL (by simp [allOne, ho]), [v], set1_spl l o v hl, hx, by simp [allOne, ho]⟩
  · cases e

theorem Tr.get_put {α : Type} (t : Tr α) (k j : Nat) (x y : α) (h : (t.put k (some x)).get j = some y) : (j = k ∧ y = x) ∨ (j ≠ k ∧ t.get j = some y) := by
  by_cases e : j = k
  · subst e
    have := Tr.get_put_same t _ _ _ h
    cases this
    exact .inl ⟨rfl, rfl⟩
  · rw [Tr.get_put_ne t _ _ _ (Ne.symm e)] at h
    exact .inr ⟨e, h⟩

theorem Tr.put_none {α : Type} (t : Tr α) (k j : Nat) (x : α) (hk : (t.get k).isSome = true) (h : (t.put k (some x)).get j = none) : j ≠ k → t.get j = none := by
  intro e
  rwa [Tr.get_put_ne t _ _ _ (Ne.symm e)] at h

theorem Tr.get_put_some {α : Type} (t : Tr α) : ∀ (k : Nat) (x : Option α), (t.get k).isSome = true → (t.put k x).get k = x := by
  induction t with
  | e => intro k x h; simp [Tr.get_e] at h
  | n v l r ihl ihr =>
    intro k x h
    cases k with
    | zero => rfl
    | succ k =>
      rw [Tr.get_succ] at h
      rw [Tr.put_succ]
      cases hb : Nat.beq (Nat.land k 1) 0
      · rw [hb, cond_false] at h; rw [cond_false, Tr.get_succ, hb, cond_false]; exact ihr _ _ h
      · rw [hb, cond_true] at h; rw [cond_true, Tr.get_succ, hb, cond_true]; exact ihl _ _ h

section
variable {own : Nat → Prop} {ρ : Ren} {h : H} {w : World}

theorem wr_sound (hH : HR own ρ h w) {b o : Nat} {v : V} {m : List V} {xs : List Value} {h' : H} {r : Loc} (hr : ρ b = some r) (hm : cellsV v = some m) (hx : VRs ρ m xs) (e : h.wr b o v = some (h', true)) :
    ∃ w', (∀ P : Program, (storeCells (r.at o) xs 0).run P w = .ok () w') ∧ HR own ρ h' w' ∧ Frm own w w' := by
  obtain ⟨k, k', hb, hlive, rfl, hlive', hsize, ho, hone, hk⟩ := wr_shape e hm hx
  obtain ⟨r', cs, ty, fz, h1, h2, h3, h4, h5, h6, h7⟩ := hH.blk b k hb hlive
  rw [hr] at h1; cases h1
  obtain ⟨cs', g1, g2, g3, g4, g5, g6, g7, g8⟩ := setCells_at (b := r.blk) xs (r.base + o) w cs h2 (by omega)
  refine ⟨w.setCells r.blk (r.base + o) xs, fun P => ?_, ?_, ⟨g5, g6, g7, Nat.le_of_eq g8.symm, fun i hi => g4 i fun e => hi (e ▸ h3)⟩⟩
  · have := run_storeCells_cells (P := P) r.blk (r.base + o) xs 0 w (fun j hj => by
      obtain ⟨x, hx, _⟩ := h4.cell (o + j) (by omega)
      simp only [Nat.add_zero]
      rw [show (⟨r.blk, r.base + o + j, none⟩ : Addr) = r.at (o + j) by simp [Loc.at, Nat.add_assoc], cell_of h2, hx]; rfl)
      (fun j hj => by
        simp only [Nat.add_zero, World.frozen?, h2]
        rcases h7 with h7 | h7
        · simp; omega
        · simp; omega) hone
    simpa [Loc.at] using this
  · refine ⟨fun i b' hi hl => ?_, fun i j b1 c1 r1 s1 hi hl hj hl' hr1 hs1 he => ?_, fun i hi => ?_, fun i hi => hH.own i (by rw [g8] at hi; exact hi)⟩
    · rcases Tr.get_put _ _ _ _ _ hi with ⟨rfl, rfl⟩ | ⟨hne, hi'⟩
      · exact ⟨r, cs', ty, fz, hr, g1, h3, BR.splice h4 hsize ho hk g3, by rw [hsize]; exact h5, by rw [g2]; exact h6, by rw [g2]; exact h7⟩
      · obtain ⟨s, ds, ty', fz', e1, e2, e3, e4, e5, e6, e7⟩ := hH.blk i b' hi' hl
        refine ⟨s, ds, ty', fz', e1, ?_, e3, e4, e5, e6, e7⟩
        rw [g4 s.blk fun he => hne (hH.inj i b b' k s r hi' hl hb hlive e1 hr he)]
        exact e2
    · have old : ∀ i b1, (h.upd b k').bs.get i = some b1 → b1.live = true → ∃ c, h.bs.get i = some c ∧ c.live = true := fun i b1 hi hl => by
        rcases Tr.get_put _ _ _ _ _ hi with ⟨rfl, rfl⟩ | ⟨hne, hi'⟩
        · exact ⟨k, hb, hlive⟩
        · exact ⟨b1, hi', hl⟩
      obtain ⟨b2, hi2, hl2⟩ := old i b1 hi hl
      obtain ⟨c2, hj2, hl2'⟩ := old j c1 hj hl'
      exact hH.inj i j b2 c2 r1 s1 hi2 hl2 hj2 hl2' hr1 hs1 he
    · refine hH.fresh i ?_
      by_cases e' : i = b
      · subst e'
        have : (h.bs.put i (some k')).get i = some k' := Tr.get_put_some _ _ _ (by rw [hb]; rfl)
        rw [show (h.upd i k').bs.get i = _ from this] at hi
        cases hi
      · rwa [show (h.upd b k').bs.get i = h.bs.get i from Tr.get_put_ne _ _ _ _ (Ne.symm e')] at hi

/-- A new block. -/
def Ren.set (ρ : Ren) (id : Nat) (l : Loc) : Ren := fun i => if i = id then some l else ρ i

theorem add_sound (hH : HR own ρ h w) {id : Nat} {b : Blk} {h' : H} (e : h.add id b = some h') {cs : Array Value} {ty : TypeId} {fz : Nat × Nat} (hb : BR ρ b cs 0) (hs : b.size ≤ cs.size)
    (hlive : b.live = true) (hfz : fz.2 ≤ fz.1 ∨ cs.size ≤ fz.1) {w' : World} (hw : w'.heap = w.heap.push (.cells cs ty fz)) (hos : w'.os = w.os) (htape : w'.tape = w.tape) (hout : w'.output = w.output) :
    ρ.le (ρ.set id ⟨w.heap.size, 0, cs.size⟩) ∧ (ρ.set id ⟨w.heap.size, 0, cs.size⟩) id = some ⟨w.heap.size, 0, cs.size⟩ ∧ HR own (ρ.set id ⟨w.heap.size, 0, cs.size⟩) h' w' ∧ Frm own w w' := by
  unfold H.add at e
  split at e
  · rename_i hnone
    split at e
    · rename_i y hy
      cases e
      have hid : ρ id = none := hH.fresh id hnone
      have hle : ρ.le (ρ.set id ⟨w.heap.size, 0, cs.size⟩) := fun i l hl => by
        unfold Ren.set
        split
        · rename_i he; subst he; rw [hid] at hl; cases hl
        · exact hl
      have hset : (ρ.set id ⟨w.heap.size, 0, cs.size⟩) id = some ⟨w.heap.size, 0, cs.size⟩ := by simp [Ren.set]
      have hother : ∀ i, i ≠ id → (ρ.set id ⟨w.heap.size, 0, cs.size⟩) i = ρ i := fun i hi => by simp [Ren.set, hi]
      have hold : ∀ k : Nat, k < w.heap.size → w'.heap[k]? = w.heap[k]? := fun k hk => by rw [hw, Array.getElem?_push, if_neg (by omega)]
      refine ⟨hle, hset, ⟨fun i b' hi hl => ?_, fun i j b1 c1 r1 s1 hi hl hj hl' hr1 hs1 he => ?_, fun i hi => ?_, fun i hi => hH.own i ?_⟩, ⟨hos, htape, hout, by rw [hw]; simp, fun i hi => ?_⟩⟩
      · rcases Tr.get_put _ _ _ _ _ hi with ⟨rfl, rfl⟩ | ⟨hne, hi'⟩
        · exact ⟨_, cs, ty, fz, hset, by rw [hw]; simp, hH.own _ (Nat.le_refl _), BR.mono hle hb, hs, by simp, hfz⟩
        · obtain ⟨s, ds, ty', fz', e1, e2, e3, e4, e5, e6, e7⟩ := hH.blk i b' hi' hl
          exact ⟨s, ds, ty', fz', by rw [hother i hne]; exact e1, by rw [hold _ (Array.getElem?_eq_some_iff.1 e2).1]; exact e2, e3, BR.mono hle e4, e5, e6, e7⟩
      · have blkOf : ∀ i b1 r1, (h.bs.put id (some b)).get i = some b1 → b1.live = true → (ρ.set id ⟨w.heap.size, 0, cs.size⟩) i = some r1 → (i = id ∧ r1.blk = w.heap.size) ∨ (i ≠ id ∧ h.bs.get i = some b1 ∧ ρ i = some r1 ∧ r1.blk < w.heap.size) := fun i b1 r1 hi hl hr => by
          rcases Tr.get_put _ _ _ _ _ hi with ⟨rfl, rfl⟩ | ⟨hne, hi'⟩
          · rw [hset] at hr; cases hr; exact .inl ⟨rfl, rfl⟩
          · rw [hother i hne] at hr
            obtain ⟨s, ds, ty', fz', e1, e2, _⟩ := hH.blk i b1 hi' hl
            rw [hr] at e1; cases e1
            exact .inr ⟨hne, hi', hr, (Array.getElem?_eq_some_iff.1 e2).1⟩
        rcases blkOf i b1 r1 hi hl hr1 with ⟨rfl, h1⟩ | ⟨n1, h1, h2, h3⟩ <;> rcases blkOf j c1 s1 hj hl' hs1 with ⟨rfl, k1⟩ | ⟨m1, k1, k2, k3⟩
        · rfl
        · omega
        · omega
        · exact hH.inj i j b1 c1 r1 s1 h1 hl k1 hl' h2 k2 he
      · by_cases e' : i = id
        · subst e'; rw [hi] at hy; cases hy
        · rw [hother i e']
          exact hH.fresh i (by rwa [show (h.bs.put id (some b)).get i = h.bs.get i from Tr.get_put_ne _ _ _ _ (Ne.symm e')] at hi)
      · rw [hw] at hi; simp at hi; omega
      · have : ¬ w.heap.size ≤ i := fun hge => hi (hH.own i hge)
        exact hold i (by omega)
    · cases e
  · cases e
end

end Ev
end Go
