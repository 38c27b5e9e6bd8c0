/- Each operation of the evaluator is the machine's: the fourth part. -/
import Derived.Test.YtjhlhihmdnifnaaEvOps3
import Derived.Laws.IdiomStrings
import Derived.Laws.BytesString
import Derived.Laws.BytesArg
set_option linter.unusedVariables false
namespace Go
namespace Ev
section
variable {C : Cfg} {own : Nat → Prop} {ρ : Ren} {fr : Fr} {a : Act} {h h' : H} {w : World} {v : V}

theorem opUn_sound (hF : FrR ρ fr a) (hH : HR own ρ h w) {op : UnOp} {x : Operand} (e : opUn fr h op x = some (v, h', true)) : SemOK C.P own ρ h w v h' (Op.unary op (a.eval x)) := by
  have hx := ev_VR hF x
  unfold opUn at e
  split at e
  · rename_i b hb
    rw [hb] at hx
    cases e
    rw [show a.eval x = .bool b from hx]
    exact SemOK.pure hH (y := .bool (!b)) rfl rfl
  · rename_i k n hb
    rw [hb] at hx
    obtain ⟨hx, hf⟩ := hx
    rw [hx]
    cases hk : sg k <;> simp only [hk, cond_true, cond_false, Option.some.injEq, Prod.mk.injEq, and_true] at e
    · obtain ⟨rfl, rfl⟩ := e
      obtain ⟨e1, h1⟩ := nn_of hk hf
      have hf' : fit k (Int.ofNat ((md k - nn n) % md k)) = true := by rw [fit_nat, hk]; exact Nat.mod_lt _ (by cases k <;> simp [md])
      refine SemOK.pure hH (y := .int k (Int.ofNat ((md k - nn n) % md k))) ?_ ⟨rfl, hf'⟩
      simp only [Op.unary, Op.intArith, Sem.run_pure]
      rw [wrap_unsigned hk]
      have : (0 - n) % (md k : Int) = (((md k - nn n) % md k : Nat) : Int) := by
        rw [Int.natCast_emod, Int.ofNat_sub (by omega), ← e1, show (md k : Int) - n = (0 - n) + md k by omega, Int.add_emod_right]
      rw [this]; rfl
    · obtain ⟨rfl, rfl, hf'⟩ := e
      refine SemOK.pure hH (y := .int k (Int.neg n)) ?_ ⟨rfl, hf'⟩
      simp only [Op.unary, Op.intArith, Sem.run_pure]
      rw [show 0 - n = Int.neg n by show 0 - n = -n; omega, wrap_fit hf']
  · rename_i k n hb
    rw [hb] at hx
    obtain ⟨hx, hf⟩ := hx
    rw [hx]
    cases e
    refine SemOK.pure hH (y := .int k (inot k n)) ?_ ⟨rfl, fit_inot k n⟩
    simp only [Op.unary, Op.intBits, Sem.run_pure]
    rw [xor_not]
  · cases e

theorem size_mk (l : List UInt8) : (ByteArray.mk ⟨l⟩).size = l.length := rfl

theorem toI_BR (ρ : Ren) (l : List UInt8) (cs : Array Value) (h : ∀ i, i < l.length → cs[i]? = (l[i]?).map fun b => Value.int .u8 b.toNat) : BR ρ (.ints .u8 (toI l)) cs 0 := by
  intro i hi
  rw [len_eq, toI_eq, List.length_map] at hi
  rw [gd_eq, toI_eq, Nat.zero_add, h i hi]
  have : l[i].toNat < 256 := l[i].toNat_lt
  simp [hi]
  rw [fit_iff]
  simp [sg, md]; omega

theorem Loc.at_zero (b n : Nat) : (⟨b, 0, n⟩ : Loc).at 0 = ⟨b, 0, none⟩ := rfl

theorem opConv_sound (hF : FrR ρ fr a) (hH : HR own ρ h w) {id s t : Nat} {x : Operand} (e : opConv C id fr h s t x = some (v, h', true)) (hs : (C.P.underlying s).isSome = true) :
    SemOK C.P own ρ h w v h' (convert s t (a.eval x)) := by
  have hx := ev_VR hF x
  obtain ⟨ds, hds⟩ := Option.isSome_iff_exists.1 hs
  have huds : und C s = ds := by simp [und, hds]
  unfold opConv at e
  split at e
  · rename_i k k0 n hu hb
    have hu := und_eq hu (by simp)
    rw [hb] at hx
    obtain ⟨hx, hf⟩ := hx
    rw [hx]
    split at e
    rename_i m ok hc
    simp only [Option.some.injEq, Prod.mk.injEq] at e
    obtain ⟨rfl, rfl, rfl⟩ := e
    obtain ⟨g1, g2⟩ := cvt_sound hf hc
    refine SemOK.pure hH (y := .int k m) ?_ ⟨rfl, g2⟩
    simp only [convert, Sem.run_bind, run_und hds, run_und hu, Result.andThen_ok]
    rw [← g1]
    rfl
  · rename_i el l hus hu hb
    have hu := und_eq hu (by simp)
    have hus := und_eq hus (by simp)
    rw [hb] at hx
    rw [show a.eval x = .string ⟨⟨l⟩⟩ from hx]
    split at e
    · rename_i hue
      have hue := und_eq hue (by simp)
      split at e
      · rename_i h1 hadd
        simp only [Option.some.injEq, Prod.mk.injEq, and_true] at e
        obtain ⟨rfl, rfl⟩ := e
        have hrun := run_bytes_of_string (P := C.P) w s t el ⟨⟨l⟩⟩ hus hu hue
        rw [size_mk] at hrun
        generalize hcap : grownCap w l.length 0 el = cap at hrun
        have hle : l.length ≤ cap := by rw [← hcap]; show l.length ≤ l.length + _; omega
        have hcs : (bytesRow ⟨⟨l⟩⟩ cap).size = cap := by simp [bytesRow, size_mk]; omega
        rw [hcs] at hrun
        have hget : ∀ i, i < l.length → (bytesRow ⟨⟨l⟩⟩ cap)[i]? = (l[i]?).map fun b => Value.int .u8 b.toNat := fun i hi => by
          simp only [bytesRow]
          rw [Array.getElem?_append_left (by simpa using hi)]
          simp
        obtain ⟨g1, g2, g3, g4⟩ := add_sound hH hadd (cs := bytesRow ⟨⟨l⟩⟩ cap) (ty := el) (fz := (cap, cap + 1)) (toI_BR ρ l _ hget) (by simp [Blk.size, len_eq, toI_eq, hcs, hle]) rfl (.inr (by simp [hcs]))
          (w' := w.drew.alloc (.cells (bytesRow ⟨⟨l⟩⟩ cap) el (cap, cap + 1))) rfl rfl rfl rfl
        exact ⟨.slice (some ⟨w.heap.size, 0, none⟩) l.length cap, _, _, hrun, g1, ⟨_, cap, by rw [len_eq]; rfl, by rw [len_eq]; exact hle, .inr ⟨_, g2, rfl, by simp [hcs]⟩⟩, g3, g4, New.set (H.add_none hadd) _⟩
      · cases e
    · cases e
  · rename_i el b o n z hus hu hb
    have hu := und_eq hu (by simp)
    have hus := und_eq hus (by simp)
    rw [hb] at hx
    obtain ⟨ad, cap, hx, hle, hor⟩ := hx
    rw [hx]
    split at e
    · rename_i l hue hbl
      have hue := und_eq hue (by simp)
      simp only [Option.some.injEq, Prod.mk.injEq, ble_true, len_eq] at e
      obtain ⟨rfl, rfl, hol⟩ := e
      have hlen : ((l.drop o).take n).length = n := by simp; omega
      have hld : (loadCells ad n).run C.P w = .ok (((l.drop o).take n).map (Value.int .u8)).toArray w := by
        rcases hor with ⟨h0, _⟩ | ⟨r, hr, rfl, _⟩
        · subst h0; simp [loadCells, loadCellsFrom]
        · obtain ⟨r', cs, ty, fz, h1, h2, _, h4, _⟩ := hH.blk b _ hbl rfl
          rw [hr] at h1; cases h1
          have := run_loadCells_list (P := C.P) w (r.at o) (((l.drop o).take n).map (Value.int .u8)) (fun j v hj => by
            rw [Loc.at_add, cell_of h2]
            have hjn : j < n := by have := (List.getElem?_eq_some_iff.1 hj).1; simp at this; omega
            rw [(h4 (o + j) (by rw [len_eq]; omega)).1, ← hj, gd_eq]
            simp [hjn, List.getElem?_drop, show o + j < l.length by omega])
          rw [List.length_map, hlen] at this
          exact this
      refine SemOK.pure hH (y := .string ⟨⟨ofI (tk (drp l o) n)⟩⟩) ?_ rfl
      rw [run_convert_bytes_string w s t el _ n cap hus hue hu, run_bytesToString w _ n cap _ hld, foldl_push_bytes, ofI_eq, tk_eq, drp_eq]
      congr 2
      have hfit : ∀ m ∈ (l.drop o).take n, nn m = m.toNat := fun m hm => by
        cases m with
        | ofNat q => rfl
        | negSucc q => rfl
      simp only [ByteArray.empty, ByteArray.emptyWithCapacity]
      congr 1
      apply Array.ext'
      simp only [Array.toList_append, List.nil_append]
      show List.map _ _ = _
      exact List.map_congr_left fun m hm => by rw [hfit m hm]
    · cases e
  · rename_i el hus hu hb
    have hu := und_eq hu (by simp)
    have hus := und_eq hus (by simp)
    rw [hb] at hx
    rw [show a.eval x = .slice none 0 0 from hx]
    split at e
    · rename_i hue
      have hue := und_eq hue (by simp)
      cases e
      exact SemOK.pure hH (y := .string .empty) (run_convert_bytes_nil w s el hus hue 0 0 t hu) rfl
    · cases e
  · rename_i l hus hu hb
    have hu := und_eq hu (by simp)
    have hus := und_eq hus (by simp)
    rw [hb] at hx
    rw [show a.eval x = .string ⟨⟨l⟩⟩ from hx]
    cases e
    refine SemOK.pure hH (y := .string ⟨⟨l⟩⟩) ?_ rfl
    simp only [convert, Sem.run_bind, run_und hus, run_und hu, Result.andThen_ok]
    rfl
  · cases e

theorem zero_of {t : Nat} {u : V} (hne : u ≠ .any) (e : zeroOf C t = u) : ∃ it z, C.P.info? t = some it ∧ it.zero = some z ∧ it.size = cellsOf C t ∧ it.bytes = C.P.bytesOf t ∧ VR ρ u z := by
  subst e
  unfold zeroOf at *
  split at hne
  · rename_i i hi
    split at hne
    · rename_i z hz
      exact ⟨i, z, hi, hz, by simp [cellsOf, Program.cellsOf, hi], by simp [Program.bytesOf, hi], by first | exact ofValue_VR ρ z | (simp only [hi, hz]; exact ofValue_VR ρ z)⟩
    · exact absurd rfl hne
  · exact absurd rfl hne

theorem madeCells_get (z : Array Value) (n i : Nat) (hi : i < n) (hz : 0 < z.size) : (madeCells z n)[i]? = z[i % z.size]? := by
  have := Nat.mod_lt i hz
  simp [madeCells, hi, this]

theorem flatten_get {α : Type} (l : List α) : ∀ (n i : Nat), i < n * l.length → ((List.replicate n l).flatten)[i]? = l[i % l.length]?
  | 0, i, h => by simp at h
  | n + 1, i, h => by
    have hl : 0 < l.length := by rcases Nat.eq_zero_or_pos l.length with h0 | h0; · rw [h0] at h; simp at h
                                 · exact h0
    rw [List.replicate_succ, List.flatten_cons]
    by_cases hi : i < l.length
    · rw [List.getElem?_append_left hi, Nat.mod_eq_of_lt hi]
    · have h' : i < n * l.length + l.length := by rw [← Nat.succ_mul]; exact h
      have hm : i % l.length = (i - l.length) % l.length := Nat.mod_eq_sub_mod (by omega)
      rw [List.getElem?_append_right (by omega), flatten_get l n (i - l.length) (by omega), hm]

theorem zeros_sound {n : Nat} {u : V} {z : Value} {b : Blk} (hz : VR ρ u z) (e : zeros rep n u = some b) (N : Nat) (hN : n * z.cells.size ≤ N) : BR ρ b (madeCells z.cells N) 0 ∧ b.size = n * z.cells.size ∧ b.live = true := by
  cases u <;> simp only [zeros, one, cond_true, cond_false, Option.some.injEq, reduceCtorEq] at e
  case int k m =>
    subst e
    obtain ⟨rfl, hf⟩ := hz
    refine ⟨fun i hi => ?_, by simp [Blk.size, len_eq, rep_eq, Value.cells], rfl⟩
    rw [len_eq, rep_eq, List.length_replicate] at hi
    rw [Nat.zero_add, madeCells_get _ _ _ (by simp [Value.cells] at hN hi; omega) (by simp [Value.cells]), gd_eq, rep_eq]
    simp [Value.cells, hi, Nat.mod_one, hf]
  case ints k l =>
    subst e
    obtain ⟨rfl, hf⟩ := hz
    refine ⟨fun i hi => ?_, by simp [Blk.size, len_eq, reps_eq, Value.cells], rfl⟩
    rw [len_eq, reps_eq] at hi
    simp only [List.length_flatten, List.map_replicate, List.sum_replicate_nat] at hi
    have hl : 0 < l.length := by rcases Nat.eq_zero_or_pos l.length with h0 | h0; · rw [h0] at hi; simp at hi
                                 · exact h0
    have hm := Nat.mod_lt i hl
    rw [Nat.zero_add, madeCells_get _ _ _ (by simp [Value.cells] at hN hi; omega) (by simpa [Value.cells] using hl), gd_eq, reps_eq, flatten_get l n i hi]
    simp only [Value.cells, List.size_toArray, List.length_map]
    simp [hm]
    exact hf _ (List.getElem_mem _)
  case agg l =>
    cases ha : allOne l <;> simp only [ha, cond_true, cond_false, reduceCtorEq, Option.some.injEq] at e
    subst e
    obtain ⟨m, rfl, hm⟩ := hz
    have hl := hm.length
    rw [len_eq] at hl
    refine ⟨fun i v hv => ?_, by simp [Blk.size, len_eq, reps_eq, Value.cells, hl], rfl⟩
    rw [nth_eq, reps_eq] at hv
    have hi := (List.getElem?_eq_some_iff.1 hv).1
    simp only [List.length_flatten, List.map_replicate, List.sum_replicate_nat] at hi
    have hlp : 0 < l.length := by rcases Nat.eq_zero_or_pos l.length with h0 | h0; · rw [h0] at hi; simp at hi
                                  · exact h0
    rw [flatten_get l n i hi, ← nth_eq] at hv
    obtain ⟨y, hy, hr⟩ := hm.get _ _ hv
    refine ⟨allOne_get ha _ _ hv, y, ?_, hr⟩
    rw [Nat.zero_add, madeCells_get _ _ _ (by simp [Value.cells, hl] at hN hi; omega) (by simpa [Value.cells, hl] using hlp)]
    simpa [Value.cells, hl] using hy
  all_goals
    subst e
    have hone : z.oneCell' = true := one_oneCell hz rfl
    have hc : z.cells = #[z] := by cases z <;> first | rfl | (simp [Value.oneCell'] at hone)
    refine ⟨fun i v hv => ?_, by simp [Blk.size, len_eq, rep_eq, hc], rfl⟩
    rw [nth_eq, rep_eq] at hv
    have hi := (List.getElem?_eq_some_iff.1 hv).1
    rw [List.length_replicate] at hi
    simp [hi] at hv
    subst hv
    refine ⟨rfl, z, ?_, hz⟩
    rw [Nat.zero_add, madeCells_get _ _ _ (by simp [hc] at hN; omega) (by simp [hc])]
    simp [hc, Nat.mod_one]

theorem opMake_sound (hF : FrR ρ fr a) (hH : HR own ρ h w) {id t : Nat} {l c : Operand} (e : opMake C id fr h t l c = some (v, h', true)) : SemOK C.P own ρ h w v h' (Instr.makeSlice t (a.eval l) (a.eval c)) := by
  have hl := ev_VR hF l
  have hc := ev_VR hF c
  unfold opMake at e
  split at e
  · rename_i el n m hu hbl hbc
    have hu := und_eq hu (by simp)
    rw [hbl] at hl
    rw [hbc] at hc
    obtain ⟨hl, fl⟩ := hl
    obtain ⟨hc, fc⟩ := hc
    rw [hl, hc]
    split at e
    · rename_i b z0 hz hz0
      split at e
      · rename_i h1 hadd
        simp only [Option.some.injEq, Prod.mk.injEq, andr_true, ble_true, beq_true] at e
        obtain ⟨rfl, rfl, ⟨hb, hnm⟩, hzl⟩ := e
        have hnm : n ≤ m := by
          cases hq : Nat.beq n m
          · rw [hq, cond_false, ble_true] at hnm; exact hnm
          · rw [beq_true] at hq; omega
        rw [C.rp.2] at hz
        have hne : zeroOf C el ≠ .any := fun hz' => by rw [hz'] at hz; simp [zeros, one] at hz
        obtain ⟨it, z, hi, hzz, hsz, hby, hv⟩ := zero_of (ρ := ρ) (C := C) hne rfl
        have hm63 : m < 9223372036854775808 := by rw [fit_nat] at fc; simpa [sg, md] using fc
        have hmake := run_make (P := C.P) w t el it z hu hi hzz .i64 .i64 (n : Int) (m : Int) (by omega) (by omega) (by rw [hby]; omega) (by omega)
        simp only [Int.toNat_natCast] at hmake
        have hcs : z.cells.size = it.size := by rw [cells_len hv hz0, hzl, hsz]
        have hle : n * z.cells.size ≤ m * it.size := by rw [hcs]; exact Nat.mul_le_mul_right _ hnm
        obtain ⟨z1, z2, z3⟩ := zeros_sound hv hz (m * it.size) hle
        obtain ⟨g1, g2, g3, g4⟩ := add_sound hH hadd (cs := madeCells z.cells (m * it.size)) (ty := el) (fz := (0, 0)) z1 (by rw [z2, size_madeCells]; exact hle) z3 (.inl (Nat.le_refl _))
          (w' := w.alloc (.cells (madeCells z.cells (m * it.size)) el)) rfl rfl rfl rfl
        refine ⟨_, _, _, hmake, g1, ⟨_, m, rfl, hnm, .inr ⟨_, g2, rfl, ?_⟩⟩, g3, g4, New.set (H.add_none hadd) _⟩
        rw [size_madeCells, ← hsz]; simp
      · cases e
    · cases e
  · cases e

end
end Ev
end Go
