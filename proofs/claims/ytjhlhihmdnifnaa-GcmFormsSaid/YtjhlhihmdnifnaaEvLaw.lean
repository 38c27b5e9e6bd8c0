/- From the evaluator's frame to a law's row: what is old is as it was. -/
import Derived.Test.YtjhlhihmdnifnaaEvUse
import Derived.RowKit3
import Derived.ChangeSame
set_option linter.unusedVariables false
namespace Go
namespace Ev
open Go.ChangeShapes Go.WideShapes
theorem kept_of_frm {w w' : World} (h : Frm (fun k => w.heap.size ≤ k) w w') (may : MemPlace → Prop) : w.keptBut w' may := by
  refine ⟨h.os, h.output, fun i hi => ?_⟩
  rw [h.block i (by omega)]
  exact (World.keptBut_refl w may).2.2 i hi
theorem frozen_of_frm {w w' : World} (h : Frm (fun k => w.heap.size ≤ k) w w') (a : Addr) (ha : a.block < w.heap.size) : w'.frozen? a = w.frozen? a := by
  simp only [World.frozen?, h.block a.block (by omega)]
section
variable {H : Type} {enc : TypeId × Value → H} {P : Program}
/-- A law whose call turns nothing that was there. -/
theorem post_old {f : Func} {s : ChangeSpec} {apart fresh handsOn again : Bool} {W W' : World} {args : Array Value} {v : Value} {ds gs : List (DataW H)} {pa pv : List MemPlace}
    (hW : DataW.Whole enc P f.params.toList s.vars apart W args.toList ds gs (pa ++ pv))
    (hres : ∀ (b : Nat) (sp : Nat → Bool) (hd : Bool), DataW.TrodAll enc P W' b sp hd f.resultTypes.toList (v.resultList f.resultTypes.size) (s.fn H (ds ++ gs)).results [])
    (hargs : ∀ sp : Nat → Bool, (∀ p ∈ pa ++ pv, sp p.block = true) → DataW.TrodAll enc P W' 0 sp true f.params.toList args.toList (s.fn H (ds ++ gs)).args pa)
    (hvars : ∀ sp : Nat → Bool, (∀ p ∈ pa ++ pv, sp p.block = true) → DataW.TrodVars enc P W' sp s.vars (s.fn H (ds ++ gs)).vars pv)
    (hF : Frm (fun k => W.heap.size ≤ k) W W')
    (hok : ∀ (j : Nat) (t : TypeId) (r : Value), f.resultTypes[j]? = some t → (v.resultList f.resultTypes.size)[j]? = some r → Value.okWide P W' .any 0 t r) :
    s.post enc P f apart fresh handsOn again W args v W' := by
  have old : ∀ p ∈ pa ++ pv, p.block < W.heap.size := fun p hp => hW.lt p hp
  have inside : ∀ p ∈ pa ++ pv, decide (p.block < W.heap.size) = true := fun p hp => decide_eq_true (old p hp)
  have every : ∀ p ∈ pa ++ pv, (fun _ : Nat => true) p.block = true := fun _ _ => rfl
  refine ⟨ds, gs, pa ++ pv, [], pa, pv, hW, hres _ _ _, hargs _ inside, hvars _ inside, ?_, fun _ => ⟨hok, (s.fn H (ds ++ gs)).results ++ (s.fn H (ds ++ gs)).args, (s.fn H (ds ++ gs)).vars, pa ++ pv, ?_, fun p hp _ => hp⟩⟩
  · exact kept_of_frm hF _
  obtain ⟨_, _, _, _, _, thawed, apart'⟩ := hW
  refine ⟨pa, pv, trodAll_append (hargs _ every) (hres _ _ _), hvars _ every, rfl, fun b off hp => ?_, apart'⟩
  rw [frozen_of_frm hF _ (old _ hp)]
  exact thawed b off hp
end
end Ev
end Go
