/- aes.New, Encrypt, load, newSum, add, all as oracles over any memory. -/
import Derived.Test.YtjhlhihmdnifnaaGcmU
import Derived.Test.YtjhlhihmdnifnaaEvO
set_option linter.unusedVariables false
namespace Go
namespace Ev
open Go.Proofs
/-- A block's cipher under keys. -/
noncomputable def encO (R : Nat) (K B : List Int) : List Int := rndL R K (R - 1) (encS R K (keyB K B 16) (R - 2))
theorem encO_len (R : Nat) (K B : List Int) (h : len B = 16) : len (encO R K B) = 16 := by
  rw [encO, rndL_len, encS_len, keyB_len, h]
noncomputable def encE (R : Nat) (K B : List Int) : List Int := S16 (gd (encO R K B))
theorem encE_eq (R : Nat) (K B : List Int) (h : len B = 16) : encE R K B = encO R K B := S16_gd _ (encO_len R K B h)
/-- A cipher's block: the number of its keys' block, how many. -/
def cellsP : List V → List Int → Option (Nat × Nat)
  | .int .u8 n :: l, a :: L => cond (ieq n a) (cellsP l L) none
  | [.slice b 0 R 16], [] => some (b, R)
  | _, _ => none
theorem cellsP_eq {b R : Nat} : ∀ (L : List Int) (l : List V), cellsP l L = some (b, R) → l = app (mapInt .u8 L) [.slice b 0 R 16] := fun L => by
  induction L with
  | nil =>
    intro l h
    unfold cellsP at h
    split at h
    · contradiction
    · cases h; rfl
    · cases h
  | cons a L ih =>
    intro l h
    unfold cellsP at h
    split at h
    · rename_i n l' a' L' heq
      cases heq
      cases hi : ieq n a <;> simp only [hi, cond_true, cond_false, reduceCtorEq] at h
      rw [ieqK hi, ih _ h]; rfl
    · contradiction
    · cases h
def keyOk (R : Nat) (K : List Int) : Bool := cond (Nat.beq R 11) (Nat.beq (len K) 176) (cond (Nat.beq R 15) (Nat.beq (len K) 240) false)
/-- Encrypt, over any numbers of blocks. -/
noncomputable def encOr (args : List V) (h : H) : Option (V × List (Nat × Blk) × Nat × Bool) := match args with
  | [.ptr c 0, .ints .u8 B] => match h.bs.get c with
    | some (.vals l) => match cellsP l sboxI with
      | some (b, R) => match h.bs.get b with
        | some (.ints .u8 K) => some (.ints .u8 (encE R K B), [(c, .vals (cellsA b R)), (b, .ints .u8 K)], h.nx, andr (Nat.beq (len B) 16) (andr (keyOk R K) (embOk [(0, c), (1, b)] (encIn R K) (encIn R K) h)))
        | _ => none
      | none => none
    | _ => none
  | _ => none
theorem relL_ints (r : Nat → Nat) (d : Nat) (k : IntKind) (e : List V) : ∀ L : List Int, relL (relN r d) (app (mapInt k L) e) = app (mapInt k L) (relL (relN r d) e) := fun L => by
  induction L with
  | nil => rfl
  | cons a L ih =>
    show relN r d (.int k a) :: relL (relN r d) _ = _
    rw [ih]
    cases d <;> rfl
theorem encIn_ok (R : Nat) (K : List Int) : okBs (hasT (hpT (encIn R K))) (encIn R K) = true := by kernel_rfl
theorem encOr_sound : ∀ args h v l n, encOr args h = some (v, l, n, true) → FSpec Try.prog 18 args h v ⟨putAll h.bs l, n⟩ := by
  intro args h v l n e
  unfold encOr at e
  split at e
  · rename_i c B
    split at e
    · rename_i cl hc
      split at e
      · rename_i b R hcl
        split at e
        · rename_i K hK
          simp only [Option.some.injEq, Prod.mk.injEq, andr_true, beq_true] at e
          obtain ⟨rfl, rfl, rfl, hB, hk, ho⟩ := e
          have hcells := cellsP_eq _ _ hcl
          have rel : relB (rn [(0, c), (1, b)]) (.vals (cells R)) = .vals (cellsA b R) := by
            show Blk.vals (relL (relN _ 5) (cells R)) = _
            rw [cells, relL_ints]; rfl
          have base : FSpec Try.prog 18 [.ptr 0 0, .ints .u8 B] ⟨hpT (encIn R K), 0⟩ (.ints .u8 (encE R K B)) ⟨hpT (encIn R K), 0⟩ := by
            rw [encE_eq R K B hB]
            unfold keyOk at hk
            cases h11 : Nat.beq R 11 <;> simp only [h11, cond_true, cond_false] at hk
            · cases h15 : Nat.beq R 15 <;> simp only [h15, cond_true, cond_false, Bool.false_eq_true] at hk
              rw [beq_true.1 h15]
              have := enc_spec15 K (gd B) (beq_true.1 hk)
              rw [S16_gd B hB] at this
              exact this
            · rw [beq_true.1 h11]
              have := enc_spec11 K (gd B) (beq_true.1 hk)
              rw [S16_gd B hB] at this
              exact this
          have := FSpec.embedL base (by kernel_rfl) (encIn_ok R K) (by kernel_rfl) [(0, c), (1, b)] (h := h) h.nx ⟨by rw [rel, show rn [(0, c), (1, b)] 0 = c from rfl, hc, hcells]; rfl, hK, trivial⟩ ho
          have e2 : relM [(0, c), (1, b)] (encIn R K) = [(c, .vals (cellsA b R)), (b, .ints .u8 K)] := by
            show [(c, relB _ (.vals (cells R))), (b, Blk.ints .u8 K)] = _
            rw [rel]
          rw [e2] at this
          exact this
        · cases e
      · cases e
    · cases e
  · cases e
/-- aes.New, as one looks at its key's length. -/
noncomputable def newOr (mode : Nat) (args : List V) (h : H) : Option (V × List (Nat × Blk) × Nat × Bool) := match args with
  | [.str s] => cond (Nat.beq mode 0) (some (.tuple [.nilptr, .bool false], [], h.nx, andr (Nat.ble (len s) 9223372036854775807) (andr (not (Nat.beq (len s) 16)) (not (Nat.beq (len s) 32)))))
      (cond (Nat.beq mode 1) (some (.tuple [.ptr h.nx 0, .bool true], [(h.nx, .vals (cellsA (h.nx + 1) 11)), (h.nx + 1, .ints .u8 (keysL 4 s))], h.nx + 2, andr (Nat.beq (len s) 16) (embOk [(12, h.nx), (103, h.nx + 1)] [] (newHp 4 (keysL 4 s)) h)))
        (some (.tuple [.ptr h.nx 0, .bool true], [(h.nx, .vals (cellsA (h.nx + 1) 15)), (h.nx + 1, .ints .u8 (keysL 8 s))], h.nx + 2, andr (Nat.beq (len s) 32) (embOk [(12, h.nx), (103, h.nx + 1)] [] (newHp 8 (keysL 8 s)) h))))
  | _ => none
theorem newHp_ok (n : Nat) (K : List Int) : okAll [(0, .tuple [.ptr 12 0, .bool true])] (newHp n K) [] = true := by kernel_rfl
theorem newHp_rel (a b n : Nat) (K : List Int) : relM [(12, a), (103, b)] (newHp n K) = [(a, .vals (cellsA b (n + 7))), (b, .ints .u8 K)] := by
  show [(a, relB _ (.vals (cellsA 103 (n + 7)))), (b, Blk.ints .u8 K)] = _
  have : relB (rn [(12, a), (103, b)]) (.vals (cellsA 103 (n + 7))) = .vals (cellsA b (n + 7)) := by
    show Blk.vals (relL (relN _ 5) (cellsA 103 (n + 7))) = _
    rw [cellsA, relL_ints]; rfl
  rw [this]
theorem newOr_sound (mode : Nat) : ∀ args h v l n, newOr mode args h = some (v, l, n, true) → FSpec Try.prog 17 args h v ⟨putAll h.bs l, n⟩ := by
  intro args h v l n e
  unfold newOr at e
  split at e
  · rename_i s
    cases h0 : Nat.beq mode 0 <;> simp only [h0, cond_true, cond_false] at e
    · cases h1 : Nat.beq mode 1 <;> simp only [h1, cond_true, cond_false] at e
      · simp only [Option.some.injEq, Prod.mk.injEq, andr_true, beq_true] at e
        obtain ⟨rfl, rfl, rfl, hs, ho⟩ := e
        have := FSpec.embedL (new32 s hs) (by kernel_rfl) (by kernel_rfl) (newHp_ok _ _) [(12, h.nx), (103, h.nx + 1)] (h := h) (h.nx + 2) trivial ho
        rw [newHp_rel] at this
        exact this
      · simp only [Option.some.injEq, Prod.mk.injEq, andr_true, beq_true] at e
        obtain ⟨rfl, rfl, rfl, hs, ho⟩ := e
        have := FSpec.embedL (new16 s hs) (by kernel_rfl) (by kernel_rfl) (newHp_ok _ _) [(12, h.nx), (103, h.nx + 1)] (h := h) (h.nx + 2) trivial ho
        rw [newHp_rel] at this
        exact this
    · simp only [Option.some.injEq, Prod.mk.injEq, andr_true, ble_true, Bool.not_eq_true', beq_iff_false] at e
      obtain ⟨rfl, rfl, rfl, h1, h2, h3⟩ := e
      exact FSpec.embedL (new_no s h1 h2 h3) (by kernel_rfl) (by kernel_rfl) (by kernel_rfl) [] (h := h) h.nx trivial (by kernel_rfl)
  · cases e
/-- newSum. -/
noncomputable def sumOr (args : List V) (h : H) : Option (V × List (Nat × Blk) × Nat × Bool) := match args with
  | [.ints .u64 [a, b]] => some (.ptr h.nx 0, [(h.nx, .ints .u64 (newM a b))], h.nx + 1, embOk [(5, h.nx)] [] [(5, .ints .u64 (newM a b))] h)
  | _ => none
theorem sumOr_sound : ∀ args h v l n, sumOr args h = some (v, l, n, true) → FSpec Try.prog 13 args h v ⟨putAll h.bs l, n⟩ := by
  intro args h v l n e
  unfold sumOr at e
  split at e
  · rename_i a b
    simp only [Option.some.injEq, Prod.mk.injEq] at e
    obtain ⟨rfl, rfl, rfl, ho⟩ := e
    exact FSpec.embedL (newSum_spec a b) (by kernel_rfl) (by kernel_rfl) (by kernel_rfl) [(5, h.nx)] (h := h) (h.nx + 1) trivial ho
  · cases e
/-- sum.all. -/
noncomputable def allOr (args : List V) (h : H) : Option (V × List (Nat × Blk) × Nat × Bool) := match args with
  | [.ptr s 0, .slice b o n 1] => match h.bs.get s, h.bs.get b with
    | some (.ints .u64 S), some (.ints .u8 L) => some (.tuple [], [(s, .ints .u64 (allM S L o n)), (b, .ints .u8 L)], h.nx,
        andr (Nat.beq (len S) 50) (andr (Nat.ble n 9223372036854775807) (andr (Nat.ble (o + n) (len L)) (embOk [(0, s), (1, b)] (allHp S L) (allHp (allM S L o n) L) h))))
    | _, _ => none
  | _ => none
theorem allOr_sound : ∀ args h v l n, allOr args h = some (v, l, n, true) → FSpec Try.prog 15 args h v ⟨putAll h.bs l, n⟩ := by
  intro args h v l n e
  unfold allOr at e
  split at e
  · rename_i s b o m
    split at e
    · rename_i S L hS hL
      simp only [Option.some.injEq, Prod.mk.injEq, andr_true, beq_true, ble_true] at e
      obtain ⟨rfl, rfl, rfl, h1, h2, h3, ho⟩ := e
      exact FSpec.embedL (all_spec S L o m h1 h2 h3) (by kernel_rfl) (by kernel_rfl) (by kernel_rfl) [(0, s), (1, b)] (h := h) h.nx ⟨hS, hL, trivial⟩ ho
    · cases e
  · cases e
noncomputable def O5 (mode f : Nat) (args : List V) (h : H) : Option (V × List (Nat × Blk) × Nat × Bool) :=
  cond (Nat.beq f 18) (encOr args h) (cond (Nat.beq f 17) (newOr mode args h) (cond (Nat.beq f 13) (sumOr args h) (cond (Nat.beq f 15) (allOr args h) (O3 f args h))))
theorem O5_sound (mode : Nat) : ∀ f args h v l n, O5 mode f args h = some (v, l, n, true) → Callable Try.prog f ∧ FSpec Try.prog f args h v ⟨putAll h.bs l, n⟩ := by
  intro f args h v l n e
  unfold O5 at e
  cases h18 : Nat.beq f 18 <;> rw [h18] at e <;> simp only [cond_true, cond_false] at e
  · cases h17 : Nat.beq f 17 <;> rw [h17] at e <;> simp only [cond_true, cond_false] at e
    · cases h13 : Nat.beq f 13 <;> rw [h13] at e <;> simp only [cond_true, cond_false] at e
      · cases h15 : Nat.beq f 15 <;> rw [h15] at e <;> simp only [cond_true, cond_false] at e
        · exact O3_sound f args h v l n e
        · rw [beq_true.1 h15]
          exact ⟨callable (fn := Try.f15) (by kernel_rfl) (by kernel_rfl) (by kernel_rfl), allOr_sound args h v l n e⟩
      · rw [beq_true.1 h13]
        exact ⟨callable (fn := Try.f13) (by kernel_rfl) (by kernel_rfl) (by kernel_rfl), sumOr_sound args h v l n e⟩
    · rw [beq_true.1 h17]
      exact ⟨callable (fn := Try.f17) (by kernel_rfl) (by kernel_rfl) (by kernel_rfl), newOr_sound mode args h v l n e⟩
  · rw [beq_true.1 h18]
    exact ⟨callable (fn := Try.f18) (by kernel_rfl) (by kernel_rfl) (by kernel_rfl), encOr_sound args h v l n e⟩
noncomputable def C5 (mode : Nat) (D : Nat → Option Bool) : Cfg := { P := Try.prog, OV := OV2, O := O5 mode, D := D }
theorem C5_sound (mode : Nat) (D : Nat → Option Bool) : Sound (C5 mode D) := ⟨(C1_sound).mixed, O5_sound mode, OV2_sound⟩
end Ev
end Go
