/- The evaluator's arithmetic is the machine's. -/
import Derived.Test.YtjhlhihmdnifnaaEvMem
set_option linter.unusedVariables false
namespace Go
namespace Ev

theorem md_eq (k : IntKind) : md k = 2 ^ k.bits := by cases k <;> rfl
theorem md_eqI (k : IntKind) : (md k : Int) = 2 ^ k.bits := by rw [md_eq]; norm_cast
theorem sg_eq (k : IntKind) : sg k = k.signed := by cases k <;> rfl
theorem bitsN_eq (k : IntKind) : bitsN k = k.bits := by cases k <;> rfl

theorem fit_nat (k : IntKind) (a : Nat) : fit k (.ofNat a) = true ↔ a < if sg k then md k / 2 else md k := by
  cases k <;> simp [fit, sg, md, ble_true] <;> omega
theorem fit_neg (k : IntKind) (a : Nat) : fit k (.negSucc a) = true ↔ sg k = true ∧ a < md k / 2 := by
  cases k <;> simp [fit, sg, md, ble_true] <;> omega

theorem fit_iff (k : IntKind) (n : Int) : fit k n = true ↔ (if sg k then -((md k / 2 : Nat) : Int) else 0) ≤ n ∧ n < ((if sg k then md k / 2 else md k : Nat) : Int) := by
  cases n with
  | ofNat a => rw [fit_nat]; cases k <;> simp [sg, md] <;> omega
  | negSucc a => rw [fit_neg]; cases k <;> simp [sg, md] <;> omega

theorem wrap_fit {k : IntKind} {n : Int} (h : fit k n = true) : k.wrap n = n := by
  rw [fit_iff] at h
  cases k <;> simp [sg, md] at h <;> simp [IntKind.wrap, IntKind.bits, IntKind.signed] <;> omega

theorem fit_wrap (k : IntKind) (n : Int) : fit k (k.wrap n) = true := by
  rw [fit_iff]
  cases k <;> simp [sg, md, IntKind.wrap, IntKind.bits, IntKind.signed] <;> omega

theorem wrap_unsigned {k : IntKind} (h : sg k = false) (n : Int) : k.wrap n = n % (md k : Int) := by
  cases k <;> simp [sg] at h <;> simp [IntKind.wrap, IntKind.bits, IntKind.signed, md]

theorem nn_of {k : IntKind} (hk : sg k = false) {n : Int} (h : fit k n = true) : n = (nn n : Int) ∧ nn n < md k := by
  cases n with
  | ofNat a => rw [fit_nat, hk] at h; exact ⟨rfl, by show a < md k; simpa using h⟩
  | negSucc a => rw [fit_neg, hk] at h; simp at h

theorem tm_eq (k : IntKind) (n : Int) : (tm k n : Int) = n % (md k : Int) := by
  cases n with
  | ofNat a => simp [tm]
  | negSucc a =>
    simp only [tm]
    cases k <;> simp only [md] <;> omega

theorem tm_lt (k : IntKind) (n : Int) : tm k n < md k := by
  have h := tm_eq k n
  have : (0 : Int) < (md k : Int) := by cases k <;> simp [md]
  have := Int.emod_lt_of_pos n this
  omega

theorem ofMod_wrap (k : IntKind) (m : Nat) (h : m < md k) : ofMod k m = k.wrap (m : Int) := by
  unfold ofMod
  cases k <;> simp only [md] at h <;> simp [sg, md, IntKind.wrap, IntKind.bits, IntKind.signed, cond_eq_ite, ble_true, Int.subNatNat_eq_coe] <;> (try split) <;> omega

theorem wrap_add_md (k : IntKind) (n : Int) : k.wrap n = k.wrap (tm k n : Int) := by
  rw [tm_eq]
  cases k <;> simp [IntKind.wrap, IntKind.bits, IntKind.signed, md]

/-- Bits of a signed or unsigned number, as numbers. -/
theorem bv_toNat (k : IntKind) (n : Int) : (BitVec.ofInt k.bits n).toNat = tm k n := by
  rw [BitVec.toNat_ofInt]
  have := tm_eq k n
  rw [md_eqI] at this
  have e : (((2 ^ k.bits : Nat) : Int)) = (2 : Int) ^ k.bits := by norm_cast
  rw [e]
  omega

theorem tm_nat {k : IntKind} {a : Nat} (h : fit k (.ofNat a) = true) : tm k (.ofNat a) = a := by
  rw [fit_nat] at h
  simp only [tm]
  apply Nat.mod_eq_of_lt
  cases k <;> simp [sg, md] at h ⊢ <;> omega

theorem fit_and {k : IntKind} {a b : Nat} (h : fit k (.ofNat a) = true) : fit k (.ofNat (Nat.land a b)) = true := by
  rw [fit_nat] at h ⊢
  exact Nat.lt_of_le_of_lt Nat.and_le_left h
theorem half_pow (k : IntKind) : ∃ e, (if sg k then md k / 2 else md k) = 2 ^ e := by
  cases k
  · exact ⟨7, rfl⟩
  · exact ⟨15, rfl⟩
  · exact ⟨31, rfl⟩
  · exact ⟨63, rfl⟩
  · exact ⟨8, rfl⟩
  · exact ⟨16, rfl⟩
  · exact ⟨32, rfl⟩
  · exact ⟨64, rfl⟩
theorem fit_or {k : IntKind} {a b : Nat} (h : fit k (.ofNat a) = true) (h' : fit k (.ofNat b) = true) : fit k (.ofNat (Nat.lor a b)) = true := by
  rw [fit_nat] at *
  obtain ⟨e, he⟩ := half_pow k
  rw [he] at h h' ⊢
  exact Nat.or_lt_two_pow h h'
theorem fit_xor {k : IntKind} {a b : Nat} (h : fit k (.ofNat a) = true) (h' : fit k (.ofNat b) = true) : fit k (.ofNat (Nat.xor a b)) = true := by
  rw [fit_nat] at *
  obtain ⟨e, he⟩ := half_pow k
  rw [he] at h h' ⊢
  exact Nat.xor_lt_two_pow h h'

theorem iand_sound (k : IntKind) (x y : Int) (hx : fit k x = true) (hy : fit k y = true) : k.wrap ((BitVec.ofInt k.bits x &&& BitVec.ofInt k.bits y).toNat : Int) = iand k x y := by
  rw [BitVec.toNat_and, bv_toNat, bv_toNat]
  have gen : k.wrap ((tm k x &&& tm k y : Nat) : Int) = ofMod k (Nat.land (tm k x) (tm k y)) := (ofMod_wrap k _ (Nat.lt_of_le_of_lt Nat.and_le_left (tm_lt k x))).symm
  unfold iand
  split
  · rename_i b
    have hb : tm k (.ofNat b) = b := tm_nat hy
    have hx' : tm k x = tz k x := by
      cases x with
      | ofNat a => exact tm_nat hx
      | negSucc a => rfl
    rw [hb, hx']
    refine wrap_fit ?_
    show fit k (.ofNat (tz k x &&& b)) = true
    rw [fit_nat] at hy ⊢
    exact Nat.lt_of_le_of_lt Nat.and_le_right hy
  · exact gen
theorem md_pow (k : IntKind) : ∃ e, md k = 2 ^ e := ⟨k.bits, md_eq k⟩
theorem ior_sound (k : IntKind) (x y : Int) (hx : fit k x = true) (hy : fit k y = true) : k.wrap ((BitVec.ofInt k.bits x ||| BitVec.ofInt k.bits y).toNat : Int) = ior k x y := by
  rw [BitVec.toNat_or, bv_toNat, bv_toNat]
  have lt : (tm k x ||| tm k y) < md k := by
    obtain ⟨e, he⟩ := md_pow k
    have h1 := tm_lt k x
    have h2 := tm_lt k y
    rw [he] at *
    exact Nat.or_lt_two_pow h1 h2
  have gen : k.wrap ((tm k x ||| tm k y : Nat) : Int) = ofMod k (Nat.lor (tm k x) (tm k y)) := (ofMod_wrap k _ lt).symm
  unfold ior
  split
  · rw [tm_nat hx, tm_nat hy]; exact wrap_fit (fit_or hx hy)
  · exact gen
theorem ixor_sound (k : IntKind) (x y : Int) (hx : fit k x = true) (hy : fit k y = true) : k.wrap ((BitVec.ofInt k.bits x ^^^ BitVec.ofInt k.bits y).toNat : Int) = ixor k x y := by
  rw [BitVec.toNat_xor, bv_toNat, bv_toNat]
  have lt : (tm k x ^^^ tm k y) < md k := by
    obtain ⟨e, he⟩ := md_pow k
    have h1 := tm_lt k x
    have h2 := tm_lt k y
    rw [he] at *
    exact Nat.xor_lt_two_pow h1 h2
  have gen : k.wrap ((tm k x ^^^ tm k y : Nat) : Int) = ofMod k (Nat.xor (tm k x) (tm k y)) := (ofMod_wrap k _ lt).symm
  unfold ixor
  split
  · rw [tm_nat hx, tm_nat hy]; exact wrap_fit (fit_xor hx hy)
  · exact gen

theorem fit_inot (k : IntKind) (x : Int) : fit k (inot k x) = true := by
  have := tm_lt k x
  unfold inot
  rw [ofMod_wrap k _ (by omega)]
  exact fit_wrap _ _
theorem tm_inot (k : IntKind) (x : Int) : tm k (inot k x) = md k - 1 - tm k x := by
  have h := tm_lt k x
  have e := tm_eq k (inot k x)
  unfold inot at *
  rw [ofMod_wrap k _ (by omega)] at *
  have e2 : k.wrap ((md k - 1 - tm k x : Nat) : Int) % (md k : Int) = ((md k - 1 - tm k x : Nat) : Int) := by
    generalize hm : md k - 1 - tm k x = m
    have : m < md k := by omega
    clear hm h e
    cases k <;> simp only [md] at this <;> simp [IntKind.wrap, IntKind.bits, IntKind.signed, md] <;> (try split) <;> omega
  rw [e2] at e
  omega

theorem bv_not (k : IntKind) (y : Int) : ~~~(BitVec.ofInt k.bits y) = BitVec.ofInt k.bits (inot k y) := by
  apply BitVec.eq_of_toNat_eq
  rw [BitVec.toNat_not, bv_toNat, bv_toNat, tm_inot, md_eq]

theorem andNot_sound (k : IntKind) (x y : Int) (hx : fit k x = true) : k.wrap ((BitVec.ofInt k.bits x &&& ~~~BitVec.ofInt k.bits y).toNat : Int) = iand k x (inot k y) := by
  rw [bv_not]
  exact iand_sound k x _ hx (fit_inot k y)

theorem xor_not (k : IntKind) (n : Int) : k.wrap ((BitVec.ofInt k.bits (if k.signed then -1 else k.max) ^^^ BitVec.ofInt k.bits n).toNat : Int) = inot k n := by
  have h1 : BitVec.ofInt k.bits (if k.signed then -1 else k.max) = BitVec.allOnes k.bits := by cases k <;> decide
  rw [h1, BitVec.allOnes_xor, bv_not, bv_toNat, tm_inot]
  have := tm_lt k n
  rw [← ofMod_wrap k _ (by omega)]
  rfl

theorem ieq_eq (a b : Int) : ieq a b = (a == b) := by
  cases a <;> cases b <;> simp only [ieq] <;> rw [Bool.eq_iff_iff] <;> simp [beq_true] <;> omega
theorem ile_eq (a b : Int) : ile a b = decide (a ≤ b) := by
  cases a <;> cases b <;> simp only [ile] <;> rw [Bool.eq_iff_iff] <;> simp [ble_true] <;> omega

section
variable {P : Program} {w : World}

theorem arith_sound {k : IntKind} {x y n : Int} {op : BinOp} (hop : op = .add ∨ op = .sub ∨ op = .mul) (hx : fit k x = true) (hy : fit k y = true) (e : bint op k x y = some (n, true)) :
    (Op.intArith op k x y).run P w = .ok (.int k n) w ∧ fit k n = true := by
  have nat : ∀ m : Nat, sg k = false → fit k (.ofNat (m % md k)) = true := fun m hk => by
    rw [fit_nat, hk]; exact Nat.mod_lt _ (by cases k <;> simp [md])
  rcases hop with rfl | rfl | rfl <;> simp only [bint] at e <;> cases hk : sg k <;> simp only [hk, cond_true, cond_false, Option.some.injEq, Prod.mk.injEq, and_true] at e
  · subst e
    obtain ⟨e1, h1⟩ := nn_of hk hx
    obtain ⟨e2, h2⟩ := nn_of hk hy
    refine ⟨?_, nat _ hk⟩
    simp only [Op.intArith, Sem.run_pure]
    rw [wrap_unsigned hk, e1, e2]; simp [nn]
  · obtain ⟨rfl, h⟩ := e
    exact ⟨by simp only [Op.intArith, Sem.run_pure]; rw [show x + y = Int.add x y from rfl, wrap_fit h], h⟩
  · subst e
    obtain ⟨e1, h1⟩ := nn_of hk hx
    obtain ⟨e2, h2⟩ := nn_of hk hy
    refine ⟨?_, nat _ hk⟩
    simp only [Op.intArith, Sem.run_pure]
    rw [wrap_unsigned hk]
    have : (x - y) % (md k : Int) = ((nn x + (md k - nn y)) % md k : Nat) := by
      rw [Int.natCast_emod, Int.natCast_add, Int.ofNat_sub (by omega), show (nn x : Int) + ((md k : Int) - nn y) = (x - y) + md k by omega, Int.add_emod_right]
    rw [this]; rfl
  · obtain ⟨rfl, h⟩ := e
    exact ⟨by simp only [Op.intArith, Sem.run_pure]; rw [show x - y = Int.sub x y from rfl, wrap_fit h], h⟩
  · subst e
    obtain ⟨e1, h1⟩ := nn_of hk hx
    obtain ⟨e2, h2⟩ := nn_of hk hy
    refine ⟨?_, nat _ hk⟩
    simp only [Op.intArith, Sem.run_pure]
    rw [wrap_unsigned hk]
    have : x * y % (md k : Int) = (nn x * nn y % md k : Nat) := by
      rw [Int.natCast_emod, Int.natCast_mul, ← e1, ← e2]
    rw [this]; rfl
  · obtain ⟨rfl, h⟩ := e
    exact ⟨by simp only [Op.intArith, Sem.run_pure]; rw [show x * y = Int.mul x y from rfl, wrap_fit h], h⟩

theorem iquo_eq (x y : Int) : iquo x y = x.tdiv y := by unfold iquo; split <;> simp
theorem irem_eq (x y : Int) : irem x y = x.tmod y := by
  unfold irem
  split
  · rfl
  · rfl

theorem fit_tmod {k : IntKind} {x y : Int} (hx : fit k x = true) : fit k (x.tmod y) = true := by
  rw [fit_iff] at *
  have h1 := Int.natAbs_tmod x y
  have h2 : (x.natAbs % y.natAbs) ≤ x.natAbs := Nat.mod_le _ _
  rcases Int.le_total 0 x with h | h
  · have := Int.tmod_nonneg y h
    cases k <;> simp [sg, md] at hx ⊢ <;> omega
  · have h3 : Int.tmod x y = - Int.tmod (-x) y := by rw [Int.neg_tmod]; omega
    have := Int.tmod_nonneg y (show 0 ≤ -x by omega)
    cases k <;> simp [sg, md] at hx ⊢ <;> omega

theorem div_sound {k : IntKind} {x y n : Int} {op : BinOp} (hop : op = .quo ∨ op = .rem) (hx : fit k x = true) (hy : fit k y = true) (e : bint op k x y = some (n, true)) :
    (Op.intDiv op k x y).run P w = .ok (.int k n) w ∧ fit k n = true := by
  rcases hop with rfl | rfl <;> simp only [bint, Option.some.injEq, Prod.mk.injEq, andr_true, ieq_eq] at e
  · obtain ⟨rfl, h1, h2⟩ := e
    have h0 : y ≠ 0 := by simpa using h2
    refine ⟨?_, h1⟩
    rw [iquo_eq] at *
    simp only [Op.intDiv, h0, if_false, Sem.run_pure]
    rw [wrap_fit h1]
  · obtain ⟨rfl, h2⟩ := e
    have h0 : y ≠ 0 := by simpa using h2
    rw [irem_eq]
    exact ⟨by simp only [Op.intDiv, h0, if_false, Sem.run_pure], fit_tmod hx⟩

theorem fit_iand {k : IntKind} {x y : Int} (hx : fit k x = true) (hy : fit k y = true) : fit k (iand k x y) = true := by rw [← iand_sound k x y hx hy]; exact fit_wrap _ _
theorem bits_sound {k : IntKind} {x y n : Int} {op : BinOp} (hop : op = .and ∨ op = .or ∨ op = .xor ∨ op = .andNot) (hx : fit k x = true) (hy : fit k y = true) (e : bint op k x y = some (n, true)) :
    (Op.intBits op k x y).run P w = .ok (.int k n) w ∧ fit k n = true := by
  rcases hop with rfl | rfl | rfl | rfl <;> simp only [bint, Option.some.injEq, Prod.mk.injEq, and_true] at e <;> subst e <;> simp only [Op.intBits, Sem.run_pure]
  · rw [iand_sound k x y hx hy]; exact ⟨rfl, fit_iand hx hy⟩
  · rw [← ior_sound k x y hx hy]; exact ⟨rfl, fit_wrap _ _⟩
  · rw [← ixor_sound k x y hx hy]; exact ⟨rfl, fit_wrap _ _⟩
  · rw [andNot_sound k x y hx]; exact ⟨rfl, fit_iand hx (fit_inot k y)⟩

theorem shift_sound {k k' : IntKind} {x y n : Int} {op : BinOp} (hop : op = .shl ∨ op = .shr) (hx : fit k x = true) (e : bint op k x y = some (n, true)) :
    (Op.shift op k x k' y).run P w = .ok (.int k n) w ∧ fit k n = true := by
  have two : ∀ m : Nat, (2 : Int) ^ m = ((2 ^ m : Nat) : Int) := fun m => by norm_cast
  rcases hop with rfl | rfl
  · simp only [bint] at e
    cases hk : sg k <;> simp only [hk, cond_true, cond_false, Option.some.injEq, Prod.mk.injEq, andr_true, ile_eq, decide_eq_true_eq] at e
    · obtain ⟨rfl, h0⟩ := e
      obtain ⟨e1, h1⟩ := nn_of hk hx
      have hy : y = (nn y : Int) := by cases y with | ofNat a => rfl | negSucc a => simp at h0
      have hf : fit k (Int.ofNat (Nat.shiftLeft (nn x) (nn y) % md k)) = true := by rw [fit_nat, hk]; exact Nat.mod_lt _ (by cases k <;> simp [md])
      refine ⟨?_, hf⟩
      simp only [Op.shift, show ¬ y < 0 by omega, if_false, Sem.run_pure]
      rw [wrap_unsigned hk, two]
      have hy' : y.toNat = nn y := by omega
      rw [hy', e1, ← Int.natCast_mul, ← Int.natCast_emod]
      have hmin : nn x * 2 ^ min (nn y) k.bits % md k = Nat.shiftLeft (nn x) (nn y) % md k := by
        show _ = (nn x <<< nn y) % md k
        rw [Nat.shiftLeft_eq]
        by_cases hle : nn y ≤ k.bits
        · rw [Nat.min_eq_left hle]
        · rw [Nat.min_eq_right (by omega), md_eq, Nat.mul_mod_left]
          have : nn y = k.bits + (nn y - k.bits) := by omega
          rw [this, Nat.pow_add, ← Nat.mul_assoc, Nat.mul_right_comm, Nat.mul_mod_left]
      simp only [nn] at hmin ⊢
      rw [hmin]; rfl
    · obtain ⟨rfl, h1, h0⟩ := e
      have hy : y.toNat = nn y := by cases y with | ofNat a => rfl | negSucc a => simp at h0
      refine ⟨?_, h1⟩
      simp only [Op.shift, show ¬ y < 0 by omega, if_false, Sem.run_pure]
      rw [hy, two]
      rw [bitsN_eq] at h1
      rw [bitsN_eq]
      exact congrArg (fun z => Result.ok (Value.int k z) w) (wrap_fit h1)
  · simp only [bint, Option.some.injEq, Prod.mk.injEq, ile_eq, decide_eq_true_eq] at e
    obtain ⟨rfl, h0⟩ := e
    have hy : y.toNat = nn y := by cases y with | ofNat a => rfl | negSucc a => simp at h0
    have val : x.fdiv (2 ^ min y.toNat k.bits) = ishr k x y := by
      rw [hy, two]
      unfold ishr
      split
      · rename_i a
        show Int.fdiv (a : Int) _ = ((a >>> nn y : Nat) : Int)
        rw [← Int.ofNat_fdiv, Nat.shiftRight_eq_div_pow]
        by_cases hle : nn y ≤ k.bits
        · rw [Nat.min_eq_left hle]
        · have ha : a < md k := by
            rw [fit_nat] at hx
            cases k <;> simp [sg, md] at hx ⊢ <;> omega
          rw [Nat.min_eq_right (by omega), ← md_eq, Nat.div_eq_of_lt ha, Nat.div_eq_of_lt]
          exact Nat.lt_of_lt_of_le ha (by rw [md_eq]; exact Nat.pow_le_pow_right (by omega) (by omega))
      · rw [bitsN_eq]; rfl
    refine ⟨?_, ?_⟩
    · simp only [Op.shift, show ¬ y < 0 by omega, if_false, Sem.run_pure]
      rw [val]
    · rw [← val, two]
      rw [fit_iff] at *
      generalize hm : min y.toNat k.bits = m
      have hp : 0 < 2 ^ m := Nat.pow_pos (by omega)
      generalize 2 ^ m = q at *
      rw [Int.fdiv_eq_ediv_of_nonneg _ (by omega)]
      have lo : x < 0 → x ≤ x / (q : Int) := fun hneg => by
        rw [Int.le_ediv_iff_mul_le (by omega)]
        have : x * (q : Int) ≤ x * 1 := Int.mul_le_mul_of_nonpos_left (by omega) (by omega)
        omega
      have lo' : 0 ≤ x → 0 ≤ x / (q : Int) := fun h => Int.ediv_nonneg h (by omega)
      have hi' : 0 ≤ x → x / (q : Int) ≤ x := fun h => Int.ediv_le_self _ h
      have hi : x < 0 → x / (q : Int) < 0 := fun h => Int.ediv_neg_of_neg_of_pos h (by omega)
      rcases Int.lt_or_le x 0 with h | h
      · have := lo h; have := hi h
        cases k <;> simp [sg, md] at hx ⊢ <;> omega
      · have := lo' h; have := hi' h
        cases k <;> simp [sg, md] at hx ⊢ <;> omega

theorem cmp_sound {x y : Int} {op : BinOp} {r : Bool} (e : cint op x y = some r) : (Op.intCmp op x y).run P w = .ok (.bool r) w := by
  cases op <;> simp only [cint, reduceCtorEq, Option.some.injEq] at e <;> subst e <;> simp only [Op.intCmp, Sem.run_pure, ieq_eq, ile_eq]
  · rfl
  · congr 2; rw [Bool.eq_iff_iff]; simp
  · congr 2; rw [Bool.eq_iff_iff]; simp

theorem cvt_sound {k k' : IntKind} {n m : Int} (h : fit k n = true) (e : cvt k n k' = (m, true)) : k'.wrap n = m ∧ fit k' m = true := by
  unfold cvt at e
  cases hk : sg k <;> cases hk' : sg k' <;> simp only [hk, hk', cond_true, cond_false] at e
  · cases hb : Nat.ble (md k) (md k') <;> simp only [hb, cond_true, cond_false, Prod.mk.injEq, and_true] at e
    · subst e
      have ht := tm_lt k' n
      have e2 : k'.wrap n = (tm k' n : Int) := by rw [wrap_unsigned hk', tm_eq]
      exact ⟨e2, by rw [show Int.ofNat (tm k' n) = ((tm k' n : Nat) : Int) from rfl, ← e2]; exact fit_wrap _ _⟩
    · subst e
      have hf : fit k' n = true := by
        obtain ⟨e1, h1⟩ := nn_of hk h
        rw [e1, show ((nn n : Nat) : Int) = Int.ofNat (nn n) from rfl, fit_nat, hk']
        rw [ble_true] at hb
        simp; omega
      exact ⟨wrap_fit hf, hf⟩
  · cases hb : Nat.blt (md k) (md k') <;> simp only [hb, cond_true, cond_false, Prod.mk.injEq, and_true] at e
    · obtain ⟨rfl, hf⟩ := e
      exact ⟨wrap_fit hf, hf⟩
    · subst e
      have hf : fit k' n = true := by
        obtain ⟨e1, h1⟩ := nn_of hk h
        rw [e1, show ((nn n : Nat) : Int) = Int.ofNat (nn n) from rfl, fit_nat, hk']
        rw [blt_true] at hb
        cases k <;> cases k' <;> simp [sg, md] at hk hk' hb h1 ⊢ <;> omega
      exact ⟨wrap_fit hf, hf⟩
  · simp only [Prod.mk.injEq, and_true] at e
    subst e
    have e2 : k'.wrap n = (tm k' n : Int) := by rw [wrap_unsigned hk', tm_eq]
    exact ⟨e2, by rw [show Int.ofNat (tm k' n) = ((tm k' n : Nat) : Int) from rfl, ← e2]; exact fit_wrap _ _⟩
  · cases hb : Nat.ble (md k) (md k') <;> simp only [hb, cond_true, cond_false, Prod.mk.injEq, and_true] at e
    · obtain ⟨rfl, hf⟩ := e
      exact ⟨wrap_fit hf, hf⟩
    · subst e
      have hf : fit k' n = true := by
        rw [fit_iff] at *
        rw [ble_true] at hb
        cases k <;> cases k' <;> simp [sg, md] at hk hk' hb h ⊢ <;> omega
      exact ⟨wrap_fit hf, hf⟩
end

end Ev
end Go
