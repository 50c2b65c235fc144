import PyProof.Rows.All
import Wide.All
import OpenK.AllK
import Wide.FinOn
import PySem.Challenge.RW_k5_0101
open PySem PySem.W PyProof.Rows
set_option Elab.async false
namespace Mine
/-- bit i of an int, in two's complement -/
def tb (x : Int) (i : Nat) : Bool := decide (x / 2 ^ i % 2 = 1)

theorem pcast (k : Nat) : ((2 ^ k : Nat) : Int) = (2 : Int) ^ k := by
  induction k with
  | zero => simp
  | succ n ih => rw [Nat.pow_succ, Int.pow_succ, ← ih]; omega
theorem ppos (k : Nat) : (0 : Int) < 2 ^ k := by
  rw [← pcast]; have := Nat.two_pow_pos k; omega
theorem psucc (k : Nat) : (2 : Int) ^ (k + 1) = 2 * 2 ^ k := by rw [Int.pow_succ]; omega
theorem padd (a b : Nat) : (2 : Int) ^ (a + b) = 2 ^ a * 2 ^ b := Int.pow_add ..
theorem half_pow (x : Int) (i : Nat) : x / 2 ^ (i + 1) = x / 2 / 2 ^ i := by
  rw [psucc, Int.ediv_ediv_of_nonneg (by omega : (0 : Int) ≤ 2)]
theorem tb_zero (x : Int) : tb x 0 = decide (x % 2 = 1) := by simp [tb]
theorem tb_succ (x : Int) (i : Nat) : tb x (i + 1) = tb (x / 2) i := by unfold tb; rw [half_pow]
theorem and_half (x y : Int) : Builtin.bitAnd x y / 2 = Builtin.bitAnd (x / 2) (y / 2) ∧ (Builtin.bitAnd x y % 2 = 1 ↔ (x % 2 = 1 ∧ y % 2 = 1)) := by
  have pn : ∀ x y : Int, 0 ≤ x → ¬ 0 ≤ y → Builtin.bitAnd x y / 2 = Builtin.bitAnd (x / 2) (y / 2) ∧ (Builtin.bitAnd x y % 2 = 1 ↔ (x % 2 = 1 ∧ y % 2 = 1)) := by
    intro x y hx hy
    rw [bitAnd_pn hx hy, bitAnd_pn (show 0 ≤ x / 2 by omega) (show ¬ 0 ≤ y / 2 by omega)]
    have e1 : (x / 2).toNat = x.toNat / 2 := by omega
    have e2 : (Builtin.bitNot (y / 2)).toNat = (Builtin.bitNot y).toNat / 2 := by unfold Builtin.bitNot; omega
    have e3 : ((Builtin.bitNot y).toNat : Int) = -y - 1 := by unfold Builtin.bitNot; omega
    rw [e1, e2]
    have h1 : (x.toNat &&& (Builtin.bitNot y).toNat) / 2 = x.toNat / 2 &&& (Builtin.bitNot y).toNat / 2 := Nat.and_div_two
    have h2 := @Nat.and_mod_two_eq_one x.toNat (Builtin.bitNot y).toNat
    rw [← h1]
    omega
  by_cases hx : 0 ≤ x <;> by_cases hy : 0 ≤ y
  · rw [bitAnd_pp hx hy, bitAnd_pp (show 0 ≤ x / 2 by omega) (show 0 ≤ y / 2 by omega)]
    have e1 : (x / 2).toNat = x.toNat / 2 := by omega
    have e2 : (y / 2).toNat = y.toNat / 2 := by omega
    rw [e1, e2]
    have h1 : (x.toNat &&& y.toNat) / 2 = x.toNat / 2 &&& y.toNat / 2 := Nat.and_div_two
    have h2 := @Nat.and_mod_two_eq_one x.toNat y.toNat
    rw [← h1]
    omega
  · exact pn x y hx hy
  · rw [bitAnd_comm x y, bitAnd_comm (x / 2) (y / 2)]
    have := pn y x hy hx
    refine ⟨this.1, this.2.trans ⟨fun h => ⟨h.2, h.1⟩, fun h => ⟨h.2, h.1⟩⟩⟩
  · rw [bitAnd_nn hx hy, bitAnd_nn (show ¬ 0 ≤ x / 2 by omega) (show ¬ 0 ≤ y / 2 by omega)]
    have e2 : (Builtin.bitNot (x / 2)).toNat = (Builtin.bitNot x).toNat / 2 := by unfold Builtin.bitNot; omega
    have f2 : (Builtin.bitNot (y / 2)).toNat = (Builtin.bitNot y).toNat / 2 := by unfold Builtin.bitNot; omega
    have e3 : ((Builtin.bitNot x).toNat : Int) = -x - 1 := by unfold Builtin.bitNot; omega
    have f3 : ((Builtin.bitNot y).toNat : Int) = -y - 1 := by unfold Builtin.bitNot; omega
    rw [e2, f2]
    have h1 : ((Builtin.bitNot x).toNat ||| (Builtin.bitNot y).toNat) / 2 = (Builtin.bitNot x).toNat / 2 ||| (Builtin.bitNot y).toNat / 2 := Nat.or_div_two
    have h2 := @Nat.or_mod_two_eq_one (Builtin.bitNot x).toNat (Builtin.bitNot y).toNat
    rw [← h1]
    generalize (Builtin.bitNot x).toNat ||| (Builtin.bitNot y).toNat = z at *
    generalize (Builtin.bitNot x).toNat = x' at *
    generalize (Builtin.bitNot y).toNat = y' at *
    unfold Builtin.bitNot at *
    omega
theorem tb_and (x y : Int) (i : Nat) : tb (Builtin.bitAnd x y) i = (tb x i && tb y i) := by
  induction i generalizing x y with
  | zero =>
    rw [tb_zero, tb_zero, tb_zero]
    have := (and_half x y).2
    by_cases h : Builtin.bitAnd x y % 2 = 1
    · have h2 := this.mp h; simp [h, h2.1, h2.2]
    · by_cases h1 : x % 2 = 1
      · by_cases h2 : y % 2 = 1
        · exact absurd (this.mpr ⟨h1, h2⟩) h
        · simp [h, h2]
      · simp [h, h1]
  | succ i ih => rw [tb_succ, tb_succ, tb_succ, (and_half x y).1, ih]
theorem tb_not (x : Int) (i : Nat) : tb (Builtin.bitNot x) i = !tb x i := by
  induction i generalizing x with
  | zero =>
    rw [tb_zero, tb_zero]
    unfold Builtin.bitNot
    by_cases h : x % 2 = 1
    · have : ¬ (-x - 1) % 2 = 1 := by omega
      simp [h, this]
    · have : (-x - 1) % 2 = 1 := by omega
      simp [h, this]
  | succ i ih =>
    rw [tb_succ, tb_succ, ← ih]
    congr 1
    unfold Builtin.bitNot
    omega
theorem tb_or (x y : Int) (i : Nat) : tb (Builtin.bitOr x y) i = (tb x i || tb y i) := by
  unfold Builtin.bitOr
  rw [tb_not, tb_and, tb_not, tb_not]
  cases tb x i <;> cases tb y i <;> rfl
theorem xorAnd (x y : Int) : Builtin.bitXor x y = x + y - 2 * Builtin.bitAnd x y := by
  unfold Builtin.bitXor
  rw [bitOr_and]
  omega
theorem xor_half (x y : Int) : Builtin.bitXor x y / 2 = Builtin.bitXor (x / 2) (y / 2) ∧ (Builtin.bitXor x y % 2 = 1 ↔ ¬ (x % 2 = 1 ↔ y % 2 = 1)) := by
  rw [xorAnd, xorAnd]
  have := and_half x y
  rw [← this.1]
  omega
theorem tb_xor (x y : Int) (i : Nat) : tb (Builtin.bitXor x y) i = (tb x i ^^ tb y i) := by
  induction i generalizing x y with
  | zero =>
    rw [tb_zero, tb_zero, tb_zero]
    have := (xor_half x y).2
    by_cases h1 : x % 2 = 1 <;> by_cases h2 : y % 2 = 1 <;> simp [h1, h2] at this ⊢ <;> omega
  | succ i ih => rw [tb_succ, tb_succ, tb_succ, (xor_half x y).1, ih]
theorem tb_ext {x y : Int} (h : ∀ i, tb x i = tb y i) : x = y := by
  have key : ∀ (n : Nat) (x y : Int), x.natAbs ≤ n → y.natAbs ≤ n → (∀ i, tb x i = tb y i) → x = y := by
    intro n
    induction n with
    | zero => intro x y hx hy _; omega
    | succ n ih =>
      intro x y hx hy h
      have h0 := h 0
      rw [tb_zero, tb_zero, decide_eq_decide] at h0
      by_cases hs : (x / 2).natAbs ≤ n ∧ (y / 2).natAbs ≤ n
      · have := ih (x / 2) (y / 2) hs.1 hs.2 (fun i => by rw [← tb_succ, ← tb_succ]; exact h (i + 1))
        omega
      · have hm : ∀ z : Int, tb (-1) z.toNat = true := by
          intro z
          unfold tb
          have : (-1 : Int) / 2 ^ z.toNat = -1 := by
            have hp := ppos z.toNat
            have := Int.neg_one_ediv (2 ^ z.toNat)
            rw [this, Int.sign_eq_one_of_pos hp]
          rw [this]; decide
        -- n = 0: x or y is -1
        have h1 := h 1
        rw [tb_succ, tb_succ, tb_zero, tb_zero, decide_eq_decide] at h1
        omega
  exact key (x.natAbs + y.natAbs) x y (by omega) (by omega) h
theorem tb_shr (x : Int) (k i : Nat) : tb (x / 2 ^ k) i = tb x (k + i) := by
  unfold tb
  rw [padd, Int.ediv_ediv_of_nonneg (Int.le_of_lt (ppos k))]
theorem tb_shl_lt (x : Int) {k i : Nat} (h : i < k) : tb (x * 2 ^ k) i = false := by
  unfold tb
  obtain ⟨d, rfl⟩ : ∃ d, k = i + (d + 1) := ⟨k - i - 1, by omega⟩
  have e : x * 2 ^ (i + (d + 1)) = (2 * (x * 2 ^ d)) * 2 ^ i := by
    rw [padd, psucc, Int.mul_comm (2 ^ i), ← Int.mul_assoc, ← Int.mul_assoc, Int.mul_comm x 2, Int.mul_assoc 2]
  rw [e, Int.mul_ediv_cancel _ (by have := ppos i; omega)]
  simp only [decide_eq_false_iff_not]
  omega
theorem tb_shl_ge (x : Int) {k i : Nat} (h : k ≤ i) : tb (x * 2 ^ k) i = tb x (i - k) := by
  obtain ⟨d, rfl⟩ : ∃ d, i = k + d := ⟨i - k, by omega⟩
  rw [← tb_shr, Int.mul_ediv_cancel _ (by have := ppos k; omega)]
  congr 1; omega
theorem tb_shl (x : Int) (k i : Nat) : tb (x * 2 ^ k) i = (decide (k ≤ i) && tb x (i - k)) := by
  by_cases h : k ≤ i
  · rw [tb_shl_ge x h]; simp [h]
  · rw [tb_shl_lt x (by omega)]; simp [h]
theorem tb_mod (x : Int) (k i : Nat) : tb (x % 2 ^ k) i = (decide (i < k) && tb x i) := by
  by_cases h : i < k
  · obtain ⟨d, rfl⟩ : ∃ d, k = i + (d + 1) := ⟨k - i - 1, by omega⟩
    simp only [h, decide_true, Bool.true_and]
    unfold tb
    have hp := ppos (d + 1)
    have hi := ppos i
    have e : x % 2 ^ (i + (d + 1)) / 2 ^ i = (x / 2 ^ i) % 2 ^ (d + 1) := by
      have h1 := Int.emod_def x (2 ^ (i + (d + 1)))
      have h2 := Int.emod_def (x / 2 ^ i) (2 ^ (d + 1))
      rw [h1, h2, padd, ← Int.ediv_ediv_of_nonneg (Int.le_of_lt hi), Int.mul_assoc, Int.sub_eq_add_neg, ← Int.mul_neg, Int.add_mul_ediv_left _ _ (by omega), Int.sub_eq_add_neg]
    rw [e, psucc]
    have : (x / 2 ^ i) % (2 * 2 ^ d) % 2 = (x / 2 ^ i) % 2 := Int.emod_emod_of_dvd _ ⟨2 ^ d, rfl⟩
    rw [this]
  · simp only [h, decide_false, Bool.false_and]
    unfold tb
    have hk := ppos k
    have h0 := Int.emod_nonneg x (show (2 : Int) ^ k ≠ 0 by omega)
    have h1 := Int.emod_lt_of_pos x hk
    have h2 : (2 : Int) ^ k ≤ 2 ^ i := by
      rw [← pcast, ← pcast]
      have := Nat.pow_le_pow_right (show 0 < 2 by decide) (show k ≤ i by omega)
      omega
    rw [Int.ediv_eq_zero_of_lt h0 (by omega)]
    rfl
theorem tb_0 (i : Nat) : tb 0 i = false := by simp [tb]
theorem tb_pow (k i : Nat) : tb (2 ^ k) i = decide (i = k) := by
  have h := tb_shl 1 k i
  rw [Int.one_mul] at h
  rw [h]
  have : ∀ j, tb 1 j = decide (j = 0) := by
    intro j
    cases j with
    | zero => rfl
    | succ j => rw [tb_succ, show (1 : Int) / 2 = 0 from rfl, tb_0]; simp
  rw [this]
  by_cases h1 : k ≤ i
  · simp [h1]; omega
  · simp [h1]; omega
theorem tb_m1 (i : Nat) : tb (-1) i = true := by
  have := tb_not 0 i
  rw [tb_0] at this
  exact this
theorem tb_ones (k i : Nat) : tb (2 ^ k - 1) i = decide (i < k) := by
  have h := tb_mod (-1) k i
  rw [tb_m1, Bool.and_true] at h
  have hp := ppos k
  have e : (2 : Int) ^ k - 1 = -1 % 2 ^ k := ((Int.ediv_emod_unique (b := 2 ^ k) (a := -1) (q := -1) (r := 2 ^ k - 1) hp).mpr ⟨by omega, by omega, by omega⟩).2.symm
  rw [e, h]
/-- a number below 2 ^ k has no bit from k on -/
theorem tb_lt {x : Int} {k i : Nat} (h0 : 0 ≤ x) (h1 : x < 2 ^ k) (hi : k ≤ i) : tb x i = false := by
  have h := tb_mod x k i
  rw [Int.emod_eq_of_lt h0 h1] at h
  rw [h]
  simp
  intro h2
  omega
theorem lt_of_tb {x : Int} {k : Nat} (h : ∀ i, k ≤ i → tb x i = false) : 0 ≤ x ∧ x < 2 ^ k := by
  have e : x = x % 2 ^ k := by
    apply tb_ext
    intro i
    rw [tb_mod]
    by_cases hi : i < k
    · simp [hi]
    · rw [h i (by omega)]; simp
  have hk := ppos k
  rw [e]
  exact ⟨Int.emod_nonneg _ (by omega), Int.emod_lt_of_pos _ hk⟩
theorem tb_sub_odd (x : Int) (i : Nat) : tb x i = decide (x / 2 ^ i % 2 = 1) := rfl
end Mine
namespace Mine
theorem modStep (n : Int) (j : Nat) : n % 2 ^ (j + 1) = n % 2 ^ j + (n / 2 ^ j % 2) * 2 ^ j := by
  have hp := ppos j
  have h1 := Int.emod_def n (2 ^ j)
  have h2 := Int.emod_def n (2 ^ (j + 1))
  have h3 := Int.emod_def (n / 2 ^ j) 2
  have h4 : n / 2 ^ (j + 1) = n / 2 ^ j / 2 := by
    rw [Int.ediv_ediv_of_nonneg (Int.le_of_lt hp)]; rfl
  rw [h1, h2, h3, h4, psucc, Int.sub_mul, Int.mul_comm (n / 2 ^ j) (2 ^ j)]
  have : 2 * 2 ^ j * (n / 2 ^ j / 2) = 2 * (n / 2 ^ j / 2) * 2 ^ j := by
    rw [Int.mul_assoc, Int.mul_assoc, Int.mul_comm (2 ^ j)]
  omega
theorem divStep (n : Int) (j : Nat) : n / 2 ^ j / 2 = n / 2 ^ (j + 1) := by
  rw [Int.ediv_ediv_of_nonneg (Int.le_of_lt (ppos j))]; rfl
theorem fdiv2 (x : Int) : x.fdiv 2 = x / 2 := Int.fdiv_eq_ediv_of_nonneg _ (by decide)
theorem fmod2 (x : Int) : x.fmod 2 = x % 2 := Int.fmod_eq_emod_of_nonneg _ (by decide)
theorem fdivP (x : Int) (k : Nat) : x.fdiv (2 ^ k) = x / 2 ^ k := Int.fdiv_eq_ediv_of_nonneg _ (Int.le_of_lt (ppos k))
theorem fmodP (x : Int) (k : Nat) : x.fmod (2 ^ k) = x % 2 ^ k := Int.fmod_eq_emod_of_nonneg _ (Int.le_of_lt (ppos k))
/-- 0040: one turn of the opposite digits -/
theorem opp_step (n : Int) (j : Nat) : 2 ^ (j + 1) - 1 - n % 2 ^ (j + 1) = (2 ^ j - 1 - n % 2 ^ j) + (if n / 2 ^ j % 2 = 0 then 2 ^ j else 0) := by
  rw [modStep, psucc]
  rcases Int.emod_two_eq (n / 2 ^ j) with h | h
  · rw [h]; simp; omega
  · rw [h]; simp; omega
theorem and_mask (x : Int) (k : Nat) : Builtin.bitAnd x (2 ^ k - 1) = x % 2 ^ k := by
  apply tb_ext; intro i
  rw [tb_and, tb_ones, tb_mod, Bool.and_comm]
/-- inverted -/
theorem inv_eq {n : Int} {k : Nat} (h0 : 0 ≤ n) (h1 : n < 2 ^ k) : Builtin.bitAnd (Builtin.bitNot n) (2 ^ k - 1) = 2 ^ k - 1 - n := by
  rw [and_mask]
  unfold Builtin.bitNot
  have hp := ppos k
  exact ((Int.ediv_emod_unique (b := 2 ^ k) (a := -n - 1) (q := -1) (r := 2 ^ k - 1 - n) hp).mpr ⟨by omega, by omega, by omega⟩).2
/-- flipping -/
theorem flip_eq (A b L : Int) (k : Nat) (hb : b = 0 ∨ b = 1) (h0 : 0 ≤ L) (h1 : L < 2 ^ k) :
    Builtin.bitXor (A * 2 * 2 ^ k + b * 2 ^ k + L) (2 ^ k) = A * 2 * 2 ^ k + (1 - b) * 2 ^ k + L := by
  have hp := ppos k
  have hd : (A * 2 * 2 ^ k + b * 2 ^ k + L) / 2 ^ k = A * 2 + b := by
    have e : A * 2 * 2 ^ k + b * 2 ^ k + L = L + (A * 2 + b) * 2 ^ k := by rw [Int.add_mul]; omega
    rw [e, Int.add_mul_ediv_right _ _ (by omega), Int.ediv_eq_zero_of_lt h0 h1]; omega
  have ha : Builtin.bitAnd (A * 2 * 2 ^ k + b * 2 ^ k + L) (2 ^ k) = b * 2 ^ k := by
    apply tb_ext; intro i
    rw [tb_and, tb_pow, tb_shl]
    by_cases hi : i = k
    · subst hi
      simp only [decide_true, Bool.and_true, Nat.le_refl, Bool.true_and, Nat.sub_self]
      unfold tb
      rw [hd]
      rcases hb with rfl | rfl
      · simp
      · simp
    · simp only [hi, decide_false, Bool.and_false]
      rcases hb with rfl | rfl
      · rw [tb_0]; simp
      · by_cases h2 : k ≤ i
        · obtain ⟨d, hd2⟩ : ∃ d, i - k = d + 1 := ⟨i - k - 1, by omega⟩
          rw [hd2, tb_succ, show (1 : Int) / 2 = 0 from rfl, tb_0]; simp
        · simp [h2]
  rw [xorAnd, ha, Int.sub_mul]
  omega
end Mine
namespace Mine
/-! parity (0044) -/
/-- the parity of the low k bits -/
def par (x : Int) : Nat → Bool
  | 0 => false
  | k + 1 => par x k ^^ tb x k
theorem par_add (x : Int) (h k : Nat) : par x (h + k) = (par x h ^^ par (x / 2 ^ h) k) := by
  induction k with
  | zero => simp [par]
  | succ k ih => rw [← Nat.add_assoc, par, ih, par, tb_shr, Bool.xor_assoc]
theorem par_xor (x y : Int) (k : Nat) : par (Builtin.bitXor x y) k = (par x k ^^ par y k) := by
  induction k with
  | zero => rfl
  | succ k ih =>
    rw [par, ih, par, par, tb_xor]
    cases par x k <;> cases par y k <;> cases tb x k <;> cases tb y k <;> rfl
theorem par_fold (x : Int) (h : Nat) : par (Builtin.bitXor x (x / 2 ^ h)) h = par x (h + h) := by
  rw [par_xor, par_add]
theorem par_pow (k m : Nat) : par (2 ^ k) m = decide (k < m) := by
  induction m with
  | zero => simp [par]
  | succ m ih =>
    rw [par, ih, tb_pow]
    by_cases h1 : k < m
    · have : m ≠ k := by omega
      have h2 : k < m + 1 := by omega
      simp [h1, this, h2]
    · by_cases h2 : m = k
      · subst h2; simp
      · have : ¬ k < m + 1 := by omega
        simp [h1, h2, this]
/-- the number of ones among the low k bits -/
def ones (x : Int) : Nat → Int
  | 0 => 0
  | k + 1 => ones x k + x / 2 ^ k % 2
theorem ones_par (x : Int) (k : Nat) : ones x k % 2 = if par x k then 1 else 0 := by
  induction k with
  | zero => rfl
  | succ k ih =>
    rw [ones, par]
    unfold tb
    rcases Int.emod_two_eq (x / 2 ^ k) with h | h
    · rw [h]; cases hp : par x k <;> simp [hp] at ih ⊢ <;> omega
    · rw [h]; cases hp : par x k <;> simp [hp] at ih ⊢ <;> omega
theorem and_one (x : Int) : Builtin.bitAnd x 1 = x % 2 := and_mask x 1
def parity (n : Int) : Int :=
  let a := Builtin.bitXor n (n / 2 ^ 32)
  let b := Builtin.bitXor a (a / 2 ^ 16)
  let c := Builtin.bitXor b (b / 2 ^ 8)
  let d := Builtin.bitXor c (c / 2 ^ 4)
  let e := Builtin.bitXor d (d / 2 ^ 2)
  let f := Builtin.bitXor e (e / 2 ^ 1)
  f % 2
theorem mod2_par (x : Int) : x % 2 = if par x 1 then 1 else 0 := by
  simp only [par, Bool.false_xor, tb_zero, decide_eq_true_eq]
  rcases Int.emod_two_eq x with h | h <;> simp [h]
theorem parity_eq (n : Int) : parity n = if par n 64 then 1 else 0 := by
  unfold parity
  rw [mod2_par, par_fold, par_fold, par_fold, par_fold, par_fold, par_fold]
theorem parity_ones (n : Int) : parity n = ones n 64 % 2 := by rw [parity_eq, ones_par]
theorem parity_turn (n : Int) (k : Nat) (h : k < 64) : parity (Builtin.bitXor n (2 ^ k)) = 1 - ones n 64 % 2 := by
  rw [parity_eq, ones_par, par_xor, par_pow]
  simp only [h, decide_true]
  cases par n 64 <;> rfl
/-! power of two (0046) -/
theorem pw_and (k : Nat) (a : Int) : Builtin.bitAnd (2 ^ k * (2 * a + 1)) (2 ^ k * (2 * a + 1) - 1) = 2 ^ k * (2 * a) := by
  induction k with
  | zero =>
    simp only [Int.pow_zero, Int.one_mul]
    have h := and_half (2 * a + 1) (2 * a + 1 - 1)
    have e1 : (2 * a + 1) / 2 = a := by omega
    have e2 : (2 * a + 1 - 1) / 2 = a := by omega
    rw [e1, e2, bitAnd_self] at h
    omega
  | succ k ih =>
    have e : (2 : Int) ^ (k + 1) * (2 * a + 1) = 2 * (2 ^ k * (2 * a + 1)) := by rw [psucc, Int.mul_assoc]
    have e' : (2 : Int) ^ (k + 1) * (2 * a) = 2 * (2 ^ k * (2 * a)) := by rw [psucc, Int.mul_assoc]
    rw [e, e']
    generalize (2 : Int) ^ k * (2 * a + 1) = m at *
    have h := and_half (2 * m) (2 * m - 1)
    have e1 : (2 * m) / 2 = m := by omega
    have e2 : (2 * m - 1) / 2 = m - 1 := by omega
    rw [e1, e2, ih] at h
    omega
theorem low_eq (k : Nat) (a : Int) : Builtin.bitAnd (2 ^ k * (2 * a + 1)) (-(2 ^ k * (2 * a + 1))) = 2 ^ k := by
  induction k with
  | zero =>
    simp only [Int.pow_zero, Int.one_mul]
    have h := and_half (2 * a + 1) (-(2 * a + 1))
    have e1 : (2 * a + 1) / 2 = a := by omega
    have e2 : (-(2 * a + 1)) / 2 = Builtin.bitNot a := by unfold Builtin.bitNot; omega
    rw [e1, e2, bitAnd_not, bitAnd_self] at h
    omega
  | succ k ih =>
    have e : (2 : Int) ^ (k + 1) * (2 * a + 1) = 2 * (2 ^ k * (2 * a + 1)) := by rw [psucc, Int.mul_assoc]
    rw [e, psucc]
    generalize (2 : Int) ^ k * (2 * a + 1) = m at *
    have h := and_half (2 * m) (-(2 * m))
    have e1 : (2 * m) / 2 = m := by omega
    have e2 : (-(2 * m)) / 2 = -m := by omega
    rw [e1, e2, ih] at h
    omega
/-- every positive int is 2 ^ k times an odd one -/
theorem odd_part (n : Int) (h : 0 < n) : ∃ (k : Nat) (a : Int), 0 ≤ a ∧ n = 2 ^ k * (2 * a + 1) := by
  have key : ∀ (m : Nat) (n : Int), 0 < n → n.toNat ≤ m → ∃ (k : Nat) (a : Int), 0 ≤ a ∧ n = 2 ^ k * (2 * a + 1) := by
    intro m
    induction m with
    | zero => intro n h1 h2; omega
    | succ m ih =>
      intro n h1 h2
      rcases Int.emod_two_eq n with h | h
      · obtain ⟨k, a, ha, e⟩ := ih (n / 2) (by omega) (by omega)
        refine ⟨k + 1, a, ha, ?_⟩
        rw [psucc, Int.mul_assoc, ← e]; omega
      · exact ⟨0, n / 2, by omega, by simp only [Int.pow_zero, Int.one_mul]; omega⟩
  exact key n.toNat n h (by omega)
end Mine
namespace Mine
/-! next power of two (0047) -/
def Sm (m x : Int) (w : Nat) : Prop := ∀ i, tb x i = true ↔ ∃ d, d < w ∧ tb m (i + d) = true
theorem sm_one (m : Int) : Sm m m 1 := fun i => ⟨fun h => ⟨0, by omega, h⟩, fun ⟨d, h1, h2⟩ => by
  have : d = 0 := by omega
  subst this; exact h2⟩
theorem sm_step {m x : Int} {w : Nat} (h : Sm m x w) : Sm m (Builtin.bitOr x (x / 2 ^ w)) (w + w) := by
  intro i
  rw [tb_or, tb_shr, Bool.or_eq_true, h i, h (w + i)]
  constructor
  · rintro (⟨d, h1, h2⟩ | ⟨d, h1, h2⟩)
    · exact ⟨d, by omega, h2⟩
    · exact ⟨w + d, by omega, by rw [← h2]; congr 1; omega⟩
  · rintro ⟨d, h1, h2⟩
    by_cases hd : d < w
    · exact .inl ⟨d, hd, h2⟩
    · exact .inr ⟨d - w, by omega, by rw [← h2]; congr 1; omega⟩
def smear (m : Int) : Int :=
  let a := Builtin.bitOr m (m / 2 ^ 1)
  let b := Builtin.bitOr a (a / 2 ^ 2)
  let c := Builtin.bitOr b (b / 2 ^ 4)
  let d := Builtin.bitOr c (c / 2 ^ 8)
  let e := Builtin.bitOr d (d / 2 ^ 16)
  Builtin.bitOr e (e / 2 ^ 32)
theorem smear_sm (m : Int) : Sm m (smear m) 64 :=
  sm_step (sm_step (sm_step (sm_step (sm_step (sm_step (sm_one m))))))
theorem pmono {a b : Nat} (h : a ≤ b) : (2 : Int) ^ a ≤ 2 ^ b := by
  rw [← pcast, ← pcast]
  have := Nat.pow_le_pow_right (show 0 < 2 by decide) h
  omega
theorem plt {a b : Nat} (h : a < b) : (2 : Int) ^ a < 2 ^ b := by
  rw [← pcast, ← pcast]
  have := Nat.pow_lt_pow_right (show 1 < 2 by decide) h
  omega
theorem tb_top {x : Int} {e : Nat} (h0 : 2 ^ e ≤ x) (h1 : x < 2 ^ (e + 1)) : tb x e = true := by
  unfold tb
  have hp := ppos e
  rw [psucc] at h1
  have : x / 2 ^ e = 1 := ((Int.ediv_emod_unique (b := 2 ^ e) (a := x) (q := 1) (r := x - 2 ^ e) hp).mpr ⟨by omega, by omega, by omega⟩).1
  rw [this]; rfl
theorem smear_eq {m : Int} {e : Nat} (he : e < 64) (h0 : 2 ^ e ≤ m) (h1 : m < 2 ^ (e + 1)) : smear m = 2 ^ (e + 1) - 1 := by
  apply tb_ext; intro i
  rw [tb_ones]
  have h := smear_sm m i
  have hp := ppos e
  by_cases hi : i < e + 1
  · rw [h.mpr ⟨e - i, by omega, by rw [show i + (e - i) = e by omega]; exact tb_top h0 h1⟩]
    simp [hi]
  · have : ¬ tb (smear m) i = true := by
      rw [h]
      rintro ⟨d, _, h3⟩
      rw [tb_lt (by omega) h1 (by omega)] at h3
      cases h3
    simp only [hi, decide_false]
    simpa using this
theorem smear_zero : smear 0 = 0 := by decide +kernel
/-- the least power of two, by the loop's last state -/
theorem npt_eq {n want : Int} {c : Nat} (hw : want = 2 ^ c) (hc : c ≤ 63) (h1 : 1 ≤ n) (hlo : c = 0 ∨ 2 ^ (c - 1) < n) (hhi : n ≤ 2 ^ c) : smear (n - 1) + 1 = want := by
  subst hw
  rcases Nat.eq_zero_or_pos c with rfl | hp
  · have : n = 1 := by simp only [Int.pow_zero] at hhi; omega
    subst this; decide +kernel
  · obtain ⟨e, rfl⟩ : ∃ e, c = e + 1 := ⟨c - 1, by omega⟩
    simp only [Nat.add_sub_cancel] at hlo
    rw [smear_eq (e := e) (by omega) (by omega) (by omega)]
    omega
def NptInv (n want : Int) (j : Nat) : Prop := ∃ c : Nat, c ≤ j ∧ want = 2 ^ c ∧ (c = 0 ∨ 2 ^ (c - 1) < n) ∧ (c = j ∨ n ≤ 2 ^ c)
theorem npt_start (n : Int) : NptInv n 1 0 := ⟨0, by omega, rfl, .inl rfl, .inl rfl⟩
theorem npt_go {n want : Int} {j : Nat} (h : NptInv n want j) (hlt : want < n) : NptInv n (want + want) (j + 1) := by
  obtain ⟨c, h1, rfl, h3, h4⟩ := h
  refine ⟨c + 1, by omega, by rw [psucc]; omega, .inr (by simpa using hlt), .inl (by omega)⟩
theorem npt_stay {n want : Int} {j : Nat} (h : NptInv n want j) (hlt : ¬ want < n) : NptInv n want (j + 1) := by
  obtain ⟨c, h1, rfl, h3, h4⟩ := h
  exact ⟨c, by omega, rfl, h3, .inr (by omega)⟩
theorem npt_end {n want : Int} (h : NptInv n want 63) (h1 : 1 ≤ n) (h2 : n ≤ 2 ^ 63) : smear (n - 1) + 1 = want := by
  obtain ⟨c, hc, hw, hlo, hhi⟩ := h
  refine npt_eq hw hc h1 hlo ?_
  rcases hhi with rfl | h
  · exact h2
  · exact h
/-! reversed bits (0048) -/
def rev (n : Int) : Nat → Int
  | 0 => 0
  | j + 1 => 2 * rev n j + n / 2 ^ j % 2
theorem tb_two (a b : Int) (hb : b = 0 ∨ b = 1) (i : Nat) : tb (2 * a + b) i = if i = 0 then decide (b = 1) else tb a (i - 1) := by
  cases i with
  | zero => rw [tb_zero]; simp only [if_true, decide_eq_decide]; omega
  | succ i =>
    rw [tb_succ]
    have : (2 * a + b) / 2 = a := by omega
    simp [this]
theorem tb_rev (n : Int) (j i : Nat) : tb (rev n j) i = (decide (i < j) && tb n (j - 1 - i)) := by
  induction j generalizing i with
  | zero => simp [rev, tb_0]
  | succ j ih =>
    rw [rev, tb_two _ _ (Int.emod_two_eq _)]
    by_cases hi : i = 0
    · subst hi; simp [tb]
    · rw [if_neg hi, ih]
      by_cases h2 : i < j + 1
      · have h3 : i - 1 < j := by omega
        simp only [h2, h3, decide_true, Bool.true_and]
        congr 1; omega
      · have h3 : ¬ i - 1 < j := by omega
        simp [h2, h3]
theorem rev_lt (n : Int) (j : Nat) : 0 ≤ rev n j ∧ rev n j < 2 ^ j := by
  apply lt_of_tb
  intro i hi
  rw [tb_rev]
  have : ¬ i < j := by omega
  simp [this]
theorem rev_rev {n : Int} {w : Nat} (h0 : 0 ≤ n) (h1 : n < 2 ^ w) : rev (rev n w) w = n := by
  apply tb_ext; intro i
  rw [tb_rev, tb_rev]
  by_cases hi : i < w
  · have h2 : w - 1 - i < w := by omega
    simp only [hi, h2, decide_true, Bool.true_and]
    congr 1; omega
  · rw [tb_lt (i := i) h0 h1 (by omega)]; simp [hi]
theorem rev_or (r n : Int) : Builtin.bitOr (r * 2 ^ 1) (Builtin.bitAnd n 1) = 2 * r + n % 2 := by
  rw [and_one, bitOr_and]
  have h := and_half (r * 2 ^ 1) (n % 2)
  have e1 : (r * 2 ^ 1) / 2 = r := by omega
  have e2 : n % 2 / 2 = 0 := by omega
  rw [e1, e2, bitAnd_zero] at h
  omega
theorem rev_want (n : Int) (w j : Nat) (h : j < w) : rev n j * 2 ^ (w - j) + (if n / 2 ^ j % 2 = 1 then 2 ^ (w - 1 - j) else 0) = rev n (j + 1) * 2 ^ (w - (j + 1)) := by
  obtain ⟨d, hd⟩ : ∃ d, w - j = d + 1 := ⟨w - j - 1, by omega⟩
  rw [hd, show w - 1 - j = d by omega, show w - (j + 1) = d by omega, rev, psucc, Int.add_mul]
  have : rev n j * (2 * 2 ^ d) = 2 * rev n j * 2 ^ d := by rw [← Int.mul_assoc, Int.mul_comm _ 2]
  rw [this]
  rcases Int.emod_two_eq (n / 2 ^ j) with h | h <;> rw [h] <;> simp
end Mine
namespace Mine
/-! rotations -/
def rotL (n : Int) (t w : Nat) : Int := Builtin.bitAnd (Builtin.bitOr (n * 2 ^ t) (n / 2 ^ (w - t))) (2 ^ w - 1)
def rotR (n : Int) (t w : Nat) : Int := Builtin.bitAnd (Builtin.bitOr (n / 2 ^ t) (n * 2 ^ (w - t))) (2 ^ w - 1)
theorem tb_rotL {n : Int} {t w : Nat} (h0 : 0 ≤ n) (h1 : n < 2 ^ w) (ht : t < w) (i : Nat) : tb (rotL n t w) i = (decide (i < w) && if t ≤ i then tb n (i - t) else tb n (w - t + i)) := by
  unfold rotL
  rw [tb_and, tb_or, tb_shl, tb_shr, tb_ones, Bool.and_comm]
  by_cases hi : i < w
  · simp only [hi, decide_true, Bool.true_and]
    by_cases h2 : t ≤ i
    · rw [tb_lt (i := w - t + i) h0 h1 (by omega)]
      simp [h2]
    · simp [h2]
  · simp [hi]
theorem tb_rotR {n : Int} {t w : Nat} (h0 : 0 ≤ n) (h1 : n < 2 ^ w) (ht : t < w) (i : Nat) : tb (rotR n t w) i = (decide (i < w) && tb n ((i + t) % w)) := by
  unfold rotR
  rw [tb_and, tb_or, tb_shl, tb_shr, tb_ones, Bool.and_comm]
  by_cases hi : i < w
  · simp only [hi, decide_true, Bool.true_and]
    by_cases h2 : i + t < w
    · have h3 : ¬ w - t ≤ i := by omega
      rw [Nat.mod_eq_of_lt h2]
      simp [h3, Nat.add_comm]
    · have h3 : w - t ≤ i := by omega
      have e : (i + t) % w = i - (w - t) := by
        rw [Nat.mod_eq_sub_mod (by omega), Nat.mod_eq_of_lt (by omega)]; omega
      rw [tb_lt (i := t + i) h0 h1 (by omega), e]
      simp [h3]
  · simp [hi]
theorem rotR_lt {n : Int} {t w : Nat} : 0 ≤ rotR n t w ∧ rotR n t w < 2 ^ w := by
  unfold rotR
  rw [and_mask]
  have hp := ppos w
  exact ⟨Int.emod_nonneg _ (by omega), Int.emod_lt_of_pos _ hp⟩
/-- the sum of the first j digits, each at its new place -/
def rotSum (n : Int) (t w : Nat) : Nat → Int
  | 0 => 0
  | j + 1 => rotSum n t w j + n / 2 ^ j % 2 * 2 ^ ((j + t) % w)
theorem rotSum_lo (n : Int) {t w : Nat} (ht : t < w) (j : Nat) (hj : j ≤ w - t) : rotSum n t w j = (n % 2 ^ j) * 2 ^ t := by
  induction j with
  | zero => simp only [rotSum, Int.pow_zero, Int.emod_one]; omega
  | succ j ih =>
    rw [rotSum, ih (by omega), Nat.mod_eq_of_lt (by omega), modStep, padd, Int.add_mul, Int.mul_assoc]
theorem rotSum_hi (n : Int) {t w : Nat} (ht : t < w) (d : Nat) (hd : d ≤ t) : rotSum n t w (w - t + d) = (n % 2 ^ (w - t)) * 2 ^ t + n / 2 ^ (w - t) % 2 ^ d := by
  induction d with
  | zero => rw [Nat.add_zero, rotSum_lo n ht _ (by omega), Int.pow_zero, Int.emod_one]; omega
  | succ d ih =>
    have e : (w - t + d + t) % w = d := by
      rw [show w - t + d + t = d + w by omega, Nat.add_mod_right, Nat.mod_eq_of_lt (by omega)]
    rw [← Nat.add_assoc, rotSum, ih (by omega), e, modStep (n / 2 ^ (w - t)), padd, Int.ediv_ediv_of_nonneg (Int.le_of_lt (ppos _)), Int.add_assoc]
theorem or_disj {a b : Int} (h : ∀ i, (tb a i && tb b i) = false) : Builtin.bitOr a b = a + b := by
  rw [bitOr_and]
  have : Builtin.bitAnd a b = 0 := by
    apply tb_ext; intro i
    rw [tb_and, tb_0, h i]
  omega
theorem xor_disj {a b : Int} (h : ∀ i, (tb a i && tb b i) = false) : Builtin.bitXor a b = a + b := by
  rw [xorAnd]
  have : Builtin.bitAnd a b = 0 := by
    apply tb_ext; intro i
    rw [tb_and, tb_0, h i]
  omega
theorem rotL_eq {n : Int} {t w : Nat} (h0 : 0 ≤ n) (h1 : n < 2 ^ w) (ht : t < w) : rotL n t w = rotSum n t w w := by
  have e := rotSum_hi n ht t (Nat.le_refl t)
  rw [show w - t + t = w by omega] at e
  rw [e, ← or_disj]
  · apply tb_ext; intro i
    rw [tb_rotL h0 h1 ht, tb_or, tb_shl, tb_mod, tb_mod, tb_shr]
    by_cases h2 : t ≤ i
    · have h3 : ¬ i < t := by omega
      simp only [h2, h3, decide_true, decide_false, if_true, Bool.true_and, Bool.false_and, Bool.or_false]
      by_cases h4 : i < w
      · have : i - t < w - t := by omega
        simp [h4, this]
      · have : ¬ i - t < w - t := by omega
        simp [h4, this]
    · have h3 : i < t := by omega
      have h4 : i < w := by omega
      simp [h2, h3, h4]
  · intro i
    rw [tb_shl, tb_mod, tb_mod]
    by_cases h2 : t ≤ i
    · have h3 : ¬ i < t := by omega
      simp [h3]
    · simp [h2]
/-! gray -/
def gray (n : Int) : Int := Builtin.bitXor n (n / 2)
theorem tb_gray (n : Int) (i : Nat) : tb (gray n) i = (tb n i ^^ tb n (i + 1)) := by
  unfold gray
  rw [tb_xor, ← tb_succ]
theorem tb_compl {n : Int} {m : Nat} (h0 : 0 ≤ n) (h1 : n < 2 ^ m) (i : Nat) : tb (2 ^ m - 1 - n) i = (decide (i < m) && !tb n i) := by
  rw [← inv_eq h0 h1, tb_and, tb_not, tb_ones, Bool.and_comm]
theorem gray_mirror {n : Int} {m : Nat} (h0 : 2 ^ m ≤ n) (h1 : n < 2 ^ (m + 1)) : gray n = 2 ^ m + gray (2 ^ (m + 1) - 1 - n) := by
  have hp := ppos m
  have ht := tb_top h0 h1
  have hb : ∀ i, tb (gray (2 ^ (m + 1) - 1 - n)) i = (decide (i < m) && (tb n i ^^ tb n (i + 1))) := by
    intro i
    rw [tb_gray, tb_compl (by omega) h1, tb_compl (by omega) h1]
    by_cases h2 : i < m
    · have h3 : i < m + 1 := by omega
      have h4 : i + 1 < m + 1 := by omega
      simp [h2, h3]
    · by_cases h3 : i = m
      · subst h3; simp [ht]
      · have h4 : ¬ i < m + 1 := by omega
        simp [h2, h4]
  rw [← xor_disj]
  · apply tb_ext; intro i
    rw [tb_xor, tb_pow, hb, tb_gray]
    by_cases h2 : i < m
    · have h3 : i ≠ m := by omega
      simp [h2, h3]
    · by_cases h3 : i = m
      · subst h3
        rw [ht, tb_lt (i := i + 1) (by omega) h1 (by omega)]; simp
      · rw [tb_lt (i := i) (by omega) h1 (by omega), tb_lt (i := i + 1) (by omega) h1 (by omega)]; simp [h2, h3]
  · intro i
    rw [tb_pow, hb]
    by_cases h2 : i < m
    · have h3 : i ≠ m := by omega
      simp [h3]
    · simp [h2]
theorem gray_nonneg {n : Int} {m : Nat} (h0 : 0 ≤ n) (h1 : n < 2 ^ m) : 0 ≤ gray n ∧ gray n < 2 ^ m := by
  apply lt_of_tb
  intro i hi
  rw [tb_gray, tb_lt h0 h1 hi, tb_lt (i := i + 1) h0 h1 (by omega)]; rfl
/-- neighbours differ in the one due bit -/
theorem gray_next (n : Int) (h : 0 ≤ n) : Builtin.bitXor (gray n) (gray (n + 1)) = Builtin.bitAnd (n + 1) (-(n + 1)) := by
  obtain ⟨k, a, ha, e⟩ := odd_part (n + 1) (by omega)
  rw [e, low_eq]
  have hp := ppos k
  have e1 : n = 2 ^ k - 1 + (2 * a) * 2 ^ k := by
    have : (2 : Int) ^ k * (2 * a + 1) = (2 * a) * 2 ^ k + 2 ^ k := by rw [Int.mul_add, Int.mul_one, Int.mul_comm]
    omega
  have e2 : (2 : Int) ^ k * (2 * a + 1) = (2 * a + 1) * 2 ^ k := Int.mul_comm _ _
  have d1 : ∀ i, (tb (2 ^ k - 1) i && tb ((2 * a) * 2 ^ k) i) = false := by
    intro i
    rw [tb_ones, tb_shl]
    by_cases hi : i < k
    · have : ¬ k ≤ i := by omega
      simp [this]
    · simp [hi]
  have t1 : ∀ i, tb n i = if i < k then true else tb (2 * a) (i - k) := by
    intro i
    rw [e1, ← xor_disj d1, tb_xor, tb_ones, tb_shl]
    by_cases hi : i < k
    · have : ¬ k ≤ i := by omega
      simp [hi, this]
    · have : k ≤ i := by omega
      simp [hi, this]
  have t2 : ∀ i, tb (2 ^ k * (2 * a + 1)) i = if i < k then false else tb (2 * a + 1) (i - k) := by
    intro i
    rw [e2, tb_shl]
    by_cases hi : i < k
    · have : ¬ k ≤ i := by omega
      simp [hi, this]
    · have : k ≤ i := by omega
      simp [hi, this]
  have u0 : ∀ i, tb (2 * a) i = if i = 0 then false else tb a (i - 1) := by
    intro i
    have := tb_two a 0 (.inl rfl) i
    rw [Int.add_zero] at this
    rw [this]; simp
  have u1 : ∀ i, tb (2 * a + 1) i = if i = 0 then true else tb a (i - 1) := by
    intro i
    rw [tb_two a 1 (.inr rfl) i]; simp
  apply tb_ext; intro i
  rw [tb_xor, tb_gray, tb_gray, tb_pow, t1, t1, t2, t2]
  by_cases h1 : i < k
  · have hne : i ≠ k := by omega
    by_cases h2 : i + 1 < k
    · simp [h1, h2, hne]
    · have : i + 1 - k = 0 := by omega
      simp [h1, h2, hne, this, u0, u1]
  · by_cases h2 : i = k
    · subst h2
      have h3 : ¬ i + 1 < i := by omega
      simp [h3, u0, u1]
    · have h3 : ¬ i + 1 < k := by omega
      have h4 : i - k ≠ 0 := by omega
      have h5 : i + 1 - k ≠ 0 := by omega
      simp only [h1, h3, if_false, u0, u1, h4, h5]
      simp [h2]
theorem gray_bit (n : Int) (i : Nat) : gray n / 2 ^ i % 2 = (n / 2 ^ i % 2 + n / 2 ^ (i + 1) % 2) % 2 := by
  have h := tb_gray n i
  unfold tb at h
  rcases Int.emod_two_eq (n / 2 ^ i) with h1 | h1 <;> rcases Int.emod_two_eq (n / 2 ^ (i + 1)) with h2 | h2 <;> rcases Int.emod_two_eq (gray n / 2 ^ i) with h3 | h3 <;> rw [h1, h2, h3] at h <;> rw [h1, h2, h3] <;> first | rfl | (revert h; decide)
/-- gray is injective from 0 on -/
theorem gray_half (n : Int) : gray n / 2 = gray (n / 2) := by
  unfold gray; rw [(xor_half _ _).1]
theorem gray_inj {x y : Int} (hx : 0 ≤ x) (hy : 0 ≤ y) (h : gray x = gray y) : x = y := by
  have key : ∀ (m : Nat) (x y : Int), x.toNat ≤ m → y.toNat ≤ m → 0 ≤ x → 0 ≤ y → gray x = gray y → x = y := by
    intro m
    induction m with
    | zero => intro x y h1 h2 h3 h4 _; omega
    | succ m ih =>
      intro x y h1 h2 h3 h4 h
      have h5 : x / 2 = y / 2 := ih _ _ (by omega) (by omega) (by omega) (by omega) (by rw [← gray_half, ← gray_half, h])
      have h6 := congrArg (fun z => tb z 0) h
      simp only [tb_gray, Nat.zero_add] at h6
      rw [show (1 : Nat) = 0 + 1 from rfl, tb_succ, tb_succ, h5] at h6
      have h7 : tb x 0 = tb y 0 := by
        revert h6; cases tb x 0 <;> cases tb y 0 <;> cases tb (y / 2) 0 <;> simp
      rw [tb_zero, tb_zero, decide_eq_decide] at h7
      omega
  exact key (x.toNat + y.toNat) x y (by omega) (by omega) hx hy h
end Mine
namespace Mine
/-! from_gray (0052): the place in the mirrored list -/
def mir (c : Int) : Nat → Int
  | 0 => 0
  | j + 1 => if c / 2 ^ j % 2 = 1 then 2 ^ (j + 1) - 1 - mir c j else mir c j
theorem mir_lt (c : Int) (j : Nat) : 0 ≤ mir c j ∧ mir c j < 2 ^ j := by
  induction j with
  | zero => simp only [mir, Int.pow_zero]; omega
  | succ j ih =>
    rw [mir, psucc]
    have := ppos j
    split <;> omega
theorem gray_mir (c : Int) (j : Nat) : gray (mir c j) = c % 2 ^ j := by
  induction j with
  | zero => rw [Int.pow_zero, Int.emod_one, mir]; decide +kernel
  | succ j ih =>
    have hl := mir_lt c j
    have hp := ppos j
    rw [mir, modStep]
    rcases Int.emod_two_eq (c / 2 ^ j) with h | h
    · rw [h, if_neg (by decide), ih]; omega
    · rw [h, if_pos rfl, gray_mirror (m := j) (by rw [psucc]; omega) (by omega)]
      have : (2 : Int) ^ (j + 1) - 1 - (2 ^ (j + 1) - 1 - mir c j) = mir c j := by omega
      rw [this, ih]; omega
theorem lt_two (n : Nat) : n < 2 ^ n := Nat.lt_two_pow_self
def ug (c : Int) : Int := mir c c.toNat
theorem ug_nonneg (c : Int) : 0 ≤ ug c := (mir_lt c _).1
theorem gray_ug {c : Int} (h : 0 ≤ c) : gray (ug c) = c := by
  unfold ug
  rw [gray_mir, Int.emod_eq_of_lt h]
  rw [← pcast]
  have := lt_two c.toNat
  omega
theorem mir_ug {c : Int} {j : Nat} (h : 0 ≤ c) (h1 : c < 2 ^ j) : mir c j = ug c := by
  apply gray_inj (mir_lt c j).1 (ug_nonneg c)
  rw [gray_ug h, gray_mir, Int.emod_eq_of_lt h h1]
/-- the while's invariant -/
def FgInv (c g n : Int) : Prop := ∃ j : Nat, g = gray (ug c / 2 ^ j) ∧ n = Builtin.bitXor (ug c) (ug c / 2 ^ j)
theorem xor_self (x : Int) : Builtin.bitXor x x = 0 := by rw [xorAnd, bitAnd_self]; omega
theorem xor_zero (x : Int) : Builtin.bitXor x 0 = x := by rw [xorAnd, bitAnd_zero]; omega
theorem fg_start {c : Int} (h : 0 ≤ c) : FgInv c c 0 := ⟨0, by rw [Int.pow_zero, Int.ediv_one, gray_ug h], by rw [Int.pow_zero, Int.ediv_one, xor_self]⟩
theorem fg_step {c g n : Int} (h : FgInv c g n) : FgInv c (g / 2) (Builtin.bitXor n g) := by
  obtain ⟨j, rfl, rfl⟩ := h
  refine ⟨j + 1, by rw [gray_half, divStep], ?_⟩
  rw [← divStep]
  apply tb_ext; intro i
  unfold gray
  simp only [tb_xor]
  cases tb (ug c) i <;> cases tb (ug c / 2 ^ j) i <;> cases tb (ug c / 2 ^ j / 2) i <;> rfl
theorem gray_zero {x : Int} (h : 0 ≤ x) (hg : gray x = 0) : x = 0 := gray_inj h (by omega) (by rw [hg]; decide +kernel)
theorem fg_end {c g n : Int} (h : FgInv c g n) (h0 : g = 0) : n = ug c := by
  obtain ⟨j, rfl, rfl⟩ := h
  have := gray_zero (Int.ediv_nonneg (ug_nonneg c) (Int.le_of_lt (ppos j))) h0
  rw [this, xor_zero]
theorem fg_nonneg {c g n : Int} (h : FgInv c g n) : 0 ≤ g := by
  obtain ⟨j, rfl, rfl⟩ := h
  have h1 := Int.ediv_nonneg (ug_nonneg c) (Int.le_of_lt (ppos j))
  generalize ug c / 2 ^ j = z at *
  have := lt_two z.toNat
  refine (gray_nonneg (m := z.toNat) h1 ?_).1
  rw [← pcast]; omega
/-! xorshift (0053, 0056, 0085, 0086) -/
def shL (x : Int) (k : Nat) : Int := Builtin.bitXor x (Builtin.bitAnd (x * 2 ^ k) (2 ^ 32 - 1))
def shR (x : Int) (k : Nat) : Int := Builtin.bitXor x (x / 2 ^ k)
theorem tb_shL (x : Int) (k i : Nat) : tb (shL x k) i = (tb x i ^^ (decide (k ≤ i ∧ i < 32) && tb x (i - k))) := by
  unfold shL
  rw [tb_xor, tb_and, tb_shl, tb_ones]
  by_cases h1 : k ≤ i <;> by_cases h2 : i < 32 <;> simp [h1, h2]
theorem tb_shR (x : Int) (k i : Nat) : tb (shR x k) i = (tb x i ^^ tb x (k + i)) := by
  unfold shR
  rw [tb_xor, tb_shr]
/-- undo_left after j turns; the distances are k, 2k, .. -/
def unL (y : Int) (k : Nat) : Nat → Int
  | 0 => y
  | j + 1 => Builtin.bitXor (unL y k j) (Builtin.bitAnd (y * 2 ^ (k + j * k)) (2 ^ 32 - 1))
def unR (y : Int) (k : Nat) : Nat → Int
  | 0 => y
  | j + 1 => Builtin.bitXor (unR y k j) (y / 2 ^ (k + j * k))
/-- the recurrence, below 32 -/
theorem unL_rec {y : Int} {k : Nat} (hk : 0 < k) (i : Nat) (hi : i < 32) (j : Nat) : tb (unL y k (j + 1)) i = (tb y i ^^ (decide (k ≤ i) && tb (unL y k j) (i - k))) := by
  induction j with
  | zero =>
    rw [unL, unL, tb_xor, tb_and, tb_shl, tb_ones]
    simp only [unL, Nat.zero_mul, Nat.add_zero, hi, decide_true, Bool.and_true]
  | succ j ih =>
    rw [unL, tb_xor, ih, unL, tb_xor, tb_and, tb_and, tb_ones, tb_ones, tb_shl, tb_shl]
    have e : k + (j + 1) * k = k + (k + j * k) := by rw [Nat.add_mul]; omega
    rw [e]
    by_cases h1 : k ≤ i
    · have h3 : i - k < 32 := by omega
      by_cases h2 : k + (k + j * k) ≤ i
      · have h4 : k + j * k ≤ i - k := by omega
        have h5 : i - (k + (k + j * k)) = i - k - (k + j * k) := by omega
        simp only [h1, h2, h3, h4, h5, hi, decide_true, Bool.true_and, Bool.and_true, Bool.xor_assoc]
      · have h4 : ¬ k + j * k ≤ i - k := by omega
        simp [h1, h2, h3, h4, hi]
    · have h2 : ¬ k + (k + j * k) ≤ i := by omega
      simp [h1, h2]
/-- once j turns pass 32 another turn changes nothing below 32 -/
theorem unL_stop {y : Int} {k j : Nat} (h : 32 ≤ k + j * k) : unL y k (j + 1) = unL y k j := by
  rw [unL]
  have : Builtin.bitAnd (y * 2 ^ (k + j * k)) (2 ^ 32 - 1) = 0 := by
    apply tb_ext; intro i
    rw [tb_and, tb_shl, tb_ones, tb_0]
    by_cases h1 : i < 32
    · have : ¬ k + j * k ≤ i := by omega
      simp [this]
    · simp [h1]
  rw [this, xor_zero]
theorem unL_rec' {y : Int} {k j : Nat} (hk : 0 < k) (hj : 32 ≤ k + j * k) (i : Nat) (hi : i < 32) : tb (unL y k j) i = (tb y i ^^ (decide (k ≤ i) && tb (unL y k j) (i - k))) := by
  have := unL_rec (y := y) hk i hi j
  rw [unL_stop hj] at this
  exact this
theorem unL_high (y : Int) (k j i : Nat) (hi : 32 ≤ i) : tb (unL y k j) i = tb y i := by
  induction j with
  | zero => rfl
  | succ j ih =>
    have : ¬ i < 32 := by omega
    rw [unL, tb_xor, ih, tb_and, tb_ones]
    simp [this]
theorem shL_unL {y : Int} {k j : Nat} (hk : 0 < k) (hj : 32 ≤ k + j * k) : shL (unL y k j) k = y := by
  apply tb_ext; intro i
  rw [tb_shL]
  by_cases hi : i < 32
  · rw [unL_rec' hk hj i hi]
    simp only [hi, and_true]
    cases tb y i <;> cases decide (k ≤ i) && tb (unL y k j) (i - k) <;> rfl
  · rw [unL_high _ _ _ _ (by omega)]; simp [hi]
theorem unL_shL {x : Int} {k j : Nat} (hk : 0 < k) (hj : 32 ≤ k + j * k) : unL (shL x k) k j = x := by
  apply tb_ext; intro i
  by_cases hi : i < 32
  · have key : ∀ m i, i ≤ m → i < 32 → tb (unL (shL x k) k j) i = tb x i := by
      intro m
      induction m with
      | zero =>
        intro i h1 h2
        rw [unL_rec' hk hj i h2, tb_shL]
        have : ¬ k ≤ i := by omega
        simp [this]
      | succ m ih =>
        intro i h1 h2
        rw [unL_rec' hk hj i h2, tb_shL]
        by_cases h3 : k ≤ i
        · rw [ih (i - k) (by omega) (by omega)]
          simp [h3, h2]
        · simp [h3]
    exact key i i (Nat.le_refl _) hi
  · rw [unL_high _ _ _ _ (by omega), tb_shL]; simp [hi]
theorem unR_rec {y : Int} {k : Nat} (i : Nat) (j : Nat) : tb (unR y k (j + 1)) i = (tb y i ^^ tb (unR y k j) (k + i)) := by
  induction j with
  | zero => simp only [unR, tb_xor, tb_shr, Nat.zero_mul, Nat.add_zero]
  | succ j ih =>
    rw [unR, tb_xor, ih, unR, tb_xor, tb_shr, tb_shr]
    have e : k + (j + 1) * k + i = k + j * k + (k + i) := by rw [Nat.add_mul]; omega
    rw [e, Bool.xor_assoc]
theorem unR_stop {y : Int} {k j : Nat} (h0 : 0 ≤ y) (h1 : y < 2 ^ 32) (h : 32 ≤ k + j * k) : unR y k (j + 1) = unR y k j := by
  rw [unR]
  have hp := pmono h
  rw [Int.ediv_eq_zero_of_lt h0 (by omega), xor_zero]
theorem unR_high {y : Int} (h0 : 0 ≤ y) (h1 : y < 2 ^ 32) (k j i : Nat) (hi : 32 ≤ i) : tb (unR y k j) i = false := by
  induction j with
  | zero => exact tb_lt h0 h1 hi
  | succ j ih => rw [unR, tb_xor, ih, tb_shr, tb_lt h0 h1 (by omega)]; rfl
theorem shR_unR {y : Int} {k j : Nat} (h0 : 0 ≤ y) (h1 : y < 2 ^ 32) (hj : 32 ≤ k + j * k) : shR (unR y k j) k = y := by
  apply tb_ext; intro i
  have h := unR_rec (y := y) (k := k) i j
  rw [unR_stop h0 h1 hj] at h
  rw [tb_shR, h]
  cases tb y i <;> cases tb (unR y k j) (k + i) <;> rfl
theorem shR_lt {x : Int} (h0 : 0 ≤ x) (h1 : x < 2 ^ 32) (k : Nat) : 0 ≤ shR x k ∧ shR x k < 2 ^ 32 := by
  apply lt_of_tb
  intro i hi
  rw [tb_shR, tb_lt h0 h1 hi, tb_lt h0 h1 (by omega)]; rfl
theorem shL_lt {x : Int} (h0 : 0 ≤ x) (h1 : x < 2 ^ 32) (k : Nat) : 0 ≤ shL x k ∧ shL x k < 2 ^ 32 := by
  apply lt_of_tb
  intro i hi
  have : ¬ i < 32 := by omega
  rw [tb_shL, tb_lt h0 h1 hi]; simp [this]
theorem unL_lt {x : Int} (h0 : 0 ≤ x) (h1 : x < 2 ^ 32) (k j : Nat) : 0 ≤ unL x k j ∧ unL x k j < 2 ^ 32 := by
  apply lt_of_tb
  intro i hi
  rw [unL_high _ _ _ _ hi, tb_lt h0 h1 hi]
theorem unR_lt {x : Int} (h0 : 0 ≤ x) (h1 : x < 2 ^ 32) (k j : Nat) : 0 ≤ unR x k j ∧ unR x k j < 2 ^ 32 := by
  apply lt_of_tb
  intro i hi
  rw [unR_high h0 h1 _ _ _ hi]
theorem unR_shR {x : Int} {k j : Nat} (hk : 0 < k) (h0 : 0 ≤ x) (h1 : x < 2 ^ 32) (hj : 32 ≤ k + j * k) : unR (shR x k) k j = x := by
  have hs := shR_lt h0 h1 k
  apply tb_ext; intro i
  have key : ∀ m i, 32 ≤ i + m → tb (unR (shR x k) k j) i = tb x i := by
    intro m
    induction m with
    | zero => intro i h; rw [unR_high hs.1 hs.2 _ _ _ (by omega), tb_lt h0 h1 (by omega)]
    | succ m ih =>
      intro i h
      have h2 := unR_rec (y := shR x k) (k := k) i j
      rw [unR_stop hs.1 hs.2 hj] at h2
      rw [h2, ih (k + i) (by omega), tb_shR]
      cases tb x i <;> cases tb x (k + i) <;> rfl
  exact key 32 i (by omega)
/-- nonneg from the top bit side -/
theorem xor_nonneg {x y : Int} (hx : 0 ≤ x) (hy : 0 ≤ y) : 0 ≤ Builtin.bitXor x y := by
  have h1 := lt_two x.toNat
  have h2 := lt_two y.toNat
  have a1 : x < 2 ^ x.toNat := by rw [← pcast]; omega
  have a2 : y < 2 ^ y.toNat := by rw [← pcast]; omega
  refine (lt_of_tb (k := x.toNat + y.toNat) fun i hi => ?_).1
  rw [tb_xor, tb_lt hx a1 (by omega), tb_lt hy a2 (by omega)]; rfl
theorem and_nonneg_right (x : Int) {y : Int} (hy : 0 ≤ y) : 0 ≤ Builtin.bitAnd x y := by
  have h2 := lt_two y.toNat
  have a2 : y < 2 ^ y.toNat := by rw [← pcast]; omega
  refine (lt_of_tb (k := y.toNat) fun i hi => ?_).1
  rw [tb_and, tb_lt hy a2 (by omega), Bool.and_false]
theorem unL_nonneg {x : Int} (h0 : 0 ≤ x) (k j : Nat) : 0 ≤ unL x k j := by
  induction j with
  | zero => exact h0
  | succ j ih => exact xor_nonneg ih (and_nonneg_right _ (by decide))
theorem unR_nonneg {x : Int} (h0 : 0 ≤ x) (k j : Nat) : 0 ≤ unR x k j := by
  induction j with
  | zero => exact h0
  | succ j ih => exact xor_nonneg ih (Int.ediv_nonneg h0 (Int.le_of_lt (ppos _)))
/-- a bit from 32 on shows that the number is 2 ^ 32 or more, or negative -/
theorem not_lt_of_tb {x : Int} {i : Nat} (hi : 32 ≤ i) (h : tb x i = true) : ¬ (0 ≤ x ∧ x < 2 ^ 32) := by
  rintro ⟨h0, h1⟩
  rw [tb_lt h0 h1 hi] at h
  cases h
def xs (x : Int) : Int := shL (shR (shL x 13) 17) 5
def xb (y : Int) : Int := unL (unR (unL y 5 6) 17 1) 13 2
theorem xb_xs {x : Int} (h0 : 0 ≤ x) (h1 : x < 2 ^ 32) : xb (xs x) = x := by
  unfold xb xs
  have h := shL_lt h0 h1 13
  rw [unL_shL (by decide) (by decide), unR_shR (by decide) h.1 h.2 (by decide), unL_shL (by decide) (by decide)]
theorem xs_xb {y : Int} (h0 : 0 ≤ y) (h1 : y < 2 ^ 32) : xs (xb y) = y := by
  unfold xb xs
  have h := unL_lt h0 h1 5 6
  rw [shL_unL (by decide) (by decide), shR_unR h.1 h.2 (by decide), shL_unL (by decide) (by decide)]
theorem xs_lt {x : Int} (h0 : 0 ≤ x) (h1 : x < 2 ^ 32) : 0 ≤ xs x ∧ xs x < 2 ^ 32 := by
  unfold xs
  have a := shL_lt h0 h1 13
  have b := shR_lt a.1 a.2 17
  exact shL_lt b.1 b.2 5
theorem xb_lt {x : Int} (h0 : 0 ≤ x) (h1 : x < 2 ^ 32) : 0 ≤ xb x ∧ xb x < 2 ^ 32 := by
  unfold xb
  have a := unL_lt h0 h1 5 6
  have b := unR_lt a.1 a.2 17 1
  exact unL_lt b.1 b.2 13 2
theorem xb_nonneg {y : Int} (h : 0 ≤ y) : 0 ≤ xb y := unL_nonneg (unR_nonneg (unL_nonneg h 5 6) 17 1) 13 2
/-- 2 ^ 32 and more stays so -/
theorem xs_big {x : Int} (h : 2 ^ 32 ≤ x) : ¬ (0 ≤ xs x ∧ xs x < 2 ^ 32) := by
  have : ∃ e : Nat, 32 ≤ e ∧ 2 ^ e ≤ x ∧ x < 2 ^ (e + 1) := by
    have h2 := lt_two x.toNat
    have a2 : x < 2 ^ x.toNat := by rw [← pcast]; omega
    have key : ∀ m : Nat, x < 2 ^ m → ∃ e : Nat, 32 ≤ e ∧ 2 ^ e ≤ x ∧ x < 2 ^ (e + 1) := by
      intro m
      induction m with
      | zero => intro hm; simp only [Int.pow_zero] at hm; omega
      | succ m ih =>
        intro hm
        by_cases hl : x < 2 ^ m
        · exact ih hl
        · refine ⟨m, ?_, by omega, hm⟩
          by_cases h3 : 32 ≤ m
          · exact h3
          · have := pmono (show m + 1 ≤ 32 by omega)
            omega
    exact key _ a2
  obtain ⟨e, he, h1, h2⟩ := this
  have hz : ∀ i, e + 1 ≤ i → tb x i = false := fun i hi => tb_lt (by omega) h2 hi
  have ht := tb_top h1 h2
  have hx : ¬ e < 32 := by omega
  refine not_lt_of_tb he ?_
  unfold xs
  rw [tb_shL, tb_shR, tb_shL, tb_shL, ht, hz (17 + e) (by omega)]
  have h3 : ¬ 17 + e < 32 := by omega
  simp [hx, h3]
theorem xs_neg {x : Int} (h : x < 0) : xb (xs x) ≠ x ∨ ¬ (0 ≤ xs x ∧ xs x < 2 ^ 32) := by
  by_cases h0 : 0 ≤ xs x
  · left
    have := xb_nonneg h0
    omega
  · right; omega
theorem xs_zero {x : Int} (h0 : 0 ≤ x) (h1 : x < 2 ^ 32) : xs x = 0 ↔ x = 0 := by
  constructor
  · intro h
    have := xb_xs h0 h1
    rw [h] at this
    rw [← this]; decide +kernel
  · rintro rfl; decide +kernel
end Mine
namespace Mine
/-! next with as many ones (0066) -/
theorem nxt_eq (H : Int) (o b : Nat) (ho : 0 < o) :
    let n := (H * 2 ^ (o + 1) + 2 ^ o - 1) * 2 ^ b
    n + 2 ^ b = (2 * H + 1) * 2 ^ (o + b) ∧ Builtin.bitXor n (n + 2 ^ b) = (2 ^ (o + 1) - 1) * 2 ^ b := by
  intro n
  have e1 : n + 2 ^ b = (2 * H + 1) * 2 ^ (o + b) := by
    show (H * 2 ^ (o + 1) + 2 ^ o - 1) * 2 ^ b + 2 ^ b = (2 * H + 1) * 2 ^ (o + b)
    have : (H * 2 ^ (o + 1) + 2 ^ o - 1) * 2 ^ b + 2 ^ b = (H * 2 ^ (o + 1) + 2 ^ o) * 2 ^ b := by
      rw [Int.sub_mul]; omega
    rw [this, padd o b, ← Int.mul_assoc]
    have h2 : H * 2 ^ (o + 1) + 2 ^ o = (2 * H + 1) * 2 ^ o := by
      rw [psucc, Int.add_mul, ← Int.mul_assoc, Int.mul_comm H 2]; omega
    rw [h2]
  refine ⟨e1, ?_⟩
  have hn : n = (H * 2 ^ (o + 1) + (2 ^ o - 1)) * 2 ^ b := by
    show (H * 2 ^ (o + 1) + 2 ^ o - 1) * 2 ^ b = _
    congr 1; omega
  have d : ∀ i, (tb (H * 2 ^ (o + 1)) i && tb (2 ^ o - 1) i) = false := by
    intro i
    rw [tb_shl, tb_ones]
    by_cases h : i < o
    · have : ¬ o + 1 ≤ i := by omega
      simp [this]
    · simp [h]
  have t1 : ∀ i, tb (H * 2 ^ (o + 1) + (2 ^ o - 1)) i = ((decide (o + 1 ≤ i) && tb H (i - (o + 1))) ^^ decide (i < o)) := by
    intro i
    rw [← xor_disj d, tb_xor, tb_shl, tb_ones]
  have t2 : ∀ i, tb ((2 * H + 1) * 2 ^ o) i = (decide (o ≤ i) && if i - o = 0 then true else tb H (i - o - 1)) := by
    intro i
    rw [tb_shl, tb_two H 1 (.inr rfl)]; simp
  apply tb_ext; intro i
  rw [tb_xor, e1, hn, padd o b, ← Int.mul_assoc, tb_shl _ b, tb_shl _ b, tb_shl _ b, t1, t2, tb_ones]
  by_cases hb : b ≤ i
  · simp only [hb, decide_true, Bool.true_and]
    generalize i - b = j
    by_cases h1 : j < o
    · have h2 : ¬ o + 1 ≤ j := by omega
      have h3 : ¬ o ≤ j := by omega
      have h4 : j < o + 1 := by omega
      simp [h1, h2, h3, h4]
    · by_cases h2 : j = o
      · subst h2; simp
      · have h3 : o + 1 ≤ j := by omega
        have h4 : o ≤ j := by omega
        have h5 : ¬ j < o + 1 := by omega
        have h6 : ¬ j - o = 0 := by omega
        have h7 : j - o - 1 = j - (o + 1) := by omega
        simp [h1, h3, h4, h5, h6, h7]
  · simp [hb]
theorem nxt_low (H : Int) (o b : Nat) (ho : 0 < o) :
    let n := (H * 2 ^ (o + 1) + 2 ^ o - 1) * 2 ^ b
    Builtin.bitAnd n (-n) = 2 ^ b := by
  intro n
  obtain ⟨p, rfl⟩ : ∃ p, o = p + 1 := ⟨o - 1, by omega⟩
  have : n = 2 ^ b * (2 * (H * 2 ^ (p + 1) + 2 ^ p - 1) + 1) := by
    show (H * 2 ^ (p + 1 + 1) + 2 ^ (p + 1) - 1) * 2 ^ b = _
    rw [Int.mul_comm]
    congr 1
    rw [psucc (p + 1)]
    have := psucc p
    have e : H * (2 * 2 ^ (p + 1)) = 2 * (H * 2 ^ (p + 1)) := by rw [← Int.mul_assoc, Int.mul_comm H 2, Int.mul_assoc]
    omega
  rw [this, low_eq]
theorem nxt_or (H : Int) (o b : Nat) (ho : 0 < o) :
    Builtin.bitOr ((2 * H + 1) * 2 ^ (o + b)) ((2 ^ (o + 1) - 1) / 2 ^ 2) = (2 * H + 1) * 2 ^ (o + b) + 2 ^ (o - 1) - 1 := by
  obtain ⟨p, rfl⟩ : ∃ p, o = p + 1 := ⟨o - 1, by omega⟩
  have e : ((2 : Int) ^ (p + 1 + 1) - 1) / 2 ^ 2 = 2 ^ p - 1 := by
    have h1 := psucc (p + 1)
    have h2 := psucc p
    have h3 := ppos p
    have : (2 : Int) ^ 2 = 4 := by decide
    rw [this]; omega
  rw [e, or_disj]
  · simp only [Nat.add_sub_cancel]; omega
  · intro i
    rw [tb_shl, tb_ones]
    by_cases h : i < p
    · have : ¬ p + 1 + b ≤ i := by omega
      simp [this]
    · simp [h]
/-- the whole -/
def nxt (n : Int) : Int :=
  Builtin.bitOr (n + Builtin.bitAnd n (-n)) (((Builtin.bitXor n (n + Builtin.bitAnd n (-n))) / Builtin.bitAnd n (-n)) / 2 ^ 2)
theorem nxt_all (H : Int) (o b : Nat) (ho : 0 < o) : nxt ((H * 2 ^ (o + 1) + 2 ^ o - 1) * 2 ^ b) = (H * 2 + 1) * 2 ^ (o + b) + 2 ^ (o - 1) - 1 := by
  have h := nxt_eq H o b ho
  have hl := nxt_low H o b ho
  simp only at h hl
  unfold nxt
  rw [hl, h.1] 
  rw [h.1] at h
  rw [h.2, Int.mul_ediv_cancel _ (by have := ppos b; omega), nxt_or H o b ho, Int.mul_comm H 2]
/-! power modulo (0098) -/
theorem powMod_eq (b e m : Nat) : Builtin.powMod b e m = b ^ e % m := by
  unfold Builtin.powMod
  have gen : ∀ (k : Nat) (e p : Nat), (List.range k).reverse.foldl (fun p i => if e.testBit i then p * p % m * b % m else p * p % m) (p % m) = (p ^ (2 ^ k) * b ^ (e % 2 ^ k)) % m := by
    intro k
    induction k with
    | zero => intro e p; simp [Nat.mod_one]
    | succ k ih =>
      intro e p
      rw [List.range_succ, List.reverse_append, List.reverse_cons, List.reverse_nil, List.nil_append, List.cons_append, List.nil_append, List.foldl_cons]
      have hm : e % 2 ^ (k + 1) = e % 2 ^ k + 2 ^ k * (e / 2 ^ k % 2) := Nat.mod_pow_succ
      have hb : e.testBit k = decide (e / 2 ^ k % 2 = 1) := by rw [Nat.testBit_eq_decide_div_mod_eq]
      have e2 : ∀ z : Nat, z ^ 2 ^ (k + 1) = (z * z) ^ 2 ^ k := by
        intro z
        rw [Nat.pow_succ, Nat.mul_comm, Nat.pow_mul, Nat.pow_two]
      have h01 : e / 2 ^ k % 2 = 0 ∨ e / 2 ^ k % 2 = 1 := by omega
      rcases h01 with h | h
      · rw [hb, h, hm, h]
        simp only [show ¬ (0 = 1) by decide, decide_false, Bool.false_eq_true, if_false, Nat.mul_zero, Nat.add_zero]
        rw [ih, e2]
        rw [Nat.mul_mod, Nat.pow_mod, ← Nat.mul_mod p p, ← Nat.pow_mod, ← Nat.mul_mod]
      · rw [hb, h, hm, h]
        simp only [decide_true, if_true, Nat.mul_one]
        rw [ih, e2]
        have e3 : b ^ (e % 2 ^ k + 2 ^ k) = b ^ 2 ^ k * b ^ (e % 2 ^ k) := by rw [Nat.pow_add, Nat.mul_comm]
        rw [e3, ← Nat.mul_assoc, ← Nat.mul_pow]
        have e4 : (p % m * (p % m) % m * b) ^ 2 ^ k % m = (p * p * b) ^ 2 ^ k % m := by
          rw [Nat.pow_mod, Nat.mul_mod (p % m * (p % m) % m), ← Nat.mul_mod p p, Nat.mod_mod, ← Nat.mul_mod, ← Nat.pow_mod]
        rw [Nat.mul_mod, e4, ← Nat.mul_mod]
  have he : e < 2 ^ (Builtin.Int.intBits e) := by
    unfold Builtin.Int.intBits
    by_cases h : e = 0
    · subst h; decide
    · have : ¬ ((e : Int) == 0) = true := by simp; exact h
      rw [if_neg this]
      exact Nat.lt_log2_self
  rw [gen, Nat.mod_eq_of_lt he, Nat.one_pow, Nat.one_mul]
end Mine
namespace Mine
/-! texts of digits -/
def DS (l : List Char) : Str := ⟨(l.map Char.toNat).toArray⟩
theorem DS_append (a b : List Char) : DS (a ++ b) = DS a ++ DS b := by
  apply Str.ext'
  rw [Str.cps_append]
  simp [DS]
theorem DS_nil : DS [] = Str.empty := rfl
theorem ofString_DS (l : List Char) : Str.ofString (String.ofList l) = DS l := by
  rw [Str.ofString_eq_toList]; simp [DS]
/-- the digits of n; none for 0 -/
def DG (b n : Nat) : Str := if n = 0 then Str.empty else DS (Nat.toDigits b n)
theorem DG_zero (b : Nat) : DG b 0 = Str.empty := rfl
theorem DG_step {b n d : Nat} (hb : 1 < b) (hd : d < b) (hp : 0 < b * n + d) : DG b (b * n + d) = DG b n ++ DS [Nat.digitChar d] := by
  unfold DG
  rw [if_neg (by omega)]
  rcases Nat.eq_zero_or_pos n with rfl | hn
  · rw [if_pos rfl, Str.empty_append, Nat.mul_zero, Nat.zero_add, Nat.toDigits_of_lt_base hd]
  · rw [if_neg (by omega), ← DS_append, ← Nat.toDigits_append_toDigits hb hn hd, Nat.toDigits_of_lt_base hd]
theorem DG_div {b n : Nat} (hb : 1 < b) (hn : 0 < n) : DG b n = DG b (n / b) ++ DS [Nat.digitChar (n % b)] := by
  have h := DG_step (n := n / b) (d := n % b) hb (Nat.mod_lt _ (by omega)) (by rw [Nat.div_add_mod]; exact hn)
  rw [Nat.div_add_mod] at h
  exact h
theorem DG_len {b n k : Nat} (hb : 1 < b) (h : n < b ^ k) : (DG b n).length ≤ k := by
  unfold DG
  split
  · exact Nat.zero_le _
  · next h0 =>
    show ((Nat.toDigits b n).map Char.toNat).toArray.size ≤ k
    rw [List.size_toArray, List.length_map]
    have hk : 0 < k := by
      rcases Nat.eq_zero_or_pos k with rfl | h'
      · rw [Nat.pow_zero] at h; omega
      · exact h'
    exact (Nat.length_toDigits_le_iff hb hk).mpr h
theorem sign16 : ∀ d : Nat, d < 16 → Txt.item (Str.ofString "0123456789abcdef") (d : Int) = DS [Nat.digitChar d] := by decide +kernel
theorem sign8 : ∀ d : Nat, d < 8 → Txt.item (Str.ofString "01234567") (d : Int) = DS [Nat.digitChar d] := by decide +kernel
theorem sign2 : ∀ d : Nat, d < 2 → Txt.item (Str.ofString "01") (d : Int) = DS [Nat.digitChar d] := by decide +kernel
end Mine
namespace Mine
/-! number_text (0103) -/
def Z (n : Nat) : Str := ⟨(List.replicate n 48).toArray⟩
theorem Z_succ (n : Nat) : Z (n + 1) = Z n ++ Str.ofString "0" := by
  apply Str.ext'
  rw [Str.cps_append]
  show (List.replicate (n + 1) 48).toArray = (List.replicate n 48).toArray ++ #[48]
  rw [List.replicate_succ']
  apply Array.ext'
  rw [Array.toList_append]
theorem foldl_rep (n : Nat) (acc : Array Nat) : (List.replicate n (#[48] : Array Nat)).foldl (· ++ ·) acc = acc ++ (List.replicate n 48).toArray := by
  induction n generalizing acc with
  | zero => simp
  | succ n ih =>
    rw [List.replicate_succ, List.foldl_cons, ih, List.replicate_succ]
    apply Array.ext'
    simp only [Array.toList_append]
    simp
theorem mulZ (n : Int) : Txt.mul (Str.ofString "0") n = Z n.toNat := by
  unfold Txt.mul
  by_cases h1 : n < 1
  · rw [if_pos h1]
    have : n.toNat = 0 := by omega
    rw [this]; rfl
  · rw [if_neg h1]
    by_cases h2 : n = 1
    · subst h2; rfl
    · have hc : (n == 1 || (Str.ofString "0").length == 0) = false := by
        have : (n == 1) = false := by simpa using h2
        rw [this]; rfl
      rw [hc]
      show (⟨_⟩ : Str) = ⟨_⟩
      congr 1
      have e : (Str.ofString "0").cps = #[48] := rfl
      rw [e, foldl_rep]
      simp
theorem slice_ix (n : Nat) : Builtin.Str.strSliceIndices (some 2) none 1 (n + 2) = (List.range n).map (fun k => k + 2) := by
  unfold Builtin.Str.strSliceIndices sliceRange
  have h1 : max 0 (min (if (2 : Int) < 0 then 2 + ((n + 2 : Nat) : Int) else 2) ((n + 2 : Nat) : Int)) = 2 := by
    rw [if_neg (by decide)]; omega
  simp only [show (1 : Int) > 0 by decide, if_true]
  rw [h1]
  have h2 : (if (2 : Int) < ((n + 2 : Nat) : Int) then (((n + 2 : Nat) : Int) - 2 + 1 - 1) / 1 else 0).toNat = n := by
    split <;> omega
  rw [h2]
  apply List.map_congr_left
  intro k _
  omega
theorem slice2 (x y : Str) (h : x.length = 2) : Txt.slice (x ++ y) (some 2) none = y := by
  have hl : (x ++ y).length = y.length + 2 := by rw [strLen_append]; omega
  unfold Txt.slice
  rw [hl, slice_ix]
  rw [if_neg (by simp)]
  apply Str.ext'
  show (List.filterMap (fun j => (x ++ y).cps[j]?) ((List.range y.length).map (fun k => k + 2))).toArray = y.cps
  rw [Str.cps_append, List.filterMap_map]
  have e : ∀ k, ((fun j => (x.cps ++ y.cps)[j]?) ∘ fun k => k + 2) k = y.cps[k]? := by
    intro k
    show (x.cps ++ y.cps)[k + 2]? = y.cps[k]?
    have hx : x.cps.size = 2 := h
    rw [Array.getElem?_append_right (by omega)]
    congr 1; omega
  have e2 : ((fun j => (x.cps ++ y.cps)[j]?) ∘ fun k => k + 2) = fun k => y.cps[k]? := funext e
  rw [e2]
  apply Array.ext'
  show List.filterMap _ _ = _
  have key : ∀ (l : List Nat), List.filterMap (fun k => l[k]?) (List.range l.length) = l := by
    intro l
    induction l with
    | nil => rfl
    | cons a l ih =>
      rw [List.length_cons, List.range_succ_eq_map, List.filterMap_cons, List.filterMap_map]
      simp only [List.getElem?_cons_zero]
      congr 1
  have := key y.cps.toList
  have hy : y.length = y.cps.size := rfl
  rw [hy]
  simpa using this
theorem DS_pos {b n : Nat} (h : 0 < n) : DS (Nat.toDigits b n) = DG b n := by unfold DG; rw [if_neg (by omega)]
theorem DG_len_pos {b n : Nat} (hb : 1 < b) (h : 0 < n) : 1 ≤ (DG b n).length := by
  rw [DG_div hb h, strLen_append]
  have : (DS [Nat.digitChar (n % b)]).length = 1 := rfl
  omega
theorem bin_eq (n : Nat) {w m : Int} (hm : m = max 1 w) : Str.ofString "0b" ++ (Txt.mul (Str.ofString "0") (m - ((DG 2 n).length : Int)) ++ DG 2 n) = (Str.ofString "0b" ++ Txt.mul (Str.ofString "0") (w - ((DS (Nat.toDigits 2 n)).length : Int))) ++ DS (Nat.toDigits 2 n) := by
  rw [Str.append_assoc]
  congr 1
  rw [mulZ, mulZ]
  rcases Nat.eq_zero_or_pos n with rfl | hn
  · have e1 : DS (Nat.toDigits 2 0) = Str.ofString "0" := by decide +kernel
    have e2 : (DG 2 0).length = 0 := rfl
    have e3 : (Str.ofString "0").length = 1 := rfl
    rw [e1, DG_zero, e3, Str.append_empty]
    have e4 : Str.empty.length = 0 := rfl
    rw [e4]
    have : (m - ((0 : Nat) : Int)).toNat = (w - ((1 : Nat) : Int)).toNat + 1 := by omega
    rw [this, Z_succ]
  · rw [DS_pos hn]
    have := DG_len_pos (b := 2) (by decide) hn
    congr 2
    omega
end Mine
set_option maxRecDepth 100000
set_option Elab.async false
namespace Mine
 open PySem PySem.Calls PyProof.Rows PyProof.Rows.LCg PySem.W
inductive VA (Y : Int → Value → Prop) : List Int → List Value → Prop
  | nil : VA Y [] []
  | cons {k : Int} {v : Value} {ks : List Int} {vs : List Value} : Y k v → VA Y ks vs → VA Y (k :: ks) (v :: vs)
theorem VA.snoc {Y : Int → Value → Prop} {k : Int} {v : Value} (h : Y k v) : ∀ {ks : List Int} {vs : List Value}, VA Y ks vs → VA Y (ks ++ [k]) (vs ++ [v])
  | _, _, .nil => .cons h .nil
  | _, _, .cons a r => .cons a (VA.snoc h r)
def isI (k : Int) (v : Value) : Prop := ∃ t, v = .int k t
def isS (g : Int → PySem.Str) (k : Int) (v : Value) : Prop := ∃ t, v = .str (g k) t
theorem VA.ints : ∀ {ks : List Int} {vs : List Value}, VA isI ks vs → IntsAre vs ks
  | _, _, .nil => .nil
  | _, _, .cons ⟨t, e⟩ r => e ▸ .cons _ t (VA.ints r)
theorem VA.strs {g : Int → PySem.Str} : ∀ {ks : List Int} {vs : List Value}, VA (isS g) ks vs → StrsAre vs (ks.map g)
  | _, _, .nil => .nil
  | _, _, .cons ⟨t, e⟩ r => e ▸ .cons _ t (VA.strs r)
def TIB (b p : Bool) (P : Prop) : Prop := b = p ∧ P
def TIEl (Y : Int → Value → Prop) (k : Int) (news : List (Addr × Obj)) (y : Value) (news' : List (Addr × Obj)) : Prop := news' = news ∧ Y k y
def TINo (news news' : List (Addr × Obj)) : Prop := news' = news
section
variable {prog : Program} {w : World} {A : Around} {h₀ : Heap} {L : Addr} {m : PySem.Str → Option Value} {env : Env} {ct elt : Expr} {x : PySem.Str} {scope : Scope} {cl : List (PySem.Str × Addr)} {s : Shared} {S : List (Addr × Obj) → Prop} {Fin : List Value → List (Addr × Obj) → Prop} {news : List (Addr × Obj)}
theorem rest_T {n : Nat} {a : Int} (p : Int → Bool) (Y : Int → Value → Prop)
    (turn : ∀ k t I oI C oC D m₂ ys h tk (E' : Value → Shared → Prop), a ≤ k → k < a + (n : Int) → NsObj oC m₂ → m₂ x = some (.int k t) → Fr h₀ L h m → News h₀ L h ((I, oI) :: (C, oC) :: (D, lst ys) :: news) → Off3 I C D news → ((@Ne Nat I C) ∧ (@Ne Nat I D) ∧ (@Ne Nat C D)) →
      wpAny (model prog w) A (isTrue ct (compEnvC scope cl C env) (eval ct (compEnvC scope cl C env))) (fun b s' => TIB b (p k) (if b = true then wpAny (model prog w) A (eval elt (compEnvC scope cl C env)) (CompEnd h₀ L m { s with heap := h, toks := tk } I oI C oC D (lst ys) S (fun y news' => TIEl Y k news y news')) E' s'
        else CompEnd h₀ L m { s with heap := h, toks := tk } I oI C oC D (lst ys) S (fun _ news' => TINo news news') Value.none s')) E' { s with heap := h, toks := tk })
    (fin : ∀ ys, VA Y ((rangeKs a n).filter p) ys → Fin ys news) : LCt.CompRestT prog w A h₀ L m env ct elt x scope cl s S (fun i v => ∃ t, v = .int (a + (i : Int)) t) Fin n 0 [] news := by
  have key : ∀ (j i : Nat) (ys : List Value), i + j = n → VA Y (((rangeKs a n).take i).filter p) ys → LCt.CompRestT prog w A h₀ L m env ct elt x scope cl s S (fun i v => ∃ t, v = .int (a + (i : Int)) t) Fin j i ys news := by
    intro j
    induction j with
    | zero =>
      intro i ys hi hy
      rw [List.take_of_length_le (by rw [rangeKs_length]; omega)] at hy
      exact LCt.CompRestT.zero (fin ys hy)
    | succ j ih =>
      intro i ys hi hy
      refine LCt.CompRestT.succ ?_
      intro v I oI C oC D m₂ h tk E' hv hC hx F N off ne
      obtain ⟨t, rfl⟩ := hv
      have hin : i < n := by omega
      have hk : (rangeKs a n)[i]? = some (a + (i : Int)) := by simp [rangeKs, hin]
      have hs : ((rangeKs a n).take (i + 1)).filter p = ((rangeKs a n).take i).filter p ++ (if p (a + (i : Int)) then [a + (i : Int)] else []) := by
        rw [List.take_add_one, hk, List.filter_append]
        simp [List.filter_cons]
      refine wpAny_mono (turn (a + (i : Int)) t I oI C oC D m₂ ys h tk E' (by omega) (by omega) hC hx F N off ne) (fun b s₂ hq => ?_) fun _ _ e => e
      obtain ⟨hb, hq⟩ := hq
      cases b with
      | true =>
        simp only [if_true] at hq ⊢
        refine wpAny_mono hq (fun y s₃ hr => ?_) fun _ _ e => e
        obtain ⟨h', tk', nw, e, F', N', off', hS, hn, hy'⟩ := hr
        rw [hn] at N' off' hS
        refine ⟨h', tk', news, e, F', N', off', hS, ih (i + 1) _ (by omega) ?_⟩
        rw [hs, ← hb, if_pos rfl]
        exact hy.snoc hy'
      | false =>
        simp only [Bool.false_eq_true, if_false] at hq ⊢
        obtain ⟨h', tk', nw, e, F', N', off', hS, hn⟩ := hq
        rw [hn] at N' off' hS
        refine ⟨h', tk', news, e, F', N', off', hS, ih (i + 1) _ (by omega) ?_⟩
        rw [hs, ← hb, if_neg (by decide), List.append_nil]
        exact hy
  exact key n 0 [] (by omega) .nil
end
end Mine
namespace Mine
theorem strs_at : ∀ {xs : List Value} {ns : List Str}, StrsAre xs ns → ∀ j (h : j < xs.length), ∃ t, xs[j] = .str (ns.getD j Str.empty) t
  | _, _, .nil, j, h => absurd h (Nat.not_lt_zero _)
  | _, _, .cons x t _, 0, _ => ⟨t, rfl⟩
  | _, _, .cons _ _ r, j + 1, h => by
    obtain ⟨t, e⟩ := strs_at r j (Nat.lt_of_succ_lt_succ h)
    exact ⟨t, by simpa using e⟩
section
variable {prog : Program} {w : World} {A : Around} {E : Value → Shared → Prop} {s : Shared} {a b : Addr} {xs ys : List Value} {ns ms : List Str} {Q : Value → Shared → Prop}
theorem ne_texts (ha : s.heap.IsList a xs.toArray) (hb : s.heap.IsList b ys.toArray) (hi : StrsAre xs ns) (hj : StrsAre ys ns) (hu : A.units < cLine) (h : Q (.bool false) s) :
    wpAny (model prog w) A (compareOp .NotEq (.ref a) (.ref b)) Q E s := by
  refine PySem.SeqAt.RcNeAt.lists (e := fun _ => true) ha hb (by rw [List.size_toArray, List.size_toArray, StrsAre.length hi, StrsAre.length hj]) hu (fun j h1 h2 => ?_) prog w E Q ?_
  · obtain ⟨t, e1⟩ := strs_at hi j (by simpa using h1)
    obtain ⟨u, e2⟩ := strs_at hj j (by simpa using h2)
    rw [List.getElem_toArray, List.getElem_toArray, e1, e2]
    have := PySem.SeqAt.EqAt.str_str (A := A.in1) (s := s) (ns.getD j Str.empty) t (ns.getD j Str.empty) u
    rwa [beq_self_eq_true] at this
  · have e : (List.range xs.toArray.size).all (fun _ => true) = true := by simp
    rw [e]; exact h
theorem ne_texts_same {h₀ : Heap} {L : Addr} {news : List (Addr × Obj)} {ca cb : Nat} (N : News h₀ L s.heap news) (ma : (a, listOf xs.toArray ca) ∈ news) (mb : (b, listOf ys.toArray cb) ∈ news) (hi : StrsAre xs ns) (hj : StrsAre ys ms) (e : ns = ms) (hu : A.units < cLine) (h : Q (.bool false) s) :
    wpAny (model prog w) A (compareOp .NotEq (.ref a) (.ref b)) Q E s := by
  subst e
  exact ne_texts ⟨_, (N _ ma).1, rfl, _, rfl⟩ ⟨_, (N _ mb).1, rfl, _, rfl⟩ hi hj hu h
end
end Mine
namespace Mine
def grayP (n : Int) : Int := Builtin.bitXor n (n.fdiv (2 ^ Int.toNat 1))
abbrev so2 : Str := Str.ofString "01"
def NOk (n : Int) : Prop := 0 ≤ n ∧ n < 1180591620717411303424
def binT (n w : Int) : Str := if (0 ≤ n ∧ n < 1180591620717411303424) ∧ 0 ≤ w ∧ w ≤ 100 then Txt.mul (Str.ofString "0") (w - ((DG 2 n.toNat).length : Int)) ++ DG 2 n.toNat else Str.ofString "0"
def TInv (b : Nat) (n₀ : Int) (text : Str) (n : Int) : Prop := 0 ≤ n ∧ NOk n₀ ∧ DG b n₀.toNat = DG b n.toNat ++ text
theorem ti_len {b : Nat} (hb : 2 ≤ b) {n₀ n : Int} {t : Str} (h : TInv b n₀ t n) : t.length ≤ 80 := by
  obtain ⟨_, h1, h2⟩ := h
  have : (DG b n₀.toNat).length ≤ 70 := by
    refine DG_len (by omega) ?_
    have e : (2 : Nat) ^ 70 = 1180591620717411303424 := by decide +kernel
    have := Nat.pow_le_pow_left hb 70
    unfold NOk at h1
    omega
  rw [h2, strLen_append] at this
  omega
theorem ti0 {b : Nat} {n : Int} (h : NOk n) : TInv b n (Str.ofString "") n ∧ (Str.ofString "").length ≤ 80 :=
  ⟨⟨h.1, h, (Str.append_empty _).symm⟩, by decide⟩
theorem dgb {b : Nat} (hb : 1 < b) {n : Int} (h : 0 < n) : DG b n.toNat = DG b (n / (b : Int)).toNat ++ DS [Nat.digitChar (n % (b : Int)).toNat] := by
  rw [DG_div hb (by omega)]
  have e1 : (n / (b : Int)).toNat = n.toNat / b := by
    conv => lhs; rw [← Int.toNat_of_nonneg (show 0 ≤ n by omega)]
    rw [← Int.natCast_ediv, Int.toNat_natCast]
  have e2 : (n % (b : Int)).toNat = n.toNat % b := by
    conv => lhs; rw [← Int.toNat_of_nonneg (show 0 ≤ n by omega)]
    rw [← Int.natCast_emod, Int.toNat_natCast]
  rw [e1, e2]
theorem n1 (n : Int) : Builtin.bitAnd n 1 = n % 2 := and_mask n 1
theorem b1lo (n : Int) : -((2 : Nat) : Int) ≤ Builtin.bitAnd n 1 := by rw [n1]; omega
theorem b1hi (n : Int) : Builtin.bitAnd n 1 < ((2 : Nat) : Int) := by rw [n1]; omega
theorem shr1 (n : Int) : n.fdiv (2 ^ Int.toNat 1) = n / 2 := by rw [fdivP]; rfl
theorem tiS {b : Nat} (hb : 2 ≤ b) {n₀ n : Int} {t : Str} (h : TInv b n₀ t n) (hp : 0 < n) : TInv b n₀ (DS [Nat.digitChar (n % (b : Int)).toNat] ++ t) (n / (b : Int)) := by
  obtain ⟨h0, h1, h2⟩ := h
  refine ⟨Int.ediv_nonneg h0 (by omega), h1, ?_⟩
  rw [h2, dgb (by omega) hp, Str.append_assoc]
theorem it2 {x : Int} (h0 : 0 ≤ x) (h1 : x < 2) : Txt.item so2 x = DS [Nat.digitChar x.toNat] := by
  have := sign2 x.toNat (by omega)
  rw [Int.toNat_of_nonneg h0] at this; exact this
theorem ti2 {n₀ n : Int} {t : Str} (h : TInv 2 n₀ t n) (hp : 0 < n) : TInv 2 n₀ (Txt.item so2 (Builtin.bitAnd n 1) ++ t) (n.fdiv (2 ^ Int.toNat 1)) ∧ (Txt.item so2 (Builtin.bitAnd n 1) ++ t).length ≤ 80 := by
  have key : TInv 2 n₀ (Txt.item so2 (Builtin.bitAnd n 1) ++ t) (n.fdiv (2 ^ Int.toNat 1)) := by
    rw [n1, shr1, it2 (by omega) (by omega)]
    exact tiS (b := 2) (by decide) h hp
  exact ⟨key, ti_len (by decide) key⟩
theorem less1 {n : Int} (h : 0 < n) : (n.fdiv (2 ^ Int.toNat 1)).toNat < n.toNat := by rw [shr1]; omega
theorem tiE {b : Nat} {n₀ n : Int} {t : Str} (h : TInv b n₀ t n) (hp : ¬ 0 < n) : t = DG b n₀.toNat := by
  obtain ⟨h0, h1, h2⟩ := h
  have e : n = 0 := by omega
  subst e
  rw [h2]
  exact (Str.empty_append _).symm
theorem tr2 {n₀ n w : Int} {t : Str} (h : TInv 2 n₀ t n) (hp : ¬ 0 < n) (hw : (0 ≤ n₀ ∧ n₀ < 1180591620717411303424) ∧ 0 ≤ w ∧ w ≤ 100) : Txt.mul (Str.ofString "0") (w - (t.length : Int)) ++ t = binT n₀ w := by
  unfold binT
  rw [tiE h hp, if_pos hw]
theorem dg70 {b : Nat} (hb : 2 ≤ b) {n : Int} (h1 : n < 1180591620717411303424) : (DG b n.toNat).length ≤ 70 := by
  refine DG_len (by omega) ?_
  have e : (2 : Nat) ^ 70 = 1180591620717411303424 := by decide +kernel
  have := Nat.pow_le_pow_left hb 70
  omega
theorem Z_len (n : Nat) : (Z n).length = n := by show (List.replicate n 48).toArray.size = n; simp
theorem bin_len (n w : Int) : (binT n w).length ≤ 200 := by
  unfold binT
  split
  · next h =>
    have := dg70 (b := 2) (by decide) h.1.2
    rw [strLen_append, mulZ, Z_len]
    omega
  · decide
theorem nok {n : Int} (h : 0 ≤ n ∧ n < 1180591620717411303424) : NOk n := h
theorem b0 : binT (grayP (0 + ((0 : Nat) : Int))) 3 = Str.ofString "000" := by decide +kernel
theorem b1 : binT (grayP (0 + ((0 + 1 : Nat) : Int))) 3 = Str.ofString "001" := by decide +kernel
theorem b2 : binT (grayP (0 + ((0 + 1 + 1 : Nat) : Int))) 3 = Str.ofString "011" := by decide +kernel
theorem b3 : binT (grayP (0 + ((0 + 1 + 1 + 1 : Nat) : Int))) 3 = Str.ofString "010" := by decide +kernel
theorem b4 : binT (grayP (0 + ((0 + 1 + 1 + 1 + 1 : Nat) : Int))) 3 = Str.ofString "110" := by decide +kernel
theorem b5 : binT (grayP (0 + ((0 + 1 + 1 + 1 + 1 + 1 : Nat) : Int))) 3 = Str.ofString "111" := by decide +kernel
theorem b6 : binT (grayP (0 + ((0 + 1 + 1 + 1 + 1 + 1 + 1 : Nat) : Int))) 3 = Str.ofString "101" := by decide +kernel
theorem b7 : binT (grayP (0 + ((0 + 1 + 1 + 1 + 1 + 1 + 1 + 1 : Nat) : Int))) 3 = Str.ofString "100" := by decide +kernel
section
 open PySem.Calls PyProof.V PySem.Spec
theorem tupIn {s : Shared} {h₀ : Heap} {L : Addr} {m : Str → Option Value} {K : Frag} {a : Addr} {od : Option Addr} {items : Array Value} {n : Nat} {sl : Array (Option Value)} (X : K.In h₀) (F : Fr h₀ L s.heap m) (ho : K.lookup a = some ⟨.type "tuple", od, .seq items n, sl⟩) : IsTup s.heap a items :=
  ⟨_, F.keep _ _ (X _ _ ho), rfl, n, rfl⟩
end
theorem dropR {g h : Heap} {L ia : Addr} {x y : Int} {a b c d e : Addr × Obj} {r : List (Addr × Obj)} (N : News g L h (a :: b :: c :: d :: (ia, itR x y) :: e :: r)) : News g L h (a :: (ia, itR x y) :: r) := fun p hp => N p (by
  simp only [List.mem_cons] at hp ⊢
  rcases hp with h | h | h
  · exact .inl h
  · exact .inr (.inr (.inr (.inr (.inl h))))
  · exact .inr (.inr (.inr (.inr (.inr (.inr h))))))
theorem dropK {g h : Heap} {L b : Addr} {l : List Value} {a : Addr × Obj} {r : List (Addr × Obj)} (N : News g L h (a :: (b, LCg.lst l) :: r)) : News g L h ((b, LCg.lst l) :: r) := fun p hp => N p (List.mem_cons_of_mem _ hp)
section
open PySem.Calls
variable {prog : Program} {w : World} {A : Around} {E : Value → Shared → Prop} {s : Shared} {value slice : PySem.Expr} {l : Addr} {vs : List Value} {i : Int} {u : Tok} {Q : Value → Shared → Prop}
def gl : List Str := [Str.ofString "000", Str.ofString "001", Str.ofString "011", Str.ofString "010", Str.ofString "110", Str.ofString "111", Str.ofString "101", Str.ofString "100"]
def gs (k : Int) : Str := gl.getD k.toNat Str.empty
theorem item_gs (hl : s.heap.IsList l vs.toArray) (hw : StrsAre vs gl) (h0 : 0 ≤ i) (h1 : i < 8) (h : ∀ t', Q (.str (gs i) t') s)
    (hs : subscripted slice false (.ref l) (.int i u) = operate [.ref l, .int i u] (getItem (.ref l) (.int i u)) := by with_unfolding_all rfl) :
    wpAny (model prog w) A (subscriptTail value slice (.ref l) (.int i u)) Q E s := KTb.item_list hl hw h0 (by show i < ((8 : Nat) : Int); omega) (by omega) (fun t' _ => h t') hs
theorem item_gsN {h₀ : Heap} {L : Addr} {news : List (Addr × Obj)} (N : News h₀ L s.heap news) (hm : (l, LCg.lst vs) ∈ news) (hw : StrsAre vs gl) (h0 : 0 ≤ i) (h1 : i < 8) (h : ∀ t', Q (.str (gs i) t') s)
    (hs : subscripted slice false (.ref l) (.int i u) = operate [.ref l, .int i u] (getItem (.ref l) (.int i u)) := by with_unfolding_all rfl) :
    wpAny (model prog w) A (subscriptTail value slice (.ref l) (.int i u)) Q E s := item_gs ⟨_, (N _ hm).1, rfl, _, rfl⟩ hw h0 h1 h hs
end
theorem f8lo (x : Int) : 0 ≤ x.fmod 8 := by rw [Int.fmod_eq_emod_of_nonneg _ (by decide)]; omega
theorem f8hi (x : Int) : x.fmod 8 < 8 := by rw [Int.fmod_eq_emod_of_nonneg _ (by decide)]; omega
theorem gs_all {P : Int → Prop} (h : ∀ j : Nat, j < 8 → P (j : Int)) (x : Int) : P (x.fmod 8) := by
  have := h (x.fmod 8).toNat (by have := f8hi x; have := f8lo x; omega)
  rwa [Int.toNat_of_nonneg (f8lo x)] at this
theorem gs_len (x : Int) : (gs (x.fmod 8)).length = 3 := gs_all (P := fun k => (gs k).length = 3) (by decide +kernel) x
def pf (l : List Int) : Int × Int := l.foldl (fun nb c => (2 * nb.1 + (if c = 49 then 1 - nb.2 else nb.2), if c = 49 then 1 - nb.2 else nb.2)) (0, 0)
def plc (t : Str) : Int := (pf (KStt.codes t)).1
def PInv (pre : List Int) (bit number : Int) : Prop := bit = (pf pre).2 ∧ number = (pf pre).1
theorem p0 : PInv [] 0 0 := ⟨rfl, rfl⟩
theorem p1 {pre : List Int} {b n c : Int} (h : PInv pre b n) (hc : c = 49) : PInv (pre ++ [c]) (1 - b) (2 * n + (1 - b)) := by
  obtain ⟨rfl, rfl⟩ := h
  unfold PInv pf
  rw [List.foldl_append]
  simp only [List.foldl_cons, List.foldl_nil, if_pos hc, and_self]
theorem p2 {pre : List Int} {b n c : Int} (h : PInv pre b n) (hc : c ≠ 49) : PInv (pre ++ [c]) b (2 * n + b) := by
  obtain ⟨rfl, rfl⟩ := h
  unfold PInv pf
  rw [List.foldl_append]
  simp only [List.foldl_cons, List.foldl_nil, if_neg hc, and_self]
theorem one_is {k : Nat} : ((⟨#[k]⟩ : Str) == Str.ofString "1") = decide (k = 49) := by
  rw [show Str.ofString "1" = ⟨#[49]⟩ from rfl]
  by_cases h : k = 49
  · subst h; rfl
  · rw [decide_eq_false h]
    apply beq_false_of_ne
    intro e
    apply h
    have : (#[k] : Array Nat) = #[49] := congrArg Str.cps e
    simpa using this
theorem q1 {pre : List Int} {b n : Int} {k : Nat} (h : PInv pre b n) (hc : ((⟨#[k]⟩ : Str) == Str.ofString "1") = true) : PInv (pre ++ [(k : Int)]) (1 - b) (2 * n + (1 - b)) := by
  rw [one_is] at hc
  exact p1 h (by have := of_decide_eq_true hc; omega)
theorem q2 {pre : List Int} {b n : Int} {k : Nat} (h : PInv pre b n) (hc : ¬ ((⟨#[k]⟩ : Str) == Str.ofString "1") = true) : PInv (pre ++ [(k : Int)]) b (2 * n + b) := by
  rw [one_is] at hc
  exact p2 h (by have h7 : ¬ k = 49 := (fun e => hc (decide_eq_true e)); omega)
theorem q3 {pre : List Int} {b n : Int} {k : Nat} (h : PInv pre b n) (hc : ((⟨#[k]⟩ : Str) == Str.ofString "1") = false) : PInv (pre ++ [(k : Int)]) b (2 * n + b) := q2 h (by rw [hc]; decide)
theorem ptree {t : Str} {b n : Int} (h : PInv (KStt.codes t) b n) : n = plc t := h.2
theorem plc_gs (x : Int) : plc (gs (x.fmod 8)) = x.fmod 8 := gs_all (P := fun k => plc (gs k) = k) (by decide +kernel) x
theorem ite_one {P Q : Prop} (h : Q) : if ((1 : Int) != 1) = true then P else Q := by
  rw [if_neg (by decide)]; exact h
theorem ite_both {c : Prop} [Decidable c] {a b : Prop} (h1 : c → a) (h2 : ¬ c → b) : ite c a b := by
  by_cases h : c
  · rw [if_pos h]; exact h1 h
  · rw [if_neg h]; exact h2 h
structure KMark : Prop where
def tp (c k : Int) : Bool := Txt.item (gs (c.fmod 8)) k != Txt.item (gs ((c.fmod 8 + 1).fmod 8)) k
theorem ti_rangeC {prog : Program} {w : World} {A : Around} {h₀ : Heap} {L : Addr} {m : Str → Option Value} {env : Env} {ct elt : Expr} {x : Str} {scope : Scope} {cl : List (Str × Addr)} {s : Shared} {S : List (Addr × Obj) → Prop} {Fin : List Value → List (Addr × Obj) → Prop} {news : List (Addr × Obj)} {n : Nat} {a c : Int} {o : Obj} {tc : Tok}
    (_hc : o.data = Data.cell (some (Value.str (gs ((c.fmod 8 + 1).fmod 8)) tc)))
    (turn : ∀ k t I oI C oC D m₂ ys h tk (E' : Value → Shared → Prop), a ≤ k → k < a + (n : Int) → LCg.NsObj oC m₂ → m₂ x = some (.int k t) → Fr h₀ L h m → News h₀ L h ((I, oI) :: (C, oC) :: (D, LCg.lst ys) :: news) → LCg.Off3 I C D news → ((@Ne Nat I C) ∧ (@Ne Nat I D) ∧ (@Ne Nat C D)) → KMark →
      wpAny (model prog w) A (isTrue ct (compEnvC scope cl C env) (eval ct (compEnvC scope cl C env))) (fun b s' => TIB b (tp c k) (if b = true then wpAny (model prog w) A (eval elt (compEnvC scope cl C env)) (LCg.CompEnd h₀ L m { s with heap := h, toks := tk } I oI C oC D (LCg.lst ys) S (fun y news' => TIEl isI k news y news')) E' s'
        else LCg.CompEnd h₀ L m { s with heap := h, toks := tk } I oI C oC D (LCg.lst ys) S (fun _ news' => TINo news news') Value.none s')) E' { s with heap := h, toks := tk })
    (fin : ∀ ys, VA isI ((rangeKs a n).filter (tp c)) ys → Fin ys news) : LCt.CompRestT prog w A h₀ L m env ct elt x scope cl s S (fun i v => ∃ t, v = .int (a + (i : Int)) t) Fin n 0 [] news := rest_T (tp c) isI (fun k t I oI C oC D m₂ ys h tk E' a b c d e f g i => turn k t I oI C oC D m₂ ys h tk E' a b c d e f g i ⟨⟩) fin
theorem va_len {Y : Int → Value → Prop} : ∀ {ks : List Int} {vs : List Value}, VA Y ks vs → vs.length = ks.length
  | _, _, .nil => rfl
  | _, _, .cons _ r => by rw [List.length_cons, List.length_cons, va_len r]
theorem one_turned {c : Int} {ys : List Value} (h : VA isI ((rangeKs 0 3).filter (tp c)) ys) : ys.length = 1 := by
  rw [va_len h]
  exact gs_all (P := fun k => ((rangeKs 0 3).filter fun i => Txt.item (gs k) i != Txt.item (gs ((k + 1).fmod 8)) i).length = 1) (by decide +kernel) c
theorem len1 {prog : Program} {w : World} {A : Around} {E : Value → Shared → Prop} {s : Shared} {h₀ : Heap} {L l : Addr} {news : List (Addr × Obj)} {ys : List Value} {c : Int} {Q : Value → Shared → Prop} (h : VA isI ((rangeKs 0 3).filter (tp c)) ys) (N : News h₀ L s.heap news) (hm : (l, LCg.lst ys) ∈ news)
    (k : Q (.int 1 (s.toks + 1)) { s with toks := s.toks + 1 + 1 }) : wpAny (model prog w) A (call (.builtin "len") [.ref l]) Q E s := kst_len N hm (one_turned h) (by decide) k
theorem k3lo {k : Int} (h : 0 ≤ k) : -((3 : Nat) : Int) ≤ k := by omega
theorem k3hi {k : Int} (h : k < 0 + ((3 : Nat) : Int)) : k < ((3 : Nat) : Int) := by omega
theorem e_plc {x : Int} (h : plc (gs (x.fmod 8)) ≠ x.fmod 8) : False := h (plc_gs x)
theorem mkCb {prog : Program} {w : World} {A : Around} {α : Type} {T : Sem α} {Q : α → Shared → Prop} {E : Value → Shared → Prop} {s : Shared} {K : Frag} {p : Program} {loose : List Str} {mean : ExcName → Option Value} {mg mb : Str → Option Value} {h₀ h₁ : Heap} {f : Addr}
    (_T : Top p loose mean mg mb h₀) (_X : K.In h₁) (c : CbC f 0 (∀ (cbNews : CbLed) (cbV0 : CbStr) (cbT0 : CbTok), CbClaim prog w K p loose mean mg mb f cbNews [] True [Value.str cbV0 cbT0] (fun t => Value.int (plc cbV0) t)))
    (k : CbC f 0 (∀ (cbNews : CbLed) (cbV0 : CbStr) (cbT0 : CbTok), CbClaim prog w K p loose mean mg mb f cbNews [] True [Value.str cbV0 cbT0] (fun t => Value.int (plc cbV0) t)) → wpAny (model prog w) A T Q E s) : wpAny (model prog w) A T Q E s := k c
def FgC (prog : Program) (w : World) (K : Frag) (p : Program) (loose : List Str) (mean : ExcName → Option Value) (mg mb : Str → Option Value) (f : Addr) : Prop :=
  ∀ (dp un : Nat) (gd : Option (List Code)) (cn : Str) (cs : Scope) (a : Addr) (ccd : Value) (cl : List (Str × Addr)) (outer : List Env) (A₀ : Around) (base h₀ : Heap) (L : Addr) (m : Str → Option Value) (s : Shared) (Q E : Value → Shared → Prop) (news : List (Addr × Obj)),
    Below A₀ base outer h₀ → Fr h₀ L s.heap m → K.In h₀ → News h₀ L s.heap news → Top p loose mean mg mb h₀ → cs.kind = .function → dp + 4 < recursionLimit → un + 40 < cLine →
    (∀ (D : Addr) (h' : Heap) (tk' : Nat) (t0 t1 t2 t3 t4 t5 t6 t7 : Tok), Fr h₀ L h' m → News h₀ L h' ((D, LCg.lst [Value.str (Str.ofString "000") t0, Value.str (Str.ofString "001") t1, Value.str (Str.ofString "011") t2, Value.str (Str.ofString "010") t3, Value.str (Str.ofString "110") t4, Value.str (Str.ofString "111") t5, Value.str (Str.ofString "101") t6, Value.str (Str.ofString "100") t7]) :: news) → LCg.Off1 D news → Q (.ref D) { s with heap := h', toks := tk' }) →
      wpAny (model prog w) (ktrTop dp un gd cn cs L a ccd cl outer) (call (.ref f) []) Q E s
theorem use_fg {prog : Program} {w : World} {K : Frag} {p : Program} {loose : List Str} {mean : ExcName → Option Value} {mg mb : Str → Option Value} {f : Addr} (c : FgC prog w K p loose mean mg mb f)
    {dp un : Nat} {gd : Option (List Code)} {cn : Str} {cs : Scope} {a : Addr} {ccd : Value} {cl : List (Str × Addr)} {outer : List Env} {A₀ : Around} {base h₀ : Heap} {L : Addr} {m : Str → Option Value} {s : Shared} {Q E : Value → Shared → Prop} {news : List (Addr × Obj)}
    (k1 : Below A₀ base outer h₀) (k2 : Fr h₀ L s.heap m) (k3 : K.In h₀) (k4 : News h₀ L s.heap news) (k5 : Top p loose mean mg mb h₀) (kK : cs.kind = .function) (kd : dp + 4 < recursionLimit) (ku : un + 40 < cLine)
    (kR : ∀ (D : Addr) (h' : Heap) (tk' : Nat) (t0 t1 t2 t3 t4 t5 t6 t7 : Tok), Fr h₀ L h' m → News h₀ L h' ((D, LCg.lst [Value.str (Str.ofString "000") t0, Value.str (Str.ofString "001") t1, Value.str (Str.ofString "011") t2, Value.str (Str.ofString "010") t3, Value.str (Str.ofString "110") t4, Value.str (Str.ofString "111") t5, Value.str (Str.ofString "101") t6, Value.str (Str.ofString "100") t7]) :: news) → LCg.Off1 D news → Q (.ref D) { s with heap := h', toks := tk' }) :
    wpAny (model prog w) (ktrTop dp un gd cn cs L a ccd cl outer) (call (.ref f) []) Q E s := c dp un gd cn cs a ccd cl outer A₀ base h₀ L m s Q E news k1 k2 k3 k4 k5 kK kd ku kR
theorem mkFg {prog : Program} {w : World} {A : Around} {α : Type} {T : Sem α} {Q : α → Shared → Prop} {E : Value → Shared → Prop} {s : Shared} {K : Frag} {p : Program} {loose : List Str} {mean : ExcName → Option Value} {mg mb : Str → Option Value} {h₀ h₁ : Heap} {f : Addr}
    (_T : Top p loose mean mg mb h₀) (_X : K.In h₁) (c : FgC prog w K p loose mean mg mb f)
    (k : FgC prog w K p loose mean mg mb f → wpAny (model prog w) A T Q E s) : wpAny (model prog w) A T Q E s := k c
theorem strs8 (t0 t1 t2 t3 t4 t5 t6 t7 : Tok) : StrsAre [Value.str (Str.ofString "000") t0, Value.str (Str.ofString "001") t1, Value.str (Str.ofString "011") t2, Value.str (Str.ofString "010") t3, Value.str (Str.ofString "110") t4, Value.str (Str.ofString "111") t5, Value.str (Str.ofString "101") t6, Value.str (Str.ofString "100") t7] gl := .cons _ _ (.cons _ _ (.cons _ _ (.cons _ _ (.cons _ _ (.cons _ _ (.cons _ _ (.cons _ _ .nil)))))))
theorem ne_gl {prog : Program} {w : World} {A : Around} {E : Value → Shared → Prop} {s : Shared} {a b : Addr} {Q : Value → Shared → Prop} {h₀ : Heap} {L : Addr} {news : List (Addr × Obj)} {t0 t1 t2 t3 t4 t5 t6 t7 u0 u1 u2 u3 u4 u5 u6 u7 : Tok} (N : News h₀ L s.heap news)
    (ma : (a, LCg.lst [Value.str (Str.ofString "000") t0, Value.str (Str.ofString "001") t1, Value.str (Str.ofString "011") t2, Value.str (Str.ofString "010") t3, Value.str (Str.ofString "110") t4, Value.str (Str.ofString "111") t5, Value.str (Str.ofString "101") t6, Value.str (Str.ofString "100") t7]) ∈ news)
    (mb : (b, LCg.lst [Value.str (Str.ofString "000") u0, Value.str (Str.ofString "001") u1, Value.str (Str.ofString "011") u2, Value.str (Str.ofString "010") u3, Value.str (Str.ofString "110") u4, Value.str (Str.ofString "111") u5, Value.str (Str.ofString "101") u6, Value.str (Str.ofString "100") u7]) ∈ news)
    (hu : A.units < cLine) (h : Q (.bool false) s) : wpAny (model prog w) A (compareOp .NotEq (.ref a) (.ref b)) Q E s := ne_texts_same N ma mb (strs8 ..) (strs8 ..) rfl hu h
theorem gen_toks {α : Type} {M : Model} {A : Around} {T : Sem α} {Q : α → Shared → Prop} {E : Value → Shared → Prop} {h : Heap} {g d os} {X : Nat} (k : ∀ tk, wpAny M A T Q E ⟨h, g, d, tk, os⟩) : wpAny M A T Q E ⟨h, g, d, X, os⟩ := k X
end Mine
local macro_rules | `(tactic| walk_at "execs nil") => `(tactic| ((with_reducible show wpAny _ _ _ _ _ ⟨_, _, _, _ + 1, _⟩); (with_reducible refine Mine.gen_toks (fun tk9 => ?_))))
local macro_rules | `(tactic| walk_at "execs cons") => `(tactic| ((with_reducible show wpAny _ _ _ _ _ ⟨_, _, _, _ + 1, _⟩); (with_reducible refine Mine.gen_toks (fun tk9 => ?_))))
local macro_rules | `(tactic| walk_at "subscriptTail") => `(tactic| (k_here; (with_reducible show wpAny _ _ (subscriptTail _ _ (Value.str _ _) (Value.int (Builtin.bitAnd _ 1) _)) _ _ _); (refine KXi.item (n := 2) (by decide) (Mine.b1lo _) (Mine.b1hi _) (by decide) ?_); intro kxiE))
local macro_rules | `(tactic| l_fact) => `(tactic| ((with_reducible show (0 ≤ Mine.grayP _ ∧ _) ∧ _); first | decide +kernel))
local macro_rules | `(tactic| walk_at "call type:list") => `(tactic| (k_here; (with_reducible show wpAny _ _ (call (Value.type _) [Value.ref _]) _ _ _); (with_unfolding_all (refine' list_copyKT ?k1 ?k2 (Mine.tupIn ?kx ?kf ?ko) ?_ ?z; (case k1 => k_asm); (case k2 => k_asm); (case kx => k_asm); (case kf => k_asm); (case ko => k_is); (case z => size_fits); k_whole); intro D' c' h' F' N' l1; (try k_lt l1); (try k_sweep))))
local macro_rules | `(tactic| walk_at "compareOp NotEq ref ref") => `(tactic| ((rename News _ _ _ _ => lN9); (simp only [Mine.b0, Mine.b1, Mine.b2, Mine.b3, Mine.b4, Mine.b5, Mine.b6, Mine.b7] at lN9)))
local macro_rules | `(tactic| walk_at "ite") => `(tactic| ((with_reducible show ite (((Str.mk #[_]) == _) = true) _ _); (with_reducible refine Mine.ite_both (fun hI9 => ?_) (fun hI9 => ?_))))
local macro_rules | `(tactic| walk_at "CompEnd") => `(tactic| ((rename LCg.Off3 _ _ _ _ => hO9); (rename News _ _ _ _ => lN9); k_dflt (refine LCg.CompEnd.intro (by with_reducible assumption) lN9 _ (fun p hp => hp) hO9 trivial ?_)))
local macro_rules | `(tactic| walk_at "call ref") => `(tactic| ((with_reducible show wpAny _ _ (call (Value.ref _) []) _ _ _); (rename Mine.FgC _ _ _ _ _ _ _ _ _ => hFg9); k_dflt (refine' Mine.use_fg hFg9 ?k1 ?k2 ?k3 ?k4 ?k5 ?kK ?kd ?ku ?_; (case k1 => k_asm); (case k2 => k_asm); (case k3 => k_asm); (case k4 => k_asm); (case k5 => k_asm); (case kK => first | exact rfl | assumption); (case kd => ktr_room); (case ku => ktr_units)); intro D' h' tk' t0' t1' t2' t3' t4' t5' t6' t7' F' N' o1'; (try simp only [LCg.Off1, and_true] at o1'); (try dsimp only); (try k_fold)))
local macro_rules | `(tactic| walk_at "call ref") => `(tactic| ((fail_if_success (rename Mine.FgC _ _ _ _ _ _ _ _ _ => hX9)); (fail_if_success (rename CbIn 990 => hX9)); (rename Top _ _ _ _ _ _ => T9); (rename Frag.In _ _ => X9); k_dflt ((refine Mine.mkFg (f := 33) T9 X9 ?cc (fun Fg9 => ?_)); (case cc => ((unfold Mine.FgC); intros; rename_i hret; (have cbI : CbIn 990 := CbIn.mk); (refine wpAny_call ?_); cell_enter; k_steps; all_goals (((rename News _ _ _ _ => lN9); (simp only [Mine.b0, Mine.b1, Mine.b2, Mine.b3, Mine.b4, Mine.b5, Mine.b6, Mine.b7] at lN9); (refine' hret _ _ _ _ _ _ _ _ _ _ _ ?f9 lN9 ?o9); (case f9 => k_asm); (case o9 => k_asm))))))))
local macro_rules | `(tactic| walk_at "call ref") => `(tactic| ((fail_if_success (rename CbC 53 0 _ => hX9)); (rename Top _ _ _ _ _ _ => T9); (rename Frag.In _ _ => X9); k_dflt ((refine Mine.mkCb (f := 53) T9 X9 ?cc (fun Cb9 => ?_)); (case cc => ((unfold CbC); (dsimp only [CbClaim, CbLists, CbRet]); intros; rename_i hret; (have cbI : CbIn 53 := CbIn.mk); (refine wpAny_call ?_); cell_enter; k_steps; all_goals cb_end hret)))))
local macro_rules | `(tactic| walk_at "execs cons") => `(tactic| ((rename LCg.NsObj _ _ => hC9); (clear hC9)))
local macro_rules | `(tactic| walk_at "execs cons") => `(tactic| ((with_reducible rename (_ = some (Value.str _ _)) => hC9); (clear hC9)))
local macro_rules | `(tactic| walk_at "CompSrcT") => `(tactic| (k_here; (rename (_ = Data.cell (some (Value.str (Mine.gs (Int.fmod (Int.fmod _ 8 + 1) 8)) _))) => hc9); (rename Fr _ _ _ _ => lF9); (rename News _ _ _ _ => lN9); (try simp only [List.nil_append, List.cons_append] at lN9); (rename IsRange _ _ _ _ _ _ _ _ => rg9); k_dflt (refine' LCt.CompSrcT.range (n := 3) ?e1 lF9 lN9 rg9 ?e2 ?e3 ?e4 ?_; (case e1 => rfl); (case e2 => decide); (case e3 => rfl); (case e4 => exact Nat.le_of_ble_eq_true rfl); intro g'; (refine Mine.ti_rangeC hc9 (fun k' t' I' oI' C' oC' D' m' ys' h' tk' E' hlo' hhi' hC' hx' F' N' off' ne' hMk' => ?_) (fun ys' hVA' => ?_)); (all_goals (try (simp only [LCg.Off3, and_true] at off'))))))
local macro_rules | `(tactic| walk_at "eval Name") => `(tactic| (k_here; (with_reducible show wpAny _ _ (eval (Expr.Name _ _) (compEnvC _ _ _ _)) _ _ _); (rename Mine.KMark => hM9); k_dflt (first | ((refine' lcf_cell ?N ?c ?m ?d ?_ ?a ?b; (case a => rfl); (case b => rfl); (case N => k_asm); (case c => rfl); (case m => k_mem); (case d => k_asm); k_whole)) | ((refine LCgL.ld_own (by k_asm) (by k_mem) (by assumption) (by assumption) ?_)))))
local macro_rules | `(tactic| walk_at "ite") => `(tactic| ((with_reducible show ite (((1 : Int) != 1) = true) _ _); (with_reducible refine Mine.ite_one ?_)))
local macro_rules | `(tactic| walk_at "TIB") => `(tactic| (k_dflt ((unfold Mine.TIB); (refine ⟨?z9, ?_⟩); (case z9 => exact rfl))))
local macro_rules | `(tactic| walk_at "TIEl") => `(tactic| (k_dflt (exact ⟨rfl, _, rfl⟩)))
local macro_rules | `(tactic| walk_at "TINo") => `(tactic| (k_dflt (exact rfl)))
local macro_rules | `(tactic| walk_at "ite") => `(tactic| ((with_reducible show ite ((Txt.item _ _ != Txt.item _ _) = true) _ _); (with_reducible refine Mine.ite_both (fun hI9 => ?_) (fun hI9 => ?_))))
local macro_rules | `(tactic| walk_at "call builtin:len") => `(tactic| (k_here; (with_reducible show wpAny _ _ (call (Value.builtin _) [Value.ref _]) _ _ _); (rename Mine.VA _ _ _ => hV9); (rename News _ _ _ _ => lN9); (k_dflt (refine Mine.len1 hV9 lN9 (List.Mem.head _) ?_))))
local macro_rules | `(tactic| lcg_off) => `(tactic| ((try simp only [LCg.Off3, and_true]); with_reducible assumption))
local macro_rules | `(tactic| walk_at "CompRest") => `(tactic| ((rename (_ ≠ _) ∧ _ => hC9); (clear hC9)))
local macro_rules | `(tactic| walk_at "subscriptTail") => `(tactic| (k_here; (with_reducible show wpAny _ _ (subscriptTail _ _ (Value.ref _) (Value.int (Int.fmod _ 8) _)) _ _ _); (((rename News _ _ _ _ => lN9); (refine' Mine.item_gsN lN9 (List.Mem.tail _ (List.Mem.head _)) ?w9 (Mine.f8lo _) (Mine.f8hi _) ?_); (case w9 => with_unfolding_all exact .cons _ _ (.cons _ _ (.cons _ _ (.cons _ _ (.cons _ _ (.cons _ _ (.cons _ _ (.cons _ _ .nil)))))))); (intro _)))))
local macro_rules | `(tactic| walk_at "subscriptTail Name Name ref int") => `(tactic| (k_here; (with_reducible show wpAny _ _ (subscriptTail _ _ (Value.ref _) (Value.int (Int.fmod _ 8) _)) _ _ _); (((rename News _ _ _ _ => lN9); (refine' Mine.item_gsN lN9 (List.Mem.tail _ (List.Mem.head _)) ?w9 (Mine.f8lo _) (Mine.f8hi _) ?_); (case w9 => with_unfolding_all exact .cons _ _ (.cons _ _ (.cons _ _ (.cons _ _ (.cons _ _ (.cons _ _ (.cons _ _ (.cons _ _ .nil)))))))); (intro _)))))
local macro_rules | `(tactic| walk_at "subscriptTail Name BinOp ref int") => `(tactic| (k_here; (with_reducible show wpAny _ _ (subscriptTail _ _ (Value.ref _) (Value.int (Int.fmod _ 8) _)) _ _ _); (((rename News _ _ _ _ => lN9); (refine' Mine.item_gsN lN9 (List.Mem.tail _ (List.Mem.head _)) ?w9 (Mine.f8lo _) (Mine.f8hi _) ?_); (case w9 => with_unfolding_all exact .cons _ _ (.cons _ _ (.cons _ _ (.cons _ _ (.cons _ _ (.cons _ _ (.cons _ _ (.cons _ _ .nil)))))))); (intro _)))))
local macro_rules | `(tactic| walk_at "subscriptTail") => `(tactic| (k_here; (with_reducible show wpAny _ _ (subscriptTail _ _ (Value.str (Mine.gs (Int.fmod _ 8)) _) (Value.int _ _)) _ _ _); ((refine KXi.item (n := 3) (Mine.gs_len _) (Mine.k3lo (by with_reducible assumption)) (Mine.k3hi (by with_reducible assumption)) (by decide) ?_); intro kxiE)))
local macro_rules | `(tactic| walk_at "subscriptTail Name Name str int") => `(tactic| (k_here; (with_reducible show wpAny _ _ (subscriptTail _ _ (Value.str (Mine.gs (Int.fmod _ 8)) _) (Value.int _ _)) _ _ _); ((refine KXi.item (n := 3) (Mine.gs_len _) (Mine.k3lo (by with_reducible assumption)) (Mine.k3hi (by with_reducible assumption)) (by decide) ?_); intro kxiE)))
local macro_rules | `(tactic| walk_at "execs cons") => `(tactic| ((rename (_ ≠ _) ∧ _ => hC9); (clear hC9)))
local macro_rules | `(tactic| walk_at "UnrPost") => `(tactic| ((rename News _ _ _ _ => lN9); (obtain N8 := Mine.dropR lN9); (clear lN9); (repeat ((rename (_ ≠ _) ∧ _ => hC9); (clear hC9))); dsimp only [UnrPost]))
local macro_rules | `(tactic| walk_at "execs cons") => `(tactic| ((rename (_ + _ ≤ Str.length _) ∧ _ => hC9); (clear hC9)))
local macro_rules | `(tactic| walk_at "execs cons") => `(tactic| ((rename Str.length _ ≤ 200 => hC9); (clear hC9)))
local macro_rules | `(tactic| walk_at "eval BinOp") => `(tactic| ((rename (_ + _ ≤ Str.length _) ∧ _ => hC9); (clear hC9)))
local macro_rules | `(tactic| walk_at "call ref") => `(tactic| ((with_reducible show wpAny _ _ (call (Value.ref _) [Value.int 3 _]) _ _ _); (rename News _ _ _ _ => lN9); (obtain N8 := Mine.dropK lN9); (clear lN9); (repeat ((rename (_ ≠ _) ∧ _ => hC9); (clear hC9))); (repeat ((rename InElt _ _ => hC9); (clear hC9))); (repeat ((rename LCg.NsObj _ _ => hC9); (clear hC9)))))
local macro_rules | `(tactic| walk_at "callWith ref nil nil") => `(tactic| (k_here; (with_reducible show wpAny _ _ (callWith _ (Value.ref 33) _ _ _) _ _ _); (rename Fr _ _ _ _ => lF9); k_dflt (refine' callWith_K0 (Frag.In.keeps (by with_reducible assumption) (Fr.keep lF9)) ?k2 ?_; (case k2 => k_is); k_whole; try dsimp only [List.nil_append, List.cons_append])))
local macro_rules | `(tactic| walk_at "And") => `(tactic| ((with_reducible show Frag.In _ _ ∧ _); (rename Fr _ _ _ _ => lF9); (refine ⟨Frag.In.keeps (by with_reducible assumption) (Fr.keep lF9), ?_⟩); try dsimp only [List.nil_append, List.cons_append]))
local macro_rules | `(tactic| walk_at "compareOp NotEq ref ref") => `(tactic| ((rename Mine.VA _ _ _ => hV9); (rename News _ _ _ _ => lN9); (k_dflt (refine' Mine.ne_gl lN9 ?ma ?mb ?hu ?_; (case ma => k_mem); (case mb => k_mem); (case hu => first | units_room | exact Nat.le_of_ble_eq_true rfl | omega)))))
set_option maxRecDepth 100000 in
set_option maxHeartbeats 8000000 in
theorem PySem.Challenge.cw_k5_0101_holds : PySem.Challenge.rw_k5_0101.Holds := by
  (k_with "call ref" => k_call_by "to_gray" Mine.grayP)
  (k_with "call ref" => k_call_by "binary_text" Mine.binT (fun (n w : Int) => (0 ≤ n ∧ n < 1180591620717411303424) ∧ 0 ≤ w ∧ w ≤ 100))
  (k_with "call ref" => k_call_by "_law_place_of" Mine.plc)
  (k_with "pyIter str" => k_state (fun pre bit number => Mine.PInv pre bit number) "bit" "number")
  (k_with "fact binary_text" => exact Mine.bin_len)
  (k_with "tree" => first | ((with_reducible show _ = Mine.grayP _); dsimp only [Mine.grayP]) | ((with_reducible show _ = Mine.plc _); (with_reducible exact Mine.ptree (by assumption))) | ((with_reducible show _ = Mine.binT _ _); (with_reducible exact Mine.tr2 (by assumption) (by assumption) (by assumption))))
  (k_with "exec While Compare cons nil" => k_while_given ["n!"] (fun n₀ _ text n => Mine.TInv 2 n₀ text n ∧ text.length ≤ 80) (fun _ _ _ n => n.toNat) "text" "n")
  (k_with "measure" => with_reducible exact Mine.less1 (by assumption))
  (k_with "state" => first | ((with_reducible show Mine.PInv _ _ _); with_reducible first | exact Mine.p0 | (refine Mine.q1 ?_ ?_ <;> assumption) | (refine Mine.q2 ?_ ?_ <;> assumption)) | ((with_reducible show Mine.TInv _ _ _ _ ∧ _); with_reducible first | exact Mine.ti0 (Mine.nok (And.left (by assumption))) | exact Mine.ti2 (by assumption) (by assumption)))
  (k_with "end" => first | ((with_reducible show (true == true) = true); exact rfl) | ((with_reducible show (false == true) = true); first | (with_reducible exact (Mine.e_plc (by assumption)).elim)))
  open_k
