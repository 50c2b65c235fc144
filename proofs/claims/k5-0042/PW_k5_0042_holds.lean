import PyProof.Rows.All
import Wide.All
import OpenK.AllK
import Wide.FinOn
import PySem.Challenge.RW_k5_0042
open PySem PySem.W PyProof.Rows
set_option Elab.async false
namespace Mine
/-- bit i of an int, in two's complement -/
def tb (x : Int) (i : Nat) : Bool := decide (x / 2 ^ i % 2 = 1)

theorem pcast (k : Nat) : ((2 ^ k : Nat) : Int) = (2 : Int) ^ k := by
  induction k with
  | zero => simp
  | succ n ih => rw [Nat.pow_succ, Int.pow_succ, ← ih]; omega
theorem ppos (k : Nat) : (0 : Int) < 2 ^ k := by
  rw [← pcast]; have := Nat.two_pow_pos k; omega
theorem psucc (k : Nat) : (2 : Int) ^ (k + 1) = 2 * 2 ^ k := by rw [Int.pow_succ]; omega
theorem padd (a b : Nat) : (2 : Int) ^ (a + b) = 2 ^ a * 2 ^ b := Int.pow_add ..
theorem half_pow (x : Int) (i : Nat) : x / 2 ^ (i + 1) = x / 2 / 2 ^ i := by
  rw [psucc, Int.ediv_ediv_of_nonneg (by omega : (0 : Int) ≤ 2)]
theorem tb_zero (x : Int) : tb x 0 = decide (x % 2 = 1) := by simp [tb]
theorem tb_succ (x : Int) (i : Nat) : tb x (i + 1) = tb (x / 2) i := by unfold tb; rw [half_pow]
theorem and_half (x y : Int) : Builtin.bitAnd x y / 2 = Builtin.bitAnd (x / 2) (y / 2) ∧ (Builtin.bitAnd x y % 2 = 1 ↔ (x % 2 = 1 ∧ y % 2 = 1)) := by
  have pn : ∀ x y : Int, 0 ≤ x → ¬ 0 ≤ y → Builtin.bitAnd x y / 2 = Builtin.bitAnd (x / 2) (y / 2) ∧ (Builtin.bitAnd x y % 2 = 1 ↔ (x % 2 = 1 ∧ y % 2 = 1)) := by
    intro x y hx hy
    rw [bitAnd_pn hx hy, bitAnd_pn (show 0 ≤ x / 2 by omega) (show ¬ 0 ≤ y / 2 by omega)]
    have e1 : (x / 2).toNat = x.toNat / 2 := by omega
    have e2 : (Builtin.bitNot (y / 2)).toNat = (Builtin.bitNot y).toNat / 2 := by unfold Builtin.bitNot; omega
    have e3 : ((Builtin.bitNot y).toNat : Int) = -y - 1 := by unfold Builtin.bitNot; omega
    rw [e1, e2]
    have h1 : (x.toNat &&& (Builtin.bitNot y).toNat) / 2 = x.toNat / 2 &&& (Builtin.bitNot y).toNat / 2 := Nat.and_div_two
    have h2 := @Nat.and_mod_two_eq_one x.toNat (Builtin.bitNot y).toNat
    rw [← h1]
    omega
  by_cases hx : 0 ≤ x <;> by_cases hy : 0 ≤ y
  · rw [bitAnd_pp hx hy, bitAnd_pp (show 0 ≤ x / 2 by omega) (show 0 ≤ y / 2 by omega)]
    have e1 : (x / 2).toNat = x.toNat / 2 := by omega
    have e2 : (y / 2).toNat = y.toNat / 2 := by omega
    rw [e1, e2]
    have h1 : (x.toNat &&& y.toNat) / 2 = x.toNat / 2 &&& y.toNat / 2 := Nat.and_div_two
    have h2 := @Nat.and_mod_two_eq_one x.toNat y.toNat
    rw [← h1]
    omega
  · exact pn x y hx hy
  · rw [bitAnd_comm x y, bitAnd_comm (x / 2) (y / 2)]
    have := pn y x hy hx
    refine ⟨this.1, this.2.trans ⟨fun h => ⟨h.2, h.1⟩, fun h => ⟨h.2, h.1⟩⟩⟩
  · rw [bitAnd_nn hx hy, bitAnd_nn (show ¬ 0 ≤ x / 2 by omega) (show ¬ 0 ≤ y / 2 by omega)]
    have e2 : (Builtin.bitNot (x / 2)).toNat = (Builtin.bitNot x).toNat / 2 := by unfold Builtin.bitNot; omega
    have f2 : (Builtin.bitNot (y / 2)).toNat = (Builtin.bitNot y).toNat / 2 := by unfold Builtin.bitNot; omega
    have e3 : ((Builtin.bitNot x).toNat : Int) = -x - 1 := by unfold Builtin.bitNot; omega
    have f3 : ((Builtin.bitNot y).toNat : Int) = -y - 1 := by unfold Builtin.bitNot; omega
    rw [e2, f2]
    have h1 : ((Builtin.bitNot x).toNat ||| (Builtin.bitNot y).toNat) / 2 = (Builtin.bitNot x).toNat / 2 ||| (Builtin.bitNot y).toNat / 2 := Nat.or_div_two
    have h2 := @Nat.or_mod_two_eq_one (Builtin.bitNot x).toNat (Builtin.bitNot y).toNat
    rw [← h1]
    generalize (Builtin.bitNot x).toNat ||| (Builtin.bitNot y).toNat = z at *
    generalize (Builtin.bitNot x).toNat = x' at *
    generalize (Builtin.bitNot y).toNat = y' at *
    unfold Builtin.bitNot at *
    omega
theorem tb_and (x y : Int) (i : Nat) : tb (Builtin.bitAnd x y) i = (tb x i && tb y i) := by
  induction i generalizing x y with
  | zero =>
    rw [tb_zero, tb_zero, tb_zero]
    have := (and_half x y).2
    by_cases h : Builtin.bitAnd x y % 2 = 1
    · have h2 := this.mp h; simp [h, h2.1, h2.2]
    · by_cases h1 : x % 2 = 1
      · by_cases h2 : y % 2 = 1
        · exact absurd (this.mpr ⟨h1, h2⟩) h
        · simp [h, h2]
      · simp [h, h1]
  | succ i ih => rw [tb_succ, tb_succ, tb_succ, (and_half x y).1, ih]
theorem tb_not (x : Int) (i : Nat) : tb (Builtin.bitNot x) i = !tb x i := by
  induction i generalizing x with
  | zero =>
    rw [tb_zero, tb_zero]
    unfold Builtin.bitNot
    by_cases h : x % 2 = 1
    · have : ¬ (-x - 1) % 2 = 1 := by omega
      simp [h, this]
    · have : (-x - 1) % 2 = 1 := by omega
      simp [h, this]
  | succ i ih =>
    rw [tb_succ, tb_succ, ← ih]
    congr 1
    unfold Builtin.bitNot
    omega
theorem tb_or (x y : Int) (i : Nat) : tb (Builtin.bitOr x y) i = (tb x i || tb y i) := by
  unfold Builtin.bitOr
  rw [tb_not, tb_and, tb_not, tb_not]
  cases tb x i <;> cases tb y i <;> rfl
theorem xorAnd (x y : Int) : Builtin.bitXor x y = x + y - 2 * Builtin.bitAnd x y := by
  unfold Builtin.bitXor
  rw [bitOr_and]
  omega
theorem xor_half (x y : Int) : Builtin.bitXor x y / 2 = Builtin.bitXor (x / 2) (y / 2) ∧ (Builtin.bitXor x y % 2 = 1 ↔ ¬ (x % 2 = 1 ↔ y % 2 = 1)) := by
  rw [xorAnd, xorAnd]
  have := and_half x y
  rw [← this.1]
  omega
theorem tb_xor (x y : Int) (i : Nat) : tb (Builtin.bitXor x y) i = (tb x i ^^ tb y i) := by
  induction i generalizing x y with
  | zero =>
    rw [tb_zero, tb_zero, tb_zero]
    have := (xor_half x y).2
    by_cases h1 : x % 2 = 1 <;> by_cases h2 : y % 2 = 1 <;> simp [h1, h2] at this ⊢ <;> omega
  | succ i ih => rw [tb_succ, tb_succ, tb_succ, (xor_half x y).1, ih]
theorem tb_ext {x y : Int} (h : ∀ i, tb x i = tb y i) : x = y := by
  have key : ∀ (n : Nat) (x y : Int), x.natAbs ≤ n → y.natAbs ≤ n → (∀ i, tb x i = tb y i) → x = y := by
    intro n
    induction n with
    | zero => intro x y hx hy _; omega
    | succ n ih =>
      intro x y hx hy h
      have h0 := h 0
      rw [tb_zero, tb_zero, decide_eq_decide] at h0
      by_cases hs : (x / 2).natAbs ≤ n ∧ (y / 2).natAbs ≤ n
      · have := ih (x / 2) (y / 2) hs.1 hs.2 (fun i => by rw [← tb_succ, ← tb_succ]; exact h (i + 1))
        omega
      · have hm : ∀ z : Int, tb (-1) z.toNat = true := by
          intro z
          unfold tb
          have : (-1 : Int) / 2 ^ z.toNat = -1 := by
            have hp := ppos z.toNat
            have := Int.neg_one_ediv (2 ^ z.toNat)
            rw [this, Int.sign_eq_one_of_pos hp]
          rw [this]; decide
        -- n = 0: x or y is -1
        have h1 := h 1
        rw [tb_succ, tb_succ, tb_zero, tb_zero, decide_eq_decide] at h1
        omega
  exact key (x.natAbs + y.natAbs) x y (by omega) (by omega) h
theorem tb_shr (x : Int) (k i : Nat) : tb (x / 2 ^ k) i = tb x (k + i) := by
  unfold tb
  rw [padd, Int.ediv_ediv_of_nonneg (Int.le_of_lt (ppos k))]
theorem tb_shl_lt (x : Int) {k i : Nat} (h : i < k) : tb (x * 2 ^ k) i = false := by
  unfold tb
  obtain ⟨d, rfl⟩ : ∃ d, k = i + (d + 1) := ⟨k - i - 1, by omega⟩
  have e : x * 2 ^ (i + (d + 1)) = (2 * (x * 2 ^ d)) * 2 ^ i := by
    rw [padd, psucc, Int.mul_comm (2 ^ i), ← Int.mul_assoc, ← Int.mul_assoc, Int.mul_comm x 2, Int.mul_assoc 2]
  rw [e, Int.mul_ediv_cancel _ (by have := ppos i; omega)]
  simp only [decide_eq_false_iff_not]
  omega
theorem tb_shl_ge (x : Int) {k i : Nat} (h : k ≤ i) : tb (x * 2 ^ k) i = tb x (i - k) := by
  obtain ⟨d, rfl⟩ : ∃ d, i = k + d := ⟨i - k, by omega⟩
  rw [← tb_shr, Int.mul_ediv_cancel _ (by have := ppos k; omega)]
  congr 1; omega
theorem tb_shl (x : Int) (k i : Nat) : tb (x * 2 ^ k) i = (decide (k ≤ i) && tb x (i - k)) := by
  by_cases h : k ≤ i
  · rw [tb_shl_ge x h]; simp [h]
  · rw [tb_shl_lt x (by omega)]; simp [h]
theorem tb_mod (x : Int) (k i : Nat) : tb (x % 2 ^ k) i = (decide (i < k) && tb x i) := by
  by_cases h : i < k
  · obtain ⟨d, rfl⟩ : ∃ d, k = i + (d + 1) := ⟨k - i - 1, by omega⟩
    simp only [h, decide_true, Bool.true_and]
    unfold tb
    have hp := ppos (d + 1)
    have hi := ppos i
    have e : x % 2 ^ (i + (d + 1)) / 2 ^ i = (x / 2 ^ i) % 2 ^ (d + 1) := by
      have h1 := Int.emod_def x (2 ^ (i + (d + 1)))
      have h2 := Int.emod_def (x / 2 ^ i) (2 ^ (d + 1))
      rw [h1, h2, padd, ← Int.ediv_ediv_of_nonneg (Int.le_of_lt hi), Int.mul_assoc, Int.sub_eq_add_neg, ← Int.mul_neg, Int.add_mul_ediv_left _ _ (by omega), Int.sub_eq_add_neg]
    rw [e, psucc]
    have : (x / 2 ^ i) % (2 * 2 ^ d) % 2 = (x / 2 ^ i) % 2 := Int.emod_emod_of_dvd _ ⟨2 ^ d, rfl⟩
    rw [this]
  · simp only [h, decide_false, Bool.false_and]
    unfold tb
    have hk := ppos k
    have h0 := Int.emod_nonneg x (show (2 : Int) ^ k ≠ 0 by omega)
    have h1 := Int.emod_lt_of_pos x hk
    have h2 : (2 : Int) ^ k ≤ 2 ^ i := by
      rw [← pcast, ← pcast]
      have := Nat.pow_le_pow_right (show 0 < 2 by decide) (show k ≤ i by omega)
      omega
    rw [Int.ediv_eq_zero_of_lt h0 (by omega)]
    rfl
theorem tb_0 (i : Nat) : tb 0 i = false := by simp [tb]
theorem tb_pow (k i : Nat) : tb (2 ^ k) i = decide (i = k) := by
  have h := tb_shl 1 k i
  rw [Int.one_mul] at h
  rw [h]
  have : ∀ j, tb 1 j = decide (j = 0) := by
    intro j
    cases j with
    | zero => rfl
    | succ j => rw [tb_succ, show (1 : Int) / 2 = 0 from rfl, tb_0]; simp
  rw [this]
  by_cases h1 : k ≤ i
  · simp [h1]; omega
  · simp [h1]; omega
theorem tb_m1 (i : Nat) : tb (-1) i = true := by
  have := tb_not 0 i
  rw [tb_0] at this
  exact this
theorem tb_ones (k i : Nat) : tb (2 ^ k - 1) i = decide (i < k) := by
  have h := tb_mod (-1) k i
  rw [tb_m1, Bool.and_true] at h
  have hp := ppos k
  have e : (2 : Int) ^ k - 1 = -1 % 2 ^ k := ((Int.ediv_emod_unique (b := 2 ^ k) (a := -1) (q := -1) (r := 2 ^ k - 1) hp).mpr ⟨by omega, by omega, by omega⟩).2.symm
  rw [e, h]
/-- a number below 2 ^ k has no bit from k on -/
theorem tb_lt {x : Int} {k i : Nat} (h0 : 0 ≤ x) (h1 : x < 2 ^ k) (hi : k ≤ i) : tb x i = false := by
  have h := tb_mod x k i
  rw [Int.emod_eq_of_lt h0 h1] at h
  rw [h]
  simp
  intro h2
  omega
theorem lt_of_tb {x : Int} {k : Nat} (h : ∀ i, k ≤ i → tb x i = false) : 0 ≤ x ∧ x < 2 ^ k := by
  have e : x = x % 2 ^ k := by
    apply tb_ext
    intro i
    rw [tb_mod]
    by_cases hi : i < k
    · simp [hi]
    · rw [h i (by omega)]; simp
  have hk := ppos k
  rw [e]
  exact ⟨Int.emod_nonneg _ (by omega), Int.emod_lt_of_pos _ hk⟩
theorem tb_sub_odd (x : Int) (i : Nat) : tb x i = decide (x / 2 ^ i % 2 = 1) := rfl
end Mine
namespace Mine
theorem modStep (n : Int) (j : Nat) : n % 2 ^ (j + 1) = n % 2 ^ j + (n / 2 ^ j % 2) * 2 ^ j := by
  have hp := ppos j
  have h1 := Int.emod_def n (2 ^ j)
  have h2 := Int.emod_def n (2 ^ (j + 1))
  have h3 := Int.emod_def (n / 2 ^ j) 2
  have h4 : n / 2 ^ (j + 1) = n / 2 ^ j / 2 := by
    rw [Int.ediv_ediv_of_nonneg (Int.le_of_lt hp)]; rfl
  rw [h1, h2, h3, h4, psucc, Int.sub_mul, Int.mul_comm (n / 2 ^ j) (2 ^ j)]
  have : 2 * 2 ^ j * (n / 2 ^ j / 2) = 2 * (n / 2 ^ j / 2) * 2 ^ j := by
    rw [Int.mul_assoc, Int.mul_assoc, Int.mul_comm (2 ^ j)]
  omega
theorem divStep (n : Int) (j : Nat) : n / 2 ^ j / 2 = n / 2 ^ (j + 1) := by
  rw [Int.ediv_ediv_of_nonneg (Int.le_of_lt (ppos j))]; rfl
theorem fdiv2 (x : Int) : x.fdiv 2 = x / 2 := Int.fdiv_eq_ediv_of_nonneg _ (by decide)
theorem fmod2 (x : Int) : x.fmod 2 = x % 2 := Int.fmod_eq_emod_of_nonneg _ (by decide)
theorem fdivP (x : Int) (k : Nat) : x.fdiv (2 ^ k) = x / 2 ^ k := Int.fdiv_eq_ediv_of_nonneg _ (Int.le_of_lt (ppos k))
theorem fmodP (x : Int) (k : Nat) : x.fmod (2 ^ k) = x % 2 ^ k := Int.fmod_eq_emod_of_nonneg _ (Int.le_of_lt (ppos k))
/-- 0040: one turn of the opposite digits -/
theorem opp_step (n : Int) (j : Nat) : 2 ^ (j + 1) - 1 - n % 2 ^ (j + 1) = (2 ^ j - 1 - n % 2 ^ j) + (if n / 2 ^ j % 2 = 0 then 2 ^ j else 0) := by
  rw [modStep, psucc]
  rcases Int.emod_two_eq (n / 2 ^ j) with h | h
  · rw [h]; simp; omega
  · rw [h]; simp; omega
theorem and_mask (x : Int) (k : Nat) : Builtin.bitAnd x (2 ^ k - 1) = x % 2 ^ k := by
  apply tb_ext; intro i
  rw [tb_and, tb_ones, tb_mod, Bool.and_comm]
/-- inverted -/
theorem inv_eq {n : Int} {k : Nat} (h0 : 0 ≤ n) (h1 : n < 2 ^ k) : Builtin.bitAnd (Builtin.bitNot n) (2 ^ k - 1) = 2 ^ k - 1 - n := by
  rw [and_mask]
  unfold Builtin.bitNot
  have hp := ppos k
  exact ((Int.ediv_emod_unique (b := 2 ^ k) (a := -n - 1) (q := -1) (r := 2 ^ k - 1 - n) hp).mpr ⟨by omega, by omega, by omega⟩).2
/-- flipping -/
theorem flip_eq (A b L : Int) (k : Nat) (hb : b = 0 ∨ b = 1) (h0 : 0 ≤ L) (h1 : L < 2 ^ k) :
    Builtin.bitXor (A * 2 * 2 ^ k + b * 2 ^ k + L) (2 ^ k) = A * 2 * 2 ^ k + (1 - b) * 2 ^ k + L := by
  have hp := ppos k
  have hd : (A * 2 * 2 ^ k + b * 2 ^ k + L) / 2 ^ k = A * 2 + b := by
    have e : A * 2 * 2 ^ k + b * 2 ^ k + L = L + (A * 2 + b) * 2 ^ k := by rw [Int.add_mul]; omega
    rw [e, Int.add_mul_ediv_right _ _ (by omega), Int.ediv_eq_zero_of_lt h0 h1]; omega
  have ha : Builtin.bitAnd (A * 2 * 2 ^ k + b * 2 ^ k + L) (2 ^ k) = b * 2 ^ k := by
    apply tb_ext; intro i
    rw [tb_and, tb_pow, tb_shl]
    by_cases hi : i = k
    · subst hi
      simp only [decide_true, Bool.and_true, Nat.le_refl, Bool.true_and, Nat.sub_self]
      unfold tb
      rw [hd]
      rcases hb with rfl | rfl
      · simp
      · simp
    · simp only [hi, decide_false, Bool.and_false]
      rcases hb with rfl | rfl
      · rw [tb_0]; simp
      · by_cases h2 : k ≤ i
        · obtain ⟨d, hd2⟩ : ∃ d, i - k = d + 1 := ⟨i - k - 1, by omega⟩
          rw [hd2, tb_succ, show (1 : Int) / 2 = 0 from rfl, tb_0]; simp
        · simp [h2]
  rw [xorAnd, ha, Int.sub_mul]
  omega
end Mine
namespace Mine
/-! parity (0044) -/
/-- the parity of the low k bits -/
def par (x : Int) : Nat → Bool
  | 0 => false
  | k + 1 => par x k ^^ tb x k
theorem par_add (x : Int) (h k : Nat) : par x (h + k) = (par x h ^^ par (x / 2 ^ h) k) := by
  induction k with
  | zero => simp [par]
  | succ k ih => rw [← Nat.add_assoc, par, ih, par, tb_shr, Bool.xor_assoc]
theorem par_xor (x y : Int) (k : Nat) : par (Builtin.bitXor x y) k = (par x k ^^ par y k) := by
  induction k with
  | zero => rfl
  | succ k ih =>
    rw [par, ih, par, par, tb_xor]
    cases par x k <;> cases par y k <;> cases tb x k <;> cases tb y k <;> rfl
theorem par_fold (x : Int) (h : Nat) : par (Builtin.bitXor x (x / 2 ^ h)) h = par x (h + h) := by
  rw [par_xor, par_add]
theorem par_pow (k m : Nat) : par (2 ^ k) m = decide (k < m) := by
  induction m with
  | zero => simp [par]
  | succ m ih =>
    rw [par, ih, tb_pow]
    by_cases h1 : k < m
    · have : m ≠ k := by omega
      have h2 : k < m + 1 := by omega
      simp [h1, this, h2]
    · by_cases h2 : m = k
      · subst h2; simp
      · have : ¬ k < m + 1 := by omega
        simp [h1, h2, this]
/-- the number of ones among the low k bits -/
def ones (x : Int) : Nat → Int
  | 0 => 0
  | k + 1 => ones x k + x / 2 ^ k % 2
theorem ones_par (x : Int) (k : Nat) : ones x k % 2 = if par x k then 1 else 0 := by
  induction k with
  | zero => rfl
  | succ k ih =>
    rw [ones, par]
    unfold tb
    rcases Int.emod_two_eq (x / 2 ^ k) with h | h
    · rw [h]; cases hp : par x k <;> simp [hp] at ih ⊢ <;> omega
    · rw [h]; cases hp : par x k <;> simp [hp] at ih ⊢ <;> omega
theorem and_one (x : Int) : Builtin.bitAnd x 1 = x % 2 := and_mask x 1
def parity (n : Int) : Int :=
  let a := Builtin.bitXor n (n / 2 ^ 32)
  let b := Builtin.bitXor a (a / 2 ^ 16)
  let c := Builtin.bitXor b (b / 2 ^ 8)
  let d := Builtin.bitXor c (c / 2 ^ 4)
  let e := Builtin.bitXor d (d / 2 ^ 2)
  let f := Builtin.bitXor e (e / 2 ^ 1)
  f % 2
theorem mod2_par (x : Int) : x % 2 = if par x 1 then 1 else 0 := by
  simp only [par, Bool.false_xor, tb_zero, decide_eq_true_eq]
  rcases Int.emod_two_eq x with h | h <;> simp [h]
theorem parity_eq (n : Int) : parity n = if par n 64 then 1 else 0 := by
  unfold parity
  rw [mod2_par, par_fold, par_fold, par_fold, par_fold, par_fold, par_fold]
theorem parity_ones (n : Int) : parity n = ones n 64 % 2 := by rw [parity_eq, ones_par]
theorem parity_turn (n : Int) (k : Nat) (h : k < 64) : parity (Builtin.bitXor n (2 ^ k)) = 1 - ones n 64 % 2 := by
  rw [parity_eq, ones_par, par_xor, par_pow]
  simp only [h, decide_true]
  cases par n 64 <;> rfl
/-! power of two (0046) -/
theorem pw_and (k : Nat) (a : Int) : Builtin.bitAnd (2 ^ k * (2 * a + 1)) (2 ^ k * (2 * a + 1) - 1) = 2 ^ k * (2 * a) := by
  induction k with
  | zero =>
    simp only [Int.pow_zero, Int.one_mul]
    have h := and_half (2 * a + 1) (2 * a + 1 - 1)
    have e1 : (2 * a + 1) / 2 = a := by omega
    have e2 : (2 * a + 1 - 1) / 2 = a := by omega
    rw [e1, e2, bitAnd_self] at h
    omega
  | succ k ih =>
    have e : (2 : Int) ^ (k + 1) * (2 * a + 1) = 2 * (2 ^ k * (2 * a + 1)) := by rw [psucc, Int.mul_assoc]
    have e' : (2 : Int) ^ (k + 1) * (2 * a) = 2 * (2 ^ k * (2 * a)) := by rw [psucc, Int.mul_assoc]
    rw [e, e']
    generalize (2 : Int) ^ k * (2 * a + 1) = m at *
    have h := and_half (2 * m) (2 * m - 1)
    have e1 : (2 * m) / 2 = m := by omega
    have e2 : (2 * m - 1) / 2 = m - 1 := by omega
    rw [e1, e2, ih] at h
    omega
theorem low_eq (k : Nat) (a : Int) : Builtin.bitAnd (2 ^ k * (2 * a + 1)) (-(2 ^ k * (2 * a + 1))) = 2 ^ k := by
  induction k with
  | zero =>
    simp only [Int.pow_zero, Int.one_mul]
    have h := and_half (2 * a + 1) (-(2 * a + 1))
    have e1 : (2 * a + 1) / 2 = a := by omega
    have e2 : (-(2 * a + 1)) / 2 = Builtin.bitNot a := by unfold Builtin.bitNot; omega
    rw [e1, e2, bitAnd_not, bitAnd_self] at h
    omega
  | succ k ih =>
    have e : (2 : Int) ^ (k + 1) * (2 * a + 1) = 2 * (2 ^ k * (2 * a + 1)) := by rw [psucc, Int.mul_assoc]
    rw [e, psucc]
    generalize (2 : Int) ^ k * (2 * a + 1) = m at *
    have h := and_half (2 * m) (-(2 * m))
    have e1 : (2 * m) / 2 = m := by omega
    have e2 : (-(2 * m)) / 2 = -m := by omega
    rw [e1, e2, ih] at h
    omega
/-- every positive int is 2 ^ k times an odd one -/
theorem odd_part (n : Int) (h : 0 < n) : ∃ (k : Nat) (a : Int), 0 ≤ a ∧ n = 2 ^ k * (2 * a + 1) := by
  have key : ∀ (m : Nat) (n : Int), 0 < n → n.toNat ≤ m → ∃ (k : Nat) (a : Int), 0 ≤ a ∧ n = 2 ^ k * (2 * a + 1) := by
    intro m
    induction m with
    | zero => intro n h1 h2; omega
    | succ m ih =>
      intro n h1 h2
      rcases Int.emod_two_eq n with h | h
      · obtain ⟨k, a, ha, e⟩ := ih (n / 2) (by omega) (by omega)
        refine ⟨k + 1, a, ha, ?_⟩
        rw [psucc, Int.mul_assoc, ← e]; omega
      · exact ⟨0, n / 2, by omega, by simp only [Int.pow_zero, Int.one_mul]; omega⟩
  exact key n.toNat n h (by omega)
end Mine
namespace Mine
def pc (n : Nat) : Int := ((List.range 8).map fun k => ((n / 2 ^ k % 2 : Nat) : Int)).sum
theorem pc_step : ∀ n : Nat, n < 256 → pc n = pc (n / 2) + ((n % 2 : Nat) : Int) := by decide +kernel
def TabInv (j : Nat) (t : List Int) : Prop := t = (List.range (j + 1)).map pc
theorem ta_t0 : TabInv 0 [0] := by unfold TabInv; decide
theorem ta_len {j : Nat} {t : List Int} (h : TabInv j t) : t.length = j + 1 := by rw [h]; simp
theorem ta_get {j : Nat} {t : List Int} (h : TabInv j t) {i : Nat} (hi : i ≤ j) : t.getD i 0 = pc i := by
  rw [h]
  have : i < (List.range (j + 1)).length := by simp; omega
  simp [List.getD, List.getElem?_map, List.getElem?_range (show i < j + 1 by omega)]
theorem ta_t1 {pre : List Int} {t : List Int} {k : Int} (h : TabInv pre.length t) (e : k = 1 + (pre.length : Int)) (hl : pre.length < (256 - 1 : Int).toNat) : TabInv (pre ++ [k]).length (t ++ [t.getD (k.fdiv (2 ^ Int.toNat 1)).toNat 0 + Builtin.bitAnd k 1]) := by
  rw [List.length_append, List.length_singleton]
  have e1 : (k.fdiv (2 ^ Int.toNat 1)).toNat = (pre.length + 1) / 2 := by
    rw [fdivP, e]; show (((1 : Int) + pre.length) / 2 ^ 1).toNat = _; omega
  have e2 : Builtin.bitAnd k 1 = (((pre.length + 1) % 2 : Nat) : Int) := by
    have : Builtin.bitAnd k (2 ^ 1 - 1) = k % 2 ^ 1 := and_mask k 1
    have h3 : Builtin.bitAnd k 1 = k % 2 := this
    rw [h3, e]; omega
  rw [e1, e2, ta_get h (by omega), ← pc_step (pre.length + 1) (by omega)]
  unfold TabInv at *
  rw [List.range_succ, List.map_append, ← h]; rfl
theorem ix0 {k : Int} {j : Nat} (e : k = 1 + (j : Int)) : 0 ≤ k.fdiv (2 ^ Int.toNat 1) := by rw [fdivP, e]; show (0 : Int) ≤ (1 + (j : Int)) / 2 ^ 1; omega
theorem ix1 {k : Int} {j : Nat} {t : List Int} (h : TabInv j t) (e : k = 1 + (j : Int)) : k.fdiv (2 ^ Int.toNat 1) < (t.length : Int) := by rw [ta_len h, fdivP, e]; show (1 + (j : Int)) / 2 ^ 1 < _; omega
theorem ix2 {k : Int} {j : Nat} (e : k = 1 + (j : Int)) (hl : j < (256 - 1 : Int).toNat) : k.fdiv (2 ^ Int.toNat 1) < 2 ^ 63 := by rw [fdivP, e]; show (1 + (j : Int)) / 2 ^ 1 < 9223372036854775808; omega
theorem ta_0 : TabInv ([] : List Int).length [0] ∧ ([0] : List Int).length = ([] : List Int).length + 1 := ⟨ta_t0, rfl⟩
theorem ta_1 {pre : List Int} {t : List Int} {k : Int} (h : TabInv pre.length t) (e : k = 1 + (pre.length : Int)) (hl : pre.length < (256 - 1 : Int).toNat) : TabInv (pre ++ [k]).length (t ++ [t.getD (k.fdiv (2 ^ Int.toNat 1)).toNat 0 + Builtin.bitAnd k 1]) ∧ (t ++ [t.getD (k.fdiv (2 ^ Int.toNat 1)).toNat 0 + Builtin.bitAnd k 1]).length = (pre ++ [k]).length + 1 := by
  have key := ta_t1 h e hl
  exact ⟨key, ta_len key⟩
theorem n1 {t : List Int} (h : TabInv (rangeKs 1 (256 - 1 : Int).toNat).length t) (hne : (t.length : Int) ≠ 256) : False := by
  rw [rangeKs_length] at h
  have := ta_len h
  omega
theorem gen_toks {α : Type} {M : Model} {A : Around} {T : Sem α} {Q : α → Shared → Prop} {E : Value → Shared → Prop} {h : Heap} {g d os} {X : Nat} (k : ∀ tk, wpAny M A T Q E ⟨h, g, d, tk, os⟩) : wpAny M A T Q E ⟨h, g, d, X, os⟩ := k X
def wt : Nat → List Int
  | 0 => [0]
  | k + 1 => wt k ++ (wt k).map (fun z => z + 1)
theorem gen_list {g h : Heap} {L D : Addr} {t c : Nat} {r : List (Addr × Obj)} (N : News g L h ((D, W.listOf #[Value.int 0 t] c) :: r)) : ∃ vs, IntsAre vs (wt 0) ∧ News g L h ((D, W.listOf vs.toArray c) :: r) :=
  ⟨[Value.int 0 t], .cons 0 t .nil, N⟩
theorem fold_wt {ws : List Value} {k : Nat} (h : IntsAre ws (wt k ++ List.map (fun z => z + 1) (wt k))) : IntsAre ws (wt (k + 1)) := h
theorem wt8 : (List.range 256).map pc = wt 8 := by decide +kernel
theorem n2 {t : List Int} (h : TabInv (rangeKs 1 (256 - 1 : Int).toNat).length t) (hne : t ≠ wt (0 + 1 + 1 + 1 + 1 + 1 + 1 + 1 + 1)) : False := by
  rw [rangeKs_length] at h
  exact hne (h.trans wt8)
def pcI (b : Int) : Int := pc b.toNat
theorem dsum {b : Int} (h : 0 ≤ b) : 0 + (b.fdiv (2 ^ (0 + ((0 : Nat) : Int)).toNat)).fmod 2 + (b.fdiv (2 ^ (0 + ((0 + 1 : Nat) : Int)).toNat)).fmod 2 + (b.fdiv (2 ^ (0 + ((0 + 1 + 1 : Nat) : Int)).toNat)).fmod 2 + (b.fdiv (2 ^ (0 + ((0 + 1 + 1 + 1 : Nat) : Int)).toNat)).fmod 2 + (b.fdiv (2 ^ (0 + ((0 + 1 + 1 + 1 + 1 : Nat) : Int)).toNat)).fmod 2 + (b.fdiv (2 ^ (0 + ((0 + 1 + 1 + 1 + 1 + 1 : Nat) : Int)).toNat)).fmod 2 + (b.fdiv (2 ^ (0 + ((0 + 1 + 1 + 1 + 1 + 1 + 1 : Nat) : Int)).toNat)).fmod 2 + (b.fdiv (2 ^ (0 + ((0 + 1 + 1 + 1 + 1 + 1 + 1 + 1 : Nat) : Int)).toNat)).fmod 2 = pcI b := by
  obtain ⟨n, rfl⟩ : ∃ n : Nat, b = (n : Int) := ⟨b.toNat, by omega⟩
  have key : ∀ k : Nat, (0 + (k : Int)).toNat = k := fun k => by omega
  simp only [key, fdivP, fmod2]
  have p0 : (2 : Int) ^ (0) = 1 := by decide
  have p1 : (2 : Int) ^ (0 + 1) = 2 := by decide
  have p2 : (2 : Int) ^ (0 + 1 + 1) = 4 := by decide
  have p3 : (2 : Int) ^ (0 + 1 + 1 + 1) = 8 := by decide
  have p4 : (2 : Int) ^ (0 + 1 + 1 + 1 + 1) = 16 := by decide
  have p5 : (2 : Int) ^ (0 + 1 + 1 + 1 + 1 + 1) = 32 := by decide
  have p6 : (2 : Int) ^ (0 + 1 + 1 + 1 + 1 + 1 + 1) = 64 := by decide
  have p7 : (2 : Int) ^ (0 + 1 + 1 + 1 + 1 + 1 + 1 + 1) = 128 := by decide
  rw [p0, p1, p2, p3, p4, p5, p6, p7]
  have e : pcI (n : Int) = ((n / 2 ^ 0 % 2 : Nat) : Int) + ((n / 2 ^ 1 % 2 : Nat) : Int) + ((n / 2 ^ 2 % 2 : Nat) : Int) + ((n / 2 ^ 3 % 2 : Nat) : Int) + ((n / 2 ^ 4 % 2 : Nat) : Int) + ((n / 2 ^ 5 % 2 : Nat) : Int) + ((n / 2 ^ 6 % 2 : Nat) : Int) + ((n / 2 ^ 7 % 2 : Nat) : Int) := by
    unfold pcI pc
    rw [Int.toNat_natCast]
    have r : List.range 8 = [0, 1, 2, 3, 4, 5, 6, 7] := rfl
    rw [r]
    simp only [List.map_cons, List.map_nil, List.sum_cons, List.sum_nil, Int.add_assoc, Int.add_zero]
  rw [e]
  simp only [Int.natCast_emod, Int.natCast_ediv, Int.zero_add]
  rfl
theorem n3 {t : List Int} {b : Int} (h : TabInv (rangeKs 1 (256 - 1 : Int).toNat).length t) (hne : t.getD (b.fmod 256).toNat 0 ≠ pcI (b.fmod 256)) : False := by
  rw [rangeKs_length] at h
  apply hne
  have hb : 0 ≤ b.fmod 256 ∧ b.fmod 256 < 256 := by rw [Int.fmod_eq_emod_of_nonneg _ (by decide)]; omega
  exact ta_get h (by show _ ≤ 255; omega)
end Mine
local macro_rules | `(tactic| walk_at "execs nil") => `(tactic| ((with_reducible show wpAny _ _ _ _ _ ⟨_, _, _, _ + 1, _⟩); (with_reducible refine Mine.gen_toks (fun tk9 => ?_))))
local macro_rules | `(tactic| walk_at "execs cons") => `(tactic| ((with_reducible show wpAny _ _ _ _ _ ⟨_, _, _, _ + 1, _⟩); (with_reducible refine Mine.gen_toks (fun tk9 => ?_))))
local macro_rules | `(tactic| walk_at "subscriptTail") => `(tactic| (k_here; (with_reducible show wpAny _ _ (subscriptTail _ _ (Value.ref _) (Value.int (Int.fdiv _ _) _)) _ _ _); (with_unfolding_all refine' item_anyK ?k1 ?k2 ?k3 ?k4 ?k5 ?_ ?k6; (case k1 => is_list); (case k2 => l_ints); (case k3 => with_reducible exact Mine.ix0 (by assumption)); (case k4 => with_reducible first | exact Mine.ix1 (by assumption) (by assumption) | exact Mine.ix1 (And.left (by assumption)) (by assumption)); (case k5 => with_reducible exact Mine.ix2 (by assumption) (by assumption)); (case k6 => with_unfolding_all rfl); k_whole); intro _))
local macro_rules | `(tactic| walk_at "exec For Name Call cons nil") => `(tactic| ((with_reducible show wpAny _ _ (exec (Stmt.For _ _ [Stmt.Assign _ (Expr.BinOp _ Operator.Add _ _) _] _ _) _) _ _ _); (rename News _ _ _ _ => lN'); (obtain ⟨vs9, hI9, N9⟩ := Mine.gen_list lN'); (clear lN')))
local macro_rules | `(tactic| walk_at "UnrPost") => `(tactic| ((rename IntsAre _ (Mine.wt _ ++ List.map _ (Mine.wt _)) => hW9); (obtain hW8 := Mine.fold_wt hW9); (clear hW9); dsimp only [UnrPost]))
set_option maxRecDepth 100000 in
set_option maxHeartbeats 8000000 in
theorem PySem.Challenge.cw_k5_0042_holds : PySem.Challenge.rw_k5_0042.Holds := by
  (k_with "pyIter ref" => k_of "i" => k_state (fun pre table => Mine.TabInv pre.length table ∧ table.length = pre.length + 1) "table")
  (k_with "call ref" => k_call_by "_law_digits_sum" Mine.pcI (fun b => 0 ≤ b ∧ b < 256))
  (k_with "tree" => ((with_reducible show _ = Mine.pcI _); with_reducible exact Mine.dsum (And.left (by assumption))))
  (k_with "state" => with_reducible first | exact Mine.ta_0 | exact Mine.ta_1 (by assumption) (by assumption) (by assumption) | exact Mine.ta_1 (And.left (by assumption)) (by assumption) (by assumption))
  (k_with "end" => first | ((with_reducible show (true == true) = true); exact rfl) | ((with_reducible show (false == true) = true); with_reducible first | exact (Mine.n1 (by assumption) (by assumption)).elim | exact (Mine.n2 (by assumption) (by assumption)).elim | exact (Mine.n3 (by assumption) (by assumption)).elim))
  open_k
