import PyProof.Rows.All
import Wide.All
import OpenK.AllK
import Wide.FinOn
import PySem.Challenge.RW_k5_0096
open PySem PySem.W PyProof.Rows
set_option Elab.async false
namespace Mine
/-- bit i of an int, in two's complement -/
def tb (x : Int) (i : Nat) : Bool := decide (x / 2 ^ i % 2 = 1)

theorem pcast (k : Nat) : ((2 ^ k : Nat) : Int) = (2 : Int) ^ k := by
  induction k with
  | zero => simp
  | succ n ih => rw [Nat.pow_succ, Int.pow_succ, ← ih]; omega
theorem ppos (k : Nat) : (0 : Int) < 2 ^ k := by
  rw [← pcast]; have := Nat.two_pow_pos k; omega
theorem psucc (k : Nat) : (2 : Int) ^ (k + 1) = 2 * 2 ^ k := by rw [Int.pow_succ]; omega
theorem padd (a b : Nat) : (2 : Int) ^ (a + b) = 2 ^ a * 2 ^ b := Int.pow_add ..
theorem half_pow (x : Int) (i : Nat) : x / 2 ^ (i + 1) = x / 2 / 2 ^ i := by
  rw [psucc, Int.ediv_ediv_of_nonneg (by omega : (0 : Int) ≤ 2)]
theorem tb_zero (x : Int) : tb x 0 = decide (x % 2 = 1) := by simp [tb]
theorem tb_succ (x : Int) (i : Nat) : tb x (i + 1) = tb (x / 2) i := by unfold tb; rw [half_pow]
theorem and_half (x y : Int) : Builtin.bitAnd x y / 2 = Builtin.bitAnd (x / 2) (y / 2) ∧ (Builtin.bitAnd x y % 2 = 1 ↔ (x % 2 = 1 ∧ y % 2 = 1)) := by
  have pn : ∀ x y : Int, 0 ≤ x → ¬ 0 ≤ y → Builtin.bitAnd x y / 2 = Builtin.bitAnd (x / 2) (y / 2) ∧ (Builtin.bitAnd x y % 2 = 1 ↔ (x % 2 = 1 ∧ y % 2 = 1)) := by
    intro x y hx hy
    rw [bitAnd_pn hx hy, bitAnd_pn (show 0 ≤ x / 2 by omega) (show ¬ 0 ≤ y / 2 by omega)]
    have e1 : (x / 2).toNat = x.toNat / 2 := by omega
    have e2 : (Builtin.bitNot (y / 2)).toNat = (Builtin.bitNot y).toNat / 2 := by unfold Builtin.bitNot; omega
    have e3 : ((Builtin.bitNot y).toNat : Int) = -y - 1 := by unfold Builtin.bitNot; omega
    rw [e1, e2]
    have h1 : (x.toNat &&& (Builtin.bitNot y).toNat) / 2 = x.toNat / 2 &&& (Builtin.bitNot y).toNat / 2 := Nat.and_div_two
    have h2 := @Nat.and_mod_two_eq_one x.toNat (Builtin.bitNot y).toNat
    rw [← h1]
    omega
  by_cases hx : 0 ≤ x <;> by_cases hy : 0 ≤ y
  · rw [bitAnd_pp hx hy, bitAnd_pp (show 0 ≤ x / 2 by omega) (show 0 ≤ y / 2 by omega)]
    have e1 : (x / 2).toNat = x.toNat / 2 := by omega
    have e2 : (y / 2).toNat = y.toNat / 2 := by omega
    rw [e1, e2]
    have h1 : (x.toNat &&& y.toNat) / 2 = x.toNat / 2 &&& y.toNat / 2 := Nat.and_div_two
    have h2 := @Nat.and_mod_two_eq_one x.toNat y.toNat
    rw [← h1]
    omega
  · exact pn x y hx hy
  · rw [bitAnd_comm x y, bitAnd_comm (x / 2) (y / 2)]
    have := pn y x hy hx
    refine ⟨this.1, this.2.trans ⟨fun h => ⟨h.2, h.1⟩, fun h => ⟨h.2, h.1⟩⟩⟩
  · rw [bitAnd_nn hx hy, bitAnd_nn (show ¬ 0 ≤ x / 2 by omega) (show ¬ 0 ≤ y / 2 by omega)]
    have e2 : (Builtin.bitNot (x / 2)).toNat = (Builtin.bitNot x).toNat / 2 := by unfold Builtin.bitNot; omega
    have f2 : (Builtin.bitNot (y / 2)).toNat = (Builtin.bitNot y).toNat / 2 := by unfold Builtin.bitNot; omega
    have e3 : ((Builtin.bitNot x).toNat : Int) = -x - 1 := by unfold Builtin.bitNot; omega
    have f3 : ((Builtin.bitNot y).toNat : Int) = -y - 1 := by unfold Builtin.bitNot; omega
    rw [e2, f2]
    have h1 : ((Builtin.bitNot x).toNat ||| (Builtin.bitNot y).toNat) / 2 = (Builtin.bitNot x).toNat / 2 ||| (Builtin.bitNot y).toNat / 2 := Nat.or_div_two
    have h2 := @Nat.or_mod_two_eq_one (Builtin.bitNot x).toNat (Builtin.bitNot y).toNat
    rw [← h1]
    generalize (Builtin.bitNot x).toNat ||| (Builtin.bitNot y).toNat = z at *
    generalize (Builtin.bitNot x).toNat = x' at *
    generalize (Builtin.bitNot y).toNat = y' at *
    unfold Builtin.bitNot at *
    omega
theorem tb_and (x y : Int) (i : Nat) : tb (Builtin.bitAnd x y) i = (tb x i && tb y i) := by
  induction i generalizing x y with
  | zero =>
    rw [tb_zero, tb_zero, tb_zero]
    have := (and_half x y).2
    by_cases h : Builtin.bitAnd x y % 2 = 1
    · have h2 := this.mp h; simp [h, h2.1, h2.2]
    · by_cases h1 : x % 2 = 1
      · by_cases h2 : y % 2 = 1
        · exact absurd (this.mpr ⟨h1, h2⟩) h
        · simp [h, h2]
      · simp [h, h1]
  | succ i ih => rw [tb_succ, tb_succ, tb_succ, (and_half x y).1, ih]
theorem tb_not (x : Int) (i : Nat) : tb (Builtin.bitNot x) i = !tb x i := by
  induction i generalizing x with
  | zero =>
    rw [tb_zero, tb_zero]
    unfold Builtin.bitNot
    by_cases h : x % 2 = 1
    · have : ¬ (-x - 1) % 2 = 1 := by omega
      simp [h, this]
    · have : (-x - 1) % 2 = 1 := by omega
      simp [h, this]
  | succ i ih =>
    rw [tb_succ, tb_succ, ← ih]
    congr 1
    unfold Builtin.bitNot
    omega
theorem tb_or (x y : Int) (i : Nat) : tb (Builtin.bitOr x y) i = (tb x i || tb y i) := by
  unfold Builtin.bitOr
  rw [tb_not, tb_and, tb_not, tb_not]
  cases tb x i <;> cases tb y i <;> rfl
theorem xorAnd (x y : Int) : Builtin.bitXor x y = x + y - 2 * Builtin.bitAnd x y := by
  unfold Builtin.bitXor
  rw [bitOr_and]
  omega
theorem xor_half (x y : Int) : Builtin.bitXor x y / 2 = Builtin.bitXor (x / 2) (y / 2) ∧ (Builtin.bitXor x y % 2 = 1 ↔ ¬ (x % 2 = 1 ↔ y % 2 = 1)) := by
  rw [xorAnd, xorAnd]
  have := and_half x y
  rw [← this.1]
  omega
theorem tb_xor (x y : Int) (i : Nat) : tb (Builtin.bitXor x y) i = (tb x i ^^ tb y i) := by
  induction i generalizing x y with
  | zero =>
    rw [tb_zero, tb_zero, tb_zero]
    have := (xor_half x y).2
    by_cases h1 : x % 2 = 1 <;> by_cases h2 : y % 2 = 1 <;> simp [h1, h2] at this ⊢ <;> omega
  | succ i ih => rw [tb_succ, tb_succ, tb_succ, (xor_half x y).1, ih]
theorem tb_ext {x y : Int} (h : ∀ i, tb x i = tb y i) : x = y := by
  have key : ∀ (n : Nat) (x y : Int), x.natAbs ≤ n → y.natAbs ≤ n → (∀ i, tb x i = tb y i) → x = y := by
    intro n
    induction n with
    | zero => intro x y hx hy _; omega
    | succ n ih =>
      intro x y hx hy h
      have h0 := h 0
      rw [tb_zero, tb_zero, decide_eq_decide] at h0
      by_cases hs : (x / 2).natAbs ≤ n ∧ (y / 2).natAbs ≤ n
      · have := ih (x / 2) (y / 2) hs.1 hs.2 (fun i => by rw [← tb_succ, ← tb_succ]; exact h (i + 1))
        omega
      · have hm : ∀ z : Int, tb (-1) z.toNat = true := by
          intro z
          unfold tb
          have : (-1 : Int) / 2 ^ z.toNat = -1 := by
            have hp := ppos z.toNat
            have := Int.neg_one_ediv (2 ^ z.toNat)
            rw [this, Int.sign_eq_one_of_pos hp]
          rw [this]; decide
        -- n = 0: x or y is -1
        have h1 := h 1
        rw [tb_succ, tb_succ, tb_zero, tb_zero, decide_eq_decide] at h1
        omega
  exact key (x.natAbs + y.natAbs) x y (by omega) (by omega) h
theorem tb_shr (x : Int) (k i : Nat) : tb (x / 2 ^ k) i = tb x (k + i) := by
  unfold tb
  rw [padd, Int.ediv_ediv_of_nonneg (Int.le_of_lt (ppos k))]
theorem tb_shl_lt (x : Int) {k i : Nat} (h : i < k) : tb (x * 2 ^ k) i = false := by
  unfold tb
  obtain ⟨d, rfl⟩ : ∃ d, k = i + (d + 1) := ⟨k - i - 1, by omega⟩
  have e : x * 2 ^ (i + (d + 1)) = (2 * (x * 2 ^ d)) * 2 ^ i := by
    rw [padd, psucc, Int.mul_comm (2 ^ i), ← Int.mul_assoc, ← Int.mul_assoc, Int.mul_comm x 2, Int.mul_assoc 2]
  rw [e, Int.mul_ediv_cancel _ (by have := ppos i; omega)]
  simp only [decide_eq_false_iff_not]
  omega
theorem tb_shl_ge (x : Int) {k i : Nat} (h : k ≤ i) : tb (x * 2 ^ k) i = tb x (i - k) := by
  obtain ⟨d, rfl⟩ : ∃ d, i = k + d := ⟨i - k, by omega⟩
  rw [← tb_shr, Int.mul_ediv_cancel _ (by have := ppos k; omega)]
  congr 1; omega
theorem tb_shl (x : Int) (k i : Nat) : tb (x * 2 ^ k) i = (decide (k ≤ i) && tb x (i - k)) := by
  by_cases h : k ≤ i
  · rw [tb_shl_ge x h]; simp [h]
  · rw [tb_shl_lt x (by omega)]; simp [h]
theorem tb_mod (x : Int) (k i : Nat) : tb (x % 2 ^ k) i = (decide (i < k) && tb x i) := by
  by_cases h : i < k
  · obtain ⟨d, rfl⟩ : ∃ d, k = i + (d + 1) := ⟨k - i - 1, by omega⟩
    simp only [h, decide_true, Bool.true_and]
    unfold tb
    have hp := ppos (d + 1)
    have hi := ppos i
    have e : x % 2 ^ (i + (d + 1)) / 2 ^ i = (x / 2 ^ i) % 2 ^ (d + 1) := by
      have h1 := Int.emod_def x (2 ^ (i + (d + 1)))
      have h2 := Int.emod_def (x / 2 ^ i) (2 ^ (d + 1))
      rw [h1, h2, padd, ← Int.ediv_ediv_of_nonneg (Int.le_of_lt hi), Int.mul_assoc, Int.sub_eq_add_neg, ← Int.mul_neg, Int.add_mul_ediv_left _ _ (by omega), Int.sub_eq_add_neg]
    rw [e, psucc]
    have : (x / 2 ^ i) % (2 * 2 ^ d) % 2 = (x / 2 ^ i) % 2 := Int.emod_emod_of_dvd _ ⟨2 ^ d, rfl⟩
    rw [this]
  · simp only [h, decide_false, Bool.false_and]
    unfold tb
    have hk := ppos k
    have h0 := Int.emod_nonneg x (show (2 : Int) ^ k ≠ 0 by omega)
    have h1 := Int.emod_lt_of_pos x hk
    have h2 : (2 : Int) ^ k ≤ 2 ^ i := by
      rw [← pcast, ← pcast]
      have := Nat.pow_le_pow_right (show 0 < 2 by decide) (show k ≤ i by omega)
      omega
    rw [Int.ediv_eq_zero_of_lt h0 (by omega)]
    rfl
theorem tb_0 (i : Nat) : tb 0 i = false := by simp [tb]
theorem tb_pow (k i : Nat) : tb (2 ^ k) i = decide (i = k) := by
  have h := tb_shl 1 k i
  rw [Int.one_mul] at h
  rw [h]
  have : ∀ j, tb 1 j = decide (j = 0) := by
    intro j
    cases j with
    | zero => rfl
    | succ j => rw [tb_succ, show (1 : Int) / 2 = 0 from rfl, tb_0]; simp
  rw [this]
  by_cases h1 : k ≤ i
  · simp [h1]; omega
  · simp [h1]; omega
theorem tb_m1 (i : Nat) : tb (-1) i = true := by
  have := tb_not 0 i
  rw [tb_0] at this
  exact this
theorem tb_ones (k i : Nat) : tb (2 ^ k - 1) i = decide (i < k) := by
  have h := tb_mod (-1) k i
  rw [tb_m1, Bool.and_true] at h
  have hp := ppos k
  have e : (2 : Int) ^ k - 1 = -1 % 2 ^ k := ((Int.ediv_emod_unique (b := 2 ^ k) (a := -1) (q := -1) (r := 2 ^ k - 1) hp).mpr ⟨by omega, by omega, by omega⟩).2.symm
  rw [e, h]
/-- a number below 2 ^ k has no bit from k on -/
theorem tb_lt {x : Int} {k i : Nat} (h0 : 0 ≤ x) (h1 : x < 2 ^ k) (hi : k ≤ i) : tb x i = false := by
  have h := tb_mod x k i
  rw [Int.emod_eq_of_lt h0 h1] at h
  rw [h]
  simp
  intro h2
  omega
theorem lt_of_tb {x : Int} {k : Nat} (h : ∀ i, k ≤ i → tb x i = false) : 0 ≤ x ∧ x < 2 ^ k := by
  have e : x = x % 2 ^ k := by
    apply tb_ext
    intro i
    rw [tb_mod]
    by_cases hi : i < k
    · simp [hi]
    · rw [h i (by omega)]; simp
  have hk := ppos k
  rw [e]
  exact ⟨Int.emod_nonneg _ (by omega), Int.emod_lt_of_pos _ hk⟩
theorem tb_sub_odd (x : Int) (i : Nat) : tb x i = decide (x / 2 ^ i % 2 = 1) := rfl
end Mine
namespace Mine
theorem modStep (n : Int) (j : Nat) : n % 2 ^ (j + 1) = n % 2 ^ j + (n / 2 ^ j % 2) * 2 ^ j := by
  have hp := ppos j
  have h1 := Int.emod_def n (2 ^ j)
  have h2 := Int.emod_def n (2 ^ (j + 1))
  have h3 := Int.emod_def (n / 2 ^ j) 2
  have h4 : n / 2 ^ (j + 1) = n / 2 ^ j / 2 := by
    rw [Int.ediv_ediv_of_nonneg (Int.le_of_lt hp)]; rfl
  rw [h1, h2, h3, h4, psucc, Int.sub_mul, Int.mul_comm (n / 2 ^ j) (2 ^ j)]
  have : 2 * 2 ^ j * (n / 2 ^ j / 2) = 2 * (n / 2 ^ j / 2) * 2 ^ j := by
    rw [Int.mul_assoc, Int.mul_assoc, Int.mul_comm (2 ^ j)]
  omega
theorem divStep (n : Int) (j : Nat) : n / 2 ^ j / 2 = n / 2 ^ (j + 1) := by
  rw [Int.ediv_ediv_of_nonneg (Int.le_of_lt (ppos j))]; rfl
theorem fdiv2 (x : Int) : x.fdiv 2 = x / 2 := Int.fdiv_eq_ediv_of_nonneg _ (by decide)
theorem fmod2 (x : Int) : x.fmod 2 = x % 2 := Int.fmod_eq_emod_of_nonneg _ (by decide)
theorem fdivP (x : Int) (k : Nat) : x.fdiv (2 ^ k) = x / 2 ^ k := Int.fdiv_eq_ediv_of_nonneg _ (Int.le_of_lt (ppos k))
theorem fmodP (x : Int) (k : Nat) : x.fmod (2 ^ k) = x % 2 ^ k := Int.fmod_eq_emod_of_nonneg _ (Int.le_of_lt (ppos k))
/-- 0040: one turn of the opposite digits -/
theorem opp_step (n : Int) (j : Nat) : 2 ^ (j + 1) - 1 - n % 2 ^ (j + 1) = (2 ^ j - 1 - n % 2 ^ j) + (if n / 2 ^ j % 2 = 0 then 2 ^ j else 0) := by
  rw [modStep, psucc]
  rcases Int.emod_two_eq (n / 2 ^ j) with h | h
  · rw [h]; simp; omega
  · rw [h]; simp; omega
theorem and_mask (x : Int) (k : Nat) : Builtin.bitAnd x (2 ^ k - 1) = x % 2 ^ k := by
  apply tb_ext; intro i
  rw [tb_and, tb_ones, tb_mod, Bool.and_comm]
/-- inverted -/
theorem inv_eq {n : Int} {k : Nat} (h0 : 0 ≤ n) (h1 : n < 2 ^ k) : Builtin.bitAnd (Builtin.bitNot n) (2 ^ k - 1) = 2 ^ k - 1 - n := by
  rw [and_mask]
  unfold Builtin.bitNot
  have hp := ppos k
  exact ((Int.ediv_emod_unique (b := 2 ^ k) (a := -n - 1) (q := -1) (r := 2 ^ k - 1 - n) hp).mpr ⟨by omega, by omega, by omega⟩).2
/-- flipping -/
theorem flip_eq (A b L : Int) (k : Nat) (hb : b = 0 ∨ b = 1) (h0 : 0 ≤ L) (h1 : L < 2 ^ k) :
    Builtin.bitXor (A * 2 * 2 ^ k + b * 2 ^ k + L) (2 ^ k) = A * 2 * 2 ^ k + (1 - b) * 2 ^ k + L := by
  have hp := ppos k
  have hd : (A * 2 * 2 ^ k + b * 2 ^ k + L) / 2 ^ k = A * 2 + b := by
    have e : A * 2 * 2 ^ k + b * 2 ^ k + L = L + (A * 2 + b) * 2 ^ k := by rw [Int.add_mul]; omega
    rw [e, Int.add_mul_ediv_right _ _ (by omega), Int.ediv_eq_zero_of_lt h0 h1]; omega
  have ha : Builtin.bitAnd (A * 2 * 2 ^ k + b * 2 ^ k + L) (2 ^ k) = b * 2 ^ k := by
    apply tb_ext; intro i
    rw [tb_and, tb_pow, tb_shl]
    by_cases hi : i = k
    · subst hi
      simp only [decide_true, Bool.and_true, Nat.le_refl, Bool.true_and, Nat.sub_self]
      unfold tb
      rw [hd]
      rcases hb with rfl | rfl
      · simp
      · simp
    · simp only [hi, decide_false, Bool.and_false]
      rcases hb with rfl | rfl
      · rw [tb_0]; simp
      · by_cases h2 : k ≤ i
        · obtain ⟨d, hd2⟩ : ∃ d, i - k = d + 1 := ⟨i - k - 1, by omega⟩
          rw [hd2, tb_succ, show (1 : Int) / 2 = 0 from rfl, tb_0]; simp
        · simp [h2]
  rw [xorAnd, ha, Int.sub_mul]
  omega
end Mine
namespace Mine
/-! parity (0044) -/
/-- the parity of the low k bits -/
def par (x : Int) : Nat → Bool
  | 0 => false
  | k + 1 => par x k ^^ tb x k
theorem par_add (x : Int) (h k : Nat) : par x (h + k) = (par x h ^^ par (x / 2 ^ h) k) := by
  induction k with
  | zero => simp [par]
  | succ k ih => rw [← Nat.add_assoc, par, ih, par, tb_shr, Bool.xor_assoc]
theorem par_xor (x y : Int) (k : Nat) : par (Builtin.bitXor x y) k = (par x k ^^ par y k) := by
  induction k with
  | zero => rfl
  | succ k ih =>
    rw [par, ih, par, par, tb_xor]
    cases par x k <;> cases par y k <;> cases tb x k <;> cases tb y k <;> rfl
theorem par_fold (x : Int) (h : Nat) : par (Builtin.bitXor x (x / 2 ^ h)) h = par x (h + h) := by
  rw [par_xor, par_add]
theorem par_pow (k m : Nat) : par (2 ^ k) m = decide (k < m) := by
  induction m with
  | zero => simp [par]
  | succ m ih =>
    rw [par, ih, tb_pow]
    by_cases h1 : k < m
    · have : m ≠ k := by omega
      have h2 : k < m + 1 := by omega
      simp [h1, this, h2]
    · by_cases h2 : m = k
      · subst h2; simp
      · have : ¬ k < m + 1 := by omega
        simp [h1, h2, this]
/-- the number of ones among the low k bits -/
def ones (x : Int) : Nat → Int
  | 0 => 0
  | k + 1 => ones x k + x / 2 ^ k % 2
theorem ones_par (x : Int) (k : Nat) : ones x k % 2 = if par x k then 1 else 0 := by
  induction k with
  | zero => rfl
  | succ k ih =>
    rw [ones, par]
    unfold tb
    rcases Int.emod_two_eq (x / 2 ^ k) with h | h
    · rw [h]; cases hp : par x k <;> simp [hp] at ih ⊢ <;> omega
    · rw [h]; cases hp : par x k <;> simp [hp] at ih ⊢ <;> omega
theorem and_one (x : Int) : Builtin.bitAnd x 1 = x % 2 := and_mask x 1
def parity (n : Int) : Int :=
  let a := Builtin.bitXor n (n / 2 ^ 32)
  let b := Builtin.bitXor a (a / 2 ^ 16)
  let c := Builtin.bitXor b (b / 2 ^ 8)
  let d := Builtin.bitXor c (c / 2 ^ 4)
  let e := Builtin.bitXor d (d / 2 ^ 2)
  let f := Builtin.bitXor e (e / 2 ^ 1)
  f % 2
theorem mod2_par (x : Int) : x % 2 = if par x 1 then 1 else 0 := by
  simp only [par, Bool.false_xor, tb_zero, decide_eq_true_eq]
  rcases Int.emod_two_eq x with h | h <;> simp [h]
theorem parity_eq (n : Int) : parity n = if par n 64 then 1 else 0 := by
  unfold parity
  rw [mod2_par, par_fold, par_fold, par_fold, par_fold, par_fold, par_fold]
theorem parity_ones (n : Int) : parity n = ones n 64 % 2 := by rw [parity_eq, ones_par]
theorem parity_turn (n : Int) (k : Nat) (h : k < 64) : parity (Builtin.bitXor n (2 ^ k)) = 1 - ones n 64 % 2 := by
  rw [parity_eq, ones_par, par_xor, par_pow]
  simp only [h, decide_true]
  cases par n 64 <;> rfl
/-! power of two (0046) -/
theorem pw_and (k : Nat) (a : Int) : Builtin.bitAnd (2 ^ k * (2 * a + 1)) (2 ^ k * (2 * a + 1) - 1) = 2 ^ k * (2 * a) := by
  induction k with
  | zero =>
    simp only [Int.pow_zero, Int.one_mul]
    have h := and_half (2 * a + 1) (2 * a + 1 - 1)
    have e1 : (2 * a + 1) / 2 = a := by omega
    have e2 : (2 * a + 1 - 1) / 2 = a := by omega
    rw [e1, e2, bitAnd_self] at h
    omega
  | succ k ih =>
    have e : (2 : Int) ^ (k + 1) * (2 * a + 1) = 2 * (2 ^ k * (2 * a + 1)) := by rw [psucc, Int.mul_assoc]
    have e' : (2 : Int) ^ (k + 1) * (2 * a) = 2 * (2 ^ k * (2 * a)) := by rw [psucc, Int.mul_assoc]
    rw [e, e']
    generalize (2 : Int) ^ k * (2 * a + 1) = m at *
    have h := and_half (2 * m) (2 * m - 1)
    have e1 : (2 * m) / 2 = m := by omega
    have e2 : (2 * m - 1) / 2 = m - 1 := by omega
    rw [e1, e2, ih] at h
    omega
theorem low_eq (k : Nat) (a : Int) : Builtin.bitAnd (2 ^ k * (2 * a + 1)) (-(2 ^ k * (2 * a + 1))) = 2 ^ k := by
  induction k with
  | zero =>
    simp only [Int.pow_zero, Int.one_mul]
    have h := and_half (2 * a + 1) (-(2 * a + 1))
    have e1 : (2 * a + 1) / 2 = a := by omega
    have e2 : (-(2 * a + 1)) / 2 = Builtin.bitNot a := by unfold Builtin.bitNot; omega
    rw [e1, e2, bitAnd_not, bitAnd_self] at h
    omega
  | succ k ih =>
    have e : (2 : Int) ^ (k + 1) * (2 * a + 1) = 2 * (2 ^ k * (2 * a + 1)) := by rw [psucc, Int.mul_assoc]
    rw [e, psucc]
    generalize (2 : Int) ^ k * (2 * a + 1) = m at *
    have h := and_half (2 * m) (-(2 * m))
    have e1 : (2 * m) / 2 = m := by omega
    have e2 : (-(2 * m)) / 2 = -m := by omega
    rw [e1, e2, ih] at h
    omega
/-- every positive int is 2 ^ k times an odd one -/
theorem odd_part (n : Int) (h : 0 < n) : ∃ (k : Nat) (a : Int), 0 ≤ a ∧ n = 2 ^ k * (2 * a + 1) := by
  have key : ∀ (m : Nat) (n : Int), 0 < n → n.toNat ≤ m → ∃ (k : Nat) (a : Int), 0 ≤ a ∧ n = 2 ^ k * (2 * a + 1) := by
    intro m
    induction m with
    | zero => intro n h1 h2; omega
    | succ m ih =>
      intro n h1 h2
      rcases Int.emod_two_eq n with h | h
      · obtain ⟨k, a, ha, e⟩ := ih (n / 2) (by omega) (by omega)
        refine ⟨k + 1, a, ha, ?_⟩
        rw [psucc, Int.mul_assoc, ← e]; omega
      · exact ⟨0, n / 2, by omega, by simp only [Int.pow_zero, Int.one_mul]; omega⟩
  exact key n.toNat n h (by omega)
end Mine
set_option maxRecDepth 100000
namespace Mine
section
 open PySem.Calls PyProof.V PySem.Spec
/-- the ints of a range that goes up by c -/
def stepKs (a c : Int) (n : Nat) : List Int := (List.range n).map fun (i : Nat) => a + (i : Int) * c
theorem stepKs_length (a c : Int) (n : Nat) : (stepKs a c n).length = n := by simp [stepKs]
section
variable {prog : Program} {w : World} {A : Around} {E : Value → Shared → Prop} {s : Shared} {env : Env} {h₀ : Heap} {x : Str} {body : List Stmt} {Q : Flow → Shared → Prop}
/-- a for over range(a, b, c), c any step, by an invariant over the state -/
theorem loop_step {σ : Type} {r : Addr} {a₀ b₀ c₁ : Int} {t₀ u₀ v₀ : Tok} {n : Nat} {m₀ : Str → Option Value} (Led : σ → List (Addr × Obj)) (ps : σ → List (Str × Value)) (Facts : σ → Prop) (stored : List Str) (P : List Int → σ → Prop) (c₀ : σ)
    (hh : A.handled = none) (hr : IsRange s.heap r a₀ b₀ c₁ t₀ u₀ v₀) (hsmall : Builtin.Range.small a₀ b₀ c₁ = true) (hn : Builtin.Range.rangeSize a₀ b₀ c₁ = (n : Int)) (F : Fr h₀ env.locals s.heap m₀) (N : News h₀ env.locals s.heap (Led c₀)) (hf : Facts c₀) (hk : ∀ p ∈ ps c₀, m₀ p.1 = some p.2) (hp : P [] c₀)
    (turn : ∀ (c : σ) (pre : List Int) (k : Int) t (u : Str → Option Value) h tk own, k = a₀ + (pre.length : Int) * c₁ → pre.length < n → OwnOff own ((Led c₀).map (·.1)) → Facts c → P pre c →
      Fr h₀ env.locals h (fun y => if y = x then some (.int k t) else kstB (fun z => if stored.contains z then u z else m₀ z) (ps c) y) → News h₀ env.locals h (Led c ++ own) →
      wpAny (model prog w) A (execs body env) (InvPostN h₀ env.locals (KstS Led ps Facts x stored m₀ P (pre ++ [k])) own ((Led c₀).map (·.1)) { s with heap := h, toks := tk } Q) E { s with heap := h, toks := tk })
    (done : ∀ (c : σ) (u : Str → Option Value) h tk, Facts c → P (stepKs a₀ c₁ n) c → Fr h₀ env.locals h (fun y => if y = x then u y else kstB (fun z => if stored.contains z then u z else m₀ z) (ps c) y) → News h₀ env.locals h (Led c) → Q .next { s with heap := h, toks := tk }) :
    wpAny (model prog w) A (pyIter (.ref r)) (fun it s₂ => LoopAtV prog w A h₀ env x body Q E it s₂) E s := by
  refine wpAny_pyIter_range hr hsmall ?_
  have W : Walks prog w A s.heap.objs.size [s.heap.objs.size] [s.heap.objs.size] n (fun i v => i < n ∧ ∃ t, v = .int (a₀ + i * c₁) t)
      (fun i h => IsRangeIter h s.heap.objs.size (a₀ + (i : Nat) * c₁) ((n : Int) - (i : Nat)) c₁) := (Walks.range hh _ a₀ c₁ n).bound
  have isNew : ∀ p ∈ Led c₀, ¬ p.1 ∈ [s.heap.objs.size] := fun p hp hI => absurd (Heap.lt_size (N p hp).1) ((List.mem_singleton.mp hI) ▸ Nat.lt_irrefl _)
  refine loop_invN (fun i m nx => KstS Led ps Facts x stored m₀ P ((stepKs a₀ c₁ n).take i) m nx) W ?_ ?_ isNew isNew (by show IsRangeIter _ _ _ _ _; rw [hn]; simpa using Heap.get?_push_size _ rfl) (F.push _) (fun p hp => ⟨Heap.get?_push_of_some _ (N p hp).1, (N p hp).2⟩) ⟨c₀, rfl, hf, hk, fun _ _ _ _ => rfl, by simpa using hp⟩ ?_ ?_
  · intro hm
    exact absurd F.ns.lt ((List.mem_singleton.mp hm) ▸ Nat.lt_irrefl _)
  · intro b hb
    rw [List.mem_singleton.mp hb]
    exact next_is_new F
  · rintro i v m₁ nx h tk own hi ⟨_, t, rfl⟩ _ hoff ⟨c, rfl, hf', h1, h2, hp'⟩ F₁ N₁
    have hk' : (stepKs a₀ c₁ n)[i]? = some (a₀ + (i : Int) * c₁) := by simp [stepKs, hi]
    have hs : (stepKs a₀ c₁ n).take (i + 1) = (stepKs a₀ c₁ n).take i ++ [a₀ + (i : Int) * c₁] := by simp [List.take_add_one, hk']
    have hlen : ((stepKs a₀ c₁ n).take i).length = i := by rw [List.length_take, stepKs_length]; omega
    rw [hs]
    exact turn c _ _ t m₁ h tk own (by rw [hlen]) (by rw [hlen]; exact hi) hoff hf' hp' (kst_fr h1 h2 F₁) N₁
  · rintro m₁ nx h tk ⟨c, rfl, hf', h1, h2, hp'⟩ F₁ N₁
    have hl : (stepKs a₀ c₁ n).take n = stepKs a₀ c₁ n := List.take_of_length_le (Nat.le_of_eq (stepKs_length _ _ _))
    rw [hl] at hp'
    exact done c m₁ h tk hf' hp' (kst_frOut h1 h2 F₁) N₁
end
end
end Mine
set_option maxRecDepth 100000
namespace Mine
section
 open PySem.Calls PyProof.V PySem.Spec
/-! hamming_syndrome (0074, 0096): the loop over range(1, 8) -/
def bitP (n i : Int) : Int := Builtin.bitAnd (n.fdiv (2 ^ i.toNat)) 1
def synB (w : Int) (k : Nat) : Int := if Builtin.bitAnd (w.fdiv (2 ^ k)) 1 = 1 then (k : Int) + 1 else 0
def syn (w : Int) : Nat → Int
  | 0 => 0
  | j + 1 => Builtin.bitXor (syn w j) (synB w j)
def SyInv (w : Int) (j : Nat) (a : Int) : Prop := a = syn w j
def synP (w : Int) : Int := syn w 7
theorem xor_zero' (x : Int) : Builtin.bitXor x 0 = x := by rw [xorAnd, bitAnd_zero]; omega
theorem sy_t0 (w : Int) : SyInv w 0 0 := rfl
theorem sy_t1 {w a d : Int} {pre : List Int} (hi : SyInv w pre.length a) (e : d = 1 + (pre.length : Int) * 1) (hc : bitP w (d - 1) = 1) : SyInv w (pre ++ [d]).length (Builtin.bitXor a d) := by
  rw [List.length_append, List.length_singleton]
  have h1 : (d - 1).toNat = pre.length := by omega
  unfold bitP at hc
  rw [h1] at hc
  unfold SyInv at *
  rw [syn, synB, if_pos hc, hi, e]
  congr 1; omega
theorem sy_t2 {w a d : Int} {pre : List Int} (hi : SyInv w pre.length a) (e : d = 1 + (pre.length : Int) * 1) (hc : bitP w (d - 1) ≠ 1) : SyInv w (pre ++ [d]).length a := by
  rw [List.length_append, List.length_singleton]
  have h1 : (d - 1).toNat = pre.length := by omega
  unfold bitP at hc
  rw [h1] at hc
  unfold SyInv at *
  rw [syn, synB, if_neg hc, hi, xor_zero']
theorem sy_end {w a : Int} (h : SyInv w 7 a) : a = synP w := h
section
variable {prog : Program} {w : World} {A : Around} {E : Value → Shared → Prop} {s : Shared} {env : Env} {h₀ : Heap} {x : Str} {body : List Stmt} {Q : Flow → Shared → Prop}
theorem syn_loop {r : Addr} {wd : Int} {t tw t₀ u₀ v₀ : Tok} {m₀ : Str → Option Value} {news : List (Addr × Obj)}
    (hh : A.handled = none) (hr : IsRange s.heap r 1 8 1 t₀ u₀ v₀) (F : Fr h₀ env.locals s.heap m₀) (N : News h₀ env.locals s.heap news) (hw : m₀ (Str.ofString "word") = some (.int wd tw)) (hk : m₀ (Str.ofString "syndrome") = some (.int 0 t))
    (turn : ∀ (a : Int) (ta : Nat) (pre : List Int) (d : Int) t (u : Str → Option Value) h tk own, d = 1 + (pre.length : Int) * 1 → pre.length < 7 → OwnOff own (news.map (·.1)) → SyInv wd pre.length a →
      Fr h₀ env.locals h (fun z => if z = x then some (.int d t) else if z = Str.ofString "syndrome" then some (.int a ta) else m₀ z) → News h₀ env.locals h (news ++ own) →
      wpAny (model prog w) A (execs body env) (InvPostN h₀ env.locals (KstS (σ := Int × Nat) (fun _ => news) (fun c => [(Str.ofString "syndrome", .int c.1 c.2)]) (fun _ => True) x [] m₀ (fun pre c => SyInv wd pre.length c.1) (pre ++ [d])) own (news.map (·.1)) { s with heap := h, toks := tk } Q) E { s with heap := h, toks := tk })
    (done : ∀ (a : Int) (ta : Nat) (u : Str → Option Value) h tk, SyInv wd 7 a → Fr h₀ env.locals h (fun z => if z = x then u z else if z = Str.ofString "syndrome" then some (.int a ta) else m₀ z) → News h₀ env.locals h news → Q .next { s with heap := h, toks := tk }) :
    wpAny (model prog w) A (pyIter (.ref r)) (fun it s₂ => LoopAtV prog w A h₀ env x body Q E it s₂) E s := by
  refine loop_step (σ := Int × Nat) (n := 7) (fun _ => news) (fun c => [(Str.ofString "syndrome", .int c.1 c.2)]) (fun _ => True) [] (fun pre c => SyInv wd pre.length c.1) (0, t) hh hr (by decide) (by decide) F N trivial ?_ (sy_t0 wd) ?_ ?_
  · intro p hp
    rw [List.mem_singleton.mp hp]
    exact hk
  · intro c pre d t u h tk own e hl ho _ hi F' N'
    exact turn c.1 c.2 pre d t u h tk own e hl ho hi (by simpa [kstB] using F') N'
  · intro c u h tk _ hi F' N'
    rw [stepKs_length] at hi
    exact done c.1 c.2 u h tk hi (by simpa [kstB] using F') N'
end
theorem syn_lt (w : Int) {j : Nat} (hj : j ≤ 7) : 0 ≤ syn w j ∧ syn w j < 8 := by
  induction j with
  | zero => exact ⟨Int.le_refl 0, (by decide : (0 : Int) < 8)⟩
  | succ j ih =>
    have ih := ih (by omega)
    rw [syn]
    have hb : 0 ≤ synB w j ∧ synB w j < 8 := by
      unfold synB; split <;> omega
    exact lt_of_tb (k := 3) fun i hi => by
      rw [tb_xor, tb_lt (k := 3) ih.1 ih.2 hi, tb_lt (k := 3) hb.1 hb.2 hi]; rfl
theorem synP_lt (w : Int) : 0 ≤ synP w ∧ synP w < 8 := syn_lt w (Nat.le_refl 7)
theorem and_bits (x : Int) {m : Int} (h0 : 0 ≤ m) (h1 : m < 16) {k : Int} (hk : k ≤ 100) : (Builtin.Int.intBits (Builtin.bitAnd x m) : Int) + k ≤ 2 ^ 27 := by
  have h := lt_of_tb (x := Builtin.bitAnd x m) (k := 4) fun i hi => by rw [tb_and, tb_lt (k := 4) h0 h1 hi, Bool.and_false]
  have e : (2 : Int) ^ 27 = 134217728 := by decide
  have hb : Builtin.Int.intBits (Builtin.bitAnd x m) ≤ 4 := PySem.intBits_le_iff.mpr (by
    have h2 := h.2
    have e4 : (2 : Int) ^ 4 = 16 := by decide
    have h3 := h.1
    show _ < 16
    omega)
  rw [e]; omega
theorem split16 {d : Int} (h : 0 ≤ d ∧ d < 16) : d = 0 ∨ d = 1 ∨ d = 2 ∨ d = 3 ∨ d = 4 ∨ d = 5 ∨ d = 6 ∨ d = 7 ∨ d = 8 ∨ d = 9 ∨ d = 10 ∨ d = 11 ∨ d = 12 ∨ d = 13 ∨ d = 14 ∨ d = 15 := by omega
def wordP (n : Int) : Int := Builtin.bitOr (Builtin.bitAnd n 1 * 2 ^ Int.toNat 2) (Builtin.bitAnd n 14 * 2 ^ Int.toNat 3)
def encP (n : Int) : Int := Builtin.bitOr (Builtin.bitOr (wordP n) (Builtin.bitAnd (synP (wordP n)) 3)) (Builtin.bitAnd (synP (wordP n)) 4 * 2 ^ Int.toNat 1)
end
end Mine
namespace Mine
theorem dpos {d : Int} {j : Nat} (e : d = 1 + (j : Int) * 1) : 0 ≤ d - 1 := by omega
def MPre (n p : Int) : Prop := 0 ≤ n ∧ n < 16 ∧ p < 16
def mendP (n p : Int) : Bool := decide (0 ≤ p ∧ p ≤ 7)
theorem sh1 {k : Int} (h : k ≤ 100) : (Builtin.Int.intBits 1 : Int) + k ≤ 2 ^ 27 := by
  have e : (2 : Int) ^ 27 = 134217728 := by decide
  have e2 : Builtin.Int.intBits 1 = 1 := by decide
  rw [e, e2]; omega
theorem mp_le {n p : Int} (h : MPre n p) : p - 1 ≤ 100 := by have := h.2.2; omega
theorem sy_le (w : Int) : synP w - 1 ≤ 100 := by have := (synP_lt w).2; omega
theorem pos1 {p : Int} (h : 0 < p) : 0 ≤ p - 1 := by omega
def flP (n i : Int) : Int := Builtin.bitXor n (1 * 2 ^ i.toNat)
theorem fl_ok {k : Int} (h : 0 ≤ k ∧ k ≤ 100) : (Builtin.Int.intBits 1 : Int) + k ≤ 2 ^ 27 := sh1 h.2
theorem mp (c d : Int) : MPre (c.fmod 16) (d.fmod 8) := by
  unfold MPre; rw [Int.fmod_eq_emod_of_nonneg _ (by decide), Int.fmod_eq_emod_of_nonneg _ (by decide)]; omega
theorem mp8 (c d : Int) : MPre (c.fmod 16) (8 + d.fmod 8) := by
  unfold MPre; rw [Int.fmod_eq_emod_of_nonneg _ (by decide), Int.fmod_eq_emod_of_nonneg _ (by decide)]; omega
theorem mpm (c d : Int) : MPre (c.fmod 16) (if -1 < d then -1 else d) := by
  unfold MPre; rw [Int.fmod_eq_emod_of_nonneg _ (by decide)]; split <;> omega
def dec (w : Int) : Int := Builtin.bitOr (Builtin.bitAnd (w.fdiv (2 ^ Int.toNat 2)) 1) (Builtin.bitAnd (w.fdiv (2 ^ Int.toNat 3)) 14)
def W1 (n : Int) (q : Nat) : Int := Builtin.bitXor (encP n) (1 * 2 ^ q)
theorem fin1 : ∀ n : Nat, n < 16 → ∀ q : Nat, q < 15 → (0 < synP (W1 n q) → (dec (Builtin.bitXor (W1 n q) (1 * 2 ^ (synP (W1 n q) - 1).toNat)) == (n : Int) && synP (W1 n q) == (q : Int) + 1) = decide (q < 7)) ∧ (¬ 0 < synP (W1 n q) → (dec (W1 n q) == (n : Int) && synP (W1 n q) == (q : Int) + 1) = decide (q < 7)) := by decide +kernel
theorem fin0 : ∀ n : Nat, n < 16 → synP (encP n) = 0 ∧ dec (encP n) = n := by decide +kernel
theorem mend_q {n p : Int} {q : Nat} (e : p = (q : Int) + 1) : mendP n p = decide (q < 7) := by
  unfold mendP
  rw [decide_eq_decide]; omega
theorem m1 {n p : Int} (hp : MPre n p) (h0 : 0 < p) (hs : 0 < synP (Builtin.bitXor (encP n) (1 * 2 ^ (p - 1).toNat))) :
    (Builtin.bitOr (Builtin.bitAnd ((Builtin.bitXor (Builtin.bitXor (encP n) (1 * 2 ^ (p - 1).toNat)) (1 * 2 ^ (synP (Builtin.bitXor (encP n) (1 * 2 ^ (p - 1).toNat)) - 1).toNat)).fdiv (2 ^ Int.toNat 2)) 1) (Builtin.bitAnd ((Builtin.bitXor (Builtin.bitXor (encP n) (1 * 2 ^ (p - 1).toNat)) (1 * 2 ^ (synP (Builtin.bitXor (encP n) (1 * 2 ^ (p - 1).toNat)) - 1).toNat)).fdiv (2 ^ Int.toNat 3)) 14) == n && synP (Builtin.bitXor (encP n) (1 * 2 ^ (p - 1).toNat)) == p) = mendP n p := by
  obtain ⟨h1, h2, h3⟩ := hp
  have e : p = (((p - 1).toNat : Nat) : Int) + 1 := by omega
  have en : n = ((n.toNat : Nat) : Int) := by omega
  have h := (fin1 n.toNat (by omega) (p - 1).toNat (by omega)).1
  rw [mend_q e]
  rw [← en, ← e] at h
  exact h hs
theorem m2 {n p : Int} (hp : MPre n p) (h0 : 0 < p) (hs : ¬ 0 < synP (Builtin.bitXor (encP n) (1 * 2 ^ (p - 1).toNat))) :
    (Builtin.bitOr (Builtin.bitAnd ((Builtin.bitXor (encP n) (1 * 2 ^ (p - 1).toNat)).fdiv (2 ^ Int.toNat 2)) 1) (Builtin.bitAnd ((Builtin.bitXor (encP n) (1 * 2 ^ (p - 1).toNat)).fdiv (2 ^ Int.toNat 3)) 14) == n && synP (Builtin.bitXor (encP n) (1 * 2 ^ (p - 1).toNat)) == p) = mendP n p := by
  obtain ⟨h1, h2, h3⟩ := hp
  have e : p = (((p - 1).toNat : Nat) : Int) + 1 := by omega
  have en : n = ((n.toNat : Nat) : Int) := by omega
  have h := (fin1 n.toNat (by omega) (p - 1).toNat (by omega)).2
  rw [mend_q e]
  rw [← en, ← e] at h
  exact h hs
theorem enc0 {n p : Int} (hp : MPre n p) : synP (encP n) = 0 ∧ dec (encP n) = n := by
  obtain ⟨h1, h2, h3⟩ := hp
  have h := fin0 n.toNat (by omega)
  rw [Int.toNat_of_nonneg h1] at h
  exact h
theorem m3 {n p : Int} {B : Bool} (hp : MPre n p) (hs : 0 < synP (encP n)) : B = mendP n p := by
  have := (enc0 hp).1
  omega
theorem m4 {n p : Int} (hp : MPre n p) (h0 : ¬ 0 < p) : (Builtin.bitOr (Builtin.bitAnd ((encP n).fdiv (2 ^ Int.toNat 2)) 1) (Builtin.bitAnd ((encP n).fdiv (2 ^ Int.toNat 3)) 14) == n && synP (encP n) == p) = mendP n p := by
  have h := enc0 hp
  unfold dec at h
  rw [h.1, h.2]
  unfold mendP
  rw [beq_self_eq_true, Bool.true_and, Bool.eq_iff_iff]
  simp only [beq_iff_eq, decide_eq_true_eq]
  omega
theorem z1 {n p : Int} (h : (mendP n p != true) = true) (h0 : 0 ≤ p) (h1 : p ≤ 7) : False := by
  unfold mendP at h; simp [h0, h1] at h
theorem z2 {n p : Int} (h : (mendP n p != false) = true) (h0 : ¬ 0 ≤ p) : False := by
  unfold mendP at h; simp [h0] at h
theorem z3 {n p : Int} (h : (mendP n p != false) = true) (h0 : ¬ p ≤ 7) : False := by
  unfold mendP at h; simp [h0] at h
theorem g1 (d : Int) : 0 ≤ d.fmod 8 := by rw [Int.fmod_eq_emod_of_nonneg _ (by decide)]; omega
theorem g2 (d : Int) : d.fmod 8 ≤ 7 := by rw [Int.fmod_eq_emod_of_nonneg _ (by decide)]; omega
theorem g3 (d : Int) : ¬ 8 + d.fmod 8 ≤ 7 := by have := g1 d; omega
theorem g4 (d : Int) : ¬ 0 ≤ (if -1 < d then -1 else d) := by split <;> omega
end Mine
local macro_rules | `(tactic| walk_at "exec For Name Call cons nil") => `(tactic| ((with_reducible show wpAny _ _ (exec (Stmt.For _ _ [Stmt.If (Expr.Compare (Expr.Call _ _ _ _) _ _ _) _ _ _] _ _) _) _ _ _); k_here; (rename Fr _ _ _ _ => lF'); (with_unfolding_all refine' For_invVF lF' ?k1 ?k2 ?_; (case k1 => exact rfl); (case k2 => exact rfl); k_whole)))
local macro_rules | `(tactic| walk_at "pyIter ref") => `(tactic| ((with_reducible show wpAny _ _ (pyIter (Value.ref _)) (fun it s₂ => LoopAtV _ _ _ _ _ _ [Stmt.If (Expr.Compare (Expr.Call _ _ _ _) _ _ _) _ _ _] _ _ it s₂) _ _); k_here; (rename Fr _ _ _ _ => lF'); (rename News _ _ _ _ => lN'); (rename IsRange _ _ _ _ _ _ _ _ => rgX); (with_unfolding_all refine' Mine.syn_loop ?hh rgX lF' lN' ?kw ?kk (fun a9 ta9 pre9 d9 t9 u9 h9 tk9 own9 dEq dLt dOff dInv dFr dNews => ?_) (fun a9 ta9 u9 h9 tk9 dInv dFr dNews => ?_)); (case hh => with_unfolding_all rfl); (case kw => with_unfolding_all rfl); (case kk => with_unfolding_all rfl); (all_goals (try clear lF' lN')); (all_goals (try k_fold))))
local macro_rules | `(tactic| walk_at "binaryOp LShift int int") => `(tactic| (k_here; first | ((refine' lshift_int ?z0 ?z1 ?_); (case z1 => exact Mine.and_bits _ (by decide) (by decide) (by decide)); (case z0 => decide)) | ((refine' lshift_int ?z0 ?z1 ?_); (case z1 => first | (with_reducible exact Mine.fl_ok (by assumption)) | (with_reducible exact Mine.sh1 (Mine.mp_le (And.left (by assumption)))) | (with_reducible exact Mine.sh1 (Mine.sy_le _))); (case z0 => first | (with_reducible exact And.left (by assumption)) | (with_reducible exact Mine.pos1 (by assumption))))))
local macro_rules | `(tactic| k_room) => `(tactic| ktr_room)
set_option maxRecDepth 100000 in
set_option maxHeartbeats 8000000 in
theorem PySem.Challenge.cw_k5_0096_holds : PySem.Challenge.rw_k5_0096.Holds := by
  (k_with "call ref" => k_call_rec "hamming_syndrome" Mine.synP (fun _ => True) (fun _ => 2))
  (k_with "call ref" => k_call_rec "hamming_encode" Mine.encP (fun n => True) (fun _ => 4))
  (k_with "call ref" => k_call_rec "law_hamming_mends_one_bit" Mine.mendP (fun n p => Mine.MPre n p) (fun _ _ => 8))
  (k_with "call ref" => k_call_by "bit_at" Mine.bitP (fun _ i => 0 ≤ i))
  (k_with "size" => with_reducible first | exact Mine.mp _ _ | exact Mine.mp8 _ _ | exact Mine.mpm _ _)
  (k_with "tree" => first | ((with_reducible show _ = Mine.bitP _ _); dsimp only [Mine.bitP]) | ((with_reducible show _ = Mine.flP _ _); dsimp only [Mine.flP]) | (with_reducible exact Mine.sy_end (by assumption)) | ((with_reducible show _ = Mine.encP _); dsimp only [Mine.encP, Mine.wordP]; done) | (with_reducible exact Mine.m1 (And.left (by assumption)) (by assumption) (by assumption)) | (with_reducible exact Mine.m2 (And.left (by assumption)) (by assumption) (by assumption)) | (with_reducible exact Mine.m4 (And.left (by assumption)) (by assumption)) | (with_reducible exact Mine.m3 (And.left (by assumption)) (by assumption)))
  (k_with "state" => first | (with_reducible exact Mine.sy_t1 (by assumption) (by assumption) (by assumption)) | (with_reducible exact Mine.sy_t2 (by assumption) (by assumption) (by assumption)))
  (k_with "end" => ((with_reducible show (false == true) = true); with_reducible first | exact (Mine.z1 (by assumption) (by first | assumption | exact Mine.g1 _) (by first | assumption | exact Mine.g2 _)).elim | exact (Mine.z2 (by assumption) (by first | assumption | exact Mine.g4 _)).elim | exact (Mine.z3 (by assumption) (by first | assumption | exact Mine.g3 _)).elim))
  open_k
