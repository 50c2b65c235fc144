import PyProof.Rows.All
import Wide.All
import OpenK.AllK
import Wide.FinOn
import PySem.Challenge.RW_k5_0065
open PySem PySem.W PyProof.Rows
set_option Elab.async false
namespace Mine
/-- bit i of an int, in two's complement -/
def tb (x : Int) (i : Nat) : Bool := decide (x / 2 ^ i % 2 = 1)

theorem pcast (k : Nat) : ((2 ^ k : Nat) : Int) = (2 : Int) ^ k := by
  induction k with
  | zero => simp
  | succ n ih => rw [Nat.pow_succ, Int.pow_succ, ← ih]; omega
theorem ppos (k : Nat) : (0 : Int) < 2 ^ k := by
  rw [← pcast]; have := Nat.two_pow_pos k; omega
theorem psucc (k : Nat) : (2 : Int) ^ (k + 1) = 2 * 2 ^ k := by rw [Int.pow_succ]; omega
theorem padd (a b : Nat) : (2 : Int) ^ (a + b) = 2 ^ a * 2 ^ b := Int.pow_add ..
theorem half_pow (x : Int) (i : Nat) : x / 2 ^ (i + 1) = x / 2 / 2 ^ i := by
  rw [psucc, Int.ediv_ediv_of_nonneg (by omega : (0 : Int) ≤ 2)]
theorem tb_zero (x : Int) : tb x 0 = decide (x % 2 = 1) := by simp [tb]
theorem tb_succ (x : Int) (i : Nat) : tb x (i + 1) = tb (x / 2) i := by unfold tb; rw [half_pow]
theorem and_half (x y : Int) : Builtin.bitAnd x y / 2 = Builtin.bitAnd (x / 2) (y / 2) ∧ (Builtin.bitAnd x y % 2 = 1 ↔ (x % 2 = 1 ∧ y % 2 = 1)) := by
  have pn : ∀ x y : Int, 0 ≤ x → ¬ 0 ≤ y → Builtin.bitAnd x y / 2 = Builtin.bitAnd (x / 2) (y / 2) ∧ (Builtin.bitAnd x y % 2 = 1 ↔ (x % 2 = 1 ∧ y % 2 = 1)) := by
    intro x y hx hy
    rw [bitAnd_pn hx hy, bitAnd_pn (show 0 ≤ x / 2 by omega) (show ¬ 0 ≤ y / 2 by omega)]
    have e1 : (x / 2).toNat = x.toNat / 2 := by omega
    have e2 : (Builtin.bitNot (y / 2)).toNat = (Builtin.bitNot y).toNat / 2 := by unfold Builtin.bitNot; omega
    have e3 : ((Builtin.bitNot y).toNat : Int) = -y - 1 := by unfold Builtin.bitNot; omega
    rw [e1, e2]
    have h1 : (x.toNat &&& (Builtin.bitNot y).toNat) / 2 = x.toNat / 2 &&& (Builtin.bitNot y).toNat / 2 := Nat.and_div_two
    have h2 := @Nat.and_mod_two_eq_one x.toNat (Builtin.bitNot y).toNat
    rw [← h1]
    omega
  by_cases hx : 0 ≤ x <;> by_cases hy : 0 ≤ y
  · rw [bitAnd_pp hx hy, bitAnd_pp (show 0 ≤ x / 2 by omega) (show 0 ≤ y / 2 by omega)]
    have e1 : (x / 2).toNat = x.toNat / 2 := by omega
    have e2 : (y / 2).toNat = y.toNat / 2 := by omega
    rw [e1, e2]
    have h1 : (x.toNat &&& y.toNat) / 2 = x.toNat / 2 &&& y.toNat / 2 := Nat.and_div_two
    have h2 := @Nat.and_mod_two_eq_one x.toNat y.toNat
    rw [← h1]
    omega
  · exact pn x y hx hy
  · rw [bitAnd_comm x y, bitAnd_comm (x / 2) (y / 2)]
    have := pn y x hy hx
    refine ⟨this.1, this.2.trans ⟨fun h => ⟨h.2, h.1⟩, fun h => ⟨h.2, h.1⟩⟩⟩
  · rw [bitAnd_nn hx hy, bitAnd_nn (show ¬ 0 ≤ x / 2 by omega) (show ¬ 0 ≤ y / 2 by omega)]
    have e2 : (Builtin.bitNot (x / 2)).toNat = (Builtin.bitNot x).toNat / 2 := by unfold Builtin.bitNot; omega
    have f2 : (Builtin.bitNot (y / 2)).toNat = (Builtin.bitNot y).toNat / 2 := by unfold Builtin.bitNot; omega
    have e3 : ((Builtin.bitNot x).toNat : Int) = -x - 1 := by unfold Builtin.bitNot; omega
    have f3 : ((Builtin.bitNot y).toNat : Int) = -y - 1 := by unfold Builtin.bitNot; omega
    rw [e2, f2]
    have h1 : ((Builtin.bitNot x).toNat ||| (Builtin.bitNot y).toNat) / 2 = (Builtin.bitNot x).toNat / 2 ||| (Builtin.bitNot y).toNat / 2 := Nat.or_div_two
    have h2 := @Nat.or_mod_two_eq_one (Builtin.bitNot x).toNat (Builtin.bitNot y).toNat
    rw [← h1]
    generalize (Builtin.bitNot x).toNat ||| (Builtin.bitNot y).toNat = z at *
    generalize (Builtin.bitNot x).toNat = x' at *
    generalize (Builtin.bitNot y).toNat = y' at *
    unfold Builtin.bitNot at *
    omega
theorem tb_and (x y : Int) (i : Nat) : tb (Builtin.bitAnd x y) i = (tb x i && tb y i) := by
  induction i generalizing x y with
  | zero =>
    rw [tb_zero, tb_zero, tb_zero]
    have := (and_half x y).2
    by_cases h : Builtin.bitAnd x y % 2 = 1
    · have h2 := this.mp h; simp [h, h2.1, h2.2]
    · by_cases h1 : x % 2 = 1
      · by_cases h2 : y % 2 = 1
        · exact absurd (this.mpr ⟨h1, h2⟩) h
        · simp [h, h2]
      · simp [h, h1]
  | succ i ih => rw [tb_succ, tb_succ, tb_succ, (and_half x y).1, ih]
theorem tb_not (x : Int) (i : Nat) : tb (Builtin.bitNot x) i = !tb x i := by
  induction i generalizing x with
  | zero =>
    rw [tb_zero, tb_zero]
    unfold Builtin.bitNot
    by_cases h : x % 2 = 1
    · have : ¬ (-x - 1) % 2 = 1 := by omega
      simp [h, this]
    · have : (-x - 1) % 2 = 1 := by omega
      simp [h, this]
  | succ i ih =>
    rw [tb_succ, tb_succ, ← ih]
    congr 1
    unfold Builtin.bitNot
    omega
theorem tb_or (x y : Int) (i : Nat) : tb (Builtin.bitOr x y) i = (tb x i || tb y i) := by
  unfold Builtin.bitOr
  rw [tb_not, tb_and, tb_not, tb_not]
  cases tb x i <;> cases tb y i <;> rfl
theorem xorAnd (x y : Int) : Builtin.bitXor x y = x + y - 2 * Builtin.bitAnd x y := by
  unfold Builtin.bitXor
  rw [bitOr_and]
  omega
theorem xor_half (x y : Int) : Builtin.bitXor x y / 2 = Builtin.bitXor (x / 2) (y / 2) ∧ (Builtin.bitXor x y % 2 = 1 ↔ ¬ (x % 2 = 1 ↔ y % 2 = 1)) := by
  rw [xorAnd, xorAnd]
  have := and_half x y
  rw [← this.1]
  omega
theorem tb_xor (x y : Int) (i : Nat) : tb (Builtin.bitXor x y) i = (tb x i ^^ tb y i) := by
  induction i generalizing x y with
  | zero =>
    rw [tb_zero, tb_zero, tb_zero]
    have := (xor_half x y).2
    by_cases h1 : x % 2 = 1 <;> by_cases h2 : y % 2 = 1 <;> simp [h1, h2] at this ⊢ <;> omega
  | succ i ih => rw [tb_succ, tb_succ, tb_succ, (xor_half x y).1, ih]
theorem tb_ext {x y : Int} (h : ∀ i, tb x i = tb y i) : x = y := by
  have key : ∀ (n : Nat) (x y : Int), x.natAbs ≤ n → y.natAbs ≤ n → (∀ i, tb x i = tb y i) → x = y := by
    intro n
    induction n with
    | zero => intro x y hx hy _; omega
    | succ n ih =>
      intro x y hx hy h
      have h0 := h 0
      rw [tb_zero, tb_zero, decide_eq_decide] at h0
      by_cases hs : (x / 2).natAbs ≤ n ∧ (y / 2).natAbs ≤ n
      · have := ih (x / 2) (y / 2) hs.1 hs.2 (fun i => by rw [← tb_succ, ← tb_succ]; exact h (i + 1))
        omega
      · have hm : ∀ z : Int, tb (-1) z.toNat = true := by
          intro z
          unfold tb
          have : (-1 : Int) / 2 ^ z.toNat = -1 := by
            have hp := ppos z.toNat
            have := Int.neg_one_ediv (2 ^ z.toNat)
            rw [this, Int.sign_eq_one_of_pos hp]
          rw [this]; decide
        -- n = 0: x or y is -1
        have h1 := h 1
        rw [tb_succ, tb_succ, tb_zero, tb_zero, decide_eq_decide] at h1
        omega
  exact key (x.natAbs + y.natAbs) x y (by omega) (by omega) h
theorem tb_shr (x : Int) (k i : Nat) : tb (x / 2 ^ k) i = tb x (k + i) := by
  unfold tb
  rw [padd, Int.ediv_ediv_of_nonneg (Int.le_of_lt (ppos k))]
theorem tb_shl_lt (x : Int) {k i : Nat} (h : i < k) : tb (x * 2 ^ k) i = false := by
  unfold tb
  obtain ⟨d, rfl⟩ : ∃ d, k = i + (d + 1) := ⟨k - i - 1, by omega⟩
  have e : x * 2 ^ (i + (d + 1)) = (2 * (x * 2 ^ d)) * 2 ^ i := by
    rw [padd, psucc, Int.mul_comm (2 ^ i), ← Int.mul_assoc, ← Int.mul_assoc, Int.mul_comm x 2, Int.mul_assoc 2]
  rw [e, Int.mul_ediv_cancel _ (by have := ppos i; omega)]
  simp only [decide_eq_false_iff_not]
  omega
theorem tb_shl_ge (x : Int) {k i : Nat} (h : k ≤ i) : tb (x * 2 ^ k) i = tb x (i - k) := by
  obtain ⟨d, rfl⟩ : ∃ d, i = k + d := ⟨i - k, by omega⟩
  rw [← tb_shr, Int.mul_ediv_cancel _ (by have := ppos k; omega)]
  congr 1; omega
theorem tb_shl (x : Int) (k i : Nat) : tb (x * 2 ^ k) i = (decide (k ≤ i) && tb x (i - k)) := by
  by_cases h : k ≤ i
  · rw [tb_shl_ge x h]; simp [h]
  · rw [tb_shl_lt x (by omega)]; simp [h]
theorem tb_mod (x : Int) (k i : Nat) : tb (x % 2 ^ k) i = (decide (i < k) && tb x i) := by
  by_cases h : i < k
  · obtain ⟨d, rfl⟩ : ∃ d, k = i + (d + 1) := ⟨k - i - 1, by omega⟩
    simp only [h, decide_true, Bool.true_and]
    unfold tb
    have hp := ppos (d + 1)
    have hi := ppos i
    have e : x % 2 ^ (i + (d + 1)) / 2 ^ i = (x / 2 ^ i) % 2 ^ (d + 1) := by
      have h1 := Int.emod_def x (2 ^ (i + (d + 1)))
      have h2 := Int.emod_def (x / 2 ^ i) (2 ^ (d + 1))
      rw [h1, h2, padd, ← Int.ediv_ediv_of_nonneg (Int.le_of_lt hi), Int.mul_assoc, Int.sub_eq_add_neg, ← Int.mul_neg, Int.add_mul_ediv_left _ _ (by omega), Int.sub_eq_add_neg]
    rw [e, psucc]
    have : (x / 2 ^ i) % (2 * 2 ^ d) % 2 = (x / 2 ^ i) % 2 := Int.emod_emod_of_dvd _ ⟨2 ^ d, rfl⟩
    rw [this]
  · simp only [h, decide_false, Bool.false_and]
    unfold tb
    have hk := ppos k
    have h0 := Int.emod_nonneg x (show (2 : Int) ^ k ≠ 0 by omega)
    have h1 := Int.emod_lt_of_pos x hk
    have h2 : (2 : Int) ^ k ≤ 2 ^ i := by
      rw [← pcast, ← pcast]
      have := Nat.pow_le_pow_right (show 0 < 2 by decide) (show k ≤ i by omega)
      omega
    rw [Int.ediv_eq_zero_of_lt h0 (by omega)]
    rfl
theorem tb_0 (i : Nat) : tb 0 i = false := by simp [tb]
theorem tb_pow (k i : Nat) : tb (2 ^ k) i = decide (i = k) := by
  have h := tb_shl 1 k i
  rw [Int.one_mul] at h
  rw [h]
  have : ∀ j, tb 1 j = decide (j = 0) := by
    intro j
    cases j with
    | zero => rfl
    | succ j => rw [tb_succ, show (1 : Int) / 2 = 0 from rfl, tb_0]; simp
  rw [this]
  by_cases h1 : k ≤ i
  · simp [h1]; omega
  · simp [h1]; omega
theorem tb_m1 (i : Nat) : tb (-1) i = true := by
  have := tb_not 0 i
  rw [tb_0] at this
  exact this
theorem tb_ones (k i : Nat) : tb (2 ^ k - 1) i = decide (i < k) := by
  have h := tb_mod (-1) k i
  rw [tb_m1, Bool.and_true] at h
  have hp := ppos k
  have e : (2 : Int) ^ k - 1 = -1 % 2 ^ k := ((Int.ediv_emod_unique (b := 2 ^ k) (a := -1) (q := -1) (r := 2 ^ k - 1) hp).mpr ⟨by omega, by omega, by omega⟩).2.symm
  rw [e, h]
/-- a number below 2 ^ k has no bit from k on -/
theorem tb_lt {x : Int} {k i : Nat} (h0 : 0 ≤ x) (h1 : x < 2 ^ k) (hi : k ≤ i) : tb x i = false := by
  have h := tb_mod x k i
  rw [Int.emod_eq_of_lt h0 h1] at h
  rw [h]
  simp
  intro h2
  omega
theorem lt_of_tb {x : Int} {k : Nat} (h : ∀ i, k ≤ i → tb x i = false) : 0 ≤ x ∧ x < 2 ^ k := by
  have e : x = x % 2 ^ k := by
    apply tb_ext
    intro i
    rw [tb_mod]
    by_cases hi : i < k
    · simp [hi]
    · rw [h i (by omega)]; simp
  have hk := ppos k
  rw [e]
  exact ⟨Int.emod_nonneg _ (by omega), Int.emod_lt_of_pos _ hk⟩
theorem tb_sub_odd (x : Int) (i : Nat) : tb x i = decide (x / 2 ^ i % 2 = 1) := rfl
end Mine
namespace Mine
theorem modStep (n : Int) (j : Nat) : n % 2 ^ (j + 1) = n % 2 ^ j + (n / 2 ^ j % 2) * 2 ^ j := by
  have hp := ppos j
  have h1 := Int.emod_def n (2 ^ j)
  have h2 := Int.emod_def n (2 ^ (j + 1))
  have h3 := Int.emod_def (n / 2 ^ j) 2
  have h4 : n / 2 ^ (j + 1) = n / 2 ^ j / 2 := by
    rw [Int.ediv_ediv_of_nonneg (Int.le_of_lt hp)]; rfl
  rw [h1, h2, h3, h4, psucc, Int.sub_mul, Int.mul_comm (n / 2 ^ j) (2 ^ j)]
  have : 2 * 2 ^ j * (n / 2 ^ j / 2) = 2 * (n / 2 ^ j / 2) * 2 ^ j := by
    rw [Int.mul_assoc, Int.mul_assoc, Int.mul_comm (2 ^ j)]
  omega
theorem divStep (n : Int) (j : Nat) : n / 2 ^ j / 2 = n / 2 ^ (j + 1) := by
  rw [Int.ediv_ediv_of_nonneg (Int.le_of_lt (ppos j))]; rfl
theorem fdiv2 (x : Int) : x.fdiv 2 = x / 2 := Int.fdiv_eq_ediv_of_nonneg _ (by decide)
theorem fmod2 (x : Int) : x.fmod 2 = x % 2 := Int.fmod_eq_emod_of_nonneg _ (by decide)
theorem fdivP (x : Int) (k : Nat) : x.fdiv (2 ^ k) = x / 2 ^ k := Int.fdiv_eq_ediv_of_nonneg _ (Int.le_of_lt (ppos k))
theorem fmodP (x : Int) (k : Nat) : x.fmod (2 ^ k) = x % 2 ^ k := Int.fmod_eq_emod_of_nonneg _ (Int.le_of_lt (ppos k))
/-- 0040: one turn of the opposite digits -/
theorem opp_step (n : Int) (j : Nat) : 2 ^ (j + 1) - 1 - n % 2 ^ (j + 1) = (2 ^ j - 1 - n % 2 ^ j) + (if n / 2 ^ j % 2 = 0 then 2 ^ j else 0) := by
  rw [modStep, psucc]
  rcases Int.emod_two_eq (n / 2 ^ j) with h | h
  · rw [h]; simp; omega
  · rw [h]; simp; omega
theorem and_mask (x : Int) (k : Nat) : Builtin.bitAnd x (2 ^ k - 1) = x % 2 ^ k := by
  apply tb_ext; intro i
  rw [tb_and, tb_ones, tb_mod, Bool.and_comm]
/-- inverted -/
theorem inv_eq {n : Int} {k : Nat} (h0 : 0 ≤ n) (h1 : n < 2 ^ k) : Builtin.bitAnd (Builtin.bitNot n) (2 ^ k - 1) = 2 ^ k - 1 - n := by
  rw [and_mask]
  unfold Builtin.bitNot
  have hp := ppos k
  exact ((Int.ediv_emod_unique (b := 2 ^ k) (a := -n - 1) (q := -1) (r := 2 ^ k - 1 - n) hp).mpr ⟨by omega, by omega, by omega⟩).2
/-- flipping -/
theorem flip_eq (A b L : Int) (k : Nat) (hb : b = 0 ∨ b = 1) (h0 : 0 ≤ L) (h1 : L < 2 ^ k) :
    Builtin.bitXor (A * 2 * 2 ^ k + b * 2 ^ k + L) (2 ^ k) = A * 2 * 2 ^ k + (1 - b) * 2 ^ k + L := by
  have hp := ppos k
  have hd : (A * 2 * 2 ^ k + b * 2 ^ k + L) / 2 ^ k = A * 2 + b := by
    have e : A * 2 * 2 ^ k + b * 2 ^ k + L = L + (A * 2 + b) * 2 ^ k := by rw [Int.add_mul]; omega
    rw [e, Int.add_mul_ediv_right _ _ (by omega), Int.ediv_eq_zero_of_lt h0 h1]; omega
  have ha : Builtin.bitAnd (A * 2 * 2 ^ k + b * 2 ^ k + L) (2 ^ k) = b * 2 ^ k := by
    apply tb_ext; intro i
    rw [tb_and, tb_pow, tb_shl]
    by_cases hi : i = k
    · subst hi
      simp only [decide_true, Bool.and_true, Nat.le_refl, Bool.true_and, Nat.sub_self]
      unfold tb
      rw [hd]
      rcases hb with rfl | rfl
      · simp
      · simp
    · simp only [hi, decide_false, Bool.and_false]
      rcases hb with rfl | rfl
      · rw [tb_0]; simp
      · by_cases h2 : k ≤ i
        · obtain ⟨d, hd2⟩ : ∃ d, i - k = d + 1 := ⟨i - k - 1, by omega⟩
          rw [hd2, tb_succ, show (1 : Int) / 2 = 0 from rfl, tb_0]; simp
        · simp [h2]
  rw [xorAnd, ha, Int.sub_mul]
  omega
end Mine
namespace Mine
/-! parity (0044) -/
/-- the parity of the low k bits -/
def par (x : Int) : Nat → Bool
  | 0 => false
  | k + 1 => par x k ^^ tb x k
theorem par_add (x : Int) (h k : Nat) : par x (h + k) = (par x h ^^ par (x / 2 ^ h) k) := by
  induction k with
  | zero => simp [par]
  | succ k ih => rw [← Nat.add_assoc, par, ih, par, tb_shr, Bool.xor_assoc]
theorem par_xor (x y : Int) (k : Nat) : par (Builtin.bitXor x y) k = (par x k ^^ par y k) := by
  induction k with
  | zero => rfl
  | succ k ih =>
    rw [par, ih, par, par, tb_xor]
    cases par x k <;> cases par y k <;> cases tb x k <;> cases tb y k <;> rfl
theorem par_fold (x : Int) (h : Nat) : par (Builtin.bitXor x (x / 2 ^ h)) h = par x (h + h) := by
  rw [par_xor, par_add]
theorem par_pow (k m : Nat) : par (2 ^ k) m = decide (k < m) := by
  induction m with
  | zero => simp [par]
  | succ m ih =>
    rw [par, ih, tb_pow]
    by_cases h1 : k < m
    · have : m ≠ k := by omega
      have h2 : k < m + 1 := by omega
      simp [h1, this, h2]
    · by_cases h2 : m = k
      · subst h2; simp
      · have : ¬ k < m + 1 := by omega
        simp [h1, h2, this]
/-- the number of ones among the low k bits -/
def ones (x : Int) : Nat → Int
  | 0 => 0
  | k + 1 => ones x k + x / 2 ^ k % 2
theorem ones_par (x : Int) (k : Nat) : ones x k % 2 = if par x k then 1 else 0 := by
  induction k with
  | zero => rfl
  | succ k ih =>
    rw [ones, par]
    unfold tb
    rcases Int.emod_two_eq (x / 2 ^ k) with h | h
    · rw [h]; cases hp : par x k <;> simp [hp] at ih ⊢ <;> omega
    · rw [h]; cases hp : par x k <;> simp [hp] at ih ⊢ <;> omega
theorem and_one (x : Int) : Builtin.bitAnd x 1 = x % 2 := and_mask x 1
def parity (n : Int) : Int :=
  let a := Builtin.bitXor n (n / 2 ^ 32)
  let b := Builtin.bitXor a (a / 2 ^ 16)
  let c := Builtin.bitXor b (b / 2 ^ 8)
  let d := Builtin.bitXor c (c / 2 ^ 4)
  let e := Builtin.bitXor d (d / 2 ^ 2)
  let f := Builtin.bitXor e (e / 2 ^ 1)
  f % 2
theorem mod2_par (x : Int) : x % 2 = if par x 1 then 1 else 0 := by
  simp only [par, Bool.false_xor, tb_zero, decide_eq_true_eq]
  rcases Int.emod_two_eq x with h | h <;> simp [h]
theorem parity_eq (n : Int) : parity n = if par n 64 then 1 else 0 := by
  unfold parity
  rw [mod2_par, par_fold, par_fold, par_fold, par_fold, par_fold, par_fold]
theorem parity_ones (n : Int) : parity n = ones n 64 % 2 := by rw [parity_eq, ones_par]
theorem parity_turn (n : Int) (k : Nat) (h : k < 64) : parity (Builtin.bitXor n (2 ^ k)) = 1 - ones n 64 % 2 := by
  rw [parity_eq, ones_par, par_xor, par_pow]
  simp only [h, decide_true]
  cases par n 64 <;> rfl
/-! power of two (0046) -/
theorem pw_and (k : Nat) (a : Int) : Builtin.bitAnd (2 ^ k * (2 * a + 1)) (2 ^ k * (2 * a + 1) - 1) = 2 ^ k * (2 * a) := by
  induction k with
  | zero =>
    simp only [Int.pow_zero, Int.one_mul]
    have h := and_half (2 * a + 1) (2 * a + 1 - 1)
    have e1 : (2 * a + 1) / 2 = a := by omega
    have e2 : (2 * a + 1 - 1) / 2 = a := by omega
    rw [e1, e2, bitAnd_self] at h
    omega
  | succ k ih =>
    have e : (2 : Int) ^ (k + 1) * (2 * a + 1) = 2 * (2 ^ k * (2 * a + 1)) := by rw [psucc, Int.mul_assoc]
    have e' : (2 : Int) ^ (k + 1) * (2 * a) = 2 * (2 ^ k * (2 * a)) := by rw [psucc, Int.mul_assoc]
    rw [e, e']
    generalize (2 : Int) ^ k * (2 * a + 1) = m at *
    have h := and_half (2 * m) (2 * m - 1)
    have e1 : (2 * m) / 2 = m := by omega
    have e2 : (2 * m - 1) / 2 = m - 1 := by omega
    rw [e1, e2, ih] at h
    omega
theorem low_eq (k : Nat) (a : Int) : Builtin.bitAnd (2 ^ k * (2 * a + 1)) (-(2 ^ k * (2 * a + 1))) = 2 ^ k := by
  induction k with
  | zero =>
    simp only [Int.pow_zero, Int.one_mul]
    have h := and_half (2 * a + 1) (-(2 * a + 1))
    have e1 : (2 * a + 1) / 2 = a := by omega
    have e2 : (-(2 * a + 1)) / 2 = Builtin.bitNot a := by unfold Builtin.bitNot; omega
    rw [e1, e2, bitAnd_not, bitAnd_self] at h
    omega
  | succ k ih =>
    have e : (2 : Int) ^ (k + 1) * (2 * a + 1) = 2 * (2 ^ k * (2 * a + 1)) := by rw [psucc, Int.mul_assoc]
    rw [e, psucc]
    generalize (2 : Int) ^ k * (2 * a + 1) = m at *
    have h := and_half (2 * m) (-(2 * m))
    have e1 : (2 * m) / 2 = m := by omega
    have e2 : (-(2 * m)) / 2 = -m := by omega
    rw [e1, e2, ih] at h
    omega
/-- every positive int is 2 ^ k times an odd one -/
theorem odd_part (n : Int) (h : 0 < n) : ∃ (k : Nat) (a : Int), 0 ≤ a ∧ n = 2 ^ k * (2 * a + 1) := by
  have key : ∀ (m : Nat) (n : Int), 0 < n → n.toNat ≤ m → ∃ (k : Nat) (a : Int), 0 ≤ a ∧ n = 2 ^ k * (2 * a + 1) := by
    intro m
    induction m with
    | zero => intro n h1 h2; omega
    | succ m ih =>
      intro n h1 h2
      rcases Int.emod_two_eq n with h | h
      · obtain ⟨k, a, ha, e⟩ := ih (n / 2) (by omega) (by omega)
        refine ⟨k + 1, a, ha, ?_⟩
        rw [psucc, Int.mul_assoc, ← e]; omega
      · exact ⟨0, n / 2, by omega, by simp only [Int.pow_zero, Int.one_mul]; omega⟩
  exact key n.toNat n h (by omega)
end Mine
namespace Mine
/-! next power of two (0047) -/
def Sm (m x : Int) (w : Nat) : Prop := ∀ i, tb x i = true ↔ ∃ d, d < w ∧ tb m (i + d) = true
theorem sm_one (m : Int) : Sm m m 1 := fun i => ⟨fun h => ⟨0, by omega, h⟩, fun ⟨d, h1, h2⟩ => by
  have : d = 0 := by omega
  subst this; exact h2⟩
theorem sm_step {m x : Int} {w : Nat} (h : Sm m x w) : Sm m (Builtin.bitOr x (x / 2 ^ w)) (w + w) := by
  intro i
  rw [tb_or, tb_shr, Bool.or_eq_true, h i, h (w + i)]
  constructor
  · rintro (⟨d, h1, h2⟩ | ⟨d, h1, h2⟩)
    · exact ⟨d, by omega, h2⟩
    · exact ⟨w + d, by omega, by rw [← h2]; congr 1; omega⟩
  · rintro ⟨d, h1, h2⟩
    by_cases hd : d < w
    · exact .inl ⟨d, hd, h2⟩
    · exact .inr ⟨d - w, by omega, by rw [← h2]; congr 1; omega⟩
def smear (m : Int) : Int :=
  let a := Builtin.bitOr m (m / 2 ^ 1)
  let b := Builtin.bitOr a (a / 2 ^ 2)
  let c := Builtin.bitOr b (b / 2 ^ 4)
  let d := Builtin.bitOr c (c / 2 ^ 8)
  let e := Builtin.bitOr d (d / 2 ^ 16)
  Builtin.bitOr e (e / 2 ^ 32)
theorem smear_sm (m : Int) : Sm m (smear m) 64 :=
  sm_step (sm_step (sm_step (sm_step (sm_step (sm_step (sm_one m))))))
theorem pmono {a b : Nat} (h : a ≤ b) : (2 : Int) ^ a ≤ 2 ^ b := by
  rw [← pcast, ← pcast]
  have := Nat.pow_le_pow_right (show 0 < 2 by decide) h
  omega
theorem plt {a b : Nat} (h : a < b) : (2 : Int) ^ a < 2 ^ b := by
  rw [← pcast, ← pcast]
  have := Nat.pow_lt_pow_right (show 1 < 2 by decide) h
  omega
theorem tb_top {x : Int} {e : Nat} (h0 : 2 ^ e ≤ x) (h1 : x < 2 ^ (e + 1)) : tb x e = true := by
  unfold tb
  have hp := ppos e
  rw [psucc] at h1
  have : x / 2 ^ e = 1 := ((Int.ediv_emod_unique (b := 2 ^ e) (a := x) (q := 1) (r := x - 2 ^ e) hp).mpr ⟨by omega, by omega, by omega⟩).1
  rw [this]; rfl
theorem smear_eq {m : Int} {e : Nat} (he : e < 64) (h0 : 2 ^ e ≤ m) (h1 : m < 2 ^ (e + 1)) : smear m = 2 ^ (e + 1) - 1 := by
  apply tb_ext; intro i
  rw [tb_ones]
  have h := smear_sm m i
  have hp := ppos e
  by_cases hi : i < e + 1
  · rw [h.mpr ⟨e - i, by omega, by rw [show i + (e - i) = e by omega]; exact tb_top h0 h1⟩]
    simp [hi]
  · have : ¬ tb (smear m) i = true := by
      rw [h]
      rintro ⟨d, _, h3⟩
      rw [tb_lt (by omega) h1 (by omega)] at h3
      cases h3
    simp only [hi, decide_false]
    simpa using this
theorem smear_zero : smear 0 = 0 := by decide +kernel
/-- the least power of two, by the loop's last state -/
theorem npt_eq {n want : Int} {c : Nat} (hw : want = 2 ^ c) (hc : c ≤ 63) (h1 : 1 ≤ n) (hlo : c = 0 ∨ 2 ^ (c - 1) < n) (hhi : n ≤ 2 ^ c) : smear (n - 1) + 1 = want := by
  subst hw
  rcases Nat.eq_zero_or_pos c with rfl | hp
  · have : n = 1 := by simp only [Int.pow_zero] at hhi; omega
    subst this; decide +kernel
  · obtain ⟨e, rfl⟩ : ∃ e, c = e + 1 := ⟨c - 1, by omega⟩
    simp only [Nat.add_sub_cancel] at hlo
    rw [smear_eq (e := e) (by omega) (by omega) (by omega)]
    omega
def NptInv (n want : Int) (j : Nat) : Prop := ∃ c : Nat, c ≤ j ∧ want = 2 ^ c ∧ (c = 0 ∨ 2 ^ (c - 1) < n) ∧ (c = j ∨ n ≤ 2 ^ c)
theorem npt_start (n : Int) : NptInv n 1 0 := ⟨0, by omega, rfl, .inl rfl, .inl rfl⟩
theorem npt_go {n want : Int} {j : Nat} (h : NptInv n want j) (hlt : want < n) : NptInv n (want + want) (j + 1) := by
  obtain ⟨c, h1, rfl, h3, h4⟩ := h
  refine ⟨c + 1, by omega, by rw [psucc]; omega, .inr (by simpa using hlt), .inl (by omega)⟩
theorem npt_stay {n want : Int} {j : Nat} (h : NptInv n want j) (hlt : ¬ want < n) : NptInv n want (j + 1) := by
  obtain ⟨c, h1, rfl, h3, h4⟩ := h
  exact ⟨c, by omega, rfl, h3, .inr (by omega)⟩
theorem npt_end {n want : Int} (h : NptInv n want 63) (h1 : 1 ≤ n) (h2 : n ≤ 2 ^ 63) : smear (n - 1) + 1 = want := by
  obtain ⟨c, hc, hw, hlo, hhi⟩ := h
  refine npt_eq hw hc h1 hlo ?_
  rcases hhi with rfl | h
  · exact h2
  · exact h
/-! reversed bits (0048) -/
def rev (n : Int) : Nat → Int
  | 0 => 0
  | j + 1 => 2 * rev n j + n / 2 ^ j % 2
theorem tb_two (a b : Int) (hb : b = 0 ∨ b = 1) (i : Nat) : tb (2 * a + b) i = if i = 0 then decide (b = 1) else tb a (i - 1) := by
  cases i with
  | zero => rw [tb_zero]; simp only [if_true, decide_eq_decide]; omega
  | succ i =>
    rw [tb_succ]
    have : (2 * a + b) / 2 = a := by omega
    simp [this]
theorem tb_rev (n : Int) (j i : Nat) : tb (rev n j) i = (decide (i < j) && tb n (j - 1 - i)) := by
  induction j generalizing i with
  | zero => simp [rev, tb_0]
  | succ j ih =>
    rw [rev, tb_two _ _ (Int.emod_two_eq _)]
    by_cases hi : i = 0
    · subst hi; simp [tb]
    · rw [if_neg hi, ih]
      by_cases h2 : i < j + 1
      · have h3 : i - 1 < j := by omega
        simp only [h2, h3, decide_true, Bool.true_and]
        congr 1; omega
      · have h3 : ¬ i - 1 < j := by omega
        simp [h2, h3]
theorem rev_lt (n : Int) (j : Nat) : 0 ≤ rev n j ∧ rev n j < 2 ^ j := by
  apply lt_of_tb
  intro i hi
  rw [tb_rev]
  have : ¬ i < j := by omega
  simp [this]
theorem rev_rev {n : Int} {w : Nat} (h0 : 0 ≤ n) (h1 : n < 2 ^ w) : rev (rev n w) w = n := by
  apply tb_ext; intro i
  rw [tb_rev, tb_rev]
  by_cases hi : i < w
  · have h2 : w - 1 - i < w := by omega
    simp only [hi, h2, decide_true, Bool.true_and]
    congr 1; omega
  · rw [tb_lt (i := i) h0 h1 (by omega)]; simp [hi]
theorem rev_or (r n : Int) : Builtin.bitOr (r * 2 ^ 1) (Builtin.bitAnd n 1) = 2 * r + n % 2 := by
  rw [and_one, bitOr_and]
  have h := and_half (r * 2 ^ 1) (n % 2)
  have e1 : (r * 2 ^ 1) / 2 = r := by omega
  have e2 : n % 2 / 2 = 0 := by omega
  rw [e1, e2, bitAnd_zero] at h
  omega
theorem rev_want (n : Int) (w j : Nat) (h : j < w) : rev n j * 2 ^ (w - j) + (if n / 2 ^ j % 2 = 1 then 2 ^ (w - 1 - j) else 0) = rev n (j + 1) * 2 ^ (w - (j + 1)) := by
  obtain ⟨d, hd⟩ : ∃ d, w - j = d + 1 := ⟨w - j - 1, by omega⟩
  rw [hd, show w - 1 - j = d by omega, show w - (j + 1) = d by omega, rev, psucc, Int.add_mul]
  have : rev n j * (2 * 2 ^ d) = 2 * rev n j * 2 ^ d := by rw [← Int.mul_assoc, Int.mul_comm _ 2]
  rw [this]
  rcases Int.emod_two_eq (n / 2 ^ j) with h | h <;> rw [h] <;> simp
end Mine
namespace Mine
/-! rotations -/
def rotL (n : Int) (t w : Nat) : Int := Builtin.bitAnd (Builtin.bitOr (n * 2 ^ t) (n / 2 ^ (w - t))) (2 ^ w - 1)
def rotR (n : Int) (t w : Nat) : Int := Builtin.bitAnd (Builtin.bitOr (n / 2 ^ t) (n * 2 ^ (w - t))) (2 ^ w - 1)
theorem tb_rotL {n : Int} {t w : Nat} (h0 : 0 ≤ n) (h1 : n < 2 ^ w) (ht : t < w) (i : Nat) : tb (rotL n t w) i = (decide (i < w) && if t ≤ i then tb n (i - t) else tb n (w - t + i)) := by
  unfold rotL
  rw [tb_and, tb_or, tb_shl, tb_shr, tb_ones, Bool.and_comm]
  by_cases hi : i < w
  · simp only [hi, decide_true, Bool.true_and]
    by_cases h2 : t ≤ i
    · rw [tb_lt (i := w - t + i) h0 h1 (by omega)]
      simp [h2]
    · simp [h2]
  · simp [hi]
theorem tb_rotR {n : Int} {t w : Nat} (h0 : 0 ≤ n) (h1 : n < 2 ^ w) (ht : t < w) (i : Nat) : tb (rotR n t w) i = (decide (i < w) && tb n ((i + t) % w)) := by
  unfold rotR
  rw [tb_and, tb_or, tb_shl, tb_shr, tb_ones, Bool.and_comm]
  by_cases hi : i < w
  · simp only [hi, decide_true, Bool.true_and]
    by_cases h2 : i + t < w
    · have h3 : ¬ w - t ≤ i := by omega
      rw [Nat.mod_eq_of_lt h2]
      simp [h3, Nat.add_comm]
    · have h3 : w - t ≤ i := by omega
      have e : (i + t) % w = i - (w - t) := by
        rw [Nat.mod_eq_sub_mod (by omega), Nat.mod_eq_of_lt (by omega)]; omega
      rw [tb_lt (i := t + i) h0 h1 (by omega), e]
      simp [h3]
  · simp [hi]
theorem rotR_lt {n : Int} {t w : Nat} : 0 ≤ rotR n t w ∧ rotR n t w < 2 ^ w := by
  unfold rotR
  rw [and_mask]
  have hp := ppos w
  exact ⟨Int.emod_nonneg _ (by omega), Int.emod_lt_of_pos _ hp⟩
/-- the sum of the first j digits, each at its new place -/
def rotSum (n : Int) (t w : Nat) : Nat → Int
  | 0 => 0
  | j + 1 => rotSum n t w j + n / 2 ^ j % 2 * 2 ^ ((j + t) % w)
theorem rotSum_lo (n : Int) {t w : Nat} (ht : t < w) (j : Nat) (hj : j ≤ w - t) : rotSum n t w j = (n % 2 ^ j) * 2 ^ t := by
  induction j with
  | zero => simp only [rotSum, Int.pow_zero, Int.emod_one]; omega
  | succ j ih =>
    rw [rotSum, ih (by omega), Nat.mod_eq_of_lt (by omega), modStep, padd, Int.add_mul, Int.mul_assoc]
theorem rotSum_hi (n : Int) {t w : Nat} (ht : t < w) (d : Nat) (hd : d ≤ t) : rotSum n t w (w - t + d) = (n % 2 ^ (w - t)) * 2 ^ t + n / 2 ^ (w - t) % 2 ^ d := by
  induction d with
  | zero => rw [Nat.add_zero, rotSum_lo n ht _ (by omega), Int.pow_zero, Int.emod_one]; omega
  | succ d ih =>
    have e : (w - t + d + t) % w = d := by
      rw [show w - t + d + t = d + w by omega, Nat.add_mod_right, Nat.mod_eq_of_lt (by omega)]
    rw [← Nat.add_assoc, rotSum, ih (by omega), e, modStep (n / 2 ^ (w - t)), padd, Int.ediv_ediv_of_nonneg (Int.le_of_lt (ppos _)), Int.add_assoc]
theorem or_disj {a b : Int} (h : ∀ i, (tb a i && tb b i) = false) : Builtin.bitOr a b = a + b := by
  rw [bitOr_and]
  have : Builtin.bitAnd a b = 0 := by
    apply tb_ext; intro i
    rw [tb_and, tb_0, h i]
  omega
theorem xor_disj {a b : Int} (h : ∀ i, (tb a i && tb b i) = false) : Builtin.bitXor a b = a + b := by
  rw [xorAnd]
  have : Builtin.bitAnd a b = 0 := by
    apply tb_ext; intro i
    rw [tb_and, tb_0, h i]
  omega
theorem rotL_eq {n : Int} {t w : Nat} (h0 : 0 ≤ n) (h1 : n < 2 ^ w) (ht : t < w) : rotL n t w = rotSum n t w w := by
  have e := rotSum_hi n ht t (Nat.le_refl t)
  rw [show w - t + t = w by omega] at e
  rw [e, ← or_disj]
  · apply tb_ext; intro i
    rw [tb_rotL h0 h1 ht, tb_or, tb_shl, tb_mod, tb_mod, tb_shr]
    by_cases h2 : t ≤ i
    · have h3 : ¬ i < t := by omega
      simp only [h2, h3, decide_true, decide_false, if_true, Bool.true_and, Bool.false_and, Bool.or_false]
      by_cases h4 : i < w
      · have : i - t < w - t := by omega
        simp [h4, this]
      · have : ¬ i - t < w - t := by omega
        simp [h4, this]
    · have h3 : i < t := by omega
      have h4 : i < w := by omega
      simp [h2, h3, h4]
  · intro i
    rw [tb_shl, tb_mod, tb_mod]
    by_cases h2 : t ≤ i
    · have h3 : ¬ i < t := by omega
      simp [h3]
    · simp [h2]
/-! gray -/
def gray (n : Int) : Int := Builtin.bitXor n (n / 2)
theorem tb_gray (n : Int) (i : Nat) : tb (gray n) i = (tb n i ^^ tb n (i + 1)) := by
  unfold gray
  rw [tb_xor, ← tb_succ]
theorem tb_compl {n : Int} {m : Nat} (h0 : 0 ≤ n) (h1 : n < 2 ^ m) (i : Nat) : tb (2 ^ m - 1 - n) i = (decide (i < m) && !tb n i) := by
  rw [← inv_eq h0 h1, tb_and, tb_not, tb_ones, Bool.and_comm]
theorem gray_mirror {n : Int} {m : Nat} (h0 : 2 ^ m ≤ n) (h1 : n < 2 ^ (m + 1)) : gray n = 2 ^ m + gray (2 ^ (m + 1) - 1 - n) := by
  have hp := ppos m
  have ht := tb_top h0 h1
  have hb : ∀ i, tb (gray (2 ^ (m + 1) - 1 - n)) i = (decide (i < m) && (tb n i ^^ tb n (i + 1))) := by
    intro i
    rw [tb_gray, tb_compl (by omega) h1, tb_compl (by omega) h1]
    by_cases h2 : i < m
    · have h3 : i < m + 1 := by omega
      have h4 : i + 1 < m + 1 := by omega
      simp [h2, h3]
    · by_cases h3 : i = m
      · subst h3; simp [ht]
      · have h4 : ¬ i < m + 1 := by omega
        simp [h2, h4]
  rw [← xor_disj]
  · apply tb_ext; intro i
    rw [tb_xor, tb_pow, hb, tb_gray]
    by_cases h2 : i < m
    · have h3 : i ≠ m := by omega
      simp [h2, h3]
    · by_cases h3 : i = m
      · subst h3
        rw [ht, tb_lt (i := i + 1) (by omega) h1 (by omega)]; simp
      · rw [tb_lt (i := i) (by omega) h1 (by omega), tb_lt (i := i + 1) (by omega) h1 (by omega)]; simp [h2, h3]
  · intro i
    rw [tb_pow, hb]
    by_cases h2 : i < m
    · have h3 : i ≠ m := by omega
      simp [h3]
    · simp [h2]
theorem gray_nonneg {n : Int} {m : Nat} (h0 : 0 ≤ n) (h1 : n < 2 ^ m) : 0 ≤ gray n ∧ gray n < 2 ^ m := by
  apply lt_of_tb
  intro i hi
  rw [tb_gray, tb_lt h0 h1 hi, tb_lt (i := i + 1) h0 h1 (by omega)]; rfl
/-- neighbours differ in the one due bit -/
theorem gray_next (n : Int) (h : 0 ≤ n) : Builtin.bitXor (gray n) (gray (n + 1)) = Builtin.bitAnd (n + 1) (-(n + 1)) := by
  obtain ⟨k, a, ha, e⟩ := odd_part (n + 1) (by omega)
  rw [e, low_eq]
  have hp := ppos k
  have e1 : n = 2 ^ k - 1 + (2 * a) * 2 ^ k := by
    have : (2 : Int) ^ k * (2 * a + 1) = (2 * a) * 2 ^ k + 2 ^ k := by rw [Int.mul_add, Int.mul_one, Int.mul_comm]
    omega
  have e2 : (2 : Int) ^ k * (2 * a + 1) = (2 * a + 1) * 2 ^ k := Int.mul_comm _ _
  have d1 : ∀ i, (tb (2 ^ k - 1) i && tb ((2 * a) * 2 ^ k) i) = false := by
    intro i
    rw [tb_ones, tb_shl]
    by_cases hi : i < k
    · have : ¬ k ≤ i := by omega
      simp [this]
    · simp [hi]
  have t1 : ∀ i, tb n i = if i < k then true else tb (2 * a) (i - k) := by
    intro i
    rw [e1, ← xor_disj d1, tb_xor, tb_ones, tb_shl]
    by_cases hi : i < k
    · have : ¬ k ≤ i := by omega
      simp [hi, this]
    · have : k ≤ i := by omega
      simp [hi, this]
  have t2 : ∀ i, tb (2 ^ k * (2 * a + 1)) i = if i < k then false else tb (2 * a + 1) (i - k) := by
    intro i
    rw [e2, tb_shl]
    by_cases hi : i < k
    · have : ¬ k ≤ i := by omega
      simp [hi, this]
    · have : k ≤ i := by omega
      simp [hi, this]
  have u0 : ∀ i, tb (2 * a) i = if i = 0 then false else tb a (i - 1) := by
    intro i
    have := tb_two a 0 (.inl rfl) i
    rw [Int.add_zero] at this
    rw [this]; simp
  have u1 : ∀ i, tb (2 * a + 1) i = if i = 0 then true else tb a (i - 1) := by
    intro i
    rw [tb_two a 1 (.inr rfl) i]; simp
  apply tb_ext; intro i
  rw [tb_xor, tb_gray, tb_gray, tb_pow, t1, t1, t2, t2]
  by_cases h1 : i < k
  · have hne : i ≠ k := by omega
    by_cases h2 : i + 1 < k
    · simp [h1, h2, hne]
    · have : i + 1 - k = 0 := by omega
      simp [h1, h2, hne, this, u0, u1]
  · by_cases h2 : i = k
    · subst h2
      have h3 : ¬ i + 1 < i := by omega
      simp [h3, u0, u1]
    · have h3 : ¬ i + 1 < k := by omega
      have h4 : i - k ≠ 0 := by omega
      have h5 : i + 1 - k ≠ 0 := by omega
      simp only [h1, h3, if_false, u0, u1, h4, h5]
      simp [h2]
theorem gray_bit (n : Int) (i : Nat) : gray n / 2 ^ i % 2 = (n / 2 ^ i % 2 + n / 2 ^ (i + 1) % 2) % 2 := by
  have h := tb_gray n i
  unfold tb at h
  rcases Int.emod_two_eq (n / 2 ^ i) with h1 | h1 <;> rcases Int.emod_two_eq (n / 2 ^ (i + 1)) with h2 | h2 <;> rcases Int.emod_two_eq (gray n / 2 ^ i) with h3 | h3 <;> rw [h1, h2, h3] at h <;> rw [h1, h2, h3] <;> first | rfl | (revert h; decide)
/-- gray is injective from 0 on -/
theorem gray_half (n : Int) : gray n / 2 = gray (n / 2) := by
  unfold gray; rw [(xor_half _ _).1]
theorem gray_inj {x y : Int} (hx : 0 ≤ x) (hy : 0 ≤ y) (h : gray x = gray y) : x = y := by
  have key : ∀ (m : Nat) (x y : Int), x.toNat ≤ m → y.toNat ≤ m → 0 ≤ x → 0 ≤ y → gray x = gray y → x = y := by
    intro m
    induction m with
    | zero => intro x y h1 h2 h3 h4 _; omega
    | succ m ih =>
      intro x y h1 h2 h3 h4 h
      have h5 : x / 2 = y / 2 := ih _ _ (by omega) (by omega) (by omega) (by omega) (by rw [← gray_half, ← gray_half, h])
      have h6 := congrArg (fun z => tb z 0) h
      simp only [tb_gray, Nat.zero_add] at h6
      rw [show (1 : Nat) = 0 + 1 from rfl, tb_succ, tb_succ, h5] at h6
      have h7 : tb x 0 = tb y 0 := by
        revert h6; cases tb x 0 <;> cases tb y 0 <;> cases tb (y / 2) 0 <;> simp
      rw [tb_zero, tb_zero, decide_eq_decide] at h7
      omega
  exact key (x.toNat + y.toNat) x y (by omega) (by omega) hx hy h
end Mine
namespace Mine
/-! from_gray (0052): the place in the mirrored list -/
def mir (c : Int) : Nat → Int
  | 0 => 0
  | j + 1 => if c / 2 ^ j % 2 = 1 then 2 ^ (j + 1) - 1 - mir c j else mir c j
theorem mir_lt (c : Int) (j : Nat) : 0 ≤ mir c j ∧ mir c j < 2 ^ j := by
  induction j with
  | zero => simp only [mir, Int.pow_zero]; omega
  | succ j ih =>
    rw [mir, psucc]
    have := ppos j
    split <;> omega
theorem gray_mir (c : Int) (j : Nat) : gray (mir c j) = c % 2 ^ j := by
  induction j with
  | zero => rw [Int.pow_zero, Int.emod_one, mir]; decide +kernel
  | succ j ih =>
    have hl := mir_lt c j
    have hp := ppos j
    rw [mir, modStep]
    rcases Int.emod_two_eq (c / 2 ^ j) with h | h
    · rw [h, if_neg (by decide), ih]; omega
    · rw [h, if_pos rfl, gray_mirror (m := j) (by rw [psucc]; omega) (by omega)]
      have : (2 : Int) ^ (j + 1) - 1 - (2 ^ (j + 1) - 1 - mir c j) = mir c j := by omega
      rw [this, ih]; omega
theorem lt_two (n : Nat) : n < 2 ^ n := Nat.lt_two_pow_self
def ug (c : Int) : Int := mir c c.toNat
theorem ug_nonneg (c : Int) : 0 ≤ ug c := (mir_lt c _).1
theorem gray_ug {c : Int} (h : 0 ≤ c) : gray (ug c) = c := by
  unfold ug
  rw [gray_mir, Int.emod_eq_of_lt h]
  rw [← pcast]
  have := lt_two c.toNat
  omega
theorem mir_ug {c : Int} {j : Nat} (h : 0 ≤ c) (h1 : c < 2 ^ j) : mir c j = ug c := by
  apply gray_inj (mir_lt c j).1 (ug_nonneg c)
  rw [gray_ug h, gray_mir, Int.emod_eq_of_lt h h1]
/-- the while's invariant -/
def FgInv (c g n : Int) : Prop := ∃ j : Nat, g = gray (ug c / 2 ^ j) ∧ n = Builtin.bitXor (ug c) (ug c / 2 ^ j)
theorem xor_self (x : Int) : Builtin.bitXor x x = 0 := by rw [xorAnd, bitAnd_self]; omega
theorem xor_zero (x : Int) : Builtin.bitXor x 0 = x := by rw [xorAnd, bitAnd_zero]; omega
theorem fg_start {c : Int} (h : 0 ≤ c) : FgInv c c 0 := ⟨0, by rw [Int.pow_zero, Int.ediv_one, gray_ug h], by rw [Int.pow_zero, Int.ediv_one, xor_self]⟩
theorem fg_step {c g n : Int} (h : FgInv c g n) : FgInv c (g / 2) (Builtin.bitXor n g) := by
  obtain ⟨j, rfl, rfl⟩ := h
  refine ⟨j + 1, by rw [gray_half, divStep], ?_⟩
  rw [← divStep]
  apply tb_ext; intro i
  unfold gray
  simp only [tb_xor]
  cases tb (ug c) i <;> cases tb (ug c / 2 ^ j) i <;> cases tb (ug c / 2 ^ j / 2) i <;> rfl
theorem gray_zero {x : Int} (h : 0 ≤ x) (hg : gray x = 0) : x = 0 := gray_inj h (by omega) (by rw [hg]; decide +kernel)
theorem fg_end {c g n : Int} (h : FgInv c g n) (h0 : g = 0) : n = ug c := by
  obtain ⟨j, rfl, rfl⟩ := h
  have := gray_zero (Int.ediv_nonneg (ug_nonneg c) (Int.le_of_lt (ppos j))) h0
  rw [this, xor_zero]
theorem fg_nonneg {c g n : Int} (h : FgInv c g n) : 0 ≤ g := by
  obtain ⟨j, rfl, rfl⟩ := h
  have h1 := Int.ediv_nonneg (ug_nonneg c) (Int.le_of_lt (ppos j))
  generalize ug c / 2 ^ j = z at *
  have := lt_two z.toNat
  refine (gray_nonneg (m := z.toNat) h1 ?_).1
  rw [← pcast]; omega
/-! xorshift (0053, 0056, 0085, 0086) -/
def shL (x : Int) (k : Nat) : Int := Builtin.bitXor x (Builtin.bitAnd (x * 2 ^ k) (2 ^ 32 - 1))
def shR (x : Int) (k : Nat) : Int := Builtin.bitXor x (x / 2 ^ k)
theorem tb_shL (x : Int) (k i : Nat) : tb (shL x k) i = (tb x i ^^ (decide (k ≤ i ∧ i < 32) && tb x (i - k))) := by
  unfold shL
  rw [tb_xor, tb_and, tb_shl, tb_ones]
  by_cases h1 : k ≤ i <;> by_cases h2 : i < 32 <;> simp [h1, h2]
theorem tb_shR (x : Int) (k i : Nat) : tb (shR x k) i = (tb x i ^^ tb x (k + i)) := by
  unfold shR
  rw [tb_xor, tb_shr]
/-- undo_left after j turns; the distances are k, 2k, .. -/
def unL (y : Int) (k : Nat) : Nat → Int
  | 0 => y
  | j + 1 => Builtin.bitXor (unL y k j) (Builtin.bitAnd (y * 2 ^ (k + j * k)) (2 ^ 32 - 1))
def unR (y : Int) (k : Nat) : Nat → Int
  | 0 => y
  | j + 1 => Builtin.bitXor (unR y k j) (y / 2 ^ (k + j * k))
/-- the recurrence, below 32 -/
theorem unL_rec {y : Int} {k : Nat} (hk : 0 < k) (i : Nat) (hi : i < 32) (j : Nat) : tb (unL y k (j + 1)) i = (tb y i ^^ (decide (k ≤ i) && tb (unL y k j) (i - k))) := by
  induction j with
  | zero =>
    rw [unL, unL, tb_xor, tb_and, tb_shl, tb_ones]
    simp only [unL, Nat.zero_mul, Nat.add_zero, hi, decide_true, Bool.and_true]
  | succ j ih =>
    rw [unL, tb_xor, ih, unL, tb_xor, tb_and, tb_and, tb_ones, tb_ones, tb_shl, tb_shl]
    have e : k + (j + 1) * k = k + (k + j * k) := by rw [Nat.add_mul]; omega
    rw [e]
    by_cases h1 : k ≤ i
    · have h3 : i - k < 32 := by omega
      by_cases h2 : k + (k + j * k) ≤ i
      · have h4 : k + j * k ≤ i - k := by omega
        have h5 : i - (k + (k + j * k)) = i - k - (k + j * k) := by omega
        simp only [h1, h2, h3, h4, h5, hi, decide_true, Bool.true_and, Bool.and_true, Bool.xor_assoc]
      · have h4 : ¬ k + j * k ≤ i - k := by omega
        simp [h1, h2, h3, h4, hi]
    · have h2 : ¬ k + (k + j * k) ≤ i := by omega
      simp [h1, h2]
/-- once j turns pass 32 another turn changes nothing below 32 -/
theorem unL_stop {y : Int} {k j : Nat} (h : 32 ≤ k + j * k) : unL y k (j + 1) = unL y k j := by
  rw [unL]
  have : Builtin.bitAnd (y * 2 ^ (k + j * k)) (2 ^ 32 - 1) = 0 := by
    apply tb_ext; intro i
    rw [tb_and, tb_shl, tb_ones, tb_0]
    by_cases h1 : i < 32
    · have : ¬ k + j * k ≤ i := by omega
      simp [this]
    · simp [h1]
  rw [this, xor_zero]
theorem unL_rec' {y : Int} {k j : Nat} (hk : 0 < k) (hj : 32 ≤ k + j * k) (i : Nat) (hi : i < 32) : tb (unL y k j) i = (tb y i ^^ (decide (k ≤ i) && tb (unL y k j) (i - k))) := by
  have := unL_rec (y := y) hk i hi j
  rw [unL_stop hj] at this
  exact this
theorem unL_high (y : Int) (k j i : Nat) (hi : 32 ≤ i) : tb (unL y k j) i = tb y i := by
  induction j with
  | zero => rfl
  | succ j ih =>
    have : ¬ i < 32 := by omega
    rw [unL, tb_xor, ih, tb_and, tb_ones]
    simp [this]
theorem shL_unL {y : Int} {k j : Nat} (hk : 0 < k) (hj : 32 ≤ k + j * k) : shL (unL y k j) k = y := by
  apply tb_ext; intro i
  rw [tb_shL]
  by_cases hi : i < 32
  · rw [unL_rec' hk hj i hi]
    simp only [hi, and_true]
    cases tb y i <;> cases decide (k ≤ i) && tb (unL y k j) (i - k) <;> rfl
  · rw [unL_high _ _ _ _ (by omega)]; simp [hi]
theorem unL_shL {x : Int} {k j : Nat} (hk : 0 < k) (hj : 32 ≤ k + j * k) : unL (shL x k) k j = x := by
  apply tb_ext; intro i
  by_cases hi : i < 32
  · have key : ∀ m i, i ≤ m → i < 32 → tb (unL (shL x k) k j) i = tb x i := by
      intro m
      induction m with
      | zero =>
        intro i h1 h2
        rw [unL_rec' hk hj i h2, tb_shL]
        have : ¬ k ≤ i := by omega
        simp [this]
      | succ m ih =>
        intro i h1 h2
        rw [unL_rec' hk hj i h2, tb_shL]
        by_cases h3 : k ≤ i
        · rw [ih (i - k) (by omega) (by omega)]
          simp [h3, h2]
        · simp [h3]
    exact key i i (Nat.le_refl _) hi
  · rw [unL_high _ _ _ _ (by omega), tb_shL]; simp [hi]
theorem unR_rec {y : Int} {k : Nat} (i : Nat) (j : Nat) : tb (unR y k (j + 1)) i = (tb y i ^^ tb (unR y k j) (k + i)) := by
  induction j with
  | zero => simp only [unR, tb_xor, tb_shr, Nat.zero_mul, Nat.add_zero]
  | succ j ih =>
    rw [unR, tb_xor, ih, unR, tb_xor, tb_shr, tb_shr]
    have e : k + (j + 1) * k + i = k + j * k + (k + i) := by rw [Nat.add_mul]; omega
    rw [e, Bool.xor_assoc]
theorem unR_stop {y : Int} {k j : Nat} (h0 : 0 ≤ y) (h1 : y < 2 ^ 32) (h : 32 ≤ k + j * k) : unR y k (j + 1) = unR y k j := by
  rw [unR]
  have hp := pmono h
  rw [Int.ediv_eq_zero_of_lt h0 (by omega), xor_zero]
theorem unR_high {y : Int} (h0 : 0 ≤ y) (h1 : y < 2 ^ 32) (k j i : Nat) (hi : 32 ≤ i) : tb (unR y k j) i = false := by
  induction j with
  | zero => exact tb_lt h0 h1 hi
  | succ j ih => rw [unR, tb_xor, ih, tb_shr, tb_lt h0 h1 (by omega)]; rfl
theorem shR_unR {y : Int} {k j : Nat} (h0 : 0 ≤ y) (h1 : y < 2 ^ 32) (hj : 32 ≤ k + j * k) : shR (unR y k j) k = y := by
  apply tb_ext; intro i
  have h := unR_rec (y := y) (k := k) i j
  rw [unR_stop h0 h1 hj] at h
  rw [tb_shR, h]
  cases tb y i <;> cases tb (unR y k j) (k + i) <;> rfl
theorem shR_lt {x : Int} (h0 : 0 ≤ x) (h1 : x < 2 ^ 32) (k : Nat) : 0 ≤ shR x k ∧ shR x k < 2 ^ 32 := by
  apply lt_of_tb
  intro i hi
  rw [tb_shR, tb_lt h0 h1 hi, tb_lt h0 h1 (by omega)]; rfl
theorem shL_lt {x : Int} (h0 : 0 ≤ x) (h1 : x < 2 ^ 32) (k : Nat) : 0 ≤ shL x k ∧ shL x k < 2 ^ 32 := by
  apply lt_of_tb
  intro i hi
  have : ¬ i < 32 := by omega
  rw [tb_shL, tb_lt h0 h1 hi]; simp [this]
theorem unL_lt {x : Int} (h0 : 0 ≤ x) (h1 : x < 2 ^ 32) (k j : Nat) : 0 ≤ unL x k j ∧ unL x k j < 2 ^ 32 := by
  apply lt_of_tb
  intro i hi
  rw [unL_high _ _ _ _ hi, tb_lt h0 h1 hi]
theorem unR_lt {x : Int} (h0 : 0 ≤ x) (h1 : x < 2 ^ 32) (k j : Nat) : 0 ≤ unR x k j ∧ unR x k j < 2 ^ 32 := by
  apply lt_of_tb
  intro i hi
  rw [unR_high h0 h1 _ _ _ hi]
theorem unR_shR {x : Int} {k j : Nat} (hk : 0 < k) (h0 : 0 ≤ x) (h1 : x < 2 ^ 32) (hj : 32 ≤ k + j * k) : unR (shR x k) k j = x := by
  have hs := shR_lt h0 h1 k
  apply tb_ext; intro i
  have key : ∀ m i, 32 ≤ i + m → tb (unR (shR x k) k j) i = tb x i := by
    intro m
    induction m with
    | zero => intro i h; rw [unR_high hs.1 hs.2 _ _ _ (by omega), tb_lt h0 h1 (by omega)]
    | succ m ih =>
      intro i h
      have h2 := unR_rec (y := shR x k) (k := k) i j
      rw [unR_stop hs.1 hs.2 hj] at h2
      rw [h2, ih (k + i) (by omega), tb_shR]
      cases tb x i <;> cases tb x (k + i) <;> rfl
  exact key 32 i (by omega)
/-- nonneg from the top bit side -/
theorem xor_nonneg {x y : Int} (hx : 0 ≤ x) (hy : 0 ≤ y) : 0 ≤ Builtin.bitXor x y := by
  have h1 := lt_two x.toNat
  have h2 := lt_two y.toNat
  have a1 : x < 2 ^ x.toNat := by rw [← pcast]; omega
  have a2 : y < 2 ^ y.toNat := by rw [← pcast]; omega
  refine (lt_of_tb (k := x.toNat + y.toNat) fun i hi => ?_).1
  rw [tb_xor, tb_lt hx a1 (by omega), tb_lt hy a2 (by omega)]; rfl
theorem and_nonneg_right (x : Int) {y : Int} (hy : 0 ≤ y) : 0 ≤ Builtin.bitAnd x y := by
  have h2 := lt_two y.toNat
  have a2 : y < 2 ^ y.toNat := by rw [← pcast]; omega
  refine (lt_of_tb (k := y.toNat) fun i hi => ?_).1
  rw [tb_and, tb_lt hy a2 (by omega), Bool.and_false]
theorem unL_nonneg {x : Int} (h0 : 0 ≤ x) (k j : Nat) : 0 ≤ unL x k j := by
  induction j with
  | zero => exact h0
  | succ j ih => exact xor_nonneg ih (and_nonneg_right _ (by decide))
theorem unR_nonneg {x : Int} (h0 : 0 ≤ x) (k j : Nat) : 0 ≤ unR x k j := by
  induction j with
  | zero => exact h0
  | succ j ih => exact xor_nonneg ih (Int.ediv_nonneg h0 (Int.le_of_lt (ppos _)))
/-- a bit from 32 on shows that the number is 2 ^ 32 or more, or negative -/
theorem not_lt_of_tb {x : Int} {i : Nat} (hi : 32 ≤ i) (h : tb x i = true) : ¬ (0 ≤ x ∧ x < 2 ^ 32) := by
  rintro ⟨h0, h1⟩
  rw [tb_lt h0 h1 hi] at h
  cases h
def xs (x : Int) : Int := shL (shR (shL x 13) 17) 5
def xb (y : Int) : Int := unL (unR (unL y 5 6) 17 1) 13 2
theorem xb_xs {x : Int} (h0 : 0 ≤ x) (h1 : x < 2 ^ 32) : xb (xs x) = x := by
  unfold xb xs
  have h := shL_lt h0 h1 13
  rw [unL_shL (by decide) (by decide), unR_shR (by decide) h.1 h.2 (by decide), unL_shL (by decide) (by decide)]
theorem xs_xb {y : Int} (h0 : 0 ≤ y) (h1 : y < 2 ^ 32) : xs (xb y) = y := by
  unfold xb xs
  have h := unL_lt h0 h1 5 6
  rw [shL_unL (by decide) (by decide), shR_unR h.1 h.2 (by decide), shL_unL (by decide) (by decide)]
theorem xs_lt {x : Int} (h0 : 0 ≤ x) (h1 : x < 2 ^ 32) : 0 ≤ xs x ∧ xs x < 2 ^ 32 := by
  unfold xs
  have a := shL_lt h0 h1 13
  have b := shR_lt a.1 a.2 17
  exact shL_lt b.1 b.2 5
theorem xb_lt {x : Int} (h0 : 0 ≤ x) (h1 : x < 2 ^ 32) : 0 ≤ xb x ∧ xb x < 2 ^ 32 := by
  unfold xb
  have a := unL_lt h0 h1 5 6
  have b := unR_lt a.1 a.2 17 1
  exact unL_lt b.1 b.2 13 2
theorem xb_nonneg {y : Int} (h : 0 ≤ y) : 0 ≤ xb y := unL_nonneg (unR_nonneg (unL_nonneg h 5 6) 17 1) 13 2
/-- 2 ^ 32 and more stays so -/
theorem xs_big {x : Int} (h : 2 ^ 32 ≤ x) : ¬ (0 ≤ xs x ∧ xs x < 2 ^ 32) := by
  have : ∃ e : Nat, 32 ≤ e ∧ 2 ^ e ≤ x ∧ x < 2 ^ (e + 1) := by
    have h2 := lt_two x.toNat
    have a2 : x < 2 ^ x.toNat := by rw [← pcast]; omega
    have key : ∀ m : Nat, x < 2 ^ m → ∃ e : Nat, 32 ≤ e ∧ 2 ^ e ≤ x ∧ x < 2 ^ (e + 1) := by
      intro m
      induction m with
      | zero => intro hm; simp only [Int.pow_zero] at hm; omega
      | succ m ih =>
        intro hm
        by_cases hl : x < 2 ^ m
        · exact ih hl
        · refine ⟨m, ?_, by omega, hm⟩
          by_cases h3 : 32 ≤ m
          · exact h3
          · have := pmono (show m + 1 ≤ 32 by omega)
            omega
    exact key _ a2
  obtain ⟨e, he, h1, h2⟩ := this
  have hz : ∀ i, e + 1 ≤ i → tb x i = false := fun i hi => tb_lt (by omega) h2 hi
  have ht := tb_top h1 h2
  have hx : ¬ e < 32 := by omega
  refine not_lt_of_tb he ?_
  unfold xs
  rw [tb_shL, tb_shR, tb_shL, tb_shL, ht, hz (17 + e) (by omega)]
  have h3 : ¬ 17 + e < 32 := by omega
  simp [hx, h3]
theorem xs_neg {x : Int} (h : x < 0) : xb (xs x) ≠ x ∨ ¬ (0 ≤ xs x ∧ xs x < 2 ^ 32) := by
  by_cases h0 : 0 ≤ xs x
  · left
    have := xb_nonneg h0
    omega
  · right; omega
theorem xs_zero {x : Int} (h0 : 0 ≤ x) (h1 : x < 2 ^ 32) : xs x = 0 ↔ x = 0 := by
  constructor
  · intro h
    have := xb_xs h0 h1
    rw [h] at this
    rw [← this]; decide +kernel
  · rintro rfl; decide +kernel
end Mine
namespace Mine
/-! next with as many ones (0066) -/
theorem nxt_eq (H : Int) (o b : Nat) (ho : 0 < o) :
    let n := (H * 2 ^ (o + 1) + 2 ^ o - 1) * 2 ^ b
    n + 2 ^ b = (2 * H + 1) * 2 ^ (o + b) ∧ Builtin.bitXor n (n + 2 ^ b) = (2 ^ (o + 1) - 1) * 2 ^ b := by
  intro n
  have e1 : n + 2 ^ b = (2 * H + 1) * 2 ^ (o + b) := by
    show (H * 2 ^ (o + 1) + 2 ^ o - 1) * 2 ^ b + 2 ^ b = (2 * H + 1) * 2 ^ (o + b)
    have : (H * 2 ^ (o + 1) + 2 ^ o - 1) * 2 ^ b + 2 ^ b = (H * 2 ^ (o + 1) + 2 ^ o) * 2 ^ b := by
      rw [Int.sub_mul]; omega
    rw [this, padd o b, ← Int.mul_assoc]
    have h2 : H * 2 ^ (o + 1) + 2 ^ o = (2 * H + 1) * 2 ^ o := by
      rw [psucc, Int.add_mul, ← Int.mul_assoc, Int.mul_comm H 2]; omega
    rw [h2]
  refine ⟨e1, ?_⟩
  have hn : n = (H * 2 ^ (o + 1) + (2 ^ o - 1)) * 2 ^ b := by
    show (H * 2 ^ (o + 1) + 2 ^ o - 1) * 2 ^ b = _
    congr 1; omega
  have d : ∀ i, (tb (H * 2 ^ (o + 1)) i && tb (2 ^ o - 1) i) = false := by
    intro i
    rw [tb_shl, tb_ones]
    by_cases h : i < o
    · have : ¬ o + 1 ≤ i := by omega
      simp [this]
    · simp [h]
  have t1 : ∀ i, tb (H * 2 ^ (o + 1) + (2 ^ o - 1)) i = ((decide (o + 1 ≤ i) && tb H (i - (o + 1))) ^^ decide (i < o)) := by
    intro i
    rw [← xor_disj d, tb_xor, tb_shl, tb_ones]
  have t2 : ∀ i, tb ((2 * H + 1) * 2 ^ o) i = (decide (o ≤ i) && if i - o = 0 then true else tb H (i - o - 1)) := by
    intro i
    rw [tb_shl, tb_two H 1 (.inr rfl)]; simp
  apply tb_ext; intro i
  rw [tb_xor, e1, hn, padd o b, ← Int.mul_assoc, tb_shl _ b, tb_shl _ b, tb_shl _ b, t1, t2, tb_ones]
  by_cases hb : b ≤ i
  · simp only [hb, decide_true, Bool.true_and]
    generalize i - b = j
    by_cases h1 : j < o
    · have h2 : ¬ o + 1 ≤ j := by omega
      have h3 : ¬ o ≤ j := by omega
      have h4 : j < o + 1 := by omega
      simp [h1, h2, h3, h4]
    · by_cases h2 : j = o
      · subst h2; simp
      · have h3 : o + 1 ≤ j := by omega
        have h4 : o ≤ j := by omega
        have h5 : ¬ j < o + 1 := by omega
        have h6 : ¬ j - o = 0 := by omega
        have h7 : j - o - 1 = j - (o + 1) := by omega
        simp [h1, h3, h4, h5, h6, h7]
  · simp [hb]
theorem nxt_low (H : Int) (o b : Nat) (ho : 0 < o) :
    let n := (H * 2 ^ (o + 1) + 2 ^ o - 1) * 2 ^ b
    Builtin.bitAnd n (-n) = 2 ^ b := by
  intro n
  obtain ⟨p, rfl⟩ : ∃ p, o = p + 1 := ⟨o - 1, by omega⟩
  have : n = 2 ^ b * (2 * (H * 2 ^ (p + 1) + 2 ^ p - 1) + 1) := by
    show (H * 2 ^ (p + 1 + 1) + 2 ^ (p + 1) - 1) * 2 ^ b = _
    rw [Int.mul_comm]
    congr 1
    rw [psucc (p + 1)]
    have := psucc p
    have e : H * (2 * 2 ^ (p + 1)) = 2 * (H * 2 ^ (p + 1)) := by rw [← Int.mul_assoc, Int.mul_comm H 2, Int.mul_assoc]
    omega
  rw [this, low_eq]
theorem nxt_or (H : Int) (o b : Nat) (ho : 0 < o) :
    Builtin.bitOr ((2 * H + 1) * 2 ^ (o + b)) ((2 ^ (o + 1) - 1) / 2 ^ 2) = (2 * H + 1) * 2 ^ (o + b) + 2 ^ (o - 1) - 1 := by
  obtain ⟨p, rfl⟩ : ∃ p, o = p + 1 := ⟨o - 1, by omega⟩
  have e : ((2 : Int) ^ (p + 1 + 1) - 1) / 2 ^ 2 = 2 ^ p - 1 := by
    have h1 := psucc (p + 1)
    have h2 := psucc p
    have h3 := ppos p
    have : (2 : Int) ^ 2 = 4 := by decide
    rw [this]; omega
  rw [e, or_disj]
  · simp only [Nat.add_sub_cancel]; omega
  · intro i
    rw [tb_shl, tb_ones]
    by_cases h : i < p
    · have : ¬ p + 1 + b ≤ i := by omega
      simp [this]
    · simp [h]
/-- the whole -/
def nxt (n : Int) : Int :=
  Builtin.bitOr (n + Builtin.bitAnd n (-n)) (((Builtin.bitXor n (n + Builtin.bitAnd n (-n))) / Builtin.bitAnd n (-n)) / 2 ^ 2)
theorem nxt_all (H : Int) (o b : Nat) (ho : 0 < o) : nxt ((H * 2 ^ (o + 1) + 2 ^ o - 1) * 2 ^ b) = (H * 2 + 1) * 2 ^ (o + b) + 2 ^ (o - 1) - 1 := by
  have h := nxt_eq H o b ho
  have hl := nxt_low H o b ho
  simp only at h hl
  unfold nxt
  rw [hl, h.1] 
  rw [h.1] at h
  rw [h.2, Int.mul_ediv_cancel _ (by have := ppos b; omega), nxt_or H o b ho, Int.mul_comm H 2]
/-! power modulo (0098) -/
theorem powMod_eq (b e m : Nat) : Builtin.powMod b e m = b ^ e % m := by
  unfold Builtin.powMod
  have gen : ∀ (k : Nat) (e p : Nat), (List.range k).reverse.foldl (fun p i => if e.testBit i then p * p % m * b % m else p * p % m) (p % m) = (p ^ (2 ^ k) * b ^ (e % 2 ^ k)) % m := by
    intro k
    induction k with
    | zero => intro e p; simp [Nat.mod_one]
    | succ k ih =>
      intro e p
      rw [List.range_succ, List.reverse_append, List.reverse_cons, List.reverse_nil, List.nil_append, List.cons_append, List.nil_append, List.foldl_cons]
      have hm : e % 2 ^ (k + 1) = e % 2 ^ k + 2 ^ k * (e / 2 ^ k % 2) := Nat.mod_pow_succ
      have hb : e.testBit k = decide (e / 2 ^ k % 2 = 1) := by rw [Nat.testBit_eq_decide_div_mod_eq]
      have e2 : ∀ z : Nat, z ^ 2 ^ (k + 1) = (z * z) ^ 2 ^ k := by
        intro z
        rw [Nat.pow_succ, Nat.mul_comm, Nat.pow_mul, Nat.pow_two]
      have h01 : e / 2 ^ k % 2 = 0 ∨ e / 2 ^ k % 2 = 1 := by omega
      rcases h01 with h | h
      · rw [hb, h, hm, h]
        simp only [show ¬ (0 = 1) by decide, decide_false, Bool.false_eq_true, if_false, Nat.mul_zero, Nat.add_zero]
        rw [ih, e2]
        rw [Nat.mul_mod, Nat.pow_mod, ← Nat.mul_mod p p, ← Nat.pow_mod, ← Nat.mul_mod]
      · rw [hb, h, hm, h]
        simp only [decide_true, if_true, Nat.mul_one]
        rw [ih, e2]
        have e3 : b ^ (e % 2 ^ k + 2 ^ k) = b ^ 2 ^ k * b ^ (e % 2 ^ k) := by rw [Nat.pow_add, Nat.mul_comm]
        rw [e3, ← Nat.mul_assoc, ← Nat.mul_pow]
        have e4 : (p % m * (p % m) % m * b) ^ 2 ^ k % m = (p * p * b) ^ 2 ^ k % m := by
          rw [Nat.pow_mod, Nat.mul_mod (p % m * (p % m) % m), ← Nat.mul_mod p p, Nat.mod_mod, ← Nat.mul_mod, ← Nat.pow_mod]
        rw [Nat.mul_mod, e4, ← Nat.mul_mod]
  have he : e < 2 ^ (Builtin.Int.intBits e) := by
    unfold Builtin.Int.intBits
    by_cases h : e = 0
    · subst h; decide
    · have : ¬ ((e : Int) == 0) = true := by simp; exact h
      rw [if_neg this]
      exact Nat.lt_log2_self
  rw [gen, Nat.mod_eq_of_lt he, Nat.one_pow, Nat.one_mul]
end Mine
namespace Mine
/-! texts of digits -/
def DS (l : List Char) : Str := ⟨(l.map Char.toNat).toArray⟩
theorem DS_append (a b : List Char) : DS (a ++ b) = DS a ++ DS b := by
  apply Str.ext'
  rw [Str.cps_append]
  simp [DS]
theorem DS_nil : DS [] = Str.empty := rfl
theorem ofString_DS (l : List Char) : Str.ofString (String.ofList l) = DS l := by
  rw [Str.ofString_eq_toList]; simp [DS]
/-- the digits of n; none for 0 -/
def DG (b n : Nat) : Str := if n = 0 then Str.empty else DS (Nat.toDigits b n)
theorem DG_zero (b : Nat) : DG b 0 = Str.empty := rfl
theorem DG_step {b n d : Nat} (hb : 1 < b) (hd : d < b) (hp : 0 < b * n + d) : DG b (b * n + d) = DG b n ++ DS [Nat.digitChar d] := by
  unfold DG
  rw [if_neg (by omega)]
  rcases Nat.eq_zero_or_pos n with rfl | hn
  · rw [if_pos rfl, Str.empty_append, Nat.mul_zero, Nat.zero_add, Nat.toDigits_of_lt_base hd]
  · rw [if_neg (by omega), ← DS_append, ← Nat.toDigits_append_toDigits hb hn hd, Nat.toDigits_of_lt_base hd]
theorem DG_div {b n : Nat} (hb : 1 < b) (hn : 0 < n) : DG b n = DG b (n / b) ++ DS [Nat.digitChar (n % b)] := by
  have h := DG_step (n := n / b) (d := n % b) hb (Nat.mod_lt _ (by omega)) (by rw [Nat.div_add_mod]; exact hn)
  rw [Nat.div_add_mod] at h
  exact h
theorem DG_len {b n k : Nat} (hb : 1 < b) (h : n < b ^ k) : (DG b n).length ≤ k := by
  unfold DG
  split
  · exact Nat.zero_le _
  · next h0 =>
    show ((Nat.toDigits b n).map Char.toNat).toArray.size ≤ k
    rw [List.size_toArray, List.length_map]
    have hk : 0 < k := by
      rcases Nat.eq_zero_or_pos k with rfl | h'
      · rw [Nat.pow_zero] at h; omega
      · exact h'
    exact (Nat.length_toDigits_le_iff hb hk).mpr h
theorem sign16 : ∀ d : Nat, d < 16 → Txt.item (Str.ofString "0123456789abcdef") (d : Int) = DS [Nat.digitChar d] := by decide +kernel
theorem sign8 : ∀ d : Nat, d < 8 → Txt.item (Str.ofString "01234567") (d : Int) = DS [Nat.digitChar d] := by decide +kernel
theorem sign2 : ∀ d : Nat, d < 2 → Txt.item (Str.ofString "01") (d : Int) = DS [Nat.digitChar d] := by decide +kernel
end Mine
namespace Mine
/-! subsets (0065) -/
def IsCh (m : Int) : Int → List Int → Prop
  | s, [] => s = 0
  | s, x :: r => 0 < s ∧ x = Builtin.bitAnd (s - 1) m ∧ IsCh m x r
theorem and_lt_right {x y : Int} {p : Nat} (h0 : 0 ≤ y) (h1 : y < 2 ^ p) : 0 ≤ Builtin.bitAnd x y ∧ Builtin.bitAnd x y < 2 ^ p := by
  apply lt_of_tb
  intro i hi
  rw [tb_and, tb_lt h0 h1 hi, Bool.and_false]
theorem tb_addpow {m : Int} {p : Nat} (h0 : 0 ≤ m) (h1 : m < 2 ^ p) (i : Nat) : tb (m + 2 ^ p) i = (tb m i || decide (i = p)) := by
  have d : ∀ i, (tb m i && tb (2 ^ p) i) = false := by
    intro i
    rw [tb_pow]
    by_cases h : i = p
    · rw [tb_lt h0 h1 (by omega)]; rfl
    · simp [h]
  rw [← or_disj d, tb_or, tb_pow]
theorem ch_low {m : Int} {p : Nat} (h0 : 0 ≤ m) (h1 : m < 2 ^ p) : ∀ (r : List Int) (t : Int), 0 ≤ t → t < 2 ^ p → IsCh m t r → IsCh (m + 2 ^ p) t r
  | [], _, _, _, h => h
  | x :: r, t, ht0, ht1, ⟨h2, h3, h4⟩ => by
    have hx := and_lt_right (x := t - 1) h0 h1
    refine ⟨h2, ?_, ch_low h0 h1 r x (by rw [h3]; exact hx.1) (by rw [h3]; exact hx.2) h4⟩
    rw [h3]
    apply tb_ext; intro i
    rw [tb_and, tb_and, tb_addpow h0 h1]
    by_cases h : i = p
    · subst h
      rw [tb_lt (i := i) (x := t - 1) (by omega) (by omega : t - 1 < 2 ^ i) (Nat.le_refl _)]; rfl
    · simp [h]
theorem ch_high {m : Int} {p : Nat} (h0 : 0 ≤ m) (h1 : m < 2 ^ p) (r2 : List Int) (hm : IsCh (m + 2 ^ p) m r2) : ∀ (r : List Int) (t : Int), 0 ≤ t → t < 2 ^ p → IsCh m t r → IsCh (m + 2 ^ p) (t + 2 ^ p) (r.map (· + 2 ^ p) ++ m :: r2)
  | [], t, _, _, h => by
    have ht : t = 0 := h
    subst ht
    have hp := ppos p
    refine ⟨by omega, ?_, hm⟩
    rw [Int.zero_add, bitAnd_comm, and_mask]
    have : (m + 2 ^ p) % 2 ^ p = m := by rw [Int.add_emod_right, Int.emod_eq_of_lt h0 h1]
    rw [this]
  | x :: r, t, ht0, ht1, ⟨h2, h3, h4⟩ => by
    have hx := and_lt_right (x := t - 1) h0 h1
    have hp := ppos p
    refine ⟨by omega, ?_, ch_high h0 h1 r2 hm r x (by rw [h3]; exact hx.1) (by rw [h3]; exact hx.2) h4⟩
    show x + 2 ^ p = Builtin.bitAnd (t + 2 ^ p - 1) (m + 2 ^ p)
    rw [h3, show t + 2 ^ p - 1 = (t - 1) + 2 ^ p by omega]
    apply tb_ext; intro i
    rw [tb_addpow hx.1 hx.2, tb_and, tb_and, tb_addpow h0 h1, tb_addpow (by omega) (by omega)]
    by_cases h : i = p
    · simp [h]
    · simp [h]
theorem ch_unique {m : Int} : ∀ (r₁ r₂ : List Int) (s : Int), IsCh m s r₁ → IsCh m s r₂ → r₁ = r₂
  | [], [], _, _, _ => rfl
  | [], _ :: _, _, h1, h2 => by
    have h1 : _ = (0 : Int) := h1
    have h2 := h2.1
    omega
  | _ :: _, [], _, h1, h2 => by
    have h2 : _ = (0 : Int) := h2
    have h1 := h1.1
    omega
  | x :: r, y :: q, _, ⟨_, h2, h3⟩, ⟨_, h5, h6⟩ => by
    have : x = y := by rw [h2, h5]
    subst this
    rw [ch_unique r q x h3 h6]
/-- the list that the law builds -/
def IsSub (m : Int) (w : List Int) : Prop := ∃ r, w = m :: r ∧ IsCh m m r
theorem sub_zero : IsSub 0 [0] := ⟨[], rfl, rfl⟩
theorem sub_step {m : Int} {w : List Int} {p : Nat} (h0 : 0 ≤ m) (h1 : m < 2 ^ p) (h : IsSub m w) : IsSub (m + 2 ^ p) (w.map (fun z => z + 2 ^ p) ++ w) := by
  obtain ⟨r, rfl, hr⟩ := h
  refine ⟨r.map (fun z => z + 2 ^ p) ++ m :: r, by simp, ?_⟩
  exact ch_high h0 h1 r (ch_low h0 h1 r m h0 h1 hr) r m h0 h1 hr
/-- the while's invariant -/
def SubInv (m s : Int) (subs : List Int) : Prop := ∀ w, IsSub m w → ∃ r, subs ++ r = w ∧ IsCh m s r
theorem si_start (m : Int) : SubInv m m [m] := fun w ⟨r, e, h⟩ => ⟨r, by rw [e]; rfl, h⟩
theorem si_step {m s : Int} {subs : List Int} (h : SubInv m s subs) (hs : 0 < s) : SubInv m (Builtin.bitAnd (s - 1) m) (subs ++ [Builtin.bitAnd (s - 1) m]) := by
  intro w hw
  obtain ⟨r, e, hr⟩ := h w hw
  match r, hr with
  | [], hr => exact absurd hr (by show ¬ s = 0; omega)
  | x :: r, ⟨_, h2, h3⟩ =>
    subst h2
    exact ⟨r, by rw [← e]; simp, h3⟩
theorem si_end {m s : Int} {subs w : List Int} (h : SubInv m s subs) (hs : ¬ 0 < s) (hw : IsSub m w) : subs = w := by
  obtain ⟨r, e, hr⟩ := h w hw
  match r, hr with
  | [], _ => rw [← e]; simp
  | x :: r, ⟨h1, _⟩ => exact absurd h1 hs
/-- the measure -/
theorem si_less {m s : Int} (h0 : 0 ≤ m) (hs : 0 < s) : 0 ≤ Builtin.bitAnd (s - 1) m ∧ (Builtin.bitAnd (s - 1) m) < s := by
  refine ⟨and_nonneg_right _ h0, ?_⟩
  have : Builtin.bitAnd (s - 1) m ≤ s - 1 := by
    rw [bitAnd_pp (by omega) h0]
    have := Nat.and_le_left (n := (s - 1).toNat) (m := m.toNat)
    omega
  omega
end Mine
namespace Mine
def SuI (m : Int) (w : List Int) (q : Int) (k : Nat) : Prop := 0 ≤ q ∧ q ≤ 12 * k ∧ 0 ≤ m ∧ m < 2 ^ q.toNat ∧ IsSub m w ∧ w.length = 2 ^ k
theorem su0 : SuI 0 [0] 0 0 := ⟨by decide, by decide, by decide, by decide, sub_zero, rfl⟩
theorem su1 {m : Int} {w : List Int} {q : Int} {k : Nat} (c : Int) (h : SuI m w q k) : SuI (m + 1 * 2 ^ (q + c.fmod 12).toNat) (w.map (fun z => z + 1 * 2 ^ (q + c.fmod 12).toNat) ++ w) (q + c.fmod 12 + 1) (k + 1) := by
  obtain ⟨h0, hq, h1, h2, h3, h4⟩ := h
  have hc : 0 ≤ c.fmod 12 ∧ c.fmod 12 < 12 := by rw [Int.fmod_eq_emod_of_nonneg _ (by decide)]; omega
  have hm := pmono (show q.toNat ≤ (q + c.fmod 12).toNat by omega)
  have hp := ppos (q + c.fmod 12).toNat
  have e : (q + c.fmod 12 + 1).toNat = (q + c.fmod 12).toNat + 1 := by omega
  refine ⟨by omega, by omega, by omega, ?_, ?_, ?_⟩
  · rw [e, psucc]; omega
  · rw [Int.one_mul]
    exact sub_step h1 (by omega) h3
  · rw [List.length_append, List.length_map, h4, Nat.pow_succ]; omega
def SubI (m s : Int) (subs : List Int) : Prop := 0 ≤ m ∧ SubInv m s subs ∧ ∃ w, IsSub m w ∧ w.length ≤ 128
theorem sl_len {m s : Int} {subs : List Int} (h : SubI m s subs) : subs.length ≤ 128 := by
  obtain ⟨_, h1, w, h2, h3⟩ := h
  obtain ⟨r, e, _⟩ := h1 w h2
  have := congrArg List.length e
  rw [List.length_append] at this
  omega
theorem sl0 {m : Int} {w : List Int} {q : Int} {k : Nat} (h : SuI m w q k) (hk : k ≤ 7) : SubI m m [m] ∧ [m].length ≤ 128 := by
  obtain ⟨h0, hq, h1, h2, h3, h4⟩ := h
  have h5 := Nat.pow_le_pow_right (show 0 < 2 by decide) hk
  have e : (2 : Nat) ^ 7 = 128 := by decide
  exact ⟨⟨h1, si_start m, w, h3, by omega⟩, by show 1 ≤ 128; omega⟩
theorem sl1 {m s : Int} {subs : List Int} (h : SubI m s subs) (hs : 0 < s) : SubI m (Builtin.bitAnd (s - 1) m) (subs ++ [Builtin.bitAnd (s - 1) m]) ∧ (subs ++ [Builtin.bitAnd (s - 1) m]).length ≤ 128 := by
  have key : SubI m (Builtin.bitAnd (s - 1) m) (subs ++ [Builtin.bitAnd (s - 1) m]) := ⟨h.1, si_step h.2.1 hs, h.2.2⟩
  exact ⟨key, sl_len key⟩
theorem sl_less {m s : Int} {subs : List Int} (h : SubI m s subs) (hs : 0 < s) : (Builtin.bitAnd (s - 1) m).toNat < s.toNat := by
  have := si_less h.1 hs
  omega
theorem slE {m s q : Int} {subs w : List Int} {k : Nat} (h : SubI m s subs) (hs : ¬ 0 < s) (hw : SuI m w q k) : subs = w := si_end h.2.1 hs hw.2.2.2.2.1
def wl : List Int → List Int
  | [] => [0]
  | p :: ps => (wl ps).map (fun z => z + 1 * 2 ^ p.toNat) ++ wl ps
theorem sw0 : SuI 0 (wl []) 0 0 := su0
theorem sw1 {m : Int} {ps : List Int} {q : Int} {k : Nat} (c : Int) (h : SuI m (wl ps) q k) : SuI (m + 1 * 2 ^ (q + c.fmod 12).toNat) (wl ((q + c.fmod 12) :: ps)) (q + c.fmod 12 + 1) (k + 1) := su1 c h
theorem gen_list {g h : Heap} {L D : Addr} {t c : Nat} {r : List (Addr × Obj)} (N : News g L h ((D, W.listOf #[Value.int 0 t] c) :: r)) : ∃ vs, IntsAre vs (wl []) ∧ (wl []).length = 1 ∧ News g L h ((D, W.listOf vs.toArray c) :: r) :=
  ⟨[Value.int 0 t], .cons 0 t .nil, rfl, N⟩
theorem fold_wl {ws : List Value} {p : Int} {ps : List Int} (h : IntsAre ws (List.map (fun z => z + 1 * 2 ^ p.toNat) (wl ps) ++ wl ps)) : IntsAre ws (wl (p :: ps)) ∧ (wl (p :: ps)).length = 2 * (wl ps).length := ⟨h, by rw [wl, List.length_append, List.length_map]; omega⟩
theorem sE {m s q : Int} {subs w : List Int} {k : Nat} (h : SubI m s subs) (hs : ¬ 0 < s) (hne : ¬ subs = w) (hw : SuI m w q k) : False := hne (slE h hs hw)
theorem drop2 {g h : Heap} {L : Addr} {a b c d e : Addr × Obj} (N : News g L h [a, b, c, d, e]) : News g L h [a, c, e] := fun p hp => N p (by
  simp only [List.mem_cons, List.not_mem_nil, or_false] at hp ⊢
  rcases hp with h | h | h
  · exact .inl h
  · exact .inr (.inr (.inl h))
  · exact .inr (.inr (.inr (.inr h))))
theorem gen_toks {α : Type} {M : Model} {A : Around} {T : Sem α} {Q : α → Shared → Prop} {E : Value → Shared → Prop} {h : Heap} {g d os} {X : Nat} (k : ∀ tk, wpAny M A T Q E ⟨h, g, d, tk, os⟩) : wpAny M A T Q E ⟨h, g, d, X, os⟩ := k X
end Mine
local macro_rules | `(tactic| walk_at "execs nil") => `(tactic| ((with_reducible show wpAny _ _ _ _ _ ⟨_, _, _, _ + 1, _⟩); (with_reducible refine Mine.gen_toks (fun tk9 => ?_))))
local macro_rules | `(tactic| walk_at "execs cons") => `(tactic| ((with_reducible show wpAny _ _ _ _ _ ⟨_, _, _, _ + 1, _⟩); (with_reducible refine Mine.gen_toks (fun tk9 => ?_))))
local macro_rules | `(tactic| walk_at "exec For Name Call cons nil") => `(tactic| ((with_reducible show wpAny _ _ (exec (Stmt.For _ _ [Stmt.Assign _ _ _, Stmt.Assign _ _ _, Stmt.Assign _ _ _, Stmt.Assign _ _ _, Stmt.Assign _ _ _] _ _) _) _ _ _); (rename News _ _ _ _ => lN'); (obtain ⟨vs9, hI9, hLn9, N9⟩ := Mine.gen_list lN'); (clear lN')))
local macro_rules | `(tactic| walk_at "UnrPost") => `(tactic| ((rename IntsAre _ (List.map _ (Mine.wl _) ++ Mine.wl _) => hW9); (repeat ((rename IntsAre _ (Mine.wl _) => hC9); (clear hC9))); (repeat ((rename IntsAre _ (List.map _ (Mine.wl _)) => hC9); (clear hC9))); (repeat ((rename List.length _ = List.length _ => hC9); (clear hC9))); (repeat ((rename (_ ≠ _) ∧ _ => hC9); (clear hC9))); (rename News _ _ _ _ => lN9); (obtain N8 := Mine.drop2 lN9); (clear lN9); (obtain ⟨hW8, hLn8⟩ := Mine.fold_wl hW9); (clear hW9); dsimp only [UnrPost]))
set_option maxRecDepth 100000 in
set_option maxHeartbeats 8000000 in
theorem PySem.Challenge.cw_k5_0065_holds : PySem.Challenge.rw_k5_0065.Holds := by
  (k_with "call type:range" => k_rangeSizes)
  (k_with "exec While Compare cons nil" => k_while_given ["mask"] (fun m _ s subs => Mine.SubI m s subs ∧ subs.length ≤ 128) (fun _ _ s _ => s.toNat) "s" "subsets")
  (k_with "pyIter ref" => k_of "g" => k_search (fun _ => True))
  (k_with "measure" => with_reducible first | exact Mine.sl_less (by assumption) (by assumption) | exact Mine.sl_less (And.left (by assumption)) (by assumption))
  (k_with "state" => first | (with_reducible exact Mine.sl1 (by assumption) (by assumption)) | (with_reducible exact Mine.sl1 (And.left (by assumption)) (by assumption)) | ((with_reducible refine' Mine.sl0 ?zs ?zk); (case zs => (repeat' (with_reducible first | exact Mine.sw0 | refine' Mine.sw1 _ ?_))); (case zk => decide)))
  (k_with "end" => first | ((with_reducible show (true == true) = true); exact rfl) | ((with_reducible show (false == true) = true); first | ((with_reducible refine' (Mine.sE ?h1 ?h2 ?h3 ?hw).elim); (case h1 => with_reducible assumption); (case h2 => with_reducible assumption); (case h3 => with_reducible assumption); (case hw => (repeat' (with_reducible first | exact Mine.sw0 | refine' Mine.sw1 _ ?_))))))
  open_k
