import PyProof.Rows.All
import Wide.All
import OpenK.AllK
import Wide.FinOn
import PySem.Challenge.RW_k5_0051
open PySem PySem.W PyProof.Rows
set_option Elab.async false
namespace Mine
/-- bit i of an int, in two's complement -/
def tb (x : Int) (i : Nat) : Bool := decide (x / 2 ^ i % 2 = 1)

theorem pcast (k : Nat) : ((2 ^ k : Nat) : Int) = (2 : Int) ^ k := by
  induction k with
  | zero => simp
  | succ n ih => rw [Nat.pow_succ, Int.pow_succ, ← ih]; omega
theorem ppos (k : Nat) : (0 : Int) < 2 ^ k := by
  rw [← pcast]; have := Nat.two_pow_pos k; omega
theorem psucc (k : Nat) : (2 : Int) ^ (k + 1) = 2 * 2 ^ k := by rw [Int.pow_succ]; omega
theorem padd (a b : Nat) : (2 : Int) ^ (a + b) = 2 ^ a * 2 ^ b := Int.pow_add ..
theorem half_pow (x : Int) (i : Nat) : x / 2 ^ (i + 1) = x / 2 / 2 ^ i := by
  rw [psucc, Int.ediv_ediv_of_nonneg (by omega : (0 : Int) ≤ 2)]
theorem tb_zero (x : Int) : tb x 0 = decide (x % 2 = 1) := by simp [tb]
theorem tb_succ (x : Int) (i : Nat) : tb x (i + 1) = tb (x / 2) i := by unfold tb; rw [half_pow]
theorem and_half (x y : Int) : Builtin.bitAnd x y / 2 = Builtin.bitAnd (x / 2) (y / 2) ∧ (Builtin.bitAnd x y % 2 = 1 ↔ (x % 2 = 1 ∧ y % 2 = 1)) := by
  have pn : ∀ x y : Int, 0 ≤ x → ¬ 0 ≤ y → Builtin.bitAnd x y / 2 = Builtin.bitAnd (x / 2) (y / 2) ∧ (Builtin.bitAnd x y % 2 = 1 ↔ (x % 2 = 1 ∧ y % 2 = 1)) := by
    intro x y hx hy
    rw [bitAnd_pn hx hy, bitAnd_pn (show 0 ≤ x / 2 by omega) (show ¬ 0 ≤ y / 2 by omega)]
    have e1 : (x / 2).toNat = x.toNat / 2 := by omega
    have e2 : (Builtin.bitNot (y / 2)).toNat = (Builtin.bitNot y).toNat / 2 := by unfold Builtin.bitNot; omega
    have e3 : ((Builtin.bitNot y).toNat : Int) = -y - 1 := by unfold Builtin.bitNot; omega
    rw [e1, e2]
    have h1 : (x.toNat &&& (Builtin.bitNot y).toNat) / 2 = x.toNat / 2 &&& (Builtin.bitNot y).toNat / 2 := Nat.and_div_two
    have h2 := @Nat.and_mod_two_eq_one x.toNat (Builtin.bitNot y).toNat
    rw [← h1]
    omega
  by_cases hx : 0 ≤ x <;> by_cases hy : 0 ≤ y
  · rw [bitAnd_pp hx hy, bitAnd_pp (show 0 ≤ x / 2 by omega) (show 0 ≤ y / 2 by omega)]
    have e1 : (x / 2).toNat = x.toNat / 2 := by omega
    have e2 : (y / 2).toNat = y.toNat / 2 := by omega
    rw [e1, e2]
    have h1 : (x.toNat &&& y.toNat) / 2 = x.toNat / 2 &&& y.toNat / 2 := Nat.and_div_two
    have h2 := @Nat.and_mod_two_eq_one x.toNat y.toNat
    rw [← h1]
    omega
  · exact pn x y hx hy
  · rw [bitAnd_comm x y, bitAnd_comm (x / 2) (y / 2)]
    have := pn y x hy hx
    refine ⟨this.1, this.2.trans ⟨fun h => ⟨h.2, h.1⟩, fun h => ⟨h.2, h.1⟩⟩⟩
  · rw [bitAnd_nn hx hy, bitAnd_nn (show ¬ 0 ≤ x / 2 by omega) (show ¬ 0 ≤ y / 2 by omega)]
    have e2 : (Builtin.bitNot (x / 2)).toNat = (Builtin.bitNot x).toNat / 2 := by unfold Builtin.bitNot; omega
    have f2 : (Builtin.bitNot (y / 2)).toNat = (Builtin.bitNot y).toNat / 2 := by unfold Builtin.bitNot; omega
    have e3 : ((Builtin.bitNot x).toNat : Int) = -x - 1 := by unfold Builtin.bitNot; omega
    have f3 : ((Builtin.bitNot y).toNat : Int) = -y - 1 := by unfold Builtin.bitNot; omega
    rw [e2, f2]
    have h1 : ((Builtin.bitNot x).toNat ||| (Builtin.bitNot y).toNat) / 2 = (Builtin.bitNot x).toNat / 2 ||| (Builtin.bitNot y).toNat / 2 := Nat.or_div_two
    have h2 := @Nat.or_mod_two_eq_one (Builtin.bitNot x).toNat (Builtin.bitNot y).toNat
    rw [← h1]
    generalize (Builtin.bitNot x).toNat ||| (Builtin.bitNot y).toNat = z at *
    generalize (Builtin.bitNot x).toNat = x' at *
    generalize (Builtin.bitNot y).toNat = y' at *
    unfold Builtin.bitNot at *
    omega
theorem tb_and (x y : Int) (i : Nat) : tb (Builtin.bitAnd x y) i = (tb x i && tb y i) := by
  induction i generalizing x y with
  | zero =>
    rw [tb_zero, tb_zero, tb_zero]
    have := (and_half x y).2
    by_cases h : Builtin.bitAnd x y % 2 = 1
    · have h2 := this.mp h; simp [h, h2.1, h2.2]
    · by_cases h1 : x % 2 = 1
      · by_cases h2 : y % 2 = 1
        · exact absurd (this.mpr ⟨h1, h2⟩) h
        · simp [h, h2]
      · simp [h, h1]
  | succ i ih => rw [tb_succ, tb_succ, tb_succ, (and_half x y).1, ih]
theorem tb_not (x : Int) (i : Nat) : tb (Builtin.bitNot x) i = !tb x i := by
  induction i generalizing x with
  | zero =>
    rw [tb_zero, tb_zero]
    unfold Builtin.bitNot
    by_cases h : x % 2 = 1
    · have : ¬ (-x - 1) % 2 = 1 := by omega
      simp [h, this]
    · have : (-x - 1) % 2 = 1 := by omega
      simp [h, this]
  | succ i ih =>
    rw [tb_succ, tb_succ, ← ih]
    congr 1
    unfold Builtin.bitNot
    omega
theorem tb_or (x y : Int) (i : Nat) : tb (Builtin.bitOr x y) i = (tb x i || tb y i) := by
  unfold Builtin.bitOr
  rw [tb_not, tb_and, tb_not, tb_not]
  cases tb x i <;> cases tb y i <;> rfl
theorem xorAnd (x y : Int) : Builtin.bitXor x y = x + y - 2 * Builtin.bitAnd x y := by
  unfold Builtin.bitXor
  rw [bitOr_and]
  omega
theorem xor_half (x y : Int) : Builtin.bitXor x y / 2 = Builtin.bitXor (x / 2) (y / 2) ∧ (Builtin.bitXor x y % 2 = 1 ↔ ¬ (x % 2 = 1 ↔ y % 2 = 1)) := by
  rw [xorAnd, xorAnd]
  have := and_half x y
  rw [← this.1]
  omega
theorem tb_xor (x y : Int) (i : Nat) : tb (Builtin.bitXor x y) i = (tb x i ^^ tb y i) := by
  induction i generalizing x y with
  | zero =>
    rw [tb_zero, tb_zero, tb_zero]
    have := (xor_half x y).2
    by_cases h1 : x % 2 = 1 <;> by_cases h2 : y % 2 = 1 <;> simp [h1, h2] at this ⊢ <;> omega
  | succ i ih => rw [tb_succ, tb_succ, tb_succ, (xor_half x y).1, ih]
theorem tb_ext {x y : Int} (h : ∀ i, tb x i = tb y i) : x = y := by
  have key : ∀ (n : Nat) (x y : Int), x.natAbs ≤ n → y.natAbs ≤ n → (∀ i, tb x i = tb y i) → x = y := by
    intro n
    induction n with
    | zero => intro x y hx hy _; omega
    | succ n ih =>
      intro x y hx hy h
      have h0 := h 0
      rw [tb_zero, tb_zero, decide_eq_decide] at h0
      by_cases hs : (x / 2).natAbs ≤ n ∧ (y / 2).natAbs ≤ n
      · have := ih (x / 2) (y / 2) hs.1 hs.2 (fun i => by rw [← tb_succ, ← tb_succ]; exact h (i + 1))
        omega
      · have hm : ∀ z : Int, tb (-1) z.toNat = true := by
          intro z
          unfold tb
          have : (-1 : Int) / 2 ^ z.toNat = -1 := by
            have hp := ppos z.toNat
            have := Int.neg_one_ediv (2 ^ z.toNat)
            rw [this, Int.sign_eq_one_of_pos hp]
          rw [this]; decide
        -- n = 0: x or y is -1
        have h1 := h 1
        rw [tb_succ, tb_succ, tb_zero, tb_zero, decide_eq_decide] at h1
        omega
  exact key (x.natAbs + y.natAbs) x y (by omega) (by omega) h
theorem tb_shr (x : Int) (k i : Nat) : tb (x / 2 ^ k) i = tb x (k + i) := by
  unfold tb
  rw [padd, Int.ediv_ediv_of_nonneg (Int.le_of_lt (ppos k))]
theorem tb_shl_lt (x : Int) {k i : Nat} (h : i < k) : tb (x * 2 ^ k) i = false := by
  unfold tb
  obtain ⟨d, rfl⟩ : ∃ d, k = i + (d + 1) := ⟨k - i - 1, by omega⟩
  have e : x * 2 ^ (i + (d + 1)) = (2 * (x * 2 ^ d)) * 2 ^ i := by
    rw [padd, psucc, Int.mul_comm (2 ^ i), ← Int.mul_assoc, ← Int.mul_assoc, Int.mul_comm x 2, Int.mul_assoc 2]
  rw [e, Int.mul_ediv_cancel _ (by have := ppos i; omega)]
  simp only [decide_eq_false_iff_not]
  omega
theorem tb_shl_ge (x : Int) {k i : Nat} (h : k ≤ i) : tb (x * 2 ^ k) i = tb x (i - k) := by
  obtain ⟨d, rfl⟩ : ∃ d, i = k + d := ⟨i - k, by omega⟩
  rw [← tb_shr, Int.mul_ediv_cancel _ (by have := ppos k; omega)]
  congr 1; omega
theorem tb_shl (x : Int) (k i : Nat) : tb (x * 2 ^ k) i = (decide (k ≤ i) && tb x (i - k)) := by
  by_cases h : k ≤ i
  · rw [tb_shl_ge x h]; simp [h]
  · rw [tb_shl_lt x (by omega)]; simp [h]
theorem tb_mod (x : Int) (k i : Nat) : tb (x % 2 ^ k) i = (decide (i < k) && tb x i) := by
  by_cases h : i < k
  · obtain ⟨d, rfl⟩ : ∃ d, k = i + (d + 1) := ⟨k - i - 1, by omega⟩
    simp only [h, decide_true, Bool.true_and]
    unfold tb
    have hp := ppos (d + 1)
    have hi := ppos i
    have e : x % 2 ^ (i + (d + 1)) / 2 ^ i = (x / 2 ^ i) % 2 ^ (d + 1) := by
      have h1 := Int.emod_def x (2 ^ (i + (d + 1)))
      have h2 := Int.emod_def (x / 2 ^ i) (2 ^ (d + 1))
      rw [h1, h2, padd, ← Int.ediv_ediv_of_nonneg (Int.le_of_lt hi), Int.mul_assoc, Int.sub_eq_add_neg, ← Int.mul_neg, Int.add_mul_ediv_left _ _ (by omega), Int.sub_eq_add_neg]
    rw [e, psucc]
    have : (x / 2 ^ i) % (2 * 2 ^ d) % 2 = (x / 2 ^ i) % 2 := Int.emod_emod_of_dvd _ ⟨2 ^ d, rfl⟩
    rw [this]
  · simp only [h, decide_false, Bool.false_and]
    unfold tb
    have hk := ppos k
    have h0 := Int.emod_nonneg x (show (2 : Int) ^ k ≠ 0 by omega)
    have h1 := Int.emod_lt_of_pos x hk
    have h2 : (2 : Int) ^ k ≤ 2 ^ i := by
      rw [← pcast, ← pcast]
      have := Nat.pow_le_pow_right (show 0 < 2 by decide) (show k ≤ i by omega)
      omega
    rw [Int.ediv_eq_zero_of_lt h0 (by omega)]
    rfl
theorem tb_0 (i : Nat) : tb 0 i = false := by simp [tb]
theorem tb_pow (k i : Nat) : tb (2 ^ k) i = decide (i = k) := by
  have h := tb_shl 1 k i
  rw [Int.one_mul] at h
  rw [h]
  have : ∀ j, tb 1 j = decide (j = 0) := by
    intro j
    cases j with
    | zero => rfl
    | succ j => rw [tb_succ, show (1 : Int) / 2 = 0 from rfl, tb_0]; simp
  rw [this]
  by_cases h1 : k ≤ i
  · simp [h1]; omega
  · simp [h1]; omega
theorem tb_m1 (i : Nat) : tb (-1) i = true := by
  have := tb_not 0 i
  rw [tb_0] at this
  exact this
theorem tb_ones (k i : Nat) : tb (2 ^ k - 1) i = decide (i < k) := by
  have h := tb_mod (-1) k i
  rw [tb_m1, Bool.and_true] at h
  have hp := ppos k
  have e : (2 : Int) ^ k - 1 = -1 % 2 ^ k := ((Int.ediv_emod_unique (b := 2 ^ k) (a := -1) (q := -1) (r := 2 ^ k - 1) hp).mpr ⟨by omega, by omega, by omega⟩).2.symm
  rw [e, h]
/-- a number below 2 ^ k has no bit from k on -/
theorem tb_lt {x : Int} {k i : Nat} (h0 : 0 ≤ x) (h1 : x < 2 ^ k) (hi : k ≤ i) : tb x i = false := by
  have h := tb_mod x k i
  rw [Int.emod_eq_of_lt h0 h1] at h
  rw [h]
  simp
  intro h2
  omega
theorem lt_of_tb {x : Int} {k : Nat} (h : ∀ i, k ≤ i → tb x i = false) : 0 ≤ x ∧ x < 2 ^ k := by
  have e : x = x % 2 ^ k := by
    apply tb_ext
    intro i
    rw [tb_mod]
    by_cases hi : i < k
    · simp [hi]
    · rw [h i (by omega)]; simp
  have hk := ppos k
  rw [e]
  exact ⟨Int.emod_nonneg _ (by omega), Int.emod_lt_of_pos _ hk⟩
theorem tb_sub_odd (x : Int) (i : Nat) : tb x i = decide (x / 2 ^ i % 2 = 1) := rfl
end Mine
namespace Mine
theorem modStep (n : Int) (j : Nat) : n % 2 ^ (j + 1) = n % 2 ^ j + (n / 2 ^ j % 2) * 2 ^ j := by
  have hp := ppos j
  have h1 := Int.emod_def n (2 ^ j)
  have h2 := Int.emod_def n (2 ^ (j + 1))
  have h3 := Int.emod_def (n / 2 ^ j) 2
  have h4 : n / 2 ^ (j + 1) = n / 2 ^ j / 2 := by
    rw [Int.ediv_ediv_of_nonneg (Int.le_of_lt hp)]; rfl
  rw [h1, h2, h3, h4, psucc, Int.sub_mul, Int.mul_comm (n / 2 ^ j) (2 ^ j)]
  have : 2 * 2 ^ j * (n / 2 ^ j / 2) = 2 * (n / 2 ^ j / 2) * 2 ^ j := by
    rw [Int.mul_assoc, Int.mul_assoc, Int.mul_comm (2 ^ j)]
  omega
theorem divStep (n : Int) (j : Nat) : n / 2 ^ j / 2 = n / 2 ^ (j + 1) := by
  rw [Int.ediv_ediv_of_nonneg (Int.le_of_lt (ppos j))]; rfl
theorem fdiv2 (x : Int) : x.fdiv 2 = x / 2 := Int.fdiv_eq_ediv_of_nonneg _ (by decide)
theorem fmod2 (x : Int) : x.fmod 2 = x % 2 := Int.fmod_eq_emod_of_nonneg _ (by decide)
theorem fdivP (x : Int) (k : Nat) : x.fdiv (2 ^ k) = x / 2 ^ k := Int.fdiv_eq_ediv_of_nonneg _ (Int.le_of_lt (ppos k))
theorem fmodP (x : Int) (k : Nat) : x.fmod (2 ^ k) = x % 2 ^ k := Int.fmod_eq_emod_of_nonneg _ (Int.le_of_lt (ppos k))
/-- 0040: one turn of the opposite digits -/
theorem opp_step (n : Int) (j : Nat) : 2 ^ (j + 1) - 1 - n % 2 ^ (j + 1) = (2 ^ j - 1 - n % 2 ^ j) + (if n / 2 ^ j % 2 = 0 then 2 ^ j else 0) := by
  rw [modStep, psucc]
  rcases Int.emod_two_eq (n / 2 ^ j) with h | h
  · rw [h]; simp; omega
  · rw [h]; simp; omega
theorem and_mask (x : Int) (k : Nat) : Builtin.bitAnd x (2 ^ k - 1) = x % 2 ^ k := by
  apply tb_ext; intro i
  rw [tb_and, tb_ones, tb_mod, Bool.and_comm]
/-- inverted -/
theorem inv_eq {n : Int} {k : Nat} (h0 : 0 ≤ n) (h1 : n < 2 ^ k) : Builtin.bitAnd (Builtin.bitNot n) (2 ^ k - 1) = 2 ^ k - 1 - n := by
  rw [and_mask]
  unfold Builtin.bitNot
  have hp := ppos k
  exact ((Int.ediv_emod_unique (b := 2 ^ k) (a := -n - 1) (q := -1) (r := 2 ^ k - 1 - n) hp).mpr ⟨by omega, by omega, by omega⟩).2
/-- flipping -/
theorem flip_eq (A b L : Int) (k : Nat) (hb : b = 0 ∨ b = 1) (h0 : 0 ≤ L) (h1 : L < 2 ^ k) :
    Builtin.bitXor (A * 2 * 2 ^ k + b * 2 ^ k + L) (2 ^ k) = A * 2 * 2 ^ k + (1 - b) * 2 ^ k + L := by
  have hp := ppos k
  have hd : (A * 2 * 2 ^ k + b * 2 ^ k + L) / 2 ^ k = A * 2 + b := by
    have e : A * 2 * 2 ^ k + b * 2 ^ k + L = L + (A * 2 + b) * 2 ^ k := by rw [Int.add_mul]; omega
    rw [e, Int.add_mul_ediv_right _ _ (by omega), Int.ediv_eq_zero_of_lt h0 h1]; omega
  have ha : Builtin.bitAnd (A * 2 * 2 ^ k + b * 2 ^ k + L) (2 ^ k) = b * 2 ^ k := by
    apply tb_ext; intro i
    rw [tb_and, tb_pow, tb_shl]
    by_cases hi : i = k
    · subst hi
      simp only [decide_true, Bool.and_true, Nat.le_refl, Bool.true_and, Nat.sub_self]
      unfold tb
      rw [hd]
      rcases hb with rfl | rfl
      · simp
      · simp
    · simp only [hi, decide_false, Bool.and_false]
      rcases hb with rfl | rfl
      · rw [tb_0]; simp
      · by_cases h2 : k ≤ i
        · obtain ⟨d, hd2⟩ : ∃ d, i - k = d + 1 := ⟨i - k - 1, by omega⟩
          rw [hd2, tb_succ, show (1 : Int) / 2 = 0 from rfl, tb_0]; simp
        · simp [h2]
  rw [xorAnd, ha, Int.sub_mul]
  omega
end Mine
namespace Mine
/-! parity (0044) -/
/-- the parity of the low k bits -/
def par (x : Int) : Nat → Bool
  | 0 => false
  | k + 1 => par x k ^^ tb x k
theorem par_add (x : Int) (h k : Nat) : par x (h + k) = (par x h ^^ par (x / 2 ^ h) k) := by
  induction k with
  | zero => simp [par]
  | succ k ih => rw [← Nat.add_assoc, par, ih, par, tb_shr, Bool.xor_assoc]
theorem par_xor (x y : Int) (k : Nat) : par (Builtin.bitXor x y) k = (par x k ^^ par y k) := by
  induction k with
  | zero => rfl
  | succ k ih =>
    rw [par, ih, par, par, tb_xor]
    cases par x k <;> cases par y k <;> cases tb x k <;> cases tb y k <;> rfl
theorem par_fold (x : Int) (h : Nat) : par (Builtin.bitXor x (x / 2 ^ h)) h = par x (h + h) := by
  rw [par_xor, par_add]
theorem par_pow (k m : Nat) : par (2 ^ k) m = decide (k < m) := by
  induction m with
  | zero => simp [par]
  | succ m ih =>
    rw [par, ih, tb_pow]
    by_cases h1 : k < m
    · have : m ≠ k := by omega
      have h2 : k < m + 1 := by omega
      simp [h1, this, h2]
    · by_cases h2 : m = k
      · subst h2; simp
      · have : ¬ k < m + 1 := by omega
        simp [h1, h2, this]
/-- the number of ones among the low k bits -/
def ones (x : Int) : Nat → Int
  | 0 => 0
  | k + 1 => ones x k + x / 2 ^ k % 2
theorem ones_par (x : Int) (k : Nat) : ones x k % 2 = if par x k then 1 else 0 := by
  induction k with
  | zero => rfl
  | succ k ih =>
    rw [ones, par]
    unfold tb
    rcases Int.emod_two_eq (x / 2 ^ k) with h | h
    · rw [h]; cases hp : par x k <;> simp [hp] at ih ⊢ <;> omega
    · rw [h]; cases hp : par x k <;> simp [hp] at ih ⊢ <;> omega
theorem and_one (x : Int) : Builtin.bitAnd x 1 = x % 2 := and_mask x 1
def parity (n : Int) : Int :=
  let a := Builtin.bitXor n (n / 2 ^ 32)
  let b := Builtin.bitXor a (a / 2 ^ 16)
  let c := Builtin.bitXor b (b / 2 ^ 8)
  let d := Builtin.bitXor c (c / 2 ^ 4)
  let e := Builtin.bitXor d (d / 2 ^ 2)
  let f := Builtin.bitXor e (e / 2 ^ 1)
  f % 2
theorem mod2_par (x : Int) : x % 2 = if par x 1 then 1 else 0 := by
  simp only [par, Bool.false_xor, tb_zero, decide_eq_true_eq]
  rcases Int.emod_two_eq x with h | h <;> simp [h]
theorem parity_eq (n : Int) : parity n = if par n 64 then 1 else 0 := by
  unfold parity
  rw [mod2_par, par_fold, par_fold, par_fold, par_fold, par_fold, par_fold]
theorem parity_ones (n : Int) : parity n = ones n 64 % 2 := by rw [parity_eq, ones_par]
theorem parity_turn (n : Int) (k : Nat) (h : k < 64) : parity (Builtin.bitXor n (2 ^ k)) = 1 - ones n 64 % 2 := by
  rw [parity_eq, ones_par, par_xor, par_pow]
  simp only [h, decide_true]
  cases par n 64 <;> rfl
/-! power of two (0046) -/
theorem pw_and (k : Nat) (a : Int) : Builtin.bitAnd (2 ^ k * (2 * a + 1)) (2 ^ k * (2 * a + 1) - 1) = 2 ^ k * (2 * a) := by
  induction k with
  | zero =>
    simp only [Int.pow_zero, Int.one_mul]
    have h := and_half (2 * a + 1) (2 * a + 1 - 1)
    have e1 : (2 * a + 1) / 2 = a := by omega
    have e2 : (2 * a + 1 - 1) / 2 = a := by omega
    rw [e1, e2, bitAnd_self] at h
    omega
  | succ k ih =>
    have e : (2 : Int) ^ (k + 1) * (2 * a + 1) = 2 * (2 ^ k * (2 * a + 1)) := by rw [psucc, Int.mul_assoc]
    have e' : (2 : Int) ^ (k + 1) * (2 * a) = 2 * (2 ^ k * (2 * a)) := by rw [psucc, Int.mul_assoc]
    rw [e, e']
    generalize (2 : Int) ^ k * (2 * a + 1) = m at *
    have h := and_half (2 * m) (2 * m - 1)
    have e1 : (2 * m) / 2 = m := by omega
    have e2 : (2 * m - 1) / 2 = m - 1 := by omega
    rw [e1, e2, ih] at h
    omega
theorem low_eq (k : Nat) (a : Int) : Builtin.bitAnd (2 ^ k * (2 * a + 1)) (-(2 ^ k * (2 * a + 1))) = 2 ^ k := by
  induction k with
  | zero =>
    simp only [Int.pow_zero, Int.one_mul]
    have h := and_half (2 * a + 1) (-(2 * a + 1))
    have e1 : (2 * a + 1) / 2 = a := by omega
    have e2 : (-(2 * a + 1)) / 2 = Builtin.bitNot a := by unfold Builtin.bitNot; omega
    rw [e1, e2, bitAnd_not, bitAnd_self] at h
    omega
  | succ k ih =>
    have e : (2 : Int) ^ (k + 1) * (2 * a + 1) = 2 * (2 ^ k * (2 * a + 1)) := by rw [psucc, Int.mul_assoc]
    rw [e, psucc]
    generalize (2 : Int) ^ k * (2 * a + 1) = m at *
    have h := and_half (2 * m) (-(2 * m))
    have e1 : (2 * m) / 2 = m := by omega
    have e2 : (-(2 * m)) / 2 = -m := by omega
    rw [e1, e2, ih] at h
    omega
/-- every positive int is 2 ^ k times an odd one -/
theorem odd_part (n : Int) (h : 0 < n) : ∃ (k : Nat) (a : Int), 0 ≤ a ∧ n = 2 ^ k * (2 * a + 1) := by
  have key : ∀ (m : Nat) (n : Int), 0 < n → n.toNat ≤ m → ∃ (k : Nat) (a : Int), 0 ≤ a ∧ n = 2 ^ k * (2 * a + 1) := by
    intro m
    induction m with
    | zero => intro n h1 h2; omega
    | succ m ih =>
      intro n h1 h2
      rcases Int.emod_two_eq n with h | h
      · obtain ⟨k, a, ha, e⟩ := ih (n / 2) (by omega) (by omega)
        refine ⟨k + 1, a, ha, ?_⟩
        rw [psucc, Int.mul_assoc, ← e]; omega
      · exact ⟨0, n / 2, by omega, by simp only [Int.pow_zero, Int.one_mul]; omega⟩
  exact key n.toNat n h (by omega)
end Mine
namespace Mine
/-! next power of two (0047) -/
def Sm (m x : Int) (w : Nat) : Prop := ∀ i, tb x i = true ↔ ∃ d, d < w ∧ tb m (i + d) = true
theorem sm_one (m : Int) : Sm m m 1 := fun i => ⟨fun h => ⟨0, by omega, h⟩, fun ⟨d, h1, h2⟩ => by
  have : d = 0 := by omega
  subst this; exact h2⟩
theorem sm_step {m x : Int} {w : Nat} (h : Sm m x w) : Sm m (Builtin.bitOr x (x / 2 ^ w)) (w + w) := by
  intro i
  rw [tb_or, tb_shr, Bool.or_eq_true, h i, h (w + i)]
  constructor
  · rintro (⟨d, h1, h2⟩ | ⟨d, h1, h2⟩)
    · exact ⟨d, by omega, h2⟩
    · exact ⟨w + d, by omega, by rw [← h2]; congr 1; omega⟩
  · rintro ⟨d, h1, h2⟩
    by_cases hd : d < w
    · exact .inl ⟨d, hd, h2⟩
    · exact .inr ⟨d - w, by omega, by rw [← h2]; congr 1; omega⟩
def smear (m : Int) : Int :=
  let a := Builtin.bitOr m (m / 2 ^ 1)
  let b := Builtin.bitOr a (a / 2 ^ 2)
  let c := Builtin.bitOr b (b / 2 ^ 4)
  let d := Builtin.bitOr c (c / 2 ^ 8)
  let e := Builtin.bitOr d (d / 2 ^ 16)
  Builtin.bitOr e (e / 2 ^ 32)
theorem smear_sm (m : Int) : Sm m (smear m) 64 :=
  sm_step (sm_step (sm_step (sm_step (sm_step (sm_step (sm_one m))))))
theorem pmono {a b : Nat} (h : a ≤ b) : (2 : Int) ^ a ≤ 2 ^ b := by
  rw [← pcast, ← pcast]
  have := Nat.pow_le_pow_right (show 0 < 2 by decide) h
  omega
theorem plt {a b : Nat} (h : a < b) : (2 : Int) ^ a < 2 ^ b := by
  rw [← pcast, ← pcast]
  have := Nat.pow_lt_pow_right (show 1 < 2 by decide) h
  omega
theorem tb_top {x : Int} {e : Nat} (h0 : 2 ^ e ≤ x) (h1 : x < 2 ^ (e + 1)) : tb x e = true := by
  unfold tb
  have hp := ppos e
  rw [psucc] at h1
  have : x / 2 ^ e = 1 := ((Int.ediv_emod_unique (b := 2 ^ e) (a := x) (q := 1) (r := x - 2 ^ e) hp).mpr ⟨by omega, by omega, by omega⟩).1
  rw [this]; rfl
theorem smear_eq {m : Int} {e : Nat} (he : e < 64) (h0 : 2 ^ e ≤ m) (h1 : m < 2 ^ (e + 1)) : smear m = 2 ^ (e + 1) - 1 := by
  apply tb_ext; intro i
  rw [tb_ones]
  have h := smear_sm m i
  have hp := ppos e
  by_cases hi : i < e + 1
  · rw [h.mpr ⟨e - i, by omega, by rw [show i + (e - i) = e by omega]; exact tb_top h0 h1⟩]
    simp [hi]
  · have : ¬ tb (smear m) i = true := by
      rw [h]
      rintro ⟨d, _, h3⟩
      rw [tb_lt (by omega) h1 (by omega)] at h3
      cases h3
    simp only [hi, decide_false]
    simpa using this
theorem smear_zero : smear 0 = 0 := by decide +kernel
/-- the least power of two, by the loop's last state -/
theorem npt_eq {n want : Int} {c : Nat} (hw : want = 2 ^ c) (hc : c ≤ 63) (h1 : 1 ≤ n) (hlo : c = 0 ∨ 2 ^ (c - 1) < n) (hhi : n ≤ 2 ^ c) : smear (n - 1) + 1 = want := by
  subst hw
  rcases Nat.eq_zero_or_pos c with rfl | hp
  · have : n = 1 := by simp only [Int.pow_zero] at hhi; omega
    subst this; decide +kernel
  · obtain ⟨e, rfl⟩ : ∃ e, c = e + 1 := ⟨c - 1, by omega⟩
    simp only [Nat.add_sub_cancel] at hlo
    rw [smear_eq (e := e) (by omega) (by omega) (by omega)]
    omega
def NptInv (n want : Int) (j : Nat) : Prop := ∃ c : Nat, c ≤ j ∧ want = 2 ^ c ∧ (c = 0 ∨ 2 ^ (c - 1) < n) ∧ (c = j ∨ n ≤ 2 ^ c)
theorem npt_start (n : Int) : NptInv n 1 0 := ⟨0, by omega, rfl, .inl rfl, .inl rfl⟩
theorem npt_go {n want : Int} {j : Nat} (h : NptInv n want j) (hlt : want < n) : NptInv n (want + want) (j + 1) := by
  obtain ⟨c, h1, rfl, h3, h4⟩ := h
  refine ⟨c + 1, by omega, by rw [psucc]; omega, .inr (by simpa using hlt), .inl (by omega)⟩
theorem npt_stay {n want : Int} {j : Nat} (h : NptInv n want j) (hlt : ¬ want < n) : NptInv n want (j + 1) := by
  obtain ⟨c, h1, rfl, h3, h4⟩ := h
  exact ⟨c, by omega, rfl, h3, .inr (by omega)⟩
theorem npt_end {n want : Int} (h : NptInv n want 63) (h1 : 1 ≤ n) (h2 : n ≤ 2 ^ 63) : smear (n - 1) + 1 = want := by
  obtain ⟨c, hc, hw, hlo, hhi⟩ := h
  refine npt_eq hw hc h1 hlo ?_
  rcases hhi with rfl | h
  · exact h2
  · exact h
/-! reversed bits (0048) -/
def rev (n : Int) : Nat → Int
  | 0 => 0
  | j + 1 => 2 * rev n j + n / 2 ^ j % 2
theorem tb_two (a b : Int) (hb : b = 0 ∨ b = 1) (i : Nat) : tb (2 * a + b) i = if i = 0 then decide (b = 1) else tb a (i - 1) := by
  cases i with
  | zero => rw [tb_zero]; simp only [if_true, decide_eq_decide]; omega
  | succ i =>
    rw [tb_succ]
    have : (2 * a + b) / 2 = a := by omega
    simp [this]
theorem tb_rev (n : Int) (j i : Nat) : tb (rev n j) i = (decide (i < j) && tb n (j - 1 - i)) := by
  induction j generalizing i with
  | zero => simp [rev, tb_0]
  | succ j ih =>
    rw [rev, tb_two _ _ (Int.emod_two_eq _)]
    by_cases hi : i = 0
    · subst hi; simp [tb]
    · rw [if_neg hi, ih]
      by_cases h2 : i < j + 1
      · have h3 : i - 1 < j := by omega
        simp only [h2, h3, decide_true, Bool.true_and]
        congr 1; omega
      · have h3 : ¬ i - 1 < j := by omega
        simp [h2, h3]
theorem rev_lt (n : Int) (j : Nat) : 0 ≤ rev n j ∧ rev n j < 2 ^ j := by
  apply lt_of_tb
  intro i hi
  rw [tb_rev]
  have : ¬ i < j := by omega
  simp [this]
theorem rev_rev {n : Int} {w : Nat} (h0 : 0 ≤ n) (h1 : n < 2 ^ w) : rev (rev n w) w = n := by
  apply tb_ext; intro i
  rw [tb_rev, tb_rev]
  by_cases hi : i < w
  · have h2 : w - 1 - i < w := by omega
    simp only [hi, h2, decide_true, Bool.true_and]
    congr 1; omega
  · rw [tb_lt (i := i) h0 h1 (by omega)]; simp [hi]
theorem rev_or (r n : Int) : Builtin.bitOr (r * 2 ^ 1) (Builtin.bitAnd n 1) = 2 * r + n % 2 := by
  rw [and_one, bitOr_and]
  have h := and_half (r * 2 ^ 1) (n % 2)
  have e1 : (r * 2 ^ 1) / 2 = r := by omega
  have e2 : n % 2 / 2 = 0 := by omega
  rw [e1, e2, bitAnd_zero] at h
  omega
theorem rev_want (n : Int) (w j : Nat) (h : j < w) : rev n j * 2 ^ (w - j) + (if n / 2 ^ j % 2 = 1 then 2 ^ (w - 1 - j) else 0) = rev n (j + 1) * 2 ^ (w - (j + 1)) := by
  obtain ⟨d, hd⟩ : ∃ d, w - j = d + 1 := ⟨w - j - 1, by omega⟩
  rw [hd, show w - 1 - j = d by omega, show w - (j + 1) = d by omega, rev, psucc, Int.add_mul]
  have : rev n j * (2 * 2 ^ d) = 2 * rev n j * 2 ^ d := by rw [← Int.mul_assoc, Int.mul_comm _ 2]
  rw [this]
  rcases Int.emod_two_eq (n / 2 ^ j) with h | h <;> rw [h] <;> simp
end Mine
namespace Mine
/-! rotations -/
def rotL (n : Int) (t w : Nat) : Int := Builtin.bitAnd (Builtin.bitOr (n * 2 ^ t) (n / 2 ^ (w - t))) (2 ^ w - 1)
def rotR (n : Int) (t w : Nat) : Int := Builtin.bitAnd (Builtin.bitOr (n / 2 ^ t) (n * 2 ^ (w - t))) (2 ^ w - 1)
theorem tb_rotL {n : Int} {t w : Nat} (h0 : 0 ≤ n) (h1 : n < 2 ^ w) (ht : t < w) (i : Nat) : tb (rotL n t w) i = (decide (i < w) && if t ≤ i then tb n (i - t) else tb n (w - t + i)) := by
  unfold rotL
  rw [tb_and, tb_or, tb_shl, tb_shr, tb_ones, Bool.and_comm]
  by_cases hi : i < w
  · simp only [hi, decide_true, Bool.true_and]
    by_cases h2 : t ≤ i
    · rw [tb_lt (i := w - t + i) h0 h1 (by omega)]
      simp [h2]
    · simp [h2]
  · simp [hi]
theorem tb_rotR {n : Int} {t w : Nat} (h0 : 0 ≤ n) (h1 : n < 2 ^ w) (ht : t < w) (i : Nat) : tb (rotR n t w) i = (decide (i < w) && tb n ((i + t) % w)) := by
  unfold rotR
  rw [tb_and, tb_or, tb_shl, tb_shr, tb_ones, Bool.and_comm]
  by_cases hi : i < w
  · simp only [hi, decide_true, Bool.true_and]
    by_cases h2 : i + t < w
    · have h3 : ¬ w - t ≤ i := by omega
      rw [Nat.mod_eq_of_lt h2]
      simp [h3, Nat.add_comm]
    · have h3 : w - t ≤ i := by omega
      have e : (i + t) % w = i - (w - t) := by
        rw [Nat.mod_eq_sub_mod (by omega), Nat.mod_eq_of_lt (by omega)]; omega
      rw [tb_lt (i := t + i) h0 h1 (by omega), e]
      simp [h3]
  · simp [hi]
theorem rotR_lt {n : Int} {t w : Nat} : 0 ≤ rotR n t w ∧ rotR n t w < 2 ^ w := by
  unfold rotR
  rw [and_mask]
  have hp := ppos w
  exact ⟨Int.emod_nonneg _ (by omega), Int.emod_lt_of_pos _ hp⟩
/-- the sum of the first j digits, each at its new place -/
def rotSum (n : Int) (t w : Nat) : Nat → Int
  | 0 => 0
  | j + 1 => rotSum n t w j + n / 2 ^ j % 2 * 2 ^ ((j + t) % w)
theorem rotSum_lo (n : Int) {t w : Nat} (ht : t < w) (j : Nat) (hj : j ≤ w - t) : rotSum n t w j = (n % 2 ^ j) * 2 ^ t := by
  induction j with
  | zero => simp only [rotSum, Int.pow_zero, Int.emod_one]; omega
  | succ j ih =>
    rw [rotSum, ih (by omega), Nat.mod_eq_of_lt (by omega), modStep, padd, Int.add_mul, Int.mul_assoc]
theorem rotSum_hi (n : Int) {t w : Nat} (ht : t < w) (d : Nat) (hd : d ≤ t) : rotSum n t w (w - t + d) = (n % 2 ^ (w - t)) * 2 ^ t + n / 2 ^ (w - t) % 2 ^ d := by
  induction d with
  | zero => rw [Nat.add_zero, rotSum_lo n ht _ (by omega), Int.pow_zero, Int.emod_one]; omega
  | succ d ih =>
    have e : (w - t + d + t) % w = d := by
      rw [show w - t + d + t = d + w by omega, Nat.add_mod_right, Nat.mod_eq_of_lt (by omega)]
    rw [← Nat.add_assoc, rotSum, ih (by omega), e, modStep (n / 2 ^ (w - t)), padd, Int.ediv_ediv_of_nonneg (Int.le_of_lt (ppos _)), Int.add_assoc]
theorem or_disj {a b : Int} (h : ∀ i, (tb a i && tb b i) = false) : Builtin.bitOr a b = a + b := by
  rw [bitOr_and]
  have : Builtin.bitAnd a b = 0 := by
    apply tb_ext; intro i
    rw [tb_and, tb_0, h i]
  omega
theorem xor_disj {a b : Int} (h : ∀ i, (tb a i && tb b i) = false) : Builtin.bitXor a b = a + b := by
  rw [xorAnd]
  have : Builtin.bitAnd a b = 0 := by
    apply tb_ext; intro i
    rw [tb_and, tb_0, h i]
  omega
theorem rotL_eq {n : Int} {t w : Nat} (h0 : 0 ≤ n) (h1 : n < 2 ^ w) (ht : t < w) : rotL n t w = rotSum n t w w := by
  have e := rotSum_hi n ht t (Nat.le_refl t)
  rw [show w - t + t = w by omega] at e
  rw [e, ← or_disj]
  · apply tb_ext; intro i
    rw [tb_rotL h0 h1 ht, tb_or, tb_shl, tb_mod, tb_mod, tb_shr]
    by_cases h2 : t ≤ i
    · have h3 : ¬ i < t := by omega
      simp only [h2, h3, decide_true, decide_false, if_true, Bool.true_and, Bool.false_and, Bool.or_false]
      by_cases h4 : i < w
      · have : i - t < w - t := by omega
        simp [h4, this]
      · have : ¬ i - t < w - t := by omega
        simp [h4, this]
    · have h3 : i < t := by omega
      have h4 : i < w := by omega
      simp [h2, h3, h4]
  · intro i
    rw [tb_shl, tb_mod, tb_mod]
    by_cases h2 : t ≤ i
    · have h3 : ¬ i < t := by omega
      simp [h3]
    · simp [h2]
/-! gray -/
def gray (n : Int) : Int := Builtin.bitXor n (n / 2)
theorem tb_gray (n : Int) (i : Nat) : tb (gray n) i = (tb n i ^^ tb n (i + 1)) := by
  unfold gray
  rw [tb_xor, ← tb_succ]
theorem tb_compl {n : Int} {m : Nat} (h0 : 0 ≤ n) (h1 : n < 2 ^ m) (i : Nat) : tb (2 ^ m - 1 - n) i = (decide (i < m) && !tb n i) := by
  rw [← inv_eq h0 h1, tb_and, tb_not, tb_ones, Bool.and_comm]
theorem gray_mirror {n : Int} {m : Nat} (h0 : 2 ^ m ≤ n) (h1 : n < 2 ^ (m + 1)) : gray n = 2 ^ m + gray (2 ^ (m + 1) - 1 - n) := by
  have hp := ppos m
  have ht := tb_top h0 h1
  have hb : ∀ i, tb (gray (2 ^ (m + 1) - 1 - n)) i = (decide (i < m) && (tb n i ^^ tb n (i + 1))) := by
    intro i
    rw [tb_gray, tb_compl (by omega) h1, tb_compl (by omega) h1]
    by_cases h2 : i < m
    · have h3 : i < m + 1 := by omega
      have h4 : i + 1 < m + 1 := by omega
      simp [h2, h3]
    · by_cases h3 : i = m
      · subst h3; simp [ht]
      · have h4 : ¬ i < m + 1 := by omega
        simp [h2, h4]
  rw [← xor_disj]
  · apply tb_ext; intro i
    rw [tb_xor, tb_pow, hb, tb_gray]
    by_cases h2 : i < m
    · have h3 : i ≠ m := by omega
      simp [h2, h3]
    · by_cases h3 : i = m
      · subst h3
        rw [ht, tb_lt (i := i + 1) (by omega) h1 (by omega)]; simp
      · rw [tb_lt (i := i) (by omega) h1 (by omega), tb_lt (i := i + 1) (by omega) h1 (by omega)]; simp [h2, h3]
  · intro i
    rw [tb_pow, hb]
    by_cases h2 : i < m
    · have h3 : i ≠ m := by omega
      simp [h3]
    · simp [h2]
theorem gray_nonneg {n : Int} {m : Nat} (h0 : 0 ≤ n) (h1 : n < 2 ^ m) : 0 ≤ gray n ∧ gray n < 2 ^ m := by
  apply lt_of_tb
  intro i hi
  rw [tb_gray, tb_lt h0 h1 hi, tb_lt (i := i + 1) h0 h1 (by omega)]; rfl
/-- neighbours differ in the one due bit -/
theorem gray_next (n : Int) (h : 0 ≤ n) : Builtin.bitXor (gray n) (gray (n + 1)) = Builtin.bitAnd (n + 1) (-(n + 1)) := by
  obtain ⟨k, a, ha, e⟩ := odd_part (n + 1) (by omega)
  rw [e, low_eq]
  have hp := ppos k
  have e1 : n = 2 ^ k - 1 + (2 * a) * 2 ^ k := by
    have : (2 : Int) ^ k * (2 * a + 1) = (2 * a) * 2 ^ k + 2 ^ k := by rw [Int.mul_add, Int.mul_one, Int.mul_comm]
    omega
  have e2 : (2 : Int) ^ k * (2 * a + 1) = (2 * a + 1) * 2 ^ k := Int.mul_comm _ _
  have d1 : ∀ i, (tb (2 ^ k - 1) i && tb ((2 * a) * 2 ^ k) i) = false := by
    intro i
    rw [tb_ones, tb_shl]
    by_cases hi : i < k
    · have : ¬ k ≤ i := by omega
      simp [this]
    · simp [hi]
  have t1 : ∀ i, tb n i = if i < k then true else tb (2 * a) (i - k) := by
    intro i
    rw [e1, ← xor_disj d1, tb_xor, tb_ones, tb_shl]
    by_cases hi : i < k
    · have : ¬ k ≤ i := by omega
      simp [hi, this]
    · have : k ≤ i := by omega
      simp [hi, this]
  have t2 : ∀ i, tb (2 ^ k * (2 * a + 1)) i = if i < k then false else tb (2 * a + 1) (i - k) := by
    intro i
    rw [e2, tb_shl]
    by_cases hi : i < k
    · have : ¬ k ≤ i := by omega
      simp [hi, this]
    · have : k ≤ i := by omega
      simp [hi, this]
  have u0 : ∀ i, tb (2 * a) i = if i = 0 then false else tb a (i - 1) := by
    intro i
    have := tb_two a 0 (.inl rfl) i
    rw [Int.add_zero] at this
    rw [this]; simp
  have u1 : ∀ i, tb (2 * a + 1) i = if i = 0 then true else tb a (i - 1) := by
    intro i
    rw [tb_two a 1 (.inr rfl) i]; simp
  apply tb_ext; intro i
  rw [tb_xor, tb_gray, tb_gray, tb_pow, t1, t1, t2, t2]
  by_cases h1 : i < k
  · have hne : i ≠ k := by omega
    by_cases h2 : i + 1 < k
    · simp [h1, h2, hne]
    · have : i + 1 - k = 0 := by omega
      simp [h1, h2, hne, this, u0, u1]
  · by_cases h2 : i = k
    · subst h2
      have h3 : ¬ i + 1 < i := by omega
      simp [h3, u0, u1]
    · have h3 : ¬ i + 1 < k := by omega
      have h4 : i - k ≠ 0 := by omega
      have h5 : i + 1 - k ≠ 0 := by omega
      simp only [h1, h3, if_false, u0, u1, h4, h5]
      simp [h2]
theorem gray_bit (n : Int) (i : Nat) : gray n / 2 ^ i % 2 = (n / 2 ^ i % 2 + n / 2 ^ (i + 1) % 2) % 2 := by
  have h := tb_gray n i
  unfold tb at h
  rcases Int.emod_two_eq (n / 2 ^ i) with h1 | h1 <;> rcases Int.emod_two_eq (n / 2 ^ (i + 1)) with h2 | h2 <;> rcases Int.emod_two_eq (gray n / 2 ^ i) with h3 | h3 <;> rw [h1, h2, h3] at h <;> rw [h1, h2, h3] <;> first | rfl | (revert h; decide)
/-- gray is injective from 0 on -/
theorem gray_half (n : Int) : gray n / 2 = gray (n / 2) := by
  unfold gray; rw [(xor_half _ _).1]
theorem gray_inj {x y : Int} (hx : 0 ≤ x) (hy : 0 ≤ y) (h : gray x = gray y) : x = y := by
  have key : ∀ (m : Nat) (x y : Int), x.toNat ≤ m → y.toNat ≤ m → 0 ≤ x → 0 ≤ y → gray x = gray y → x = y := by
    intro m
    induction m with
    | zero => intro x y h1 h2 h3 h4 _; omega
    | succ m ih =>
      intro x y h1 h2 h3 h4 h
      have h5 : x / 2 = y / 2 := ih _ _ (by omega) (by omega) (by omega) (by omega) (by rw [← gray_half, ← gray_half, h])
      have h6 := congrArg (fun z => tb z 0) h
      simp only [tb_gray, Nat.zero_add] at h6
      rw [show (1 : Nat) = 0 + 1 from rfl, tb_succ, tb_succ, h5] at h6
      have h7 : tb x 0 = tb y 0 := by
        revert h6; cases tb x 0 <;> cases tb y 0 <;> cases tb (y / 2) 0 <;> simp
      rw [tb_zero, tb_zero, decide_eq_decide] at h7
      omega
  exact key (x.toNat + y.toNat) x y (by omega) (by omega) hx hy h
end Mine
namespace Mine
def grayP (n : Int) : Int := Builtin.bitXor n (n.fdiv (2 ^ Int.toNat 1))
theorem grayP_eq (n : Int) : grayP n = gray n := by
  unfold grayP gray
  rw [fdivP]; rfl
def MirInv (n₀ : Int) (j : Nat) (due n half : Int) : Prop := half = 2 ^ 63 / 2 ^ j ∧ 0 ≤ n ∧ n < 2 ^ (64 - j) ∧ gray n₀ = due + gray n
theorem mi_t0 {x w : Int} (h0 : 0 ≤ w) (h1 : w < 65) : MirInv (x.fmod (2 ^ w.toNat)) ([] : List Int).length 0 (x.fmod (2 ^ w.toNat)) (2 ^ Int.toNat 63) := by
  have hp := ppos w.toNat
  rw [fmodP]
  refine ⟨by simp, Int.emod_nonneg _ (by omega), ?_, by simp⟩
  have h2 := Int.emod_lt_of_pos x hp
  have h3 := pmono (show w.toNat ≤ 64 - ([] : List Int).length by simp; omega)
  omega
theorem half_eq {j : Nat} (hj : j < 64) : (2 : Int) ^ 63 / 2 ^ j = 2 ^ (63 - j) := by
  have e : (2 : Int) ^ 63 = 2 ^ (63 - j) * 2 ^ j := by rw [← padd]; congr 1; omega
  rw [e, Int.mul_ediv_cancel _ (by have := ppos j; omega)]
theorem mi_t1 {n₀ d n h k : Int} {pre : List Int} (hi : MirInv n₀ pre.length d n h) (hl : pre.length < (64 - 0 : Int).toNat) (hc : h ≤ n) : MirInv n₀ (pre ++ [k]).length (d + h) (2 * h - 1 - n) (h.fdiv 2) := by
  obtain ⟨rfl, h1, h2, h3⟩ := hi
  have hj : pre.length < 64 := by omega
  rw [List.length_append, List.length_singleton]
  rw [half_eq hj] at *
  have e : 64 - pre.length = 63 - pre.length + 1 := by omega
  rw [e] at h2
  have h4 := psucc (63 - pre.length)
  refine ⟨?_, by omega, ?_, ?_⟩
  · rw [← half_eq hj, fdiv2, divStep]
  · rw [show 64 - (pre.length + 1) = 63 - pre.length by omega]; omega
  · rw [h3, gray_mirror hc h2, h4]; omega
theorem mi_t2 {n₀ d n h k : Int} {pre : List Int} (hi : MirInv n₀ pre.length d n h) (hl : pre.length < (64 - 0 : Int).toNat) (hc : ¬ h ≤ n) : MirInv n₀ (pre ++ [k]).length d n (h.fdiv 2) := by
  obtain ⟨rfl, h1, h2, h3⟩ := hi
  have hj : pre.length < 64 := by omega
  rw [List.length_append, List.length_singleton]
  refine ⟨by rw [fdiv2, divStep], h1, ?_, h3⟩
  rw [half_eq hj] at hc
  rw [show 64 - (pre.length + 1) = 63 - pre.length by omega]; omega
theorem end1 {n₀ d n h : Int} (hi : MirInv n₀ (rangeKs 0 (64 - 0 : Int).toNat).length d n h) (hne : grayP n₀ ≠ d) : False := by
  rw [rangeKs_length] at hi
  obtain ⟨_, h1, h2, h3⟩ := hi
  have e : n = 0 := by
    have : (2 : Int) ^ (64 - (64 - 0 : Int).toNat) = 1 := by decide
    omega
  subst e
  apply hne
  rw [grayP_eq, h3, show gray 0 = 0 by decide +kernel]; omega
theorem end2a {c : Int} (hne : Builtin.bitXor (grayP (-1 - c)) (grayP (-1 - c + 1)) ≠ Builtin.bitAnd (-1 - c + 1) (-(-1 - c + 1))) (hc : c < 0) : False := by
  rw [grayP_eq, grayP_eq] at hne
  exact hne (gray_next (-1 - c) (by omega))
theorem end2b {c : Int} (hne : Builtin.bitXor (grayP c) (grayP (c + 1)) ≠ Builtin.bitAnd (c + 1) (-(c + 1))) (hc : ¬ c < 0) : False := by
  rw [grayP_eq, grayP_eq] at hne
  exact hne (gray_next c (by omega))
theorem end3 {b i : Int} (hne : ((grayP b).fdiv (2 ^ i.toNat)).fmod 2 ≠ ((b.fdiv (2 ^ i.toNat)).fmod 2 + (b.fdiv (2 ^ (i + 1).toNat)).fmod 2).fmod 2) (hi : 0 ≤ i) : False := by
  apply hne
  have e : (i + 1).toNat = i.toNat + 1 := by omega
  rw [fmod2, fmod2, fmod2, fmod2, fdivP, fdivP, fdivP, grayP_eq, e]
  exact gray_bit b i.toNat
def cell3 (ns : List Int) (i d : Int) : Int := if i < (ns.length : Int) then ns.getD i.toNat 0 else d
theorem cell_t1 {ns : List Int} {i d : Int} (h : i < (ns.length : Int)) : ns.getD i.toNat 0 = cell3 ns i d := by
  unfold cell3; rw [if_pos h]
theorem cell_t2 {ns : List Int} {i d : Int} (h : ¬ i < (ns.length : Int)) : d = cell3 ns i d := by
  unfold cell3; rw [if_neg h]
theorem cell_t3 {ns : List Int} {i d : Int} (h : (ns.length : Int) ≤ i) : d = cell3 ns i d := by
  unfold cell3; rw [if_neg (by omega)]
theorem p200 (c : Int) : 0 ≤ c.fmod 200 := by rw [Int.fmod_eq_emod_of_nonneg _ (by decide)]; omega
theorem l200 (c : Int) : c.fmod 200 < 200 := by rw [Int.fmod_eq_emod_of_nonneg _ (by decide)]; omega
theorem q200 (c : Int) : c.fmod 200 ≤ 1000000 := by have := l200 c; omega
theorem p201 (c : Int) : 0 ≤ c.fmod 200 + 1 := by have := p200 c; omega
theorem q201 (c : Int) : c.fmod 200 + 1 ≤ 1000000 := by have := l200 c; omega
theorem r200 (c : Int) : c.fmod 200 < 9000 := by have := l200 c; omega
theorem r201 (c : Int) : c.fmod 200 + 1 < 9000 := by have := l200 c; omega
theorem pne (k : Nat) : (2 : Int) ^ k ≠ 0 := by have := ppos k; omega
theorem ite_eq {a b : Int} {P Q : Prop} (e : a = b) (h : Q) : if (a != b) = true then P else Q := by
  subst e; simpa using h
theorem g3 (b i : Int) (hi : 0 ≤ i) : ((grayP b).fdiv (2 ^ i.toNat)).fmod 2 = ((b.fdiv (2 ^ i.toNat)).fmod 2 + (b.fdiv (2 ^ (i + 1).toNat)).fmod 2).fmod 2 := by
  have e : (i + 1).toNat = i.toNat + 1 := by omega
  rw [fmod2, fmod2, fmod2, fmod2, fdivP, fdivP, fdivP, grayP_eq, e]
  exact gray_bit b i.toNat
theorem gen_toks {α : Type} {M : Model} {A : Around} {T : Sem α} {Q : α → Shared → Prop} {E : Value → Shared → Prop} {h : Heap} {g d os} {X : Nat} (k : ∀ tk, wpAny M A T Q E ⟨h, g, d, tk, os⟩) : wpAny M A T Q E ⟨h, g, d, X, os⟩ := k X
end Mine
local macro_rules | `(tactic| walk_at "execs nil") => `(tactic| ((with_reducible show wpAny _ _ _ _ _ ⟨_, _, _, _ + 1, _⟩); (with_reducible refine Mine.gen_toks (fun tk9 => ?_))))
local macro_rules | `(tactic| walk_at "execs cons") => `(tactic| ((with_reducible show wpAny _ _ _ _ _ ⟨_, _, _, _ + 1, _⟩); (with_reducible refine Mine.gen_toks (fun tk9 => ?_))))
local macro_rules | `(tactic| walk_at "ite") => `(tactic| ((with_reducible refine Mine.ite_eq ?z ?_); (case z => with_reducible exact Mine.g3 _ _ (Mine.p200 _))))
local macro_rules | `(tactic| walk_at "binaryOp Pow int int") => `(tactic| (k_here; first | ((with_reducible refine pow_int_small (Mine.p200 _) (Mine.q200 _) ?kb3 ?_); (case kb3 => decide)) | ((with_reducible refine pow_int_small (Mine.p201 _) (Mine.q201 _) ?kb3 ?_); (case kb3 => decide))))
local macro_rules | `(tactic| walk_at "binaryOp FloorDiv int int") => `(tactic| (k_here; first | (with_reducible refine floordiv_int (Mine.pne _) ?_ (Or.inl (PyProof.noPylong_of_log2 (kbt_py (Mine.r200 _))))) | (with_reducible refine floordiv_int (Mine.pne _) ?_ (Or.inl (PyProof.noPylong_of_log2 (kbt_py (Mine.r201 _)))))))
set_option maxRecDepth 100000 in
set_option maxHeartbeats 8000000 in
theorem PySem.Challenge.cw_k5_0051_holds : PySem.Challenge.rw_k5_0051.Holds := by
  (k_with "call ref" => k_call_by "to_gray" Mine.grayP)
  (k_with "call ref" => k_call_by "_law_cell" Mine.cell3 (fun (_ : List Int) (i _ : Int) => 0 ≤ i))
  (k_with "tree" => first | ((with_reducible show _ = Mine.grayP _); dsimp only [Mine.grayP]) | (with_reducible exact Mine.cell_t1 (by assumption)) | (with_reducible exact Mine.cell_t2 (by assumption)) | (with_reducible exact Mine.cell_t3 (by assumption)))
  (k_with "pyIter ref" => k_state_given ["n!"] (fun n₀ pre due n half => Mine.MirInv n₀ pre.length due n half) "due" "n" "half")
  (k_with "state" => with_reducible first | exact Mine.mi_t0 (by assumption) (by assumption) | exact Mine.mi_t1 (by assumption) (by assumption) (by assumption) | exact Mine.mi_t2 (by assumption) (by assumption) (by assumption))
  (k_with "end" => first | ((with_reducible show (true == true) = true); exact rfl) | ((with_reducible show (false == true) = true); with_reducible first | exact (Mine.end1 (by assumption) (by assumption)).elim | exact (Mine.end2a (by assumption) (by assumption)).elim | exact (Mine.end2b (by assumption) (by assumption)).elim | exact (Mine.end3 (by assumption) (Mine.p200 _)).elim))
  open_k
