import PyProof.Rows.All
import Wide.All
import OpenK.AllK
import Wide.FinOn
import PySem.Challenge.RW_k5_0015
open PySem PySem.W PyProof.Rows
set_option Elab.async false
namespace Mine
/-- bit i of an int, in two's complement -/
def tb (x : Int) (i : Nat) : Bool := decide (x / 2 ^ i % 2 = 1)

theorem pcast (k : Nat) : ((2 ^ k : Nat) : Int) = (2 : Int) ^ k := by
  induction k with
  | zero => simp
  | succ n ih => rw [Nat.pow_succ, Int.pow_succ, ← ih]; omega
theorem ppos (k : Nat) : (0 : Int) < 2 ^ k := by
  rw [← pcast]; have := Nat.two_pow_pos k; omega
theorem psucc (k : Nat) : (2 : Int) ^ (k + 1) = 2 * 2 ^ k := by rw [Int.pow_succ]; omega
theorem padd (a b : Nat) : (2 : Int) ^ (a + b) = 2 ^ a * 2 ^ b := Int.pow_add ..
theorem half_pow (x : Int) (i : Nat) : x / 2 ^ (i + 1) = x / 2 / 2 ^ i := by
  rw [psucc, Int.ediv_ediv_of_nonneg (by omega : (0 : Int) ≤ 2)]
theorem tb_zero (x : Int) : tb x 0 = decide (x % 2 = 1) := by simp [tb]
theorem tb_succ (x : Int) (i : Nat) : tb x (i + 1) = tb (x / 2) i := by unfold tb; rw [half_pow]
theorem and_half (x y : Int) : Builtin.bitAnd x y / 2 = Builtin.bitAnd (x / 2) (y / 2) ∧ (Builtin.bitAnd x y % 2 = 1 ↔ (x % 2 = 1 ∧ y % 2 = 1)) := by
  have pn : ∀ x y : Int, 0 ≤ x → ¬ 0 ≤ y → Builtin.bitAnd x y / 2 = Builtin.bitAnd (x / 2) (y / 2) ∧ (Builtin.bitAnd x y % 2 = 1 ↔ (x % 2 = 1 ∧ y % 2 = 1)) := by
    intro x y hx hy
    rw [bitAnd_pn hx hy, bitAnd_pn (show 0 ≤ x / 2 by omega) (show ¬ 0 ≤ y / 2 by omega)]
    have e1 : (x / 2).toNat = x.toNat / 2 := by omega
    have e2 : (Builtin.bitNot (y / 2)).toNat = (Builtin.bitNot y).toNat / 2 := by unfold Builtin.bitNot; omega
    have e3 : ((Builtin.bitNot y).toNat : Int) = -y - 1 := by unfold Builtin.bitNot; omega
    rw [e1, e2]
    have h1 : (x.toNat &&& (Builtin.bitNot y).toNat) / 2 = x.toNat / 2 &&& (Builtin.bitNot y).toNat / 2 := Nat.and_div_two
    have h2 := @Nat.and_mod_two_eq_one x.toNat (Builtin.bitNot y).toNat
    rw [← h1]
    omega
  by_cases hx : 0 ≤ x <;> by_cases hy : 0 ≤ y
  · rw [bitAnd_pp hx hy, bitAnd_pp (show 0 ≤ x / 2 by omega) (show 0 ≤ y / 2 by omega)]
    have e1 : (x / 2).toNat = x.toNat / 2 := by omega
    have e2 : (y / 2).toNat = y.toNat / 2 := by omega
    rw [e1, e2]
    have h1 : (x.toNat &&& y.toNat) / 2 = x.toNat / 2 &&& y.toNat / 2 := Nat.and_div_two
    have h2 := @Nat.and_mod_two_eq_one x.toNat y.toNat
    rw [← h1]
    omega
  · exact pn x y hx hy
  · rw [bitAnd_comm x y, bitAnd_comm (x / 2) (y / 2)]
    have := pn y x hy hx
    refine ⟨this.1, this.2.trans ⟨fun h => ⟨h.2, h.1⟩, fun h => ⟨h.2, h.1⟩⟩⟩
  · rw [bitAnd_nn hx hy, bitAnd_nn (show ¬ 0 ≤ x / 2 by omega) (show ¬ 0 ≤ y / 2 by omega)]
    have e2 : (Builtin.bitNot (x / 2)).toNat = (Builtin.bitNot x).toNat / 2 := by unfold Builtin.bitNot; omega
    have f2 : (Builtin.bitNot (y / 2)).toNat = (Builtin.bitNot y).toNat / 2 := by unfold Builtin.bitNot; omega
    have e3 : ((Builtin.bitNot x).toNat : Int) = -x - 1 := by unfold Builtin.bitNot; omega
    have f3 : ((Builtin.bitNot y).toNat : Int) = -y - 1 := by unfold Builtin.bitNot; omega
    rw [e2, f2]
    have h1 : ((Builtin.bitNot x).toNat ||| (Builtin.bitNot y).toNat) / 2 = (Builtin.bitNot x).toNat / 2 ||| (Builtin.bitNot y).toNat / 2 := Nat.or_div_two
    have h2 := @Nat.or_mod_two_eq_one (Builtin.bitNot x).toNat (Builtin.bitNot y).toNat
    rw [← h1]
    generalize (Builtin.bitNot x).toNat ||| (Builtin.bitNot y).toNat = z at *
    generalize (Builtin.bitNot x).toNat = x' at *
    generalize (Builtin.bitNot y).toNat = y' at *
    unfold Builtin.bitNot at *
    omega
theorem tb_and (x y : Int) (i : Nat) : tb (Builtin.bitAnd x y) i = (tb x i && tb y i) := by
  induction i generalizing x y with
  | zero =>
    rw [tb_zero, tb_zero, tb_zero]
    have := (and_half x y).2
    by_cases h : Builtin.bitAnd x y % 2 = 1
    · have h2 := this.mp h; simp [h, h2.1, h2.2]
    · by_cases h1 : x % 2 = 1
      · by_cases h2 : y % 2 = 1
        · exact absurd (this.mpr ⟨h1, h2⟩) h
        · simp [h, h2]
      · simp [h, h1]
  | succ i ih => rw [tb_succ, tb_succ, tb_succ, (and_half x y).1, ih]
theorem tb_not (x : Int) (i : Nat) : tb (Builtin.bitNot x) i = !tb x i := by
  induction i generalizing x with
  | zero =>
    rw [tb_zero, tb_zero]
    unfold Builtin.bitNot
    by_cases h : x % 2 = 1
    · have : ¬ (-x - 1) % 2 = 1 := by omega
      simp [h, this]
    · have : (-x - 1) % 2 = 1 := by omega
      simp [h, this]
  | succ i ih =>
    rw [tb_succ, tb_succ, ← ih]
    congr 1
    unfold Builtin.bitNot
    omega
theorem tb_or (x y : Int) (i : Nat) : tb (Builtin.bitOr x y) i = (tb x i || tb y i) := by
  unfold Builtin.bitOr
  rw [tb_not, tb_and, tb_not, tb_not]
  cases tb x i <;> cases tb y i <;> rfl
theorem xorAnd (x y : Int) : Builtin.bitXor x y = x + y - 2 * Builtin.bitAnd x y := by
  unfold Builtin.bitXor
  rw [bitOr_and]
  omega
theorem xor_half (x y : Int) : Builtin.bitXor x y / 2 = Builtin.bitXor (x / 2) (y / 2) ∧ (Builtin.bitXor x y % 2 = 1 ↔ ¬ (x % 2 = 1 ↔ y % 2 = 1)) := by
  rw [xorAnd, xorAnd]
  have := and_half x y
  rw [← this.1]
  omega
theorem tb_xor (x y : Int) (i : Nat) : tb (Builtin.bitXor x y) i = (tb x i ^^ tb y i) := by
  induction i generalizing x y with
  | zero =>
    rw [tb_zero, tb_zero, tb_zero]
    have := (xor_half x y).2
    by_cases h1 : x % 2 = 1 <;> by_cases h2 : y % 2 = 1 <;> simp [h1, h2] at this ⊢ <;> omega
  | succ i ih => rw [tb_succ, tb_succ, tb_succ, (xor_half x y).1, ih]
theorem tb_ext {x y : Int} (h : ∀ i, tb x i = tb y i) : x = y := by
  have key : ∀ (n : Nat) (x y : Int), x.natAbs ≤ n → y.natAbs ≤ n → (∀ i, tb x i = tb y i) → x = y := by
    intro n
    induction n with
    | zero => intro x y hx hy _; omega
    | succ n ih =>
      intro x y hx hy h
      have h0 := h 0
      rw [tb_zero, tb_zero, decide_eq_decide] at h0
      by_cases hs : (x / 2).natAbs ≤ n ∧ (y / 2).natAbs ≤ n
      · have := ih (x / 2) (y / 2) hs.1 hs.2 (fun i => by rw [← tb_succ, ← tb_succ]; exact h (i + 1))
        omega
      · have hm : ∀ z : Int, tb (-1) z.toNat = true := by
          intro z
          unfold tb
          have : (-1 : Int) / 2 ^ z.toNat = -1 := by
            have hp := ppos z.toNat
            have := Int.neg_one_ediv (2 ^ z.toNat)
            rw [this, Int.sign_eq_one_of_pos hp]
          rw [this]; decide
        -- n = 0: x or y is -1
        have h1 := h 1
        rw [tb_succ, tb_succ, tb_zero, tb_zero, decide_eq_decide] at h1
        omega
  exact key (x.natAbs + y.natAbs) x y (by omega) (by omega) h
theorem tb_shr (x : Int) (k i : Nat) : tb (x / 2 ^ k) i = tb x (k + i) := by
  unfold tb
  rw [padd, Int.ediv_ediv_of_nonneg (Int.le_of_lt (ppos k))]
theorem tb_shl_lt (x : Int) {k i : Nat} (h : i < k) : tb (x * 2 ^ k) i = false := by
  unfold tb
  obtain ⟨d, rfl⟩ : ∃ d, k = i + (d + 1) := ⟨k - i - 1, by omega⟩
  have e : x * 2 ^ (i + (d + 1)) = (2 * (x * 2 ^ d)) * 2 ^ i := by
    rw [padd, psucc, Int.mul_comm (2 ^ i), ← Int.mul_assoc, ← Int.mul_assoc, Int.mul_comm x 2, Int.mul_assoc 2]
  rw [e, Int.mul_ediv_cancel _ (by have := ppos i; omega)]
  simp only [decide_eq_false_iff_not]
  omega
theorem tb_shl_ge (x : Int) {k i : Nat} (h : k ≤ i) : tb (x * 2 ^ k) i = tb x (i - k) := by
  obtain ⟨d, rfl⟩ : ∃ d, i = k + d := ⟨i - k, by omega⟩
  rw [← tb_shr, Int.mul_ediv_cancel _ (by have := ppos k; omega)]
  congr 1; omega
theorem tb_shl (x : Int) (k i : Nat) : tb (x * 2 ^ k) i = (decide (k ≤ i) && tb x (i - k)) := by
  by_cases h : k ≤ i
  · rw [tb_shl_ge x h]; simp [h]
  · rw [tb_shl_lt x (by omega)]; simp [h]
theorem tb_mod (x : Int) (k i : Nat) : tb (x % 2 ^ k) i = (decide (i < k) && tb x i) := by
  by_cases h : i < k
  · obtain ⟨d, rfl⟩ : ∃ d, k = i + (d + 1) := ⟨k - i - 1, by omega⟩
    simp only [h, decide_true, Bool.true_and]
    unfold tb
    have hp := ppos (d + 1)
    have hi := ppos i
    have e : x % 2 ^ (i + (d + 1)) / 2 ^ i = (x / 2 ^ i) % 2 ^ (d + 1) := by
      have h1 := Int.emod_def x (2 ^ (i + (d + 1)))
      have h2 := Int.emod_def (x / 2 ^ i) (2 ^ (d + 1))
      rw [h1, h2, padd, ← Int.ediv_ediv_of_nonneg (Int.le_of_lt hi), Int.mul_assoc, Int.sub_eq_add_neg, ← Int.mul_neg, Int.add_mul_ediv_left _ _ (by omega), Int.sub_eq_add_neg]
    rw [e, psucc]
    have : (x / 2 ^ i) % (2 * 2 ^ d) % 2 = (x / 2 ^ i) % 2 := Int.emod_emod_of_dvd _ ⟨2 ^ d, rfl⟩
    rw [this]
  · simp only [h, decide_false, Bool.false_and]
    unfold tb
    have hk := ppos k
    have h0 := Int.emod_nonneg x (show (2 : Int) ^ k ≠ 0 by omega)
    have h1 := Int.emod_lt_of_pos x hk
    have h2 : (2 : Int) ^ k ≤ 2 ^ i := by
      rw [← pcast, ← pcast]
      have := Nat.pow_le_pow_right (show 0 < 2 by decide) (show k ≤ i by omega)
      omega
    rw [Int.ediv_eq_zero_of_lt h0 (by omega)]
    rfl
theorem tb_0 (i : Nat) : tb 0 i = false := by simp [tb]
theorem tb_pow (k i : Nat) : tb (2 ^ k) i = decide (i = k) := by
  have h := tb_shl 1 k i
  rw [Int.one_mul] at h
  rw [h]
  have : ∀ j, tb 1 j = decide (j = 0) := by
    intro j
    cases j with
    | zero => rfl
    | succ j => rw [tb_succ, show (1 : Int) / 2 = 0 from rfl, tb_0]; simp
  rw [this]
  by_cases h1 : k ≤ i
  · simp [h1]; omega
  · simp [h1]; omega
theorem tb_m1 (i : Nat) : tb (-1) i = true := by
  have := tb_not 0 i
  rw [tb_0] at this
  exact this
theorem tb_ones (k i : Nat) : tb (2 ^ k - 1) i = decide (i < k) := by
  have h := tb_mod (-1) k i
  rw [tb_m1, Bool.and_true] at h
  have hp := ppos k
  have e : (2 : Int) ^ k - 1 = -1 % 2 ^ k := ((Int.ediv_emod_unique (b := 2 ^ k) (a := -1) (q := -1) (r := 2 ^ k - 1) hp).mpr ⟨by omega, by omega, by omega⟩).2.symm
  rw [e, h]
/-- a number below 2 ^ k has no bit from k on -/
theorem tb_lt {x : Int} {k i : Nat} (h0 : 0 ≤ x) (h1 : x < 2 ^ k) (hi : k ≤ i) : tb x i = false := by
  have h := tb_mod x k i
  rw [Int.emod_eq_of_lt h0 h1] at h
  rw [h]
  simp
  intro h2
  omega
theorem lt_of_tb {x : Int} {k : Nat} (h : ∀ i, k ≤ i → tb x i = false) : 0 ≤ x ∧ x < 2 ^ k := by
  have e : x = x % 2 ^ k := by
    apply tb_ext
    intro i
    rw [tb_mod]
    by_cases hi : i < k
    · simp [hi]
    · rw [h i (by omega)]; simp
  have hk := ppos k
  rw [e]
  exact ⟨Int.emod_nonneg _ (by omega), Int.emod_lt_of_pos _ hk⟩
end Mine
namespace Mine
theorem fdivP (x : Int) (k : Nat) : x.fdiv (2 ^ k) = x / 2 ^ k := Int.fdiv_eq_ediv_of_nonneg _ (Int.le_of_lt (ppos k))
theorem and_mask (x : Int) (k : Nat) : Builtin.bitAnd x (2 ^ k - 1) = x % 2 ^ k := by
  apply tb_ext; intro i
  rw [tb_and, tb_ones, tb_mod, Bool.and_comm]
end Mine
namespace Mine
/-! parity (0044) -/
/-! power of two (0046) -/
theorem low_eq (k : Nat) (a : Int) : Builtin.bitAnd (2 ^ k * (2 * a + 1)) (-(2 ^ k * (2 * a + 1))) = 2 ^ k := by
  induction k with
  | zero =>
    simp only [Int.pow_zero, Int.one_mul]
    have h := and_half (2 * a + 1) (-(2 * a + 1))
    have e1 : (2 * a + 1) / 2 = a := by omega
    have e2 : (-(2 * a + 1)) / 2 = Builtin.bitNot a := by unfold Builtin.bitNot; omega
    rw [e1, e2, bitAnd_not, bitAnd_self] at h
    omega
  | succ k ih =>
    have e : (2 : Int) ^ (k + 1) * (2 * a + 1) = 2 * (2 ^ k * (2 * a + 1)) := by rw [psucc, Int.mul_assoc]
    rw [e, psucc]
    generalize (2 : Int) ^ k * (2 * a + 1) = m at *
    have h := and_half (2 * m) (-(2 * m))
    have e1 : (2 * m) / 2 = m := by omega
    have e2 : (-(2 * m)) / 2 = -m := by omega
    rw [e1, e2, ih] at h
    omega
/-- every positive int is 2 ^ k times an odd one -/
theorem odd_part (n : Int) (h : 0 < n) : ∃ (k : Nat) (a : Int), 0 ≤ a ∧ n = 2 ^ k * (2 * a + 1) := by
  have key : ∀ (m : Nat) (n : Int), 0 < n → n.toNat ≤ m → ∃ (k : Nat) (a : Int), 0 ≤ a ∧ n = 2 ^ k * (2 * a + 1) := by
    intro m
    induction m with
    | zero => intro n h1 h2; omega
    | succ m ih =>
      intro n h1 h2
      rcases Int.emod_two_eq n with h | h
      · obtain ⟨k, a, ha, e⟩ := ih (n / 2) (by omega) (by omega)
        refine ⟨k + 1, a, ha, ?_⟩
        rw [psucc, Int.mul_assoc, ← e]; omega
      · exact ⟨0, n / 2, by omega, by simp only [Int.pow_zero, Int.one_mul]; omega⟩
  exact key n.toNat n h (by omega)
end Mine
namespace Mine
/-! next power of two (0047) -/
theorem pmono {a b : Nat} (h : a ≤ b) : (2 : Int) ^ a ≤ 2 ^ b := by
  rw [← pcast, ← pcast]
  have := Nat.pow_le_pow_right (show 0 < 2 by decide) h
  omega
/-! reversed bits (0048) -/
theorem tb_two (a b : Int) (hb : b = 0 ∨ b = 1) (i : Nat) : tb (2 * a + b) i = if i = 0 then decide (b = 1) else tb a (i - 1) := by
  cases i with
  | zero => rw [tb_zero]; simp only [if_true, decide_eq_decide]; omega
  | succ i =>
    rw [tb_succ]
    have : (2 * a + b) / 2 = a := by omega
    simp [this]
end Mine
namespace Mine
/-! rotations -/
/-! gray -/
end Mine
namespace Mine
/-! from_gray (0052): the place in the mirrored list -/
/-! xorshift (0053, 0056, 0085, 0086) -/
end Mine
namespace Mine
/-! next with as many ones (0066) -/
/-! power modulo (0098) -/
end Mine
namespace Mine
/-! texts of digits -/
def DS (l : List Char) : Str := ⟨(l.map Char.toNat).toArray⟩
theorem DS_append (a b : List Char) : DS (a ++ b) = DS a ++ DS b := by
  apply Str.ext'
  rw [Str.cps_append]
  simp [DS]
theorem ofString_DS (l : List Char) : Str.ofString (String.ofList l) = DS l := by
  rw [Str.ofString_eq_toList]; simp [DS]
/-- the digits of n; none for 0 -/
def DG (b n : Nat) : Str := if n = 0 then Str.empty else DS (Nat.toDigits b n)
theorem DG_step {b n d : Nat} (hb : 1 < b) (hd : d < b) (hp : 0 < b * n + d) : DG b (b * n + d) = DG b n ++ DS [Nat.digitChar d] := by
  unfold DG
  rw [if_neg (by omega)]
  rcases Nat.eq_zero_or_pos n with rfl | hn
  · rw [if_pos rfl, Str.empty_append, Nat.mul_zero, Nat.zero_add, Nat.toDigits_of_lt_base hd]
  · rw [if_neg (by omega), ← DS_append, ← Nat.toDigits_append_toDigits hb hn hd, Nat.toDigits_of_lt_base hd]
theorem DG_div {b n : Nat} (hb : 1 < b) (hn : 0 < n) : DG b n = DG b (n / b) ++ DS [Nat.digitChar (n % b)] := by
  have h := DG_step (n := n / b) (d := n % b) hb (Nat.mod_lt _ (by omega)) (by rw [Nat.div_add_mod]; exact hn)
  rw [Nat.div_add_mod] at h
  exact h
theorem DG_len {b n k : Nat} (hb : 1 < b) (h : n < b ^ k) : (DG b n).length ≤ k := by
  unfold DG
  split
  · exact Nat.zero_le _
  · next h0 =>
    show ((Nat.toDigits b n).map Char.toNat).toArray.size ≤ k
    rw [List.size_toArray, List.length_map]
    have hk : 0 < k := by
      rcases Nat.eq_zero_or_pos k with rfl | h'
      · rw [Nat.pow_zero] at h; omega
      · exact h'
    exact (Nat.length_toDigits_le_iff hb hk).mpr h
theorem sign16 : ∀ d : Nat, d < 16 → Txt.item (Str.ofString "0123456789abcdef") (d : Int) = DS [Nat.digitChar d] := by decide +kernel
end Mine
namespace Mine
/-! subsets (0065) -/
end Mine
namespace Mine
/-! lists of 32 bits (0053) -/
/-! a board shifted (0094) -/
/-- the squares taken off so far, and the board that is left -/
def SqInv (P b : Int) (l : List Int) : Prop := 0 ≤ b ∧ b < 2 ^ 64 ∧ (∀ s ∈ l, 0 ≤ s ∧ s < 64) ∧ ∀ i : Nat, tb P i = (tb b i || decide ((i : Int) ∈ l))
theorem sq_start {P : Int} (h0 : 0 ≤ P) (h1 : P < 2 ^ 64) : SqInv P P [] := ⟨h0, h1, fun _ h => (nomatch h), fun i => by simp⟩
theorem bits_pow (k : Nat) : Builtin.Int.intBits (2 ^ k) = k + 1 := by
  unfold Builtin.Int.intBits
  have hp := ppos k
  rw [if_neg (by simp; omega)]
  have : ((2 : Int) ^ k).natAbs = 2 ^ k := by
    have := pcast k
    omega
  rw [this, Nat.log2_two_pow]
theorem tb_odd {n : Int} {k : Nat} {a : Int} (e : n = 2 ^ k * (2 * a + 1)) (i : Nat) : tb n i = (decide (k ≤ i) && if i - k = 0 then true else tb a (i - k - 1)) := by
  rw [e, Int.mul_comm, tb_shl, tb_two a 1 (.inr rfl)]; simp
theorem sq_step {P b : Int} {l : List Int} (h : SqInv P b l) (hb : 0 < b) :
    SqInv P (Builtin.bitXor b (Builtin.bitAnd b (-b))) (l ++ [(Builtin.Int.intBits (Builtin.bitAnd b (-b)) : Int) - 1]) ∧ Builtin.bitXor b (Builtin.bitAnd b (-b)) < b := by
  obtain ⟨h0, h1, h2, h3⟩ := h
  obtain ⟨k, a, ha, e⟩ := odd_part b hb
  have hl : Builtin.bitAnd b (-b) = 2 ^ k := by rw [e, low_eq]
  have hk : k < 64 := by
    by_cases hk : k < 64
    · exact hk
    · have h4 := pmono (show 64 ≤ k by omega)
      have h5 : (2 : Int) ^ k * 1 ≤ 2 ^ k * (2 * a + 1) := Int.mul_le_mul_of_nonneg_left (by omega) (Int.le_of_lt (ppos k))
      omega
  have hx : Builtin.bitXor b (2 ^ k) = b - 2 ^ k := by
    rw [xorAnd]
    have : Builtin.bitAnd b (2 ^ k) = 2 ^ k := by
      apply tb_ext; intro i
      rw [tb_and, tb_pow, tb_odd e]
      by_cases hi : i = k
      · subst hi; simp
      · simp [hi]
    omega
  have hbit : ((Builtin.Int.intBits (2 ^ k) : Nat) : Int) - 1 = (k : Int) := by rw [bits_pow]; omega
  have hp := ppos k
  have hge : 2 ^ k ≤ b := by
    have h5 : (2 : Int) ^ k * 1 ≤ 2 ^ k * (2 * a + 1) := Int.mul_le_mul_of_nonneg_left (by omega) (Int.le_of_lt (ppos k))
    omega
  rw [hl, hbit]
  refine ⟨⟨by rw [hx]; omega, by rw [hx]; omega, ?_, ?_⟩, by rw [hx]; omega⟩
  · intro s hs
    rcases List.mem_append.mp hs with hs | hs
    · exact h2 s hs
    · rw [List.mem_singleton.mp hs]; omega
  · intro i
    rw [h3 i, tb_xor, tb_pow]
    by_cases hi : i = k
    · subst hi
      rw [tb_odd e]; simp
    · have : ¬ (i : Int) = (k : Int) := by omega
      simp [hi, this]
end Mine
namespace Mine
/-! 0094: the moved board as a number -/
/-- the while of squares_of, with the length bounded -/
def SqI (P b : Int) (l : List Int) : Prop := SqInv P b l ∧ l.length ≤ 64 ∧ ∀ i : Nat, i < l.length → tb b i = false
theorem sqi_start {P : Int} (h0 : 0 ≤ P) (h1 : P < 2 ^ 64) : SqI P P [] := ⟨sq_start h0 h1, by decide, fun i h => absurd h (by simp)⟩
theorem sqi_step {P b : Int} {l : List Int} (h : SqI P b l) (hb : 0 < b) :
    SqI P (Builtin.bitXor b (Builtin.bitAnd b (-b))) (l ++ [(Builtin.Int.intBits (Builtin.bitAnd b (-b)) : Int) - 1]) := by
  obtain ⟨h1, h2, h3⟩ := h
  refine ⟨(sq_step h1 hb).1, ?_⟩
  obtain ⟨k, a, ha, e⟩ := odd_part b hb
  have hl : Builtin.bitAnd b (-b) = 2 ^ k := by rw [e, low_eq]
  have hk : l.length ≤ k := by
    by_cases hk : l.length ≤ k
    · exact hk
    · have := h3 k (by omega)
      rw [tb_odd e] at this
      simp at this
  have hk2 : k < 64 := by
    by_cases hk : k < 64
    · exact hk
    · have h4 := tb_lt h1.1 h1.2.1 (show 64 ≤ k by omega)
      rw [tb_odd e] at h4
      simp at h4
  rw [List.length_append, List.length_singleton]
  refine ⟨by omega, fun i hi => ?_⟩
  rw [hl, tb_xor, tb_pow, tb_odd e]
  by_cases h5 : i = k
  · subst h5; simp
  · have : ¬ k ≤ i := by omega
    simp [h5, this]
theorem sqi_less {P b : Int} {l : List Int} (h : SqI P b l) (hb : 0 < b) : (Builtin.bitXor b (Builtin.bitAnd b (-b))).toNat < b.toNat := by
  have := (sq_step h.1 hb).2
  have := (sq_step h.1 hb).1.1
  omega
end Mine
namespace Mine
/-! number_text (0103) -/
theorem DS_pos {b n : Nat} (h : 0 < n) : DS (Nat.toDigits b n) = DG b n := by unfold DG; rw [if_neg (by omega)]
end Mine
namespace Mine
/-! the squares of a board, rising (0015) -/
def sqs (B : Int) : List Int := ((List.range 64).filter (fun i => tb B i)).map (fun i : Nat => (i : Int))
theorem filter_first {p q : Nat → Bool} {k : Nat} (hk : p k = true) (hlo : ∀ i, i < k → p i = false) (hq : ∀ i, q i = (p i && decide (i ≠ k))) :
    ∀ n, k < n → (List.range n).filter p = k :: (List.range n).filter q := by
  have hp0 : ∀ n, n ≤ k → (List.range n).filter p = [] ∧ (List.range n).filter q = [] := by
    intro n hn
    constructor
    · rw [List.filter_eq_nil_iff]; intro i hi; rw [hlo i (by have := List.mem_range.mp hi; omega)]; decide
    · rw [List.filter_eq_nil_iff]; intro i hi; rw [hq, hlo i (by have := List.mem_range.mp hi; omega)]; simp
  intro n
  induction n with
  | zero => intro h; omega
  | succ n ih =>
    intro h
    rw [List.range_succ, List.filter_append, List.filter_append]
    by_cases hn : n = k
    · subst hn
      rw [(hp0 n (Nat.le_refl _)).1, (hp0 n (Nat.le_refl _)).2]
      simp [hk, hq]
    · rw [ih (by omega)]
      have : q n = p n := by rw [hq]; simp [hn]
      simp [List.filter_cons, this]
theorem sqs_zero : sqs 0 = [] := by
  unfold sqs
  rw [List.map_eq_nil_iff, List.filter_eq_nil_iff]
  intro i _; rw [tb_0]; decide
def SqO (P b : Int) (l : List Int) : Prop := SqI P b l ∧ l ++ sqs b = sqs P
theorem sqo_start {P : Int} (h0 : 0 ≤ P) (h1 : P < 2 ^ 64) : SqO P P [] := ⟨sqi_start h0 h1, rfl⟩
theorem sqo_step {P b : Int} {l : List Int} (h : SqO P b l) (hb : 0 < b) :
    SqO P (Builtin.bitXor b (Builtin.bitAnd b (-b))) (l ++ [(Builtin.Int.intBits (Builtin.bitAnd b (-b)) : Int) - 1]) := by
  refine ⟨sqi_step h.1 hb, ?_⟩
  obtain ⟨k, a, ha, e⟩ := odd_part b hb
  have hl : Builtin.bitAnd b (-b) = 2 ^ k := by rw [e, low_eq]
  have hk2 : k < 64 := by
    by_cases hk : k < 64
    · exact hk
    · have h4 := tb_lt h.1.1.1 h.1.1.2.1 (show 64 ≤ k by omega)
      rw [tb_odd e] at h4
      simp at h4
  have hbit : ((Builtin.Int.intBits (2 ^ k) : Nat) : Int) - 1 = (k : Int) := by rw [bits_pow]; omega
  have key : sqs b = (k : Int) :: sqs (Builtin.bitXor b (2 ^ k)) := by
    unfold sqs
    have hlo : ∀ i, i < k → tb b i = false := by
      intro i hi
      have : ¬ k ≤ i := by omega
      rw [tb_odd e]; simp [this]
    rw [filter_first (p := fun i => tb b i) (q := fun i => tb (Builtin.bitXor b (2 ^ k)) i) (k := k) (by rw [tb_odd e]; simp) hlo (fun i => ?_) 64 hk2]
    · rfl
    · rw [tb_xor, tb_pow]
      by_cases hi : i = k
      · subst hi; rw [tb_odd e]; simp
      · simp [hi]
  rw [hl, hbit, List.append_assoc, List.singleton_append, ← key]
  exact h.2
theorem sqo_end {P b : Int} {l : List Int} (h : SqO P b l) (hb : ¬ 0 < b) : l = sqs P := by
  have : b = 0 := by have := h.1.1.1; omega
  subst this
  have := h.2
  rw [sqs_zero, List.append_nil] at this
  exact this
theorem sqs_nil {P : Int} (h0 : 0 ≤ P) (h1 : P < 2 ^ 64) : sqs P = [] ↔ P = 0 := by
  constructor
  · intro h
    apply tb_ext
    intro i
    rw [tb_0]
    by_cases hi : i < 64
    · unfold sqs at h
      rw [List.map_eq_nil_iff, List.filter_eq_nil_iff] at h
      have := h i (List.mem_range.mpr hi)
      simpa using this
    · exact tb_lt h0 h1 (by omega)
  · rintro rfl; exact sqs_zero
theorem sqs_len (P : Int) : (sqs P).length ≤ 64 := by
  unfold sqs
  rw [List.length_map]
  have := List.length_filter_le (fun i => tb P i) (List.range 64)
  simpa using this
end Mine
set_option maxRecDepth 100000
set_option Elab.async false
namespace Mine
 open PySem
theorem entry_yf : entryFor table "proto.yield_from" = some Builtin.«proto.yield_from» := entryFor_of_fast (by kernel_rfl)
theorem plain_yf : plainId "proto.yield_from" = true := by decide +kernel
theorem li_no_close : typeLookup (.type "list_iterator") "close" = pure none := by rw [typeLookup_type, builtinLookup_eq_fast]; kernel_rfl
section
variable {prog : Program} {w : World} {A : Around} {E : Value → Shared → Prop} {s : Shared}
theorem cs_item {it l : Addr} {i : Nat} {items : Array Value} {x : Value} {Q : Option Value → Shared → Prop} (hit : s.heap.IsListIter it l i)
    (hl : s.heap.IsList l items) (hx : items[i]? = some x)
    (hQ : ∀ h', h'.IsListIter it l (i + 1) → Heap.SameBut it s.heap h' → Q (some x) { s with heap := h' }) :
    wpAny (model prog w) A (callSpecial? (.ref it) (Str.ofString "__next__")) Q E s := by
  obtain ⟨o, ho, hc, hd⟩ := id hit
  obtain ⟨ol, hol, _, nl, hdl⟩ := hl
  refine wpAny_callSpecial?_slot (name := Str.ofString "__next__") hit.typeIs slot_listiter_next
    (wpAny_call_entry slot_listiter_next hit.typeIs entry_listiter_next ?_ (args_listiter_next _))
  show wpAny _ _ (field (.ref it) 0 >>= _) _ _ s
  refine wpAny_bind (wpAny_field ho hd (x := .ref l) rfl ?_)
  show wpAny _ _ (if (Value.ref l == Value.none) = true then _ else _) _ _ s
  rw [if_neg (show ¬ ((Value.ref l == Value.none) = true) from Bool.false_ne_true)]
  show wpAny _ _ (field (.ref it) 1 >>= _) _ _ s
  refine wpAny_bind (wpAny_field ho hd (x := .int i 0) rfl ?_)
  show wpAny _ _ (seqItems? (.ref l) >>= _) _ _ s
  refine wpAny_bind (wpAny_seqItems hol hdl ?_)
  simp only [Int.toNat_natCast, hx]
  refine wpAny_bind (wpAny_setField ho hd (by simp) (wpAny_pure ⟨x, rfl, hQ _ ?_ (Heap.SameBut.update ..)⟩))
  exact ⟨_, Heap.get?_update_self _ ho (Obj.isFreed_of_fields (Obj.data_mapFields hd _)), (Obj.cls_mapFields ..).trans hc, by
    rw [Obj.data_mapFields hd]; simp [rawInt]⟩
theorem cs_end {it l : Addr} {i : Nat} {items : Array Value} {Q : Option Value → Shared → Prop} (hh : A.handled = none)
    (hit : s.heap.IsListIter it l i) (hl : s.heap.IsList l items) (hx : items[i]? = none)
    (hE : ∀ h' a o, Heap.ExtBut it s.heap h' → h'.get? a = some o → o.cls = .type "StopIteration" → (∃ vs, o.data = .fields vs ∧ vs[5]? = some .none) → E (.ref a) { s with heap := h' }) : wpAny (model prog w) A (callSpecial? (.ref it) (Str.ofString "__next__")) Q E s := by
  obtain ⟨o, ho, hc, hd⟩ := id hit
  obtain ⟨ol, hol, _, nl, hdl⟩ := hl
  refine wpAny_callSpecial?_slot (name := Str.ofString "__next__") hit.typeIs slot_listiter_next
    (wpAny_call_entry slot_listiter_next hit.typeIs entry_listiter_next ?_ (args_listiter_next _))
  show wpAny _ _ (field (.ref it) 0 >>= _) _ _ s
  refine wpAny_bind (wpAny_field ho hd (x := .ref l) rfl ?_)
  show wpAny _ _ (if (Value.ref l == Value.none) = true then _ else _) _ _ s
  rw [if_neg (show ¬ ((Value.ref l == Value.none) = true) from Bool.false_ne_true)]
  show wpAny _ _ (field (.ref it) 1 >>= _) _ _ s
  refine wpAny_bind (wpAny_field ho hd (x := .int i 0) rfl ?_)
  show wpAny _ _ (seqItems? (.ref l) >>= _) _ _ s
  refine wpAny_bind (wpAny_seqItems hol hdl ?_)
  simp only [Int.toNat_natCast, hx]
  refine wpAny_bind (wpAny_rule (wpAny_bind (wpAny_setField ho hd (by simp) ?_)))
  show wpAny _ _ (newExc (.type "StopIteration") [] >>= _) _ _ _
  refine wpAny_bind ?_
  simp only [newExc, newTuple]
  refine wpAny_bind (wpAny_newObj_type ?_ (by size_fits))
  refine wpAny_bind (m := firstArgMember _ _) (wpAny_of_eq (a := Value.none) (by first | rfl | (simp only [firstArgMember]; rfl)) ?_)
  refine wpAny_newObj_type ?_ (by size_fits)
  simp only [raiseNew]
  refine wpAny_bind (wpAny_handled ?_)
  rw [show A.in1.handled = none from hh]
  refine wpAny_bind (wpAny_pure (wpAny_throw ?_))
  exact hE _ _ _ (((Heap.SameBut.update ..).extBut.push _).push _) (Heap.get?_push_size _ rfl) rfl ⟨_, rfl, rfl⟩
end
abbrev yfC (it : Addr) : Code := .builtin "proto.yield_from" ⟨[.ref it, .bool false, .none], []⟩
section
variable {prog : Program} {w : World} {A : Around} {R : GenEnd} {Y : Protocol} {n : Nat} {s₀ : Shared} {fs : List Frame} {s : Shared}
theorem den_b {id : String} {args : Args} {b : Builtin} (hb : entryFor table id = some b) : (model prog w).den (.builtin id args) = b args := by
  show (match entryFor table id with | some b => b args | none => unsupported ((withoutEnding? id "#data").getD id)) = _
  rw [hb]
theorem den_yf (it : Addr) : (model prog w).den (yfC it) = Builtin.«proto.yield_from» ⟨[.ref it, .bool false, .none], []⟩ := den_b entry_yf
theorem slept {E : Value → Shared → Prop} {it l : Addr} {i : Nat} {b : Bool} {Q : Unit → Shared → Prop} (hit : s.heap.IsListIter it l i) (h : Q () s) : wpAny (model prog w) A (Builtin.Generator.sleptOver (.ref it) b) Q E s := by
  obtain ⟨o, ho, hc, hd⟩ := hit
  unfold Builtin.Generator.sleptOver
  refine wpAny_bind (wpAny_load ho ?_)
  have e : (o.cls != .type "generator") = true := by rw [hc]; decide
  simp only [e, if_true]
  exact wpAny_pure h
theorem seg_yf_item {it l : Addr} {i : Nat} {items : Array Value} {x : Value} (hfs : splitAtGen fs = none) (hfg : fs.any Frame.guarded = false)
    (hit : s.heap.IsListIter it l i) (hl : s.heap.IsList l items) (hx : items[i]? = some x)
    (h : ∀ h', h'.IsListIter it l (i + 1) → Heap.SameBut it s.heap h' → ∀ kap : Resume → Shared → Prop,
      (∀ s'', s''.heap.IsListIter it l (i + 1) → Seg (model prog w) A R Y n s'' (yfC it) ((model prog w).den (yfC it)) fs s'' → kap (.send .none) s'') → Y n s₀ x { s with heap := h' } kap) :
    Seg (model prog w) A R Y (n + 1) s₀ (yfC it) ((model prog w).den (yfC it)) fs s := by
  rw [den_yf]
  unfold Builtin.«proto.yield_from»
  dsimp only
  refine seg_bind (wpAny_pure ?_)
  refine seg_bind (wpAny_attempt (wpAny_holding ?_))
  rw [if_neg Bool.false_ne_true, if_pos (show (Value.none == Value.none) = true from rfl)]
  refine wpAny_bind (wpAny_rule ?_)
  refine wpAny_bind (cs_item hit hl hx fun h' hit' hs' => ?_)
  refine wpAny_pure ?_
  dsimp only
  refine seg_bind (wpAny_typeOf (hit'.typeIs (s := { s with heap := h' })) ?_)
  dsimp only
  refine seg_bind (wpAny_of_eq li_no_close ?_)
  refine seg_bind (wpAny_pure ?_)
  refine seg_bind (slept (s := { s with heap := h' }) hit' ?_)
  show Seg _ A R Y (n + 1) s₀ _ (.yield x false [] _) fs _
  refine seg_yield hfs rfl hfg ?_
  refine h h' hit' hs' _ fun s'' hit'' hg => ?_
  refine seg_bind (wpAny_pure ?_)
  refine seg_bind (slept hit'' ?_)
  show Seg _ A R Y n s'' _ (.pure (.again _)) fs s''
  exact seg_again (plainId_quiet plain_yf _) hg
theorem seg_yf_end {it l : Addr} {i : Nat} {items : Array Value} {k : Result → Sem Fin} {hk : Option Value} {g : Bool} {lv : List Value} {c : Code} {p : Pos} {kp : List Value} (hh : (A.over (yfC it) (.ret k hk g lv c p kp :: fs)).handled = none)
    (hit : s.heap.IsListIter it l i) (hl : s.heap.IsList l items) (hx : items[i]? = none)
    (h : ∀ h', Heap.ExtBut it s.heap h' → Seg (model prog w) A R Y n s₀ c (k (.ok (.ret .none))) fs { s with heap := h' }) :
    Seg (model prog w) A R Y n s₀ (yfC it) ((model prog w).den (yfC it)) (.ret k hk g lv c p kp :: fs) s := by
  rw [den_yf]
  unfold Builtin.«proto.yield_from»
  dsimp only
  refine seg_bind (wpAny_pure ?_)
  refine seg_bind (wpAny_attempt (wpAny_holding ?_))
  rw [if_neg Bool.false_ne_true, if_pos (show (Value.none == Value.none) = true from rfl)]
  refine wpAny_bind (wpAny_rule ?_)
  refine wpAny_bind (cs_end hh hit hl hx fun h' a o hs' ho hc hd => ?_)
  dsimp only
  obtain ⟨vs, hd, h5⟩ := hd
  have hT : ({ s with heap := h' } : Shared).TypeIs (.ref a) "StopIteration" := ⟨o, ho, hc⟩
  refine seg_bind ?_
  unfold Builtin.Generator.endsTheTurnAsAValue Builtin.Generator.isStopAndMetaclass
  refine wpAny_bind (wpAny_bind (wpAny_typeOf hT ?_))
  dsimp only
  refine wpAny_bind (wpAny_of_eq isSubtype_stop ?_)
  refine wpAny_bind (wpAny_of_eq (a := Value.type "type") rfl ?_)
  refine wpAny_pure ?_
  dsimp only
  rw [if_neg Bool.false_ne_true]
  refine wpAny_pure ?_
  rw [if_pos rfl, if_neg Bool.false_ne_true]
  refine seg_bind (wpAny_rule ?_)
  refine seg_bind (wpAny_field (s := { s with heap := h' }) ho hd h5 ?_)
  exact seg_leaf (.ok (.ret .none)) (h h' hs')
end

def Bare (g : Nat) (gs : Array GenState) : Prop := g < gs.size ∧ ∀ x ∈ gs, x.bare = true
theorem Bare.set {g k : Nat} {gs : Array GenState} {x : GenState} (h : Bare g gs) (hx : x.bare = true) : Bare g (gs.setIfInBounds k x) := by
  refine ⟨by simpa using h.1, fun y hy => ?_⟩
  rcases Array.mem_or_eq_of_mem_setIfInBounds hy with q | q
  · exact h.2 y q
  · rw [q]; exact hx
abbrev lstO (acc : List Value) (c : Nat) : Obj := { cls := .type "list", dict := none, data := .seq acc.toArray c, slots := #[] }
def YS (g : Nat) (a S : Addr) : Protocol := fun _ _ v s kap => Bare g s.gens ∧ s.heap.IsGen a g ∧ s.heap.NoLimit ∧ ∃ acc c, s.heap.get? S = some (lstO acc c) ∧ acc.length < sizeLine ∧
  ∀ h'' c' tk gens'', Heap.SameBut S s.heap h'' → h''.get? S = some (lstO (acc ++ [v]) c') → Bare g gens'' → kap (.send .none) { s with heap := h'', gens := gens'', toks := tk }
section
variable {prog : Program} {w : World} {A : Around} {R : GenEnd} {n : Nat} {fs : List Frame}
theorem seg_yf_all {gn : Nat} {S a it l : Addr} {items : List Value} {k : Result → Sem Fin} {hk : Option Value} {g : Bool} {lv : List Value} {c : Code} {p : Pos} {kp : List Value}
    (hfs : splitAtGen (.ret k hk g lv c p kp :: fs) = none) (hfg : (.ret k hk g lv c p kp :: fs : List Frame).any Frame.guarded = false) (hh : (A.over (yfC it) (.ret k hk g lv c p kp :: fs)).handled = none)
    (hSi : S ≠ it) (hli : l ≠ it) (hlS : l ≠ S) (hai : a ≠ it) (haS : a ≠ S) (hci : cStatics ≠ it) (hcS : cStatics ≠ S) :
    ∀ (rest pre acc : List Value) (s s₀ : Shared) (c₀ : Nat), items = pre ++ rest → s.heap.IsListIter it l pre.length → s.heap.IsList l items.toArray → s.heap.get? S = some (lstO acc c₀) → acc.length + rest.length ≤ sizeLine → Bare gn s.gens → s.heap.IsGen a gn → s.heap.NoLimit →
    (∀ s₀' h' c' tk' gens', (∀ b o, b ≠ S → b ≠ it → s.heap.get? b = some o → h'.get? b = some o) → h'.get? S = some (lstO (acc ++ rest) c') → Bare gn gens' → Seg (model prog w) A R (YS gn a S) n s₀' c (k (.ok (.ret .none))) fs { s with heap := h', gens := gens', toks := tk' }) →
    Seg (model prog w) A R (YS gn a S) (n + rest.length) s₀ (yfC it) ((model prog w).den (yfC it)) (.ret k hk g lv c p kp :: fs) s := by
  intro rest
  induction rest with
  | nil =>
    intro pre acc s s₀ c₀ e hit hl hS hz hb hg hn h
    rw [List.append_nil] at e
    subst e
    refine seg_yf_end hh hit hl (by simp) fun h' hs' => ?_
    exact h s₀ h' c₀ s.toks s.gens (fun b o _ hbi e => hs' b o hbi e) (by rw [List.append_nil]; exact hs' S _ hSi hS) hb
  | cons x rest ih =>
    intro pre acc s s₀ c₀ e hit hl hS hz hb hg hn h
    refine seg_yf_item hfs hfg hit hl (x := x) (by rw [e]; simp) fun h' hit' hs' kap hkap => ?_
    have hg' : h'.IsGen a gn := hg.extBut hs'.extBut hai
    have hn' : h'.NoLimit := let ⟨mc, hns, hnn⟩ := hn; ⟨mc, hns.at' fun o e => hs'.extBut cStatics o hci e, hnn⟩
    refine ⟨hb, hg', hn', acc, c₀, hs'.extBut S _ hSi hS, by simp at hz; omega, fun h'' c' tk gens'' hsb hS'' hb'' => ?_⟩
    have hit'' : h''.IsListIter it l (pre.length + 1) := hit'.extBut hsb.extBut (Ne.symm hSi)
    refine hkap _ hit'' ?_
    refine ih (pre ++ [x]) (acc ++ [x]) _ _ c' (by rw [e]; simp) (by simpa using hit'') ((hl.extBut hs'.extBut hli).extBut hsb.extBut hlS) hS'' (by simp at hz ⊢; omega) hb'' (hg'.extBut hsb.extBut haS) (let ⟨mc, hns, hnn⟩ := hn'; ⟨mc, hns.at' fun o e => hsb.extBut cStatics o hcS e, hnn⟩) ?_
    intro s₀' h₃ c₃ tk₃ g₃ hk₃ hS₃ hb₃
    exact h s₀' h₃ c₃ tk₃ g₃ (fun b o hbS hbi e => hk₃ b o hbS hbi (hsb.extBut b o hbS (hs'.extBut b o hbi e))) (by simpa using hS₃) hb₃
end

def YFPost (gn : Nat) (a S : Addr) (n₀ : Nat) (Go : Nat → Shared → Prop) (v : Value) (s' : Shared) : Prop :=
  ∃ l items acc c₀ n, v = .ref l ∧ s'.heap.IsList l (List.toArray items) ∧ s'.heap.get? S = some (lstO acc c₀) ∧ l ≠ S ∧ n₀ = n + items.length ∧ acc.length + items.length ≤ sizeLine ∧ Bare gn s'.gens ∧ s'.heap.IsGen a gn ∧ s'.heap.NoLimit ∧ a ≠ S ∧ cStatics ≠ S ∧
    ∀ h' c' tk' gens', (∀ b o, b ≠ S → s'.heap.get? b = some o → h'.get? b = some o) → h'.get? S = some (lstO (acc ++ items) c') → Bare gn gens' → Go n { s' with heap := h', gens := gens', toks := tk' }
section
variable {prog : Program} {w : World} {A : Around} {R : GenEnd} {n₀ : Nat} {s₀ : Shared} {c : Code} {fs : List Frame} {s : Shared} {env : Env}
  {K : Flow → Sem Fin} {H : Value → Sem Fin} {gd : Bool → Bool} {lv : List Value → List Value}
theorem seg_YieldFrom {gn : Nat} {a S : Addr} {e : Expr} {ypos pos : Pos} (hfs : splitAtGen fs = none) (hfg : fs.any Frame.guarded = false) (hgd : gd false = false)
    (hh : ∀ it k l p kp, (A.over (yfC it) (.ret k none (gd false) l c p kp :: fs)).handled = none)
    (h : wpAny (model prog w) (A.over c fs) (eval e env) (YFPost gn a S n₀ (fun n s' => ∀ s₀', Seg (model prog w) A R (YS gn a S) n s₀' c (K .next) fs s'))
      (fun x s' => Seg (model prog w) A R (YS gn a S) n₀ s₀ c (H x) fs s') s) (hi : interactive env = false := by rfl) :
    Seg (model prog w) A R (YS gn a S) n₀ s₀ c ((exec (.Expr (.YieldFrom e ypos) pos) env).wrap K H gd lv) fs s := by
  rw [exec_Expr env _ pos hi rfl]
  show Seg (model prog w) A R (YS gn a S) n₀ s₀ c (.at pos fun _ => ((eval e env >>= fun v => (standAt ypos >>= fun _ => yieldFrom env v)) >>= fun x =>
    dropValue (.YieldFrom e ypos) pos x).wrap K H gd lv) fs s
  refine seg_at ?_
  rw [Sem.bind_eq_wrap', Sem.bind_eq_wrap', Sem.wrap_wrap, Sem.wrap_wrap]
  refine seg_wrap (wpAny_mono h (fun v s' h' => ?_) fun _ _ x => x)
  obtain ⟨l, items, acc, c₀, n, rfl, hl, hS, hlS, rfl, hz, hb, hg, hn, haS, hcS, hgo⟩ := h'
  refine seg_at ?_
  unfold yieldFrom
  refine seg_bind_wrap (wpAny_pure ?_)
  refine seg_bind_wrap (wpAny_typeOf hl.typeIs ?_)
  rw [if_neg (show ¬ ((Value.type "list" == Value.type "coroutine") = true) by decide)]
  refine seg_bind_wrap (wpAny_holding (wpAny_pyIter_list hl ?_))
  have hit : (s'.heap.push { cls := .type "list_iterator", data := .fields #[.ref l, .int 0 0] }).get? s'.heap.objs.size = some { cls := .type "list_iterator", data := .fields #[.ref l, .int 0 0] } := Heap.get?_push_size _ rfl
  have lt : ∀ b o, s'.heap.get? b = some o → b ≠ s'.heap.objs.size := fun b o e => Nat.ne_of_lt (Heap.lt_size e)
  obtain ⟨ol, hol, hc, hd⟩ := id hl
  refine seg_call fun p => ?_
  refine seg_yf_all (S := S) (a := a) (it := s'.heap.objs.size) (l := l) (items := items) ?_ ?_ ?_ (lt _ _ hS) (lt _ _ hol) hlS (let ⟨_, _, _, ho, _⟩ := hg; lt _ _ ho) haS (let ⟨_, hns, _⟩ := hn; Nat.ne_of_lt hns.lt) hcS items [] acc _ _ c₀ rfl ⟨_, hit, rfl, rfl⟩ (hl.push _) (Heap.get?_push_of_some _ hS) hz hb (hg.push _) (hn.keeps fun _ _ e => Heap.get?_push_of_some _ e) ?_
  · show (splitAtGen fs).map _ = none
    rw [hfs]; rfl
  · show (Frame.guarded _ || fs.any Frame.guarded) = false
    rw [hfg]
    show (gd false || false) = false
    rw [hgd]; rfl
  · exact hh ..
  · intro s₀' h' c' tk' gens' hk hS' hb'
    exact hgo h' c' tk' gens' (fun b o hbS e => hk b o hbS (lt b o e) (Heap.get?_push_of_some _ e)) hS' hb' s₀'
end

section
variable {prog : Program} {w : World} {A : Around} {E : Value → Shared → Prop} {s : Shared}
theorem pyNext_funQ {a : Addr} {g n : Nat} {gs : GenState} {P : Nat → Shared → Shared → Prop} {Y : Protocol} {Q : Option Value → Shared → Prop} (hh : A.handled = none)
    (hl : s.heap.NoLimit) (hroom : A.depth < recursionLimit)
    (hg : s.heap.IsGen a g) (hgs : s.gens[g]? = some gs)
    (hgo : gs.Goes (model prog w) A.in1 (fun n s₀ r s₁ => r = .ok (.ret .none) ∧ P n s₀ s₁) Y n (.send .none) (s.setGen g .running))
    (hY : ∀ v s₁ gs', gs'.bare = true → Y (n - 1) (s.setGen g .running) v s₁ (fun r' s'' => match n with
        | 0 => False
        | m + 1 => gs'.Goes (model prog w) A.in1 (fun n s₀ r s₁ => r = .ok (.ret .none) ∧ P n s₀ s₁) Y m r' s'') → Q (some v) (s₁.setGen g gs'))
    (hP : ∀ s₁, P n (s.setGen g .running) s₁ → ∀ h', (∀ b o, s₁.heap.get? b = some o → h'.get? b = some o) → Q none { s₁.setGen g .finished with heap := h' }) :
    wpAny (model prog w) A (pyNext (.ref a)) Q E s := by
  unfold pyNext
  refine wpAny_bind (wpAny_attempt (wpAny_callSpecial?_slot (name := Str.ofString "__next__") hg.typeIs slot_gen_next
    (wpAny_call_entry slot_gen_next hg.typeIs entry_gen_next ?_ (args_gen_next _))))
  show wpAny _ A.in1 (Builtin.Generator.genWake (.ref a) (.send .none)) _ _ s
  unfold Builtin.Generator.genWake
  refine wpAny_bind (wpAny_holding (wpAny_genNumber hg (wpAny_bind (wpAny_genState hgs ?_))))
  cases gs with
  | running => exact hgo.elim
  | finished => exact hgo.elim
  | _ =>
    refine wpAny_bind (wpAny_roomToWake hl hroom ?_)
    show wpAny _ A.in1 (.resume g (.send .none) [] _) _ _ s
    refine wpAny_resumeQ hgs hgo (fun x s₁ hx => ?_) (fun v s₁ gs' hb hv => ?_)
    · obtain ⟨rfl, hp⟩ := hx
      show wpAny _ A.in1 (newExc (.type "StopIteration") [] >>= _) _ _ _
      refine wpAny_bind ?_
      simp only [newExc, newTuple]
      refine wpAny_bind (wpAny_newObj_type ?_ (by size_fits))
      refine wpAny_bind (m := firstArgMember _ _) (wpAny_of_eq (a := Value.none) (by first | rfl | (simp only [firstArgMember]; rfl)) ?_)
      refine wpAny_newObj_type ?_ (by size_fits)
      simp only [raiseNew]
      refine wpAny_bind (wpAny_bind (wpAny_handled ?_))
      first | rw [show A.in1.handled = none from hh] | rw [hh]
      refine wpAny_throw ?_
      refine wpAny_bind (wpAny_isInstance (T := "StopIteration") (b := true) ⟨_, Heap.get?_push_size _ rfl, rfl⟩ isSubtype_stop ?_)
      exact wpAny_pure (hP s₁ hp _ fun b o hb => Heap.get?_push_of_some _ (Heap.get?_push_of_some _ hb))
    · exact wpAny_pure ⟨v, rfl, wpAny_pure (hY v s₁ gs' hb hv)⟩
end
def RSP (g : Nat) (T : Shared → Prop) : Nat → Shared → Shared → Prop := fun _ _ s₁ => Bare g s₁.gens ∧ ∀ h' tk' gens', (∀ b o, s₁.heap.get? b = some o → h'.get? b = some o) → Bare g gens' → T { s₁ with heap := h', gens := gens', toks := tk' }
def RS (g : Nat) (T : Shared → Prop) : GenEnd := fun n s₀ r s₁ => r = .ok (.ret .none) ∧ RSP g T n s₀ s₁
theorem push_lst (acc : List Value) (c : Nat) (v : Value) : ∃ c', Obj.mapSeq (·.push v) (lstO acc c) = lstO (acc ++ [v]) c' := by
  simp only [Obj.mapSeq, lstO, List.push_toArray]
  exact ⟨_, rfl⟩
theorem drain_loop {prog : Program} {w : World} {A : Around} {R : Result → Shared → Prop} {g : Nat} {a S : Addr} {res : Value} (hh : A.handled = none) (hroom : A.in1.depth < recursionLimit) (haS : a ≠ S) (hcS : cStatics ≠ S) :
    ∀ (n : Nat) (s : Shared) (gs : GenState), s.gens[g]? = some gs → s.heap.IsGen a g → s.heap.NoLimit →
      gs.Goes (model prog w) A.in1.in1 (RS g fun s' => R (.ok (.ret res)) s') (YS g a S) n (.send .none) (s.setGen g .running) →
      codeAny (model prog w) A (.builtin "list.extend.loop" ⟨[.ref S, .ref a, res], []⟩) R s := by
  intro n
  induction n with
  | zero =>
    intro s gs hgs hg hl hgo
    refine codeAny_builtin F.entry_extend_loop ?_
    rw [Around.under_plainId F.plain_extend_loop _]
    show wpAny _ A.in1 (pyNext (.ref a) >>= _) _ _ s
    refine wpAny_bind (pyNext_funQ (A := A.in1) hh hl hroom hg hgs hgo (fun v s₁ gs' hb hv => ?_) fun s₁ hp h' hk => ?_)
    · obtain ⟨hB, hg₁, hl₁, acc, c, hS, hz, hk⟩ := hv
      obtain ⟨c', ec⟩ := push_lst acc c v
      have hsb : Heap.SameBut S s₁.heap (s₁.heap.update S (Obj.mapSeq (·.push v))) := Heap.SameBut.update ..
      exact (hk _ c' s₁.toks s₁.gens hsb (ec ▸ Heap.get?_update_self (Obj.mapSeq (·.push v)) hS rfl) hB).elim
    · exact wpAny_pure (hp.2 h' s₁.toks _ hk (hp.1.set rfl))
  | succ n ih =>
    intro s gs hgs hg hl hgo
    refine codeAny_builtin F.entry_extend_loop ?_
    rw [Around.under_plainId F.plain_extend_loop _]
    show wpAny _ A.in1 (pyNext (.ref a) >>= _) _ _ s
    refine wpAny_bind (pyNext_funQ (A := A.in1) hh hl hroom hg hgs hgo (fun v s₁ gs' hb hv => ?_) fun s₁ hp h' hk => ?_)
    · obtain ⟨hB, hg₁, hl₁, acc, c, hS, hz, hk⟩ := hv
      show wpAny _ A.in1 (updateSeq S (·.push v) >>= _) _ _ _
      refine wpAny_bind ?_
      have hsb : Heap.SameBut S s₁.heap (s₁.heap.update S (Obj.mapSeq (·.push v))) := Heap.SameBut.update ..
      refine wpAny_updateSeq (s := s₁.setGen g gs') hS rfl (wpAny_pure ⟨plainId_quiet F.plain_extend_loop _, ?_⟩) (by simp; omega) (by simp; omega)
      refine ih _ gs' (by show (s₁.gens.setIfInBounds g gs')[g]? = some gs'; simp [hB.1]) (hg₁.extBut hsb.extBut haS) (let ⟨mc, hns, hnn⟩ := hl₁; ⟨mc, hns.at' fun o e => hsb.extBut cStatics o hcS e, hnn⟩) ?_
      obtain ⟨c', ec⟩ := push_lst acc c v
      exact hk _ c' s₁.toks _ hsb (ec ▸ Heap.get?_update_self (Obj.mapSeq (·.push v)) hS rfl) ((hB.set hb).set rfl)
    · exact wpAny_pure (hp.2 h' s₁.toks _ hk (hp.1.set rfl))

theorem keep_lim {h h' : Heap} {S : Addr} (hn : h.NoLimit) (hcS : cStatics ≠ S) (hk : ∀ b o, b ≠ S → h.get? b = some o → h'.get? b = some o) : h'.NoLimit :=
  let ⟨mc, hns, hnn⟩ := hn; ⟨mc, hns.at' fun o e => hk cStatics o hcS e, hnn⟩
theorem keep_gen {h h' : Heap} {S a : Addr} {g : Nat} (hg : h.IsGen a g) (haS : a ≠ S) (hk : ∀ b o, b ≠ S → h.get? b = some o → h'.get? b = some o) : h'.IsGen a g :=
  let ⟨o, nm, qn, ho, r⟩ := hg; ⟨o, nm, qn, hk a o haS ho, r⟩
theorem drain_list {prog : Program} {w : World} {A : Around} {E : Value → Shared → Prop} {s : Shared} {Q : Value → Shared → Prop} {g n : Nat} {a : Addr} {c : Code} (hh : A.handled = none) (hroom : A.in1.in1.depth < recursionLimit)
    (hg : s.heap.IsGen a g) (hgs : s.gens[g]? = some (.fresh c)) (hl : s.heap.NoLimit)
    (h : ∀ h' c₀, (∀ b o, s.heap.get? b = some o → h'.get? b = some o) → h'.get? s.heap.objs.size = some (lstO [] c₀) →
      Seg (model prog w) A.in1.in1.in1 (RS g fun s' => Value.none = Value.none ∧ Q (.ref s.heap.objs.size) s') (YS g a s.heap.objs.size) n ({ s with heap := h' }.setGen g .running) c ((model prog w).den c) [] ({ s with heap := h' }.setGen g .running)) :
    wpAny (model prog w) A (call (.type "list") [.ref a]) Q E s := by
  obtain ⟨og, nm, qn, hog, hgr⟩ := id hg
  have haS : a ≠ s.heap.objs.size := Nat.ne_of_lt (Heap.lt_size hog)
  have hcS : cStatics ≠ s.heap.objs.size := let ⟨_, hns, _⟩ := hl; Nat.ne_of_lt hns.lt
  refine callType_codes (Q₁ := fun obj s₁ => obj = .ref s.heap.objs.size ∧ s₁ = { s with heap := s.heap.push { cls := .type "list", data := .seq #[] } }) F.called_list (F.typeCall_list_1 _) F.entry_list_init
    (code_list_new _ ⟨rfl, rfl⟩) fun obj s₁ h₁ => ?_
  obtain ⟨rfl, rfl⟩ := h₁
  have hS : (s.heap.push { cls := .type "list", data := .seq #[] }).get? s.heap.objs.size = some { cls := .type "list", data := .seq #[] } := Heap.get?_push_size _ rfl
  refine ⟨⟨_, hS, rfl⟩, F.args_list_init_2 _ _, ?_⟩
  show wpAny _ A.in1.in1 (do let old ← Builtin.List.listItems (.ref s.heap.objs.size); Builtin.List.listUpdate (.ref s.heap.objs.size) (fun _ => #[]); letGo old.toList.reverse; Builtin.List.listExtendWith (.ref s.heap.objs.size) (.ref a) .none) _ _ _
  refine wpAny_bind ?_
  unfold Builtin.List.listItems
  refine wpAny_bind (wpAny_seqItems hS rfl (wpAny_pure ?_))
  show wpAny _ A.in1.in1 (updateSeq s.heap.objs.size (fun _ => #[]) >>= fun _ => letGo (#[] : Array Value).toList.reverse >>= fun _ => Builtin.List.listExtendWith (.ref s.heap.objs.size) (.ref a) .none) _ _ _
  refine wpAny_bind (wpAny_updateSeq hS rfl ?_)
  have hS₂ := Heap.get?_update_self (Obj.mapSeq (fun _ => (#[] : Array Value))) hS rfl
  have k₂ : ∀ b o, b ≠ s.heap.objs.size → s.heap.get? b = some o → ((s.heap.push { cls := .type "list", data := .seq #[] }).update s.heap.objs.size (Obj.mapSeq (fun _ => (#[] : Array Value)))).get? b = some o :=
    fun b o hb e => (Heap.get?_update_other _ _ (Ne.symm hb)).trans (Heap.get?_push_of_some _ e)
  generalize ((s.heap.push { cls := .type "list", data := .seq #[] }).update s.heap.objs.size (Obj.mapSeq (fun _ => (#[] : Array Value)))) = h₂ at hS₂ k₂
  refine wpAny_bind (wpAny_letGo ?_)
  have hg₂ : h₂.IsGen a g := keep_gen hg haS k₂
  have hT : ({ s with heap := h₂ } : Shared).TypeIs (.ref a) "generator" := Heap.IsGen.typeIs (s := { s with heap := h₂ }) hg₂
  unfold Builtin.List.listExtendWith
  refine wpAny_bind (wpAny_typeOf hT ?_)
  have h1 : Builtin.List.listSameRef (.ref s.heap.objs.size) (.ref a) = false := by simp [Builtin.List.listSameRef, Ne.symm haS]
  have h2 : (Value.type "generator" == Value.type "list") = false := by decide
  have h3 : (Value.type "generator" == Value.type "tuple") = false := by decide
  simp only [h1, h2, h3, Bool.or_false, Bool.false_eq_true, if_false]
  refine wpAny_bind (wpAny_pyIter_gen (s := { s with heap := h₂ }) hg₂ ?_)
  refine wpAny_bind (wpAny_holding ?_)
  unfold Builtin.List.listLengthHint
  refine wpAny_bind (wpAny_specialOf hT F.gen_no_len ?_)
  show wpAny _ A.in1.in1 (specialOf (Value.ref a) (Str.ofString "__length_hint__") >>= _) _ _ _
  refine wpAny_bind (wpAny_specialOf hT F.gen_no_hint ?_)
  refine wpAny_pure ?_
  show wpAny _ A.in1.in1 (rule "list.extend.makes-room" >>= fun _ => Builtin.List.listTouch (.ref s.heap.objs.size) >>= fun _ =>
    again (.builtin "list.extend.loop" ⟨[.ref s.heap.objs.size, .ref a, .none], []⟩)) _ _ _
  refine wpAny_bind (wpAny_rule ?_)
  refine wpAny_bind ?_
  show wpAny _ A.in1.in1 (updateSeq s.heap.objs.size (·.push .none) >>= fun _ => updateSeq s.heap.objs.size (·.pop)) _ _ _
  refine wpAny_bind (wpAny_updateSeq (s := { s with heap := h₂ }) hS₂ rfl ?_)
  have hS₃ := Heap.get?_update_self (Obj.mapSeq (·.push Value.none)) hS₂ rfl
  have k₃ : ∀ b o, b ≠ s.heap.objs.size → s.heap.get? b = some o → (h₂.update s.heap.objs.size (Obj.mapSeq (·.push Value.none))).get? b = some o :=
    fun b o hb e => (Heap.get?_update_other _ _ (Ne.symm hb)).trans (k₂ b o hb e)
  generalize h₂.update s.heap.objs.size (Obj.mapSeq (·.push Value.none)) = h₃ at hS₃ k₃
  refine wpAny_updateSeq (s := { s with heap := h₃ }) (hz := by seq_fits) hS₃ rfl ?_
  have hS₄ := Heap.get?_update_self (Obj.mapSeq (·.pop)) hS₃ rfl
  have k₄ : ∀ b o, b ≠ s.heap.objs.size → s.heap.get? b = some o → (h₃.update s.heap.objs.size (Obj.mapSeq (·.pop))).get? b = some o :=
    fun b o hb e => (Heap.get?_update_other _ _ (Ne.symm hb)).trans (k₃ b o hb e)
  generalize h₃.update s.heap.objs.size (Obj.mapSeq (·.pop)) = h₄ at hS₄ k₄
  refine wpAny_pure ⟨plainId_quiet F.plain_extend_loop _, ?_⟩
  refine drain_loop (A := A.in1) (n := n) (g := g) hh hroom haS hcS { s with heap := h₄ } (.fresh c) hgs (keep_gen hg haS k₄) (keep_lim hl hcS k₄) ⟨rfl, ?_⟩
  exact h h₄ _ (fun b o e => k₄ b o (Nat.ne_of_lt (Heap.lt_size e)) e) hS₄
end Mine
set_option maxRecDepth 100000
set_option Elab.async false
namespace Mine
 open PySem PySem.Calls PyProof.Rows
theorem over_func (A : Around) (body : List Stmt) (env : Env) : A.over (.func body env) [] = A.deeper env := by
  obtain ⟨h, d, f, g, u⟩ := A
  simp only [Around.over, Around.deeper]
  congr 1
theorem over_h {A : Around} (hA : A.handled = none) (it : Addr) (k l p kp) (c : Code) : (A.over (yfC it) (.ret k none false l c p kp :: [])).handled = none := by
  simp only [Around.over, marksOver]
  rw [hA]
  rfl
abbrev genO (gn : Nat) (nm qn : Value) : Obj := { cls := .type "generator", data := .fields #[.int gn 0, nm, qn] }
structure GenKeep (h₀ : Heap) (L : Addr) (m : Str → Option Value) (news : List (Addr × Obj)) (gn : Nat) (g : Heap) (C a : Addr) (og : Obj) : Prop where
  obj : ∃ nm qn, og = genO gn nm qn
  lt : ∀ p ∈ news, p.1 < a
  lim : g.NoLimit
  back : ∀ h₁ m₁ led, Fr g C h₁ m₁ → News g C h₁ led → Fr h₀ L h₁ m ∧ News h₀ L h₁ led
section
variable {prog : Program} {w : World} {A : Around} {R : GenEnd} {n : Nat} {s₀ : Shared} {s : Shared} {env : Env} {body : List Stmt} {gn : Nat} {a S : Addr}
  {K : Flow → Sem Fin} {H : Value → Sem Fin}
def YPost (gn : Nat) (a S : Addr) (Go : Shared → Prop) (v : Value) (s' : Shared) : Prop := ∀ kap : Resume → Shared → Prop, (∀ s'', Go s'' → kap (.send .none) s'') → YS gn a S 0 s' v s' kap
theorem sg_yield {e : Expr} {ypos pos : Pos} {rest : List Stmt}
    (h : wpAny (model prog w) (A.deeper env) (eval e env) (YPost gn a S (fun s'' => ∀ s₀', Seg (model prog w) A R (YS gn a S) n s₀' (.func body env) ((execs rest env).wrap K H id id) [] s''))
      (fun x s' => Seg (model prog w) A R (YS gn a S) (n + 1) s₀ (.func body env) (H x) [] s') s) (hco : env.scope.isCoroutine = false := by rfl) (hi : interactive env = false := by rfl) :
    Seg (model prog w) A R (YS gn a S) (n + 1) s₀ (.func body env) ((execs (.Expr (.Yield (some e) ypos) pos :: rest) env).wrap K H id id) [] s := by
  refine seg_execs_cons (seg_Expr_Yield rfl rfl rfl ?_ hco hi)
  rw [over_func]
  refine wpAny_mono h (fun v s' hp kap hk => ?_) fun _ _ x => x
  exact hp kap fun s'' hg => hk .none s'' (hg s'')
theorem sg_yieldFrom {e : Expr} {ypos pos : Pos} {rest : List Stmt} (hA : A.handled = none)
    (h : wpAny (model prog w) (A.deeper env) (eval e env) (YFPost gn a S n (fun n s'' => ∀ s₀', Seg (model prog w) A R (YS gn a S) n s₀' (.func body env) ((execs rest env).wrap K H id id) [] s''))
      (fun x s' => Seg (model prog w) A R (YS gn a S) n s₀ (.func body env) (H x) [] s') s) (hi : interactive env = false := by rfl) :
    Seg (model prog w) A R (YS gn a S) n s₀ (.func body env) ((execs (.Expr (.YieldFrom e ypos) pos :: rest) env).wrap K H id id) [] s := by
  refine seg_execs_cons (seg_YieldFrom rfl rfl rfl (fun it k l p kp => over_h hA it k l p kp _) ?_ hi)
  rw [over_func]
  exact h
theorem sg_stmt {st : Stmt} {rest : List Stmt}
    (h : wpAny (model prog w) (A.deeper env) (exec st env) (fun f s'' => f = .next ∧ Seg (model prog w) A R (YS gn a S) n s₀ (.func body env) ((execs rest env).wrap K H id id) [] s'')
      (fun x s' => Seg (model prog w) A R (YS gn a S) n s₀ (.func body env) (H x) [] s') s) :
    Seg (model prog w) A R (YS gn a S) n s₀ (.func body env) ((execs (st :: rest) env).wrap K H id id) [] s := by
  refine seg_execs_cons (seg_wrap ?_)
  rw [over_func]
  refine wpAny_mono h (fun v s' hp => ?_) fun _ _ x => x
  obtain ⟨rfl, hp⟩ := hp
  exact hp
variable {g h₀ : Heap} {C L : Addr} {m m' : Str → Option Value} {news led : List (Addr × Obj)} {og : Obj} {acc : List Value} {c₀ : Nat}
theorem led_upd {h' : Heap} {o' : Obj} (F : Fr g C s.heap m') (N : News g C s.heap led) (hsub : ∀ p ∈ (S, lstO acc c₀) :: (a, og) :: news, p ∈ led) (GK : GenKeep h₀ L m news gn g C a og) (haS : a < S)
    (hk : ∀ b o, b ≠ S → s.heap.get? b = some o → h'.get? b = some o) (hS : h'.get? S = some o') : Fr g C h' m' ∧ News g C h' ((S, o') :: (a, og) :: news) := by
  have NS := N _ (hsub _ (.head _))
  have keep : ∀ p ∈ ((a, og) :: news), p.1 < S := fun p hp => by
    rcases List.mem_cons.mp hp with rfl | hp
    · exact haS
    · exact Nat.lt_trans (GK.lt p hp) haS
  refine ⟨⟨F.ns.at' fun o e => hk _ o (Ne.symm NS.2.1) e, fun b o e => hk b o (fun q => ?_) (F.keep b o e), F.above⟩, fun p hp => ?_⟩
  · rw [q, NS.2.2] at e; cases e
  · rcases List.mem_cons.mp hp with rfl | hp
    · exact ⟨hS, NS.2⟩
    · have P := N p (hsub p (.tail _ hp))
      exact ⟨hk _ _ (Nat.ne_of_lt (keep p hp)) P.1, P.2⟩
theorem gen_at (N : News g C s.heap led) (hsub : ∀ p ∈ (S, lstO acc c₀) :: (a, og) :: news, p ∈ led) (GK : GenKeep h₀ L m news gn g C a og) : s.heap.IsGen a gn := by
  obtain ⟨nm, qn, rfl⟩ := GK.obj
  exact ⟨_, nm, qn, (N _ (hsub _ (.tail _ (.head _)))).1, rfl, rfl, rfl⟩
theorem cst_ne (F : Fr g C s.heap m') (N : News g C s.heap led) (hsub : ∀ p ∈ (S, lstO acc c₀) :: (a, og) :: news, p ∈ led) (GK : GenKeep h₀ L m news gn g C a og) : cStatics ≠ S := by
  intro q
  obtain ⟨_, hns, _⟩ := GK.lim
  obtain ⟨o, _, _, ho, _⟩ := hns
  have := (N _ (hsub _ (.head _))).2.2
  rw [← q, ho] at this; cases this
theorem y_post {v : Value} {Go : Shared → Prop} (F : Fr g C s.heap m') (N : News g C s.heap led) (hsub : ∀ p ∈ (S, lstO acc c₀) :: (a, og) :: news, p ∈ led) (GK : GenKeep h₀ L m news gn g C a og) (haS : a < S) (hb : Bare gn s.gens) (hz : acc.length < sizeLine)
    (k : ∀ h' c' tk' gens', Fr g C h' m' → News g C h' ((S, lstO (acc ++ [v]) c') :: (a, og) :: news) → Bare gn gens' → Go { s with heap := h', gens := gens', toks := tk' }) : YPost gn a S Go v s := by
  intro kap hkap
  refine ⟨hb, gen_at N hsub GK, GK.lim.keeps F.keep, acc, c₀, (N _ (hsub _ (.head _))).1, hz, fun h'' c' tk gens'' hsb hS hb' => ?_⟩
  obtain ⟨F', N'⟩ := led_upd F N hsub GK haS (fun b o hb e => hsb.extBut b o hb e) hS
  exact hkap _ (k h'' c' tk gens'' F' N' hb')
theorem yf_post {l : Addr} {items : List Value} {cl : Nat} {Go : Nat → Shared → Prop} (F : Fr g C s.heap m') (N : News g C s.heap led) (hsub : ∀ p ∈ (S, lstO acc c₀) :: (a, og) :: news, p ∈ led) (hl : (l, lstO items cl) ∈ led) (hlS : l ≠ S) (GK : GenKeep h₀ L m news gn g C a og) (haS : a < S) (hb : Bare gn s.gens)
    (hz : acc.length + items.length ≤ sizeLine)
    (k : ∀ h' c' tk' gens', Fr g C h' m' → News g C h' ((S, lstO (acc ++ items) c') :: (a, og) :: news) → Bare gn gens' → Go n { s with heap := h', gens := gens', toks := tk' }) : YFPost gn a S (n + items.length) Go (.ref l) s := by
  refine ⟨l, items, acc, c₀, n, rfl, ⟨_, (N _ hl).1, rfl, _, rfl⟩, (N _ (hsub _ (.head _))).1, hlS, rfl, hz, hb, gen_at N hsub GK, GK.lim.keeps F.keep, Nat.ne_of_lt haS, cst_ne F N hsub GK, fun h' c' tk' gens' hk hS hb' => ?_⟩
  obtain ⟨F', N'⟩ := led_upd F N hsub GK haS hk hS
  exact k h' c' tk' gens' F' N' hb'
theorem g_end {Q : Value → Shared → Prop} {K : Flow → Sem Fin} (F : Fr g C s.heap m') (N : News g C s.heap led) (hsub : ∀ p ∈ (S, lstO acc c₀) :: (a, og) :: news, p ∈ led) (GK : GenKeep h₀ L m news gn g C a og) (hb : Bare gn s.gens)
    (hK : K .next = leafOf (.ok (.ret .none)))
    (k : ∀ h' tk' gens', Fr h₀ L h' m → News h₀ L h' ((S, lstO acc c₀) :: news) → Bare gn gens' → Q (.ref S) { s with heap := h', gens := gens', toks := tk' }) :
    Seg (model prog w) A (RS gn fun s' => Value.none = Value.none ∧ Q (.ref S) s') (YS gn a S) n s₀ (.func body env) ((execs [] env).wrap K H id id) [] s := by
  refine seg_execs_nil ?_
  rw [hK]
  refine seg_end _ ⟨rfl, hb, fun h' tk' gens' hk hb' => ⟨rfl, ?_⟩⟩
  have NS : ∀ p ∈ (S, lstO acc c₀) :: news, p ∈ led := fun p hp => by
    rcases List.mem_cons.mp hp with rfl | hp
    · exact hsub _ (.head _)
    · exact hsub _ (.tail _ (.tail _ hp))
  obtain ⟨F', N'⟩ := GK.back h' m' ((S, lstO acc c₀) :: news) ⟨F.ns.at' fun o e => hk _ o e, fun b o e => hk b o (F.keep b o e), F.above⟩ (fun p hp => ⟨hk _ _ (N p (NS p hp)).1, (N p (NS p hp)).2⟩)
  exact k h' tk' gens' F' N' hb'
end
end Mine
set_option maxRecDepth 100000
set_option Elab.async false
namespace Mine
 open PySem PySem.W PySem.Calls PyProof.Rows
def GenMade (A : Around) (base : Heap) (env : Env) (outer : List Env) (K : Frag) (p : Program) (loose : List Str) (mean : ExcName → Option Value) (mg mb : Str → Option Value)
   (h₀ : Heap) (L : Addr) (m : Str → Option Value) (news : List (Addr × Obj)) (mm : Str → Option Value) (gn : Nat) (C a : Addr) (h' : Heap) : Prop :=
  ∃ g og, Fr h₀ L g m ∧ Fr g C h' mm ∧ News g C h' ((a, og) :: news) ∧ Below A base (env :: outer) g ∧ K.In g ∧ Top p loose mean mg mb g ∧ GenKeep h₀ L m news gn g C a og
section
variable {prog : Program} {w : World} {A₀ A : Around} {s : Shared} {base h₀ : Heap} {outer : List Env} {L : Addr} {m : Str → Option Value} {env : Env} {news : List (Addr × Obj)} {K : Frag}
  {p : Program} {loose : List Str} {mean : ExcName → Option Value} {mg mb : Str → Option Value}
  {R : Result → Shared → Prop} {name qual : Str} {params : Arguments} {body : List Stmt} {scope : Scope} {dV kV doc pm cdv ct oc : Value} {an od : Option Addr} {osl : Array (Option Value)} {f : Addr} {args : Args} {binds : List (Str × Value)}
theorem gen_call (B : Below A₀ base outer h₀) (F : Fr h₀ L s.heap m) (X₀ : K.In h₀) (N : News h₀ L s.heap news) (T : Top p loose mean mg mb h₀) (hA : A.frames = some (env :: outer)) (hf : env.frame = some L) (hke : env.scope.kind = .function)
    (ho : K.lookup f = some ⟨oc, od, .func (fnOf name qual params body scope dV kV doc pm an cdv ct), osl⟩) (hcd : codeIn K cdv qual = true) (hroom : A.depth < recursionLimit)
    (hbind : BindsTo s (fnOf name qual params body scope dV kV doc pm an cdv ct) args binds) (hloc : ∀ y ∈ binds, scope.names.lookup y.1 = some .local)
    (h : ∀ C a h' tk', Fr h₀ L h' m → News h₀ L h' news → GenMade A base env outer K p loose mean mg mb h₀ L m news (fun y => binds.reverse.lookup y) s.gens.size C a h' →
      R (.ok (.ret (.ref a))) { s with gens := s.gens.push (.fresh (.func body (envOf qual scope C f cdv))), toks := tk', heap := h' })
    (hco : scope.isCoroutine = false) (hgen : scope.isGenerator = true) (hk : scope.kind = .function)
    (hcell : ∀ x ∈ scope.names, x.2 ≠ .cell) : codeAny (model prog w) A (.call (.ref f) args) R s := by
  obtain ⟨FG, BG, st, _⟩ := groundX (R := R) B F N hA hf hke
  refine codeAny_call_generator (fd := fnOf name qual params body scope dV kV doc pm an cdv ct) hroom ((X₀.keeps F.keep) _ _ ho) rfl hco hgen rfl (codeRec_of (X₀.keeps F.keep) hcd) (hbind _ _ _ _ ?_)
  refine wpAny_newFunctionEnv hcell hloc (fun h₁ hns hsb => ⟨(T.nolimit.keeps F.keep).fresh _ hsb, ?_⟩) hk
  have hk₁ : ∀ b o, s.heap.get? b = some o → h₁.get? b = some o := fun b o e => hsb.extBut b o (Nat.ne_of_lt (Heap.lt_size e)) (Heap.get?_push_of_some _ e)
  have back : ∀ h₁ m₁ led, Fr (hideAll s.heap (news.map (·.1))) s.heap.objs.size h₁ m₁ → News (hideAll s.heap (news.map (·.1))) s.heap.objs.size h₁ led → Fr h₀ L h₁ m ∧ News h₀ L h₁ led := fun h₁ m₁ led F₁ N₁ =>
    (groundX (R := fun _ s' => Fr h₀ L s'.heap m ∧ News h₀ L s'.heap led) B F N hA hf hke).2.2.2 .none { s with heap := h₁ } ⟨s.heap.objs.size, m₁, led, F₁, N₁, fun a b => ⟨a, b⟩⟩
  have hC : s.heap.objs.size < h₁.objs.size := hns.lt
  have kp : ∀ (o : Obj) b o', h₁.get? b = some o' → (h₁.push o).get? b = some o' := fun o b o' e => Heap.get?_push_of_some _ e
  have gsz : (hideAll s.heap (news.map (·.1))).objs.size = s.heap.objs.size := hideAll_size _ _
  have F' : ∀ o : Obj, Fr (hideAll s.heap (news.map (·.1))) s.heap.objs.size (h₁.push o) (fun y => binds.reverse.lookup y) := fun o =>
    ⟨hns.push _, fun b o' e => kp o b o' (hk₁ b o' (of_hideAll _ e)), Nat.le_of_eq gsz⟩
  have N' : ∀ o : Obj, o.isFreed = false → News (hideAll s.heap (news.map (·.1))) s.heap.objs.size (h₁.push o) ((h₁.objs.size, o) :: news) := fun o hfr p hp => by
    rcases List.mem_cons.mp hp with rfl | hp
    · refine ⟨Heap.get?_push_size _ hfr, Nat.ne_of_gt hC, ?_⟩
      cases q : (hideAll s.heap (news.map (·.1))).get? h₁.objs.size with
      | none => rfl
      | some o => exact absurd (Heap.lt_size q) (by rw [gsz]; exact Nat.not_lt.mpr (Nat.le_of_lt hC))
    · exact ⟨kp o _ _ (hk₁ _ _ (N p hp).1), Nat.ne_of_lt (Heap.lt_size (N p hp).1), hideAll_none _ (List.mem_map_of_mem hp)⟩
  obtain ⟨F₂, N₂⟩ := back _ _ _ (F' { cls := .type "generator", data := .fields #[.int s.gens.size 0, .str name (s.toks + binds.length), .str qual (s.toks + binds.length + 1)] }) (N' _ rfl)
  refine h s.heap.objs.size h₁.objs.size _ _ F₂ (fun p hp => N₂ p (.tail _ hp)) ⟨_, _, FG, F' _, N' _ rfl, BG, X₀.keeps st, T.keeps st, ⟨_, _, rfl⟩, fun p hp => Nat.lt_trans (Heap.lt_size (N p hp).1) hC, (T.keeps st).nolimit, back⟩
theorem gen_list {E : Value → Shared → Prop} {Q : Value → Shared → Prop} {mm : Str → Option Value} {gn n : Nat} {C a : Addr} {env' : Env} (GM : GenMade A base env outer K p loose mean mg mb h₀ L m news mm gn C a s.heap) (hgs : s.gens[gn]? = some (.fresh (.func body env'))) (hb : Bare gn s.gens) (hh : A.handled = none) (hroom : A.in1.in1.depth < recursionLimit)
    (h : ∀ g S og c₀ h₁ gens₁ tk₁, Fr h₀ L g m → Fr g C h₁ mm → News g C h₁ ((S, lstO [] c₀) :: (a, og) :: news) → Below A base (env :: outer) g → K.In g → Top p loose mean mg mb g → GenKeep h₀ L m news gn g C a og → Bare gn gens₁ → a < S →
      Seg (model prog w) A.in1.in1.in1 (RS gn fun s' => Value.none = Value.none ∧ Q (.ref S) s') (YS gn a S) n { s with heap := h₁, gens := gens₁, toks := tk₁ } (.func body env')
        ((execs body env').wrap (fun f => .pure (.done (.ret (match f with | .ret v => v | _ => .none)))) (fun e => (leaving env' e).wrap (fun _ => .raise e) .raise id id) id id) [] { s with heap := h₁, gens := gens₁, toks := tk₁ }) :
    wpAny (model prog w) A (call (.type "list") [.ref a]) Q E s := by
  obtain ⟨g, og, FG, F', N', B', X', T', GK⟩ := GM
  obtain ⟨nm, qn, eo⟩ := id GK.obj
  have ha := (N' (a, og) (.head _)).1
  have hg : s.heap.IsGen a gn := ⟨_, nm, qn, ha, by rw [eo], by rw [eo], by rw [eo]⟩
  have haS : a < s.heap.objs.size := Heap.lt_size ha
  refine drain_list (n := n) hh hroom hg hgs (T'.nolimit.keeps F'.keep) fun h' c₀ hk hS => seg_func ?_
  refine h g s.heap.objs.size og c₀ h' _ s.toks FG ⟨F'.ns.at' fun o e => hk _ o e, fun b o e => hk b o (F'.keep b o e), F'.above⟩ (fun p hp => ?_) B' X' T' GK (hb.set rfl) haS
  rcases List.mem_cons.mp hp with rfl | hp
  · refine ⟨hS, Nat.ne_of_gt (F'.ns.lt), ?_⟩
    cases q : g.get? s.heap.objs.size with
    | none => rfl
    | some o => exact absurd (Heap.lt_size (F'.keep _ _ q)) (Nat.lt_irrefl _)
  · exact ⟨hk _ _ (N' p hp).1, (N' p hp).2⟩
end
end Mine
set_option maxRecDepth 100000
set_option Elab.async false
namespace Mine
 open PySem PySem.Calls PyProof.Rows PyProof.Rows.LCg
abbrev cl2 (elt : Expr) (x1 : Str) (p1 : Pos) (i1 : Expr) (x2 : Str) (p2 : Pos) (i2 : Expr) (scope : Scope) (pos : Pos) : Expr := .ListComp elt [⟨.Name x1 p1, i1, [], 0⟩, ⟨.Name x2 p2, i2, [], 0⟩] scope pos
section
variable {elt i1 i2 : Expr} {x1 x2 : Str} {p1 p2 pos : Pos} {scope : Scope} {it acc : Value} {env : Env}
theorem turn1 : compTurn (cl2 elt x1 p1 i1 x2 p2 i2 scope pos) 1 it acc env = (standAt i2.pos >>= fun _ => pyNext it >>= fun r => match r with
      | none => pure (.done .next)
      | some v => letOwnedTupleGo (.Name x2 p2) it v >>= fun _ => assign (.Name x2 p2) env v >>= fun _ =>
        (eval elt env >>= fun x => call (.builtin "list.append") [acc, x] >>= fun _ => pure ()) >>= fun _ =>
          again (.compLoop (cl2 elt x1 p1 i1 x2 p2 i2 scope pos) 1 it acc env)) := by rfl
theorem turn0 : compTurn (cl2 elt x1 p1 i1 x2 p2 i2 scope pos) 0 it acc env = (standAt i1.pos >>= fun _ => pyNext it >>= fun r => match r with
      | none => pure (.done .next)
      | some v => letOwnedTupleGo (.Name x1 p1) it v >>= fun _ => assign (.Name x1 p1) env v >>= fun _ =>
        (eval i2 env >>= fun x => standAt i2.pos >>= fun _ => foldedSetIterable i2 env x >>= fun x => holding [x] (pyIter x) >>= fun it' => runOwn (.compStart (cl2 elt x1 p1 i1 x2 p2 i2 scope pos) 1 it' acc env) env >>= fun _ =>
          again (.compLoop (cl2 elt x1 p1 i1 x2 p2 i2 scope pos) 0 it acc env))) := by rfl
end
def okAnd (r : Result) (P : Prop) : Prop := match r with | .ok _ => P | .error _ => False
section
variable {prog : Program} {w : World} {A : Around} {R : Result → Shared → Prop} {s : Shared} {elt i1 i2 : Expr} {x1 x2 : Str} {p1 p2 pos : Pos} {scope : Scope} {it acc : Value} {env : Env}
theorem start1 (h0 : codeAny (model prog w) A (.compLoop (cl2 elt x1 p1 i1 x2 p2 i2 scope pos) 1 it acc env) R s)
    (h : wpAny (model prog w) A (pyIter it) (fun it' s' => codeAny (model prog w) A (.compLoop (cl2 elt x1 p1 i1 x2 p2 i2 scope pos) 1 it' acc env) R s')
      (notedBy (model prog w) A env fun x s' => R (.error x) s') s) :
    codeAny (model prog w) A (.compStart (cl2 elt x1 p1 i1 x2 p2 i2 scope pos) 1 it acc env) R s := by
  refine codeAny_of_tree ?_
  show wpAny _ _ ((compStart (cl2 elt x1 p1 i1 x2 p2 i2 scope pos) 1 it acc env).onRaise (fun x => do noteFrame x env; standAt theWindowsPlace)) _ _ s
  refine wpAny_notedAt ?_
  unfold compStart
  show wpAny _ _ (ask >>= _) _ _ s
  refine wpAny_bind (wpAny_askSetting (wpAny_ite ?_))
  split
  · first
      | exact wpAny_bind (wpAny_pure (wpAny_pure (And.intro rfl h0)))
      | exact wpAny_pure (And.intro rfl h0)
  · first
      | exact wpAny_bind (wpAny_rule (wpAny_bind (wpAny_standAt (wpAny_bind (wpAny_mono h (fun it' s' h' => wpAny_pure (And.intro rfl h')) fun _ _ x => x)))))
      | (refine wpAny_bind (wpAny_rule ?_); show wpAny _ _ (standAt i2.pos >>= _) _ _ s; exact wpAny_bind (wpAny_standAt (wpAny_bind (wpAny_mono h (fun it' s' h' => wpAny_pure (And.intro rfl h')) fun _ _ x => x))))
theorem loop1 (I : Nat → Shared → Prop)
    (turn : ∀ n s, I n s → wpAny (model prog w) A (pyNext it) (fun r s₁ => match r with
      | none => R (.ok .next) s₁
      | some v => wpAny (model prog w) A (assign (.Name x2 p2) env v) (fun _ s₂ => wpAny (model prog w) A (eval elt env) (fun x s₃ =>
          wpAny (model prog w) A (call (.builtin "list.append") [acc, x]) (fun _ s₄ => ∃ m, m < n ∧ I m s₄) (notedBy (model prog w) A env fun e s' => R (.error e) s') s₃)
          (notedBy (model prog w) A env fun e s' => R (.error e) s') s₂) (notedBy (model prog w) A env fun e s' => R (.error e) s') s₁) (notedBy (model prog w) A env fun e s' => R (.error e) s') s)
    (n : Nat) (h : I n s) :
    codeAny (model prog w) A (.compLoop (cl2 elt x1 p1 i1 x2 p2 i2 scope pos) 1 it acc env) R s := by
  refine codeAny_loop rfl I (fun n s hI => ?_) n h
  show wpAny _ _ ((compTurn (cl2 elt x1 p1 i1 x2 p2 i2 scope pos) 1 it acc env).onRaise (fun x => do noteFrame x env; theTreesLotGoes x)) _ _ s
  refine wpAny_noted ?_
  rw [turn1]
  refine wpAny_bind (wpAny_standAt (wpAny_bind (wpAny_mono (turn n s hI) (fun r s₁ h₁ => ?_) fun _ _ h' => h')))
  cases r with
  | none => exact wpAny_pure h₁
  | some v =>
    refine wpAny_bind (wpAny_of_eq (rfl : letOwnedTupleGo (.Name x2 p2) it v = pure ()) ?_)
    exact wpAny_bind (wpAny_mono h₁ (fun _ s₂ h₂ => wpAny_bind (wpAny_bind (wpAny_mono h₂ (fun x s₃ h₃ => wpAny_bind (wpAny_mono h₃
      (fun _ s₄ h₄ => wpAny_pure (wpAny_pure ⟨rfl, h₄⟩)) fun _ _ h' => h')) fun _ _ h' => h'))) fun _ _ h' => h')
theorem loop0 (I : Nat → Shared → Prop) (hs : ∀ x, foldedSetIterable i2 env x = pure x)
    (turn : ∀ n s, I n s → wpAny (model prog w) A (pyNext it) (fun r s₁ => match r with
      | none => R (.ok .next) s₁
      | some v => wpAny (model prog w) A (assign (.Name x1 p1) env v) (fun _ s₂ => wpAny (model prog w) A (eval i2 env) (fun x s₃ => wpAny (model prog w) A (pyIter x) (fun it' s₄ =>
          codeAny (model prog w) A (.compStart (cl2 elt x1 p1 i1 x2 p2 i2 scope pos) 1 it' acc env) (fun r s₅ => okAnd r (∃ m, m < n ∧ I m s₅)) s₄) (notedBy (model prog w) A env fun e s' => R (.error e) s') s₃)
          (notedBy (model prog w) A env fun e s' => R (.error e) s') s₂) (notedBy (model prog w) A env fun e s' => R (.error e) s') s₁) (notedBy (model prog w) A env fun e s' => R (.error e) s') s)
    (n : Nat) (h : I n s) :
    codeAny (model prog w) A (.compLoop (cl2 elt x1 p1 i1 x2 p2 i2 scope pos) 0 it acc env) R s := by
  refine codeAny_loop rfl I (fun n s hI => ?_) n h
  show wpAny _ _ ((compTurn (cl2 elt x1 p1 i1 x2 p2 i2 scope pos) 0 it acc env).onRaise (fun x => do noteFrame x env; theTreesLotGoes x)) _ _ s
  refine wpAny_noted ?_
  rw [turn0]
  refine wpAny_bind (wpAny_standAt (wpAny_bind (wpAny_mono (turn n s hI) (fun r s₁ h₁ => ?_) fun _ _ h' => h')))
  cases r with
  | none => exact wpAny_pure h₁
  | some v =>
    refine wpAny_bind (wpAny_of_eq (rfl : letOwnedTupleGo (.Name x1 p1) it v = pure ()) ?_)
    refine wpAny_bind (wpAny_mono h₁ (fun _ s₂ h₂ => ?_) fun _ _ h' => h')
    refine wpAny_bind (wpAny_mono h₂ (fun x s₃ h₃ => ?_) fun _ _ h' => h')
    refine wpAny_bind (wpAny_standAt (wpAny_bind (wpAny_of_eq (hs x) ?_)))
    refine wpAny_bind (wpAny_holding (wpAny_mono h₃ (fun it' s₄ h₄ => ?_) fun _ _ h' => h'))
    refine wpAny_bind (wpAny_runOwn (codeAny_mono h₄ fun r s₅ h₅ => ?_))
    cases r with
    | ok f => exact wpAny_pure ⟨rfl, h₅⟩
    | error e => exact h₅.elim
end

theorem strs_snoc {y : Str} {t : Tok} : ∀ {vs : List Value} {ys : List Str}, StrsAre vs ys → StrsAre (vs ++ [.str y t]) (ys ++ [y])
  | _, _, .nil => .cons y t .nil
  | _, _, .cons z u r => .cons z u (strs_snoc r)
section
variable {prog : Program} {w : World} {A : Around} {E : Value → Shared → Prop} {s : Shared} {elt i1 : Expr} {x1 x2 : Str} {p1 p2 pos : Pos} {scope : Scope} {env : Env}
/-- the inner loop -/
theorem inner {R : Result → Shared → Prop} {t2 : Str} {i2 : Expr} {C D J : Addr} {St2 : Nat → Heap → Prop} (g : Nat → Nat → Str) {c : Nat} {pre : List Str} {v1 : Value} {keepI : Heap → Prop}
    (W : Walks prog w A J [J] [J] t2.cps.size (SignAt t2) St2) (hkind : scope.kind = .function) (hx2 : scope.names.lookup x2 = some .local) (hne : x1 ≠ x2)
    (hCD : C ≠ D) (hCJ : C ≠ J) (hDJ : D ≠ J) (hz : pre.length + t2.cps.size ≤ sizeLine)
    (hkI : ∀ h h', keepI h → (∀ b o, b ≠ C → b ≠ D → b ≠ J → h.get? b = some o → h'.get? b = some o) → keepI h')
    (helt : ∀ (h : Heap) (tk : Nat) (m₂ : Str → Option Value) (d : Nat) (v : Tok) (E' : Value → Shared → Prop), h.Ns C m₂ → m₂ x1 = some v1 → m₂ x2 = some (.str ⟨#[d]⟩ v) →
      wpAny (model prog w) A (eval elt (compEnvC scope [] C env)) (fun y s' => ∃ t tk', y = .str (g c d) t ∧ s' = { s with heap := h, toks := tk' }) E' { s with heap := h, toks := tk })
    (hR : ∀ h tk ys m', h.Ns C m' → h.get? D = some (lst ys) → StrsAre ys (pre ++ t2.cps.toList.map (g c)) → keepI h → R (.ok .next) { s with heap := h, toks := tk })
    {h₁ : Heap} {tk₁ : Nat} {ys₁ : List Value} {m₁ : Str → Option Value} (hst : St2 0 h₁) (hns : h₁.Ns C m₁) (hm : m₁ x1 = some v1) (hD : h₁.get? D = some (lst ys₁)) (hys : StrsAre ys₁ pre) (hI : keepI h₁) :
    codeAny (model prog w) A (.compLoop (cl2 elt x1 p1 i1 x2 p2 i2 scope pos) 1 (.ref J) (.ref D) (compEnvC scope [] C env)) R { s with heap := h₁, toks := tk₁ } := by
  refine loop1 (fun k s' => ∃ h' tk j ys m', s' = { s with heap := h', toks := tk } ∧ j ≤ t2.cps.size ∧ k = t2.cps.size + 1 - j ∧ St2 j h' ∧ h'.Ns C m' ∧ m' x1 = some v1 ∧ h'.get? D = some (lst ys) ∧
      StrsAre ys (pre ++ (t2.cps.toList.take j).map (g c)) ∧ keepI h') ?_ (t2.cps.size + 1) ⟨h₁, tk₁, 0, ys₁, m₁, rfl, Nat.zero_le _, rfl, hst, hns, hm, hD, by simpa using hys, hI⟩
  rintro k s' ⟨h', tk, j, ys, m', rfl, hj, rfl, hst', hn', hm', hD', hys', hI'⟩
  by_cases hlt : j < t2.cps.size
  · refine W.item j _ _ _ hlt hst' fun v h₂ tk₂ hPv hst₂ hk₂ => ?_
    obtain ⟨d, u, hd, rfl⟩ := hPv
    refine wpAny_assign_Name (wpAny_storeName_local (lookup_relabel_local hx2) (hn'.at' fun o e => hk₂ _ o (by simpa using hCJ) e) (fun h₃ hn₃ hs₃ => ?_) (by simp [compEnvC, relabel, hkind]))
    refine wpAny_mono (helt h₃ _ _ d u _ hn₃ (by simp [hne, hm']) (by simp)) (fun y s₄ h₄ => ?_) fun _ _ e => e
    obtain ⟨t, tk₄, rfl, rfl⟩ := h₄
    have zD : h₃.get? D = some (lst ys) := hs₃.extBut _ _ (Ne.symm hCD) (hk₂ _ _ (by simpa using hDJ) hD')
    have hlen : ys.length ≤ sizeLine := by
      have e : ∀ {vs : List Value} {ws : List Str}, StrsAre vs ws → vs.length = ws.length := fun h => by induction h <;> simp_all
      rw [e hys', List.length_append, List.length_map, List.length_take]
      have : t2.cps.toList.length = t2.cps.size := by simp
      omega
    refine append_at (s := { s with heap := h₃, toks := tk₄ }) (hsz := by show ys.toArray.size ≤ sizeLine; rw [List.size_toArray]; exact hlen) zD fun h₅ hs₅ hD₅ => ?_
    have kp : ∀ b o, b ≠ C → b ≠ D → b ≠ J → h'.get? b = some o → h₅.get? b = some o := fun b o hbC hbD hbJ e => hs₅.extBut b o hbD (hs₃.extBut b o hbC (hk₂ b o (by simpa using hbJ) e))
    refine ⟨t2.cps.size + 1 - (j + 1), by omega, h₅, tk₄, j + 1, ys ++ [.str (g c d) t], _, rfl, hlt, rfl, ?_, hn₃.sameBut hs₅ hCD, by simp [hne, hm'], hD₅.trans (congrArg some (lst_snoc ys _)), ?_, hkI _ _ hI' kp⟩
    · exact W.frame _ _ _ hst₂ fun b hb o e => by
        rw [List.mem_singleton.mp hb] at e ⊢
        exact hs₅.extBut _ o (Ne.symm hDJ) (hs₃.extBut _ o (Ne.symm hCJ) e)
    · have e2 : t2.cps.toList.take (j + 1) = t2.cps.toList.take j ++ [d] := by
        rw [List.take_add_one]
        have : t2.cps.toList[j]? = some d := by simpa using hd
        rw [this]; rfl
      rw [e2, List.map_append, ← List.append_assoc]
      exact strs_snoc hys'
  · obtain rfl : j = t2.cps.size := Nat.le_antisymm hj (Nat.not_lt.mp hlt)
    refine W.done _ _ _ hst' fun h₂ tk₂ hk₂ => ?_
    refine hR h₂ tk₂ ys m' (hn'.at' fun o e => hk₂ _ o (by simpa using hCJ) e) (hk₂ _ _ (by simpa using hDJ) hD') ?_ (hkI _ _ hI' fun b o _ _ hbJ e => hk₂ b o (by simpa using hbJ) e)
    rw [List.take_of_length_le (by simp)] at hys'
    exact hys'
end

section
variable {prog : Program} {w : World} {A : Around} {E : Value → Shared → Prop} {s : Shared} {elt : Expr} {x1 x2 : Str} {p1 p2 pos : Pos} {scope : Scope} {env : Env}
def rows (g : Nat → Nat → Str) (l1 l2 : List Nat) : List Str := l1.flatMap fun c => l2.map (g c)
theorem rows_len (g : Nat → Nat → Str) (l2 : List Nat) : ∀ l1 : List Nat, (rows g l1 l2).length = l1.length * l2.length
  | [] => by simp [rows]
  | c :: l1 => by
    have := rows_len g l2 l1
    unfold rows at *
    rw [List.flatMap_cons, List.length_append, this, List.length_map, List.length_cons, Nat.succ_mul, Nat.add_comm]
theorem comp2 {h₀ : Heap} {L : Addr} {m : Str → Option Value} {news : List (Addr × Obj)} {Q : Value → Shared → Prop} {t1 t2 : Str} {k1 k2 : Nat} {q1 q2 : Pos} (g : Nat → Nat → Str)
    (hh : A.handled = none) (F : Fr h₀ L s.heap m) (N : News h₀ L s.heap news)
    (hclos : closureFor scope env = pure []) (hcell : ∀ y ∈ scope.names, y.2 ≠ .cell) (hkind : scope.kind = .function)
    (hnames : ∀ y ∈ scope.names, y.2 = .local → scope.names.lookup y.1 = some .local) (hx1 : scope.names.lookup x1 = some .local) (hx2 : scope.names.lookup x2 = some .local) (hne : x1 ≠ x2)
    (hz : t1.cps.size * t2.cps.size ≤ sizeLine)
    (helt : ∀ (C : Addr) (h : Heap) (tk : Nat) (m₂ : Str → Option Value) (c d : Nat) (u v : Tok) (E' : Value → Shared → Prop), h.Ns C m₂ → m₂ x1 = some (.str ⟨#[c]⟩ u) → m₂ x2 = some (.str ⟨#[d]⟩ v) →
      wpAny (model prog w) A (eval elt (compEnvC scope [] C env)) (fun y s' => ∃ t tk', y = .str (g c d) t ∧ s' = { s with heap := h, toks := tk' }) E' { s with heap := h, toks := tk })
    (hfin : ∀ D h tk ys, StrsAre ys (rows g t1.cps.toList t2.cps.toList) → Fr h₀ L h m → News h₀ L h ((D, lst ys) :: news) → (∀ p ∈ news, p.1 < D) → Q (.ref D) { s with heap := h, toks := tk }) :
    wpAny (model prog w) A (eval (cl2 elt x1 p1 (.Constant (.str t1) k1 q1) x2 p2 (.Constant (.str t2) k2 q2) scope pos) env) Q E s := by
  rw [eval_ListComp]
  refine wpAny_comprehension_free (use := none) rfl (fun _ => rfl) hclos hkind hnames ?_
  show wpAny (model prog w) A (eval (.Constant (.str t1) k1 q1) env) _ _ _
  refine wpAny_Constant_str ?_
  refine wpAny_pyIter_str fun o1 St1 W1 hst1 => ?_
  refine wpAny_newObj_type (wpAny_newFunctionEnv hcell (by intro y hy; simp at hy) (fun h₁ hns₁ hsb₁ => ?_) hkind)
  dsimp only at hns₁ hsb₁ ⊢
  generalize hH1 : s.heap.push o1 = H1 at hst1 hns₁ hsb₁ ⊢
  generalize hH2 : H1.push { cls := .type "list", dict := none, data := .seq ([] : List Value).toArray } = H2 at hns₁ hsb₁ ⊢
  have hD : H1.objs.size = s.heap.objs.size + 1 := by rw [← hH1, Heap.size_push]
  have hC : H2.objs.size = s.heap.objs.size + 2 := by rw [← hH2, Heap.size_push, hD]
  have hCD : H2.objs.size ≠ H1.objs.size := by omega
  have hCI : H2.objs.size ≠ s.heap.objs.size := by omega
  have hDI : H1.objs.size ≠ s.heap.objs.size := by omega
  have far : ∀ (n : Nat), s.heap.objs.size ≤ n → ∀ b o, s.heap.get? b = some o → b ≠ n := fun n hn b o e => Nat.ne_of_lt (Nat.lt_of_lt_of_le (Heap.lt_size e) hn)
  have far1 : ∀ b o, H1.get? b = some o → b ≠ H2.objs.size := fun b o e => Nat.ne_of_lt (Nat.lt_of_lt_of_le (Heap.lt_size e) (by omega))
  have old : ∀ b o, s.heap.get? b = some o → h₁.get? b = some o := fun b o e => by
    exact hsb₁.extBut b o (far _ (by omega) b o e) (Heap.get?_push_of_some _ (hH2 ▸ Heap.get?_push_of_some _ (hH1 ▸ Heap.get?_push_of_some _ e)))
  have up1 : ∀ b o, H1.get? b = some o → h₁.get? b = some o := fun b o e => by
    exact hsb₁.extBut b o (far1 b o e) (Heap.get?_push_of_some _ (hH2 ▸ Heap.get?_push_of_some _ e))
  have hacc : h₁.get? H1.objs.size = some (lst []) := hsb₁.extBut _ _ (Ne.symm hCD) (Heap.get?_push_of_some _ (hH2 ▸ Heap.get?_push_size _ rfl))
  have hst₁ : St1 0 h₁ := (W1 A hh).frame _ _ _ hst1 fun b _ o e => up1 b o e
  have loop : ∀ tk₀, codeAny (model prog w) A (.compLoop (cl2 elt x1 p1 (.Constant (.str t1) k1 q1) x2 p2 (.Constant (.str t2) k2 q2) scope pos) 0 (.ref s.heap.objs.size) (.ref H1.objs.size) (compEnvC scope [] H2.objs.size env))
      (compPost (model prog w) A E none Q (.ref H1.objs.size) H2.objs.size) { s with heap := h₁, toks := tk₀ } := by
    intro tk₀
    refine loop0 (fun k s' => ∃ h' tk i ys m', s' = { s with heap := h', toks := tk } ∧ i ≤ t1.cps.size ∧ k = t1.cps.size + 1 - i ∧ St1 i h' ∧ h'.Ns H2.objs.size m' ∧ h'.get? H1.objs.size = some (lst ys) ∧
        StrsAre ys (rows g (t1.cps.toList.take i) t2.cps.toList) ∧ ∀ b o, s.heap.get? b = some o → h'.get? b = some o) (fun _ => rfl) ?_ (t1.cps.size + 1) ⟨h₁, tk₀, 0, [], _, rfl, Nat.zero_le _, rfl, hst₁, hns₁, hacc, .nil, old⟩
    rintro k s' ⟨h', tk, i, ys, m', rfl, hi, rfl, hst', hn', hD', hys', hk'⟩
    by_cases hlt : i < t1.cps.size
    · refine (W1 A hh).item i _ _ _ hlt hst' fun v h₂ tk₂ hPv hst₂ hk₂ => ?_
      obtain ⟨c, u, hc, rfl⟩ := hPv
      refine wpAny_assign_Name (wpAny_storeName_local (lookup_relabel_local hx1) (hn'.at' fun o e => hk₂ _ o (by simpa using hCI) e) (fun h₃ hn₃ hs₃ => ?_) (by simp [compEnvC, relabel, hkind]))
      refine wpAny_Constant_str ?_
      refine wpAny_pyIter_str fun o2 St2 W2 hst2 => ?_
      dsimp only at hst2 W2 ⊢
      have hCl : H2.objs.size < h₃.objs.size := hn₃.lt
      have hDl : H1.objs.size < h₃.objs.size := by omega
      have hIl : s.heap.objs.size < h₃.objs.size := by omega
      have hst₄ : St1 (i + 1) (h₃.push o2) := (W1 A hh).frame _ _ _ hst₂ fun b hb o e => by
        rw [List.mem_singleton.mp hb] at e ⊢
        exact Heap.get?_push_of_some _ (hs₃.extBut _ o (Ne.symm hCI) e)
      have zD : (h₃.push o2).get? H1.objs.size = some (lst ys) := Heap.get?_push_of_some _ (hs₃.extBut _ _ (Ne.symm hCD) (hk₂ _ _ (by simpa using hDI) hD'))
      have hkk : ∀ b o, s.heap.get? b = some o → (h₃.push o2).get? b = some o := fun b o e => by
        exact Heap.get?_push_of_some _ (hs₃.extBut _ _ (far H2.objs.size (by omega) b o e) (hk₂ _ _ (by simpa using far _ (Nat.le_refl _) b o e) (hk' b o e)))
      have hln : (rows g (t1.cps.toList.take i) t2.cps.toList).length + t2.cps.size ≤ sizeLine := by
        rw [rows_len]
        have e1 : (t1.cps.toList.take i).length = i := by rw [List.length_take]; simp; omega
        have e2 : t2.cps.toList.length = t2.cps.size := by simp
        rw [e1, e2]
        have := Nat.mul_le_mul_right t2.cps.size hlt
        rw [Nat.succ_mul] at this
        omega
      have key : ∀ tk₅, codeAny (model prog w) A (.compLoop (cl2 elt x1 p1 (.Constant (.str t1) k1 q1) x2 p2 (.Constant (.str t2) k2 q2) scope pos) 1 (.ref h₃.objs.size) (.ref H1.objs.size) (compEnvC scope [] H2.objs.size env))
          (fun r s₅ => okAnd r (∃ m, m < t1.cps.size + 1 - i ∧ ∃ h' tk i ys m', s₅ = { s with heap := h', toks := tk } ∧ i ≤ t1.cps.size ∧ m = t1.cps.size + 1 - i ∧ St1 i h' ∧ h'.Ns H2.objs.size m' ∧ h'.get? H1.objs.size = some (lst ys) ∧
            StrsAre ys (rows g (t1.cps.toList.take i) t2.cps.toList) ∧ (∀ b o, s.heap.get? b = some o → h'.get? b = some o))) { s with heap := h₃.push o2, toks := tk₅ } := by
        intro tk₅
        refine inner (C := H2.objs.size) (D := H1.objs.size) (J := h₃.objs.size) (t2 := t2) g (c := c) (pre := rows g (t1.cps.toList.take i) t2.cps.toList) (v1 := .str ⟨#[c]⟩ u) (keepI := fun h => St1 (i + 1) h ∧ ∀ b o, s.heap.get? b = some o → h.get? b = some o)
          (W2 A hh) hkind hx2 hne hCD (Nat.ne_of_lt hCl) (Nat.ne_of_lt hDl) hln ?_ (fun h tk m₂ d v E' a b e => helt _ h tk m₂ c d u v E' a b e) ?_ hst2 (hn₃.push _) (by simp) zD hys' ⟨hst₄, hkk⟩
        · rintro h h' ⟨a, b⟩ kp
          refine ⟨(W1 A hh).frame _ _ _ a fun x hx o e => ?_, fun x o e => ?_⟩
          · rw [List.mem_singleton.mp hx] at e ⊢
            exact kp _ o (Ne.symm hCI) (Ne.symm hDI) (Nat.ne_of_lt hIl) e
          · exact kp x o (far _ (by omega) x o e) (far _ (by omega) x o e) (far _ (by omega) x o e) (b x o e)
        · rintro h tk ys' m'' hn'' hD'' hys'' ⟨a, b⟩
          refine ⟨t1.cps.size + 1 - (i + 1), by omega, h, tk, i + 1, ys', m'', rfl, hlt, rfl, a, hn'', hD'', ?_, b⟩
          have e2 : t1.cps.toList.take (i + 1) = t1.cps.toList.take i ++ [c] := by
            rw [List.take_add_one]
            have : t1.cps.toList[i]? = some c := by simpa using hc
            rw [this]; rfl
          rw [e2]
          unfold rows at hys'' ⊢
          rw [List.flatMap_append, List.flatMap_singleton]
          exact hys''
      exact start1 (key _) ((W2 A hh).self 0 _ _ _ hst2 (key _))
    · obtain rfl : i = t1.cps.size := Nat.le_antisymm hi (Nat.not_lt.mp hlt)
      refine (W1 A hh).done _ _ _ hst' fun h₂ tk₂ hk₂ => ?_
      have zn := hn'.at' fun o e => hk₂ _ o (by simpa using hCI) e
      refine ⟨m', zn, fun h'' hs'' => ?_⟩
      rw [List.take_of_length_le (by simp)] at hys'
      have kk : ∀ b o, s.heap.get? b = some o → h''.get? b = some o := fun b o e => by
        exact hs''.extBut b o (far _ (by omega) b o e) (hk₂ b o (by simpa using far _ (Nat.le_refl _) b o e) (hk' b o e))
      refine hfin H1.objs.size h'' tk₂ ys hys' ⟨F.ns.at' fun o e => kk _ o e, fun b o e => kk b o (F.keep b o e), F.above⟩ (fun p hp => ?_) fun p hp => ?_
      · rcases List.mem_cons.mp hp with rfl | hp
        · refine ⟨hs''.extBut _ _ (Ne.symm hCD) (hk₂ _ _ (by simpa using hDI) hD'), ?_, ?_⟩
          · have h5 : s.heap.objs.size < H1.objs.size := by omega
            exact Ne.symm (Nat.ne_of_lt (Nat.lt_trans F.ns.lt h5))
          · cases q : h₀.get? H1.objs.size with
            | none => rfl
            | some o => exact absurd (Heap.lt_size (F.keep _ _ q)) (Nat.not_lt.mpr (by omega : s.heap.objs.size ≤ H1.objs.size))
        · exact ⟨kk _ _ (N p hp).1, (N p hp).2⟩
      · have h5 : s.heap.objs.size < H1.objs.size := by omega
        exact Nat.lt_trans (Heap.lt_size (N p hp).1) h5
  exact codeAny_compStart_list (loop _) ((W1 A hh).self 0 _ _ _ hst₁ (loop _))
end
 open PySem.W in
theorem helt_add {prog : Program} {w : World} {A : Around} {s : Shared} {x1 x2 : Str} {pa pb pc : Pos} {scope : Scope} {env : Env} (hkind : scope.kind = .function) (hx1 : scope.names.lookup x1 = some .local) (hx2 : scope.names.lookup x2 = some .local)
    (hb1 : (x1 == ("__debug__" : Str)) = false) (hb2 : (x2 == ("__debug__" : Str)) = false)
    (C : Addr) (h : Heap) (tk : Nat) (m₂ : Str → Option Value) (c d : Nat) (u v : Tok) (E' : Value → Shared → Prop) (hn : h.Ns C m₂) (h1 : m₂ x1 = some (.str ⟨#[c]⟩ u)) (h2 : m₂ x2 = some (.str ⟨#[d]⟩ v)) :
    wpAny (model prog w) A (eval (.BinOp (.Name x2 pa) .Add (.Name x1 pb) pc) (compEnvC scope [] C env)) (fun y s' => ∃ t tk', y = .str (⟨#[d]⟩ ++ ⟨#[c]⟩) t ∧ s' = { s with heap := h, toks := tk' }) E' { s with heap := h, toks := tk } := by
  refine wpAny_BinOp (wpAny_Name (wpAny_loadName_local (s := { s with heap := h, toks := tk }) hkind (lookup_relabel_local hx2) hn h2 ?_) hb2)
  refine wpAny_Name (wpAny_loadName_local (s := { s with heap := h, toks := tk }) hkind (lookup_relabel_local hx1) hn h1 ?_) hb1
  refine KXadd.add (K := 1) (L := 1) (by show (#[d] : Array Nat).size ≤ 1; simp) (by show (#[c] : Array Nat).size ≤ 1; simp) (by decide) fun t' k _ => ⟨t', k, rfl, rfl⟩
end Mine
set_option maxRecDepth 100000
set_option Elab.async false
namespace Mine
 open PySem PySem.Calls PyProof.Rows PyProof.Rows.LCg PySem.W
inductive VA (Y : Int → Value → Prop) : List Int → List Value → Prop
  | nil : VA Y [] []
  | cons {k : Int} {v : Value} {ks : List Int} {vs : List Value} : Y k v → VA Y ks vs → VA Y (k :: ks) (v :: vs)
theorem VA.snoc {Y : Int → Value → Prop} {k : Int} {v : Value} (h : Y k v) : ∀ {ks : List Int} {vs : List Value}, VA Y ks vs → VA Y (ks ++ [k]) (vs ++ [v])
  | _, _, .nil => .cons h .nil
  | _, _, .cons a r => .cons a (VA.snoc h r)
def isS (g : Int → PySem.Str) (k : Int) (v : Value) : Prop := ∃ t, v = .str (g k) t
theorem VA.strs {g : Int → PySem.Str} : ∀ {ks : List Int} {vs : List Value}, VA (isS g) ks vs → StrsAre vs (ks.map g)
  | _, _, .nil => .nil
  | _, _, .cons ⟨t, e⟩ r => e ▸ .cons _ t (VA.strs r)
def TIB (b p : Bool) (P : Prop) : Prop := b = p ∧ P
def TIEl (Y : Int → Value → Prop) (k : Int) (news : List (Addr × Obj)) (y : Value) (news' : List (Addr × Obj)) : Prop := news' = news ∧ Y k y
def TINo (news news' : List (Addr × Obj)) : Prop := news' = news
section
variable {prog : Program} {w : World} {A : Around} {h₀ : Heap} {L : Addr} {m : PySem.Str → Option Value} {env : Env} {ct elt : Expr} {x : PySem.Str} {scope : Scope} {cl : List (PySem.Str × Addr)} {s : Shared} {S : List (Addr × Obj) → Prop} {Fin : List Value → List (Addr × Obj) → Prop} {news : List (Addr × Obj)}
theorem rest_T {n : Nat} {a : Int} (p : Int → Bool) (Y : Int → Value → Prop)
    (turn : ∀ k t I oI C oC D m₂ ys h tk (E' : Value → Shared → Prop), a ≤ k → k < a + (n : Int) → NsObj oC m₂ → m₂ x = some (.int k t) → Fr h₀ L h m → News h₀ L h ((I, oI) :: (C, oC) :: (D, lst ys) :: news) → Off3 I C D news → ((@Ne Nat I C) ∧ (@Ne Nat I D) ∧ (@Ne Nat C D)) →
      wpAny (model prog w) A (isTrue ct (compEnvC scope cl C env) (eval ct (compEnvC scope cl C env))) (fun b s' => TIB b (p k) (if b = true then wpAny (model prog w) A (eval elt (compEnvC scope cl C env)) (CompEnd h₀ L m { s with heap := h, toks := tk } I oI C oC D (lst ys) S (fun y news' => TIEl Y k news y news')) E' s'
        else CompEnd h₀ L m { s with heap := h, toks := tk } I oI C oC D (lst ys) S (fun _ news' => TINo news news') Value.none s')) E' { s with heap := h, toks := tk })
    (fin : ∀ ys, VA Y ((rangeKs a n).filter p) ys → Fin ys news) : LCt.CompRestT prog w A h₀ L m env ct elt x scope cl s S (fun i v => ∃ t, v = .int (a + (i : Int)) t) Fin n 0 [] news := by
  have key : ∀ (j i : Nat) (ys : List Value), i + j = n → VA Y (((rangeKs a n).take i).filter p) ys → LCt.CompRestT prog w A h₀ L m env ct elt x scope cl s S (fun i v => ∃ t, v = .int (a + (i : Int)) t) Fin j i ys news := by
    intro j
    induction j with
    | zero =>
      intro i ys hi hy
      rw [List.take_of_length_le (by rw [rangeKs_length]; omega)] at hy
      exact LCt.CompRestT.zero (fin ys hy)
    | succ j ih =>
      intro i ys hi hy
      refine LCt.CompRestT.succ ?_
      intro v I oI C oC D m₂ h tk E' hv hC hx F N off ne
      obtain ⟨t, rfl⟩ := hv
      have hin : i < n := by omega
      have hk : (rangeKs a n)[i]? = some (a + (i : Int)) := by simp [rangeKs, hin]
      have hs : ((rangeKs a n).take (i + 1)).filter p = ((rangeKs a n).take i).filter p ++ (if p (a + (i : Int)) then [a + (i : Int)] else []) := by
        rw [List.take_add_one, hk, List.filter_append]
        simp [List.filter_cons]
      refine wpAny_mono (turn (a + (i : Int)) t I oI C oC D m₂ ys h tk E' (by omega) (by omega) hC hx F N off ne) (fun b s₂ hq => ?_) fun _ _ e => e
      obtain ⟨hb, hq⟩ := hq
      cases b with
      | true =>
        simp only [if_true] at hq ⊢
        refine wpAny_mono hq (fun y s₃ hr => ?_) fun _ _ e => e
        obtain ⟨h', tk', nw, e, F', N', off', hS, hn, hy'⟩ := hr
        rw [hn] at N' off' hS
        refine ⟨h', tk', news, e, F', N', off', hS, ih (i + 1) _ (by omega) ?_⟩
        rw [hs, ← hb, if_pos rfl]
        exact hy.snoc hy'
      | false =>
        simp only [Bool.false_eq_true, if_false] at hq ⊢
        obtain ⟨h', tk', nw, e, F', N', off', hS, hn⟩ := hq
        rw [hn] at N' off' hS
        refine ⟨h', tk', news, e, F', N', off', hS, ih (i + 1) _ (by omega) ?_⟩
        rw [hs, ← hb, if_neg (by decide), List.append_nil]
        exact hy
  exact key n 0 [] (by omega) .nil
end
end Mine
namespace Mine
theorem strs_at : ∀ {xs : List Value} {ns : List Str}, StrsAre xs ns → ∀ j (h : j < xs.length), ∃ t, xs[j] = .str (ns.getD j Str.empty) t
  | _, _, .nil, j, h => absurd h (Nat.not_lt_zero _)
  | _, _, .cons x t _, 0, _ => ⟨t, rfl⟩
  | _, _, .cons _ _ r, j + 1, h => by
    obtain ⟨t, e⟩ := strs_at r j (Nat.lt_of_succ_lt_succ h)
    exact ⟨t, by simpa using e⟩
section
variable {prog : Program} {w : World} {A : Around} {E : Value → Shared → Prop} {s : Shared} {a b : Addr} {xs ys : List Value} {ns ms : List Str} {Q : Value → Shared → Prop}
theorem ne_texts (ha : s.heap.IsList a xs.toArray) (hb : s.heap.IsList b ys.toArray) (hi : StrsAre xs ns) (hj : StrsAre ys ns) (hu : A.units < cLine) (h : Q (.bool false) s) :
    wpAny (model prog w) A (compareOp .NotEq (.ref a) (.ref b)) Q E s := by
  refine PySem.SeqAt.RcNeAt.lists (e := fun _ => true) ha hb (by rw [List.size_toArray, List.size_toArray, StrsAre.length hi, StrsAre.length hj]) hu (fun j h1 h2 => ?_) prog w E Q ?_
  · obtain ⟨t, e1⟩ := strs_at hi j (by simpa using h1)
    obtain ⟨u, e2⟩ := strs_at hj j (by simpa using h2)
    rw [List.getElem_toArray, List.getElem_toArray, e1, e2]
    have := PySem.SeqAt.EqAt.str_str (A := A.in1) (s := s) (ns.getD j Str.empty) t (ns.getD j Str.empty) u
    rwa [beq_self_eq_true] at this
  · have e : (List.range xs.toArray.size).all (fun _ => true) = true := by simp
    rw [e]; exact h
theorem ne_texts_same {h₀ : Heap} {L : Addr} {news : List (Addr × Obj)} {ca cb : Nat} (N : News h₀ L s.heap news) (ma : (a, listOf xs.toArray ca) ∈ news) (mb : (b, listOf ys.toArray cb) ∈ news) (hi : StrsAre xs ns) (hj : StrsAre ys ms) (e : ns = ms) (hu : A.units < cLine) (h : Q (.bool false) s) :
    wpAny (model prog w) A (compareOp .NotEq (.ref a) (.ref b)) Q E s := by
  subst e
  exact ne_texts ⟨_, (N _ ma).1, rfl, _, rfl⟩ ⟨_, (N _ mb).1, rfl, _, rfl⟩ hi hj hu h
end
end Mine
namespace Mine
theorem good_bare {c : ClaimW} {cl : Str → Option Addr} {mean : ExcName → Option Value} {args : List WData} {s₁ s' : Shared} {res : Result} (g : GoodW c cl mean args s₁ res { s' with gens := #[] } ∧ AllBare s'.gens) : GoodWG c cl mean args s₁ res s' :=
  ⟨g.1.1, .of_keep g.1.2.1, g.1.2.2.1, g.2⟩
theorem bare_push {gs : Array GenState} {c : Code} (h : gs = #[]) : Bare gs.size (gs.push (.fresh c)) := by
  subst h
  exact ⟨by simp, fun x hx => by simp at hx; rw [hx]; rfl⟩
theorem get_push {gs : Array GenState} {x : GenState} : (gs.push x)[gs.size]? = some x := by simp
theorem yf_post' {g h₀ : Heap} {C L : Addr} {m m' : Str → Option Value} {news led : List (Addr × Obj)} {og : Obj} {acc : List Value} {c₀ gn n₀ : Nat} (n : Nat) {s : Shared} {a S : Addr} {l : Addr} {items : List Value} {cl : Nat} {Go : Nat → Shared → Prop} (F : Fr g C s.heap m') (N : News g C s.heap led) (hsub : ∀ p ∈ (S, lstO acc c₀) :: (a, og) :: news, p ∈ led) (hl : (l, lstO items cl) ∈ led) (GK : GenKeep h₀ L m news gn g C a og) (haS : a < S) (hb : Bare gn s.gens) (hlS : l ≠ S)
    (hn : n₀ = n + items.length) (hz : acc.length + items.length ≤ sizeLine)
    (k : ∀ h' c' tk' gens', Fr g C h' m' → News g C h' ((S, lstO (acc ++ items) c') :: (a, og) :: news) → Bare gn gens' → Go n { s with heap := h', gens := gens', toks := tk' }) : YFPost gn a S n₀ Go (.ref l) s := hn ▸ yf_post F N hsub hl hlS GK haS hb hz k
theorem gen_toks {α : Type} {M : Model} {A : Around} {T : Sem α} {Q : α → Shared → Prop} {E : Value → Shared → Prop} {h : Heap} {g d os} {X : Nat} (k : ∀ tk, wpAny M A T Q E ⟨h, g, d, tk, os⟩) : wpAny M A T Q E ⟨h, g, d, X, os⟩ := k X
/-! the hex text -/
abbrev so16 : Str := Str.ofString "0123456789abcdef"
def NOk (n : Int) : Prop := 0 ≤ n ∧ n < 1180591620717411303424
def dT (b : Nat) (n : Int) : Str := if 0 < n ∧ n < 1180591620717411303424 then DG b n.toNat else Str.ofString "0"
def hexT (n : Int) : Str := dT 16 n
def TInv (b : Nat) (n₀ : Int) (text : Str) (n : Int) : Prop := 0 ≤ n ∧ NOk n₀ ∧ DG b n₀.toNat = DG b n.toNat ++ text
theorem ti_len {b : Nat} (hb : 2 ≤ b) {n₀ n : Int} {t : Str} (h : TInv b n₀ t n) : t.length ≤ 80 := by
  obtain ⟨_, h1, h2⟩ := h
  have : (DG b n₀.toNat).length ≤ 70 := by
    refine DG_len (by omega) ?_
    have e : (2 : Nat) ^ 70 = 1180591620717411303424 := by decide +kernel
    have := Nat.pow_le_pow_left hb 70
    unfold NOk at h1
    omega
  rw [h2, strLen_append] at this
  omega
theorem ti0 {b : Nat} {n : Int} (h : NOk n) : TInv b n (Str.ofString "") n ∧ (Str.ofString "").length ≤ 80 :=
  ⟨⟨h.1, h, (Str.append_empty _).symm⟩, by decide⟩
theorem dgb {b : Nat} (hb : 1 < b) {n : Int} (h : 0 < n) : DG b n.toNat = DG b (n / (b : Int)).toNat ++ DS [Nat.digitChar (n % (b : Int)).toNat] := by
  rw [DG_div hb (by omega)]
  have e1 : (n / (b : Int)).toNat = n.toNat / b := by
    conv => lhs; rw [← Int.toNat_of_nonneg (show 0 ≤ n by omega)]
    rw [← Int.natCast_ediv, Int.toNat_natCast]
  have e2 : (n % (b : Int)).toNat = n.toNat % b := by
    conv => lhs; rw [← Int.toNat_of_nonneg (show 0 ≤ n by omega)]
    rw [← Int.natCast_emod, Int.toNat_natCast]
  rw [e1, e2]
theorem n15 (n : Int) : Builtin.bitAnd n 15 = n % 16 := and_mask n 4
theorem b15lo (n : Int) : -((16 : Nat) : Int) ≤ Builtin.bitAnd n 15 := by rw [n15]; omega
theorem b15hi (n : Int) : Builtin.bitAnd n 15 < ((16 : Nat) : Int) := by rw [n15]; omega
theorem shr4 (n : Int) : n.fdiv (2 ^ Int.toNat 4) = n / 16 := by rw [fdivP]; rfl
theorem tiS {b : Nat} (hb : 2 ≤ b) {n₀ n : Int} {t : Str} (h : TInv b n₀ t n) (hp : 0 < n) : TInv b n₀ (DS [Nat.digitChar (n % (b : Int)).toNat] ++ t) (n / (b : Int)) := by
  obtain ⟨h0, h1, h2⟩ := h
  refine ⟨Int.ediv_nonneg h0 (by omega), h1, ?_⟩
  rw [h2, dgb (by omega) hp, Str.append_assoc]
theorem it16 {x : Int} (h0 : 0 ≤ x) (h1 : x < 16) : Txt.item so16 x = DS [Nat.digitChar x.toNat] := by
  have := sign16 x.toNat (by omega)
  rw [Int.toNat_of_nonneg h0] at this; exact this
theorem ti16 {n₀ n : Int} {t : Str} (h : TInv 16 n₀ t n) (hp : 0 < n) : TInv 16 n₀ (Txt.item so16 (Builtin.bitAnd n 15) ++ t) (n.fdiv (2 ^ Int.toNat 4)) ∧ (Txt.item so16 (Builtin.bitAnd n 15) ++ t).length ≤ 80 := by
  have key : TInv 16 n₀ (Txt.item so16 (Builtin.bitAnd n 15) ++ t) (n.fdiv (2 ^ Int.toNat 4)) := by
    rw [n15, shr4, it16 (by omega) (by omega)]
    exact tiS (b := 16) (by decide) h hp
  exact ⟨key, ti_len (by decide) key⟩
theorem less4 {n : Int} (h : 0 < n) : (n.fdiv (2 ^ Int.toNat 4)).toNat < n.toNat := by rw [shr4]; omega
theorem tiE {b : Nat} {n₀ n : Int} {t : Str} (h : TInv b n₀ t n) (hp : ¬ 0 < n) : t = DG b n₀.toNat := by
  obtain ⟨h0, h1, h2⟩ := h
  have e : n = 0 := by omega
  subst e
  rw [h2]
  exact (Str.empty_append _).symm
theorem tr16 {n₀ n : Int} {t : Str} (h : TInv 16 n₀ t n) (hp : ¬ 0 < n) (hz : n₀ ≠ 0) : t = hexT n₀ := by
  have h1 := h.2.1.1
  have h2 := h.2.1.2
  rw [tiE h hp]; unfold hexT dT; rw [if_pos ⟨by omega, h2⟩]
theorem tr16z {n : Int} (h : n = 0) : Str.ofString "0" = hexT n := by subst h; rfl
theorem dg70 {b : Nat} (hb : 2 ≤ b) {n : Int} (h1 : n < 1180591620717411303424) : (DG b n.toNat).length ≤ 70 := by
  refine DG_len (by omega) ?_
  have e : (2 : Nat) ^ 70 = 1180591620717411303424 := by decide +kernel
  have := Nat.pow_le_pow_left hb 70
  omega
theorem dT_len {b : Nat} (hb : 2 ≤ b) (n : Int) : (dT b n).length ≤ 80 := by
  unfold dT
  split
  · next h => have := dg70 hb h.2; omega
  · decide
theorem hex_len (n : Int) : (hexT n).length ≤ 80 := dT_len (by decide) n
theorem nok {n : Int} (h : 0 ≤ n ∧ n < 1180591620717411303424) : NOk n := h
/-! the small functions -/
def bitAt (n i : Int) : Int := n / 2 ^ i.toNat % 2
def low (n : Int) : Int := Builtin.bitAnd n (-n)
def sqI (r c : Int) : Int := 8 * r + c
def sqn (s : Int) : Str := if 0 ≤ s ∧ s < 64 then Txt.item (Str.ofString "abcdefgh") (s.fmod 8) ++ Txt.item (Str.ofString "12345678") (s.fdiv 8) else Str.ofString "a1"
theorem n1 (n : Int) : Builtin.bitAnd n 1 = n % 2 := and_mask n 1
theorem bitAt_tree (n i : Int) : Builtin.bitAnd (n.fdiv (2 ^ i.toNat)) 1 = bitAt n i := by unfold bitAt; rw [n1, fdivP]
theorem sqn_tree {s : Int} (h : 0 ≤ s ∧ s < 64) : Txt.item (Str.ofString "abcdefgh") (s.fmod 8) ++ Txt.item (Str.ofString "12345678") (s.fdiv 8) = sqn s := by unfold sqn; rw [if_pos h]
theorem f8lo (x : Int) : -((8 : Nat) : Int) ≤ x.fmod 8 := by rw [Int.fmod_eq_emod_of_nonneg _ (by decide)]; omega
theorem f8hi (x : Int) : x.fmod 8 < ((8 : Nat) : Int) := by rw [Int.fmod_eq_emod_of_nonneg _ (by decide)]; omega
theorem d8 (x : Int) : x.fdiv 8 = x / 8 := by rw [Int.fdiv_eq_ediv_of_nonneg _ (by decide)]
theorem d8lo {x : Int} (h : 0 ≤ x ∧ x < 64) : -((8 : Nat) : Int) ≤ x.fdiv 8 := by rw [d8]; omega
theorem d8hi {x : Int} (h : 0 ≤ x ∧ x < 64) : x.fdiv 8 < ((8 : Nat) : Int) := by rw [d8]; omega
theorem sqn_len (s : Int) : (sqn s).length ≤ 2 := by
  by_cases h : 0 ≤ s ∧ s < 64
  · have : ∀ k : Nat, k < 64 → (sqn (k : Int)).length ≤ 2 := by decide +kernel
    have := this s.toNat (by omega)
    rwa [Int.toNat_of_nonneg h.1] at this
  · unfold sqn; rw [if_neg h]; decide
/-! the board -/
def lbS (l : List Int) (a k : Int) : Int := if 0 ≤ (cellAt l k 0).fmod 64 ∧ (cellAt l k 0).fmod 64 < 64 then Builtin.bitOr a (1 * 2 ^ ((cellAt l k 0).fmod 64).toNat) else a
def lb (l : List Int) : Int := if (cellAt l 0 0).fmod 4 = 0 then 0 else if (cellAt l 0 0).fmod 4 = 1 then (cellAt l 2 0).fmod (2 ^ Int.toNat 64) else List.foldl (lbS l) 0 (rangeKs 3 (3 + (cellAt l 2 0).fmod 5 - 3).toNat)
theorem lbt0 {l : List Int} (h : (cellAt l 0 0).fmod 4 = 0) : 0 = lb l := by unfold lb; rw [if_pos h]
theorem lbt1 {l : List Int} (h0 : (cellAt l 0 0).fmod 4 ≠ 0) (h : (cellAt l 0 0).fmod 4 = 1) : (cellAt l 2 0).fmod (2 ^ Int.toNat 64) = lb l := by unfold lb; rw [if_neg h0, if_pos h]
theorem lbt2 {l : List Int} (h0 : (cellAt l 0 0).fmod 4 ≠ 0) (h : (cellAt l 0 0).fmod 4 ≠ 1) : List.foldl (fun a k => if 0 ≤ (cellAt l k 0).fmod 64 ∧ (cellAt l k 0).fmod 64 < 64 then Builtin.bitOr a (1 * 2 ^ ((cellAt l k 0).fmod 64).toNat) else a) 0 (rangeKs 3 (3 + (cellAt l 2 0).fmod 5 - 3).toNat) = lb l := by
  unfold lb; rw [if_neg h0, if_neg h]; rfl
theorem lbf_ok (l ks : List Int) : ∀ a, 0 ≤ a ∧ a < 2 ^ 64 → 0 ≤ List.foldl (lbS l) a ks ∧ List.foldl (lbS l) a ks < 2 ^ 64 := by
  induction ks with
  | nil => intro a h; exact h
  | cons k ks ih =>
    intro a h
    rw [List.foldl_cons]
    apply ih
    unfold lbS
    split
    · next hk =>
      refine lt_of_tb fun i hi => ?_
      rw [tb_or, tb_lt h.1 h.2 hi, Int.one_mul, tb_pow]
      simp; omega
    · exact h
theorem lb_ok (l : List Int) : 0 ≤ lb l ∧ lb l < 2 ^ 64 := by
  unfold lb
  split
  · exact ⟨by decide, by decide⟩
  · split
    · have e : (2 : Int) ^ Int.toNat 64 = 18446744073709551616 := by decide
      have e2 : (2 : Int) ^ 64 = 18446744073709551616 := by decide
      rw [e, e2, Int.fmod_eq_emod_of_nonneg _ (by decide)]
      omega
    · exact lbf_ok l _ 0 ⟨by decide, by decide⟩
/-! the drawn rows -/
def sg (B : Int) (o : Option Int) (p : Int) : Str := if B / 2 ^ p.toNat % 2 = 1 then Str.ofString "x" else if o = some p then Str.ofString "o" else Str.ofString "."
def rowS (B : Int) (o : Option Int) (r : Int) (cols : List Int) : List Str := cols.map fun c => sg B o (8 * r + c)
def RwInv (B : Int) (o : Option Int) (r : Int) (pre : List Int) (signs : List Str) : Prop := signs = rowS B o r pre
def n8 : Int := 8
theorem n8_eq : n8 = 8 := rfl
def m1 : Int := -1
theorem m1_eq : m1 = -1 := rfl
theorem hide8 {h : Heap} {r : Addr} {a c : Int} {t u v : Tok} (x : IsRange h r a 8 c t u v) : IsRange h r a n8 c t u v := x
theorem hidem {h : Heap} {r : Addr} {a c : Int} {t u v : Tok} (x : IsRange h r a (-1) c t u v) : IsRange h r a m1 c t u v := x
theorem hide0 {h : Heap} {r : Addr} {a c : Int} {t u v : Tok} (x : IsRange h r 8 a c t u v) : IsRange h r n8 a c t u v := x
def rowJ (B : Int) (o : Option Int) (r : Int) : Str := Txt.join (Str.ofString " ") (rowS B o r (rangeKs 0 8))
def rowT (B : Int) (o : Option Int) (r : Int) : Str := Str.empty ++ Str.ofString (toString (r + 1)) ++ Str.ofString " " ++ rowJ B o r
def RsInv (B : Int) (o : Option Int) (pre : List Int) (lines : List Str) : Prop := lines = pre.map (rowT B o)
theorem rs1 {B k : Int} {o : Option Int} {pre : List Int} {s : List Str} (h : RsInv B o pre s) (hl : s.length ≤ pre.length) : RsInv B o (pre ++ [k]) (s ++ [Str.empty ++ Str.ofString (toString (k + 1)) ++ Str.ofString " " ++ rowJ B o k]) ∧ (s ++ [Str.empty ++ Str.ofString (toString (k + 1)) ++ Str.ofString " " ++ rowJ B o k]).length ≤ (pre ++ [k]).length := by
  unfold RsInv at *
  refine ⟨by rw [List.map_append, h]; rfl, ?_⟩
  rw [List.length_append, List.length_append]
  simpa using hl
theorem rs0 (B : Int) (o : Option Int) : RsInv B o [] [] ∧ ([] : List Str).length ≤ ([] : List Int).length := ⟨rfl, by decide⟩
theorem rw0 (B : Int) (o : Option Int) (r : Int) : RwInv B o r [] [] ∧ ([] : List Str).length ≤ ([] : List Int).length := ⟨rfl, by decide⟩
theorem sq_ok {r c : Int} {p q : Nat} (e1 : r = 7 - (p : Int)) (l1 : p < (7 - m1).toNat) (e2 : c = 0 + (q : Int)) (l2 : q < (n8 - 0).toNat) : 0 ≤ sqI r c ∧ sqI r c < 64 := by
  unfold sqI m1 n8 at *
  omega
theorem sz8 {vs : List Value} {ws : List Str} {pre : List Int} (hs : StrsAre vs ws) (h : ws.length ≤ pre.length) (hl : pre.length < (n8 - 0).toNat) : vs.toArray.size ≤ sizeLine := by
  rw [List.size_toArray, StrsAre.length hs, sizeLine_eq]
  unfold n8 at hl
  omega
theorem sz7 {vs : List Value} {ws : List Str} {pre : List Int} (hs : StrsAre vs ws) (h : ws.length ≤ pre.length) (hl : pre.length < (7 - m1).toNat) : vs.toArray.size ≤ sizeLine := by
  rw [List.size_toArray, StrsAre.length hs, sizeLine_eq]
  unfold m1 at hl
  omega
theorem szD {vs : List Value} {ws : List Str} (hs : StrsAre vs ws) (h : ws.length ≤ (downKs 7 (7 - m1).toNat).length) : vs.toArray.size ≤ sizeLine := by
  rw [List.size_toArray, StrsAre.length hs, sizeLine_eq]
  rw [downKs_length] at h
  unfold m1 at h
  omega
theorem sg_len (B : Int) (o : Option Int) (p : Int) : (sg B o p).length = 1 := by
  unfold sg
  split
  · decide
  · split <;> decide
theorem join_eq (sep : Str) (l : List Str) : Txt.join sep l = Str.join sep l := by simpa using join_plain_closes sep l
theorem join_le {sep : Str} {b : Nat} : ∀ l : List Str, (∀ a ∈ l, a.length ≤ b) → (Str.join sep l).length ≤ l.length * (b + sep.length)
  | [], _ => Nat.zero_le _
  | [x], h => by
    have := h x (.head _)
    simp only [Str.join, List.length_cons, List.length_nil]
    omega
  | x :: y :: r, h => by
    have h1 := h x (.head _)
    have ih := join_le (sep := sep) (b := b) (y :: r) fun a ha => h a (.tail _ ha)
    have e : Str.join sep (x :: y :: r) = x ++ sep ++ Str.join sep (y :: r) := rfl
    rw [e, strLen_append, strLen_append, List.length_cons, Nat.succ_mul]
    omega
theorem row_len (B : Int) (o : Option Int) (r : Int) : (rowJ B o r).length ≤ 20 := by
  unfold rowJ
  rw [join_eq]
  refine Nat.le_trans (join_le (b := 1) _ fun a ha => ?_) (by rw [show (rowS B o r (rangeKs 0 8)).length = 8 from by unfold rowS; rw [List.length_map]; rfl]; decide)
  unfold rowS at ha
  obtain ⟨x, _, rfl⟩ := List.mem_map.mp ha
  exact Nat.le_of_eq (sg_len _ _ _)
section
variable {prog : Program} {w : World} {A : Around} {E : Value → Shared → Prop} {s : Shared} {h₀ : Heap} {L D : Addr} {news : List (Addr × Obj)} {vs : List Value} {ws : List Str} {c : Nat} {t : Tok} {Q : Value → Shared → Prop} {B r : Int} {o : Option Int}
theorem join_row (hs : StrsAre vs ws) (hr : RwInv B o r (rangeKs 0 (n8 - 0).toNat) ws) (N : News h₀ L s.heap news) (hm : (D, listOf vs.toArray c) ∈ news)
    (h : ∀ t' k, (rowJ B o r).length ≤ 20 → Q (.str (rowJ B o r) t') { s with toks := k }) : wpAny (model prog w) A (call (.builtin "str.join") [.str (Str.ofString " ") t, .ref D]) Q E s := by
  have e : ws = rowS B o r (rangeKs 0 8) := hr
  subst e
  have hl : s.heap.IsList D vs.toArray := ⟨_, (N _ hm).1, rfl, _, rfl⟩
  refine join_madeW (l := rowS B o r (rangeKs 0 8)) (g := id) 1 hl (by rw [List.map_id]; exact hs.carried) (fun a ha => ?_) (by unfold rowS; rw [List.length_map]; decide) (by decide) fun t' k => ?_
  · unfold rowS at ha
    obtain ⟨x, _, rfl⟩ := List.mem_map.mp ha
    exact Nat.le_of_eq (sg_len _ _ _)
  · rw [List.map_id]
    exact h t' k (row_len _ _ _)
end
theorem bit_ne {B p : Int} (h : bitAt B p ≠ 0) : B / 2 ^ p.toNat % 2 = 1 := by unfold bitAt at h; omega
theorem bit_eq {B p : Int} (h : bitAt B p = 0) : ¬ B / 2 ^ p.toNat % 2 = 1 := by unfold bitAt at h; omega
theorem rwS {B r k : Int} {o : Option Int} {pre : List Int} {s : List Str} {x : Str} (h : RwInv B o r pre s) (hl : s.length ≤ pre.length) (e : x = sg B o (sqI r k)) : RwInv B o r (pre ++ [k]) (s ++ [x]) ∧ (s ++ [x]).length ≤ (pre ++ [k]).length := by
  unfold RwInv rowS at *
  subst e
  refine ⟨by rw [List.map_append, h]; rfl, ?_⟩
  rw [List.length_append, List.length_append]
  simpa using hl
theorem rw1 {B r k : Int} {o : Option Int} {pre : List Int} {s : List Str} (h : RwInv B o r pre s) (hl : s.length ≤ pre.length) (hb : bitAt B (sqI r k) ≠ 0) : RwInv B o r (pre ++ [k]) (s ++ [Str.ofString "x"]) ∧ (s ++ [Str.ofString "x"]).length ≤ (pre ++ [k]).length :=
  rwS h hl (by unfold sg; rw [if_pos (bit_ne hb)])
theorem rw2 {B r k : Int} {pre : List Int} {s : List Str} (h : RwInv B none r pre s) (hl : s.length ≤ pre.length) (hb : bitAt B (sqI r k) = 0) : RwInv B none r (pre ++ [k]) (s ++ [Str.ofString "."]) ∧ (s ++ [Str.ofString "."]).length ≤ (pre ++ [k]).length :=
  rwS h hl (by unfold sg; rw [if_neg (bit_eq hb), if_neg (by simp)])
theorem rw3 {B r k o : Int} {pre : List Int} {s : List Str} (h : RwInv B (some o) r pre s) (hl : s.length ≤ pre.length) (hb : bitAt B (sqI r k) = 0) (he : sqI r k = o) : RwInv B (some o) r (pre ++ [k]) (s ++ [Str.ofString "o"]) ∧ (s ++ [Str.ofString "o"]).length ≤ (pre ++ [k]).length :=
  rwS h hl (by unfold sg; rw [if_neg (bit_eq hb), if_pos (by rw [he])])
theorem rw4 {B r k o : Int} {pre : List Int} {s : List Str} (h : RwInv B (some o) r pre s) (hl : s.length ≤ pre.length) (hb : bitAt B (sqI r k) = 0) (he : sqI r k ≠ o) : RwInv B (some o) r (pre ++ [k]) (s ++ [Str.ofString "."]) ∧ (s ++ [Str.ofString "."]).length ≤ (pre ++ [k]).length :=
  rwS h hl (by unfold sg; rw [if_neg (bit_eq hb), if_neg (by intro e; exact he (Option.some.inj e).symm)])
/-! the generator's own steps -/
def rowsL (B : Int) (o : Option Int) (x : Str) : List Str := (downKs 7 8).map (rowT B o) ++ [x]
section
variable {g h₀ : Heap} {C L a S : Addr} {m m' : Str → Option Value} {news : List (Addr × Obj)} {og : Obj} {c₀ gn : Nat} {s : Shared}
theorem yf15 {l : Addr} {vs : List Value} {ls : List Str} {B : Int} {o : Option Int} {x : Str} {t : Tok} {c : Nat} {Go : Nat → Shared → Prop} (hr : RsInv B o (downKs 7 (7 - m1).toNat) ls) (hs : StrsAre vs ls) (GK : GenKeep h₀ L m news gn g C a og) (haS : a < S) (hb : Bare gn s.gens) (F : Fr g C s.heap m')
    (N : News g C s.heap ((l, listOf (vs.toArray.push (Value.str x t)) c) :: (S, lstO [] c₀) :: (a, og) :: news)) (hlS : S < l)
    (k : ∀ h' c' tk' gens' items, StrsAre items (rowsL B o x) → Fr g C h' m' → News g C h' ((S, lstO items c') :: (a, og) :: news) → Bare gn gens' → Go 2 { s with heap := h', gens := gens', toks := tk' }) : YFPost gn a S 11 Go (.ref l) s := by
  rw [List.push_toArray] at N
  have e : ls = (downKs 7 8).map (rowT B o) := hr
  have hl : vs.length = 8 := by rw [StrsAre.length hs, e, List.length_map]; rfl
  refine yf_post' 2 F N (fun p hp => .tail _ hp) (.head _) GK haS hb (Ne.symm (Nat.ne_of_lt hlS)) (by rw [List.length_append, hl]; rfl) (by rw [List.length_append, hl, sizeLine_eq]; simp) fun h' c' tk' gens' F' N' hb' => ?_
  refine k h' c' tk' gens' (vs ++ [Value.str x t]) ?_ F' N' hb'
  unfold rowsL
  rw [← e]
  exact StrsAre.append' hs (.cons x t .nil)
theorem y15 {x : Str} {t : Tok} {items : List Value} {ws : List Str} {Go : Shared → Prop} (hs : StrsAre items ws) (GK : GenKeep h₀ L m news gn g C a og) (haS : a < S) (hb : Bare gn s.gens) (F : Fr g C s.heap m') (N : News g C s.heap ((S, lstO items c₀) :: (a, og) :: news)) (hz : ws.length ≤ 100)
    (k : ∀ h' c' tk' gens' items', StrsAre items' (ws ++ [x]) → Fr g C h' m' → News g C h' ((S, lstO items' c') :: (a, og) :: news) → Bare gn gens' → Go { s with heap := h', gens := gens', toks := tk' }) : YPost gn a S Go (.str x t) s :=
  y_post F N (fun p hp => hp) GK haS hb (by rw [StrsAre.length hs, sizeLine_eq]; omega) fun h' c' tk' gens' F' N' hb' => k h' c' tk' gens' _ (StrsAre.append' hs (.cons x t .nil)) F' N' hb'
theorem rowsL_len (B : Int) (o : Option Int) (x : Str) : (rowsL B o x).length ≤ 100 := by unfold rowsL; rw [List.length_append, List.length_map, downKs_length]; simp
theorem rowsL_len2 (B : Int) (o : Option Int) (x y : Str) : (rowsL B o x ++ [y]).length ≤ 100 := by unfold rowsL; rw [List.length_append, List.length_append, List.length_map, downKs_length]; simp
end
/-! the squares -/
theorem hex_ok (l : List Int) : 0 ≤ lb l ∧ lb l < 1180591620717411303424 := by
  have h := lb_ok l
  have e2 : (2 : Int) ^ 64 = 18446744073709551616 := by decide
  omega
theorem sqo0 (l : List Int) : SqO (lb l) (lb l) [] ∧ ([] : List Int).length ≤ 64 := ⟨sqo_start (lb_ok l).1 (lb_ok l).2, by decide⟩
theorem sqo1 {P b : Int} {l : List Int} (h : SqO P b l) (hb : 0 < b) : SqO P (Builtin.bitXor b (low b)) (l ++ [(Builtin.Int.intBits (low b) : Int) - 1]) ∧ (l ++ [(Builtin.Int.intBits (low b) : Int) - 1]).length ≤ 64 := by
  have key := sqo_step h hb
  exact ⟨key, key.1.2.1⟩
theorem sqo_less {P b : Int} {l : List Int} (h : SqO P b l) (hb : 0 < b) : (Builtin.bitXor b (low b)).toNat < b.toNat := sqi_less h.1 hb
theorem sqn_ok {P s b : Int} {l : List Int} (h : SqO P b l) (hm : s ∈ l) : 0 ≤ s ∧ s < 64 := h.1.1.2.2.1 s hm
theorem szq {vs : List Value} {l : List Int} (hi : IntsAre vs l) (h : l.length ≤ 64) : vs.toArray.size ≤ sizeLine := by rw [List.size_toArray, hi.length, sizeLine_eq]; omega
def nmS (B : Int) : Str := Txt.join (Str.ofString " ") ((sqs B).map sqn)
theorem nm_len {l : List Int} (hl : l.length ≤ 64) : (Txt.join (Str.ofString " ") (l.map sqn)).length ≤ 200 := by
  rw [join_eq]
  refine Nat.le_trans (join_le (b := 2) _ fun a ha => ?_) (by rw [List.length_map]; show l.length * (2 + 1) ≤ 200; omega)
  obtain ⟨x, _, rfl⟩ := List.mem_map.mp ha
  exact sqn_len x
section
variable {prog : Program} {w : World} {A : Around} {E : Value → Shared → Prop} {s : Shared} {h₀ : Heap} {L D : Addr} {news : List (Addr × Obj)} {ys : List Value} {t : Tok} {Q : Value → Shared → Prop} {B b : Int} {l : List Int}
theorem join_names (hq : SqO B b l) (hb : ¬ 0 < b) (hc : CarriedAll ys (l.map fun k => PyData.str (sqn k))) (N : News h₀ L s.heap ((D, LCg.lst ys) :: news))
    (h : ∀ t' k, (nmS B).length ≤ 200 → Q (.str (nmS B) t') { s with toks := k }) : wpAny (model prog w) A (call (.builtin "str.join") [.str (Str.ofString " ") t, .ref D]) Q E s := by
  have hl : s.heap.IsList D ys.toArray := ⟨_, (N _ (.head _)).1, rfl, _, rfl⟩
  have h64 : l.length ≤ 64 := hq.1.2.1
  refine KT.join_B 2 hl hc (fun a _ => sqn_len a) (by omega) (by decide) fun t' k => ?_
  have e := sqo_end hq hb
  subst e
  exact h t' k (nm_len (sqs_len B))
theorem y15b {g : Heap} {C a S : Addr} {m m' : Str → Option Value} {og : Obj} {c₀ gn : Nat} {p1 p2 : Addr × Obj} {x : Str} {t : Tok} {items : List Value} {ws : List Str} {Go : Shared → Prop} (hs : StrsAre items ws) (GK : GenKeep h₀ L m news gn g C a og) (haS : a < S) (hb : Bare gn s.gens) (F : Fr g C s.heap m') (N : News g C s.heap (p1 :: p2 :: (S, lstO items c₀) :: (a, og) :: news)) (hz : ws.length ≤ 100)
    (k : ∀ h' c' tk' gens' items', StrsAre items' (ws ++ [x]) → Fr g C h' m' → News g C h' ((S, lstO items' c') :: (a, og) :: news) → Bare gn gens' → Go { s with heap := h', gens := gens', toks := tk' }) : YPost gn a S Go (.str x t) s :=
  y_post F N (fun p hp => .tail _ (.tail _ hp)) GK haS hb (by rw [StrsAre.length hs, sizeLine_eq]; omega) fun h' c' tk' gens' F' N' hb' => k h' c' tk' gens' _ (StrsAre.append' hs (.cons x t .nil)) F' N' hb'
end
theorem no_squares {B b : Int} {l : List Int} (hq : SqO B b l) (hb : ¬ 0 < b) (h : ¬ 0 < l.length) (h0 : 0 ≤ B) (h1 : B < 2 ^ 64) : B = 0 := by
  have e := sqo_end hq hb
  subst e
  exact (sqs_nil h0 h1).mp (List.length_eq_zero_iff.mp (by omega))
theorem g_end2 {prog : Program} {w : World} {A : Around} {n : Nat} {s₀ s : Shared} {env : Env} {body : List Stmt} {gn : Nat} {a S : Addr} {H : Value → Sem PySem.Fin} {g h₀ : Heap} {C L : Addr} {m m' : Str → Option Value} {news led : List (Addr × Obj)} {og : Obj} {acc : List Value} {c₀ : Nat} {T : Shared → Prop} {K : Flow → Sem PySem.Fin}
    (F : Fr g C s.heap m') (N : News g C s.heap led) (hsub : ∀ p ∈ (S, lstO acc c₀) :: (a, og) :: news, p ∈ led) (GK : GenKeep h₀ L m news gn g C a og) (hb : Bare gn s.gens)
    (hK : K .next = leafOf (.ok (.ret .none)))
    (k : ∀ h' tk' gens', Fr h₀ L h' m → News h₀ L h' ((S, lstO acc c₀) :: news) → Bare gn gens' → T { s with heap := h', gens := gens', toks := tk' }) :
    Seg (model prog w) A (RS gn fun s' => Value.none = Value.none ∧ T s') (YS gn a S) n s₀ (.func body env) ((execs [] env).wrap K H id id) [] s :=
  g_end (Q := fun _ s' => T s') F N hsub GK hb hK k
/-! the law's own rows -/
abbrev theB {o : Obj} {B : Int} {t : Tok} (_h : o.data = Data.cell (some (Value.int B t))) : Int := B
def lnT (B : Int) (o : Option Int) (r : Int) (cols : List Int) : Str := cols.foldl (fun acc c => acc ++ Str.ofString " " ++ sg B o (8 * (r - 1) + c)) (Str.ofString (toString r))
def LnInv (B : Int) (o : Option Int) (r : Int) (pre : List Int) (line : Str) : Prop := line = lnT B o r pre
def wsT (B : Int) (o : Option Int) (r : Int) : Str := lnT B o r (rangeKs 0 8)
def WsInv (B : Int) (o : Option Int) (pre : List Int) (want : List Str) : Prop := want = pre.map (wsT B o)
/-! the rows are the same, the hex text too -/
theorem row_same (B : Int) (o : Option Int) (r : Int) : rowT B o r = wsT B o (r + 1) := by
  unfold rowT wsT rowJ lnT rowS
  rw [join_eq]
  have e : rangeKs 0 8 = [0, 1, 2, 3, 4, 5, 6, 7] := by decide
  rw [e]
  have e2 : r + 1 - 1 = r := by omega
  simp only [List.map_cons, List.map_nil, List.foldl_cons, List.foldl_nil, Str.join, e2, Str.append_assoc, Str.empty_append]
theorem rows_same (B : Int) (o : Option Int) : (downKs 7 8).map (rowT B o) = (downKs 8 8).map (wsT B o) := by
  have e1 : downKs 7 8 = [7, 6, 5, 4, 3, 2, 1, 0] := by decide
  have e2 : downKs 8 8 = [8, 7, 6, 5, 4, 3, 2, 1] := by decide
  rw [e1, e2]
  simp only [List.map_cons, List.map_nil, row_same]
  rfl
theorem base_eq (p : String) (b : Nat) {i : Int} (h : 0 ≤ i) : baseText p b i = Str.ofString p ++ DS (Nat.toDigits b i.toNat) := by
  unfold baseText
  have e : i.natAbs = i.toNat := by omega
  rw [if_neg (by omega), e, ofString_DS (Nat.toDigits b i.toNat)]
  have e2 : Str.ofString "" ++ Str.ofString p = Str.ofString p := Str.empty_append _
  rw [e2]
theorem dsd {b : Nat} (hb : 2 ≤ b) {n : Int} (h : 0 ≤ n ∧ n < 1180591620717411303424) : DS (Nat.toDigits b n.toNat) = dT b n := by
  unfold dT
  by_cases hz : n = 0
  · subst hz
    rw [if_neg (by decide)]
    show DS (Nat.toDigits b 0) = _
    rw [Nat.toDigits_of_lt_base (by omega)]; rfl
  · rw [if_pos ⟨by omega, h.2⟩, DS_pos (by omega)]
theorem bt_len {p : String} {b : Nat} (hb : 2 ≤ b) (hp : p.length ≤ 10) {n : Int} (h : 0 ≤ n ∧ n < 1180591620717411303424) : (baseText p b n).length ≤ sizeLine := by
  rw [base_eq p b h.1, strLen_append, dsd hb h, sizeLine_eq, PySem.ofString_length]
  have := dT_len hb n
  omega
theorem hex_same {B : Int} (h : 0 ≤ B ∧ B < 1180591620717411303424) : baseText "0x" 16 B = Str.ofString "0x" ++ hexT B := by
  rw [base_eq "0x" 16 h.1, dsd (by decide) h]; rfl
/-! the names -/
def calledL : List Str := rows (fun c d => (⟨#[d]⟩ : Str) ++ ⟨#[c]⟩) (Str.ofString "12345678").cps.toList (Str.ofString "abcdefgh").cps.toList
def calledAt (i : Int) : Str := calledL.getD i.toNat Str.empty
theorem called_is : ∀ j : Nat, j < 64 → calledAt (j : Int) = sqn (j : Int) := by decide +kernel
def preP (B i : Int) : Bool := (B.fdiv (2 ^ i.toNat)).fmod 2 == 1
theorem preP_tb (B : Int) (i : Nat) : preP B (i : Int) = tb B i := by
  unfold preP tb
  rw [Int.toNat_natCast, fdivP, Int.fmod_eq_emod_of_nonneg _ (by decide)]
  by_cases h : B / 2 ^ i % 2 = 1 <;> simp [h]
theorem present_is (B : Int) : ((rangeKs 0 64).filter (preP B)).map calledAt = (sqs B).map sqn := by
  have e : rangeKs 0 64 = (List.range 64).map (fun i : Nat => (i : Int)) := by decide +kernel
  rw [e, List.filter_map, List.map_map]
  unfold sqs
  rw [List.map_map]
  have e2 : (List.range 64).filter (preP B ∘ fun i : Nat => (i : Int)) = (List.range 64).filter (fun i => tb B i) := by
    congr 1; funext i; exact preP_tb B i
  rw [e2]
  apply List.map_congr_left
  intro i hi
  exact called_is i (List.mem_range.mp (List.mem_filter.mp hi).1)
/-! the law's own rows, turn by turn -/
theorem ts_len : ∀ j : Nat, j < 10 → (Str.ofString (toString (j : Int))).length ≤ 4 := by decide +kernel
theorem ln0 {B r : Int} {o : Option Int} {p : Nat} (e : r = n8 - (p : Int)) (l : p < (n8 - 0).toNat) : LnInv B o r [] (Str.ofString (toString r)) ∧ (Str.ofString (toString r)).length ≤ 4 + 2 * ([] : List Int).length := by
  refine ⟨rfl, ?_⟩
  unfold n8 at *
  have h := ts_len r.toNat (by omega)
  rw [Int.toNat_of_nonneg (by omega)] at h
  exact h
theorem lnS {B r k : Int} {o : Option Int} {pre : List Int} {line x : Str} (h : LnInv B o r pre line) (hl : line.length ≤ 4 + 2 * pre.length) (e : x = sg B o (8 * (r - 1) + k)) : LnInv B o r (pre ++ [k]) (line ++ Str.ofString " " ++ x) ∧ (line ++ Str.ofString " " ++ x).length ≤ 4 + 2 * (pre ++ [k]).length := by
  unfold LnInv lnT at *
  subst e
  refine ⟨by rw [List.foldl_append, ← h]; rfl, ?_⟩
  rw [strLen_append, strLen_append, sg_len, List.length_append]
  have e1 : (Str.ofString " ").length = 1 := by decide
  rw [e1]
  simp only [List.length_cons, List.length_nil]
  omega
def lsg (B p o : Int) : Str := sg B (some o) p
theorem fm2 (B : Int) (k : Nat) : (B.fdiv (2 ^ k)).fmod 2 = B / 2 ^ k % 2 := by rw [fdivP, Int.fmod_eq_emod_of_nonneg _ (by decide)]
theorem lst1 {B p o : Int} (h : (B.fdiv (2 ^ p.toNat)).fmod 2 = 1) : Str.ofString "x" = lsg B p o := by
  rw [fm2] at h; unfold lsg sg; rw [if_pos h]
theorem lst2 {B p o : Int} (h : (B.fdiv (2 ^ p.toNat)).fmod 2 ≠ 1) (he : p = o) : Str.ofString "o" = lsg B p o := by
  rw [fm2] at h; unfold lsg sg; rw [if_neg h, if_pos (by rw [he])]
theorem lst3 {B p o : Int} (h : (B.fdiv (2 ^ p.toNat)).fmod 2 ≠ 1) (he : p ≠ o) : Str.ofString "." = lsg B p o := by
  rw [fm2] at h; unfold lsg sg; rw [if_neg h, if_neg (by intro e; exact he (Option.some.inj e).symm)]
theorem lsg_len (B p o : Int) : (lsg B p o).length ≤ 1 := Nat.le_of_eq (sg_len _ _ _)
theorem lnI {B r k o : Int} {pre : List Int} {line : Str} (h : LnInv B (some o) r pre line) (hl : line.length ≤ 4 + 2 * pre.length) : LnInv B (some o) r (pre ++ [k]) (line ++ Str.ofString " " ++ lsg B (8 * (r - 1) + k) o) ∧ (line ++ Str.ofString " " ++ lsg B (8 * (r - 1) + k) o).length ≤ 4 + 2 * (pre ++ [k]).length := lnS h hl rfl
theorem lnX {B r k : Int} {pre : List Int} {line : Str} (h : LnInv B none r pre line) (hl : line.length ≤ 4 + 2 * pre.length) (hb : (B.fdiv (2 ^ (8 * (r - 1) + k).toNat)).fmod 2 = 1) : LnInv B none r (pre ++ [k]) (line ++ Str.ofString " " ++ Str.ofString "x") ∧ (line ++ Str.ofString " " ++ Str.ofString "x").length ≤ 4 + 2 * (pre ++ [k]).length :=
  lnS h hl (by rw [fm2] at hb; unfold sg; rw [if_pos hb])
theorem lnD {B r k : Int} {pre : List Int} {line : Str} (h : LnInv B none r pre line) (hl : line.length ≤ 4 + 2 * pre.length) (hb : (B.fdiv (2 ^ (8 * (r - 1) + k).toNat)).fmod 2 ≠ 1) : LnInv B none r (pre ++ [k]) (line ++ Str.ofString " " ++ Str.ofString ".") ∧ (line ++ Str.ofString " " ++ Str.ofString ".").length ≤ 4 + 2 * (pre ++ [k]).length :=
  lnS h hl (by rw [fm2] at hb; unfold sg; rw [if_neg hb, if_neg (by simp)])
theorem ws0 (B : Int) (o : Option Int) : WsInv B o [] [] ∧ ([] : List Str).length ≤ ([] : List Int).length := ⟨rfl, by decide⟩
theorem ws1 {B r : Int} {o : Option Int} {pre : List Int} {want : List Str} {line : Str} (h : WsInv B o pre want) (hl : want.length ≤ pre.length) (hn : LnInv B o r (rangeKs 0 (n8 - 0).toNat) line) : WsInv B o (pre ++ [r]) (want ++ [line]) ∧ (want ++ [line]).length ≤ (pre ++ [r]).length := by
  unfold WsInv at *
  have e : line = wsT B o r := hn
  refine ⟨by rw [List.map_append, h, e]; rfl, ?_⟩
  rw [List.length_append, List.length_append]
  simpa using hl
/-! the names or (empty) -/
def nmF (B : Int) : Str := if B = 0 then Str.ofString "(empty)" else nmS B
theorem nmF_some {B b : Int} {l : List Int} (hq : SqO B b l) (hb : ¬ 0 < b) (h : 0 < l.length) : nmS B = nmF B := by
  have e := sqo_end hq hb
  unfold nmF
  by_cases hB : B = 0
  · subst hB; rw [e, sqs_zero] at h; simp at h
  · rw [if_neg hB]
theorem nmF_none {b : Int} {s l : List Int} (hq : SqO (lb s) b l) (hb : ¬ 0 < b) (h : ¬ 0 < l.length) : Str.ofString "(empty)" = nmF (lb s) := by
  have e := no_squares hq hb h (lb_ok s).1 (lb_ok s).2
  unfold nmF
  rw [if_pos e]
theorem nmF_zero {B : Int} (h : B = 0) : Str.ofString "(empty)" = nmF B := by unfold nmF; rw [if_pos h]
theorem nmF_not {B : Int} (h : B ≠ 0) : nmS B = nmF B := by unfold nmF; rw [if_neg h]
def CutS (X : Str) (s : Shared) (v : Value) (s' : Shared) : Prop := ∃ t tk, v = .str X t ∧ s' = { s with toks := tk }
theorem cutS_intro {X x : Str} {s : Shared} {t : Tok} {k : Nat} (e : x = X) : CutS X s (.str x t) { s with toks := k } := ⟨t, k, by rw [e], rfl⟩
theorem cut_txt {M : Model} {A : Around} {T : Sem Value} {Q E : Value → Shared → Prop} {s : Shared} (X : Str) (h1 : wpAny M A T (CutS X s) E s) (h2 : ∀ t tk, Q (.str X t) { s with toks := tk }) : wpAny M A T Q E s :=
  wpAny_mono h1 (fun v s' h => by obtain ⟨t, tk, rfl, rfl⟩ := h; exact h2 t tk) fun _ _ e => e
abbrev theP {P b : Int} {l : List Int} (_h : SqO P b l) : Int := P
/-! the last comparison -/
theorem final_same {B : Int} (o : Option Int) (x : Str) (h : 0 ≤ B ∧ B < 1180591620717411303424) : rowsL B o x ++ [Str.ofString "0x" ++ hexT B] ++ [nmF B] = (downKs 8 8).map (wsT B o) ++ [x] ++ [baseText "0x" 16 B] ++ [nmF B] := by
  unfold rowsL
  rw [rows_same, hex_same h]
/-! the names by the law -/
structure KMark : Prop where
section
variable {prog : Program} {w : World} {A : Around} {E : Value → Shared → Prop} {s : Shared} {h₀ : Heap} {L D : Addr} {news : List (Addr × Obj)} {ys : List Value} {t : Tok} {Q : Value → Shared → Prop} {B : Int}
theorem join_present (hv : VA (isS calledAt) ((rangeKs 0 64).filter (preP B)) ys) (N : News h₀ L s.heap news) (hm : (D, LCg.lst ys) ∈ news)
    (h : ∀ t' k, (nmS B).length ≤ 200 → Q (.str (nmS B) t') { s with toks := k }) : wpAny (model prog w) A (call (.builtin "str.join") [.str (Str.ofString " ") t, .ref D]) Q E s := by
  have hs := hv.strs
  rw [present_is] at hs
  have hl : s.heap.IsList D ys.toArray := ⟨_, (N _ hm).1, rfl, _, rfl⟩
  refine join_madeW (l := (sqs B).map sqn) (g := id) 2 hl (by rw [List.map_id]; exact hs.carried) (fun a ha => ?_) (by rw [List.length_map]; have := sqs_len B; omega) (by decide) fun t' k => ?_
  · obtain ⟨x, _, rfl⟩ := List.mem_map.mp ha
    exact sqn_len x
  · rw [List.map_id]
    exact h t' k (nm_len (sqs_len B))
end
theorem ti_rangeP {prog : Program} {w : World} {A : Around} {h₀ : Heap} {L : Addr} {m : Str → Option Value} {env : Env} {ct elt : Expr} {x : Str} {scope : Scope} {cl : List (Str × Addr)} {s : Shared} {S : List (Addr × Obj) → Prop} {Fin : List Value → List (Addr × Obj) → Prop} {news : List (Addr × Obj)} {n : Nat} {a B : Int} {o : Obj} {tc : Tok}
    (_hc : o.data = Data.cell (some (Value.int B tc)))
    (turn : ∀ k t I oI C oC D m₂ ys h tk (E' : Value → Shared → Prop), a ≤ k → k < a + (n : Int) → LCg.NsObj oC m₂ → m₂ x = some (.int k t) → Fr h₀ L h m → News h₀ L h ((I, oI) :: (C, oC) :: (D, LCg.lst ys) :: news) → LCg.Off3 I C D news → ((@Ne Nat I C) ∧ (@Ne Nat I D) ∧ (@Ne Nat C D)) → KMark →
      wpAny (model prog w) A (isTrue ct (compEnvC scope cl C env) (eval ct (compEnvC scope cl C env))) (fun b s' => TIB b (preP B k) (if b = true then wpAny (model prog w) A (eval elt (compEnvC scope cl C env)) (LCg.CompEnd h₀ L m { s with heap := h, toks := tk } I oI C oC D (LCg.lst ys) S (fun y news' => TIEl (isS calledAt) k news y news')) E' s'
        else LCg.CompEnd h₀ L m { s with heap := h, toks := tk } I oI C oC D (LCg.lst ys) S (fun _ news' => TINo news news') Value.none s')) E' { s with heap := h, toks := tk })
    (fin : ∀ ys, VA (isS calledAt) ((rangeKs a n).filter (preP B)) ys → Fin ys news) : LCt.CompRestT prog w A h₀ L m env ct elt x scope cl s S (fun i v => ∃ t, v = .int (a + (i : Int)) t) Fin n 0 [] news := rest_T (preP B) (isS calledAt) (fun k t I oI C oC D m₂ ys h tk E' a b c d e f g i => turn k t I oI C oC D m₂ ys h tk E' a b c d e f g i ⟨⟩) fin
section
open PySem.Calls
variable {prog : Program} {w : World} {A : Around} {E : Value → Shared → Prop} {s : Shared} {value slice : PySem.Expr} {l : Addr} {vs : List Value} {i : Int} {u : Tok} {Q : Value → Shared → Prop}
theorem called_len : calledL.length = 64 := by decide +kernel
theorem item_called {h₀ : Heap} {L : Addr} {news : List (Addr × Obj)} (N : News h₀ L s.heap news) (hw : StrsAre vs calledL) (hm : (l, LCg.lst vs) ∈ news) (h0 : 0 ≤ i) (h1 : i < 0 + ((64 : Nat) : Int)) (h : ∀ t', Q (.str (calledAt i) t') s)
    (hs : subscripted slice false (.ref l) (.int i u) = operate [.ref l, .int i u] (getItem (.ref l) (.int i u)) := by with_unfolding_all rfl) :
    wpAny (model prog w) A (subscriptTail value slice (.ref l) (.int i u)) Q E s := KTb.item_list ⟨_, (N _ hm).1, rfl, _, rfl⟩ hw h0 (by rw [called_len]; omega) (by omega) (fun t' _ => h t') hs
theorem comp_called {h₀ : Heap} {L : Addr} {m : Str → Option Value} {news : List (Addr × Obj)} {x1 x2 : Str} {p1 p2 pa pb pc pos : Pos} {scope : Scope} {env : Env} {k1 k2 : Nat} {q1 q2 : Pos}
    (hh : A.handled = none) (F : Fr h₀ L s.heap m) (N : News h₀ L s.heap news)
    (hclos : closureFor scope env = pure []) (hcell : ∀ y ∈ scope.names, y.2 ≠ .cell) (hkind : scope.kind = .function)
    (hnames : ∀ y ∈ scope.names, y.2 = .local → scope.names.lookup y.1 = some .local) (hx1 : scope.names.lookup x1 = some .local) (hx2 : scope.names.lookup x2 = some .local) (hne : x1 ≠ x2)
    (hb1 : (x1 == ("__debug__" : Str)) = false) (hb2 : (x2 == ("__debug__" : Str)) = false)
    (hfin : ∀ D h tk ys, StrsAre ys calledL → Fr h₀ L h m → News h₀ L h ((D, LCg.lst ys) :: news) → (∀ p ∈ news, p.1 < D) → Q (.ref D) { s with heap := h, toks := tk }) :
    wpAny (model prog w) A (eval (cl2 (.BinOp (.Name x2 pa) .Add (.Name x1 pb) pc) x1 p1 (.Constant (.str (Str.ofString "12345678")) k1 q1) x2 p2 (.Constant (.str (Str.ofString "abcdefgh")) k2 q2) scope pos) env) Q E s :=
  comp2 (fun c d => (⟨#[d]⟩ : Str) ++ (⟨#[c]⟩ : Str)) hh F N hclos hcell hkind hnames hx1 hx2 hne (by decide) (helt_add hkind hx1 hx2 hb1 hb2) hfin
end
/-! powers -/
theorem pxne (k : Nat) : (2 : Int) ^ k ≠ 0 := by have := ppos k; omega
theorem pl1 {p : Int} (h : 0 ≤ p ∧ p < 64) : p ≤ 1000000 := by omega
theorem pl2 {p : Int} (h : 0 ≤ p ∧ p < 64) : p < 9000 := by omega
theorem pw0 {r c : Int} {p q : Nat} (e1 : r = n8 - (p : Int)) (l1 : p < (n8 - 0).toNat) (e2 : c = 0 + (q : Int)) (l2 : q < (n8 - 0).toNat) : 0 ≤ 8 * (r - 1) + c := by unfold n8 at *; omega
theorem pw1 {r c : Int} {p q : Nat} (e1 : r = n8 - (p : Int)) (l1 : p < (n8 - 0).toNat) (e2 : c = 0 + (q : Int)) (l2 : q < (n8 - 0).toNat) : 8 * (r - 1) + c ≤ 1000000 := by unfold n8 at *; omega
theorem pw2 {r c : Int} {p q : Nat} (e1 : r = n8 - (p : Int)) (l1 : p < (n8 - 0).toNat) (e2 : c = 0 + (q : Int)) (l2 : q < (n8 - 0).toNat) : 8 * (r - 1) + c < 9000 := by unfold n8 at *; omega
theorem pk1 {k : Int} (h : k < 0 + ((64 : Nat) : Int)) : k ≤ 1000000 := by omega
theorem pk2 {k : Int} (h : k < 0 + ((64 : Nat) : Int)) : k < 9000 := by omega
theorem szW {vs : List Value} {ws : List Str} (hs : StrsAre vs ws) (h : ws.length ≤ (downKs n8 (n8 - 0).toNat).length) : vs.toArray.size ≤ sizeLine := by
  rw [List.size_toArray, StrsAre.length hs, sizeLine_eq]
  rw [downKs_length] at h
  unfold n8 at h
  omega
theorem szW1 {vs : List Value} {ws : List Str} {a : Value} (hs : StrsAre vs ws) (h : ws.length ≤ (downKs n8 (n8 - 0).toNat).length) : (vs.toArray.push a).size ≤ sizeLine := by
  rw [Array.size_push, List.size_toArray, StrsAre.length hs, sizeLine_eq]
  rw [downKs_length] at h
  unfold n8 at h
  omega
theorem szW2 {vs : List Value} {ws : List Str} {a b : Value} (hs : StrsAre vs ws) (h : ws.length ≤ (downKs n8 (n8 - 0).toNat).length) : ((vs.toArray.push a).push b).size ≤ sizeLine := by
  rw [Array.size_push, Array.size_push, List.size_toArray, StrsAre.length hs, sizeLine_eq]
  rw [downKs_length] at h
  unfold n8 at h
  omega
/-! the ledger at a turn's end -/
theorem mL4 {α : Type} {a b c d : α} {o1 o2 : List α} : ∀ p ∈ a :: b :: c :: d :: o1, p ∈ a :: b :: c :: d :: (o1 ++ o2) := by
  intro p h; simp only [List.mem_cons, List.mem_append] at h ⊢; grind
theorem mR4 {α : Type} {a b c d : α} {o1 o2 : List α} : ∀ p ∈ o2, p ∈ a :: b :: c :: d :: (o1 ++ o2) := by
  intro p h; simp only [List.mem_cons, List.mem_append]; grind
theorem mL6 {α : Type} {a b c d e f : α} {o1 o2 : List α} : ∀ p ∈ a :: b :: c :: d :: e :: f :: o1, p ∈ a :: b :: c :: d :: e :: f :: (o1 ++ o2) := by
  intro p h; simp only [List.mem_cons, List.mem_append] at h ⊢; grind
theorem mR6 {α : Type} {a b c d e f : α} {o1 o2 : List α} : ∀ p ∈ o2, p ∈ a :: b :: c :: d :: e :: f :: (o1 ++ o2) := by
  intro p h; simp only [List.mem_cons, List.mem_append]; grind
theorem ne15 {prog : Program} {w : World} {A : Around} {E : Value → Shared → Prop} {s : Shared} {a b : Addr} {Q : Value → Shared → Prop} {h₀ : Heap} {L : Addr} {news : List (Addr × Obj)} {items vs : List Value} {ws : List Str} {c1 c2 : Nat} {x y z : Str} {t1 t2 t3 : Tok} {l : List Int} {o : Option Int}
    (hi : StrsAre items (rowsL (lb l) o x ++ [Str.ofString "0x" ++ hexT (lb l)] ++ [nmF (lb l)])) (hw : WsInv (lb l) o (downKs n8 (n8 - 0).toNat) ws) (hj : StrsAre vs ws) (N : News h₀ L s.heap news) (ma : (a, lstO items c1) ∈ news)
    (mb : (b, listOf (((vs.toArray.push (.str x t1)).push (.str y t2)).push (.str z t3)) c2) ∈ news)
    (ey : y = baseText "0x" 16 (lb l)) (ez : z = nmF (lb l)) (hu : A.units < cLine) (h : Q (.bool false) s) : wpAny (model prog w) A (compareOp .NotEq (.ref a) (.ref b)) Q E s := by
  simp only [List.push_toArray] at mb
  have hj' : StrsAre (vs ++ [.str x t1] ++ [.str y t2] ++ [.str z t3]) (ws ++ [x] ++ [y] ++ [z]) := StrsAre.append' (StrsAre.append' (StrsAre.append' hj (.cons _ _ .nil)) (.cons _ _ .nil)) (.cons _ _ .nil)
  have e : ws = (downKs 8 8).map (wsT (lb l) o) := hw
  refine ne_texts_same N ma mb hi hj' ?_ hu h
  rw [final_same o x (hex_ok l), e, ey, ez]
theorem mL5 {α : Type} {x a b c d e : α} {o2 : List α} : ∀ p ∈ [a, b, c, d, e], p ∈ x :: a :: b :: c :: d :: e :: o2 := by
  intro p h; simp only [List.mem_cons, List.not_mem_nil, or_false] at h ⊢; grind
theorem mR5 {α : Type} {x a b c d e : α} {o2 : List α} : ∀ p ∈ o2, p ∈ x :: a :: b :: c :: d :: e :: o2 := by
  intro p h; simp only [List.mem_cons]; grind
theorem mL4e {α : Type} {a b c d : α} {o2 : List α} : ∀ p ∈ [a, b, c, d], p ∈ a :: b :: c :: d :: o2 := by
  intro p h; simp only [List.mem_cons, List.not_mem_nil, or_false] at h ⊢; grind
theorem mR4e {α : Type} {a b c d : α} {o2 : List α} : ∀ p ∈ o2, p ∈ a :: b :: c :: d :: o2 := by
  intro p h; simp only [List.mem_cons]; grind
end Mine
local macro_rules | `(tactic| walk_at "execs nil") => `(tactic| ((with_reducible show wpAny _ _ _ _ _ ⟨_, _, _, _ + 1, _⟩); (with_reducible refine Mine.gen_toks (fun tk9 => ?_))))
local macro_rules | `(tactic| walk_at "execs cons") => `(tactic| ((with_reducible show wpAny _ _ _ _ _ ⟨_, _, _, _ + 1, _⟩); (with_reducible refine Mine.gen_toks (fun tk9 => ?_))))
local macro_rules | `(tactic| walk_at "call ref") => `(tactic| (k_here; k_dflt (refine wpAny_call ?_; refine' Mine.gen_call ?k1 ?k2 ?k3 ?k4 ?k5 ?kA ?kF ?kK ?k6 ?k7 ?k8 ?k9 ?kB ?_ ?c2 ?c3 ?c4 ?c5; (case kA => exact rfl); (case kF => exact rfl); (case kK => exact rfl); (case k1 => k_asm); (case k2 => k_asm); (case k3 => k_asm); (case k4 => k_asm); (case k5 => k_asm); (case k6 => k_is); (case c3 => exact rfl); (case k7 => k_is); (case k8 => k_room); (case k9 => first | exact BindsTo.of_eq rfl | exact binds_K (by k_in) rfl (by k_is) rfl rfl rfl | fail "no rule for these arguments"); (case c5 => decide); (case kB => exact locs rfl); (case c2 => exact rfl); (case c4 => exact rfl); k_whole; intro C9 a9 h9 tk9 F9 N9 GM9; (try dsimp only))))
local macro_rules | `(tactic| walk_at "call type:list") => `(tactic| (k_here; (with_reducible show wpAny _ _ (call (Value.type _) [Value.ref _]) _ _ _); (rename Mine.GenMade _ _ _ _ _ _ _ _ _ _ _ _ _ _ _ _ _ _ _ => GM9); (refine' Mine.gen_list (n := 11) GM9 ?g1 ?g2 ?g3 ?g4 ?_; (case g1 => exact Mine.get_push); (case g2 => exact Mine.bare_push (by assumption)); (case g3 => exact rfl); (case g4 => k_room)); (clear GM9); intro g' S' og' c' h' gens' tk' FG' F' N' B' X' T' GK' hB' hlt'; (try dsimp only); (try k_lift B'); (try k_fold)))
local macro_rules | `(tactic| walk_at "Seg") => `(tactic| (first | ((with_reducible show Seg _ _ _ _ _ _ _ (Sem.wrap _ _ _ _ (execs [] _)) _ _); (rename Mine.GenKeep _ _ _ _ _ _ _ _ _ => hG9); (rename Mine.Bare _ _ => hB9); (rename Fr _ _ _ _ => lF9); (rename News _ _ _ _ => lN9); ((with_unfolding_all first | (refine' Mine.g_end3 ?e1 ?e2 ?e3 ?e4 ?e5 ?hK9 ?_; (case e1 => exact lF9); (case e2 => exact lN9); (case e4 => exact hG9); (case e3 => exact fun p hp => hp); (case e5 => exact hB9); (case hK9 => rfl)) | (refine' Mine.g_end2 ?e1 ?e2 ?e3 ?e4 ?e5 ?hK9 ?_; (case e1 => exact lF9); (case e2 => exact lN9); (case e4 => exact hG9); (case e3 => exact fun p hp => hp); (case e5 => exact hB9); (case hK9 => rfl)))); (clear hB9); intro h' tk' gens' F' N' hB'; (try dsimp only); (try ground_anew F'); (try (have kX := kFor F' (by k_asm)))) | (with_unfolding_all refine Mine.sg_yieldFrom rfl ?_) | (with_unfolding_all refine Mine.sg_yield ?_) | (with_unfolding_all refine Mine.sg_stmt ?_)))
local macro_rules | `(tactic| walk_at "YFPost") => `(tactic| ((rename Mine.RsInv _ _ _ _ => hR9); (rename Mine.GenKeep _ _ _ _ _ _ _ _ _ => hG9); (rename Mine.Bare _ _ => hB9); (rename Fr _ _ _ _ => lF9); (rename News _ _ _ _ => lN9); k_dflt ((refine' Mine.yf15 hR9 ?y1 hG9 ?y2 hB9 lF9 lN9 ?y4 ?_); (case y1 => with_reducible assumption); (case y2 => with_reducible assumption); (case y4 => first | (with_reducible exact And.left (by assumption)) | omega)); (clear hR9 lF9 lN9 hB9); intro h' c' tk' gens' items' hI' F' N' hB'; (try dsimp only)))
local macro_rules | `(tactic| walk_at "YPost") => `(tactic| ((rename Mine.GenKeep _ _ _ _ _ _ _ _ _ => hG9); (rename Mine.Bare _ _ => hB9); (rename Fr _ _ _ _ => lF9); (rename News _ _ _ _ => lN9); (rename StrsAre _ (Mine.rowsL _ _ _) => hS9); k_dflt (refine' Mine.y15 hS9 hG9 ?y2 hB9 lF9 lN9 (Mine.rowsL_len _ _ _) ?_; (case y2 => with_reducible assumption)); (clear hS9 lF9 lN9 hB9); intro h' c' tk' gens' items' hI' F' N' hB'; (try dsimp only)))
local macro_rules | `(tactic| walk_at "YPost") => `(tactic| ((rename Mine.GenKeep _ _ _ _ _ _ _ _ _ => hG9); (rename Mine.Bare _ _ => hB9); (rename Fr _ _ _ _ => lF9); (rename News _ _ _ _ => lN9); (rename StrsAre _ (Mine.rowsL _ _ _ ++ [_]) => hS9); k_dflt (refine' Mine.y15b hS9 hG9 ?y2 hB9 lF9 lN9 (Mine.rowsL_len2 _ _ _ _) ?_; (case y2 => with_reducible assumption)); (clear hS9 lF9 lN9 hB9); intro h' c' tk' gens' items' hI' F' N' hB'; (try dsimp only)))
local macro_rules | `(tactic| walk_at "And") => `(tactic| ((with_reducible show _ = Flow.next ∧ _); (refine ⟨rfl, ?_⟩)))
local macro_rules | `(tactic| walk_at "forall") => `(tactic| ((with_reducible show ∀ _, Seg _ _ _ _ _ _ _ _ _ _); (intro s9)))
local macro_rules | `(tactic| walk_at "And") => `(tactic| ((with_reducible show GoodW _ _ _ _ _ _ _ ∧ AllBare _); (have hE9 : (#[] : Array GenState) = #[] := rfl); (rename Mine.Bare _ _ => hB9); k_dflt (refine ⟨?_, And.right hB9⟩)))
local macro_rules | `(tactic| walk_at "call builtin:list.append") => `(tactic| (k_here; (k_dflt (show wpAny _ _ (call (Value.builtin "list.append") [Value.ref _, _]) _ _ _)); (k_dflt (refine' append_K ?k1 ?k2 ?k3 ?_ ?z; (case k1 => k_asm); (case k2 => k_asm); (case k3 => k_upd); (case z => first | (with_reducible exact Mine.sz8 (by assumption) (by assumption) (by assumption)) | (with_reducible exact Mine.sz7 (by assumption) (by assumption) (by assumption)) | (with_reducible exact Mine.szD (by assumption) (by assumption)) | (with_reducible exact Mine.szW (by assumption) (by assumption)) | (with_reducible exact Mine.szW1 (by assumption) (by assumption)) | (with_reducible exact Mine.szW2 (by assumption) (by assumption)) | size_fits); k_whole)); intro h' F' N'; (try k_sweep)))
local macro_rules | `(tactic| walk_at "call builtin:str.join") => `(tactic| (k_here; (k_dflt (show wpAny _ _ (call (Value.builtin "str.join") [Value.str _ _, Value.ref _]) _ _ _)); (rename Mine.RwInv _ _ _ _ _ => hR9); (rename News _ _ _ _ => lN9); (k_dflt (refine Mine.join_row (by with_reducible assumption) hR9 lN9 (by k_mem) ?_)); intro t' k' hJ'))
local macro_rules | `(tactic| walk_at "call builtin:str.join") => `(tactic| (k_here; (k_dflt (show wpAny _ _ (call (Value.builtin "str.join") [Value.str _ _, Value.ref _]) _ _ _)); (rename Mine.SqO _ _ _ => hQ9); (rename News _ _ _ _ => lN9); (rename CarriedAll _ _ => hC9); (k_dflt (refine' Mine.join_names hQ9 ?j1 hC9 lN9 ?_; (case j1 => with_reducible assumption))); intro t' k' hJ'))
local macro_rules | `(tactic| walk_at "InvEndN") => `(tactic| k_dflt kst_close)
local macro_rules | `(tactic| l_fact) => `(tactic| ((with_reducible show 0 ≤ Mine.lb _ ∧ _); (with_reducible exact Mine.hex_ok _)))
local macro_rules | `(tactic| l_fact) => `(tactic| ((with_reducible show 0 ≤ _ ∧ _ < 64); (rename Mine.SqO _ _ _ => hQ9); (with_reducible exact Mine.sqn_ok hQ9 (by assumption))))
local macro_rules | `(tactic| walk_at "exec Assign cons ListComp") => `(tactic| (k_here; (with_reducible show wpAny _ _ (exec (Stmt.Assign _ (Expr.ListComp (Expr.Call _ _ _ _) _ _ _) _) _) _ _ _); k_dflt (refine LCg.Assign_ListComp_U (F₀ := by k_asm) (by rfl) (by with_unfolding_all rfl) (by with_unfolding_all rfl) (by decide) (by rfl) (by decide) (by rfl) (by rfl) (by rfl) ?_)))
local macro_rules | `(tactic| walk_at "CompSrc") => `(tactic| (k_here; (rename Mine.SqO _ _ _ => hQ9); (rename Fr _ _ _ _ => lF9); (rename News _ _ _ _ => lN9); k_dflt (refine' LCg.CompSrc.ledger ?q1 lF9 lN9 (List.Mem.head _) ?q2 ?_; (case q1 => rfl); (case q2 => with_reducible exact Mine.szq (by assumption) (by assumption)); intro g'; (refine' kct_list Mine.sqn ?q3 (fun k' t' I' oI' C' oC' D' m' ys' h' tk' E' hk' hC' hx' F' N' off' ne' hMark' => ?_) ?_); (case q3 => with_reducible assumption); (all_goals (try (simp only [LCg.Off3, and_true] at off'))))))
local macro_rules | `(tactic| walk_at "subscriptTail") => `(tactic| (k_here; (with_reducible show wpAny _ _ (subscriptTail _ _ (Value.str _ _) (Value.int (Builtin.bitAnd _ 15) _)) _ _ _); (refine KXi.item (n := 16) (by decide) (Mine.b15lo _) (Mine.b15hi _) (by decide) ?_); intro kxiE))
local macro_rules | `(tactic| l_fact) => `(tactic| ((with_reducible show 0 ≤ Mine.sqI _ _ ∧ _); first | (with_reducible exact Mine.sq_ok (by assumption) (by assumption) (by assumption) (by assumption))))
local macro_rules | `(tactic| k_room) => `(tactic| first | ((try simp only [depth_mark, depth_under_make, depth_under_kw, depth_in1, depth_deeper, depth_caller]); decide) | ktr_room)
local macro_rules | `(tactic| walk_at "binaryOp RShift int int") => `(tactic| (k_here; (refine' rshift_int ?z0 ?_); (case z0 => with_reducible exact And.left (by assumption))))
local macro_rules | `(tactic| walk_at "subscriptTail") => `(tactic| (k_here; (with_reducible show wpAny _ _ (subscriptTail _ _ (Value.str _ _) (Value.int (Int.fmod _ 8) _)) _ _ _); (refine KXi.item (n := 8) (by decide) (Mine.f8lo _) (Mine.f8hi _) (by decide) ?_); intro kxiE))
local macro_rules | `(tactic| walk_at "subscriptTail") => `(tactic| (k_here; (with_reducible show wpAny _ _ (subscriptTail _ _ (Value.str _ _) (Value.int (Int.fdiv _ 8) _)) _ _ _); (refine KXi.item (n := 8) (by decide) (Mine.d8lo (by assumption)) (Mine.d8hi (by assumption)) (by decide) ?_); intro kxiE))
local macro_rules | `(tactic| walk_at "eval IfExp") => `(tactic| ((with_reducible show wpAny _ _ (eval _ _) (Mine.YPost _ _ _ _) _ _); (rename Mine.SqO _ _ _ => hQ9); k_dflt (refine Mine.cut_txt (Mine.nmF (Mine.theP hQ9)) ?_ (fun t' tk' => ?_))))
local macro_rules | `(tactic| walk_at "CutS") => `(tactic| ((rename Mine.SqO _ _ _ => hQ9); k_dflt (refine Mine.cutS_intro ?_; first | (with_reducible exact Mine.nmF_some hQ9 (by assumption) (by assumption)) | (with_reducible exact Mine.nmF_none hQ9 (by assumption) (by assumption)))))
local macro_rules | `(tactic| walk_at "eval ListComp") => `(tactic| (k_here; (rename Fr _ _ _ _ => lF9); (rename News _ _ _ _ => lN9); k_dflt (refine' Mine.comp_called ?q1 lF9 lN9 ?q2 ?q3 ?q4 ?q5 ?q6 ?q7 ?q8 ?q9 ?qa ?_; (case q1 => rfl); (case q2 => with_unfolding_all rfl); (case q3 => decide); (case q4 => rfl); (case q5 => decide); (case q6 => rfl); (case q7 => rfl); (case q8 => decide); (case q9 => rfl); (case qa => rfl)); intro D' h' tk' ys' hS' F' N' l1; (try dsimp only); (try k_lt l1); (try k_fold)))
local macro_rules | `(tactic| walk_at "CompSrcT") => `(tactic| (k_here; (rename (_ = Data.cell (some (Value.int (Mine.lb _) _))) => hc9); (rename Fr _ _ _ _ => lF9); (rename News _ _ _ _ => lN9); (try simp only [List.nil_append, List.cons_append] at lN9); (rename IsRange _ _ _ _ _ _ _ _ => rg9); k_dflt (refine' LCt.CompSrcT.range (n := 64) ?e1 lF9 lN9 rg9 ?e2 ?e3 ?e4 ?_; (case e1 => rfl); (case e2 => decide); (case e3 => rfl); (case e4 => exact Nat.le_of_ble_eq_true rfl); intro g'; (refine Mine.ti_rangeP hc9 (fun k' t' I' oI' C' oC' D' m' ys' h' tk' E' hlo' hhi' hC' hx' F' N' off' ne' hMk' => ?_) (fun ys' hVA' => ?_)))))
local macro_rules | `(tactic| walk_at "eval Name") => `(tactic| (k_here; (with_reducible show wpAny _ _ (eval (Expr.Name _ _) (compEnvC _ _ _ _)) _ _ _); (rename Mine.KMark => hM9); k_dflt (first | (refine' lcf_cell ?N ?c ?m ?d ?_ ?a ?b; (case a => rfl); (case b => rfl); (case N => k_asm); (case c => rfl); (case m => k_mem); (case d => k_asm); k_whole) | (refine LCgL.ld_own (by k_asm) (by k_mem) (by assumption) (by assumption) ?_))))
local macro_rules | `(tactic| walk_at "TIB") => `(tactic| (k_dflt ((unfold Mine.TIB); (refine ⟨?z9, ?_⟩); (case z9 => exact rfl))))
local macro_rules | `(tactic| walk_at "TIEl") => `(tactic| (k_dflt (exact ⟨rfl, _, rfl⟩)))
local macro_rules | `(tactic| walk_at "TINo") => `(tactic| (k_dflt (exact rfl)))
local macro_rules | `(tactic| walk_at "CompEnd") => `(tactic| ((rename Mine.KMark => hM9); (rename LCg.Off3 _ _ _ _ => hO9); (rename News _ _ _ _ => lN9); k_dflt (refine LCg.CompEnd.intro (by with_reducible assumption) lN9 _ (fun p hp => hp) hO9 trivial ?_)))
local macro_rules | `(tactic| walk_at "subscriptTail") => `(tactic| (k_here; (with_reducible show wpAny _ _ (subscriptTail _ _ (Value.ref _) (Value.int _ _)) _ _ _); (rename Mine.KMark => hM9); (rename News _ _ _ _ => lN9); (rename StrsAre _ Mine.calledL => hW9); (refine' Mine.item_called lN9 hW9 ?m9 ?a9 ?b9 ?_; (case m9 => k_mem); (case a9 => with_reducible assumption); (case b9 => with_reducible assumption); intro _)))
local macro_rules | `(tactic| walk_at "subscriptTail Name Name ref int") => `(tactic| (k_here; (with_reducible show wpAny _ _ (subscriptTail _ _ (Value.ref _) (Value.int _ _)) _ _ _); (rename Mine.KMark => hM9); (rename News _ _ _ _ => lN9); (rename StrsAre _ Mine.calledL => hW9); (refine' Mine.item_called lN9 hW9 ?m9 ?a9 ?b9 ?_; (case m9 => k_mem); (case a9 => with_reducible assumption); (case b9 => with_reducible assumption); intro _)))
local macro_rules | `(tactic| walk_at "call builtin:str.join") => `(tactic| (k_here; (k_dflt (show wpAny _ _ (call (Value.builtin "str.join") [Value.str _ _, Value.ref _]) _ _ _)); (rename Mine.VA _ _ _ => hV9); (rename News _ _ _ _ => lN9); (k_dflt (refine' Mine.join_present hV9 lN9 ?j1 ?_; (case j1 => k_mem))); intro t' k' hJ'))
local macro_rules | `(tactic| walk_at "call builtin:hex") => `(tactic| (k_here; (with_reducible refine' P.hex_of_int ?_ ?z); (case z => with_reducible exact Mine.bt_len (by decide) (by decide) (Mine.hex_ok _))))
local macro_rules | `(tactic| walk_at "binaryOp Pow int int") => `(tactic| (k_here; first | ((with_reducible refine' pow_int_small ?z0 ?z1 ?z2 ?_); (case z0 => with_reducible exact And.left (by assumption)); (case z1 => with_reducible exact Mine.pl1 (by assumption)); (case z2 => decide)) | ((with_reducible refine' pow_int_small ?z0 ?z1 ?z2 ?_); (case z0 => with_reducible exact Mine.pw0 (by assumption) (by assumption) (by assumption) (by assumption)); (case z1 => with_reducible exact Mine.pw1 (by assumption) (by assumption) (by assumption) (by assumption)); (case z2 => decide)) | ((with_reducible refine' pow_int_small ?z0 ?z1 ?z2 ?_); (case z0 => with_reducible assumption); (case z1 => with_reducible exact Mine.pk1 (by assumption)); (case z2 => decide))))
local macro_rules | `(tactic| walk_at "binaryOp FloorDiv int int") => `(tactic| (k_here; (with_reducible show wpAny _ _ (binaryOp _ _ (Value.int (2 ^ _) _)) _ _ _); first | ((with_reducible refine' floordiv_int (Mine.pxne _) ?_ (Or.inl (PyProof.noPylong_of_log2 (kbt_py ?z0)))); (case z0 => with_reducible first | exact Mine.pl2 (by assumption) | exact Mine.pw2 (by assumption) (by assumption) (by assumption) (by assumption) | exact Mine.pk2 (by assumption)))))
local macro_rules | `(tactic| l_fact) => `(tactic| ((with_reducible show 0 ≤ 8 * (_ - 1) + _ ∧ _ < 64); (with_reducible exact Mine.pw3 (by assumption) (by assumption) (by assumption) (by assumption))))
local macro_rules | `(tactic| k_in) => `(tactic| ((rename Fr _ _ _ _ => lF9); with_reducible exact Frag.In.keeps (by assumption) (Fr.keep lF9)))
local macro_rules | `(tactic| walk_at "InvEndN") => `(tactic| ((rename News _ _ _ _ => nE'); (try simp only [List.push_toArray] at nE'); k_dflt (first | (refine kst_end ⟨_, _, _⟩ (by assumption) nE' (by exact Mine.mL6) (by exact Mine.mR6) (by rfl) (by kst_facts) (by kst_all) (by kst_same) (by kst_p)) | ((refine kst_end ⟨_, _, _⟩ (by assumption) nE' (by exact Mine.mL5) (by exact Mine.mR5) (by rfl) (by kst_facts) (by kst_all) (by kst_same) (by kst_p))) | ((refine kst_end ⟨_, _, _⟩ (by assumption) nE' (by exact Mine.mL4e) (by exact Mine.mR4e) (by rfl) (by kst_facts) (by kst_all) (by kst_same) (by kst_p))))))
local macro_rules | `(tactic| walk_at "InvEndN") => `(tactic| ((rename Mine.WsInv _ _ _ _ => hFAST9); (rename News _ _ _ _ => nE'); k_dflt (refine kst_end ⟨_, _⟩ (by assumption) nE' (by exact Mine.mL4) (by exact Mine.mR4) (by rfl) (by kst_facts) (by kst_all) (by kst_same) (by kst_p))))
local macro_rules | `(tactic| walk_at "compareOp NotEq ref ref") => `(tactic| (k_here; (rename Mine.WsInv _ _ _ _ => hW9); (rename StrsAre _ (_ ++ [Mine.nmF _]) => hI9); (rename News _ _ _ _ => lN9); k_dflt (refine' Mine.ne15 hI9 hW9 ?n1 lN9 ?n2 ?n3 ?n4 ?n5 ?n6 ?_; (case n1 => with_reducible assumption); (case n2 => k_mem); (case n3 => k_mem); (case n4 => rfl); (case n5 => first | (with_reducible exact Mine.nmF_zero (by assumption)) | (with_reducible exact Mine.nmF_not (by assumption))); (case n6 => first | units_room | exact Nat.le_of_ble_eq_true rfl | omega))))
set_option maxRecDepth 100000 in
set_option maxHeartbeats 8000000 in
theorem PySem.Challenge.cw_k5_0015_holds : PySem.Challenge.rw_k5_0015.Holds := by
  (k_with "call ref" => k_call_rec "_law_board" Mine.lb (fun (_ : List Int) => True) (fun (_ : List Int) => 2))
  (k_with "call ref" => k_call_by "bit_at" Mine.bitAt (fun (_ i : Int) => 0 ≤ i ∧ i < 64))
  (k_with "call ref" => k_call_by "lowest_one" Mine.low)
  (k_with "call ref" => k_call_by "square_of" Mine.sqI)
  (k_with "call ref" => k_call_by "hex_text" Mine.hexT (fun (n : Int) => 0 ≤ n ∧ n < 1180591620717411303424))
  (k_with "call ref" => k_call_by "square_name" Mine.sqn (fun (s : Int) => 0 ≤ s ∧ s < 64))
  (k_with "call ref" => k_call_by "_law_sign" Mine.lsg (fun (_ p _ : Int) => 0 ≤ p ∧ p < 64))
  (k_with "fact _law_sign" => exact Mine.lsg_len)
  (k_with "fact hex_text" => exact Mine.hex_len)
  (k_with "fact square_name" => exact Mine.sqn_len)
  (k_with "exec For Name Call cons nil" => k_of "row" "col" "rank" => kpr_for)
  (k_with "pyIter ref" => k_of "rank" => ((rename IsRange _ _ _ _ _ _ _ _ => rg9); (have rg8 := Mine.hide0 rg9); (clear rg9); (have hn8 := Mine.n8_eq); (rename (_ = Data.cell (some (Value.int (Mine.lb _) _))) => hc9); k_state (fun pre want => Mine.WsInv (Mine.theB hc9) none pre want ∧ want.length ≤ pre.length) "want$"))
  (k_with "pyIter ref" => k_of "col" => ((rename IsRange _ _ _ _ _ _ _ _ => rg9); (have rg8 := Mine.hide8 rg9); (clear rg9); (have hn8 := Mine.n8_eq); (rename (_ = Data.cell (some (Value.int (Mine.lb _) _))) => hc9); k_state_given ["rank"] (fun r pre line => Mine.LnInv (Mine.theB hc9) none r pre line ∧ line.length ≤ 4 + 2 * pre.length) "line"))
  (k_with "pyIter ref" => k_of "rank" => ((rename IsRange _ _ _ _ _ _ _ _ => rg9); (have rg8 := Mine.hide0 rg9); (clear rg9); (have hn8 := Mine.n8_eq); (rename (_ = Data.cell (some (Value.int (Mine.lb _) _))) => hc9); k_state_given ["origin"] (fun o pre want => Mine.WsInv (Mine.theB hc9) (some o) pre want ∧ want.length ≤ pre.length) "want$"))
  (k_with "pyIter ref" => k_of "col" => ((rename IsRange _ _ _ _ _ _ _ _ => rg9); (have rg8 := Mine.hide8 rg9); (clear rg9); (have hn8 := Mine.n8_eq); (rename (_ = Data.cell (some (Value.int (Mine.lb _) _))) => hc9); k_state_given ["origin", "rank"] (fun o r pre line => Mine.LnInv (Mine.theB hc9) (some o) r pre line ∧ line.length ≤ 4 + 2 * pre.length) "line"))
  (k_with "pyIter ref" => k_of "row" => ((rename IsRange _ _ _ _ _ _ _ _ => rg9); (have rg8 := Mine.hidem rg9); (clear rg9); (have hm1 := Mine.m1_eq); k_state_given ["board"] (fun B pre lines => Mine.RsInv B none pre lines ∧ lines.length ≤ pre.length) "lines$"))
  (k_with "pyIter ref" => k_of "col" => ((rename IsRange _ _ _ _ _ _ _ _ => rg9); (have rg8 := Mine.hide8 rg9); (clear rg9); (have hn8 := Mine.n8_eq); k_state_given ["board", "row"] (fun B row pre signs => Mine.RwInv B none row pre signs ∧ signs.length ≤ pre.length) "signs$"))
  (k_with "pyIter ref" => k_of "row" => ((rename IsRange _ _ _ _ _ _ _ _ => rg9); (have rg8 := Mine.hidem rg9); (clear rg9); (have hm1 := Mine.m1_eq); k_state_given ["board", "origin"] (fun B o pre lines => Mine.RsInv B (some o) pre lines ∧ lines.length ≤ pre.length) "lines$"))
  (k_with "pyIter ref" => k_of "col" => ((rename IsRange _ _ _ _ _ _ _ _ => rg9); (have rg8 := Mine.hide8 rg9); (clear rg9); (have hn8 := Mine.n8_eq); k_state_given ["board", "origin", "row"] (fun B o row pre signs => Mine.RwInv B (some o) row pre signs ∧ signs.length ≤ pre.length) "signs$"))
  (k_with "exec While Compare cons nil" => k_while_given ["n!"] (fun n₀ _ text n => Mine.TInv 16 n₀ text n ∧ text.length ≤ 80) (fun _ _ _ n => n.toNat) "text" "n")
  (k_with "exec While Compare cons nil" => k_while_given ["board!"] (fun P _ b sq => Mine.SqO P b sq ∧ sq.length ≤ 64) (fun _ _ b _ => b.toNat) "board" "squares")
  (k_with "measure" => with_reducible first | exact Mine.less4 (by assumption) | exact Mine.sqo_less (by assumption) (by assumption))
  (k_with "tree" => first | ((with_reducible show _ = Mine.low _); dsimp only [Mine.low]) | ((with_reducible show _ = Mine.sqI _ _); dsimp only [Mine.sqI]) | ((with_reducible show _ = Mine.bitAt _ _); exact Mine.bitAt_tree _ _) | ((with_reducible show _ = Mine.lb _); with_reducible first | exact Mine.lbt0 (by assumption) | exact Mine.lbt1 (by assumption) (by assumption) | exact Mine.lbt2 (by assumption) (by assumption)) | ((with_reducible show _ = Mine.sqn _); with_reducible exact Mine.sqn_tree (by assumption)) | ((with_reducible show _ = Mine.lsg _ _ _); with_reducible first | exact Mine.lst1 (by assumption) | exact Mine.lst2 (by assumption) (by assumption) | exact Mine.lst3 (by assumption) (by assumption)) | ((with_reducible show _ = Mine.hexT _); with_reducible first | exact Mine.tr16 (by assumption) (by assumption) (by assumption) | exact Mine.tr16z (by assumption)))
  (k_with "state" => first | ((with_reducible show Mine.TInv _ _ _ _ ∧ _); with_reducible first | exact Mine.ti0 (Mine.nok (by assumption)) | exact Mine.ti16 (by assumption) (by assumption)) | ((with_reducible show Mine.SqO _ _ _ ∧ _); with_reducible first | exact Mine.sqo0 _ | exact Mine.sqo1 (by assumption) (by assumption)) | ((with_reducible show Mine.RsInv _ _ _ _ ∧ _); with_reducible first | exact Mine.rs0 _ _ | exact Mine.rs1 (by assumption) (by assumption)) | ((with_reducible show Mine.RwInv _ _ _ _ _ ∧ _); with_reducible first | exact Mine.rw0 _ _ _ | exact Mine.rw1 (by assumption) (by assumption) (by assumption) | exact Mine.rw2 (by assumption) (by assumption) (by assumption) | exact Mine.rw3 (by assumption) (by assumption) (by assumption) (by assumption) | exact Mine.rw4 (by assumption) (by assumption) (by assumption) (by assumption)) | ((with_reducible show Mine.WsInv _ _ _ _ ∧ _); with_reducible first | exact Mine.ws0 _ _ | exact Mine.ws1 (by assumption) (by assumption) (by assumption)) | ((with_reducible show Mine.LnInv _ _ _ _ _ ∧ _); with_reducible first | exact Mine.ln0 (by assumption) (by assumption) | exact Mine.lnI (by assumption) (by assumption) | exact Mine.lnX (by assumption) (by assumption) (by assumption) | exact Mine.lnD (by assumption) (by assumption) (by assumption)))
  (k_with "size" => first | exact trivial)
  (k_with "end" => first | ((with_reducible show (true == true) = true); exact rfl))
  w_on
  o_law
  k_head
  (case hw => w_witness2)
  w_strict (
    k_fill
    intro w s₀ s₁ mg mb G Y fa o pm cd doc dV kV ho hd hcd hD hmg hg args vals as hpre hlay hrd hwl hlo
    have KX := kIn_of Y
    have X := (Ground.X G).1
    have V := (Ground.X G).2
    try w_nolog (first | (have GL := glob_more (Ground.glob G (by first | k_qdec | decide +kernel) (by first | k_qdec | decide +kernel)) V) | (have GL := glob_more (Ground.glob G (by decide +kernel)) V))
    refine Ground.open G ?_
    intro T B D TE TW
    try (refine guard_noD D (by decide +kernel) ?_; clear D)
    obtain ⟨_, _, M⟩ := bmod_of_top T
    have TA := at_of_top T
    try (obtain ⟨_, _, he, B0⟩ := based_of_top T rfl hmg ho hd; have he' : cd = _ := he; subst he'; clear he)
    clear hmg
    wrow_args hpre hlay hrd hwl hlo
    all_goals (
      first | refine callC_kw (enter_call ?_) | refine enter_call ?_ | refine callC_kw (enter_callW ?_) | refine enter_callW ?_ | w_how
      w_top on
      refine codeAny_mono ?_ (fun _ _ g => Mine.good_bare g)
      have K0 := below_caller (Top.heap T)
      w_call any ho hd hcd hD T F
      clear hd TA
      k_drop
      skip)
    (all_goals try k_fold)
    k_steps
    (all_goals (try k_data))
    all_goals w_report)
