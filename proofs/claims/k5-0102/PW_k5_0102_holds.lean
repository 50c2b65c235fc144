import PyProof.Rows.All
import Wide.All
import OpenK.AllK
import Wide.FinOn
import PySem.Challenge.RW_k5_0102
open PySem PySem.W PyProof.Rows
set_option Elab.async false
namespace Mine
/-- bit i of an int, in two's complement -/
def tb (x : Int) (i : Nat) : Bool := decide (x / 2 ^ i % 2 = 1)

theorem pcast (k : Nat) : ((2 ^ k : Nat) : Int) = (2 : Int) ^ k := by
  induction k with
  | zero => simp
  | succ n ih => rw [Nat.pow_succ, Int.pow_succ, ← ih]; omega
theorem ppos (k : Nat) : (0 : Int) < 2 ^ k := by
  rw [← pcast]; have := Nat.two_pow_pos k; omega
theorem psucc (k : Nat) : (2 : Int) ^ (k + 1) = 2 * 2 ^ k := by rw [Int.pow_succ]; omega
theorem padd (a b : Nat) : (2 : Int) ^ (a + b) = 2 ^ a * 2 ^ b := Int.pow_add ..
theorem half_pow (x : Int) (i : Nat) : x / 2 ^ (i + 1) = x / 2 / 2 ^ i := by
  rw [psucc, Int.ediv_ediv_of_nonneg (by omega : (0 : Int) ≤ 2)]
theorem tb_zero (x : Int) : tb x 0 = decide (x % 2 = 1) := by simp [tb]
theorem tb_succ (x : Int) (i : Nat) : tb x (i + 1) = tb (x / 2) i := by unfold tb; rw [half_pow]
theorem and_half (x y : Int) : Builtin.bitAnd x y / 2 = Builtin.bitAnd (x / 2) (y / 2) ∧ (Builtin.bitAnd x y % 2 = 1 ↔ (x % 2 = 1 ∧ y % 2 = 1)) := by
  have pn : ∀ x y : Int, 0 ≤ x → ¬ 0 ≤ y → Builtin.bitAnd x y / 2 = Builtin.bitAnd (x / 2) (y / 2) ∧ (Builtin.bitAnd x y % 2 = 1 ↔ (x % 2 = 1 ∧ y % 2 = 1)) := by
    intro x y hx hy
    rw [bitAnd_pn hx hy, bitAnd_pn (show 0 ≤ x / 2 by omega) (show ¬ 0 ≤ y / 2 by omega)]
    have e1 : (x / 2).toNat = x.toNat / 2 := by omega
    have e2 : (Builtin.bitNot (y / 2)).toNat = (Builtin.bitNot y).toNat / 2 := by unfold Builtin.bitNot; omega
    have e3 : ((Builtin.bitNot y).toNat : Int) = -y - 1 := by unfold Builtin.bitNot; omega
    rw [e1, e2]
    have h1 : (x.toNat &&& (Builtin.bitNot y).toNat) / 2 = x.toNat / 2 &&& (Builtin.bitNot y).toNat / 2 := Nat.and_div_two
    have h2 := @Nat.and_mod_two_eq_one x.toNat (Builtin.bitNot y).toNat
    rw [← h1]
    omega
  by_cases hx : 0 ≤ x <;> by_cases hy : 0 ≤ y
  · rw [bitAnd_pp hx hy, bitAnd_pp (show 0 ≤ x / 2 by omega) (show 0 ≤ y / 2 by omega)]
    have e1 : (x / 2).toNat = x.toNat / 2 := by omega
    have e2 : (y / 2).toNat = y.toNat / 2 := by omega
    rw [e1, e2]
    have h1 : (x.toNat &&& y.toNat) / 2 = x.toNat / 2 &&& y.toNat / 2 := Nat.and_div_two
    have h2 := @Nat.and_mod_two_eq_one x.toNat y.toNat
    rw [← h1]
    omega
  · exact pn x y hx hy
  · rw [bitAnd_comm x y, bitAnd_comm (x / 2) (y / 2)]
    have := pn y x hy hx
    refine ⟨this.1, this.2.trans ⟨fun h => ⟨h.2, h.1⟩, fun h => ⟨h.2, h.1⟩⟩⟩
  · rw [bitAnd_nn hx hy, bitAnd_nn (show ¬ 0 ≤ x / 2 by omega) (show ¬ 0 ≤ y / 2 by omega)]
    have e2 : (Builtin.bitNot (x / 2)).toNat = (Builtin.bitNot x).toNat / 2 := by unfold Builtin.bitNot; omega
    have f2 : (Builtin.bitNot (y / 2)).toNat = (Builtin.bitNot y).toNat / 2 := by unfold Builtin.bitNot; omega
    have e3 : ((Builtin.bitNot x).toNat : Int) = -x - 1 := by unfold Builtin.bitNot; omega
    have f3 : ((Builtin.bitNot y).toNat : Int) = -y - 1 := by unfold Builtin.bitNot; omega
    rw [e2, f2]
    have h1 : ((Builtin.bitNot x).toNat ||| (Builtin.bitNot y).toNat) / 2 = (Builtin.bitNot x).toNat / 2 ||| (Builtin.bitNot y).toNat / 2 := Nat.or_div_two
    have h2 := @Nat.or_mod_two_eq_one (Builtin.bitNot x).toNat (Builtin.bitNot y).toNat
    rw [← h1]
    generalize (Builtin.bitNot x).toNat ||| (Builtin.bitNot y).toNat = z at *
    generalize (Builtin.bitNot x).toNat = x' at *
    generalize (Builtin.bitNot y).toNat = y' at *
    unfold Builtin.bitNot at *
    omega
theorem tb_and (x y : Int) (i : Nat) : tb (Builtin.bitAnd x y) i = (tb x i && tb y i) := by
  induction i generalizing x y with
  | zero =>
    rw [tb_zero, tb_zero, tb_zero]
    have := (and_half x y).2
    by_cases h : Builtin.bitAnd x y % 2 = 1
    · have h2 := this.mp h; simp [h, h2.1, h2.2]
    · by_cases h1 : x % 2 = 1
      · by_cases h2 : y % 2 = 1
        · exact absurd (this.mpr ⟨h1, h2⟩) h
        · simp [h, h2]
      · simp [h, h1]
  | succ i ih => rw [tb_succ, tb_succ, tb_succ, (and_half x y).1, ih]
theorem tb_not (x : Int) (i : Nat) : tb (Builtin.bitNot x) i = !tb x i := by
  induction i generalizing x with
  | zero =>
    rw [tb_zero, tb_zero]
    unfold Builtin.bitNot
    by_cases h : x % 2 = 1
    · have : ¬ (-x - 1) % 2 = 1 := by omega
      simp [h, this]
    · have : (-x - 1) % 2 = 1 := by omega
      simp [h, this]
  | succ i ih =>
    rw [tb_succ, tb_succ, ← ih]
    congr 1
    unfold Builtin.bitNot
    omega
theorem tb_or (x y : Int) (i : Nat) : tb (Builtin.bitOr x y) i = (tb x i || tb y i) := by
  unfold Builtin.bitOr
  rw [tb_not, tb_and, tb_not, tb_not]
  cases tb x i <;> cases tb y i <;> rfl
theorem xorAnd (x y : Int) : Builtin.bitXor x y = x + y - 2 * Builtin.bitAnd x y := by
  unfold Builtin.bitXor
  rw [bitOr_and]
  omega
theorem xor_half (x y : Int) : Builtin.bitXor x y / 2 = Builtin.bitXor (x / 2) (y / 2) ∧ (Builtin.bitXor x y % 2 = 1 ↔ ¬ (x % 2 = 1 ↔ y % 2 = 1)) := by
  rw [xorAnd, xorAnd]
  have := and_half x y
  rw [← this.1]
  omega
theorem tb_xor (x y : Int) (i : Nat) : tb (Builtin.bitXor x y) i = (tb x i ^^ tb y i) := by
  induction i generalizing x y with
  | zero =>
    rw [tb_zero, tb_zero, tb_zero]
    have := (xor_half x y).2
    by_cases h1 : x % 2 = 1 <;> by_cases h2 : y % 2 = 1 <;> simp [h1, h2] at this ⊢ <;> omega
  | succ i ih => rw [tb_succ, tb_succ, tb_succ, (xor_half x y).1, ih]
theorem tb_ext {x y : Int} (h : ∀ i, tb x i = tb y i) : x = y := by
  have key : ∀ (n : Nat) (x y : Int), x.natAbs ≤ n → y.natAbs ≤ n → (∀ i, tb x i = tb y i) → x = y := by
    intro n
    induction n with
    | zero => intro x y hx hy _; omega
    | succ n ih =>
      intro x y hx hy h
      have h0 := h 0
      rw [tb_zero, tb_zero, decide_eq_decide] at h0
      by_cases hs : (x / 2).natAbs ≤ n ∧ (y / 2).natAbs ≤ n
      · have := ih (x / 2) (y / 2) hs.1 hs.2 (fun i => by rw [← tb_succ, ← tb_succ]; exact h (i + 1))
        omega
      · have hm : ∀ z : Int, tb (-1) z.toNat = true := by
          intro z
          unfold tb
          have : (-1 : Int) / 2 ^ z.toNat = -1 := by
            have hp := ppos z.toNat
            have := Int.neg_one_ediv (2 ^ z.toNat)
            rw [this, Int.sign_eq_one_of_pos hp]
          rw [this]; decide
        -- n = 0: x or y is -1
        have h1 := h 1
        rw [tb_succ, tb_succ, tb_zero, tb_zero, decide_eq_decide] at h1
        omega
  exact key (x.natAbs + y.natAbs) x y (by omega) (by omega) h
theorem tb_shr (x : Int) (k i : Nat) : tb (x / 2 ^ k) i = tb x (k + i) := by
  unfold tb
  rw [padd, Int.ediv_ediv_of_nonneg (Int.le_of_lt (ppos k))]
theorem tb_shl_lt (x : Int) {k i : Nat} (h : i < k) : tb (x * 2 ^ k) i = false := by
  unfold tb
  obtain ⟨d, rfl⟩ : ∃ d, k = i + (d + 1) := ⟨k - i - 1, by omega⟩
  have e : x * 2 ^ (i + (d + 1)) = (2 * (x * 2 ^ d)) * 2 ^ i := by
    rw [padd, psucc, Int.mul_comm (2 ^ i), ← Int.mul_assoc, ← Int.mul_assoc, Int.mul_comm x 2, Int.mul_assoc 2]
  rw [e, Int.mul_ediv_cancel _ (by have := ppos i; omega)]
  simp only [decide_eq_false_iff_not]
  omega
theorem tb_shl_ge (x : Int) {k i : Nat} (h : k ≤ i) : tb (x * 2 ^ k) i = tb x (i - k) := by
  obtain ⟨d, rfl⟩ : ∃ d, i = k + d := ⟨i - k, by omega⟩
  rw [← tb_shr, Int.mul_ediv_cancel _ (by have := ppos k; omega)]
  congr 1; omega
theorem tb_shl (x : Int) (k i : Nat) : tb (x * 2 ^ k) i = (decide (k ≤ i) && tb x (i - k)) := by
  by_cases h : k ≤ i
  · rw [tb_shl_ge x h]; simp [h]
  · rw [tb_shl_lt x (by omega)]; simp [h]
theorem tb_mod (x : Int) (k i : Nat) : tb (x % 2 ^ k) i = (decide (i < k) && tb x i) := by
  by_cases h : i < k
  · obtain ⟨d, rfl⟩ : ∃ d, k = i + (d + 1) := ⟨k - i - 1, by omega⟩
    simp only [h, decide_true, Bool.true_and]
    unfold tb
    have hp := ppos (d + 1)
    have hi := ppos i
    have e : x % 2 ^ (i + (d + 1)) / 2 ^ i = (x / 2 ^ i) % 2 ^ (d + 1) := by
      have h1 := Int.emod_def x (2 ^ (i + (d + 1)))
      have h2 := Int.emod_def (x / 2 ^ i) (2 ^ (d + 1))
      rw [h1, h2, padd, ← Int.ediv_ediv_of_nonneg (Int.le_of_lt hi), Int.mul_assoc, Int.sub_eq_add_neg, ← Int.mul_neg, Int.add_mul_ediv_left _ _ (by omega), Int.sub_eq_add_neg]
    rw [e, psucc]
    have : (x / 2 ^ i) % (2 * 2 ^ d) % 2 = (x / 2 ^ i) % 2 := Int.emod_emod_of_dvd _ ⟨2 ^ d, rfl⟩
    rw [this]
  · simp only [h, decide_false, Bool.false_and]
    unfold tb
    have hk := ppos k
    have h0 := Int.emod_nonneg x (show (2 : Int) ^ k ≠ 0 by omega)
    have h1 := Int.emod_lt_of_pos x hk
    have h2 : (2 : Int) ^ k ≤ 2 ^ i := by
      rw [← pcast, ← pcast]
      have := Nat.pow_le_pow_right (show 0 < 2 by decide) (show k ≤ i by omega)
      omega
    rw [Int.ediv_eq_zero_of_lt h0 (by omega)]
    rfl
theorem tb_0 (i : Nat) : tb 0 i = false := by simp [tb]
theorem tb_pow (k i : Nat) : tb (2 ^ k) i = decide (i = k) := by
  have h := tb_shl 1 k i
  rw [Int.one_mul] at h
  rw [h]
  have : ∀ j, tb 1 j = decide (j = 0) := by
    intro j
    cases j with
    | zero => rfl
    | succ j => rw [tb_succ, show (1 : Int) / 2 = 0 from rfl, tb_0]; simp
  rw [this]
  by_cases h1 : k ≤ i
  · simp [h1]; omega
  · simp [h1]; omega
theorem tb_m1 (i : Nat) : tb (-1) i = true := by
  have := tb_not 0 i
  rw [tb_0] at this
  exact this
theorem tb_ones (k i : Nat) : tb (2 ^ k - 1) i = decide (i < k) := by
  have h := tb_mod (-1) k i
  rw [tb_m1, Bool.and_true] at h
  have hp := ppos k
  have e : (2 : Int) ^ k - 1 = -1 % 2 ^ k := ((Int.ediv_emod_unique (b := 2 ^ k) (a := -1) (q := -1) (r := 2 ^ k - 1) hp).mpr ⟨by omega, by omega, by omega⟩).2.symm
  rw [e, h]
/-- a number below 2 ^ k has no bit from k on -/
theorem tb_lt {x : Int} {k i : Nat} (h0 : 0 ≤ x) (h1 : x < 2 ^ k) (hi : k ≤ i) : tb x i = false := by
  have h := tb_mod x k i
  rw [Int.emod_eq_of_lt h0 h1] at h
  rw [h]
  simp
  intro h2
  omega
theorem lt_of_tb {x : Int} {k : Nat} (h : ∀ i, k ≤ i → tb x i = false) : 0 ≤ x ∧ x < 2 ^ k := by
  have e : x = x % 2 ^ k := by
    apply tb_ext
    intro i
    rw [tb_mod]
    by_cases hi : i < k
    · simp [hi]
    · rw [h i (by omega)]; simp
  have hk := ppos k
  rw [e]
  exact ⟨Int.emod_nonneg _ (by omega), Int.emod_lt_of_pos _ hk⟩
theorem tb_sub_odd (x : Int) (i : Nat) : tb x i = decide (x / 2 ^ i % 2 = 1) := rfl
end Mine
namespace Mine
section
variable {prog : Program} {w : World} {A : Around} {E : Value → Shared → Prop} {s : Shared} {Q : Value → Shared → Prop} {a b c : Int} {t u : Tok}
theorem lshL (e : a * 2 ^ b.toNat = c) (h0 : 0 ≤ b) (hb : (Builtin.Int.intBits a : Int) + b ≤ 2 ^ 27) (h : Q (.int c s.toks) { s with toks := s.toks + 1 }) : wpAny (model prog w) A (binaryOp .LShift (.int a t) (.int b u)) Q E s := lshift_int h0 hb (e ▸ h)
theorem rshL (e : a.fdiv (2 ^ b.toNat) = c) (h0 : 0 ≤ b) (h : Q (.int c s.toks) { s with toks := s.toks + 1 }) : wpAny (model prog w) A (binaryOp .RShift (.int a t) (.int b u)) Q E s := rshift_int h0 (e ▸ h)
theorem andL (e : Builtin.bitAnd a b = c) (h : Q (.int c s.toks) { s with toks := s.toks + 1 }) : wpAny (model prog w) A (binaryOp .BitAnd (.int a t) (.int b u)) Q E s := and_int (e ▸ h)
theorem xorL (e : Builtin.bitXor a b = c) (h : Q (.int c s.toks) { s with toks := s.toks + 1 }) : wpAny (model prog w) A (binaryOp .BitXor (.int a t) (.int b u)) Q E s := xor_int (e ▸ h)
theorem ixorL (e : Builtin.bitXor a b = c) (h : Q (.int c s.toks) { s with toks := s.toks + 1 }) : wpAny (model prog w) A (inplaceOp .BitXor (.int a t) (.int b u)) Q E s := ixor_int (e ▸ h)
end
theorem c1 : (1 : Int) * 2 ^ Int.toNat 13 = 8192 := by decide +kernel
theorem c2 : Builtin.bitAnd 8192 (1 * 2 ^ Int.toNat 32 - 1) = 8192 := by decide +kernel
theorem c3 : Builtin.bitXor 1 8192 = 8193 := by decide +kernel
theorem c4 : (8193 : Int).fdiv (2 ^ Int.toNat 17) = 0 := by decide +kernel
theorem c5 : Builtin.bitXor 8193 0 = 8193 := by decide +kernel
theorem c6 : (8193 : Int) * 2 ^ Int.toNat 5 = 262176 := by decide +kernel
theorem c7 : Builtin.bitAnd 262176 (1 * 2 ^ Int.toNat 32 - 1) = 262176 := by decide +kernel
theorem c8 : Builtin.bitXor 8193 262176 = 270369 := by decide +kernel
theorem c9 : (270369 : Int) * 2 ^ Int.toNat 13 = 2214862848 := by decide +kernel
theorem c10 : Builtin.bitAnd 2214862848 (1 * 2 ^ Int.toNat 32 - 1) = 2214862848 := by decide +kernel
theorem c11 : Builtin.bitXor 270369 2214862848 = 2214592545 := by decide +kernel
theorem c12 : (2214592545 : Int).fdiv (2 ^ Int.toNat 17) = 16896 := by decide +kernel
theorem c13 : Builtin.bitXor 2214592545 16896 = 2214609441 := by decide +kernel
theorem c14 : (2214609441 : Int) * 2 ^ Int.toNat 5 = 70867502112 := by decide +kernel
theorem c15 : Builtin.bitAnd 70867502112 (1 * 2 ^ Int.toNat 32 - 1) = 2148025376 := by decide +kernel
theorem c16 : Builtin.bitXor 2214609441 2148025376 = 67634689 := by decide +kernel
theorem c17 : (67634689 : Int) * 2 ^ Int.toNat 13 = 554063372288 := by decide +kernel
theorem c18 : Builtin.bitAnd 554063372288 (1 * 2 ^ Int.toNat 32 - 1) = 12591104 := by decide +kernel
theorem c19 : Builtin.bitXor 67634689 12591104 = 80225793 := by decide +kernel
theorem c20 : (80225793 : Int).fdiv (2 ^ Int.toNat 17) = 612 := by decide +kernel
theorem c21 : Builtin.bitXor 80225793 612 = 80225381 := by decide +kernel
theorem c22 : (80225381 : Int) * 2 ^ Int.toNat 5 = 2567212192 := by decide +kernel
theorem c23 : Builtin.bitAnd 2567212192 (1 * 2 ^ Int.toNat 32 - 1) = 2567212192 := by decide +kernel
theorem c24 : Builtin.bitXor 80225381 2567212192 = 2647435461 := by decide +kernel
def stepP (x : Int) : Int := let a := Builtin.bitXor x ((x * 8192).fmod 4294967296); let b := Builtin.bitXor a (a.fdiv 131072); Builtin.bitXor b ((b * 32).fmod 4294967296)
theorem st_all : ∀ k : Nat, k < 3 → [1, 270369, 67634689, 2647435461].getD (((k : Nat) : Int) + 1).toNat 0 = stepP ([1, 270369, 67634689, 2647435461].getD ((k : Nat) : Int).toNat 0) := by decide +kernel
theorem st (c : Int) : [1, 270369, 67634689, 2647435461].getD (c.fmod 3 + 1).toNat 0 = stepP ([1, 270369, 67634689, 2647435461].getD (c.fmod 3).toNat 0) := by
  have h : 0 ≤ c.fmod 3 ∧ c.fmod 3 < 3 := by rw [Int.fmod_eq_emod_of_nonneg _ (by decide)]; omega
  have e := st_all (c.fmod 3).toNat (by omega)
  rw [Int.toNat_of_nonneg h.1] at e
  exact e
section
 open PySem.Calls PyProof.V PySem.Spec
theorem quiet_loop {prog : Program} {w : World} {A : Around} {E : Value → Shared → Prop} {s : Shared} {env : Env} {h₀ : Heap} {x : Str} {body : List Stmt} {Q : Flow → Shared → Prop} {l : Addr} {vs : List Value} {ns : List Int} {nn : Nat} {m₀ : Str → Option Value} {news : List (Addr × Obj)}
    (hh : A.handled = none) (hl : (l, W.listOf vs.toArray nn) ∈ news) (hi : IntsAre vs ns) (F : Fr h₀ env.locals s.heap m₀) (N : News h₀ env.locals s.heap news)
    (turn : ∀ (pre : List Int) (n : Int) t h tk own, OwnOff own (news.map (·.1)) → Fr h₀ env.locals h (fun y => if y = x then some (.int n t) else m₀ y) → News h₀ env.locals h (news ++ own) →
      wpAny (model prog w) A (execs body env) (InvPostN h₀ env.locals (KstS (σ := Unit) (fun _ => news) (fun _ => []) (fun _ => True) x [] m₀ (fun _ _ => True) (pre ++ [n])) own (news.map (·.1)) { s with heap := h, toks := tk } Q) E { s with heap := h, toks := tk })
    (done : ∀ (u : Str → Option Value) h tk, Fr h₀ env.locals h (fun y => if y = x then u y else m₀ y) → News h₀ env.locals h news → Q .next { s with heap := h, toks := tk }) :
    wpAny (model prog w) A (pyIter (.ref l)) (fun it s₂ => LoopAtV prog w A h₀ env x body Q E it s₂) E s := by
  refine kst_listL (σ := Unit) (fun _ => news) (fun _ => []) (fun _ => True) [] (fun _ _ => True) () hh (fun _ => hl) hi F N trivial (fun p hp => (nomatch hp)) trivial ?_ ?_
  · intro c pre post n t u h tk own e hm ho _ _ F' N'
    exact turn pre n t h tk own ho (by simpa [kstB] using F') N'
  · intro c u h tk _ _ F' N'
    exact done u h tk (by simpa [kstB] using F') N'
end
theorem ite_eq {a b : Int} {P Q : Prop} (e : a = b) (h : Q) : if (a != b) = true then P else Q := by
  subst e; simpa using h
theorem gen_toks {α : Type} {M : Model} {A : Around} {T : Sem α} {Q : α → Shared → Prop} {E : Value → Shared → Prop} {h : Heap} {g d os} {X : Nat} (k : ∀ tk, wpAny M A T Q E ⟨h, g, d, tk, os⟩) : wpAny M A T Q E ⟨h, g, d, X, os⟩ := k X
end Mine
local macro_rules | `(tactic| walk_at "ite") => `(tactic| (with_reducible refine Mine.ite_eq (Mine.st _) ?_))
local macro_rules | `(tactic| walk_at "execs nil") => `(tactic| ((with_reducible show wpAny _ _ _ _ _ ⟨_, _, _, _ + 1, _⟩); (with_reducible refine Mine.gen_toks (fun tk9 => ?_))))
local macro_rules | `(tactic| walk_at "execs cons") => `(tactic| ((with_reducible show wpAny _ _ _ _ _ ⟨_, _, _, _ + 1, _⟩); (with_reducible refine Mine.gen_toks (fun tk9 => ?_))))
local macro_rules | `(tactic| walk_at "pyIter ref") => `(tactic| ((with_reducible show wpAny _ _ (pyIter (Value.ref _)) (fun it s₂ => LoopAtV _ _ _ _ _ _ [Stmt.If (Expr.UnaryOp _ _ _) _ _ _] _ _ it s₂) _ _); k_here; (rename Fr _ _ _ _ => lF'); (rename News _ _ _ _ => lN'); ((with_unfolding_all refine' Mine.quiet_loop ?hh (List.Mem.tail _ (List.Mem.head _)) (.cons _ _ (.cons _ _ (.cons _ _ .nil))) lF' lN' (fun pre9 n9 t9 h9 tk9 own9 qOff qFr qNews => ?_) (fun u9 h9 tk9 qFr qNews => ?_)); (case hh => with_unfolding_all rfl); (all_goals (try clear lF' lN')); (all_goals (try k_fold)))))
local macro_rules | `(tactic| walk_at "binaryOp LShift int int") => `(tactic| (k_here; with_reducible first | refine Mine.lshL Mine.c1 (by decide) (by decide) ?_ | refine Mine.lshL Mine.c6 (by decide) (by decide) ?_ | refine Mine.lshL Mine.c9 (by decide) (by decide) ?_ | refine Mine.lshL Mine.c14 (by decide) (by decide) ?_ | refine Mine.lshL Mine.c17 (by decide) (by decide) ?_ | refine Mine.lshL Mine.c22 (by decide) (by decide) ?_))
local macro_rules | `(tactic| walk_at "binaryOp RShift int int") => `(tactic| (k_here; with_reducible first | refine Mine.rshL Mine.c4 (by decide) ?_ | refine Mine.rshL Mine.c12 (by decide) ?_ | refine Mine.rshL Mine.c20 (by decide) ?_))
local macro_rules | `(tactic| walk_at "binaryOp BitAnd int int") => `(tactic| (k_here; with_reducible first | refine Mine.andL Mine.c2 ?_ | refine Mine.andL Mine.c7 ?_ | refine Mine.andL Mine.c10 ?_ | refine Mine.andL Mine.c15 ?_ | refine Mine.andL Mine.c18 ?_ | refine Mine.andL Mine.c23 ?_))
local macro_rules | `(tactic| walk_at "binaryOp BitXor int int") => `(tactic| (k_here; with_reducible first | refine Mine.xorL Mine.c3 ?_ | refine Mine.xorL Mine.c5 ?_ | refine Mine.xorL Mine.c8 ?_ | refine Mine.xorL Mine.c11 ?_ | refine Mine.xorL Mine.c13 ?_ | refine Mine.xorL Mine.c16 ?_ | refine Mine.xorL Mine.c19 ?_ | refine Mine.xorL Mine.c21 ?_ | refine Mine.xorL Mine.c24 ?_))
local macro_rules | `(tactic| walk_at "inplaceOp BitXor int int") => `(tactic| (k_here; with_reducible first | refine Mine.ixorL Mine.c3 ?_ | refine Mine.ixorL Mine.c5 ?_ | refine Mine.ixorL Mine.c8 ?_ | refine Mine.ixorL Mine.c11 ?_ | refine Mine.ixorL Mine.c13 ?_ | refine Mine.ixorL Mine.c16 ?_ | refine Mine.ixorL Mine.c19 ?_ | refine Mine.ixorL Mine.c21 ?_ | refine Mine.ixorL Mine.c24 ?_))
set_option maxRecDepth 100000 in
set_option maxHeartbeats 8000000 in
theorem PySem.Challenge.cw_k5_0102_holds : PySem.Challenge.rw_k5_0102.Holds := by
  (k_with "pyIter ref" => k_of "turn" => k_search (fun _ => True))
  (k_with "state" => trivial)
  (k_with "call ref" => k_call_by "_law_step" Mine.stepP)
  (k_with "tree" => ((with_reducible show _ = Mine.stepP _); dsimp only [Mine.stepP]))
  open_k
