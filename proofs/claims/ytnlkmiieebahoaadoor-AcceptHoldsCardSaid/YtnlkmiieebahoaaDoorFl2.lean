/- Thousandths as floats; what a number weighs, in plain words (conditions: none). Of no program. -/
import Derived.Test.YtnlkmiieebahoaaDoorFl
set_option linter.unusedVariables false
set_option linter.unusedSimpArgs false
namespace Go.Proofs.YtnlkmiieebahoaaDoor
open Go.RowKit Ieee

def B1000 : Nat := 4652007308841189376
def B1 : Nat := 4607182418800017408
def cN (n : Nat) : Nat := (floatBits .quo .f64 (floatOfInt .f64 n) B1000).getD 0
def uOf (b : Nat) : Nat := match double.read b with | .number false m i => units m i | _ => 0
def uN (n : Nat) : Nat := uOf (cN n)
def isPos (b : Nat) : Bool := match double.read b with | .number false _ _ => true | _ => false
theorem isPos_iff {b : Nat} (h : isPos b = true) : ∃ m i, double.read b = .number false m i ∧ uOf b = units m i := by
  unfold isPos at h
  split at h
  · rename_i m i e; exact ⟨m, i, e, by unfold uOf; rw [e]⟩
  · cases h

theorem tab1 : ((List.range 1001).all fun n => (floatBits .quo .f64 (floatOfInt .f64 n) B1000).isSome && isPos (cN n) && decide (n * 2 ^ 1074 ≤ uN n * 1000 + 2 ^ 1074)) = true := by decide +kernel
theorem tab2 : ((List.range 1000).all fun n => decide (uN n < uN (n + 1))) = true := by decide +kernel
theorem u0 : uN 0 = 0 := by decide +kernel
theorem u1000 : uN 1000 = 2 ^ 1074 := by decide +kernel

theorem cN_div (n : Nat) (h : n ≤ 1000) : floatBits .quo .f64 (floatOfInt .f64 n) B1000 = some (cN n) := by
  have := List.all_eq_true.1 tab1 n (by simp; omega)
  simp only [Bool.and_eq_true] at this
  unfold cN
  obtain ⟨x, hx⟩ := Option.isSome_iff_exists.1 this.1.1
  rw [hx]; rfl
theorem cN_pos (n : Nat) (h : n ≤ 1000) : isPos (cN n) = true := by
  have := List.all_eq_true.1 tab1 n (by simp; omega)
  simp only [Bool.and_eq_true] at this
  exact this.1.2
theorem uN_near (n : Nat) (h : n ≤ 1000) : n * 2 ^ 1074 ≤ uN n * 1000 + 2 ^ 1074 := by
  have := List.all_eq_true.1 tab1 n (by simp; omega)
  simp only [Bool.and_eq_true] at this
  exact of_decide_eq_true this.2
theorem uN_step (n : Nat) (h : n < 1000) : uN n < uN (n + 1) := of_decide_eq_true (List.all_eq_true.1 tab2 n (by simp; omega))
theorem uN_mono (a d : Nat) (h : a + d ≤ 1000) : uN a ≤ uN (a + d) := by
  induction d with
  | zero => exact Nat.le_refl _
  | succ d ih => exact Nat.le_trans (ih (by omega)) (Nat.le_of_lt (uN_step (a + d) (by omega)))
theorem uN_lt (a b : Nat) (h : a < b) (hb : b ≤ 1000) : uN a < uN b := by
  have h1 := uN_step a (by omega)
  have h2 := uN_mono (a + 1) (b - (a + 1)) (by omega)
  rw [show a + 1 + (b - (a + 1)) = b by omega] at h2
  omega

def Wgo (v : Nat) : Nat → Nat
  | 0 => 0
  | n + 1 => if uN (n + 1) ≤ v then n + 1 else Wgo v n
theorem Wgo_le (v : Nat) : ∀ n, Wgo v n ≤ n := by
  intro n
  induction n with
  | zero => simp [Wgo]
  | succ n ih => rw [Wgo]; split <;> omega
theorem Wgo_at (v : Nat) : ∀ n, uN (Wgo v n) ≤ v := by
  intro n
  induction n with
  | zero => rw [Wgo, u0]; omega
  | succ n ih => rw [Wgo]; split <;> assumption
theorem Wgo_most (v : Nat) : ∀ n k, k ≤ n → uN k ≤ v → k ≤ Wgo v n := by
  intro n
  induction n with
  | zero => intro k hk h; omega
  | succ n ih =>
    intro k hk h
    rw [Wgo]
    split
    · exact hk
    · rename_i hn
      rcases Nat.lt_or_ge k (n + 1) with h1 | h1
      · exact ih k (by omega) h
      · have : k = n + 1 := by omega
        subst this; exact absurd h hn
/-- the greatest number of thousandths that is not above v. -/
def W (v : Nat) : Nat := Wgo v 1000
theorem W_le (v : Nat) : W v ≤ 1000 := Wgo_le v 1000
theorem W_iff (v n : Nat) (h : n ≤ 1000) : uN n ≤ v ↔ n ≤ W v := by
  constructor
  · exact Wgo_most v 1000 n h
  · intro hn
    have h1 := Wgo_at v 1000
    rcases Nat.lt_or_ge n (W v) with h2 | h2
    · exact Nat.le_trans (Nat.le_of_lt (uN_lt n (W v) h2 (W_le v))) h1
    · have : n = W v := by omega
      rw [this]; exact h1
theorem W_mono {v u : Nat} (h : v ≤ u) : W v ≤ W u := (W_iff u (W v) (W_le v)).1 (Nat.le_trans ((W_iff v (W v) (W_le v)).2 (Nat.le_refl _)) h)
theorem W_uN (k : Nat) (h : k ≤ 1000) : W (uN k) = k := by
  have h1 := (W_iff (uN k) k h).1 (Nat.le_refl _)
  have h2 := (W_iff (uN k) (W (uN k)) (W_le _)).2 (Nat.le_refl _)
  rcases Nat.lt_or_ge k (W (uN k)) with h3 | h3
  · have := uN_lt k _ h3 (W_le _); omega
  · omega
theorem W_zero : W 0 = 0 := by have := W_uN 0 (by omega); rwa [u0] at this
theorem W_one (v : Nat) (h : 2 ^ 1074 ≤ v) : W v = 1000 := by
  have := (W_iff v 1000 (by omega)).1 (by rw [u1000]; exact h)
  have := W_le v; omega
theorem W_lt (v : Nat) (h : v < 2 ^ 1074) : W v ≤ 999 := by
  rcases Nat.lt_or_ge (W v) 1000 with h1 | h1
  · omega
  · have := (W_iff v 1000 (by omega)).2 h1; rw [u1000] at this; omega

/-- what a number weighs, by its bits. -/
def weighS (b : Nat) : Nat := match double.read b with | .number false m i => W (units m i) | .infinity false => 1000 | _ => 0
theorem weighS_le (b : Nat) : weighS b ≤ 1000 := by
  unfold weighS
  split
  · exact W_le _
  · omega
  · omega
theorem weighS_cN (k : Nat) (h : k ≤ 1000) : weighS (cN k) = k := by
  obtain ⟨m, i, h1, h2⟩ := isPos_iff (cN_pos k h)
  unfold weighS
  rw [h1]
  show W (units m i) = k
  rw [← h2]; exact W_uN k h

theorem read_B1 : double.read B1 = .number false (2 ^ 52) (-52) := by decide +kernel
theorem read_B0 : double.read 0 = .number false 0 (-1074) := by decide +kernel
theorem read_B1000 : double.read B1000 = .number false (1000 * 2 ^ 43) (-43) := by decide +kernel
theorem pow_split (a b c : Nat) (h : a + b = c) : 2 ^ a * 2 ^ b = 2 ^ c := by rw [← Nat.pow_add, h]
theorem units_B1 : units (2 ^ 52) (-52) = 2 ^ 1074 := pow_split 52 _ 1074 (by decide)
theorem order_B1 {b m : Nat} {i : Int} (h : double.read b = .number false m i) : double.order b B1 = some (compare (units m i) (2 ^ 1074)) := by
  unfold Format.order
  rw [h, read_B1, order_pos _ _ _ _ (read_place h) (by omega), units_B1]
theorem order_B0 {b m : Nat} {i : Int} (h : double.read b = .number false m i) : double.order b 0 = some (compare (units m i) 0) := by
  unfold Format.order
  rw [h, read_B0, order_pos _ _ _ _ (read_place h) (by omega)]
  simp [units]
theorem order_cN {b m : Nat} {i : Int} (h : double.read b = .number false m i) (n : Nat) (hn : n ≤ 1000) : double.order (cN n) b = some (compare (uN n) (units m i)) := by
  obtain ⟨m', i', h1, h2⟩ := isPos_iff (cN_pos n hn)
  unfold Format.order uN
  rw [h, h1, order_pos _ _ _ _ (read_place h1) (read_place h), h2]

theorem pow_mono2 (a b : Nat) (h : a ≤ b) : 2 ^ a ≤ 2 ^ b := Nat.pow_le_pow_right (by omega) h
theorem succ_mul2 (a b : Nat) : (a + 1) * b = a * b + b := Nat.succ_mul a b
theorem decode64 (r : Nat) : FloatKind.f64.decode r = double.read r := rfl
theorem fmul {b m : Nat} {i : Int} (h : double.read b = .number false m i) : floatBits .mul .f64 b B1000 = some (double.nearest false (m * (1000 * 2 ^ 43)) (i + -43)) := by
  have h1 : floatBits .mul .f64 b B1000 = double.mul b B1000 := rfl
  rw [h1]
  unfold Format.mul
  rw [h, read_B1000]
  simp only [Datum.product, Option.map_some, Format.write, Bool.xor_false]
theorem toI64 {r t : Nat} (h : (double.read r).toInt .zero = some (t : Int)) (ht : t ≤ 1000) : floatToIntVal .f64 r .i64 = some (t : Int) := by
  unfold floatToIntVal
  rw [decode64, h]
  dsimp only
  have e1 : IntKind.i64.min = -9223372036854775808 := by decide
  have e2 : IntKind.i64.max = 9223372036854775807 := by decide
  rw [if_pos]
  rw [e1, e2]
  omega

/-- a number below 1, times 1000, cut to a whole number: hardly less than what it weighs. -/
theorem mul1000 {b m : Nat} {i : Int} (h : double.read b = .number false m i) (hlt : units m i < 2 ^ 1074) (h0 : 0 < m) :
    ∃ r t : Nat, floatBits .mul .f64 b B1000 = some r ∧ floatToIntVal .f64 r .i64 = some (t : Int) ∧ t ≤ 1000 ∧ W (units m i) ≤ t + 1 := by
  have hi := read_place h
  obtain ⟨a, ha⟩ : ∃ a : Nat, i = -1074 + (a : Int) := ⟨(i + 1074).toNat, by omega⟩
  have hu : units m i = m * 2 ^ a := by unfold units; rw [ha]; congr 2; omega
  have ha2 : a < 1074 := by
    rcases Nat.lt_or_ge a 1074 with h1 | h1
    · exact h1
    · have h2 := pow_mono2 1074 a h1
      have h3 : 1 * 2 ^ a ≤ m * 2 ^ a := Nat.mul_le_mul_right _ h0
      rw [Nat.one_mul] at h3
      rw [hu] at hlt
      exact absurd hlt (Nat.not_lt.2 (Nat.le_trans h2 h3))
  obtain ⟨c, hc⟩ : ∃ c, a + c = 1074 := ⟨1074 - a, by omega⟩
  have hpow : 2 ^ 1074 = 2 ^ c * 2 ^ a := (pow_split c a 1074 (by omega)).symm
  have hic : i + -43 = -((c + 43 : Nat) : Int) := by omega
  have hmc : m < 2 ^ c := by rw [hu, hpow] at hlt; exact Nat.lt_of_mul_lt_mul_right hlt
  have hpos : 0 < m * (1000 * 2 ^ 43) := Nat.mul_pos h0 (by decide)
  have hmag : m * (1000 * 2 ^ 43) < 1000 * 2 ^ (c + 43) := by
    rw [Nat.pow_add, ← Nat.mul_assoc m, Nat.mul_comm m 1000, ← Nat.mul_assoc, Nat.mul_assoc 1000 m, Nat.mul_assoc 1000 (2 ^ c)]
    exact Nat.mul_lt_mul_of_pos_left (Nat.mul_lt_mul_of_pos_right hmc (by decide)) (by decide)
  obtain ⟨t, h1, h2, h3⟩ := nearest_small (m * (1000 * 2 ^ 43)) (c + 43) hpos hmag
  refine ⟨double.nearest false (m * (1000 * 2 ^ 43)) (-((c + 43 : Nat) : Int)), t, ?_, toI64 h1 h2, h2, ?_⟩
  · rw [fmul h, hic]
  · rcases Nat.eq_zero_or_pos (W (units m i)) with hz | hz
    · omega
    · obtain ⟨N, hN⟩ : ∃ N, W (units m i) = N + 1 := ⟨W (units m i) - 1, by omega⟩
      rw [hN]
      refine Nat.add_le_add_right (h3 N ?_) 1
      have hle := W_le (units m i)
      have hv := (W_iff (units m i) (N + 1) (by omega)).2 (by omega)
      have hn := uN_near (N + 1) (by omega)
      have e1 : N * 2 ^ 1074 ≤ units m i * 1000 := by
        have e3 : uN (N + 1) * 1000 ≤ units m i * 1000 := Nat.mul_le_mul_right _ hv
        clear hpow hlt
        generalize (2 ^ 1074 : Nat) = U at hn ⊢
        rw [Nat.add_mul, Nat.one_mul] at hn
        omega
      rw [hu, hpow] at e1
      have e4 : N * 2 ^ c ≤ m * 1000 := by
        have e5 : (N * 2 ^ c) * 2 ^ a ≤ (m * 1000) * 2 ^ a := by
          rw [Nat.mul_assoc, Nat.mul_assoc m, Nat.mul_comm 1000, ← Nat.mul_assoc m]; exact e1
        exact Nat.le_of_mul_le_mul_right e5 (Nat.two_pow_pos _)
      rw [Nat.pow_add, ← Nat.mul_assoc, ← Nat.mul_assoc]
      exact Nat.mul_le_mul_right _ e4
end Go.Proofs.YtnlkmiieebahoaaDoor
