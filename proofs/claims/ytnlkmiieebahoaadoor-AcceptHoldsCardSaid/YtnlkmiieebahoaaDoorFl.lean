/- Floats: a number times 1000, cut to a whole number; thousandths (conditions: none). Of no program. -/
import Derived.Test.YtnlkmiieebahoaaDoorBase
import Derived.Laws.FloatArith
set_option linter.unusedVariables false
set_option linter.unusedSimpArgs false
namespace Go.Proofs.YtnlkmiieebahoaaDoor
open Go.RowKit Ieee

/-- in units of the least place. -/
def units (m : Nat) (i : Int) : Nat := m * 2 ^ (i + 1074).toNat
theorem dbl_least : double.leastPlace = -1074 := by rfl
theorem dbl_binade : double.binade = 2 ^ 52 := rfl
theorem dbl_inf : double.infRung = 2047 * 2 ^ 52 := rfl
theorem dbl_sign : double.signWeight = 2 ^ 63 := rfl
theorem read_place {b m : Nat} {s : Bool} {i : Int} (h : double.read b = .number s m i) : -1074 ≤ i := by
  unfold Format.read at h
  rw [dbl_least] at h
  dsimp only at h
  split at h
  · cases h; omega
  · split at h
    · cases h; omega
    · split at h <;> cases h
theorem cmp_scale (a b c : Nat) (hc : 0 < c) : compare (a : Int) (b : Int) = compare (a * c) (b * c) := by
  rcases Nat.lt_trichotomy a b with h | h | h
  · rw [show compare (a : Int) b = .lt from by simp [compare, compareOfLessAndEq]; omega, show compare (a * c) (b * c) = .lt from Nat.compare_eq_lt.2 (Nat.mul_lt_mul_of_pos_right h hc)]
  · subst h; rw [show compare (a : Int) a = .eq from by simp [compare, compareOfLessAndEq], show compare (a * c) (a * c) = .eq from Nat.compare_eq_eq.2 rfl]
  · rw [show compare (a : Int) b = .gt from (by show compareOfLessAndEq (a : Int) b = .gt; unfold compareOfLessAndEq; rw [if_neg (by omega), if_neg (by omega)]), show compare (a * c) (b * c) = .gt from Nat.compare_eq_gt.2 (Nat.mul_lt_mul_of_pos_right h hc)]
theorem order_pos (m n : Nat) (i j : Int) (hi : -1074 ≤ i) (hj : -1074 ≤ j) : (Datum.number false m i).order (.number false n j) = some (compare (units m i) (units n j)) := by
  unfold Datum.order signed units
  dsimp only
  simp only [Bool.false_eq_true, if_false, Nat.shiftLeft_eq]
  rw [cmp_scale _ _ (2 ^ (min i j + 1074).toNat) (Nat.two_pow_pos _)]
  congr 2
  · rw [Nat.mul_assoc, ← Nat.pow_add]; congr 2; omega
  · rw [Nat.mul_assoc, ← Nat.pow_add]; congr 2; omega

theorem cut_even (n d : Nat) (hn : 0 < n) : n / 2 ^ d ≤ Toward.even.cut false n d ∧ Toward.even.cut false n d ≤ n / 2 ^ d + 1 := by
  have hlow : n / (1 <<< min d (n.log2 + 2)) = n / 2 ^ d := by
    rw [Nat.shiftLeft_eq, Nat.one_mul]
    rcases Nat.le_total d (n.log2 + 2) with h | h
    · rw [Nat.min_eq_left h]
    · rw [Nat.min_eq_right h]
      have h1 : n < 2 ^ (n.log2 + 1) := Nat.lt_log2_self
      have h2 : 2 ^ (n.log2 + 1) ≤ 2 ^ (n.log2 + 2) := Nat.pow_le_pow_right (by omega) (by omega)
      have h3 : 2 ^ (n.log2 + 2) ≤ 2 ^ d := Nat.pow_le_pow_right (by omega) h
      rw [Nat.div_eq_of_lt (by omega), Nat.div_eq_of_lt (by omega)]
  unfold Toward.cut
  dsimp only
  rw [hlow]
  constructor
  · omega
  · have : ∀ b : Bool, b.toNat ≤ 1 := by decide
    exact Nat.add_le_add_left (this _) _
theorem cut_zero (n d : Nat) (hn : 0 < n ∨ d = 0 ∨ n = 0) : Toward.zero.cut false n d = n / 2 ^ d := by
  unfold Toward.cut
  dsimp only
  simp only [Bool.toNat_false, Nat.add_zero]
  rw [Nat.shiftLeft_eq, Nat.one_mul]
  rcases Nat.eq_zero_or_pos n with h0 | h0
  · subst h0; simp
  rcases Nat.le_total d (n.log2 + 2) with h | h
  · rw [Nat.min_eq_left h]
  · rw [Nat.min_eq_right h]
    have h1 : n < 2 ^ (n.log2 + 1) := Nat.lt_log2_self
    have h2 : 2 ^ (n.log2 + 1) ≤ 2 ^ (n.log2 + 2) := Nat.pow_le_pow_right (by omega) (by omega)
    have h3 : 2 ^ (n.log2 + 2) ≤ 2 ^ d := Nat.pow_le_pow_right (by omega) h
    rw [Nat.div_eq_of_lt (by omega), Nat.div_eq_of_lt (by omega)]
theorem cut_even0 (n : Nat) : Toward.even.cut false n 0 = n := by
  unfold Toward.cut; simp
  omega
theorem toInt_neg (m d : Nat) : (Datum.number false m (-(d : Int))).toInt .zero = some ((m / 2 ^ d : Nat) : Int) := by
  unfold Datum.toInt Datum.integral
  dsimp only
  rw [show ((-(d : Int)).toNat) = 0 by omega, show ((- -(d : Int)).toNat) = d by omega, Nat.shiftLeft_zero, cut_zero m d (by omega)]
  simp [signed]

/-- what is kept of mag / 2^p. -/
theorem kept_bounds (mag p : Nat) (hm : 0 < mag) (hlt : mag < 1000 * 2 ^ p) (z : Nat) (kept : Nat) (hz : (z : Int) = -(max (-(p : Int) + mag.log2 - 52) (-1074)))
    (hk : kept = Toward.even.cut false (mag <<< (-(p : Int) - -(z : Int)).toNat) (-(z : Int) - -(p : Int)).toNat) :
    43 ≤ z ∧ z ≤ 1074 ∧ kept ≤ 2 ^ 53 ∧ kept ≤ 1000 * 2 ^ z ∧ (∀ K, K * 2 ^ p ≤ mag → K * 2 ^ z ≤ kept) ∧ (z = 1074 ∨ 2 ^ 52 ≤ kept) := by
  have hL1 : 2 ^ mag.log2 ≤ mag := Nat.log2_self_le (by omega)
  have hL2 : mag < 2 ^ (mag.log2 + 1) := Nat.lt_log2_self
  have hLp : mag.log2 < p + 10 := by
    have h1 : 2 ^ mag.log2 < 2 ^ (p + 10) := by rw [Nat.pow_add]; omega
    exact (Nat.pow_lt_pow_iff_right (by omega)).1 h1
  generalize mag.log2 = L at *
  have hz1 : 43 ≤ z := by omega
  have hz2 : z ≤ 1074 := by omega
  rcases Nat.le_total p z with hpz | hpz
  · -- it is shifted up: exact
    obtain ⟨u, rfl⟩ : ∃ u, z = p + u := ⟨z - p, by omega⟩
    rw [show (-((p + u : Nat) : Int) - -(p : Int)).toNat = 0 by omega, cut_even0, show (-(p : Int) - -((p + u : Nat) : Int)).toNat = u by omega, Nat.shiftLeft_eq] at hk
    have hu : u + L ≤ 52 := by omega
    have e1 : mag * 2 ^ u < 2 ^ (L + 1) * 2 ^ u := Nat.mul_lt_mul_of_pos_right hL2 (Nat.two_pow_pos _)
    have e2 : 2 ^ (L + 1) * 2 ^ u ≤ 2 ^ 53 := by rw [← Nat.pow_add]; exact Nat.pow_le_pow_right (by omega) (by omega)
    refine ⟨hz1, hz2, by omega, ?_, ?_, ?_⟩
    · rw [hk, Nat.pow_add, ← Nat.mul_assoc]; exact Nat.mul_le_mul_right _ (by omega)
    · intro K hK; rw [hk, Nat.pow_add, ← Nat.mul_assoc]; exact Nat.mul_le_mul_right _ hK
    · rcases Nat.lt_or_ge (p + u) 1074 with h | h
      · right
        have hu2 : u + L = 52 := by omega
        rw [hk, ← hu2, Nat.pow_add, Nat.mul_comm]; exact Nat.mul_le_mul_right _ hL1
      · left; omega
  · obtain ⟨d, rfl⟩ : ∃ d, p = z + d := ⟨p - z, by omega⟩
    rw [show (-((z + d : Nat) : Int) - -(z : Int)).toNat = 0 by omega, show (-(z : Int) - -((z + d : Nat) : Int)).toNat = d by omega, Nat.shiftLeft_zero] at hk
    have hc := cut_even mag d hm
    rw [← hk] at hc
    have hd : L ≤ d + 52 := by omega
    have e1 : mag / 2 ^ d < 2 ^ 53 := by
      rw [Nat.div_lt_iff_lt_mul (Nat.two_pow_pos _), ← Nat.pow_add]
      exact Nat.lt_of_lt_of_le hL2 (Nat.pow_le_pow_right (by omega) (by omega))
    have e2 : mag / 2 ^ d < 1000 * 2 ^ z := by
      rw [Nat.div_lt_iff_lt_mul (Nat.two_pow_pos _), Nat.mul_assoc, ← Nat.pow_add]; exact hlt
    refine ⟨hz1, hz2, by omega, by omega, ?_, ?_⟩
    · intro K hK
      refine Nat.le_trans ?_ hc.1
      rw [Nat.le_div_iff_mul_le (Nat.two_pow_pos _), Nat.mul_assoc, ← Nat.pow_add]; exact hK
    · rcases Nat.lt_or_ge z 1074 with h | h
      · right
        have hd2 : L = d + 52 := by omega
        refine Nat.le_trans ?_ hc.1
        rw [Nat.le_div_iff_mul_le (Nat.two_pow_pos _), ← Nat.pow_add, Nat.add_comm 52 d, ← hd2]; exact hL1
      · left; omega

theorem nearest_small (mag p : Nat) (hm : 0 < mag) (hlt : mag < 1000 * 2 ^ p) :
    ∃ t : Nat, (double.read (double.nearest false mag (-(p : Int)))).toInt .zero = some (t : Int) ∧ t ≤ 1000 ∧ ∀ K, K * 2 ^ p ≤ mag → K ≤ t := by
  obtain ⟨z, hz⟩ : ∃ z : Nat, (z : Int) = -(max (-(p : Int) + mag.log2 - 52) (-1074)) := by
    have hLp : mag.log2 < p + 10 := by
      have hL1 : 2 ^ mag.log2 ≤ mag := Nat.log2_self_le (by omega)
      have h1 : 2 ^ mag.log2 < 2 ^ (p + 10) := by rw [Nat.pow_add]; omega
      exact (Nat.pow_lt_pow_iff_right (by omega)).1 h1
    exact ⟨(-(max (-(p : Int) + mag.log2 - 52) (-1074))).toNat, by omega⟩
  obtain ⟨kept, hk⟩ : ∃ kept, kept = Toward.even.cut false (mag <<< (-(p : Int) - -(z : Int)).toNat) (-(z : Int) - -(p : Int)).toNat := ⟨_, rfl⟩
  obtain ⟨hz1, hz2, h53, hup, hK, hn⟩ := kept_bounds mag p hm hlt z kept hz hk
  have hnear : double.nearest false mag (-(p : Int)) = (1074 - z) * 2 ^ 52 + kept := by
    unfold Format.nearest
    rw [if_neg (by omega), dbl_least, dbl_binade, dbl_inf, show double.fractionBits = 52 from rfl]
    dsimp only
    rw [show (max (-(p : Int) + mag.log2 - ((52 : Nat) : Int)) (-1074)) = -(z : Int) by omega, ← hk, show ((-(z : Int)) - -1074).toNat = 1074 - z by omega, Nat.min_eq_left (by omega)]
    rfl
  refine ⟨kept / 2 ^ z, ?_, ?_, ?_⟩
  · rw [hnear]
    obtain ⟨a, ha⟩ : ∃ a, a = 1074 - z := ⟨_, rfl⟩
    rw [← ha]
    have hs : (a * 2 ^ 52 + kept) < 2 ^ 63 := by omega
    unfold Format.read
    rw [dbl_sign, dbl_binade, dbl_least, dbl_inf]
    dsimp only
    rw [Nat.mod_eq_of_lt hs, Nat.div_eq_of_lt hs]
    by_cases h1 : a * 2 ^ 52 + kept < 2 ^ 52
    · rw [if_pos h1]
      have ha0 : a = 0 := by omega
      subst ha0
      rw [show (-1074 : Int) = -((1074 : Nat) : Int) by rfl]
      have hz3 : z = 1074 := by omega
      subst hz3
      simp only [Nat.zero_mul, Nat.zero_add]
      exact toInt_neg _ _
    · rw [if_neg h1, if_pos (by omega)]
      have hge : 2 ^ 52 ≤ kept := by omega
      rcases Nat.lt_or_ge kept (2 ^ 53) with h2 | h2
      · have q1 : (a * 2 ^ 52 + kept) / 2 ^ 52 = a + 1 := by omega
        have q2 : (a * 2 ^ 52 + kept) % 2 ^ 52 = kept - 2 ^ 52 := by omega
        rw [q1, q2, show (2 ^ 52 + (kept - 2 ^ 52)) = kept by omega, show (-1074 : Int) + ((a + 1 - 1 : Nat) : Int) = -(z : Int) by omega]
        exact toInt_neg _ _
      · have hk3 : kept = 2 ^ 53 := by omega
        have q1 : (a * 2 ^ 52 + kept) / 2 ^ 52 = a + 2 := by omega
        have q2 : (a * 2 ^ 52 + kept) % 2 ^ 52 = 0 := by omega
        obtain ⟨y, rfl⟩ : ∃ y, z = y + 1 := ⟨z - 1, by omega⟩
        rw [q1, q2, show (2 ^ 52 + 0) = 2 ^ 52 by omega, show (-1074 : Int) + ((a + 2 - 1 : Nat) : Int) = -(y : Int) by omega]
        refine (toInt_neg _ _).trans ?_
        rw [hk3, Nat.pow_succ 2 y, show (2 ^ 53 : Nat) = 2 ^ 52 * 2 by rfl, Nat.mul_div_mul_right _ _ (by omega)]
  · rw [Nat.div_le_iff_le_mul_add_pred (Nat.two_pow_pos _)]
    rw [Nat.mul_comm]; have := Nat.two_pow_pos z; omega
  · intro K h
    rw [Nat.le_div_iff_mul_le (Nat.two_pow_pos _)]
    exact hK K h
end Go.Proofs.YtnlkmiieebahoaaDoor
