/- What a number weighs never falls; of no number it is 0 (conditions: none). Of no program. -/
import Derived.Test.YtnlkmiieebahoaaDoorWei
set_option linter.unusedVariables false
set_option linter.unusedSimpArgs false
namespace Go.Proofs.YtnlkmiieebahoaaDoor
open Go.RowKit Ieee

theorem weigh_le {x y : Nat} (h : (FloatKind.f64.format.order x y == some .lt || FloatKind.f64.format.order x y == some .eq) = true) : weighS x ≤ weighS y := by
  change (double.order x y == some .lt || double.order x y == some .eq) = true at h
  unfold Format.order at h
  cases hx : double.read x with
  | nan s f => rw [show weighS x = 0 by unfold weighS; rw [hx]]; omega
  | infinity s =>
    cases s with
    | true => rw [show weighS x = 0 by unfold weighS; rw [hx]]; omega
    | false =>
      rw [hx] at h
      cases hy : double.read y with
      | nan t f => rw [hy] at h; simp [Datum.order] at h
      | infinity t =>
        cases t with
        | true => rw [hy] at h; exact absurd h (by decide)
        | false => rw [show weighS x = 1000 by unfold weighS; rw [hx], show weighS y = 1000 by unfold weighS; rw [hy]]; omega
      | number t n j => rw [hy] at h; simp [Datum.order] at h
  | number s m i =>
    cases s with
    | true => rw [show weighS x = 0 by unfold weighS; rw [hx]]; omega
    | false =>
      have hwx : weighS x = W (units m i) := by unfold weighS; rw [hx]
      rw [hx] at h
      cases hy : double.read y with
      | nan t f => rw [hy] at h; simp [Datum.order] at h
      | infinity t =>
        cases t with
        | true => rw [hy] at h; simp [Datum.order] at h
        | false => rw [hwx, show weighS y = 1000 by unfold weighS; rw [hy]]; exact W_le _
      | number t n j =>
        rw [hy] at h
        cases t with
        | false =>
          rw [order_pos _ _ _ _ (read_place hx) (read_place hy)] at h
          rw [hwx, show weighS y = W (units n j) by unfold weighS; rw [hy]]
          refine W_mono ?_
          rcases Nat.lt_trichotomy (units m i) (units n j) with h1 | h1 | h1
          · omega
          · omega
          · rw [Nat.compare_eq_gt.2 h1] at h; exact absurd h (by decide)
        | true =>
          have hm : m = 0 := by
            rcases Nat.eq_zero_or_pos m with h0 | h0
            · exact h0
            · exfalso
              simp only [Datum.order, signed, if_true, Bool.false_eq_true, if_false, Nat.shiftLeft_eq] at h
              have h2 : 0 < m * 2 ^ (i - min i j).toNat := Nat.mul_pos h0 (Nat.two_pow_pos _)
              have h3 : compare (((m * 2 ^ (i - min i j).toNat : Nat)) : Int) (-((n * 2 ^ (j - min i j).toNat : Nat) : Int)) = .gt := by
                show compareOfLessAndEq _ _ = _
                unfold compareOfLessAndEq
                rw [if_neg (by omega), if_neg (by omega)]
              rw [h3] at h
              exact absurd h (by decide)
          subst hm
          rw [hwx]
          have : units 0 i = 0 := by simp [units]
          rw [this, W_zero]; omega
theorem weigh_nan {x : Nat} (h : (FloatKind.f64.format.order x x != some .eq) = true) : weighS x = 0 := by
  change (double.order x x != some .eq) = true at h
  unfold Format.order at h
  cases hx : double.read x with
  | nan s f => unfold weighS; rw [hx]
  | infinity s =>
    rw [hx] at h
    cases s <;> (exact absurd h (by decide))
  | number s m i =>
    rw [hx] at h
    exfalso
    have h3 : ∀ a : Int, compare a a = .eq := fun a => by
      show compareOfLessAndEq _ _ = _
      unfold compareOfLessAndEq
      rw [if_neg (by omega), if_pos rfl]
    simp only [Datum.order, h3] at h
    exact absurd h (by decide)
end Go.Proofs.YtnlkmiieebahoaaDoor
