/- Contracts: Weigh of the program and of the document (conditions: none). -/
import Derived.Test.YtnlkmiieebahoaaDoorFl2
set_option linter.unusedVariables false
set_option linter.unusedSimpArgs false
namespace Go.Proofs.YtnlkmiieebahoaaDoor
open Go.RowKit Ieee

theorem weigh_class (b : Nat) : (∃ m i, double.read b = .number false m i ∧ weighS b = W (units m i)) ∨
    (weighS b = 1000 ∧ double.order b B1 = some .gt ∧ double.order b 0 = some .gt) ∨ (weighS b = 0 ∧ (double.order b B1 = some .lt ∨ double.order b B1 = none) ∧ double.order b 0 ≠ some .gt) := by
  cases h : double.read b with
  | number s m i =>
    cases s
    · exact .inl ⟨m, i, rfl, by unfold weighS; rw [h]⟩
    · refine .inr (.inr ⟨by unfold weighS; rw [h], .inl ?_, ?_⟩)
      · unfold Format.order
        rw [h, read_B1]
        simp only [Datum.order, signed, if_true, Bool.false_eq_true, if_false, Nat.shiftLeft_eq]
        congr 1
        show compareOfLessAndEq _ _ = _
        unfold compareOfLessAndEq
        have h1 := Nat.two_pow_pos (-52 - min i (-52)).toNat
        have h2 : 0 < 2 ^ 52 * 2 ^ (-52 - min i (-52)).toNat := Nat.mul_pos (Nat.two_pow_pos _) h1
        rw [if_pos]
        omega
      · unfold Format.order
        rw [h, read_B0]
        simp only [Datum.order, signed, if_true, Bool.false_eq_true, if_false, Nat.shiftLeft_eq, Nat.zero_mul]
        intro hh
        have hh := Option.some.inj hh
        change compareOfLessAndEq _ _ = _ at hh
        unfold compareOfLessAndEq at hh
        split at hh
        · cases hh
        · split at hh
          · cases hh
          · omega
  | infinity s =>
    cases s
    · refine .inr (.inl ⟨by unfold weighS; rw [h], ?_, ?_⟩)
      · unfold Format.order; rw [h, read_B1]; rfl
      · unfold Format.order; rw [h, read_B0]; rfl
    · refine .inr (.inr ⟨by unfold weighS; rw [h], .inl ?_, ?_⟩)
      · unfold Format.order; rw [h, read_B1]; rfl
      · unfold Format.order; rw [h, read_B0]; simp [Datum.order]
  | nan s f =>
    refine .inr (.inr ⟨by unfold weighS; rw [h], .inr ?_, ?_⟩)
    · unfold Format.order; rw [h, read_B1]; rfl
    · unfold Format.order; rw [h, read_B0]; simp [Datum.order]

def geB (o : Option Ordering) : Bool := o == some .gt || o == some .eq
set_option maxRecDepth 100000 in
set_option maxHeartbeats 400000 in
theorem weigh_any (b : Nat) (w : World) : Calls Tryd.prog 6 #[.float .f64 b] w fun e w' => e = .returned (.int .i64 (weighS b)) ∧ w' = w := by
  go_enter Tryd.func6, Tryd.ntmps6
  rcases weigh_class b with ⟨m, i, hr, hw⟩ | ⟨hw, h1, h0⟩ | ⟨hw, h1, h0⟩
  · have o1 := order_B1 hr
    have o0 := order_B0 hr
    have oc := fun n hn => order_cN hr n hn
    rw [hw]
    rcases Nat.lt_trichotomy (units m i) (2 ^ 1074) with hc | hc | hc
    · rcases Nat.eq_zero_or_pos (units m i) with hz | hz
      · have hW : W (units m i) = 0 := by rw [hz]; exact W_zero
        rw [hW]
        have g1 : FloatKind.f64.format.order b 4607182418800017408 = some .lt := o1.trans (by rw [Nat.compare_eq_lt.2 hc])
        have g0 : FloatKind.f64.format.order b 0 = some .eq := o0.trans (by rw [hz]; rfl)
        clear hc o1 o0 oc hr hw hz hW
        go_wp2
        go_ret
        exact ⟨rfl, rfl⟩
      · have g1 : FloatKind.f64.format.order b 4607182418800017408 = some .lt := o1.trans (by rw [Nat.compare_eq_lt.2 hc])
        have g0 : FloatKind.f64.format.order b 0 = some .gt := o0.trans (by rw [Nat.compare_eq_gt.2 hz])
        have hm : 0 < m := by
          rcases Nat.eq_zero_or_pos m with h | h
          · subst h; simp [units] at hz
          · exact h
        obtain ⟨r, t, hr1, ht1, ht2, ht3⟩ := mul1000 hr hc hm
        have hlt := W_lt _ hc
        have hmul : ∀ w, (binOp .mul 23 (.float .f64 b) (.float .f64 4652007308841189376)).run Tryd.prog w = .ok (.float .f64 r) w := fun w => run_float_arith w .mul _ .f64 b _ r hr1
        have hcv : ∀ w, (convert 23 3 (.float .f64 r)).run Tryd.prog w = .ok (.int .i64 t) w := fun w => run_convert_float_int w _ _ .f64 .i64 r t (by kernel_rfl) Tryd.underlying3 ht1
        have hif : ∀ (n : Nat) w, (convert 3 23 (.int .i64 n)).run Tryd.prog w = .ok (.float .f64 (floatOfInt .f64 n)) w := fun n w => run_convert_int_float w _ _ .i64 .f64 n (by kernel_rfl) Tryd.underlying23
        have hdv : ∀ (n : Nat) (hn : n ≤ 1000) w, (binOp .quo 23 (.float .f64 (floatOfInt .f64 n)) (.float .f64 4652007308841189376)).run Tryd.prog w = .ok (.float .f64 (cN n)) w := fun n hn w => run_float_arith w .quo _ .f64 _ _ _ (cN_div n hn)
        have hcg : ∀ n, n ≤ 1000 → W (units m i) < n → FloatKind.f64.format.order (cN n) b = some .gt := fun n hn h => (oc n hn).trans (by
          have := (W_iff (units m i) n hn).1
          rw [Nat.compare_eq_gt.2 (by omega)])
        have hcl : ∀ n, n ≤ W (units m i) → (FloatKind.f64.format.order (cN n) b == some .gt) = false := fun n h => by
          have hn : n ≤ 1000 := by omega
          have h1 := (W_iff (units m i) n hn).2 h
          rw [show FloatKind.f64.format.order (cN n) b = some (compare (uN n) (units m i)) from oc n hn]
          rcases Nat.lt_or_eq_of_le h1 with h2 | h2
          · rw [Nat.compare_eq_lt.2 h2]; rfl
          · rw [Nat.compare_eq_eq.2 h2]; rfl
        generalize W (units m i) = N at hcg hcl hlt ht3 ⊢
        clear hw hc o1 o0 oc hr hz hr1 ht1 hm
        rcases Nat.lt_or_ge t 999 with hts | hts
        · have hmin : ((t : Int) + 1 ≤ 999) := by omega
          go_wp2
          go_loopw [3] (fun u wr => ∃ n : Nat, u = .int .i64 n ∧ N ≤ n ∧ n ≤ 999 ∧ wr = w) (fun u _ => (intOf u).toNat)
          case atStart => exact ⟨t + 1, by first | rfl | go_num, by omega, by omega, rfl⟩
          case round =>
            obtain ⟨n, rfl, hn1, hn2, rfl⟩ := hrel
            have hd := hdv n (by omega)
            rcases Nat.lt_or_ge N n with h | h
            · have hg := hcg n (by omega) h
              go_wp2
              go_roundw
              case rel => exact ⟨n - 1, by (obtain ⟨k, rfl⟩ : ∃ k, n = k + 1 := ⟨n - 1, by omega⟩); go_num, by omega, by omega, by first | rfl | trivial⟩
              case measure => simp [intOf]; omega
            · have hnN : n = N := by omega
              subst hnN
              have hg := hcl n (by omega)
              go_wp2
              go_ret
              exact ⟨rfl, rfl⟩
        · have hmin : ¬ ((t : Int) + 1 ≤ 999) := by omega
          go_wp2
          go_loopw [3] (fun u wr => ∃ n : Nat, u = .int .i64 n ∧ N ≤ n ∧ n ≤ 999 ∧ wr = w) (fun u _ => (intOf u).toNat)
          case atStart => exact ⟨999, by first | rfl | go_num, by omega, by omega, rfl⟩
          case round =>
            obtain ⟨n, rfl, hn1, hn2, rfl⟩ := hrel
            have hd := hdv n (by omega)
            rcases Nat.lt_or_ge N n with h | h
            · have hg := hcg n (by omega) h
              go_wp2
              go_roundw
              case rel => exact ⟨n - 1, by (obtain ⟨k, rfl⟩ : ∃ k, n = k + 1 := ⟨n - 1, by omega⟩); go_num, by omega, by omega, by first | rfl | trivial⟩
              case measure => simp [intOf]; omega
            · have hnN : n = N := by omega
              subst hnN
              have hg := hcl n (by omega)
              go_wp2
              go_ret
              exact ⟨rfl, rfl⟩
    · have hW : W (units m i) = 1000 := W_one _ (by omega)
      rw [hW]
      have g1 : FloatKind.f64.format.order b 4607182418800017408 = some .eq := o1.trans (by rw [hc]; exact congrArg some (Nat.compare_eq_eq.2 rfl))
      clear hc o1 o0 oc hr hw hW
      go_wp2
      go_ret
      exact ⟨rfl, rfl⟩
    · have hW : W (units m i) = 1000 := W_one _ (by omega)
      rw [hW]
      have g1 : FloatKind.f64.format.order b 4607182418800017408 = some .gt := o1.trans (by rw [Nat.compare_eq_gt.2 hc])
      clear hc o1 o0 oc hr hw hW
      go_wp2
      go_ret
      exact ⟨rfl, rfl⟩
  · rw [hw]
    have g1 : FloatKind.f64.format.order b 4607182418800017408 = some .gt := h1
    go_wp2
    go_ret
    exact ⟨rfl, rfl⟩
  · rw [hw]
    have g1 : FloatKind.f64.format.order b 4607182418800017408 = some .lt ∨ FloatKind.f64.format.order b 4607182418800017408 = none := h1
    have g0 : FloatKind.f64.format.order b 0 ≠ some .gt := h0
    have g00 : (FloatKind.f64.format.order b 0 == some .gt) = false := by simpa using g0
    rcases g1 with g1 | g1
    · go_wp2
      go_ret
      exact ⟨rfl, rfl⟩
    · go_wp2
      go_ret
      exact ⟨rfl, rfl⟩
set_option maxRecDepth 100000 in
set_option maxHeartbeats 400000 in
theorem refWeigh_any (b : Nat) (w : World) : Calls Tryd.prog 7 #[.float .f64 b] w fun e w' => e = .returned (.int .i64 (weighS b)) ∧ w' = w := by
  go_enter Tryd.func7, Tryd.ntmps7
  rcases weigh_class b with ⟨m, i, hr, hw⟩ | ⟨hw, h1, h0⟩ | ⟨hw, h1, h0⟩
  · have o1 := order_B1 hr
    have o0 := order_B0 hr
    have oc := fun n hn => order_cN hr n hn
    rw [hw]
    rcases Nat.lt_trichotomy (units m i) (2 ^ 1074) with hc | hc | hc
    · rcases Nat.eq_zero_or_pos (units m i) with hz | hz
      · have hW : W (units m i) = 0 := by rw [hz]; exact W_zero
        rw [hW]
        have g1 : FloatKind.f64.format.order b 4607182418800017408 = some .lt := o1.trans (by rw [Nat.compare_eq_lt.2 hc])
        have g0 : FloatKind.f64.format.order b 0 = some .eq := o0.trans (by rw [hz]; rfl)
        clear hc o1 o0 oc hr hw hz hW
        go_wp2
        go_ret
        exact ⟨rfl, rfl⟩
      · have g1 : FloatKind.f64.format.order b 4607182418800017408 = some .lt := o1.trans (by rw [Nat.compare_eq_lt.2 hc])
        have g0 : FloatKind.f64.format.order b 0 = some .gt := o0.trans (by rw [Nat.compare_eq_gt.2 hz])
        have hm : 0 < m := by
          rcases Nat.eq_zero_or_pos m with h | h
          · subst h; simp [units] at hz
          · exact h
        have hlt := W_lt _ hc
        have hif : ∀ (n : Nat) w, (convert 3 23 (.int .i64 n)).run Tryd.prog w = .ok (.float .f64 (floatOfInt .f64 n)) w := fun n w => run_convert_int_float w _ _ .i64 .f64 n (by kernel_rfl) Tryd.underlying23
        have hdv : ∀ (n : Nat) (hn : n ≤ 1000) w, (binOp .quo 23 (.float .f64 (floatOfInt .f64 n)) (.float .f64 4652007308841189376)).run Tryd.prog w = .ok (.float .f64 (cN n)) w := fun n hn w => run_float_arith w .quo _ .f64 _ _ _ (cN_div n hn)
        have hcg : ∀ n, n ≤ 1000 → W (units m i) < n → FloatKind.f64.format.order (cN n) b = some .gt := fun n hn h => (oc n hn).trans (by
          have := (W_iff (units m i) n hn).1
          rw [Nat.compare_eq_gt.2 (by omega)])
        have hcl : ∀ n, n ≤ W (units m i) → (FloatKind.f64.format.order (cN n) b == some .lt || FloatKind.f64.format.order (cN n) b == some .eq) = true := fun n h => by
          have hn : n ≤ 1000 := by omega
          have h1 := (W_iff (units m i) n hn).2 h
          rw [show FloatKind.f64.format.order (cN n) b = some (compare (uN n) (units m i)) from oc n hn]
          rcases Nat.lt_or_eq_of_le h1 with h2 | h2
          · rw [Nat.compare_eq_lt.2 h2]; rfl
          · rw [Nat.compare_eq_eq.2 h2]; rfl
        generalize W (units m i) = N at hcg hcl hlt ⊢
        clear hw hc o1 o0 oc hr hz hm
        have hif1 : ∀ (n : Nat) w, (convert 3 23 (.int .i64 ((n : Int) + 1))).run Tryd.prog w = .ok (.float .f64 (floatOfInt .f64 ((n : Int) + 1))) w := fun n w => hif (n + 1) w
        go_wp2
        go_loopw [3] (fun u wr => ∃ n : Nat, u = .int .i64 n ∧ n ≤ N ∧ wr = w) (fun u _ => 1000 - (intOf u).toNat)
        case atStart => exact ⟨0, rfl, by omega, rfl⟩
        case round =>
          obtain ⟨n, rfl, hn1, rfl⟩ := hrel
          have hd := hdv (n + 1) (by omega)
          rw [show (((n + 1 : Nat) : Int)) = (n : Int) + 1 by omega] at hd
          rcases Nat.lt_or_ge n N with h | h
          · have hg := hcl (n + 1) h
            go_wp2
            go_roundw
            case rel => exact ⟨n + 1, by go_num, by omega, by first | rfl | trivial⟩
            case measure => simp [intOf]; omega
          · have hnN : n = N := by omega
            subst hnN
            have hg := hcg (n + 1) (by omega) (by omega)
            go_wp2
            go_ret
            exact ⟨rfl, rfl⟩
    · have hW : W (units m i) = 1000 := W_one _ (by omega)
      rw [hW]
      have g1 : FloatKind.f64.format.order b 4607182418800017408 = some .eq := o1.trans (by rw [hc]; exact congrArg some (Nat.compare_eq_eq.2 rfl))
      have g0 : FloatKind.f64.format.order b 0 = some .gt := o0.trans (by rw [Nat.compare_eq_gt.2 (by have := Nat.two_pow_pos 1074; omega)])
      clear hc o1 o0 oc hr hw hW
      go_wp2
      go_ret
      exact ⟨rfl, rfl⟩
    · have hW : W (units m i) = 1000 := W_one _ (by omega)
      rw [hW]
      have g1 : FloatKind.f64.format.order b 4607182418800017408 = some .gt := o1.trans (by rw [Nat.compare_eq_gt.2 hc])
      have g0 : FloatKind.f64.format.order b 0 = some .gt := o0.trans (by rw [Nat.compare_eq_gt.2 (by have := Nat.two_pow_pos 1074; omega)])
      clear hc o1 o0 oc hr hw hW
      go_wp2
      go_ret
      exact ⟨rfl, rfl⟩
  · rw [hw]
    have g1 : FloatKind.f64.format.order b 4607182418800017408 = some .gt := h1
    have g0 : FloatKind.f64.format.order b 0 = some .gt := h0
    go_wp2
    go_ret
    exact ⟨rfl, rfl⟩
  · rw [hw]
    have g1 : FloatKind.f64.format.order b 4607182418800017408 = some .lt ∨ FloatKind.f64.format.order b 4607182418800017408 = none := h1
    have g0 : FloatKind.f64.format.order b 0 ≠ some .gt := h0
    have g00 : (FloatKind.f64.format.order b 0 == some .gt) = false := by simpa using g0
    rcases g1 with g1 | g1
    · go_wp2
      go_ret
      exact ⟨rfl, rfl⟩
    · go_wp2
      go_ret
      exact ⟨rfl, rfl⟩
end Go.Proofs.YtnlkmiieebahoaaDoor
