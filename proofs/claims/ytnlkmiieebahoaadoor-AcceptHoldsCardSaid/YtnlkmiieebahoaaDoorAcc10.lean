/- Contracts: Takes, and the rows that every law of this chapter asks (conditions: none). Laid by gen_acc10.py. -/
import Derived.Test.YtnlkmiieebahoaaDoorAcc9
import Derived.Test.YtnlkmiieebahoaaDoorWei
set_option linter.unusedVariables false
set_option linter.unusedSimpArgs false
namespace Go.Proofs.YtnlkmiieebahoaaDoor
open Go.RowKit

def takesB (s K S : List UInt8) : Bool := match qualS s K S with | none => false | some q => decide (0 < q)
set_option maxRecDepth 100000 in
set_option maxHeartbeats 400000 in
theorem takesQ_any (s K S : List UInt8) (hs : s.length ≤ 1000000) (w : World) :
    Calls Tryd.prog 12 #[.string ⟨s.toArray⟩, .string ⟨K.toArray⟩, .string ⟨S.toArray⟩] w fun e w' => e = .returned (.bool (takesB s K S)) ∧ Below w.heap.size w w' := by
  go_enter Tryd.func12, Tryd.ntmps12
  unfold takesB
  cases hq : qualS s K S with
  | none =>
    have Hq := Lib.hid hq; clear hq
    go_wp2_with (go_at_call 11; refine (quality_any s K S hs _).mono ?_; rintro e w1 ⟨rfl, hb⟩; rw [Hq.out]; simp only [Option.isSome_none, Bool.false_eq_true, if_false, Option.getD_none])
    go_ret
    exact ⟨rfl, hb⟩
  | some q =>
    have Hq := Lib.hid hq; clear hq
    go_wp2_with (go_at_call 11; refine (quality_any s K S hs _).mono ?_; rintro e w1 ⟨rfl, hb⟩; rw [Hq.out]; simp only [Option.isSome_some, if_true, Option.getD_some])
    go_ret
    exact ⟨by simp, hb⟩
set_option maxRecDepth 100000 in
theorem num_any (n : Int) (w : World) : Calls Tryd.prog 10 #[.int .i64 n] w fun e w' => e = .returned (.int .i64 n) ∧ w' = w := by
  go_enter Tryd.func10, Tryd.ntmps10
  go_wp2
  go_ret
  exact ⟨rfl, rfl⟩
theorem frombits (n : Int) (w : World) : (callFunc 5 #[.int .u64 n]).run Tryd.prog w = .ok (.value (.float .f64 n.toNat)) w := by
  rw [run_callFunc_extern Tryd.func5 (by kernel_rfl) (by kernel_rfl) (by kernel_rfl) (e := Extern.MathFloatBits.float64frombits) (by kernel_rfl)]; rfl
theorem tobits (b : Nat) (w : World) : (callFunc 19 #[.float .f64 b]).run Tryd.prog w = .ok (.value (.int .u64 b)) w := by
  rw [run_callFunc_extern Tryd.func19 (by kernel_rfl) (by kernel_rfl) (by kernel_rfl) (e := Extern.MathFloatBits.float64bits) (by kernel_rfl)]; rfl
set_option maxRecDepth 100000 in
theorem nan_any (w : World) : Calls Tryd.prog 13 #[] w fun e w' => e = .returned (.float .f64 9221120237041090561) ∧ w' = w := by
  have hfb := frombits
  go_enter Tryd.func13, Tryd.ntmps13
  go_wp2
  go_ret
  exact ⟨rfl, rfl⟩
set_option maxRecDepth 100000 in
theorem minus0_any (w : World) : Calls Tryd.prog 14 #[.float .f64 0, .float .f64 13830554455654793216] w fun e w' => e = .returned (.float .f64 9223372036854775808) ∧ w' = w := by
  have hfb := frombits
  have htb := tobits
  have h1 : ∀ w, (binOp .andNot 22 (.int .u64 0) (.int .u64 9223372036854775808)).run Tryd.prog w = .ok (.int .u64 0) w := fun _ => by kernel_rfl
  have h2 : ∀ w, (binOp .and 22 (.int .u64 13830554455654793216) (.int .u64 9223372036854775808)).run Tryd.prog w = .ok (.int .u64 9223372036854775808) w := fun _ => by kernel_rfl
  have h3 : ∀ w, (binOp .or 22 (.int .u64 0) (.int .u64 9223372036854775808)).run Tryd.prog w = .ok (.int .u64 9223372036854775808) w := fun _ => by kernel_rfl
  go_enter Tryd.func14, Tryd.ntmps14
  go_wp2
  go_ret
  exact ⟨rfl, rfl⟩
theorem q1_any (w : World) : Calls Tryd.prog 11 #[.string ⟨#[116, 101, 120, 116, 47, 42, 59, 113, 61, 48, 46, 53, 44, 32, 116, 101, 120, 116, 47, 101, 118, 101, 110, 116, 45, 115, 116, 114, 101, 97, 109]⟩, .string ⟨#[116, 101, 120, 116]⟩, .string ⟨#[101, 118, 101, 110, 116, 45, 115, 116, 114, 101, 97, 109]⟩] w fun e w' => e = .returned (.tuple #[.int .i64 1000, .int .i64 0]) ∧ Below w.heap.size w w' := by
  have h := quality_any [116, 101, 120, 116, 47, 42, 59, 113, 61, 48, 46, 53, 44, 32, 116, 101, 120, 116, 47, 101, 118, 101, 110, 116, 45, 115, 116, 114, 101, 97, 109] [116, 101, 120, 116] [101, 118, 101, 110, 116, 45, 115, 116, 114, 101, 97, 109] (by decide) w
  rw [show qualS [116, 101, 120, 116, 47, 42, 59, 113, 61, 48, 46, 53, 44, 32, 116, 101, 120, 116, 47, 101, 118, 101, 110, 116, 45, 115, 116, 114, 101, 97, 109] [116, 101, 120, 116] [101, 118, 101, 110, 116, 45, 115, 116, 114, 101, 97, 109] = some 1000 from by decide +kernel] at h
  exact h
theorem q2_any (w : World) : Calls Tryd.prog 11 #[.string ⟨#[]⟩, .string ⟨#[116, 101, 120, 116]⟩, .string ⟨#[101, 118, 101, 110, 116, 45, 115, 116, 114, 101, 97, 109]⟩] w fun e w' => e = .returned (.tuple #[.int .i64 1000, .int .i64 0]) ∧ Below w.heap.size w w' := by
  have h := quality_any [] [116, 101, 120, 116] [101, 118, 101, 110, 116, 45, 115, 116, 114, 101, 97, 109] (by decide) w
  rw [show qualS [] [116, 101, 120, 116] [101, 118, 101, 110, 116, 45, 115, 116, 114, 101, 97, 109] = some 1000 from by decide +kernel] at h
  exact h
theorem q3_any (w : World) : Calls Tryd.prog 11 #[.string ⟨#[42, 47, 42, 59, 113, 61, 48, 46, 50, 53, 44, 32, 116, 101, 120, 116, 47, 104, 116, 109, 108, 59, 113, 61, 49]⟩, .string ⟨#[116, 101, 120, 116]⟩, .string ⟨#[101, 118, 101, 110, 116, 45, 115, 116, 114, 101, 97, 109]⟩] w fun e w' => e = .returned (.tuple #[.int .i64 250, .int .i64 0]) ∧ Below w.heap.size w w' := by
  have h := quality_any [42, 47, 42, 59, 113, 61, 48, 46, 50, 53, 44, 32, 116, 101, 120, 116, 47, 104, 116, 109, 108, 59, 113, 61, 49] [116, 101, 120, 116] [101, 118, 101, 110, 116, 45, 115, 116, 114, 101, 97, 109] (by decide) w
  rw [show qualS [42, 47, 42, 59, 113, 61, 48, 46, 50, 53, 44, 32, 116, 101, 120, 116, 47, 104, 116, 109, 108, 59, 113, 61, 49] [116, 101, 120, 116] [101, 118, 101, 110, 116, 45, 115, 116, 114, 101, 97, 109] = some 250 from by decide +kernel] at h
  exact h
theorem p1_any (w : World) : Calls Tryd.prog 9 #[.string ⟨#[116, 101, 120, 116]⟩] w fun e w' => e = .returned (.tuple #[.slice none 0 0, .int .i64 220]) ∧ Below w.heap.size w w' :=
  parse_none [116, 101, 120, 116] (by decide) (by decide +kernel) w
theorem p2_any (w : World) : Calls Tryd.prog 9 #[.string ⟨#[97, 47, 98, 59, 113, 61, 49, 46, 53]⟩] w fun e w' => e = .returned (.tuple #[.slice none 0 0, .int .i64 220]) ∧ Below w.heap.size w w' :=
  parse_none [97, 47, 98, 59, 113, 61, 49, 46, 53] (by decide) (by decide +kernel) w
theorem p3_any (w : World) : Calls Tryd.prog 9 #[.string ⟨#[97, 47, 98, 59, 113, 61, 48, 46, 49, 50, 51, 52]⟩] w fun e w' => e = .returned (.tuple #[.slice none 0 0, .int .i64 220]) ∧ Below w.heap.size w w' :=
  parse_none [97, 47, 98, 59, 113, 61, 48, 46, 49, 50, 51, 52] (by decide) (by decide +kernel) w
theorem t1_any (w : World) : Calls Tryd.prog 12 #[.string ⟨#[116, 101, 120, 116, 47, 101, 118, 101, 110, 116, 45, 115, 116, 114, 101, 97, 109, 59, 113, 61, 48]⟩, .string ⟨#[116, 101, 120, 116]⟩, .string ⟨#[101, 118, 101, 110, 116, 45, 115, 116, 114, 101, 97, 109]⟩] w fun e w' => e = .returned (.bool false) ∧ Below w.heap.size w w' := by
  have h := takesQ_any [116, 101, 120, 116, 47, 101, 118, 101, 110, 116, 45, 115, 116, 114, 101, 97, 109, 59, 113, 61, 48] [116, 101, 120, 116] [101, 118, 101, 110, 116, 45, 115, 116, 114, 101, 97, 109] (by decide) w
  rw [show takesB [116, 101, 120, 116, 47, 101, 118, 101, 110, 116, 45, 115, 116, 114, 101, 97, 109, 59, 113, 61, 48] [116, 101, 120, 116] [101, 118, 101, 110, 116, 45, 115, 116, 114, 101, 97, 109] = false from by decide +kernel] at h
  exact h
theorem half_any (w : World) : Calls Tryd.prog 6 #[.float .f64 4602678819172646912] w fun e w' => e = .returned (.int .i64 500) ∧ w' = w := by
  have h := weigh_any 4602678819172646912 w
  rw [show weighS 4602678819172646912 = 500 from by decide +kernel] at h
  exact h
theorem nanW_any (w : World) : Calls Tryd.prog 6 #[.float .f64 9221120237041090561] w fun e w' => e = .returned (.int .i64 0) ∧ w' = w := by
  have h := weigh_any 9221120237041090561 w
  rw [show weighS 9221120237041090561 = 0 from by decide +kernel] at h
  exact h
theorem m0W_any (w : World) : Calls Tryd.prog 6 #[.float .f64 9223372036854775808] w fun e w' => e = .returned (.int .i64 0) ∧ w' = w := by
  have h := weigh_any 9223372036854775808 w
  rw [show weighS 9223372036854775808 = 0 from by decide +kernel] at h
  exact h

set_option maxRecDepth 100000 in
set_option maxHeartbeats 1000000 in
theorem works_any (w : World) : Calls Tryd.prog 8 #[] w fun e w' => e = .returned (.bool true) ∧ Below w.heap.size w w' := by
  have hnot : ∀ (x : Bool) (w : World), (Op.unary .not (.bool x)).run Tryd.prog w = .ok (.bool (!x)) w := fun _ _ => rfl
  go_enter Tryd.func8, Tryd.ntmps8
  have ha := Below.refl w.heap.size w
  go_wp2_with (first
    | (go_at_call_of 11 (Value.string ⟨#[116, 101, 120, 116, 47, 42, 59, 113, 61, 48, 46, 53, 44, 32, 116, 101, 120, 116, 47, 101, 118, 101, 110, 116, 45, 115, 116, 114, 101, 97, 109]⟩); refine (q1_any _).mono ?_; rintro e w1 ⟨rfl, hb⟩; replace ha := acc ha hb; clear hb)
    | (go_at_call_of 11 (Value.string ⟨#[42, 47, 42, 59, 113, 61, 48, 46, 50, 53, 44, 32, 116, 101, 120, 116, 47, 104, 116, 109, 108, 59, 113, 61, 49]⟩); refine (q3_any _).mono ?_; rintro e w1 ⟨rfl, hb⟩; replace ha := acc ha hb; clear hb)
    | (go_at_call_of 11 (Value.string ⟨#[]⟩); refine (q2_any _).mono ?_; rintro e w1 ⟨rfl, hb⟩; replace ha := acc ha hb; clear hb))
  have c0 := cell_new w1 #[.string ⟨#[116, 101, 120, 116]⟩, .string ⟨#[97, 47, 98, 59, 113, 61, 49, 46, 53]⟩, .string ⟨#[97, 47, 98, 59, 113, 61, 48, 46, 49, 50, 51, 52]⟩] 9 0
  have c1 := cell_new w1 #[.string ⟨#[116, 101, 120, 116]⟩, .string ⟨#[97, 47, 98, 59, 113, 61, 49, 46, 53]⟩, .string ⟨#[97, 47, 98, 59, 113, 61, 48, 46, 49, 50, 51, 52]⟩] 9 1
  have c2 := cell_new w1 #[.string ⟨#[116, 101, 120, 116]⟩, .string ⟨#[97, 47, 98, 59, 113, 61, 49, 46, 53]⟩, .string ⟨#[97, 47, 98, 59, 113, 61, 48, 46, 49, 50, 51, 52]⟩] 9 2
  have hw1 : Below w.heap.size w (w1.alloc (.cells #[.string ⟨#[116, 101, 120, 116]⟩, .string ⟨#[97, 47, 98, 59, 113, 61, 49, 46, 53]⟩, .string ⟨#[97, 47, 98, 59, 113, 61, 48, 46, 49, 50, 51, 52]⟩] 9)) := ha.alloc ha.size _
  have hws : w1.heap.size < (w1.alloc (.cells #[.string ⟨#[116, 101, 120, 116]⟩, .string ⟨#[97, 47, 98, 59, 113, 61, 49, 46, 53]⟩, .string ⟨#[97, 47, 98, 59, 113, 61, 48, 46, 49, 50, 51, 52]⟩] 9)).heap.size := by simp
  generalize hW1 : (w1.alloc (.cells #[.string ⟨#[116, 101, 120, 116]⟩, .string ⟨#[97, 47, 98, 59, 113, 61, 49, 46, 53]⟩, .string ⟨#[97, 47, 98, 59, 113, 61, 48, 46, 49, 50, 51, 52]⟩] 9)) = W1 at *
  clear hW1 ha
  have e0 : W1.cell? ⟨w1.heap.size, 0, none⟩ = some (.string ⟨#[116, 101, 120, 116]⟩) := c0
  have e1 : W1.cell? ⟨w1.heap.size, 1, none⟩ = some (.string ⟨#[97, 47, 98, 59, 113, 61, 49, 46, 53]⟩) := c1
  have e2 : W1.cell? ⟨w1.heap.size, 2, none⟩ = some (.string ⟨#[97, 47, 98, 59, 113, 61, 48, 46, 49, 50, 51, 52]⟩) := c2
  clear c0 c1 c2
  have E0 := Lib.hid e0; have E1 := Lib.hid e1; have E2 := Lib.hid e2; clear e0 e1 e2
  go_loopw [8] (fun u wr => ∃ k : Nat, u = .int .i64 k ∧ k ≤ 3 ∧ Hid (Below W1.heap.size W1 wr)) (fun u _ => 3 - (intOf u).toNat)
  case atStart => exact ⟨0, rfl, by omega, Below.refl _ _⟩
  case round =>
    obtain ⟨k, rfl, hk, hbr⟩ := hrel
    by_cases hk0 : k = 0
    · subst hk0
      have hc := (hbr.out.cell (p := ⟨w1.heap.size, 0, none⟩) hws).trans E0.out
      go_wp2_with (first
        | (go_at_call 9; refine (p1_any _).mono ?_; rintro e w2 ⟨rfl, hb⟩)
        | (go_at_call 10; refine (num_any _ _).mono ?_; rintro e w3 ⟨rfl, rfl⟩))
      go_roundw
      case rel => exact ⟨1, by rfl, by omega, acc hbr.out hb⟩
      case measure => simp [intOf]
    by_cases hk1 : k = 1
    · subst hk1
      have hc := (hbr.out.cell (p := ⟨w1.heap.size, 1, none⟩) hws).trans E1.out
      go_wp2_with (first
        | (go_at_call 9; refine (p2_any _).mono ?_; rintro e w2 ⟨rfl, hb⟩)
        | (go_at_call 10; refine (num_any _ _).mono ?_; rintro e w3 ⟨rfl, rfl⟩))
      go_roundw
      case rel => exact ⟨2, by rfl, by omega, acc hbr.out hb⟩
      case measure => simp [intOf]
    by_cases hk2 : k = 2
    · subst hk2
      have hc := (hbr.out.cell (p := ⟨w1.heap.size, 2, none⟩) hws).trans E2.out
      go_wp2_with (first
        | (go_at_call 9; refine (p3_any _).mono ?_; rintro e w2 ⟨rfl, hb⟩)
        | (go_at_call 10; refine (num_any _ _).mono ?_; rintro e w3 ⟨rfl, rfl⟩))
      go_roundw
      case rel => exact ⟨3, by rfl, by omega, acc hbr.out hb⟩
      case measure => simp [intOf]
    have hk3 : k = 3 := by omega
    subst hk3
    have ha : Below w.heap.size w wr := acc hw1 hbr.out
    go_wp2_with (first
      | (go_at_call 10; refine (num_any _ _).mono ?_; rintro e w2 ⟨rfl, rfl⟩)
      | (go_at_call 12; refine (t1_any _).mono ?_; rintro e w2 ⟨rfl, hb⟩; replace ha := acc ha hb; clear hb)
      | (go_at_call_of 6 (Value.float .f64 4602678819172646912); refine (half_any _).mono ?_; rintro e w2 ⟨rfl, rfl⟩)
      | (go_at_call 13; refine (nan_any _).mono ?_; rintro e w2 ⟨rfl, rfl⟩)
      | (go_at_call_of 6 (Value.float .f64 9221120237041090561); refine (nanW_any _).mono ?_; rintro e w2 ⟨rfl, rfl⟩)
      | (go_at_call 14; refine (minus0_any _).mono ?_; rintro e w2 ⟨rfl, rfl⟩)
      | (go_at_call_of 6 (Value.float .f64 9223372036854775808); refine (m0W_any _).mono ?_; rintro e w2 ⟨rfl, rfl⟩))
    go_ret
    exact ⟨rfl, ha⟩
end Go.Proofs.YtnlkmiieebahoaaDoor
