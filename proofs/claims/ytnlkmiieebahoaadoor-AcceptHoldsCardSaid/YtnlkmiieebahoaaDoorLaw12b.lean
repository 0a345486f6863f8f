/- The law AcceptHolds, walked (conditions: none). Laid by gen_law12b.py. -/
import Derived.Test.YtnlkmiieebahoaaDoorAcc10
import Derived.Test.YtnlkmiieebahoaaDoorPlain12b
import Derived.Test.YtnlkmiieebahoaaDoorWei2
import Derived.Laws.StructEq
set_option linter.unusedVariables false
set_option linter.unusedSimpArgs false
namespace Go.Proofs.YtnlkmiieebahoaaDoor
open Go.RowKit

def plist (s : List UInt8) : List Rg := (readS s).getD []
theorem plist_le (s : List UInt8) : ∀ r ∈ plist s, r.quality ≤ 1000 := by
  unfold plist
  cases h : readS s with
  | none => intro r hr; cases hr
  | some l => exact read_le h
theorem plist_more {s : List UInt8} (h : (readS s).isSome = true) : readS (s ++ 44 :: moreX) = some (plist s ++ [moreR]) := by
  obtain ⟨l, hl⟩ := Option.isSome_iff_exists.1 h
  unfold plist
  rw [hl]; exact read_more hl
theorem parse_l (s : List UInt8) (hs : s.length ≤ 1000000) (w : World) :
    Calls Tryd.prog 9 #[.string ⟨s.toArray⟩] w fun e w' => ∃ p c, e = .returned (.tuple #[.slice p (plist s).length c, .int .i64 (errS (readS s))]) ∧ w'.ownsRow w.heap.size 33 4 (.slice p (plist s).length c) (plist s).length (encs (plist s)) ∧ (plist s).length ≤ 1000001 ∧ Below w.heap.size w w' := by
  unfold plist
  cases h : readS s with
  | none =>
    refine (parse_none s hs h w).mono ?_
    rintro e w' ⟨rfl, hb⟩
    exact ⟨_, _, rfl, World.ownsRow_nil _ _ _ _, by simp, hb⟩
  | some l =>
    refine (parse_some s l hs h w).mono ?_
    rintro e w' ⟨p, c, rfl, h1, h2, hb⟩
    exact ⟨_, _, rfl, h1, h2, hb⟩
theorem row_some {w : World} {base : Nat} {e : TypeId} {p : Option Addr} {m c : Nat} {l : List Rg} {k : Nat} (h : w.ownsRow base e 4 (.slice p m c) l.length (encs l)) (hk : k < l.length) : ∃ g, p = some ⟨g, 0, none⟩ := by
  rcases h.2 with ⟨_, h⟩ | ⟨g, cap, cur, h, _⟩
  · omega
  · injection h with h1; exact ⟨g, h1⟩
theorem more_text (s : List UInt8) : ((⟨s.toArray⟩ : ByteArray) ++ (⟨#[44, 42, 47, 42, 59, 113, 61, 48, 46, 49]⟩ : ByteArray)) = ⟨(s ++ 44 :: moreX).toArray⟩ := str_ext (by simp [moreX])

set_option maxRecDepth 100000 in
set_option maxHeartbeats 4000000 in
theorem acceptHolds_none (s : List UInt8) (x y k : Int) (w : World) (hlen : s.length ≤ 200) (hsome : (readS s).isSome = false) :
    Calls Tryd.prog 4 #[.string ⟨s.toArray⟩, .int .u64 x, .int .u64 y, .int .i64 k] w fun e w' => e = .returned (.bool true) ∧ Below w.heap.size w w' := by
  have hnot : ∀ (x : Bool) (w : World), (Op.unary .not (.bool x)).run Tryd.prog w = .ok (.bool (!x)) w := fun _ _ => rfl
  have hfb := frombits
  have ha := Below.refl w.heap.size w
  go_enter Tryd.func4, Tryd.ntmps4
  have hlen' : ¬ ((200 : Int) < (s.length : Int)) := by omega
  have herr : errS (readS s) = 220 := by unfold errS; rw [hsome]; rfl
  go_wp2_with (go_at_call 9; refine (parse_l s (by omega) _).mono ?_; rintro e w1 ⟨p, c, rfl, hrow, hlen1, hb⟩; rw [herr]; replace ha := acc ha hb; clear hb)
  go_loopw [11] (fun u wr => ∃ n : Nat, u = .int .i64 n ∧ n ≤ (plist s).length ∧ wr = w1) (fun u _ => (plist s).length - (intOf u).toNat)
  case atStart => exact ⟨0, rfl, by omega, rfl⟩
  case round =>
    obtain ⟨n, rfl, hn, rfl⟩ := hrel
    by_cases hlt : n < (plist s).length
    · obtain ⟨r, hr1⟩ : ∃ r, (plist s)[n]? = some r := ⟨_, List.getElem?_eq_getElem hlt⟩
      obtain ⟨g, rfl⟩ := row_some hrow hlt
      have c3 := row_range hrow n r hr1 3 (by omega)
      simp [Rg.cells] at c3
      have hq := plist_le s r (List.mem_of_getElem? hr1)
      have hq1 : ¬ ((r.quality : Int) < 0) := by omega
      have hq2 : ¬ ((1000 : Int) < (r.quality : Int)) := by omega
      have Hrow := Lib.hid hrow; clear hrow
      go_wp2
      go_roundw
      case rel => exact ⟨n + 1, by go_num, by omega, by first | rfl | trivial⟩
      case measure => simp [intOf]; omega
    · have hnl : n = (plist s).length := by omega
      subst hnl
      go_wp2_with (go_at_call 10; refine (num_any _ _).mono ?_; rintro e w2 ⟨rfl, rfl⟩)
      have hA1 := weighS_le x.toNat
      have hB1 := weighS_le y.toNat
      have hmono := @weigh_le x.toNat y.toNat
      have hnan := @weigh_nan x.toNat
      obtain ⟨a, hA⟩ : ∃ a, weighS x.toNat = a := ⟨_, rfl⟩
      obtain ⟨b, hB⟩ : ∃ b, weighS y.toNat = b := ⟨_, rfl⟩
      rw [hA] at hA1 hmono hnan
      rw [hB] at hmono
      have ha0 : ¬ ((a : Int) < 0) := by omega
      have ha1 : ¬ ((1000 : Int) < (a : Int)) := by omega
      have HA := Lib.hid hA; have HB := Lib.hid hB; clear hA hB hB1
      cases hle : (FloatKind.f64.format.order x.toNat y.toNat == some .lt || FloatKind.f64.format.order x.toNat y.toNat == some .eq)
      · clear hmono
        cases hnn : (FloatKind.f64.format.order x.toNat x.toNat != some .eq)
        · clear hnan
          rcases Int.lt_or_le k 0 with hk | hk
          · have hk' : (k < 0) := hk
            go_wp2_with (first
              | (go_at_call 6; refine (weigh_any _ _).mono ?_; rintro e w3 ⟨rfl, rfl⟩; first | rw [HA.out] | rw [HB.out])
              | (go_at_call 8; refine (works_any _).mono ?_; rintro e w3 ⟨rfl, hb⟩; replace ha := acc ha hb; clear hb))
            go_ret
            exact ⟨rfl, ha⟩
          · rcases Int.lt_or_le 1000 k with hk2 | hk2
            · have hk' : ¬ (k < 0) := by omega
              go_wp2_with (first
                | (go_at_call 6; refine (weigh_any _ _).mono ?_; rintro e w3 ⟨rfl, rfl⟩; first | rw [HA.out] | rw [HB.out])
                | (go_at_call 8; refine (works_any _).mono ?_; rintro e w3 ⟨rfl, hb⟩; replace ha := acc ha hb; clear hb))
              go_ret
              exact ⟨rfl, ha⟩
            · obtain ⟨q, rfl⟩ : ∃ q : Nat, k = q := ⟨k.toNat, by omega⟩
              have hk' : ¬ ((q : Int) < 0) := by omega
              have hk3 : ¬ ((1000 : Int) < (q : Int)) := by omega
              have hif : ∀ w, (convert 3 23 (.int .i64 q)).run Tryd.prog w = .ok (.float .f64 (floatOfInt .f64 q)) w := fun w => run_convert_int_float w _ _ .i64 .f64 q (by kernel_rfl) Tryd.underlying23
              have hdv : ∀ w, (binOp .quo 23 (.float .f64 (floatOfInt .f64 q)) (.float .f64 4652007308841189376)).run Tryd.prog w = .ok (.float .f64 (cN q)) w := fun w => run_float_arith w .quo _ .f64 _ _ _ (cN_div q (by omega))
              go_wp2_with (first
                | (go_at_call 6; refine (weigh_any _ _).mono ?_; rintro e w3 ⟨rfl, rfl⟩; first | rw [HA.out] | rw [HB.out] | rw [weighS_cN q (by omega)])
                | (go_at_call 8; refine (works_any _).mono ?_; rintro e w3 ⟨rfl, hb⟩; replace ha := acc ha hb; clear hb))
              go_ret
              exact ⟨rfl, ha⟩
        · have hz : a = 0 := hnan hnn
          subst hz
          clear hnan
          rcases Int.lt_or_le k 0 with hk | hk
          · have hk' : (k < 0) := hk
            go_wp2_with (first
              | (go_at_call 6; refine (weigh_any _ _).mono ?_; rintro e w3 ⟨rfl, rfl⟩; first | rw [HA.out] | rw [HB.out])
              | (go_at_call 8; refine (works_any _).mono ?_; rintro e w3 ⟨rfl, hb⟩; replace ha := acc ha hb; clear hb))
            go_ret
            exact ⟨rfl, ha⟩
          · rcases Int.lt_or_le 1000 k with hk2 | hk2
            · have hk' : ¬ (k < 0) := by omega
              go_wp2_with (first
                | (go_at_call 6; refine (weigh_any _ _).mono ?_; rintro e w3 ⟨rfl, rfl⟩; first | rw [HA.out] | rw [HB.out])
                | (go_at_call 8; refine (works_any _).mono ?_; rintro e w3 ⟨rfl, hb⟩; replace ha := acc ha hb; clear hb))
              go_ret
              exact ⟨rfl, ha⟩
            · obtain ⟨q, rfl⟩ : ∃ q : Nat, k = q := ⟨k.toNat, by omega⟩
              have hk' : ¬ ((q : Int) < 0) := by omega
              have hk3 : ¬ ((1000 : Int) < (q : Int)) := by omega
              have hif : ∀ w, (convert 3 23 (.int .i64 q)).run Tryd.prog w = .ok (.float .f64 (floatOfInt .f64 q)) w := fun w => run_convert_int_float w _ _ .i64 .f64 q (by kernel_rfl) Tryd.underlying23
              have hdv : ∀ w, (binOp .quo 23 (.float .f64 (floatOfInt .f64 q)) (.float .f64 4652007308841189376)).run Tryd.prog w = .ok (.float .f64 (cN q)) w := fun w => run_float_arith w .quo _ .f64 _ _ _ (cN_div q (by omega))
              go_wp2_with (first
                | (go_at_call 6; refine (weigh_any _ _).mono ?_; rintro e w3 ⟨rfl, rfl⟩; first | rw [HA.out] | rw [HB.out] | rw [weighS_cN q (by omega)])
                | (go_at_call 8; refine (works_any _).mono ?_; rintro e w3 ⟨rfl, hb⟩; replace ha := acc ha hb; clear hb))
              go_ret
              exact ⟨rfl, ha⟩
      · have hab : ¬ ((b : Int) < (a : Int)) := by have := hmono hle; omega
        clear hmono
        cases hnn : (FloatKind.f64.format.order x.toNat x.toNat != some .eq)
        · clear hnan
          rcases Int.lt_or_le k 0 with hk | hk
          · have hk' : (k < 0) := hk
            go_wp2_with (first
              | (go_at_call 6; refine (weigh_any _ _).mono ?_; rintro e w3 ⟨rfl, rfl⟩; first | rw [HA.out] | rw [HB.out])
              | (go_at_call 8; refine (works_any _).mono ?_; rintro e w3 ⟨rfl, hb⟩; replace ha := acc ha hb; clear hb))
            go_ret
            exact ⟨rfl, ha⟩
          · rcases Int.lt_or_le 1000 k with hk2 | hk2
            · have hk' : ¬ (k < 0) := by omega
              go_wp2_with (first
                | (go_at_call 6; refine (weigh_any _ _).mono ?_; rintro e w3 ⟨rfl, rfl⟩; first | rw [HA.out] | rw [HB.out])
                | (go_at_call 8; refine (works_any _).mono ?_; rintro e w3 ⟨rfl, hb⟩; replace ha := acc ha hb; clear hb))
              go_ret
              exact ⟨rfl, ha⟩
            · obtain ⟨q, rfl⟩ : ∃ q : Nat, k = q := ⟨k.toNat, by omega⟩
              have hk' : ¬ ((q : Int) < 0) := by omega
              have hk3 : ¬ ((1000 : Int) < (q : Int)) := by omega
              have hif : ∀ w, (convert 3 23 (.int .i64 q)).run Tryd.prog w = .ok (.float .f64 (floatOfInt .f64 q)) w := fun w => run_convert_int_float w _ _ .i64 .f64 q (by kernel_rfl) Tryd.underlying23
              have hdv : ∀ w, (binOp .quo 23 (.float .f64 (floatOfInt .f64 q)) (.float .f64 4652007308841189376)).run Tryd.prog w = .ok (.float .f64 (cN q)) w := fun w => run_float_arith w .quo _ .f64 _ _ _ (cN_div q (by omega))
              go_wp2_with (first
                | (go_at_call 6; refine (weigh_any _ _).mono ?_; rintro e w3 ⟨rfl, rfl⟩; first | rw [HA.out] | rw [HB.out] | rw [weighS_cN q (by omega)])
                | (go_at_call 8; refine (works_any _).mono ?_; rintro e w3 ⟨rfl, hb⟩; replace ha := acc ha hb; clear hb))
              go_ret
              exact ⟨rfl, ha⟩
        · have hz : a = 0 := hnan hnn
          subst hz
          clear hnan
          rcases Int.lt_or_le k 0 with hk | hk
          · have hk' : (k < 0) := hk
            go_wp2_with (first
              | (go_at_call 6; refine (weigh_any _ _).mono ?_; rintro e w3 ⟨rfl, rfl⟩; first | rw [HA.out] | rw [HB.out])
              | (go_at_call 8; refine (works_any _).mono ?_; rintro e w3 ⟨rfl, hb⟩; replace ha := acc ha hb; clear hb))
            go_ret
            exact ⟨rfl, ha⟩
          · rcases Int.lt_or_le 1000 k with hk2 | hk2
            · have hk' : ¬ (k < 0) := by omega
              go_wp2_with (first
                | (go_at_call 6; refine (weigh_any _ _).mono ?_; rintro e w3 ⟨rfl, rfl⟩; first | rw [HA.out] | rw [HB.out])
                | (go_at_call 8; refine (works_any _).mono ?_; rintro e w3 ⟨rfl, hb⟩; replace ha := acc ha hb; clear hb))
              go_ret
              exact ⟨rfl, ha⟩
            · obtain ⟨q, rfl⟩ : ∃ q : Nat, k = q := ⟨k.toNat, by omega⟩
              have hk' : ¬ ((q : Int) < 0) := by omega
              have hk3 : ¬ ((1000 : Int) < (q : Int)) := by omega
              have hif : ∀ w, (convert 3 23 (.int .i64 q)).run Tryd.prog w = .ok (.float .f64 (floatOfInt .f64 q)) w := fun w => run_convert_int_float w _ _ .i64 .f64 q (by kernel_rfl) Tryd.underlying23
              have hdv : ∀ w, (binOp .quo 23 (.float .f64 (floatOfInt .f64 q)) (.float .f64 4652007308841189376)).run Tryd.prog w = .ok (.float .f64 (cN q)) w := fun w => run_float_arith w .quo _ .f64 _ _ _ (cN_div q (by omega))
              go_wp2_with (first
                | (go_at_call 6; refine (weigh_any _ _).mono ?_; rintro e w3 ⟨rfl, rfl⟩; first | rw [HA.out] | rw [HB.out] | rw [weighS_cN q (by omega)])
                | (go_at_call 8; refine (works_any _).mono ?_; rintro e w3 ⟨rfl, hb⟩; replace ha := acc ha hb; clear hb))
              go_ret
              exact ⟨rfl, ha⟩

end Go.Proofs.YtnlkmiieebahoaaDoor
