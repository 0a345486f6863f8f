/- The law AcceptHolds, walked, second part (conditions: none). Laid by gen_law12b.py. -/
import Derived.Test.YtnlkmiieebahoaaDoorLaw12b
set_option linter.unusedVariables false
set_option linter.unusedSimpArgs false
namespace Go.Proofs.YtnlkmiieebahoaaDoor
open Go.RowKit

set_option maxRecDepth 100000 in
set_option maxHeartbeats 4000000 in
theorem acceptHolds_some (s : List UInt8) (x y k : Int) (w : World) (hlen : s.length ≤ 200) (hsome : (readS s).isSome = true) :
    Calls Tryd.prog 4 #[.string ⟨s.toArray⟩, .int .u64 x, .int .u64 y, .int .i64 k] w fun e w' => e = .returned (.bool true) ∧ Below w.heap.size w w' := by
  have hnot : ∀ (x : Bool) (w : World), (Op.unary .not (.bool x)).run Tryd.prog w = .ok (.bool (!x)) w := fun _ _ => rfl
  have hfb := frombits
  have ha := Below.refl w.heap.size w
  go_enter Tryd.func4, Tryd.ntmps4
  have hlen' : ¬ ((200 : Int) < (s.length : Int)) := by omega
  have herr : errS (readS s) = 0 := by unfold errS; rw [hsome]; rfl
  have hl2 : (plist s ++ [moreR]).length = (plist s).length + 1 := by simp
  go_wp2_with (go_at_call 9; refine (parse_l s (by omega) _).mono ?_; rintro e w1 ⟨p, c, rfl, hrow, hlen1, hb⟩; rw [herr]; replace ha := acc ha hb; clear hb)
  go_loopw [11] (fun u wr => ∃ n : Nat, u = .int .i64 n ∧ n ≤ (plist s).length ∧ wr = w1) (fun u _ => (plist s).length - (intOf u).toNat)
  case atStart => exact ⟨0, rfl, by omega, rfl⟩
  case round =>
    obtain ⟨n, rfl, hn, rfl⟩ := hrel
    by_cases hlt : n < (plist s).length
    · obtain ⟨r, hr1⟩ : ∃ r, (plist s)[n]? = some r := ⟨_, List.getElem?_eq_getElem hlt⟩
      obtain ⟨g, rfl⟩ := row_some hrow hlt
      have c3 := row_range hrow n r hr1 3 (by omega)
      simp [Rg.cells] at c3
      have hq := plist_le s r (List.mem_of_getElem? hr1)
      have hq1 : ¬ ((r.quality : Int) < 0) := by omega
      have hq2 : ¬ ((1000 : Int) < (r.quality : Int)) := by omega
      have Hrow := Lib.hid hrow; clear hrow
      go_wp2
      go_roundw
      case rel => exact ⟨n + 1, by go_num, by omega, by first | rfl | trivial⟩
      case measure => simp [intOf]; omega
    · have hnl : n = (plist s).length := by omega
      subst hnl
      go_wp2_with (first
        | (go_at_call 10; refine (num_any _ _).mono ?_; rintro e w9 ⟨rfl, h9⟩; rw [h9]; clear h9 w9)
        | (go_at_call 9; rw [more_text]; refine (parse_some (s ++ 44 :: moreX) (plist s ++ [moreR]) (by simp [moreX]; omega) (plist_more hsome) _).mono ?_; rintro e w2 ⟨p2, c2, rfl, hrow2, hlen2, hb⟩; rw [hl2]))
      go_loopw [14] (fun u wr => ∃ n : Nat, u = .int .i64 n ∧ n ≤ (plist s).length ∧ Hid (Below w2.heap.size w2 wr)) (fun u _ => (plist s).length - (intOf u).toNat)
      case atStart => exact ⟨0, rfl, by omega, Below.refl _ _⟩
      case round =>
        obtain ⟨n, rfl, hn, hbr⟩ := hrel
        by_cases hlt : n < (plist s).length
        · obtain ⟨r, hr1⟩ : ∃ r, (plist s)[n]? = some r := ⟨_, List.getElem?_eq_getElem hlt⟩
          obtain ⟨g, rfl⟩ := row_some hrow hlt
          obtain ⟨g2, rfl⟩ := row_some (k := n) hrow2 (by rw [hl2]; omega)
          have hr2 : (plist s ++ [moreR])[n]? = some r := by rw [List.getElem?_append_left hlt]; exact hr1
          have hg1 := (row_block hrow g rfl).2
          have hg2 := (row_block hrow2 g2 rfl).2
          have hc := fun i hi => ((hbr.out.cell (p := ⟨g, n * 4 + i, none⟩) (by have := hb.size; dsimp only; omega)).trans (hb.cell (p := ⟨g, n * 4 + i, none⟩) hg1)).trans (row_range hrow n r hr1 i hi)
          have hd := fun i hi => (hbr.out.cell (p := ⟨g2, n * 4 + i, none⟩) hg2).trans (row_range hrow2 n r hr2 i hi)
          have c0 := hc 0 (by omega)
          have c1 := hc 1 (by omega)
          have c2' := hc 2 (by omega)
          have c3 := hc 3 (by omega)
          have d0 := hd 0 (by omega)
          have d1 := hd 1 (by omega)
          have d2 := hd 2 (by omega)
          have d3 := hd 3 (by omega)
          simp [Rg.cells] at c0 c1 c2' c3 d0 d1 d2 d3
          have Hrow := Lib.hid hrow; have Hrow2 := Lib.hid hrow2; clear hrow hrow2 hc hd
          have hlt2 : n < (plist s).length + 1 := by omega
          go_wp2
          go_quiet (fail)
          go_wp2
          go_roundw
          case rel => exact ⟨n + 1, by go_num, by omega, below_drewN hbr.out _⟩
          case measure => simp [intOf]; omega
        · have hnl : n = (plist s).length := by omega
          subst hnl
          have hz := acc (acc ha hb) hbr.out
          clear ha hb hbr
          have ha := hz
          clear hz
          go_wp2_with fail
          have hA1 := weighS_le x.toNat
          have hB1 := weighS_le y.toNat
          have hmono := @weigh_le x.toNat y.toNat
          have hnan := @weigh_nan x.toNat
          obtain ⟨a, hA⟩ : ∃ a, weighS x.toNat = a := ⟨_, rfl⟩
          obtain ⟨b, hB⟩ : ∃ b, weighS y.toNat = b := ⟨_, rfl⟩
          rw [hA] at hA1 hmono hnan
          rw [hB] at hmono
          have ha0 : ¬ ((a : Int) < 0) := by omega
          have ha1 : ¬ ((1000 : Int) < (a : Int)) := by omega
          have HA := Lib.hid hA; have HB := Lib.hid hB; clear hA hB hB1
          cases hle : (FloatKind.f64.format.order x.toNat y.toNat == some .lt || FloatKind.f64.format.order x.toNat y.toNat == some .eq)
          · clear hmono
            cases hnn : (FloatKind.f64.format.order x.toNat x.toNat != some .eq)
            · clear hnan
              rcases Int.lt_or_le k 0 with hk | hk
              · have hk' : (k < 0) := hk
                go_wp2_with (first
                  | (go_at_call 6; refine (weigh_any _ _).mono ?_; rintro e w3 ⟨rfl, rfl⟩; first | rw [HA.out] | rw [HB.out])
                  | (go_at_call 8; refine (works_any _).mono ?_; rintro e w3 ⟨rfl, hb⟩; replace ha := acc ha hb; clear hb))
                go_ret
                exact ⟨rfl, ha⟩
              · rcases Int.lt_or_le 1000 k with hk2 | hk2
                · have hk' : ¬ (k < 0) := by omega
                  go_wp2_with (first
                    | (go_at_call 6; refine (weigh_any _ _).mono ?_; rintro e w3 ⟨rfl, rfl⟩; first | rw [HA.out] | rw [HB.out])
                    | (go_at_call 8; refine (works_any _).mono ?_; rintro e w3 ⟨rfl, hb⟩; replace ha := acc ha hb; clear hb))
                  go_ret
                  exact ⟨rfl, ha⟩
                · obtain ⟨q, rfl⟩ : ∃ q : Nat, k = q := ⟨k.toNat, by omega⟩
                  have hk' : ¬ ((q : Int) < 0) := by omega
                  have hk3 : ¬ ((1000 : Int) < (q : Int)) := by omega
                  have hif : ∀ w, (convert 3 23 (.int .i64 q)).run Tryd.prog w = .ok (.float .f64 (floatOfInt .f64 q)) w := fun w => run_convert_int_float w _ _ .i64 .f64 q (by kernel_rfl) Tryd.underlying23
                  have hdv : ∀ w, (binOp .quo 23 (.float .f64 (floatOfInt .f64 q)) (.float .f64 4652007308841189376)).run Tryd.prog w = .ok (.float .f64 (cN q)) w := fun w => run_float_arith w .quo _ .f64 _ _ _ (cN_div q (by omega))
                  go_wp2_with (first
                    | (go_at_call 6; refine (weigh_any _ _).mono ?_; rintro e w3 ⟨rfl, rfl⟩; first | rw [HA.out] | rw [HB.out] | rw [weighS_cN q (by omega)])
                    | (go_at_call 8; refine (works_any _).mono ?_; rintro e w3 ⟨rfl, hb⟩; replace ha := acc ha hb; clear hb))
                  go_ret
                  exact ⟨rfl, ha⟩
            · have hz : a = 0 := hnan hnn
              subst hz
              clear hnan
              rcases Int.lt_or_le k 0 with hk | hk
              · have hk' : (k < 0) := hk
                go_wp2_with (first
                  | (go_at_call 6; refine (weigh_any _ _).mono ?_; rintro e w3 ⟨rfl, rfl⟩; first | rw [HA.out] | rw [HB.out])
                  | (go_at_call 8; refine (works_any _).mono ?_; rintro e w3 ⟨rfl, hb⟩; replace ha := acc ha hb; clear hb))
                go_ret
                exact ⟨rfl, ha⟩
              · rcases Int.lt_or_le 1000 k with hk2 | hk2
                · have hk' : ¬ (k < 0) := by omega
                  go_wp2_with (first
                    | (go_at_call 6; refine (weigh_any _ _).mono ?_; rintro e w3 ⟨rfl, rfl⟩; first | rw [HA.out] | rw [HB.out])
                    | (go_at_call 8; refine (works_any _).mono ?_; rintro e w3 ⟨rfl, hb⟩; replace ha := acc ha hb; clear hb))
                  go_ret
                  exact ⟨rfl, ha⟩
                · obtain ⟨q, rfl⟩ : ∃ q : Nat, k = q := ⟨k.toNat, by omega⟩
                  have hk' : ¬ ((q : Int) < 0) := by omega
                  have hk3 : ¬ ((1000 : Int) < (q : Int)) := by omega
                  have hif : ∀ w, (convert 3 23 (.int .i64 q)).run Tryd.prog w = .ok (.float .f64 (floatOfInt .f64 q)) w := fun w => run_convert_int_float w _ _ .i64 .f64 q (by kernel_rfl) Tryd.underlying23
                  have hdv : ∀ w, (binOp .quo 23 (.float .f64 (floatOfInt .f64 q)) (.float .f64 4652007308841189376)).run Tryd.prog w = .ok (.float .f64 (cN q)) w := fun w => run_float_arith w .quo _ .f64 _ _ _ (cN_div q (by omega))
                  go_wp2_with (first
                    | (go_at_call 6; refine (weigh_any _ _).mono ?_; rintro e w3 ⟨rfl, rfl⟩; first | rw [HA.out] | rw [HB.out] | rw [weighS_cN q (by omega)])
                    | (go_at_call 8; refine (works_any _).mono ?_; rintro e w3 ⟨rfl, hb⟩; replace ha := acc ha hb; clear hb))
                  go_ret
                  exact ⟨rfl, ha⟩
          · have hab : ¬ ((b : Int) < (a : Int)) := by have := hmono hle; omega
            clear hmono
            cases hnn : (FloatKind.f64.format.order x.toNat x.toNat != some .eq)
            · clear hnan
              rcases Int.lt_or_le k 0 with hk | hk
              · have hk' : (k < 0) := hk
                go_wp2_with (first
                  | (go_at_call 6; refine (weigh_any _ _).mono ?_; rintro e w3 ⟨rfl, rfl⟩; first | rw [HA.out] | rw [HB.out])
                  | (go_at_call 8; refine (works_any _).mono ?_; rintro e w3 ⟨rfl, hb⟩; replace ha := acc ha hb; clear hb))
                go_ret
                exact ⟨rfl, ha⟩
              · rcases Int.lt_or_le 1000 k with hk2 | hk2
                · have hk' : ¬ (k < 0) := by omega
                  go_wp2_with (first
                    | (go_at_call 6; refine (weigh_any _ _).mono ?_; rintro e w3 ⟨rfl, rfl⟩; first | rw [HA.out] | rw [HB.out])
                    | (go_at_call 8; refine (works_any _).mono ?_; rintro e w3 ⟨rfl, hb⟩; replace ha := acc ha hb; clear hb))
                  go_ret
                  exact ⟨rfl, ha⟩
                · obtain ⟨q, rfl⟩ : ∃ q : Nat, k = q := ⟨k.toNat, by omega⟩
                  have hk' : ¬ ((q : Int) < 0) := by omega
                  have hk3 : ¬ ((1000 : Int) < (q : Int)) := by omega
                  have hif : ∀ w, (convert 3 23 (.int .i64 q)).run Tryd.prog w = .ok (.float .f64 (floatOfInt .f64 q)) w := fun w => run_convert_int_float w _ _ .i64 .f64 q (by kernel_rfl) Tryd.underlying23
                  have hdv : ∀ w, (binOp .quo 23 (.float .f64 (floatOfInt .f64 q)) (.float .f64 4652007308841189376)).run Tryd.prog w = .ok (.float .f64 (cN q)) w := fun w => run_float_arith w .quo _ .f64 _ _ _ (cN_div q (by omega))
                  go_wp2_with (first
                    | (go_at_call 6; refine (weigh_any _ _).mono ?_; rintro e w3 ⟨rfl, rfl⟩; first | rw [HA.out] | rw [HB.out] | rw [weighS_cN q (by omega)])
                    | (go_at_call 8; refine (works_any _).mono ?_; rintro e w3 ⟨rfl, hb⟩; replace ha := acc ha hb; clear hb))
                  go_ret
                  exact ⟨rfl, ha⟩
            · have hz : a = 0 := hnan hnn
              subst hz
              clear hnan
              rcases Int.lt_or_le k 0 with hk | hk
              · have hk' : (k < 0) := hk
                go_wp2_with (first
                  | (go_at_call 6; refine (weigh_any _ _).mono ?_; rintro e w3 ⟨rfl, rfl⟩; first | rw [HA.out] | rw [HB.out])
                  | (go_at_call 8; refine (works_any _).mono ?_; rintro e w3 ⟨rfl, hb⟩; replace ha := acc ha hb; clear hb))
                go_ret
                exact ⟨rfl, ha⟩
              · rcases Int.lt_or_le 1000 k with hk2 | hk2
                · have hk' : ¬ (k < 0) := by omega
                  go_wp2_with (first
                    | (go_at_call 6; refine (weigh_any _ _).mono ?_; rintro e w3 ⟨rfl, rfl⟩; first | rw [HA.out] | rw [HB.out])
                    | (go_at_call 8; refine (works_any _).mono ?_; rintro e w3 ⟨rfl, hb⟩; replace ha := acc ha hb; clear hb))
                  go_ret
                  exact ⟨rfl, ha⟩
                · obtain ⟨q, rfl⟩ : ∃ q : Nat, k = q := ⟨k.toNat, by omega⟩
                  have hk' : ¬ ((q : Int) < 0) := by omega
                  have hk3 : ¬ ((1000 : Int) < (q : Int)) := by omega
                  have hif : ∀ w, (convert 3 23 (.int .i64 q)).run Tryd.prog w = .ok (.float .f64 (floatOfInt .f64 q)) w := fun w => run_convert_int_float w _ _ .i64 .f64 q (by kernel_rfl) Tryd.underlying23
                  have hdv : ∀ w, (binOp .quo 23 (.float .f64 (floatOfInt .f64 q)) (.float .f64 4652007308841189376)).run Tryd.prog w = .ok (.float .f64 (cN q)) w := fun w => run_float_arith w .quo _ .f64 _ _ _ (cN_div q (by omega))
                  go_wp2_with (first
                    | (go_at_call 6; refine (weigh_any _ _).mono ?_; rintro e w3 ⟨rfl, rfl⟩; first | rw [HA.out] | rw [HB.out] | rw [weighS_cN q (by omega)])
                    | (go_at_call 8; refine (works_any _).mono ?_; rintro e w3 ⟨rfl, hb⟩; replace ha := acc ha hb; clear hb))
                  go_ret
                  exact ⟨rfl, ha⟩

theorem acceptHolds_any (s : List UInt8) (x y k : Int) (w : World) :
    Calls Tryd.prog 4 #[.string ⟨s.toArray⟩, .int .u64 x, .int .u64 y, .int .i64 k] w fun e w' => e = .returned (.bool true) ∧ Below w.heap.size w w' := by
  by_cases hlen : s.length ≤ 200
  · cases hsome : (readS s).isSome
    · exact acceptHolds_none s x y k w hlen hsome
    · exact acceptHolds_some s x y k w hlen hsome
  · have hlen' : ((200 : Int) < (s.length : Int)) := by omega
    go_enter Tryd.func4, Tryd.ntmps4
    go_wp2_with (go_at_call 8; refine (works_any _).mono ?_; rintro e w1 ⟨rfl, hb⟩)
    go_ret
    exact ⟨rfl, hb⟩
end Go.Proofs.YtnlkmiieebahoaaDoor
