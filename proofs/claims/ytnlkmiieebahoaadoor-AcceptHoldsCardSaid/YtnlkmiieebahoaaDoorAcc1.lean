/- Contracts of package accept: giving up, caught, a text cut at a byte, thousandths (conditions: none). -/
import Derived.Test.YtnlkmiieebahoaaDoorTok5
set_option linter.unusedVariables false
set_option linter.unusedSimpArgs false
namespace Go.Proofs.YtnlkmiieebahoaaDoor
open Go.RowKit

/-! ### A TEXT CUT AT ONE BYTE -/
def cut1 (c : UInt8) (l : List UInt8) : List UInt8 × List UInt8 × Bool :=
  if 0 ≤ Lib.indexByte l c then (l.take (Lib.indexByte l c).toNat, l.drop ((Lib.indexByte l c).toNat + 1), true) else (l, [], false)
theorem indexByte_lt (c : UInt8) : ∀ (l : List UInt8), Lib.indexByte l c < l.length ∧ -1 ≤ Lib.indexByte l c := by
  intro l
  induction l with
  | nil => simp [Lib.indexByte]
  | cons a l ih =>
    rw [Lib.indexByte]
    split
    · simp
      try omega
    · split
      · simp
        try omega
      · simp
        try omega

set_option maxRecDepth 100000 in
set_option maxHeartbeats 400000 in
theorem cutLite_any (s : ByteArray) (c : UInt8) (hs : s.size ≤ maxLen) (w : World) :
    Calls Tryd.prog 44 #[.string s, .string ⟨#[c]⟩] w fun e w' => e = .returned (.tuple #[.string ⟨(cut1 c s.data.toList).1.toArray⟩, .string ⟨(cut1 c s.data.toList).2.1.toArray⟩, .bool (cut1 c s.data.toList).2.2]) ∧ Below w.heap.size w w' := by
  have hm := hs; unfold maxLen at hm
  have hb := indexByte_lt c s.data.toList
  simp only [Array.length_toList, ByteArray.size_data] at hb
  by_cases hi : 0 ≤ Lib.indexByte s.data.toList c
  · have hc : cut1 c s.data.toList = (s.data.toList.take (Lib.indexByte s.data.toList c).toNat, s.data.toList.drop ((Lib.indexByte s.data.toList c).toNat + 1), true) := if_pos hi
    have Hc := Lib.hid hc; clear hc
    generalize hI : Lib.indexByte s.data.toList c = I at *
    have HI := Lib.hid hI; clear hI
    obtain ⟨i, rfl⟩ := Int.eq_ofNat_of_zero_le hi
    have hk1 : IntKind.i64.wrap ((i : Int) + 1) = (i : Int) + 1 := IntWalk.i64_in _ (by omega)
    go_enter Tryd.func44, Tryd.ntmps44
    go_wp2_with (go_at_call 55; refine (Tryd.stringslite_Index_one s c _).mono ?_; rintro e w1 ⟨rfl, rfl⟩; rw [HI.out])
    go_quiet (fail)
    go_wp2
    go_ret3
    refine ⟨ret_cut ?_ ?_ ?_, below_drewN (Below.refl _ _) _⟩
    · rw [Hc.out]; exact ext_take _ _
    · rw [Hc.out]; exact ext_drop _ _
    · rw [Hc.out]
  · have hc : cut1 c s.data.toList = (s.data.toList, [], false) := if_neg hi
    have Hc := Lib.hid hc; clear hc
    generalize hI : Lib.indexByte s.data.toList c = I at *
    have HI := Lib.hid hI; clear hI
    go_enter Tryd.func44, Tryd.ntmps44
    go_wp2_with (go_at_call 55; refine (Tryd.stringslite_Index_one s c _).mono ?_; rintro e w1 ⟨rfl, rfl⟩; rw [HI.out])
    go_ret3
    exact ⟨by rw [Hc.out]; rfl, Below.refl _ _⟩

set_option maxRecDepth 100000 in
set_option maxHeartbeats 400000 in
theorem cut1_any (s : ByteArray) (c : UInt8) (hs : s.size ≤ maxLen) (w : World) :
    Calls Tryd.prog 31 #[.string s, .string ⟨#[c]⟩] w fun e w' => e = .returned (.tuple #[.string ⟨(cut1 c s.data.toList).1.toArray⟩, .string ⟨(cut1 c s.data.toList).2.1.toArray⟩, .bool (cut1 c s.data.toList).2.2]) ∧ Below w.heap.size w w' := by
  go_enter Tryd.func31, Tryd.ntmps31
  go_wp2_with (go_at_call 44; refine (cutLite_any s c hs _).mono ?_; rintro e w1 ⟨rfl, hb⟩)
  go_ret3
  exact ⟨rfl, hb⟩

/-! ### GIVING UP -/
/-- what is given up with: an error's number. -/
def giveUp (n : Int) : List PanicEntry := [{ v := .iface 29 (.int .i64 n), recovered := false }]
/-- a value, or it gives up. -/
def endO (n : Int) : Option Value → Ending
  | some v => .returned v
  | none => .panicked (giveUp n)

set_option maxRecDepth 100000 in
set_option maxHeartbeats 400000 in
theorem must_any (b : Bool) (n : Int) (w : World) :
    Calls Tryd.prog 21 #[.bool b, .int .i64 n] w fun e w' => e = endO n (if b then some (.tuple #[]) else none) ∧ w = w' := by
  have hnot : ∀ (x : Bool) (w : World), (Op.unary .not (.bool x)).run Tryd.prog w = .ok (.bool (!x)) w := fun _ _ => rfl
  cases b
  · go_enter Tryd.func21, Tryd.ntmps21
    go_wp2
    exact ⟨rfl, rfl, rfl⟩
  · go_enter Tryd.func21, Tryd.ntmps21
    go_wp2
    go_end0
    exact ⟨rfl, rfl⟩

end Go.Proofs.YtnlkmiieebahoaaDoor
