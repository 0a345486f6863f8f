/- Contracts of package token: Lower (conditions: none). -/
import Derived.Test.YtnlkmiieebahoaaDoorTok1
set_option linter.unusedVariables false
set_option linter.unusedSimpArgs false
namespace Go.Proofs.YtnlkmiieebahoaaDoor
open Go.RowKit

/-- the row of a text's bytes, the first k in small letters. -/
def lowRow (s : ByteArray) (k : Nat) (cap : Nat) : Array Value := (((lowS (s.data.toList.take k) ++ s.data.toList.drop k).map fun c : UInt8 => Value.int .u8 c.toNat) ++ List.replicate (cap - s.size) (Value.int .u8 0)).toArray
theorem lowRow_zero (s : ByteArray) (w : World) (e : TypeId) : Lib.bytesCells w e s = lowRow s 0 (grownCap w s.size 0 e) := by
  unfold Lib.bytesCells lowRow
  simp [lowS]
theorem lowRow_at (s : ByteArray) (k cap : Nat) (h : k < s.size) : (lowRow s k cap)[k]? = some (.int .u8 (s[k]'h).toNat) := by
  have h' : k < s.data.toList.length := by simpa using h
  have hm : min k s.size = k := by omega
  simp [lowRow, lowS, List.getElem?_append, hm, h]
  rw [if_pos (by omega)]; rfl
theorem low_split (s : ByteArray) (k : Nat) (h : k < s.size) : s.data.toList.drop k = (s[k]'h) :: s.data.toList.drop (k + 1) := by
  rw [List.drop_eq_getElem_cons (by simpa using h)]; rfl
theorem lowRow_set (s : ByteArray) (k cap : Nat) (h : k < s.size) : (lowRow s k cap).setIfInBounds k (.int .u8 (lowB (s[k]'h)).toNat) = lowRow s (k + 1) cap := by
  have hm : min k s.size = k := by omega
  unfold lowRow
  rw [low_split s k h, List.take_succ_eq_append_getElem (by simpa using h)]
  simp [lowS, hm, List.set_append]
  rfl
theorem lowRow_keep (s : ByteArray) (k cap : Nat) (h : k < s.size) (hc : lowB (s[k]'h) = s[k]'h) : lowRow s k cap = lowRow s (k + 1) cap := by
  unfold lowRow
  rw [low_split s k h, List.take_succ_eq_append_getElem (by simpa using h)]
  have : lowB s.data[k] = s.data[k] := hc
  simp [lowS, this]
  rfl
theorem lowRow_end (s : ByteArray) (cap : Nat) (j : Nat) (h : j < (lowS s.data.toList).length) : (lowRow s s.size cap)[j]? = some (.int .u8 ((lowS s.data.toList)[j]'h).toNat) := by
  have h' : j < s.data.toList.length := by simpa [lowS] using h
  have hm : s.data.toList.take s.size = s.data.toList := List.take_of_length_le (by simp)
  unfold lowRow
  rw [hm]
  simp [List.getElem?_append, h]
theorem below_bytes (w : World) (e : TypeId) (s : ByteArray) : Below w.heap.size w (Lib.bytesWorld w e s) :=
  ⟨rfl, rfl, rfl, by rw [Lib.bytesWorld_size]; omega, fun k hk => Lib.bytesWorld_at_old w e s k hk⟩
theorem lowB_yes (c : UInt8) (h1 : 65 ≤ c.toNat) (h2 : c.toNat ≤ 90) : ((c.toNat : Nat) : Int) + 97 - 65 = ((lowB c).toNat : Nat) := by
  have : (65 ≤ c && c ≤ 90) = true := by simp [UInt8.le_iff_toNat_le, h1, h2]
  rw [lowB, if_pos this, UInt8.toNat_add]
  simp; omega
theorem lowB_no (c : UInt8) (h : ¬ (65 ≤ c.toNat ∧ c.toNat ≤ 90)) : lowB c = c := by
  rw [lowB, if_neg]; simpa [UInt8.le_iff_toNat_le] using h

set_option maxRecDepth 100000 in
set_option maxHeartbeats 400000 in
theorem lower_any (s : ByteArray) (hs : s.size ≤ 140737488351232) (w : World) :
    Calls Tryd.prog 32 #[.string s] w fun e w' => e = .returned (.string ⟨(lowS s.data.toList).toArray⟩) ∧ Below w.heap.size w w' := by
  have hcv := fun (w : World) => Lib.run_convert_string_bytes (P := Tryd.prog) w 9 76 5 s Tryd.underlying9 Tryd.underlying76 Tryd.underlying5
  go_enter Tryd.func32, Tryd.ntmps32
  go_wp2
  go_loopw [10] (fun i wr => ∃ (k : Nat) (fz : Nat), k ≤ s.size ∧ i = .int .i64 k ∧ s.size ≤ fz ∧ wr.heap[w.heap.size]? = some (.cells (lowRow s k (grownCap w s.size 0 5)) 5 (fz, fz + 1)) ∧ Below w.heap.size w wr)
    (fun i _ => s.size - (intOf i).toNat)
  case atStart => 
    refine ⟨0, (Lib.bytesCells w 5 s).size, by omega, rfl, ?_, by rw [Lib.bytesWorld_at_new, lowRow_zero], ?_⟩
    · simp [Lib.bytesCells]
    · exact below_bytes _ _ _
  case round =>
    obtain ⟨k, fz, hk, rfl, hfz, hh, hb⟩ := hrel
    by_cases hlt : k < s.size
    · have hcell : wr.cell? ⟨w.heap.size, k, none⟩ = some (.int .u8 (s[k]'hlt).toNat) := (Lib.cell_of_heap hh k).trans (lowRow_at s k _ hlt)
      have hfr := frozen_heap hh k (by omega)
      have Hh := Lib.hid hh; clear hh
      have h0 : (0 : Int) ≤ (s[k]'hlt).toNat := by omega
      have h1 : ((s[k]'hlt).toNat : Int) < 256 := by have := (s[k]'hlt).toNat_lt; omega
      by_cases hc : 65 ≤ (s[k]'hlt).toNat ∧ (s[k]'hlt).toNat ≤ 90
      · obtain ⟨hc1, hc2⟩ := hc
        have hc1' : (65 : Int) ≤ (s[k]'hlt).toNat := by omega
        have hc2' : ((s[k]'hlt).toNat : Int) ≤ 90 := by omega
        go_wp2
        go_roundw
        case rel =>
          refine ⟨k + 1, fz, by omega, by go_num, hfz, ?_, hb.setCell (p := ⟨w.heap.size, k, none⟩) (Nat.le_refl _) _⟩
          rw [heap_setCell Hh.out, lowB_yes _ hc1 hc2, lowRow_set]
        case measure => simp [intOf]; omega
      · go_wp2
        all_goals
          go_roundw
          case rel => exact ⟨k + 1, fz, by omega, by go_num, hfz, by rw [Hh.out, lowRow_keep s k _ hlt (lowB_no _ hc)], hb⟩
          case measure => simp [intOf]; omega
    · obtain rfl : k = s.size := by omega
      have hst := run_bytes_str (P := Tryd.prog) Tryd.underlying76 Tryd.underlying5 Tryd.underlying9 wr w.heap.size 0 (grownCap w s.size 0 5) (lowS s.data.toList)
        (fun j hj => by rw [Nat.zero_add, Lib.cell_of_heap hh, lowRow_end]) s.size (by simp [lowS])
      clear hh
      go_wp2
      go_ret
      exact ⟨rfl, hb⟩

end Go.Proofs.YtnlkmiieebahoaaDoor
