/- Contracts of package token: Cut (conditions: none). -/
import Derived.Test.YtnlkmiieebahoaaDoorTok3
import Derived.Deep.RegionWith
set_option linter.unusedVariables false
set_option linter.unusedSimpArgs false
namespace Go.Proofs.YtnlkmiieebahoaaDoor
open Go.RowKit

/-- where a byte stands first outside quotes. -/
def cutAt (by' : UInt8) : Bool → Bool → List UInt8 → Option Nat
  | _, _, [] => none
  | q, h, c :: l => if !q && c == by' then some 0 else (cutAt by' (openQ q h c).2.1 (openQ q h c).2.2 l).map (· + 1)
/-- a text cut in two. -/
def cutS (by' : UInt8) (l : List UInt8) : List UInt8 × List UInt8 × Bool :=
  match cutAt by' false false l with
  | none => (trimS l, [], false)
  | some i => (trimS (l.take i), trimS (l.drop (i + 1)), true)
/-- how far a cut has come. -/
def CutTo (by' : UInt8) (s : ByteArray) (k : Nat) (q h : Bool) : Prop := cutAt by' false false s.data.toList = (cutAt by' q h (s.data.toList.drop k)).map (· + k)

theorem cutTo_next (c : UInt8) (s : ByteArray) (k : Nat) (q h : Bool) (hlt : k < s.size) (hT : CutTo c s k q h) (hc : (!q && (s[k]'hlt) == c) = false) :
    CutTo c s (k + 1) (openQ q h (s[k]'hlt)).2.1 (openQ q h (s[k]'hlt)).2.2 := by
  unfold CutTo at hT ⊢
  rw [hT, low_split s k hlt, cutAt, if_neg (by simpa using hc)]
  cases cutAt c (openQ q h (s[k]'hlt)).2.1 (openQ q h (s[k]'hlt)).2.2 (s.data.toList.drop (k + 1)) <;> simp; omega
theorem cutTo_here (c : UInt8) (s : ByteArray) (k : Nat) (h : Bool) (hlt : k < s.size) (hT : CutTo c s k false h) (hc : (s[k]'hlt) = c) :
    cutS c s.data.toList = (trimS (s.data.toList.take k), trimS (s.data.toList.drop (k + 1)), true) := by
  unfold CutTo at hT
  rw [low_split s k hlt, cutAt, if_pos (by simp [hc])] at hT
  simp only [Option.map_some, Nat.zero_add] at hT
  unfold cutS; rw [hT]
theorem cutTo_none (c : UInt8) (s : ByteArray) (q h : Bool) (k : Nat) (hk : k = s.size) (hT : CutTo c s k q h) :
    cutS c s.data.toList = (trimS s.data.toList, [], false) := by
  unfold CutTo at hT
  rw [hk, List.drop_of_length_le (by simp), cutAt] at hT
  simp only [Option.map_none] at hT
  unfold cutS; rw [hT]

theorem ret_cut {a b a' b' : ByteArray} {c c' : Bool} (h1 : a = a') (h2 : b = b') (h3 : c = c') : Ending.returned (.tuple #[.string a, .string b, .bool c]) = .returned (.tuple #[.string a', .string b', .bool c']) := by rw [h1, h2, h3]

set_option maxRecDepth 100000 in
set_option maxHeartbeats 400000 in
theorem cut_any (s : ByteArray) (c : UInt8) (hs : s.size ≤ maxLen) (w : World) :
    Calls Tryd.prog 43 #[.string s, .int .u8 c.toNat] w fun e w' => e = .returned (.tuple #[.string ⟨(cutS c s.data.toList).1.toArray⟩, .string ⟨(cutS c s.data.toList).2.1.toArray⟩, .bool (cutS c s.data.toList).2.2]) ∧ Below w.heap.size w w' := by
  have hm := hs; unfold maxLen at hm
  have hnot : ∀ (x : Bool) (w : World), (Op.unary .not (.bool x)).run Tryd.prog w = .ok (.bool (!x)) w := fun _ _ => rfl
  go_enter Tryd.func43, Tryd.ntmps43
  go_wp2
  go_loopw [20] (fun i wr => ∃ (k : Nat) (q h : Bool), k ≤ s.size ∧ i = .int .i64 k ∧ rdr wr w.heap.size s q h ∧ Below w.heap.size w wr ∧ w.heap.size < wr.heap.size ∧ Hid (CutTo c s k q h))
    (fun i _ => s.size - (intOf i).toNat)
  case atStart => exact ⟨0, false, false, by omega, rfl, heap_new w _, (Below.refl _ _).alloc (Nat.le_refl _) _, by simp, by simp [CutTo, Hid]⟩
  case round =>
    obtain ⟨k, q, h, hk, rfl, hr, hb, hsz, hT⟩ := hrel
    have c1 : wr.cell? ⟨w.heap.size, 1, none⟩ = some (.bool q) := Lib.cell_of_heap hr 1
    by_cases hlt : k < s.size
    · have hop := open_any w.heap.size s q h (s[k]'hlt) wr hr
      have Hr := Lib.hid hr; clear hr
      have hgo : (!q && (s[k]'hlt) == c) = false → CutTo c s (k + 1) (openQ q h (s[k]'hlt)).2.1 (openQ q h (s[k]'hlt)).2.2 := cutTo_next c s k q h hlt hT.out
      cases q
      · by_cases hc : (s[k]'hlt) = c
        · have hc' : (((s[k]'hlt).toNat : Int) == (c.toNat : Int)) = true := (byte_eq _ _).trans (by simp [hc])
          have HC := Lib.hid (cutTo_here c s k h hlt hT.out hc); clear hc hgo
          have hk1 : IntKind.i64.wrap ((k : Int) + 1) = (k : Int) + 1 := IntWalk.i64_in _ (by omega)
          have hs1 : (s.extract 0 k).size ≤ maxLen := by simp [maxLen]; omega
          have hs2 : (s.extract (k + 1) s.size).size ≤ maxLen := by simp [maxLen]; omega
          go_wp2_with (go_at_call 54; refine hop.mono ?_; rintro e w1 ⟨rfl, hr1, ho1⟩)
          have ha : Below w.heap.size w w1 := hb.trans (ho1.below (Nat.le_of_lt hsz) (fun i hi e => by omega))
          go_region_with (go_at_call 26; refine (trim_any _ (by first | exact hs1 | exact hs2) _).mono ?_; rintro e w' ⟨rfl, hb'⟩; (first | replace ha := accD ha hb' | replace ha := acc ha hb'); clear hb')
          all_goals (clear hop; go_wp2; go_ret3)
          all_goals (refine ⟨ret_cut ?_ ?_ ?_, ha⟩)
          all_goals (try rw [HC.out])
          all_goals (try rfl)
          all_goals (rw [List.take_of_length_le (by simp)])
        · have hc' : (((s[k]'hlt).toNat : Int) == (c.toNat : Int)) = false := (byte_eq _ _).trans (by simp [hc])
          have HC := Lib.hid (hgo (by simp [hc])); clear hc hgo
          go_wp2_with (go_at_call 54; refine hop.mono ?_; rintro e w1 ⟨rfl, hr1, ho1⟩)
          go_roundw
          case rel => exact ⟨k + 1, _, _, by omega, by go_num, hr1, hb.trans (ho1.below (Nat.le_of_lt hsz) (fun i hi e => by omega)), Nat.lt_of_lt_of_le hsz ho1.size, HC⟩
          case measure => simp [intOf]; omega
      · have HC := Lib.hid (hgo (by simp)); clear hgo
        go_wp2_with (go_at_call 54; refine hop.mono ?_; rintro e w1 ⟨rfl, hr1, ho1⟩)
        go_roundw
        case rel => exact ⟨k + 1, _, _, by omega, by go_num, hr1, hb.trans (ho1.below (Nat.le_of_lt hsz) (fun i hi e => by omega)), Nat.lt_of_lt_of_le hsz ho1.size, HC⟩
        case measure => simp [intOf]; omega
    · have HC := Lib.hid (cutTo_none c s q h k (by omega) hT.out)
      go_wp2_with (go_at_call 26; refine (trim_any _ hs _).mono ?_; rintro e w' ⟨rfl, hb2⟩)
      go_ret3
      exact ⟨by rw [HC.out]; rfl, hb.trans (hb2.mono (Nat.le_of_lt hsz))⟩

end Go.Proofs.YtnlkmiieebahoaaDoor
