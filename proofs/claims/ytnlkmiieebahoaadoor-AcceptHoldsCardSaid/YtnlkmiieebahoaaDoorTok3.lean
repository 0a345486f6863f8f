/- Contracts of package token: a reader's open (conditions: none). -/
import Derived.Test.YtnlkmiieebahoaaDoorTok2
set_option linter.unusedVariables false
set_option linter.unusedSimpArgs false
namespace Go.Proofs.YtnlkmiieebahoaaDoor
open Go.RowKit

/-- a byte in or behind quotes: told, quoted, behind. -/
def openQ (q h : Bool) (c : UInt8) : Bool × Bool × Bool :=
  if h then (false, q, false) else if q && c == 92 then (false, q, true) else if c == 34 then (q, !q, false) else (!q, q, false)
/-- a reader's block. -/
def rdr (w : World) (B : Nat) (s : ByteArray) (q h : Bool) : Prop := w.heap[B]? = some (.cells #[.string s, .bool q, .bool h] 89)

set_option maxRecDepth 100000 in
set_option maxHeartbeats 400000 in
theorem open_any (B : Nat) (s : ByteArray) (q h : Bool) (c : UInt8) (w : World) (hr : rdr w B s q h) :
    Calls Tryd.prog 54 #[.pointer (some ⟨B, 0, none⟩), .int .u8 c.toNat] w fun e w' => e = .returned (.bool (openQ q h c).1) ∧ rdr w' B s (openQ q h c).2.1 (openQ q h c).2.2 ∧ Only (· = B) w w' := by
  have c0 : w.cell? ⟨B, 0, none⟩ = some (.string s) := Lib.cell_of_heap hr 0
  have c1 : w.cell? ⟨B, 1, none⟩ = some (.bool q) := Lib.cell_of_heap hr 1
  have c2 : w.cell? ⟨B, 2, none⟩ = some (.bool h) := Lib.cell_of_heap hr 2
  have f1 : w.frozen? ⟨B, 1, none⟩ = false := Lib.frozen_of_heap hr 1
  have f2 : w.frozen? ⟨B, 2, none⟩ = false := Lib.frozen_of_heap hr 2
  have hB := lt_heap hr
  have Hr := Lib.hid hr; clear hr
  have hnot : ∀ (x : Bool) (w : World), (Op.unary .not (.bool x)).run Tryd.prog w = .ok (.bool (!x)) w := fun _ _ => rfl
  by_cases h92 : c = 92
  · subst h92
    cases h <;> cases q
    all_goals
      go_enter Tryd.func54, Tryd.ntmps54
      go_wp2
      go_ret
      refine ⟨rfl, ?_, ?_⟩
      all_goals first | exact Only.refl _ _ | exact Hr.out | exact only1 _ _ _ _ | (exact (heap_setCell Hr.out _ _))
  · by_cases h34 : c = 34
    · subst h34
      cases h <;> cases q
      all_goals
        go_enter Tryd.func54, Tryd.ntmps54
        go_wp2
        go_ret
        refine ⟨rfl, ?_, ?_⟩
        all_goals first | exact Only.refl _ _ | exact Hr.out | exact only1 _ _ _ _ | (exact (heap_setCell Hr.out _ _))
    · have hc1 : (((c.toNat : Nat) : Int) == 92) = false := (byte_eq c 92).trans (by simpa using h92)
      have hc2 : (((c.toNat : Nat) : Int) == 34) = false := (byte_eq c 34).trans (by simpa using h34)
      have e1 : (c == 92) = false := by simpa using h92
      have e2 : (c == 34) = false := by simpa using h34
      have E1 := Lib.hid e1; have E2 := Lib.hid e2; clear e1 e2
      cases h <;> cases q
      all_goals
        go_enter Tryd.func54, Tryd.ntmps54
        go_wp2
        go_ret
        simp only [openQ, E1.out, E2.out]
        refine ⟨rfl, ?_, ?_⟩
        all_goals first | exact Only.refl _ _ | exact Hr.out | exact only1 _ _ _ _ | (exact (heap_setCell Hr.out _ _))

end Go.Proofs.YtnlkmiieebahoaaDoor
