/- Contracts of package token: Quoted (conditions: none). -/
import Derived.Test.YtnlkmiieebahoaaDoorTok5
import Derived.Test.YtnlkmiieebahoaaDoorBld
set_option linter.unusedVariables false
set_option linter.unusedSimpArgs false
namespace Go.Proofs.YtnlkmiieebahoaaDoor
open Go.RowKit

/-- behind the first quote. -/
def qGo : Bool → List UInt8 → List UInt8 → Option (List UInt8)
  | _, _, [] => none
  | h, acc, c :: l => if !h && c == 34 then (if l.isEmpty then some acc else none)
    else if !h && c == 92 then qGo true acc l else qGo false (acc ++ [c]) l
/-- a quoted text. -/
def quotedS : List UInt8 → Option (List UInt8)
  | [] => none
  | c :: l => if c == 34 && allB valB (c :: l) then qGo false [] l else none
/-- a text and an error. -/
def endQ (o : Option (List UInt8)) : Ending := .returned (match o with | some t => .tuple #[.string ⟨t.toArray⟩, .int .i64 0] | none => .tuple #[.string ⟨#[]⟩, .int .i64 110])


/-- what holds where the text is none. -/
def QNone (s : ByteArray) (w : World) (a' : Act) (w' : World) : Prop := a'.tmps.size = 75 ∧ a'.defers = [] ∧ Below w.heap.size w w' ∧ quotedS s.data.toList = none

set_option maxRecDepth 100000 in
set_option maxHeartbeats 800000 in
theorem quoted_no (s : ByteArray) (hs : s.size ≤ 140737488351232) (hno : s.data.toList = [] ∨ (∃ h0 : 0 < s.size, (s[0]'h0) ≠ 34 ∨ allB valB s.data.toList = false)) (w : World) :
    Calls Tryd.prog 45 #[.string s] w fun e w' => e = endQ (quotedS s.data.toList) ∧ Below w.heap.size w w' := by
  have hm : s.size ≤ maxLen := by unfold maxLen; omega
  have hidx := idx1
  have hnot : ∀ (x : Bool) (w : World), (Op.unary .not (.bool x)).run Tryd.prog w = .ok (.bool (!x)) w := fun _ _ => rfl
  go_enter Tryd.func45, Tryd.ntmps45
  go_wp2
  refine wp_scope_jumps 0 (QNone s w) (fun _ _ => 0) rfl ?_ ?_
  · by_cases he : s.data.toList = []
    · have he1 : s.toList.isEmpty = true := by rw [ByteArray.toList_eq, he]; rfl
      have he2 : s.toList = [] := by rw [ByteArray.toList_eq, he]
      have hq : quotedS s.data.toList = none := by rw [he]; rfl
      have Hq := Lib.hid hq; clear he hq hno
      go_wp2
      go_quiet (fail)
      go_wp2
      go_step3
      exact ⟨rfl, rfl, rfl, below_drewN (((Below.refl _ _).alloc (Nat.le_refl _) _).alloc (by simp) _) _, Hq.out⟩
    · have he1 : s.toList.isEmpty = false := by rw [ByteArray.toList_eq]; simpa using he
      have h0 : 0 < s.size := by
        rcases Nat.eq_zero_or_pos s.size with h | h
        · exact absurd (List.eq_nil_of_length_eq_zero (by simpa using h)) he
        · exact h
      have hsp : s.data.toList = (s[0]'h0) :: s.data.toList.drop 1 := by
        have := low_split s 0 h0; simpa using this
      have he2 : ¬ s.toList = [] := by rw [ByteArray.toList_eq]; exact he
      by_cases hc : (s[0]'h0) = 34
      · have hc1 : ((((s[0]'h0).toNat : Nat) : Int) != 34) = false := by rw [hc]; rfl
        have hc2 : ((((s[0]'h0).toNat : Nat) : Int) == 34) = true := by rw [hc]; rfl
        cases hv : allB valB s.data.toList
        · have hq : quotedS s.data.toList = none := by rw [hsp, quotedS, ← hsp, hv]; simp
          have Hq := Lib.hid hq; have Hv := Lib.hid hv; clear hq hv hsp he hc hno
          go_wp2
          obtain ⟨W0, hW0⟩ : ∃ W0, (w.alloc (.cells #[.pointer none, .slice none 0 0] 93)).alloc (.cells #[.string s, .bool false, .bool false] 89) = W0 := ⟨_, rfl⟩
          have k0 : W0.cell? ⟨w.heap.size + 1, 0, none⟩ = some (.string s) := by
            rw [← hW0]; have := cell_new (w.alloc (.cells #[.pointer none, .slice none 0 0] 93)) #[.string s, .bool false, .bool false] 89 0; rw [World.size_alloc] at this; exact this
          have hsz : W0.heap.size = w.heap.size + 2 := by rw [← hW0]; simp
          have hw0 : Below w.heap.size w W0 := by rw [← hW0]; exact ((Below.refl _ _).alloc (Nat.le_refl _) _).alloc (by simp) _
          rw [hW0]
          clear hW0
          have ha := Below.refl W0.heap.size W0
          go_region_with (first
            | (go_at_call 28; refine (classes_any _).mono ?_; rintro e w' ⟨rfl, hb'⟩; (first | replace ha := accD ha hb' | replace ha := acc ha hb'); clear hb'; have hcx := (ha.cell (p := ⟨w.heap.size + 1, 0, none⟩) (by simp [hsz])).trans k0)
            | (go_at_call 27; refine (all2_any _ hm _).mono ?_; rintro e w' ⟨rfl, hb'⟩; rw [Hv.out]; (first | replace ha := accD ha hb' | replace ha := acc ha hb'); clear hb'))
          all_goals (go_wp2; go_step3; exact ⟨rfl, rfl, rfl, hw0.trans (ha.mono (by omega)), Hq.out⟩)
        · rcases hno with h | ⟨h0', h | h⟩
          · exact absurd h he
          · exact absurd hc h
          · rw [hv] at h; cases h
      · have hc1 : ((((s[0]'h0).toNat : Nat) : Int) != 34) = true := by
          have := byte_eq (s[0]'h0) 34
          rw [bne, show (((34 : UInt8).toNat : Nat) : Int) = 34 from rfl] at *
          rw [this]; simpa using hc
        have hq : quotedS s.data.toList = none := by rw [hsp, quotedS]; simp [hc]
        have Hq := Lib.hid hq; clear hq hsp he hc hno
        go_wp2
        go_quiet (fail)
        go_wp2
        go_step3
        exact ⟨rfl, rfl, rfl, below_drewN (((Below.refl _ _).alloc (Nat.le_refl _) _).alloc (by simp) _) _, Hq.out⟩
  · rintro a' w' ⟨h1, h2, h3, h4⟩
    obtain ⟨T, ds⟩ := a'
    dsimp only at h1 h2
    subst h2
    have H4 := Lib.hid h4; clear h4
    go_wp2
    refine ⟨rfl, _, results_tmp2 rfl _ _ _, ?_, h3⟩
    rw [H4.out]
    simp [endQ, Array.getElem?_setIfInBounds, h1]
end Go.Proofs.YtnlkmiieebahoaaDoor
