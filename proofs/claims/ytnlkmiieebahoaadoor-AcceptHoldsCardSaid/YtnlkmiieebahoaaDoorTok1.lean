/- Contracts of package token's byte classes (conditions: none). -/
import Derived.Test.YtnlkmiieebahoaaDoorBase
import Derived.Test.YtnlkmiieebahoaaDoorShelf
set_option linter.unusedVariables false
set_option linter.unusedSimpArgs false
namespace Go.Proofs.YtnlkmiieebahoaaDoor
open Go.RowKit

/-- a token's byte that is no letter and no digit. -/
def signB (c : UInt8) : Bool := [33, 35, 36, 37, 38, 39, 42, 43, 45, 46, 94, 95, 96, 124, 126].contains c
/-- a token's byte. -/
def tokB (c : UInt8) : Bool := (97 ≤ c && c ≤ 122) || (65 ≤ c && c ≤ 90) || (48 ≤ c && c ≤ 57) || signB c
/-- a value's byte. -/
def valB (c : UInt8) : Bool := c == 9 || (32 ≤ c && c != 127)



set_option maxRecDepth 100000 in
set_option maxHeartbeats 400000 in
theorem class2_any (c : UInt8) (w : World) :
    Calls Tryd.prog 41 #[.int .u8 c.toNat] w fun e w' => e = .returned (.bool (valB c)) ∧ w = w' := by
  have h0 : (0 : Int) ≤ c.toNat := by omega
  have h1 : (c.toNat : Int) < 256 := by have := c.toNat_lt; omega
  go_enter Tryd.func41, Tryd.ntmps41
  go_wp2
  all_goals (go_ret; refine ⟨ret_bool ?_, rfl⟩)
  all_goals (rw [Bool.eq_iff_iff]; simp [valB, UInt8.le_iff_toNat_le, ← UInt8.toNat_inj]; omega)

/-- the signs' text. -/
abbrev signs : ByteArray := ⟨#[33, 35, 36, 37, 38, 39, 42, 43, 45, 46, 94, 95, 96, 124, 126]⟩
theorem sign_in : ∀ k (h : k < signs.size), signB (signs[k]'h) = true := by decide
theorem mem_take_succ (s : ByteArray) (k : Nat) (h : k < s.size) (c : UInt8) : c ∈ s.data.toList.take (k + 1) ↔ c ∈ s.data.toList.take k ∨ c = s[k] := by
  rw [List.take_succ_eq_append_getElem (by simpa using h)]; simp; rfl
theorem signs_ascii : ∀ k (h : k < signs.size), (signs[k]'h).toNat < 128 := by decide

set_option maxRecDepth 100000 in
set_option maxHeartbeats 400000 in
theorem sign_any (c : UInt8) (w : World) :
    Calls Tryd.prog 40 #[.int .u8 c.toNat] w fun e w' => e = .returned (.bool (signB c)) ∧ Below w.heap.size w w' := by
  have h0 : (0 : Int) ≤ c.toNat := by omega
  have h1 : (c.toNat : Int) < 256 := by have := c.toNat_lt; omega
  go_enter Tryd.func40, Tryd.ntmps40
  go_wp2
  go_loopw [2] (fun _ wr => ∃ k : Nat, k ≤ signs.size ∧ wr = w.iter signs k ∧ c ∉ signs.data.toList.take k)
    (fun _ wr => signs.size - wr.iterPos w.heap.size)
  case atStart => exact ⟨0, by omega, rfl, by simp⟩
  case round =>
    obtain ⟨k, hk, rfl, hn⟩ := hrel
    have Hn := Lib.hid hn; clear hn
    by_cases hlt : k < signs.size
    · have hnx := fun ty => run_next_ascii (P := Tryd.prog) w signs k ty hlt (signs_ascii k hlt)
      by_cases hc : (signs[k]'hlt) = c
      · have hcc : ((((signs[k]'hlt).toNat : Nat) : Int) == (c.toNat : Int)) = true := by rw [hc]; simp
        go_wp2
        go_ret
        refine ⟨ret_bool ?_, (Below.refl _ _).alloc (Nat.le_refl _) _⟩
        rw [← hc]; exact (sign_in k hlt).symm
      · have hcc : ((((signs[k]'hlt).toNat : Nat) : Int) == (c.toNat : Int)) = false := by simp; exact fun h => hc (UInt8.toNat_inj.1 (by omega))
        go_wp2
        go_roundw
        case rel => exact ⟨k + 1, by omega, rfl, by
          intro hm
          rcases (mem_take_succ signs k hlt c).1 hm with h | h
          · exact Hn.out h
          · exact hc h.symm⟩
        case measure => rw [iterPos_of (World.iter_heap w signs _), iterPos_of (World.iter_heap w signs _)]; omega
    · have hnx := fun ty => run_next_end (P := Tryd.prog) w signs k ty hlt
      go_wp2
      go_ret
      refine ⟨ret_bool ?_, (Below.refl _ _).alloc (Nat.le_refl _) _⟩
      have hk : k = signs.size := by omega
      have hno := Hn.out; rw [hk, show signs.data.toList.take signs.size = signs.data.toList from rfl] at hno
      simpa [signB] using hno

set_option maxRecDepth 100000 in
set_option maxHeartbeats 400000 in
theorem class1_any (c : UInt8) (w : World) :
    Calls Tryd.prog 39 #[.int .u8 c.toNat] w fun e w' => e = .returned (.bool (tokB c)) ∧ Below w.heap.size w w' := by
  have h0 : (0 : Int) ≤ c.toNat := by omega
  have h1 : (c.toNat : Int) < 256 := by have := c.toNat_lt; omega
  go_enter Tryd.func39, Tryd.ntmps39
  go_wp2_with (go_at_call 40; refine (sign_any c _).mono ?_; rintro e w' ⟨rfl, hb⟩)
  all_goals (go_ret; refine ⟨ret_bool ?_, by first | assumption | exact Below.refl _ _⟩)
  all_goals (rw [Bool.eq_iff_iff]; simp [tokB, UInt8.le_iff_toNat_le, ← UInt8.toNat_inj]; generalize signB c = b; cases b <;> simp <;> omega)

set_option maxRecDepth 100000 in
set_option maxHeartbeats 400000 in
theorem classes_any (w : World) :
    Calls Tryd.prog 28 #[] w fun e w' => e = .returned (.agg #[.func (.func 39) #[] #[], .func (.func 41) #[] #[]]) ∧ Below w.heap.size w w' := by
  go_enter Tryd.func28, Tryd.ntmps28
  go_wp2
  go_returns
  exact ⟨rfl, (Below.refl _ _).alloc (Nat.le_refl _) _⟩

theorem all_take_succ {p : UInt8 → Bool} (s : ByteArray) (k : Nat) (h : k < s.size) : (s.data.toList.take (k + 1)).all p = ((s.data.toList.take k).all p && p s[k]) := by
  rw [List.take_succ_eq_append_getElem (by simpa using h)]; simp; rfl
theorem all_stop {p : UInt8 → Bool} (s : ByteArray) (k : Nat) (h : k < s.size) (hp : p s[k] = false) : s.data.toList.all p = false := by
  rw [List.all_eq_false]; exact ⟨s[k], List.getElem_mem (by simpa using h), by simp [hp]⟩

/-- all bytes are of a class. -/
def allB (p : UInt8 → Bool) (l : List UInt8) : Bool := l.all p
/-- all bytes of a text are of a class. -/
theorem all_of (f : Nat) (p : UInt8 → Bool) (hf : ∀ (c : UInt8) w, Calls Tryd.prog f #[.int .u8 c.toNat] w fun e w' => e = .returned (.bool (p c)) ∧ Below w.heap.size w w')
    (he : ∀ args w, (callFunc f args).run Tryd.prog w = .ok (.enter f args) w) (s : ByteArray) (hs : s.size ≤ maxLen) (w : World) :
    Calls Tryd.prog 27 #[.agg #[.string s], .func (.func f) #[] #[]] w fun e w' => e = .returned (.bool (allB p s.data.toList)) ∧ Below w.heap.size w w' := by
  unfold maxLen at hs
  go_enter Tryd.func27, Tryd.ntmps27
  go_wp2
  go_loopw [9] (fun i wr => ∃ k : Nat, k ≤ s.size ∧ i = .int .i64 k ∧ Below (w.heap.size + 1) (w.alloc (.cells #[.string s] 61)) wr ∧ (s.data.toList.take k).all p = true)
    (fun i _ => s.size - (intOf i).toNat)
  case atStart => exact ⟨0, by omega, rfl, Below.refl _ _, by simp⟩
  case round =>
    obtain ⟨k, hk, rfl, hb, ht⟩ := hrel
    have Ht := Lib.hid ht; clear ht
    have hcell : wr.cell? ⟨w.heap.size, 0, none⟩ = some (.string s) := cell_of_new hb 0
    have hsz := hb.size; simp at hsz
    by_cases hlt : k < s.size
    · cases hp : p (s[k]'hlt)
      · have Hp := Lib.hid hp; clear hp
        go_wp2_with (refine (hf _ _).mono ?_; rintro e w' ⟨rfl, hb1⟩; rw [Hp.out])
        go_ret
        exact ⟨ret_bool (all_stop s k hlt Hp.out).symm, (belowA hb).trans (hb1.mono (by omega))⟩
      · have Hp := Lib.hid hp; clear hp
        go_wp2_with (refine (hf _ _).mono ?_; rintro e w' ⟨rfl, hb1⟩; rw [Hp.out])
        go_roundw
        case rel => exact ⟨k + 1, by omega, by go_num, hb.trans (hb1.mono (by omega)), by rw [all_take_succ s k hlt, Ht.out, Hp.out]; rfl⟩
        case measure => simp [intOf]; omega
    · go_wp2
      go_ret
      refine ⟨ret_bool ?_, belowA hb⟩
      have hk : k = s.data.toList.length := by simp; omega
      have := Ht.out; rw [hk, List.take_length] at this; exact this.symm

theorem enters1 : ∀ args w, (callFunc 39 args).run Tryd.prog w = .ok (.enter 39 args) w := enters_of Tryd.func39 (by kernel_rfl) rfl
theorem enters2 : ∀ args w, (callFunc 41 args).run Tryd.prog w = .ok (.enter 41 args) w := enters_of Tryd.func41 (by kernel_rfl) rfl

theorem all1_any (s : ByteArray) (hs : s.size ≤ maxLen) (w : World) :
    Calls Tryd.prog 27 #[.agg #[.string s], .func (.func 39) #[] #[]] w fun e w' => e = .returned (.bool (allB tokB s.data.toList)) ∧ Below w.heap.size w w' :=
  all_of _ tokB class1_any enters1 s hs w
theorem all2_any (s : ByteArray) (hs : s.size ≤ maxLen) (w : World) :
    Calls Tryd.prog 27 #[.agg #[.string s], .func (.func 41) #[] #[]] w fun e w' => e = .returned (.bool (allB valB s.data.toList)) ∧ Below w.heap.size w w' :=
  all_of _ valB (fun c w => (class2_any c w).mono fun e w' ⟨h, k⟩ => ⟨h, k ▸ Below.refl _ _⟩) enters2 s hs w

/-- is it a token? -/
def tokenS (s : List UInt8) : Bool := !s.isEmpty && allB tokB s

theorem empty_of (s : ByteArray) : s.toList.isEmpty = s.data.toList.isEmpty := by rw [ByteArray.toList_eq]

theorem idx0 : ∀ w, (Instr.index 65 (.agg #[.func (.func 39) #[] #[], .func (.func 41) #[] #[]]) (.int .i64 0)).run Tryd.prog w = .ok (.func (.func 39) #[] #[]) w := fun _ => by kernel_rfl
theorem idx1 : ∀ w, (Instr.index 65 (.agg #[.func (.func 39) #[] #[], .func (.func 41) #[] #[]]) (.int .i64 1)).run Tryd.prog w = .ok (.func (.func 41) #[] #[]) w := fun _ => by kernel_rfl

set_option maxRecDepth 100000 in
set_option maxHeartbeats 400000 in
theorem token_any (s : ByteArray) (hs : s.size ≤ maxLen) (w : World) :
    Calls Tryd.prog 33 #[.string s] w fun e w' => e = .returned (.bool (tokenS s.data.toList)) ∧ Below w.heap.size w w' := by
  have hidx := idx0
  cases he : s.data.toList.isEmpty
  · have he' := (empty_of s).trans he; have He := Lib.hid he; clear he
    go_enter Tryd.func33, Tryd.ntmps33
    go_wp2_with (first
      | (go_at_call 28; refine (classes_any _).mono ?_; rintro e w1 ⟨rfl, hb1⟩)
      | (go_at_call 27; refine (all1_any _ hs _).mono ?_; rintro e w2 ⟨rfl, hb2⟩))
    go_ret
    exact ⟨ret_bool (by rw [tokenS, He.out]; simp), hb1.trans (hb2.mono hb1.size)⟩
  · have he' := (empty_of s).trans he; have He := Lib.hid he; clear he
    go_enter Tryd.func33, Tryd.ntmps33
    go_wp2_with fail
    go_ret
    exact ⟨ret_bool (by rw [tokenS, He.out]; simp), Below.refl _ _⟩

/-- without the blanks at both ends. -/
def trimS (l : List UInt8) : List UInt8 := Lib.trimS l [32, 9]

set_option maxRecDepth 100000 in
set_option maxHeartbeats 400000 in
theorem trim_any (s : ByteArray) (hs : s.size ≤ maxLen) (w : World) :
    Calls Tryd.prog 26 #[.string s] w fun e w' => e = .returned (.string ⟨(trimS s.data.toList).toArray⟩) ∧ Below w.heap.size w w' := by
  go_enter Tryd.func26, Tryd.ntmps26
  go_wp2_with (go_at_call 38; refine (Any.strings_Trim_laid Tryd.lays160 (by kernel_rfl) s ⟨#[32, 9]⟩ _ hs (by decide) (ascii_of_all (by decide))).mono ?_; rintro e w1 ⟨rfl, hb1⟩)
  go_ret
  exact ⟨rfl, hb1⟩

/-- is it a value? -/
def valueS (l : List UInt8) : Bool := decide (trimS l = l) && allB valB l

set_option maxRecDepth 100000 in
set_option maxHeartbeats 400000 in
theorem value_any (s : ByteArray) (hs : s.size ≤ maxLen) (w : World) :
    Calls Tryd.prog 22 #[.string s] w fun e w' => e = .returned (.bool (valueS s.data.toList)) ∧ Below w.heap.size w w' := by
  have hidx := idx1
  by_cases he : trimS s.data.toList = s.data.toList
  · have he' : (trimS s.data.toList == s.toList) = true := by rw [ByteArray.toList_eq, he]; simp
    have He := Lib.hid he; clear he
    go_enter Tryd.func22, Tryd.ntmps22
    go_wp2_with (first
      | (go_at_call 26; refine (trim_any _ hs _).mono ?_; rintro e w0 ⟨rfl, hb0⟩)
      | (go_at_call 28; refine (classes_any _).mono ?_; rintro e w1 ⟨rfl, hb1⟩)
      | (go_at_call 27; refine (all2_any _ hs _).mono ?_; rintro e w2 ⟨rfl, hb2⟩))
    go_ret
    exact ⟨ret_bool (by rw [valueS, decide_eq_true He.out]; simp), hb0.trans ((hb1.mono hb0.size).trans (hb2.mono (Nat.le_trans hb0.size hb1.size)))⟩
  · have he' : (trimS s.data.toList == s.toList) = false := by rw [ByteArray.toList_eq]; simpa using he
    have He := Lib.hid he; clear he
    go_enter Tryd.func22, Tryd.ntmps22
    go_wp2_with (go_at_call 26; refine (trim_any _ hs _).mono ?_; rintro e w0 ⟨rfl, hb0⟩)
    go_ret
    exact ⟨ret_bool (by rw [valueS, decide_eq_false He.out]; simp), hb0⟩

/-- in small letters. -/
def lowB (c : UInt8) : UInt8 := if 65 ≤ c && c ≤ 90 then c + 32 else c
def lowS (l : List UInt8) : List UInt8 := l.map lowB
theorem lowS_length (l : List UInt8) : (lowS l).length = l.length := by simp [lowS]

end Go.Proofs.YtnlkmiieebahoaaDoor
