/- The plain law of AcceptHolds: a list with one range more; qualities (conditions: none). No program in sight. -/
import Derived.Test.YtnlkmiieebahoaaDoorAcc7
set_option linter.unusedVariables false
set_option linter.unusedSimpArgs false
namespace Go.Proofs.YtnlkmiieebahoaaDoor
open Go.RowKit

def blk (x : UInt8) : Bool := [32, 9].contains x
/-- the first | the last byte is no blank. -/
def LT (l : List UInt8) : Prop := ∀ x, l.head? = some x → blk x = false
def RT (l : List UInt8) : Prop := ∀ x, l.getLast? = some x → blk x = false
theorem trimS_eq (l : List UInt8) : trimS l = ((l.reverse.dropWhile blk).reverse).dropWhile blk := rfl
theorem dropWhile_LT (l : List UInt8) : LT (l.dropWhile blk) := by
  intro x h
  induction l with
  | nil => cases h
  | cons a l ih =>
    rw [List.dropWhile_cons] at h
    split at h
    · exact ih h
    · rename_i ha; simp at h; subst h; simpa using ha
theorem dropWhile_of_LT {l : List UInt8} (h : LT l) : l.dropWhile blk = l := by
  cases l with
  | nil => rfl
  | cons a l => rw [List.dropWhile_cons, if_neg (by rw [h a rfl]; simp)]
theorem dropWhile_suffix (l : List UInt8) : ∃ b, l = b ++ l.dropWhile blk ∧ ∀ x ∈ b, blk x = true := by
  induction l with
  | nil => exact ⟨[], rfl, by simp⟩
  | cons a l ih =>
    rw [List.dropWhile_cons]
    split
    · rename_i ha
      obtain ⟨b, h1, h2⟩ := ih
      refine ⟨a :: b, by rw [List.cons_append, ← h1], ?_⟩
      intro x hx
      rcases List.mem_cons.1 hx with rfl | hx
      · exact ha
      · exact h2 x hx
    · exact ⟨[], rfl, by simp⟩
theorem RT_suffix {a b : List UInt8} (h : RT (a ++ b)) : RT b := by
  intro x hx
  refine h x ?_
  rw [List.getLast?_append, hx]; rfl
theorem RT_iff (l : List UInt8) : RT l ↔ LT l.reverse := by
  unfold RT LT; rw [List.head?_reverse]
theorem trimRight_of_RT {l : List UInt8} (h : RT l) : (l.reverse.dropWhile blk).reverse = l := by
  rw [dropWhile_of_LT ((RT_iff l).1 h), List.reverse_reverse]
theorem trimS_of_RT {l : List UInt8} (h : RT l) : trimS l = l.dropWhile blk := by rw [trimS_eq, trimRight_of_RT h]
theorem RT_dropWhile {l : List UInt8} (h : RT l) : RT (l.dropWhile blk) := by
  obtain ⟨b, h1, _⟩ := dropWhile_suffix l
  rw [h1] at h; exact RT_suffix h
theorem RT_trim (l : List UInt8) : RT (trimS l) := by
  rw [trimS_eq]
  refine RT_dropWhile ?_
  rw [RT_iff, List.reverse_reverse]
  exact dropWhile_LT _
theorem LT_trim (l : List UInt8) : LT (trimS l) := by rw [trimS_eq]; exact dropWhile_LT _
theorem trimS_id {l : List UInt8} (h1 : LT l) (h2 : RT l) : trimS l = l := by rw [trimS_of_RT h2, dropWhile_of_LT h1]
theorem trim_parts (l : List UInt8) : ∃ a b, l = a ++ trimS l ++ b ∧ (∀ x ∈ a, blk x = true) ∧ ∀ x ∈ b, blk x = true := by
  obtain ⟨b, h1, h2⟩ := dropWhile_suffix l.reverse
  obtain ⟨a, h3, h4⟩ := dropWhile_suffix ((l.reverse.dropWhile blk).reverse)
  refine ⟨a, b.reverse, ?_, h4, fun x hx => h2 x (by simpa using hx)⟩
  have h5 : l = (l.reverse.dropWhile blk).reverse ++ b.reverse := by
    have := congrArg List.reverse h1
    rw [List.reverse_reverse, List.reverse_append] at this
    exact this
  rw [trimS_eq, ← h3]
  exact h5

/-! ### QUOTES -/
def qst : Bool → Bool → List UInt8 → Bool × Bool
  | q, h, [] => (q, h)
  | q, h, c :: l => qst (openQ q h c).2.1 (openQ q h c).2.2 l
def Shut (l : List UInt8) : Prop := qst false false l = (false, false)
theorem qst_append (a b : List UInt8) : ∀ q h, qst q h (a ++ b) = qst (qst q h a).1 (qst q h a).2 b := by
  induction a with
  | nil => intro q h; rfl
  | cons c a ih => intro q h; rw [List.cons_append, qst, qst, ih]
theorem Shut.append {a b : List UInt8} (ha : Shut a) (hb : Shut b) : Shut (a ++ b) := by
  unfold Shut at *; rw [qst_append, ha]; exact hb
theorem Shut.rest {a b : List UInt8} (ha : Shut a) (hb : Shut (a ++ b)) : Shut b := by
  unfold Shut at *; rw [qst_append, ha] at hb; exact hb
theorem shut_nil : Shut [] := rfl
theorem shut_one (c : UInt8) (h : c ≠ 34) : Shut [c] := by
  unfold Shut; rw [qst, qst]
  have hc : (c == 34) = false := by simpa using h
  simp [openQ, hc]
theorem shut_plain : ∀ (l : List UInt8), (∀ x ∈ l, x ≠ 34) → Shut l := by
  intro l
  induction l with
  | nil => intro _; exact shut_nil
  | cons c l ih => intro h; exact Shut.append (shut_one c (h c (by simp))) (ih (fun x hx => h x (by simp [hx])))
theorem blk_ne {x : UInt8} (h : blk x = true) : x ≠ 34 := by rintro rfl; revert h; decide
theorem shut_blanks (l : List UInt8) (h : ∀ x ∈ l, blk x = true) : Shut l := shut_plain l (fun x hx => blk_ne (h x hx))
theorem shut_of_trim {l : List UInt8} (h : Shut (trimS l)) : Shut l := by
  obtain ⟨a, b, h1, h2, h3⟩ := trim_parts l
  rw [h1]
  exact ((shut_blanks a h2).append h).append (shut_blanks b h3)
theorem shut_of_drop {l : List UInt8} (h : Shut (l.dropWhile blk)) : Shut l := by
  obtain ⟨b, h1, h2⟩ := dropWhile_suffix l
  rw [h1]; exact (shut_blanks b h2).append h
theorem shut_drop {l : List UInt8} (h : Shut l) : Shut (l.dropWhile blk) := by
  obtain ⟨b, h1, h2⟩ := dropWhile_suffix l
  rw [h1] at h; exact (shut_blanks b h2).rest h

/-! ### CUTS -/
theorem cutAt_none (c : UInt8) (b : List UInt8) : ∀ (a : List UInt8) (q h : Bool), cutAt c q h a = none → cutAt c q h (a ++ b) = (cutAt c (qst q h a).1 (qst q h a).2 b).map (· + a.length) := by
  intro a
  induction a with
  | nil => intro q h _; simp [qst]
  | cons x a ih =>
    intro q h hn
    rw [cutAt] at hn
    split at hn
    · cases hn
    · rename_i hc
      have hn' : cutAt c (openQ q h x).2.1 (openQ q h x).2.2 a = none := by simpa using hn
      rw [List.cons_append, cutAt, if_neg hc, ih _ _ hn', qst, Option.map_map]
      congr 1
theorem cutAt_some (c : UInt8) (b : List UInt8) : ∀ (a : List UInt8) (q h : Bool) (i : Nat), cutAt c q h a = some i → cutAt c q h (a ++ b) = some i := by
  intro a
  induction a with
  | nil => intro q h i hn; cases hn
  | cons x a ih =>
    intro q h i hn
    rw [cutAt] at hn
    rw [List.cons_append, cutAt]
    split at hn
    · rename_i hc; rw [if_pos hc]; exact hn
    · rename_i hc
      rw [if_neg hc]
      simp only [Option.map_eq_some_iff] at hn ⊢
      obtain ⟨j, hj, rfl⟩ := hn
      exact ⟨j, ih _ _ _ hj, rfl⟩
/-- a cut stands outside quotes. -/
theorem cutAt_shut (c : UInt8) (hc34 : c ≠ 34) : ∀ (a : List UInt8) (q h : Bool) (i : Nat), (q = false → h = false) → cutAt c q h a = some i → qst q h (a.take (i + 1)) = (false, false) ∧ a[i]? = some c := by
  intro a
  induction a with
  | nil => intro q h i _ hn; cases hn
  | cons x a ih =>
    intro q h i hqh hn
    rw [cutAt] at hn
    split at hn
    · rename_i hc
      cases hn
      simp only [Bool.and_eq_true, Bool.not_eq_true', beq_iff_eq] at hc
      obtain ⟨hq, rfl⟩ := hc
      subst hq
      have hh := hqh rfl
      subst hh
      have hx : (x == 34) = false := by simpa using hc34
      exact ⟨by simp [qst, openQ, hx], rfl⟩
    · simp only [Option.map_eq_some_iff] at hn
      obtain ⟨j, hj, rfl⟩ := hn
      rw [List.take_succ_cons, qst]
      refine ih _ _ _ ?_ hj
      intro hq
      unfold openQ at hq ⊢
      split
      · rfl
      · split
        · rename_i h1 h2
          simp only [h1, h2, if_true, if_false, Bool.false_eq_true] at hq
          simp at h2
          rw [h2.1] at hq; cases hq
        · split <;> rfl
theorem drop_RT {l : List UInt8} (h : RT l) (n : Nat) : RT (l.drop n) := by
  rw [← List.take_append_drop n l] at h; exact RT_suffix h

/-- the pieces' quotes are shut: the whole's are. -/
theorem shut_of_pieces (c : UInt8) (hc34 : c ≠ 34) : ∀ (n : Nat) (s : List UInt8), s.length ≤ n → RT s → (∀ x ∈ eachS c s, Shut x) → Shut s := by
  intro n
  induction n with
  | zero => intro s hl _ _; have : s = [] := List.eq_nil_of_length_eq_zero (by omega); subst this; exact shut_nil
  | succ n ih =>
    intro s hl hr hp
    cases hf : (cutS c s).2.2 with
    | false =>
      rw [eachS_last c s hf] at hp
      have h1 := hp _ (List.mem_singleton.2 rfl)
      have h2 : (cutS c s).1 = trimS s := by
        unfold cutS at hf ⊢
        split
        · rfl
        · rename_i i hi; rw [hi] at hf; cases hf
      rw [h2] at h1
      exact shut_of_trim h1
    | true =>
      rw [eachS_more c s hf] at hp
      obtain ⟨i, hi⟩ : ∃ i, cutAt c false false s = some i := by
        unfold cutS at hf
        cases h : cutAt c false false s with
        | none => rw [h] at hf; cases hf
        | some i => exact ⟨i, rfl⟩
      have h2 : (cutS c s).2.1 = trimS (s.drop (i + 1)) := by unfold cutS; rw [hi]
      rw [h2] at hp
      have hs := (cutAt_shut c hc34 s false false i (fun _ => rfl) hi).1
      have hlt := cutAt_lt c s false false i hi
      have hle := trimS_le (s.drop (i + 1))
      have h3 := ih (trimS (s.drop (i + 1))) (by simp at hle; omega) (RT_trim _) (fun x hx => hp x (by simp [hx]))
      rw [← List.take_append_drop (i + 1) s]
      exact Shut.append hs (shut_of_trim h3)

/-- a list with one piece more. -/
theorem each_more (c : UInt8) (hc34 : c ≠ 34) (hcb : blk c = false) (r : List UInt8) (hr1 : LT r) (hr2 : RT r) (hrn : r ≠ []) :
    ∀ (n : Nat) (s : List UInt8), s.length ≤ n → RT s → Shut s → eachS c (s ++ c :: r) = eachS c s ++ eachS c r := by
  intro n
  have hcr : RT (c :: r) := by
    intro x hx
    refine hr2 x ?_
    rw [List.getLast?_cons] at hx
    cases h : r.getLast? with
    | none => exact absurd (List.getLast?_eq_none_iff.1 h) hrn
    | some y => rw [h] at hx; simpa using hx
  have hrt : trimS r = r := trimS_id hr1 hr2
  have happ : ∀ d : List UInt8, RT (d ++ c :: r) := fun d x hx => by
    rw [List.getLast?_append] at hx
    cases h : (c :: r).getLast? with
    | none => simp at h
    | some y => rw [h] at hx; exact hcr x (by rw [h]; simpa using hx)
  induction n with
  | zero =>
    intro s hl hr hs
    have : s = [] := List.eq_nil_of_length_eq_zero (by omega)
    subst this
    have h1 : cutAt c false false (c :: r) = some 0 := by rw [cutAt]; simp
    have h2 : cutS c (c :: r) = ([], r, true) := by unfold cutS; rw [h1]; show (trimS [], trimS r, true) = _; rw [hrt]; rfl
    rw [List.nil_append, eachS_more c _ (by rw [h2]), h2]
    rfl
  | succ n ih =>
    intro s hl hr hs
    cases hi : cutAt c false false s with
    | none =>
      have h1 : cutAt c false false (s ++ c :: r) = some s.length := by
        rw [cutAt_none c _ s _ _ hi, hs]
        show (cutAt c false false (c :: r)).map _ = _
        rw [cutAt]; simp
      have h2 : cutS c (s ++ c :: r) = (trimS s, r, true) := by
        unfold cutS; rw [h1]
        show (trimS ((s ++ c :: r).take s.length), trimS ((s ++ c :: r).drop (s.length + 1)), true) = _
        rw [List.take_left, show (s ++ c :: r).drop (s.length + 1) = r by rw [List.drop_append]; simp, hrt]
      have h3 : cutS c s = (trimS s, [], false) := by unfold cutS; rw [hi]
      rw [eachS_more c _ (by rw [h2]), h2, eachS_last c s (by rw [h3]), h3]
      rfl
    | some i =>
      have h1 := cutAt_some c (c :: r) s _ _ i hi
      have hlt := cutAt_lt c s false false i hi
      obtain ⟨hs1, _⟩ := cutAt_shut c hc34 s false false i (fun _ => rfl) hi
      have hsd : Shut (s.drop (i + 1)) := by
        have h4 := hs
        rw [← List.take_append_drop (i + 1) s] at h4
        exact Shut.rest hs1 h4
      have hrd := drop_RT hr (i + 1)
      have h5 : trimS (s.drop (i + 1)) = (s.drop (i + 1)).dropWhile blk := trimS_of_RT hrd
      have h6 : trimS (s.drop (i + 1) ++ c :: r) = (s.drop (i + 1)).dropWhile blk ++ c :: r := by
        rw [trimS_of_RT (happ _)]
        generalize s.drop (i + 1) = d
        induction d with
        | nil => rw [List.nil_append]; exact dropWhile_of_LT (fun x hx => by simp at hx; subst hx; exact hcb)
        | cons a d ihd =>
          rw [List.cons_append, List.dropWhile_cons, List.dropWhile_cons]
          split
          · exact ihd
          · rfl
      have h2 : cutS c (s ++ c :: r) = (trimS (s.take i), (s.drop (i + 1)).dropWhile blk ++ c :: r, true) := by
        unfold cutS; rw [h1]
        show (trimS ((s ++ c :: r).take i), trimS ((s ++ c :: r).drop (i + 1)), true) = _
        rw [List.take_append_of_le_length (by omega), List.drop_append_of_le_length (by omega), h6]
      have h3 : cutS c s = (trimS (s.take i), (s.drop (i + 1)).dropWhile blk, true) := by unfold cutS; rw [hi]; show (_, trimS (s.drop (i + 1)), true) = _; rw [h5]
      have hle : ((s.drop (i + 1)).dropWhile blk).length ≤ n := by
        rw [← h5]
        have := trimS_le (s.drop (i + 1))
        simp at this; omega
      rw [eachS_more c _ (by rw [h2]), h2, eachS_more c s (by rw [h3]), h3, List.cons_append]
      show _ :: eachS c _ = _
      rw [ih _ hle (RT_dropWhile hrd) (shut_drop hsd)]
end Go.Proofs.YtnlkmiieebahoaaDoor
