/- The plain law of AcceptHolds, second part: what was read is shut; qualities (conditions: none). No program in sight. -/
import Derived.Test.YtnlkmiieebahoaaDoorPlain12
set_option linter.unusedVariables false
set_option linter.unusedSimpArgs false
namespace Go.Proofs.YtnlkmiieebahoaaDoor
open Go.RowKit

theorem tok_ne {x : UInt8} (h : tokB x = true) : x ≠ 34 := by rintro rfl; revert h; decide
theorem tok_all {l : List UInt8} (h : tokenS l = true) : ∀ x ∈ l, x ≠ 34 := by
  unfold tokenS allB at h
  simp only [Bool.and_eq_true] at h
  intro x hx
  exact tok_ne (List.all_eq_true.1 h.2 x hx)
theorem low_ne {x : UInt8} (h : lowB x ≠ 34) : x ≠ 34 := by rintro rfl; revert h; decide
theorem low_all {l : List UInt8} (h : ∀ x ∈ lowS l, x ≠ 34) : ∀ x ∈ l, x ≠ 34 := fun x hx => low_ne (h _ (by unfold lowS; exact List.mem_map_of_mem hx))
theorem trim_all {l : List UInt8} (h : ∀ x ∈ trimS l, x ≠ 34) : ∀ x ∈ l, x ≠ 34 := by
  obtain ⟨a, b, h1, h2, h3⟩ := trim_parts l
  intro x hx
  rw [h1] at hx
  rcases List.mem_append.1 hx with hx | hx
  · rcases List.mem_append.1 hx with hx | hx
    · exact blk_ne (h2 x hx)
    · exact h x hx
  · exact blk_ne (h3 x hx)

theorem qGo_shut : ∀ (l : List UInt8) (h : Bool) (acc t : List UInt8), qGo h acc l = some t → qst true h l = (false, false) := by
  intro l
  induction l with
  | nil => intro h acc t e; simp [qGo] at e
  | cons c l ih =>
    intro h acc t e
    rw [qGo] at e
    rw [qst]
    split at e
    · rename_i hc
      simp only [Bool.and_eq_true, Bool.not_eq_true', beq_iff_eq] at hc
      obtain ⟨rfl, rfl⟩ := hc
      split at e
      · rename_i hl
        have : l = [] := by simpa using hl
        subst this
        rfl
      · cases e
    · split at e
      · rename_i hc
        simp only [Bool.and_eq_true, Bool.not_eq_true', beq_iff_eq] at hc
        obtain ⟨rfl, rfl⟩ := hc
        exact ih true acc t e
      · rename_i h1 h2
        have ho : (openQ true h c).2 = (true, false) := by
          unfold openQ
          cases h with
          | true => rfl
          | false =>
            simp at h1 h2
            simp [h1, h2]
        rw [show (openQ true h c).2.1 = true by rw [ho], show (openQ true h c).2.2 = false by rw [ho]]
        exact ih false _ t e
theorem quoted_shut {l t : List UInt8} (h : quotedS l = some t) : Shut l := by
  cases l with
  | nil => cases h
  | cons c l =>
    rw [quotedS] at h
    split at h
    · rename_i hc
      simp only [Bool.and_eq_true, beq_iff_eq] at hc
      obtain ⟨rfl, _⟩ := hc
      unfold Shut
      rw [qst]
      exact qGo_shut l false [] t h
    · cases h
theorem indexByte_at (c : UInt8) : ∀ (l : List UInt8) (o : Nat), Lib.indexByte l c = o → l[o]? = some c := by
  intro l
  induction l with
  | nil => intro o h; rw [Lib.indexByte] at h; omega
  | cons a l ih =>
    intro o h
    rw [Lib.indexByte] at h
    split at h
    · rename_i hc
      have : o = 0 := by omega
      subst this
      simp at hc ⊢; exact hc
    · split at h
      · omega
      · rename_i h1 h2
        have h3 : Lib.indexByte l c ≠ -1 := by simpa using h2
        have h4 := (indexByte_lt c l).2
        obtain ⟨k, rfl⟩ : ∃ k, o = k + 1 := ⟨o - 1, by omega⟩
        rw [List.getElem?_cons_succ]
        exact ih k (by simp at h; omega)
theorem cut1_parts (c : UInt8) (l : List UInt8) : ((cut1 c l).2.2 = true ∧ l = (cut1 c l).1 ++ c :: (cut1 c l).2.1) ∨ ((cut1 c l).2.2 = false ∧ (cut1 c l).1 = l) := by
  unfold cut1
  split
  · rename_i h
    left
    refine ⟨rfl, ?_⟩
    obtain ⟨o, ho⟩ : ∃ o : Nat, Lib.indexByte l c = o := ⟨(Lib.indexByte l c).toNat, by omega⟩
    have hsp := (indexByte_at c l o ho)
    rw [ho]
    show l = l.take o ++ c :: l.drop (o + 1)
    obtain ⟨hlt, he⟩ := List.getElem?_eq_some_iff.1 hsp
    rw [← he, ← List.drop_eq_getElem_cons hlt, List.take_append_drop]
  · exact .inr ⟨rfl, rfl⟩
theorem param_shut {p : List UInt8} {nv : List UInt8 × List UInt8} (h : paramS p = some nv) : Shut p := by
  unfold paramS at h
  split at h
  · rename_i ht
    have hn : ∀ x ∈ (cut1 61 p).1, x ≠ 34 := trim_all (low_all (tok_all ht))
    rcases cut1_parts 61 p with ⟨hf, hp⟩ | ⟨hf, hp⟩
    · rw [hp]
      refine Shut.append (shut_plain _ hn) ?_
      refine Shut.append (a := [61]) (shut_one 61 (by decide)) ?_
      split at h
      · rename_i hv
        cases hq : quotedS (trimS (cut1 61 p).2.1) with
        | none => rw [hq] at h; cases h
        | some t => exact shut_of_trim (quoted_shut hq)
      · rename_i hv
        rw [hf] at hv
        simp at hv
        exact shut_plain _ (trim_all (tok_all hv))
    · rw [hp] at hn; exact shut_plain _ hn
  · cases h
theorem take_shut {st st' : Tk} {p : List UInt8} (h : takeS st p = some st') : Shut p := by
  unfold takeS at h
  split at h
  · rename_i hp; subst hp; exact shut_nil
  · cases hp : paramS p with
    | none => rw [hp] at h; cases h
    | some nv => exact param_shut hp
theorem takes_shut : ∀ (l : List (List UInt8)) (st st' : Tk), takesS st l = some st' → ∀ p ∈ l, Shut p := by
  intro l
  induction l with
  | nil => intro st st' _ p hp; cases hp
  | cons a l ih =>
    intro st st' h p hp
    rw [takesS] at h
    cases hk : takeS st a with
    | none => rw [hk] at h; cases h
    | some s1 =>
      rw [hk] at h
      rcases List.mem_cons.1 hp with rfl | hp
      · exact take_shut hk
      · exact ih s1 st' h p hp
theorem head_shut {h : List UInt8} {k : List UInt8 × List UInt8} (hh : headS h = some k) : Shut h := by
  unfold headS at hh
  split at hh
  · rename_i hc
    simp only [Bool.and_eq_true] at hc
    obtain ⟨⟨⟨hf, h1⟩, h2⟩, _⟩ := hc
    refine shut_plain _ (low_all ?_)
    rcases cut1_parts 47 (lowS h) with ⟨_, hp⟩ | ⟨hn, _⟩
    · intro x hx
      rw [hp] at hx
      rcases List.mem_append.1 hx with hx | hx
      · exact tok_all h1 x hx
      · rcases List.mem_cons.1 hx with rfl | hx
        · decide
        · exact tok_all h2 x hx
    · rw [hn] at hf; cases hf
  · cases hh
theorem one_shut {p : List UInt8} {r : Rg} (hr : RT p) (h : oneS p = some r) : Shut p := by
  refine shut_of_pieces 59 (by decide) _ p (Nat.le_refl _) hr ?_
  unfold oneS at h
  cases he : eachS 59 p with
  | nil => exact absurd he (eachS_ne _ _)
  | cons a ps =>
    rw [he] at h
    dsimp only at h
    cases hh : headS a with
    | none => rw [hh] at h; cases h
    | some ku =>
      rw [hh] at h
      dsimp only at h
      cases ht : takesS ⟨0, 1000, false⟩ ps with
      | none => rw [ht] at h; cases h
      | some st =>
        intro x hx
        rcases List.mem_cons.1 hx with rfl | hx
        · exact head_shut hh
        · exact takes_shut ps _ st ht x hx
/-- pieces are trimmed. -/
theorem eachF_RT (c : UInt8) : ∀ (n : Nat) (l : List UInt8), ∀ x ∈ eachF c n l, RT x := by
  intro n
  induction n with
  | zero => intro l x h; simp [eachF] at h
  | succ n ih =>
    intro l x h
    rw [eachF] at h
    rcases List.mem_cons.1 h with rfl | h
    · unfold cutS; split <;> exact RT_trim _
    · split at h
      · exact ih _ x h
      · cases h
theorem readGo_shut : ∀ (xs : List (List UInt8)) (l : List Rg), (∀ x ∈ xs, RT x) → readGo xs = some l → ∀ x ∈ xs, Shut x := by
  intro xs
  induction xs with
  | nil => intro l _ _ x hx; cases hx
  | cons p xs ih =>
    intro l hr h x hx
    rw [readGo] at h
    split at h
    · rename_i hp
      rcases List.mem_cons.1 hx with rfl | hx
      · have : x = [] := by simpa using hp
        subst this; exact shut_nil
      · exact ih l (fun y hy => hr y (by simp [hy])) h x hx
    · cases ho : oneS p with
      | none => rw [ho] at h; cases h
      | some r =>
        rw [ho] at h
        dsimp only at h
        cases hg : readGo xs with
        | none => rw [hg] at h; cases h
        | some l' =>
          rcases List.mem_cons.1 hx with rfl | hx
          · exact one_shut (hr _ (by simp)) ho
          · exact ih l' (fun y hy => hr y (by simp [hy])) hg x hx
theorem value_ends {s : List UInt8} (h : valueS s = true) : LT s ∧ RT s ∧ allB valB s = true := by
  unfold valueS at h
  simp only [Bool.and_eq_true, decide_eq_true_eq] at h
  exact ⟨by rw [← h.1]; exact LT_trim s, by rw [← h.1]; exact RT_trim s, h.2⟩
theorem read_shut {s : List UInt8} {l : List Rg} (h : readS s = some l) : Shut s := by
  unfold readS at h
  split at h
  · rename_i hv
    obtain ⟨_, h2, _⟩ := value_ends hv
    exact shut_of_pieces 44 (by decide) _ s (Nat.le_refl _) h2 (readGo_shut _ l (eachF_RT 44 _ s) h)
  · cases h

def moreX : List UInt8 := [42, 47, 42, 59, 113, 61, 48, 46, 49]
def moreR : Rg := ⟨[42], [42], 0, 100⟩
theorem more_one : readGo [moreX] = some [moreR] := by
  have h : oneS moreX = some moreR := by
    have h1 : (oneS moreX).map (fun r => (r.kind, r.sub, r.params, r.quality)) = some ([42], [42], 0, 100) := by decide +kernel
    cases ho : oneS moreX with
    | none => rw [ho] at h1; cases h1
    | some r =>
      rw [ho] at h1
      simp only [Option.map_some, Option.some.injEq, Prod.mk.injEq] at h1
      obtain ⟨a, b, c, d⟩ := r
      obtain ⟨rfl, rfl, rfl, rfl⟩ := h1
      rfl
  rw [readGo, if_neg (by decide), h]
  rfl
/-- **a range more.** -/
theorem read_more {s : List UInt8} {l : List Rg} (h : readS s = some l) : readS (s ++ 44 :: moreX) = some (l ++ [moreR]) := by
  have hs := read_shut h
  unfold readS at h
  split at h
  · rename_i hv
    obtain ⟨h1, h2, h3⟩ := value_ends hv
    have e1 := each_more 44 (by decide) (by decide) moreX (by intro x hx; simp [moreX] at hx; subst hx; decide) (by intro x hx; simp [moreX] at hx; subst hx; decide) (by decide) _ s (Nat.le_refl _) h2 hs
    have e2 : eachS 44 moreX = [moreX] := by decide +kernel
    have hval : valueS (s ++ 44 :: moreX) = true := by
      unfold valueS
      simp only [Bool.and_eq_true, decide_eq_true_eq]
      constructor
      · refine trimS_id ?_ ?_
        · intro x hx
          cases s with
          | nil => simp at hx; subst hx; decide
          | cons a s => exact h1 x hx
        · intro x hx
          rw [List.getLast?_append] at hx
          simp [moreX] at hx
          subst hx; decide
      · unfold allB at h3 ⊢
        rw [List.all_append, h3]
        decide
    unfold readS
    rw [if_pos hval, e1, e2, readGo_append, h]
    dsimp only
    rw [more_one]
    rfl
  · cases h

/-! ### QUALITIES -/
theorem digN_le (l : List UInt8) (hl : l.length = 3) (h : l.all digB = true) : digN l ≤ 999 := by
  match l, hl with
  | [a, b, c], _ =>
    simp only [List.all_cons, List.all_nil, Bool.and_true, Bool.and_eq_true] at h
    have hd : ∀ x : UInt8, digB x = true → x.toNat - 48 ≤ 9 := fun x hx => by
      unfold digB at hx
      simp only [Bool.and_eq_true, decide_eq_true_eq] at hx
      have := UInt8.le_iff_toNat_le.1 hx.2
      simp at this; omega
    have h1 := hd a h.1
    have h2 := hd b h.2.1
    have h3 := hd c h.2.2
    simp only [digN, List.foldl]
    omega
theorem thou_le {l : List UInt8} {n : Nat} (h : thouS l = some n) : n ≤ 1000 := by
  unfold thouS at h
  split at h
  · rename_i hc
    split at h
    · rename_i hd
      split at h
      · split at h
        · cases h; omega
        · cases h
      · cases h
        have := digN_le _ (by simp; omega) hd
        omega
    · cases h
  · cases h
theorem take_le {st st' : Tk} {p : List UInt8} (hq : st.quality ≤ 1000) (h : takeS st p = some st') : st'.quality ≤ 1000 := by
  unfold takeS at h
  split at h
  · cases h; exact hq
  · split at h
    · cases h
    · split at h
      · cases h; exact hq
      · split at h
        · simp only [Option.map_eq_some_iff] at h
          obtain ⟨n, hn, rfl⟩ := h
          exact thou_le hn
        · cases h; exact hq
theorem takes_le : ∀ (l : List (List UInt8)) (st st' : Tk), st.quality ≤ 1000 → takesS st l = some st' → st'.quality ≤ 1000 := by
  intro l
  induction l with
  | nil => intro st st' hq h; cases h; exact hq
  | cons a l ih =>
    intro st st' hq h
    rw [takesS] at h
    cases hk : takeS st a with
    | none => rw [hk] at h; cases h
    | some s1 => rw [hk] at h; exact ih s1 st' (take_le hq hk) h
theorem one_le {p : List UInt8} {r : Rg} (h : oneS p = some r) : r.quality ≤ 1000 := by
  unfold oneS at h
  split at h
  · cases h
  · split at h
    · cases h
    · simp only [Option.map_eq_some_iff] at h
      obtain ⟨t, ht, rfl⟩ := h
      exact takes_le _ _ t (Nat.le_refl _) ht
theorem readGo_le : ∀ (xs : List (List UInt8)) (l : List Rg), readGo xs = some l → ∀ r ∈ l, r.quality ≤ 1000 := by
  intro xs
  induction xs with
  | nil => intro l h r hr; cases h; cases hr
  | cons p xs ih =>
    intro l h r hr
    rw [readGo] at h
    split at h
    · exact ih l h r hr
    · cases ho : oneS p with
      | none => rw [ho] at h; cases h
      | some r0 =>
        rw [ho] at h
        simp only [Option.map_eq_some_iff] at h
        obtain ⟨l', hl', rfl⟩ := h
        rcases List.mem_cons.1 hr with rfl | hr
        · exact one_le ho
        · exact ih l' hl' r hr
theorem read_le {s : List UInt8} {l : List Rg} (h : readS s = some l) : ∀ r ∈ l, r.quality ≤ 1000 := by
  unfold readS at h
  split at h
  · exact readGo_le _ l h
  · cases h
end Go.Proofs.YtnlkmiieebahoaaDoor
