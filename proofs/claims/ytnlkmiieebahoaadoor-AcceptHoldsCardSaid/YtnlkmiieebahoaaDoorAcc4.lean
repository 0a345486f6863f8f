/- Contracts of package accept: a reader takes parameters (conditions: none). -/
import Derived.Test.YtnlkmiieebahoaaDoorAcc3
import Derived.Test.YtnlkmiieebahoaaDoorTok7
set_option linter.unusedVariables false
set_option linter.unusedSimpArgs false
namespace Go.Proofs.YtnlkmiieebahoaaDoor
open Go.RowKit

/-- a parameter: its name, its value. -/
def paramS (p : List UInt8) : Option (List UInt8 × List UInt8) :=
  if tokenS (lowS (trimS (cut1 61 p).1)) then
    (if (cut1 61 p).2.2 && !tokenS (trimS (cut1 61 p).2.1) then (quotedS (trimS (cut1 61 p).2.1)).map fun v => (lowS (trimS (cut1 61 p).1), v) else some (lowS (trimS (cut1 61 p).1), trimS (cut1 61 p).2.1))
  else none
/-- parameters: how many, the quality, whether one was told. -/
structure Tk where
  params : Nat
  quality : Nat
  seen : Bool
def takeS (st : Tk) (p : List UInt8) : Option Tk :=
  if p = [] then some st else
    match paramS p with
    | none => none
    | some (name, val) => if st.seen then some st else if name = [113] then (thouS val).map fun n => { st with quality := n, seen := true } else some { st with params := st.params + 1 }
def takesS (st : Tk) : List (List UInt8) → Option Tk
  | [] => some st
  | p :: l => match takeS st p with | none => none | some st' => takesS st' l

/-- the reader's block. -/
def accR (w : World) (B : Nat) (ty sub : ByteArray) (st : Tk) : Prop := w.heap[B]? = some (.cells #[.string ty, .string sub, .int .i64 st.params, .int .i64 st.quality, .bool st.seen] 72)

theorem cut1_le1 (c : UInt8) (l : List UInt8) : (cut1 c l).1.length ≤ l.length := by unfold cut1; split <;> simp; omega
theorem cut1_le2 (c : UInt8) (l : List UInt8) : (cut1 c l).2.1.length ≤ l.length := by unfold cut1; split <;> simp
theorem onlyB {S : Nat → Prop} {w a b : World} (h : Only S w a) (k : Below a.heap.size a b) : Only S w b := h.trans (Only.of_below k)

theorem qGo_le : ∀ (l : List UInt8) (h : Bool) (acc t : List UInt8), qGo h acc l = some t → t.length ≤ acc.length + l.length := by
  intro l
  induction l with
  | nil => intro h acc t; simp [qGo]
  | cons c l ih =>
    intro h acc t
    rw [qGo]
    split
    · split
      · intro e; cases e; simp
      · intro e; cases e
    · split
      · intro e; have := ih _ _ _ e; simp; omega
      · intro e; have := ih _ _ _ e; simp at this ⊢; omega
theorem quotedS_le (l t : List UInt8) (h : quotedS l = some t) : t.length ≤ l.length := by
  cases l with
  | nil => cases h
  | cons c l =>
    rw [quotedS] at h
    split at h
    · have := qGo_le _ _ _ _ h; simp at this ⊢; omega
    · cases h
theorem accR_q {w : World} {B : Nat} {ty sub : ByteArray} {st : Tk} (h : accR w B ty sub st) (n : Nat) : accR ((w.setCell ⟨B, 4, none⟩ (.bool true)).setCell ⟨B, 3, none⟩ (.int .i64 n)) B ty sub { st with quality := n, seen := true } :=
  heap_setCell (heap_setCell h 4 _) 3 _
theorem accR_p {w : World} {B : Nat} {ty sub : ByteArray} {st : Tk} (h : accR w B ty sub st) : accR (w.setCell ⟨B, 2, none⟩ (.int .i64 ((st.params : Int) + 1))) B ty sub { st with params := st.params + 1 } :=
  heap_setCell h 2 _
theorem Only.setCell1 {w a : World} (B : Nat) (h : Only (fun k => k = B) w a) (i : Nat) (v : Value) : Only (fun k => k = B) w (a.setCell ⟨B, i, none⟩ v) := h.setCell ⟨B, i, none⟩ (fun _ => rfl) v
theorem Only.setCell2 {w a : World} (B : Nat) (h : Only (fun k => k = B) w a) (i j : Nat) (u v : Value) : Only (fun k => k = B) w ((a.setCell ⟨B, i, none⟩ u).setCell ⟨B, j, none⟩ v) := (h.setCell1 B i u).setCell1 B j v

set_option maxRecDepth 100000 in
set_option maxHeartbeats 4000000 in
theorem takes_any (B bl off cap : Nat) (ty sub : ByteArray) (st : Tk) (ps : List (List UInt8)) (w : World) (hne : bl ≠ B) (hr : accR w B ty sub st)
    (hc : ∀ j (h : j < ps.length), w.cell? ⟨bl, off + j, none⟩ = some (.string ⟨(ps[j]'h).toArray⟩)) (hps : ∀ p ∈ ps, p.length ≤ 140737488351232) (hbig : st.params + ps.length < 4611686018427387904) (hbl : bl < w.heap.size) :
    Calls Tryd.prog 34 #[.pointer (some ⟨B, 0, none⟩), .slice (some ⟨bl, off, none⟩) ps.length cap] w fun e w' =>
      e = endO 220 ((takesS st ps).map fun _ => .tuple #[]) ∧ (∀ st', takesS st ps = some st' → accR w' B ty sub st') ∧ Only (fun k => k = B) w w' := by
  have hB := lt_heap hr
  have hnot : ∀ (x : Bool) (w : World), (Op.unary .not (.bool x)).run Tryd.prog w = .ok (.bool (!x)) w := fun _ _ => rfl
  have Hr := Lib.hid hr; have Hc := Lib.hid hc; have Hps := Lib.hid hps; clear hr hc hps
  have hl2 : ps.length < 4611686018427387904 := by omega
  go_enter Tryd.func34, Tryd.ntmps34
  go_wp2
  go_loopw [13] (fun i wr => ∃ (k : Nat) (s1 : Tk), i = .int .i64 k ∧ k ≤ ps.length ∧ Hid (accR wr B ty sub s1) ∧ Hid (Only (fun k => k = B) w wr) ∧ Hid (takesS st ps = takesS s1 (ps.drop k)) ∧ s1.params ≤ st.params + k)
    (fun i _ => ps.length - (intOf i).toNat)
  case atStart => exact ⟨0, st, rfl, by omega, Hr, Only.refl _ _, rfl, by omega⟩
  case round =>
    obtain ⟨k, s1, rfl, hk, hr1, ho1, ht1, hp1⟩ := hrel
    by_cases hlt' : k < ps.length
    · obtain ⟨p, hp⟩ : ∃ p, ps[k]'hlt' = p := ⟨_, rfl⟩
      have hpl : p.length ≤ 140737488351232 := by rw [← hp]; exact Hps.out _ (List.getElem_mem hlt')
      have hcell : wr.cell? ⟨bl, off + k, none⟩ = some (.string ⟨p.toArray⟩) := by
        rw [← hp, ← Hc.out k hlt']; exact ho1.out.cell hbl hne
      have hdr : ps.drop k = p :: ps.drop (k + 1) := by rw [← hp]; exact List.drop_eq_getElem_cons hlt'
      have hstep : takesS st ps = match takeS s1 p with | none => none | some st' => takesS st' (ps.drop (k + 1)) := by rw [ht1.out, hdr]; rfl
      have Hstep := Lib.hid hstep; clear hstep hdr ht1 hp
      have Hr1 := hr1
      have hBw := lt_heap hr1.out
      have hG : ∀ X, Below wr.heap.size wr X → X.cell? ⟨B, 4, none⟩ = some (.bool s1.seen) ∧ X.cell? ⟨B, 2, none⟩ = some (.int .i64 s1.params) ∧ X.cell? ⟨B, 3, none⟩ = some (.int .i64 s1.quality) ∧ X.frozen? ⟨B, 4, none⟩ = false ∧ X.frozen? ⟨B, 2, none⟩ = false ∧ X.frozen? ⟨B, 3, none⟩ = false := fun X hX => by
        have h := below_heap hX hr1.out hBw
        exact ⟨Lib.cell_of_heap h 4, Lib.cell_of_heap h 2, Lib.cell_of_heap h 3, Lib.frozen_of_heap h 4, Lib.frozen_of_heap h 2, Lib.frozen_of_heap h 3⟩
      have HG := Lib.hid hG; clear hG
      obtain ⟨n0, v0, has, hcut⟩ : ∃ n0 v0 has, cut1 61 p = (n0, v0, has) := ⟨_, _, _, rfl⟩
      have hz0 : (⟨p.toArray⟩ : ByteArray).size ≤ maxLen := by rw [size_str]; unfold maxLen; omega
      have hn0 : n0.length ≤ p.length := by have := cut1_le1 61 p; rwa [hcut] at this
      have hv0 : v0.length ≤ p.length := by have := cut1_le2 61 p; rwa [hcut] at this
      have hz1 : (⟨n0.toArray⟩ : ByteArray).size ≤ maxLen := by rw [size_str]; unfold maxLen; omega
      have hz2 : (⟨v0.toArray⟩ : ByteArray).size ≤ maxLen := by rw [size_str]; unfold maxLen; omega
      have hz3 : (⟨(trimS n0).toArray⟩ : ByteArray).size ≤ 140737488351232 := by have := trimS_le n0; rw [size_str]; omega
      have hz4 : (⟨(lowS (trimS n0)).toArray⟩ : ByteArray).size ≤ maxLen := by have := trimS_le n0; rw [size_str, lowS_length]; unfold maxLen; omega
      have hz5 : (⟨(trimS v0).toArray⟩ : ByteArray).size ≤ maxLen := by have := trimS_le v0; rw [size_str]; unfold maxLen; omega
      have hz6 : (⟨(trimS v0).toArray⟩ : ByteArray).size ≤ 140737488351232 := by have := trimS_le v0; rw [size_str]; omega
      have hpar : paramS p = if tokenS (lowS (trimS n0)) then (if has && !tokenS (trimS v0) then (quotedS (trimS v0)).map fun v => (lowS (trimS n0), v) else some (lowS (trimS n0), trimS v0)) else none := by rw [paramS, hcut]
      have Hcut := Lib.hid hcut; clear hcut
      have ha := Below.refl wr.heap.size wr
      cases hpe : p.isEmpty
      · have hpn : ¬ p = [] := fun h => by rw [h] at hpe; cases hpe
        have htake : takeS s1 p = match paramS p with | none => none | some (name, val) => if s1.seen then some s1 else if name = [113] then (thouS val).map fun n => { s1 with quality := n, seen := true } else some { s1 with params := s1.params + 1 } := by rw [takeS, if_neg hpn]
        cases htn : tokenS (lowS (trimS n0))
        · have hnone : takesS st ps = none := by rw [Hstep.out, htake, hpar, htn]; rfl
          have Hnone := Lib.hid hnone; have Htn := Lib.hid htn; clear hnone htn hpar htake hpn
          go_wp2_with (first
            | (go_at_call 31; refine (cut1_any _ 61 hz0 _).mono ?_; rintro e w1 ⟨rfl, hb⟩; rw [Hcut.out]; replace ha := acc ha hb; clear hb; have hg := HG.out _ ha)
            | (go_at_call 26; refine (trim_any _ (by first | exact hz1 | exact hz2) _).mono ?_; rintro e w1 ⟨rfl, hb⟩; replace ha := acc ha hb; clear hb; have hg := HG.out _ ha)
            | (go_at_call 32; refine (lower_any _ hz3 _).mono ?_; rintro e w1 ⟨rfl, hb⟩; replace ha := acc ha hb; clear hb; have hg := HG.out _ ha)
            | (go_at_call 33; refine (token_any _ (by first | exact hz4 | exact hz5) _).mono ?_; rintro e w1 ⟨rfl, hb⟩; rw [Htn.out]; replace ha := acc ha hb; clear hb; have hg := HG.out _ ha)
            | (go_at_call 21; refine (must_any _ _ _).mono ?_; rintro e w2 ⟨rfl, rfl⟩; simp only [if_true, endO]))
          exact ⟨rfl, by rw [Hnone.out]; rfl, fun st' h => by (rw [Hnone.out] at h; cases h), ho1.out.trans (Only.of_below ha)⟩
        · have Htn := Lib.hid htn
          cases has
          · have hpv : paramS p = some (lowS (trimS n0), trimS v0) := by rw [hpar, htn]; rfl
            clear htn hpar
            cases hseen : s1.seen
            · rw [hseen] at HG
              by_cases hq113 : lowS (trimS n0) = [113]
              · have h113 : (lowS (trimS n0) == [113]) = true := by simpa using hq113
                cases hth : thouS (trimS v0)
                · have hnone : takesS st ps = none := by rw [Hstep.out, htake, hpv]; simp [hseen, hq113, hth]
                  have Hnone := Lib.hid hnone; have Hth := Lib.hid hth; clear hnone hth hpv htake hpn hq113 hseen
                  go_wp2_with (first
                    | (go_at_call 31; refine (cut1_any _ 61 hz0 _).mono ?_; rintro e w1 ⟨rfl, hb⟩; rw [Hcut.out]; replace ha := acc ha hb; clear hb; have hg := HG.out _ ha)
                    | (go_at_call 26; refine (trim_any _ (by first | exact hz1 | exact hz2) _).mono ?_; rintro e w1 ⟨rfl, hb⟩; replace ha := acc ha hb; clear hb; have hg := HG.out _ ha)
                    | (go_at_call 32; refine (lower_any _ hz3 _).mono ?_; rintro e w1 ⟨rfl, hb⟩; replace ha := acc ha hb; clear hb; have hg := HG.out _ ha)
                    | (go_at_call 33; refine (token_any _ (by first | exact hz4 | exact hz5) _).mono ?_; rintro e w1 ⟨rfl, hb⟩; rw [Htn.out]; replace ha := acc ha hb; clear hb; have hg := HG.out _ ha)
                    | (go_at_call 21; refine (must_any _ _ _).mono ?_; rintro e w2 ⟨rfl, rfl⟩; simp only [if_true, endO])
                    | (go_at_call 46; refine (thou_any _ hz5 _).mono ?_; rintro e w1 ⟨rfl, hb⟩; rw [Hth.out]; simp only [Option.map_some, Option.map_none, endO]; replace ha := acc ha hb; clear hb; have hg := HG.out _ ha))
                  exact ⟨rfl, by rw [Hnone.out]; rfl, fun st' h => by (rw [Hnone.out] at h; cases h), ho1.out.trans (Only.of_below ha)⟩
                · rename_i n
                  have hT : takesS st ps = takesS { s1 with quality := n, seen := true } (ps.drop (k + 1)) := by rw [Hstep.out, htake, hpv]; simp [hseen, hq113, hth]
                  have HT := Lib.hid hT; have Hth := Lib.hid hth; clear hT hth hpv htake hpn hq113 hseen
                  go_wp2_with (first
                    | (go_at_call 31; refine (cut1_any _ 61 hz0 _).mono ?_; rintro e w1 ⟨rfl, hb⟩; rw [Hcut.out]; replace ha := acc ha hb; clear hb; have hg := HG.out _ ha)
                    | (go_at_call 26; refine (trim_any _ (by first | exact hz1 | exact hz2) _).mono ?_; rintro e w1 ⟨rfl, hb⟩; replace ha := acc ha hb; clear hb; have hg := HG.out _ ha)
                    | (go_at_call 32; refine (lower_any _ hz3 _).mono ?_; rintro e w1 ⟨rfl, hb⟩; replace ha := acc ha hb; clear hb; have hg := HG.out _ ha)
                    | (go_at_call 33; refine (token_any _ (by first | exact hz4 | exact hz5) _).mono ?_; rintro e w1 ⟨rfl, hb⟩; rw [Htn.out]; replace ha := acc ha hb; clear hb; have hg := HG.out _ ha)
                    | (go_at_call 21; refine (must_any _ _ _).mono ?_; rintro e w2 ⟨rfl, rfl⟩; simp only [if_true, endO])
                    | (go_at_call 46; refine (thou_any _ hz5 _).mono ?_; rintro e w1 ⟨rfl, hb⟩; rw [Hth.out]; simp only [Option.map_some, Option.map_none, endO]; replace ha := acc ha hb; clear hb; have hg := HG.out _ ha))
                  go_roundw
                  case rel => exact ⟨k + 1, { s1 with quality := n, seen := true }, by go_num, by omega, accR_q (below_heap ha hr1.out hBw) n, (ho1.out.trans (Only.of_below ha)).setCell2 B _ _ _ _, HT, by first | omega | (simp; omega)⟩
                  case measure => simp [intOf]; omega
              · have h113 : (lowS (trimS n0) == [113]) = false := by simpa using hq113
                have hT : takesS st ps = takesS { s1 with params := s1.params + 1 } (ps.drop (k + 1)) := by rw [Hstep.out, htake, hpv]; simp [hseen, hq113]
                have HT := Lib.hid hT; clear hT hpv htake hpn hq113 hseen
                go_wp2_with (first
                  | (go_at_call 31; refine (cut1_any _ 61 hz0 _).mono ?_; rintro e w1 ⟨rfl, hb⟩; rw [Hcut.out]; replace ha := acc ha hb; clear hb; have hg := HG.out _ ha)
                  | (go_at_call 26; refine (trim_any _ (by first | exact hz1 | exact hz2) _).mono ?_; rintro e w1 ⟨rfl, hb⟩; replace ha := acc ha hb; clear hb; have hg := HG.out _ ha)
                  | (go_at_call 32; refine (lower_any _ hz3 _).mono ?_; rintro e w1 ⟨rfl, hb⟩; replace ha := acc ha hb; clear hb; have hg := HG.out _ ha)
                  | (go_at_call 33; refine (token_any _ (by first | exact hz4 | exact hz5) _).mono ?_; rintro e w1 ⟨rfl, hb⟩; rw [Htn.out]; replace ha := acc ha hb; clear hb; have hg := HG.out _ ha)
                  | (go_at_call 21; refine (must_any _ _ _).mono ?_; rintro e w2 ⟨rfl, rfl⟩; simp only [if_true, endO]))
                go_roundw
                case rel => exact ⟨k + 1, { s1 with params := s1.params + 1 }, by go_num, by omega, accR_p (below_heap ha hr1.out hBw), (ho1.out.trans (Only.of_below ha)).setCell1 B _ _, HT, by first | omega | (simp; omega)⟩
                case measure => simp [intOf]; omega
            · rw [hseen] at HG
              have hT : takesS st ps = takesS s1 (ps.drop (k + 1)) := by rw [Hstep.out, htake, hpv]; simp [hseen]
              have HT := Lib.hid hT; clear hT hpv htake hpn hseen
              go_wp2_with (first
                | (go_at_call 31; refine (cut1_any _ 61 hz0 _).mono ?_; rintro e w1 ⟨rfl, hb⟩; rw [Hcut.out]; replace ha := acc ha hb; clear hb; have hg := HG.out _ ha)
                | (go_at_call 26; refine (trim_any _ (by first | exact hz1 | exact hz2) _).mono ?_; rintro e w1 ⟨rfl, hb⟩; replace ha := acc ha hb; clear hb; have hg := HG.out _ ha)
                | (go_at_call 32; refine (lower_any _ hz3 _).mono ?_; rintro e w1 ⟨rfl, hb⟩; replace ha := acc ha hb; clear hb; have hg := HG.out _ ha)
                | (go_at_call 33; refine (token_any _ (by first | exact hz4 | exact hz5) _).mono ?_; rintro e w1 ⟨rfl, hb⟩; rw [Htn.out]; replace ha := acc ha hb; clear hb; have hg := HG.out _ ha)
                | (go_at_call 21; refine (must_any _ _ _).mono ?_; rintro e w2 ⟨rfl, rfl⟩; simp only [if_true, endO]))
              go_roundw
              case rel => exact ⟨k + 1, s1, by go_num, by omega, below_heap ha hr1.out hBw, ho1.out.trans (Only.of_below ha), HT, by first | omega | (simp; omega)⟩
              case measure => simp [intOf]; omega
          · cases htv : tokenS (trimS v0)
            · have Htv := Lib.hid htv
              cases hq : quotedS (trimS v0)
              · have hnone : takesS st ps = none := by rw [Hstep.out, htake, hpar, htn, htv, hq]; rfl
                have Hnone := Lib.hid hnone; have Hq := Lib.hid hq; clear hnone htn htv hpar htake hpn hq
                go_wp2_with (first
                  | (go_at_call 31; refine (cut1_any _ 61 hz0 _).mono ?_; rintro e w1 ⟨rfl, hb⟩; rw [Hcut.out]; replace ha := acc ha hb; clear hb; have hg := HG.out _ ha)
                  | (go_at_call 26; refine (trim_any _ (by first | exact hz1 | exact hz2) _).mono ?_; rintro e w1 ⟨rfl, hb⟩; replace ha := acc ha hb; clear hb; have hg := HG.out _ ha)
                  | (go_at_call 32; refine (lower_any _ hz3 _).mono ?_; rintro e w1 ⟨rfl, hb⟩; replace ha := acc ha hb; clear hb; have hg := HG.out _ ha)
                  | (go_at_call 33; refine (token_any _ (by first | exact hz4 | exact hz5) _).mono ?_; rintro e w1 ⟨rfl, hb⟩; (first | rw [Htn.out] | rw [Htv.out]); replace ha := acc ha hb; clear hb; have hg := HG.out _ ha)
                  | (go_at_call 21; refine (must_any _ _ _).mono ?_; rintro e w2 ⟨rfl, rfl⟩; simp only [if_true, endO])
                  | (go_at_call 45; refine (quoted_any _ hz6 _).mono ?_; rintro e w1 ⟨rfl, hb⟩; rw [Hq.out]; simp only [endQ]; replace ha := acc ha hb; clear hb; have hg := HG.out _ ha))
                exact ⟨rfl, by rw [Hnone.out]; rfl, fun st' h => by (rw [Hnone.out] at h; cases h), ho1.out.trans (Only.of_below ha)⟩
              · rename_i v
                have hpv : paramS p = some (lowS (trimS n0), v) := by rw [hpar, htn, htv, hq]; rfl
                have hz7 : (⟨v.toArray⟩ : ByteArray).size ≤ maxLen := by have := trimS_le v0; have := quotedS_le _ _ hq; rw [size_str]; unfold maxLen; omega
                have Hq := Lib.hid hq; clear htn htv hpar hq
                cases hseen : s1.seen
                · rw [hseen] at HG
                  by_cases hq113 : lowS (trimS n0) = [113]
                  · have h113 : (lowS (trimS n0) == [113]) = true := by simpa using hq113
                    cases hth : thouS (v)
                    · have hnone : takesS st ps = none := by rw [Hstep.out, htake, hpv]; simp [hseen, hq113, hth]
                      have Hnone := Lib.hid hnone; have Hth := Lib.hid hth; clear hnone hth hpv htake hpn hq113 hseen
                      go_wp2_with (first
                        | (go_at_call 31; refine (cut1_any _ 61 hz0 _).mono ?_; rintro e w1 ⟨rfl, hb⟩; rw [Hcut.out]; replace ha := acc ha hb; clear hb; have hg := HG.out _ ha)
                        | (go_at_call 26; refine (trim_any _ (by first | exact hz1 | exact hz2) _).mono ?_; rintro e w1 ⟨rfl, hb⟩; replace ha := acc ha hb; clear hb; have hg := HG.out _ ha)
                        | (go_at_call 32; refine (lower_any _ hz3 _).mono ?_; rintro e w1 ⟨rfl, hb⟩; replace ha := acc ha hb; clear hb; have hg := HG.out _ ha)
                        | (go_at_call 33; refine (token_any _ (by first | exact hz4 | exact hz5) _).mono ?_; rintro e w1 ⟨rfl, hb⟩; (first | rw [Htn.out] | rw [Htv.out]); replace ha := acc ha hb; clear hb; have hg := HG.out _ ha)
                        | (go_at_call 21; refine (must_any _ _ _).mono ?_; rintro e w2 ⟨rfl, rfl⟩; simp only [if_true, endO])
                        | (go_at_call 45; refine (quoted_any _ hz6 _).mono ?_; rintro e w1 ⟨rfl, hb⟩; rw [Hq.out]; simp only [endQ]; replace ha := acc ha hb; clear hb; have hg := HG.out _ ha)
                        | (go_at_call 46; refine (thou_any _ hz7 _).mono ?_; rintro e w1 ⟨rfl, hb⟩; rw [Hth.out]; simp only [Option.map_some, Option.map_none, endO]; replace ha := acc ha hb; clear hb; have hg := HG.out _ ha))
                      exact ⟨rfl, by rw [Hnone.out]; rfl, fun st' h => by (rw [Hnone.out] at h; cases h), ho1.out.trans (Only.of_below ha)⟩
                    · rename_i n
                      have hT : takesS st ps = takesS { s1 with quality := n, seen := true } (ps.drop (k + 1)) := by rw [Hstep.out, htake, hpv]; simp [hseen, hq113, hth]
                      have HT := Lib.hid hT; have Hth := Lib.hid hth; clear hT hth hpv htake hpn hq113 hseen
                      go_wp2_with (first
                        | (go_at_call 31; refine (cut1_any _ 61 hz0 _).mono ?_; rintro e w1 ⟨rfl, hb⟩; rw [Hcut.out]; replace ha := acc ha hb; clear hb; have hg := HG.out _ ha)
                        | (go_at_call 26; refine (trim_any _ (by first | exact hz1 | exact hz2) _).mono ?_; rintro e w1 ⟨rfl, hb⟩; replace ha := acc ha hb; clear hb; have hg := HG.out _ ha)
                        | (go_at_call 32; refine (lower_any _ hz3 _).mono ?_; rintro e w1 ⟨rfl, hb⟩; replace ha := acc ha hb; clear hb; have hg := HG.out _ ha)
                        | (go_at_call 33; refine (token_any _ (by first | exact hz4 | exact hz5) _).mono ?_; rintro e w1 ⟨rfl, hb⟩; (first | rw [Htn.out] | rw [Htv.out]); replace ha := acc ha hb; clear hb; have hg := HG.out _ ha)
                        | (go_at_call 21; refine (must_any _ _ _).mono ?_; rintro e w2 ⟨rfl, rfl⟩; simp only [if_true, endO])
                        | (go_at_call 45; refine (quoted_any _ hz6 _).mono ?_; rintro e w1 ⟨rfl, hb⟩; rw [Hq.out]; simp only [endQ]; replace ha := acc ha hb; clear hb; have hg := HG.out _ ha)
                        | (go_at_call 46; refine (thou_any _ hz7 _).mono ?_; rintro e w1 ⟨rfl, hb⟩; rw [Hth.out]; simp only [Option.map_some, Option.map_none, endO]; replace ha := acc ha hb; clear hb; have hg := HG.out _ ha))
                      go_roundw
                      case rel => exact ⟨k + 1, { s1 with quality := n, seen := true }, by go_num, by omega, accR_q (below_heap ha hr1.out hBw) n, (ho1.out.trans (Only.of_below ha)).setCell2 B _ _ _ _, HT, by first | omega | (simp; omega)⟩
                      case measure => simp [intOf]; omega
                  · have h113 : (lowS (trimS n0) == [113]) = false := by simpa using hq113
                    have hT : takesS st ps = takesS { s1 with params := s1.params + 1 } (ps.drop (k + 1)) := by rw [Hstep.out, htake, hpv]; simp [hseen, hq113]
                    have HT := Lib.hid hT; clear hT hpv htake hpn hq113 hseen
                    go_wp2_with (first
                      | (go_at_call 31; refine (cut1_any _ 61 hz0 _).mono ?_; rintro e w1 ⟨rfl, hb⟩; rw [Hcut.out]; replace ha := acc ha hb; clear hb; have hg := HG.out _ ha)
                      | (go_at_call 26; refine (trim_any _ (by first | exact hz1 | exact hz2) _).mono ?_; rintro e w1 ⟨rfl, hb⟩; replace ha := acc ha hb; clear hb; have hg := HG.out _ ha)
                      | (go_at_call 32; refine (lower_any _ hz3 _).mono ?_; rintro e w1 ⟨rfl, hb⟩; replace ha := acc ha hb; clear hb; have hg := HG.out _ ha)
                      | (go_at_call 33; refine (token_any _ (by first | exact hz4 | exact hz5) _).mono ?_; rintro e w1 ⟨rfl, hb⟩; (first | rw [Htn.out] | rw [Htv.out]); replace ha := acc ha hb; clear hb; have hg := HG.out _ ha)
                      | (go_at_call 21; refine (must_any _ _ _).mono ?_; rintro e w2 ⟨rfl, rfl⟩; simp only [if_true, endO])
                      | (go_at_call 45; refine (quoted_any _ hz6 _).mono ?_; rintro e w1 ⟨rfl, hb⟩; rw [Hq.out]; simp only [endQ]; replace ha := acc ha hb; clear hb; have hg := HG.out _ ha))
                    go_roundw
                    case rel => exact ⟨k + 1, { s1 with params := s1.params + 1 }, by go_num, by omega, accR_p (below_heap ha hr1.out hBw), (ho1.out.trans (Only.of_below ha)).setCell1 B _ _, HT, by first | omega | (simp; omega)⟩
                    case measure => simp [intOf]; omega
                · rw [hseen] at HG
                  have hT : takesS st ps = takesS s1 (ps.drop (k + 1)) := by rw [Hstep.out, htake, hpv]; simp [hseen]
                  have HT := Lib.hid hT; clear hT hpv htake hpn hseen
                  go_wp2_with (first
                    | (go_at_call 31; refine (cut1_any _ 61 hz0 _).mono ?_; rintro e w1 ⟨rfl, hb⟩; rw [Hcut.out]; replace ha := acc ha hb; clear hb; have hg := HG.out _ ha)
                    | (go_at_call 26; refine (trim_any _ (by first | exact hz1 | exact hz2) _).mono ?_; rintro e w1 ⟨rfl, hb⟩; replace ha := acc ha hb; clear hb; have hg := HG.out _ ha)
                    | (go_at_call 32; refine (lower_any _ hz3 _).mono ?_; rintro e w1 ⟨rfl, hb⟩; replace ha := acc ha hb; clear hb; have hg := HG.out _ ha)
                    | (go_at_call 33; refine (token_any _ (by first | exact hz4 | exact hz5) _).mono ?_; rintro e w1 ⟨rfl, hb⟩; (first | rw [Htn.out] | rw [Htv.out]); replace ha := acc ha hb; clear hb; have hg := HG.out _ ha)
                    | (go_at_call 21; refine (must_any _ _ _).mono ?_; rintro e w2 ⟨rfl, rfl⟩; simp only [if_true, endO])
                    | (go_at_call 45; refine (quoted_any _ hz6 _).mono ?_; rintro e w1 ⟨rfl, hb⟩; rw [Hq.out]; simp only [endQ]; replace ha := acc ha hb; clear hb; have hg := HG.out _ ha))
                  go_roundw
                  case rel => exact ⟨k + 1, s1, by go_num, by omega, below_heap ha hr1.out hBw, ho1.out.trans (Only.of_below ha), HT, by first | omega | (simp; omega)⟩
                  case measure => simp [intOf]; omega
            · have hpv : paramS p = some (lowS (trimS n0), trimS v0) := by rw [hpar, htn, htv]; rfl
              have Htv := Lib.hid htv; clear htn htv hpar
              cases hseen : s1.seen
              · rw [hseen] at HG
                by_cases hq113 : lowS (trimS n0) = [113]
                · have h113 : (lowS (trimS n0) == [113]) = true := by simpa using hq113
                  cases hth : thouS (trimS v0)
                  · have hnone : takesS st ps = none := by rw [Hstep.out, htake, hpv]; simp [hseen, hq113, hth]
                    have Hnone := Lib.hid hnone; have Hth := Lib.hid hth; clear hnone hth hpv htake hpn hq113 hseen
                    go_wp2_with (first
                      | (go_at_call 31; refine (cut1_any _ 61 hz0 _).mono ?_; rintro e w1 ⟨rfl, hb⟩; rw [Hcut.out]; replace ha := acc ha hb; clear hb; have hg := HG.out _ ha)
                      | (go_at_call 26; refine (trim_any _ (by first | exact hz1 | exact hz2) _).mono ?_; rintro e w1 ⟨rfl, hb⟩; replace ha := acc ha hb; clear hb; have hg := HG.out _ ha)
                      | (go_at_call 32; refine (lower_any _ hz3 _).mono ?_; rintro e w1 ⟨rfl, hb⟩; replace ha := acc ha hb; clear hb; have hg := HG.out _ ha)
                      | (go_at_call 33; refine (token_any _ (by first | exact hz4 | exact hz5) _).mono ?_; rintro e w1 ⟨rfl, hb⟩; (first | rw [Htn.out] | rw [Htv.out]); replace ha := acc ha hb; clear hb; have hg := HG.out _ ha)
                      | (go_at_call 21; refine (must_any _ _ _).mono ?_; rintro e w2 ⟨rfl, rfl⟩; simp only [if_true, endO])
                      | (go_at_call 46; refine (thou_any _ hz5 _).mono ?_; rintro e w1 ⟨rfl, hb⟩; rw [Hth.out]; simp only [Option.map_some, Option.map_none, endO]; replace ha := acc ha hb; clear hb; have hg := HG.out _ ha))
                    exact ⟨rfl, by rw [Hnone.out]; rfl, fun st' h => by (rw [Hnone.out] at h; cases h), ho1.out.trans (Only.of_below ha)⟩
                  · rename_i n
                    have hT : takesS st ps = takesS { s1 with quality := n, seen := true } (ps.drop (k + 1)) := by rw [Hstep.out, htake, hpv]; simp [hseen, hq113, hth]
                    have HT := Lib.hid hT; have Hth := Lib.hid hth; clear hT hth hpv htake hpn hq113 hseen
                    go_wp2_with (first
                      | (go_at_call 31; refine (cut1_any _ 61 hz0 _).mono ?_; rintro e w1 ⟨rfl, hb⟩; rw [Hcut.out]; replace ha := acc ha hb; clear hb; have hg := HG.out _ ha)
                      | (go_at_call 26; refine (trim_any _ (by first | exact hz1 | exact hz2) _).mono ?_; rintro e w1 ⟨rfl, hb⟩; replace ha := acc ha hb; clear hb; have hg := HG.out _ ha)
                      | (go_at_call 32; refine (lower_any _ hz3 _).mono ?_; rintro e w1 ⟨rfl, hb⟩; replace ha := acc ha hb; clear hb; have hg := HG.out _ ha)
                      | (go_at_call 33; refine (token_any _ (by first | exact hz4 | exact hz5) _).mono ?_; rintro e w1 ⟨rfl, hb⟩; (first | rw [Htn.out] | rw [Htv.out]); replace ha := acc ha hb; clear hb; have hg := HG.out _ ha)
                      | (go_at_call 21; refine (must_any _ _ _).mono ?_; rintro e w2 ⟨rfl, rfl⟩; simp only [if_true, endO])
                      | (go_at_call 46; refine (thou_any _ hz5 _).mono ?_; rintro e w1 ⟨rfl, hb⟩; rw [Hth.out]; simp only [Option.map_some, Option.map_none, endO]; replace ha := acc ha hb; clear hb; have hg := HG.out _ ha))
                    go_roundw
                    case rel => exact ⟨k + 1, { s1 with quality := n, seen := true }, by go_num, by omega, accR_q (below_heap ha hr1.out hBw) n, (ho1.out.trans (Only.of_below ha)).setCell2 B _ _ _ _, HT, by first | omega | (simp; omega)⟩
                    case measure => simp [intOf]; omega
                · have h113 : (lowS (trimS n0) == [113]) = false := by simpa using hq113
                  have hT : takesS st ps = takesS { s1 with params := s1.params + 1 } (ps.drop (k + 1)) := by rw [Hstep.out, htake, hpv]; simp [hseen, hq113]
                  have HT := Lib.hid hT; clear hT hpv htake hpn hq113 hseen
                  go_wp2_with (first
                    | (go_at_call 31; refine (cut1_any _ 61 hz0 _).mono ?_; rintro e w1 ⟨rfl, hb⟩; rw [Hcut.out]; replace ha := acc ha hb; clear hb; have hg := HG.out _ ha)
                    | (go_at_call 26; refine (trim_any _ (by first | exact hz1 | exact hz2) _).mono ?_; rintro e w1 ⟨rfl, hb⟩; replace ha := acc ha hb; clear hb; have hg := HG.out _ ha)
                    | (go_at_call 32; refine (lower_any _ hz3 _).mono ?_; rintro e w1 ⟨rfl, hb⟩; replace ha := acc ha hb; clear hb; have hg := HG.out _ ha)
                    | (go_at_call 33; refine (token_any _ (by first | exact hz4 | exact hz5) _).mono ?_; rintro e w1 ⟨rfl, hb⟩; (first | rw [Htn.out] | rw [Htv.out]); replace ha := acc ha hb; clear hb; have hg := HG.out _ ha)
                    | (go_at_call 21; refine (must_any _ _ _).mono ?_; rintro e w2 ⟨rfl, rfl⟩; simp only [if_true, endO]))
                  go_roundw
                  case rel => exact ⟨k + 1, { s1 with params := s1.params + 1 }, by go_num, by omega, accR_p (below_heap ha hr1.out hBw), (ho1.out.trans (Only.of_below ha)).setCell1 B _ _, HT, by first | omega | (simp; omega)⟩
                  case measure => simp [intOf]; omega
              · rw [hseen] at HG
                have hT : takesS st ps = takesS s1 (ps.drop (k + 1)) := by rw [Hstep.out, htake, hpv]; simp [hseen]
                have HT := Lib.hid hT; clear hT hpv htake hpn hseen
                go_wp2_with (first
                  | (go_at_call 31; refine (cut1_any _ 61 hz0 _).mono ?_; rintro e w1 ⟨rfl, hb⟩; rw [Hcut.out]; replace ha := acc ha hb; clear hb; have hg := HG.out _ ha)
                  | (go_at_call 26; refine (trim_any _ (by first | exact hz1 | exact hz2) _).mono ?_; rintro e w1 ⟨rfl, hb⟩; replace ha := acc ha hb; clear hb; have hg := HG.out _ ha)
                  | (go_at_call 32; refine (lower_any _ hz3 _).mono ?_; rintro e w1 ⟨rfl, hb⟩; replace ha := acc ha hb; clear hb; have hg := HG.out _ ha)
                  | (go_at_call 33; refine (token_any _ (by first | exact hz4 | exact hz5) _).mono ?_; rintro e w1 ⟨rfl, hb⟩; (first | rw [Htn.out] | rw [Htv.out]); replace ha := acc ha hb; clear hb; have hg := HG.out _ ha)
                  | (go_at_call 21; refine (must_any _ _ _).mono ?_; rintro e w2 ⟨rfl, rfl⟩; simp only [if_true, endO]))
                go_roundw
                case rel => exact ⟨k + 1, s1, by go_num, by omega, below_heap ha hr1.out hBw, ho1.out.trans (Only.of_below ha), HT, by first | omega | (simp; omega)⟩
                case measure => simp [intOf]; omega
      · have hpn : p = [] := by simpa using hpe
        have hT : takesS st ps = takesS s1 (ps.drop (k + 1)) := by rw [Hstep.out, takeS, if_pos hpn]
        have HT := Lib.hid hT; clear hT hpn hpar
        go_wp2
        go_roundw
        case rel => exact ⟨k + 1, s1, by go_num, by omega, hr1, ho1, HT, by omega⟩
        case measure => simp [intOf]; omega
    · have hke : k = ps.length := by omega
      have hfin : takesS st ps = some s1 := by rw [ht1.out, hke, List.drop_length]; rfl
      have Hfin := Lib.hid hfin; clear hfin
      go_wp2
      go_end0
      exact ⟨by rw [Hfin.out]; rfl, fun st' h => by rw [Hfin.out] at h; cases h; exact hr1.out, ho1.out⟩
end Go.Proofs.YtnlkmiieebahoaaDoor
