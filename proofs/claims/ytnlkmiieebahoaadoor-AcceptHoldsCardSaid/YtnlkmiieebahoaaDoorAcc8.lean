/- Contracts of package accept: Parse, the ways of fitting, Fits (conditions: none). -/
import Derived.Test.YtnlkmiieebahoaaDoorAcc7
set_option linter.unusedVariables false
set_option linter.unusedSimpArgs false
namespace Go.Proofs.YtnlkmiieebahoaaDoor
open Go.RowKit

set_option maxRecDepth 100000 in
set_option maxHeartbeats 400000 in
theorem parse_any (s : ByteArray) (hs : s.size ≤ 1000000) (w : World) :
    Calls Tryd.prog 9 #[.string s] w fun e w' => ∃ v, e = .returned (.tuple #[v, .int .i64 (errS (readS s.data.toList))]) ∧ (readS s.data.toList = none → v = .slice none 0 0) ∧
      (∀ l, readS s.data.toList = some l → w'.ownsRow w.heap.size 33 4 v l.length (encs l) ∧ l.length ≤ 1000001) ∧ Below w.heap.size w w' := by
  go_enter Tryd.func9, Tryd.ntmps9
  cases hr : readS s.data.toList with
  | none =>
    have Hr := Lib.hid hr; clear hr
    go_wp2_with (go_at_call 15; refine (read_any s hs _).mono ?_; rintro e w1 ⟨v, rfl, h1, hb⟩; rw [Hr.out]; simp only [errS, Option.isSome_none, Bool.false_eq_true, if_false])
    go_ret2
    refine ⟨.slice none 0 0, rfl, by first | rfl | (intro _; rfl), ?_⟩
    first | exact hb | exact ⟨(fun l hl => by cases hl), hb⟩
  | some l =>
    have Hr := Lib.hid hr; clear hr
    go_wp2_with (go_at_call 15; refine (read_any s hs _).mono ?_; rintro e w1 ⟨v, rfl, h1, hb⟩; rw [Hr.out]; simp only [errS, Option.isSome_some, if_true])
    go_ret2
    refine ⟨v, rfl, by first | exact trivial | (intro h; cases h), ?_, hb⟩
    intro l' hl'
    exact h1 l' (by rw [Hr.out]; exact hl')

/-! ### WAYS OF FITTING -/
def fit1 (r : Rg) : Bool := r.kind == [42] && r.sub == [42]
def fit2 (r : Rg) (K : List UInt8) : Bool := r.kind == K && r.sub == [42]
def fit3 (r : Rg) (K S : List UInt8) : Bool := r.kind == K && r.sub == S
def fitS (r : Rg) (K S : List UInt8) : Nat := if 0 < r.params then 0 else if fit1 r then 1 else if fit2 r K then 2 else if fit3 r K S then 3 else 0

set_option maxRecDepth 100000 in
set_option maxHeartbeats 400000 in
theorem fits1_any (r : Rg) (w : World) : Calls Tryd.prog 35 #[r.enc] w fun e w' => e = .returned (.bool (fit1 r)) ∧ Below w.heap.size w w' := by
  unfold Rg.enc fit1
  go_enter Tryd.func35, Tryd.ntmps35
  cases hk : (r.kind == [42])
  · go_wp2
    go_ret
    exact ⟨rfl, (Below.refl _ _).alloc (Nat.le_refl _) _⟩
  · go_wp2
    go_ret
    exact ⟨by first | rfl | simp, (Below.refl _ _).alloc (Nat.le_refl _) _⟩
set_option maxRecDepth 100000 in
set_option maxHeartbeats 400000 in
theorem fits2_any (r : Rg) (K : List UInt8) (p : Addr) (w : World) (hp : w.cell? p = some (.string ⟨K.toArray⟩)) (hpb : p.block < w.heap.size) :
    Calls Tryd.prog 36 #[r.enc, .pointer (some p)] w fun e w' => e = .returned (.bool (fit2 r K)) ∧ Below w.heap.size w w' := by
  unfold Rg.enc fit2
  have hp2 : ∀ o, (w.alloc o).cell? p = some (.string ⟨K.toArray⟩) := fun o => (((Below.refl _ _).alloc (Nat.le_refl _) _).cell hpb).trans hp
  go_enter Tryd.func36, Tryd.ntmps36
  cases hk : (r.kind == K)
  · go_wp2
    go_ret
    exact ⟨rfl, (Below.refl _ _).alloc (Nat.le_refl _) _⟩
  · go_wp2
    go_ret
    exact ⟨by first | rfl | simp, (Below.refl _ _).alloc (Nat.le_refl _) _⟩
set_option maxRecDepth 100000 in
set_option maxHeartbeats 400000 in
theorem fits3_any (r : Rg) (K S : List UInt8) (p q : Addr) (w : World) (hp : w.cell? p = some (.string ⟨K.toArray⟩)) (hpb : p.block < w.heap.size) (hq : w.cell? q = some (.string ⟨S.toArray⟩)) (hqb : q.block < w.heap.size) :
    Calls Tryd.prog 37 #[r.enc, .pointer (some p), .pointer (some q)] w fun e w' => e = .returned (.bool (fit3 r K S)) ∧ Below w.heap.size w w' := by
  unfold Rg.enc fit3
  have hp2 : ∀ o, (w.alloc o).cell? p = some (.string ⟨K.toArray⟩) := fun o => (((Below.refl _ _).alloc (Nat.le_refl _) _).cell hpb).trans hp
  have hq2 : ∀ o, (w.alloc o).cell? q = some (.string ⟨S.toArray⟩) := fun o => (((Below.refl _ _).alloc (Nat.le_refl _) _).cell hqb).trans hq
  go_enter Tryd.func37, Tryd.ntmps37
  cases hk : (r.kind == K)
  · go_wp2
    go_ret
    exact ⟨rfl, (Below.refl _ _).alloc (Nat.le_refl _) _⟩
  · go_wp2
    go_ret
    exact ⟨by first | rfl | simp, (Below.refl _ _).alloc (Nat.le_refl _) _⟩

/-- the three ways, K at block b, S behind it. -/
def waysV (b : Nat) : Value := .agg #[.func (.func 35) #[] #[], .func (.func 36) #[] #[.pointer (some ⟨b, 0, none⟩)], .func (.func 37) #[] #[.pointer (some ⟨b, 0, none⟩), .pointer (some ⟨b + 1, 0, none⟩)]]
theorem infoWays : (Tryd.prog.info? 56).map (·.size) = some 3 := by kernel_rfl
set_option maxRecDepth 100000 in
set_option maxHeartbeats 400000 in
theorem ways_any (K S : List UInt8) (w : World) :
    Calls Tryd.prog 25 #[.string ⟨K.toArray⟩, .string ⟨S.toArray⟩] w fun e w' => e = .returned (waysV w.heap.size) ∧ Below w.heap.size w w' ∧
      w'.cell? ⟨w.heap.size, 0, none⟩ = some (.string ⟨K.toArray⟩) ∧ w'.cell? ⟨w.heap.size + 1, 0, none⟩ = some (.string ⟨S.toArray⟩) ∧ w.heap.size + 2 ≤ w'.heap.size := by
  have hmf : ∀ (fn : Fn) (first cap : Array Value) (w : World), (Instr.makeFunc fn first cap).run Tryd.prog w = .ok (.func fn first cap) w := fun _ _ _ _ => rfl
  go_enter Tryd.func25, Tryd.ntmps25
  go_wp2
  have hn := heap_new ((w.alloc (.cells #[.string ⟨K.toArray⟩] 9)).alloc (.cells #[.string ⟨S.toArray⟩] 9)) (.cells #[.func (.func 35) #[] #[], .func (.func 36) #[] #[.pointer (some ⟨w.heap.size, 0, none⟩)], .func (.func 37) #[] #[.pointer (some ⟨w.heap.size, 0, none⟩), .pointer (some ⟨w.heap.size + 1, 0, none⟩)]] 56)
  rw [World.size_alloc, World.size_alloc] at hn
  refine ⟨rfl, _, results_cell_row rfl _ _ (w.heap.size + 1 + 1) 56 _ (0, 0) _ rfl hn Tryd.underlying56 rfl infoWays, rfl, ?_, ?_, ?_, by simp⟩
  · exact (((Below.refl _ _).alloc (Nat.le_refl _) _).alloc (by simp) _).alloc (by simp; omega) _
  · exact Lib.cell_of_heap (heap_old (heap_old (heap_new _ _) _) _) 0
  · have := heap_new (w.alloc (.cells #[.string ⟨K.toArray⟩] 9)) (.cells #[.string ⟨S.toArray⟩] 9)
    rw [World.size_alloc] at this
    exact Lib.cell_of_heap (heap_old this _) 0

def fitJ (r : Rg) (K S : List UInt8) : Nat → Bool
  | 0 => fit1 r
  | 1 => fit2 r K
  | _ => fit3 r K S
theorem fitS_at (r : Rg) (K S : List UInt8) (k : Nat) (hk : k < 3) (hp : ¬ 0 < r.params) (h0 : ∀ j, j < k → fitJ r K S j = false) (h : fitJ r K S k = true) : fitS r K S = k + 1 := by
  unfold fitS
  rw [if_neg hp]
  match k, hk with
  | 0, _ => have h : fit1 r = true := h; simp [h]
  | 1, _ => have a : fit1 r = false := h0 0 (by omega); have h : fit2 r K = true := h; simp [a, h]
  | 2, _ => have a : fit1 r = false := h0 0 (by omega); have b : fit2 r K = false := h0 1 (by omega); have h : fit3 r K S = true := h; simp [a, b, h]
theorem fitS_no (r : Rg) (K S : List UInt8) (h0 : ∀ j, j < 3 → fitJ r K S j = false) : fitS r K S = 0 := by
  unfold fitS
  have a : fit1 r = false := h0 0 (by omega); have b : fit2 r K = false := h0 1 (by omega); have c : fit3 r K S = false := h0 2 (by omega); simp [a, b, c]

theorem ways0 (b : Nat) : ∀ w, (Instr.index 56 (waysV b) (.int .i64 0)).run Tryd.prog w = .ok (.func (.func 35) #[] #[]) w := fun _ => by kernel_rfl
theorem ways1 (b : Nat) : ∀ w, (Instr.index 56 (waysV b) (.int .i64 1)).run Tryd.prog w = .ok (.func (.func 36) #[] #[.pointer (some ⟨b, 0, none⟩)]) w := fun _ => by kernel_rfl
theorem ways2 (b : Nat) : ∀ w, (Instr.index 56 (waysV b) (.int .i64 2)).run Tryd.prog w = .ok (.func (.func 37) #[] #[.pointer (some ⟨b, 0, none⟩), .pointer (some ⟨b + 1, 0, none⟩)]) w := fun _ => by kernel_rfl
set_option maxRecDepth 100000 in
set_option maxHeartbeats 400000 in
theorem fitsT_any (r : Rg) (K S : List UInt8) (w : World) :
    Calls Tryd.prog 18 #[r.enc, .string ⟨K.toArray⟩, .string ⟨S.toArray⟩] w fun e w' => e = .returned (.int .i64 (fitS r K S)) ∧ Below w.heap.size w w' := by
  have hidx0 := ways0 (w.heap.size + 1)
  have hidx1 := ways1 (w.heap.size + 1)
  have hidx2 := ways2 (w.heap.size + 1)
  unfold waysV at hidx0 hidx1 hidx2
  go_enter Tryd.func18, Tryd.ntmps18
  by_cases hp : 0 < r.params
  · have h0 : fitS r K S = 0 := by unfold fitS; rw [if_pos hp]
    rw [h0]
    unfold Rg.enc
    have hp' : ((0 : Int) < (r.params : Int)) = True := by simp; omega
    go_wp2
    go_ret
    exact ⟨rfl, (Below.refl _ _).alloc (Nat.le_refl _) _⟩
  · have hp' : ¬ ((0 : Int) < (r.params : Int)) := by omega
    unfold Rg.enc
    go_wp2_with (go_at_call 25; refine (ways_any K S _).mono ?_; rintro e w1 ⟨rfl, hb, hK, hS, hsz⟩; unfold waysV; try simp only [World.size_alloc])
    have hbox := below_heap hb (heap_new w _) (by simp)
    have hb1 : Below w.heap.size w w1 := ((Below.refl _ _).alloc (Nat.le_refl _) _).trans (hb.mono (by simp))
    simp only [World.size_alloc] at hK hS hsz
    have Hbox := Lib.hid hbox; clear hbox hb
    go_loopw [15] (fun i wr => ∃ k : Nat, i = .int .i64 k ∧ k ≤ 3 ∧ Hid (Below w1.heap.size w1 wr) ∧ Hid (∀ j, j < k → fitJ r K S j = false)) (fun i _ => 3 - (intOf i).toNat)
    case atStart => exact ⟨0, rfl, by omega, Below.refl _ _, fun j hj => absurd hj (by omega)⟩
    case round =>
      obtain ⟨k, rfl, hk, hbr, hno⟩ := hrel
      have hrc := below_heap hbr.out Hbox.out (lt_heap Hbox.out)
      have e0 := Lib.cell_of_heap hrc 0
      have e1 := Lib.cell_of_heap hrc 1
      have e2 := Lib.cell_of_heap hrc 2
      have e3 := Lib.cell_of_heap hrc 3
      have hK2 := (hbr.out.cell (p := ⟨w.heap.size + 1, 0, none⟩) (by dsimp only; omega)).trans hK
      have hS2 := (hbr.out.cell (p := ⟨w.heap.size + 1 + 1, 0, none⟩) (by dsimp only; omega)).trans hS
      simp at e0 e1 e2 e3
      clear hrc
      by_cases hk0 : k = 0
      · subst hk0
        cases hf : fitJ r K S 0
        · have Hf := Lib.hid hf
          have hno' : ∀ j, j < 0 + 1 → fitJ r K S j = false := fun j hj => by
            rcases Nat.lt_succ_iff_lt_or_eq.1 hj with h | rfl
            · exact hno.out j h
            · exact hf
          have Hno := Lib.hid hno'; clear hf hno'
          go_wp2_with (go_at_call 35; refine (fits1_any r  _).mono ?_; rintro e w2 ⟨rfl, hb2⟩; rw [show fit1 r = fitJ r K S 0 from rfl, Hf.out])
          go_roundw
          case rel => exact ⟨0 + 1, by rfl, by omega, acc hbr.out hb2, Hno⟩
          case measure => simp [intOf]
        · have hat := fitS_at r K S 0 (by omega) hp hno.out hf
          have Hf := Lib.hid hf; have Hat := Lib.hid hat; clear hf hat
          go_wp2_with (go_at_call 35; refine (fits1_any r  _).mono ?_; rintro e w2 ⟨rfl, hb2⟩; rw [show fit1 r = fitJ r K S 0 from rfl, Hf.out])
          go_ret
          rw [Hat.out]
          exact ⟨rfl, hb1.trans ((acc hbr.out hb2).mono (by omega))⟩
      by_cases hk1 : k = 1
      · subst hk1
        cases hf : fitJ r K S 1
        · have Hf := Lib.hid hf
          have hno' : ∀ j, j < 1 + 1 → fitJ r K S j = false := fun j hj => by
            rcases Nat.lt_succ_iff_lt_or_eq.1 hj with h | rfl
            · exact hno.out j h
            · exact hf
          have Hno := Lib.hid hno'; clear hf hno'
          go_wp2_with (go_at_call 36; refine (fits2_any r K ⟨w.heap.size + 1, 0, none⟩ _ hK2 (by dsimp only; have := hbr.out.size; omega)).mono ?_; rintro e w2 ⟨rfl, hb2⟩; rw [show fit2 r K = fitJ r K S 1 from rfl, Hf.out])
          go_roundw
          case rel => exact ⟨1 + 1, by rfl, by omega, acc hbr.out hb2, Hno⟩
          case measure => simp [intOf]
        · have hat := fitS_at r K S 1 (by omega) hp hno.out hf
          have Hf := Lib.hid hf; have Hat := Lib.hid hat; clear hf hat
          go_wp2_with (go_at_call 36; refine (fits2_any r K ⟨w.heap.size + 1, 0, none⟩ _ hK2 (by dsimp only; have := hbr.out.size; omega)).mono ?_; rintro e w2 ⟨rfl, hb2⟩; rw [show fit2 r K = fitJ r K S 1 from rfl, Hf.out])
          go_ret
          rw [Hat.out]
          exact ⟨rfl, hb1.trans ((acc hbr.out hb2).mono (by omega))⟩
      by_cases hk2 : k = 2
      · subst hk2
        cases hf : fitJ r K S 2
        · have Hf := Lib.hid hf
          have hno' : ∀ j, j < 2 + 1 → fitJ r K S j = false := fun j hj => by
            rcases Nat.lt_succ_iff_lt_or_eq.1 hj with h | rfl
            · exact hno.out j h
            · exact hf
          have Hno := Lib.hid hno'; clear hf hno'
          go_wp2_with (go_at_call 37; refine (fits3_any r K S ⟨w.heap.size + 1, 0, none⟩ ⟨w.heap.size + 1 + 1, 0, none⟩ _ hK2 (by dsimp only; have := hbr.out.size; omega) hS2 (by dsimp only; have := hbr.out.size; omega)).mono ?_; rintro e w2 ⟨rfl, hb2⟩; rw [show fit3 r K S = fitJ r K S 2 from rfl, Hf.out])
          go_roundw
          case rel => exact ⟨2 + 1, by rfl, by omega, acc hbr.out hb2, Hno⟩
          case measure => simp [intOf]
        · have hat := fitS_at r K S 2 (by omega) hp hno.out hf
          have Hf := Lib.hid hf; have Hat := Lib.hid hat; clear hf hat
          go_wp2_with (go_at_call 37; refine (fits3_any r K S ⟨w.heap.size + 1, 0, none⟩ ⟨w.heap.size + 1 + 1, 0, none⟩ _ hK2 (by dsimp only; have := hbr.out.size; omega) hS2 (by dsimp only; have := hbr.out.size; omega)).mono ?_; rintro e w2 ⟨rfl, hb2⟩; rw [show fit3 r K S = fitJ r K S 2 from rfl, Hf.out])
          go_ret
          rw [Hat.out]
          exact ⟨rfl, hb1.trans ((acc hbr.out hb2).mono (by omega))⟩
      have hk3 : k = 3 := by omega
      subst hk3
      have h0 := fitS_no r K S hno.out
      have H0 := Lib.hid h0; clear h0
      go_wp2
      go_ret
      rw [H0.out]
      exact ⟨rfl, hb1.trans (hbr.out.mono (by omega))⟩
end Go.Proofs.YtnlkmiieebahoaaDoor
