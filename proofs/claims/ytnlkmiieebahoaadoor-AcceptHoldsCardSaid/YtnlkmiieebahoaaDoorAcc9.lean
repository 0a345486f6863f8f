/- Contracts of package accept: the best range, Quality, Takes (conditions: none). -/
import Derived.Test.YtnlkmiieebahoaaDoorAcc8
set_option linter.unusedVariables false
set_option linter.unusedSimpArgs false
namespace Go.Proofs.YtnlkmiieebahoaaDoor
open Go.RowKit

set_option maxRecDepth 100000 in
set_option maxHeartbeats 400000 in
theorem quality1_any (r : Rg) (K S : List UInt8) (p q : Addr) (w : World) (hp : w.cell? p = some (.string ⟨K.toArray⟩)) (hpb : p.block < w.heap.size) (hq : w.cell? q = some (.string ⟨S.toArray⟩)) (hqb : q.block < w.heap.size) :
    Calls Tryd.prog 17 #[r.enc, .pointer (some p), .pointer (some q)] w fun e w' => e = .returned (.int .i64 (fitS r K S)) ∧ Below w.heap.size w w' := by
  have hp2 : ∀ o, (w.alloc o).cell? p = some (.string ⟨K.toArray⟩) := fun o => (((Below.refl _ _).alloc (Nat.le_refl _) _).cell hpb).trans hp
  have hq2 : ∀ o, (w.alloc o).cell? q = some (.string ⟨S.toArray⟩) := fun o => (((Below.refl _ _).alloc (Nat.le_refl _) _).cell hqb).trans hq
  have hc := fitsT_any r K S
  unfold Rg.enc at hc ⊢
  go_enter Tryd.func17, Tryd.ntmps17
  go_wp2_with (go_at_call 18; refine (hc _).mono ?_; rintro e w1 ⟨rfl, hb⟩)
  go_ret
  exact ⟨rfl, ((Below.refl _ _).alloc (Nat.le_refl _) _).trans (hb.mono (by simp))⟩

/-- the first of those that fit best. -/
def bestGo (K S : List UInt8) : Nat → Option Rg → List Rg → Option Rg
  | _, b, [] => b
  | most, b, r :: l => if most < fitS r K S then bestGo K S (fitS r K S) (some r) l else bestGo K S most b l
def bestS (K S : List UInt8) (l : List Rg) : Option Rg := bestGo K S 0 none l
def qualS (s K S : List UInt8) : Option Nat :=
  match readS s with
  | none => none
  | some l => if l = [] then some 1000 else match bestS K S l with | none => some 0 | some r => some r.quality

theorem encs_len (l : List Rg) : (encs l).length = l.length * 4 := by
  induction l with
  | nil => rfl
  | cons r l ih => simp [encs, Rg.cells] at ih ⊢; omega
theorem encs_at (l : List Rg) (k : Nat) (r : Rg) (h : l[k]? = some r) (i : Nat) (hi : i < 4) : (encs l)[k * 4 + i]? = r.cells[i]? := by
  induction l generalizing k with
  | nil => simp at h
  | cons a l ih =>
    cases k with
    | zero =>
      simp at h; subst h
      show (a.cells ++ encs l)[0 * 4 + i]? = _
      rw [List.getElem?_append_left (by simp [Rg.cells]; omega)]; simp
    | succ k =>
      simp at h
      show (a.cells ++ encs l)[(k + 1) * 4 + i]? = _
      rw [List.getElem?_append_right (by simp [Rg.cells]; omega), ← ih k h]
      congr 1
      simp [Rg.cells]; omega
/-- a range in a row, cell by cell. -/
theorem row_range {w : World} {base : Nat} {e : TypeId} {g n cap : Nat} {l : List Rg} (h : w.ownsRow base e 4 (.slice (some ⟨g, 0, none⟩) n cap) l.length (encs l)) (k : Nat) (r : Rg) (hk : l[k]? = some r) (i : Nat) (hi : i < 4) :
    w.cell? ⟨g, k * 4 + i, none⟩ = r.cells[i]? := by
  have h1 := encs_at l k r hk i hi
  have hu : ∃ u, r.cells[i]? = some u := by
    cases hh : r.cells[i]? with
    | some u => exact ⟨u, rfl⟩
    | none => simp [Rg.cells] at hh; omega
  obtain ⟨u, hu⟩ := hu
  have h2 := h.cells (g := g) rfl (k * 4 + i) u (h1.trans hu)
  have hadd : (⟨g, 0, none⟩ : Addr).add (k * 4 + i) = ⟨g, k * 4 + i, none⟩ := by unfold Addr.add; split <;> simp_all
  rw [hadd] at h2
  rw [h2, hu]
def bestC : Option Rg → Array Value
  | none => #[.string ⟨#[]⟩, .string ⟨#[]⟩, .int .i64 0, .int .i64 0]
  | some r => #[.string ⟨r.kind.toArray⟩, .string ⟨r.sub.toArray⟩, .int .i64 r.params, .int .i64 r.quality]
def bestV : Option Rg → Value
  | none => .agg #[.string ⟨#[]⟩, .string ⟨#[]⟩, .int .i64 0, .int .i64 0]
  | some r => r.enc

theorem results_cell_tmp_row {P : Program} {fn : Func} {p u : Tmp} {ty : TypeId} (h : fn.results = #[.cell p ty, .tmp u]) (tmps : Array Value) (w : World) (g : Nat) (t : TypeId) (cs : Array Value) (fr : Nat × Nat) (d : TypeDesc)
    (hp : tmps.getD p undef = .pointer (some ⟨g, 0, none⟩)) (hg : w.heap[g]? = some (.cells cs t fr))
    (hu : P.underlying ty = some d) (hd : (match d with | .struct _ | .array _ _ => true | _ => false) = true) (hi : (P.info? ty).map (·.size) = some cs.size) :
    (results fn tmps).run P w = .ok (.tuple #[.agg cs, tmps.getD u undef]) w := by
  rw [results_cell_tmp h, hp]
  simp [asAddr, run_loadVar_row w g t ty cs fr d hg hu hd hi]
set_option maxRecDepth 100000 in
set_option maxHeartbeats 400000 in
theorem best_any (v : Value) (base : Nat) (l : List Rg) (K S : List UInt8) (p q : Addr) (w : World) (hl : w.ownsRow base 33 4 v l.length (encs l)) (hlen : l.length ≤ 1000001)
    (hp : w.cell? p = some (.string ⟨K.toArray⟩)) (hpb : p.block < w.heap.size) (hq : w.cell? q = some (.string ⟨S.toArray⟩)) (hqb : q.block < w.heap.size) :
    Calls Tryd.prog 16 #[v, .func (.func 17) #[] #[.pointer (some p), .pointer (some q)]] w fun e w' =>
      e = .returned (.tuple #[bestV (bestS K S l), .bool (bestS K S l).isSome]) ∧ Below w.heap.size w w' := by
  obtain ⟨vp, vc, rfl⟩ : ∃ p c, v = .slice p l.length c := by
    rcases hl.2 with ⟨rfl, h⟩ | ⟨g, cap, cur, rfl, _⟩
    · rw [h]; exact ⟨_, _, rfl⟩
    · exact ⟨_, _, rfl⟩
  go_enter Tryd.func16, Tryd.ntmps16
  go_wp2
  go_loopw [5, 6, 12] (fun u m i wr => ∃ (k n : Nat) (b : Option Rg), i = .int .i64 k ∧ m = .int .i64 n ∧ u = .bool b.isSome ∧ k ≤ l.length ∧ Hid (wr.heap[w.heap.size]? = some (.cells (bestC b) 33) ∧ Below w.heap.size w wr ∧ bestGo K S n b (l.drop k) = bestS K S l))
    (fun u m i _ => l.length - (intOf i).toNat)
  case atStart => exact ⟨0, 0, none, rfl, rfl, rfl, by omega, heap_new _ _, (Below.refl _ _).alloc (Nat.le_refl _) _, rfl⟩
  case round =>
    obtain ⟨k, n, b, rfl, rfl, rfl, hk, hrel⟩ := hrel
    by_cases hlt : k < l.length
    · obtain ⟨g, rfl⟩ : ∃ g, vp = some ⟨g, 0, none⟩ := by
        rcases hl.2 with ⟨h, _⟩ | ⟨g, cap, cur, h, _⟩
        · injection h with h1 h2; omega
        · injection h with h1; exact ⟨g, h1⟩
      obtain ⟨r, hr⟩ : ∃ r, l[k]? = some r := ⟨_, List.getElem?_eq_getElem hlt⟩
      have hg := (row_block hl g rfl).2
      have hc := fun i hi => (hrel.out.2.1.cell (p := ⟨g, k * 4 + i, none⟩) hg).trans (row_range hl k r hr i hi)
      have c0 := hc 0 (by omega)
      have c1 := hc 1 (by omega)
      have c2 := hc 2 (by omega)
      have c3 := hc 3 (by omega)
      simp [Rg.cells] at c0 c1 c2 c3
      clear hc
      have hq1 := quality1_any r K S p q
      unfold Rg.enc at hq1
      obtain ⟨x0, x1, x2, x3, hbc⟩ : ∃ (x0 x1 : ByteArray) (x2 x3 : Int), bestC b = #[.string x0, .string x1, .int .i64 x2, .int .i64 x3] := by cases b <;> exact ⟨_, _, _, _, rfl⟩
      have hws := lt_heap hrel.out.1
      have hpX : ∀ o, (wr.alloc o).cell? p = some (.string ⟨K.toArray⟩) := fun o => (((hrel.out.2.1.alloc (by omega) _)).cell hpb).trans hp
      have hqX : ∀ o, (wr.alloc o).cell? q = some (.string ⟨S.toArray⟩) := fun o => (((hrel.out.2.1.alloc (by omega) _)).cell hqb).trans hq
      have hdr : l.drop k = r :: l.drop (k + 1) := by
        rw [List.drop_eq_getElem_cons hlt]; congr 1
        rw [List.getElem?_eq_getElem hlt] at hr; exact Option.some.inj hr
      have hstep : bestS K S l = if n < fitS r K S then bestGo K S (fitS r K S) (some r) (l.drop (k + 1)) else bestGo K S n b (l.drop (k + 1)) := by rw [← hrel.out.2.2, hdr, bestGo]
      have Hbc := Lib.hid hbc; have Hl := Lib.hid hl; have Hr := Lib.hid hr; clear hl hr hdr
      by_cases hgt : n < fitS r K S
      · rw [if_pos hgt] at hstep
        have Hstep := Lib.hid hstep; clear hstep
        have hgt' : ((n : Int) < (fitS r K S : Int)) := by omega
        go_wp2_with (go_at_call 17; refine (hq1 _ (hpX _) (by simp; omega) (hqX _) (by simp; omega)).mono ?_; rintro e w2 ⟨rfl, hb⟩; have hbx := below_heap hb (heap_new wr _) (by simp); have e0 := Lib.cell_of_heap hbx 0; have e1 := Lib.cell_of_heap hbx 1; have e2 := Lib.cell_of_heap hbx 2; have e3 := Lib.cell_of_heap hbx 3; simp at e0 e1 e2 e3; have hres := below_heap hb (heap_old hrel.out.1 _) (by simp; omega); rw [hbc] at hres; have g0 := Lib.cell_of_heap hres 0; have g1 := Lib.cell_of_heap hres 1; have g2 := Lib.cell_of_heap hres 2; have g3 := Lib.cell_of_heap hres 3; simp at g0 g1 g2 g3; have f0 := Lib.frozen_of_heap hres 0; have f1 := Lib.frozen_of_heap hres 1; have f2 := Lib.frozen_of_heap hres 2; have f3 := Lib.frozen_of_heap hres 3; have Hres := Lib.hid hres; clear hres hbx)
        go_roundw
        case rel =>
          have hw2 : Below w.heap.size w w2 := (hrel.out.2.1.alloc (by omega) _).trans (hb.mono (by simp; omega))
          have h4 := heap_setCell (heap_setCell (heap_setCell (heap_setCell Hres.out 0 (.string ⟨r.kind.toArray⟩)) 1 (.string ⟨r.sub.toArray⟩)) 2 (.int .i64 r.params)) 3 (.int .i64 r.quality)
          have hw3 : Below w.heap.size w ((((w2.setCell ⟨w.heap.size, 0, none⟩ (.string ⟨r.kind.toArray⟩)).setCell ⟨w.heap.size, 1, none⟩ (.string ⟨r.sub.toArray⟩)).setCell ⟨w.heap.size, 2, none⟩ (.int .i64 r.params)).setCell ⟨w.heap.size, 3, none⟩ (.int .i64 r.quality)) :=
            hw2.trans (Only.below ((((Only.refl (fun k => k = w.heap.size) w2).setCell ⟨w.heap.size, 0, none⟩ (fun _ => rfl) _).setCell ⟨w.heap.size, 1, none⟩ (fun _ => rfl) _).setCell ⟨w.heap.size, 2, none⟩ (fun _ => rfl) _ |>.setCell ⟨w.heap.size, 3, none⟩ (fun _ => rfl) _) hw2.size (fun k hk => by omega))
          exact ⟨k + 1, fitS r K S, some r, by go_num, rfl, rfl, by omega, h4, hw3, Hstep.out.symm⟩
        case measure => simp [intOf]; omega
      · rw [if_neg hgt] at hstep
        have Hstep := Lib.hid hstep; clear hstep
        have hgt' : ¬ ((n : Int) < (fitS r K S : Int)) := by omega
        go_wp2_with (go_at_call 17; refine (hq1 _ (hpX _) (by simp; omega) (hqX _) (by simp; omega)).mono ?_; rintro e w2 ⟨rfl, hb⟩; have hbx := below_heap hb (heap_new wr _) (by simp); have e0 := Lib.cell_of_heap hbx 0; have e1 := Lib.cell_of_heap hbx 1; have e2 := Lib.cell_of_heap hbx 2; have e3 := Lib.cell_of_heap hbx 3; simp at e0 e1 e2 e3; have hres := below_heap hb (heap_old hrel.out.1 _) (by simp; omega); rw [hbc] at hres; have g0 := Lib.cell_of_heap hres 0; have g1 := Lib.cell_of_heap hres 1; have g2 := Lib.cell_of_heap hres 2; have g3 := Lib.cell_of_heap hres 3; simp at g0 g1 g2 g3; have f0 := Lib.frozen_of_heap hres 0; have f1 := Lib.frozen_of_heap hres 1; have f2 := Lib.frozen_of_heap hres 2; have f3 := Lib.frozen_of_heap hres 3; have Hres := Lib.hid hres; clear hres hbx)
        go_roundw
        case rel =>
          have hw2 : Below w.heap.size w w2 := (hrel.out.2.1.alloc (by omega) _).trans (hb.mono (by simp; omega))
          exact ⟨k + 1, n, b, by go_num, rfl, rfl, by omega, by rw [Hbc.out]; exact Hres.out, hw2, Hstep.out.symm⟩
        case measure => simp [intOf]; omega
    · have hkl : k = l.length := by omega
      subst hkl
      have hend : b = bestS K S l := by have := hrel.out.2.2; rwa [List.drop_length, bestGo] at this
      have hres := hrel.out.1
      have hbw := hrel.out.2.1
      have f0 := Lib.frozen_of_heap hres 0
      have f1 := Lib.frozen_of_heap hres 1
      have f2 := Lib.frozen_of_heap hres 2
      have f3 := Lib.frozen_of_heap hres 3
      obtain ⟨x0, x1, x2, x3, hbc⟩ : ∃ (x0 x1 : ByteArray) (x2 x3 : Int), bestC b = #[.string x0, .string x1, .int .i64 x2, .int .i64 x3] := by cases b <;> exact ⟨_, _, _, _, rfl⟩
      have hbv : bestV b = .agg #[.string x0, .string x1, .int .i64 x2, .int .i64 x3] := by rw [← hbc]; cases b <;> rfl
      rw [hbc] at hres
      have g0 := Lib.cell_of_heap hres 0
      have g1 := Lib.cell_of_heap hres 1
      have g2 := Lib.cell_of_heap hres 2
      have g3 := Lib.cell_of_heap hres 3
      simp at g0 g1 g2 g3
      have Hres := Lib.hid hres; have Hend := Lib.hid hend; have Hbv := Lib.hid hbv; have Hbc := Lib.hid hbc; clear hres hend hbv hbc
      go_wp2
      have h4 := heap_setCell (heap_setCell (heap_setCell (heap_setCell Hres.out 0 (.string x0)) 1 (.string x1)) 2 (.int .i64 x2)) 3 (.int .i64 x3)
      have hw3 : Below w.heap.size w ((((wr.setCell ⟨w.heap.size, 0, none⟩ (.string x0)).setCell ⟨w.heap.size, 1, none⟩ (.string x1)).setCell ⟨w.heap.size, 2, none⟩ (.int .i64 x2)).setCell ⟨w.heap.size, 3, none⟩ (.int .i64 x3)) :=
        hbw.trans (Only.below ((((Only.refl (fun k => k = w.heap.size) wr).setCell ⟨w.heap.size, 0, none⟩ (fun _ => rfl) _).setCell ⟨w.heap.size, 1, none⟩ (fun _ => rfl) _).setCell ⟨w.heap.size, 2, none⟩ (fun _ => rfl) _ |>.setCell ⟨w.heap.size, 3, none⟩ (fun _ => rfl) _) hbw.size (fun k hk => by omega))
      refine ⟨rfl, _, results_cell_tmp_row rfl _ _ w.heap.size 33 #[.string x0, .string x1, .int .i64 x2, .int .i64 x3] (0, 0) _ rfl (h4.trans (by simp)) Tryd.underlying33 rfl infoRange, ?_, hw3⟩
      rw [← Hend.out, Hbv.out]; rfl

theorem parse_none (s : List UInt8) (hs : s.length ≤ 1000000) (hr : readS s = none) (w : World) :
    Calls Tryd.prog 9 #[.string ⟨s.toArray⟩] w fun e w' => e = .returned (.tuple #[.slice none 0 0, .int .i64 220]) ∧ Below w.heap.size w w' := by
  refine (parse_any ⟨s.toArray⟩ hs w).mono ?_
  rintro e w' ⟨v, rfl, h1, _, hb⟩
  rw [show (⟨s.toArray⟩ : ByteArray).data.toList = s from rfl] at h1 ⊢
  rw [h1 hr, hr]
  exact ⟨rfl, hb⟩
theorem parse_some (s : List UInt8) (l : List Rg) (hs : s.length ≤ 1000000) (hr : readS s = some l) (w : World) :
    Calls Tryd.prog 9 #[.string ⟨s.toArray⟩] w fun e w' => ∃ p c, e = .returned (.tuple #[.slice p l.length c, .int .i64 0]) ∧ w'.ownsRow w.heap.size 33 4 (.slice p l.length c) l.length (encs l) ∧ l.length ≤ 1000001 ∧ Below w.heap.size w w' := by
  refine (parse_any ⟨s.toArray⟩ hs w).mono ?_
  rintro e w' ⟨v, rfl, _, h2, hb⟩
  rw [show (⟨s.toArray⟩ : ByteArray).data.toList = s from rfl] at h2 ⊢
  obtain ⟨hrow, hlen⟩ := h2 l hr
  rw [hr]
  rcases hrow.2 with ⟨rfl, h⟩ | ⟨g, cap, cur, rfl, _⟩
  · rw [h] at hrow hlen ⊢; exact ⟨_, _, rfl, hrow, hlen, hb⟩
  · exact ⟨_, _, rfl, hrow, hlen, hb⟩

set_option maxRecDepth 100000 in
set_option maxHeartbeats 400000 in
theorem quality_any (s K S : List UInt8) (hs : s.length ≤ 1000000) (w : World) :
    Calls Tryd.prog 11 #[.string ⟨s.toArray⟩, .string ⟨K.toArray⟩, .string ⟨S.toArray⟩] w fun e w' =>
      e = .returned (.tuple #[.int .i64 ((qualS s K S).getD 0 : Nat), .int .i64 (if (qualS s K S).isSome then 0 else 220)]) ∧ Below w.heap.size w w' := by
  have hnot : ∀ (x : Bool) (w : World), (Op.unary .not (.bool x)).run Tryd.prog w = .ok (.bool (!x)) w := fun _ _ => rfl
  have hmf : ∀ (fn : Fn) (first cap : Array Value) (w : World), (Instr.makeFunc fn first cap).run Tryd.prog w = .ok (.func fn first cap) w := fun _ _ _ _ => rfl
  have hb0 : Below w.heap.size w ((w.alloc (.cells #[.string ⟨K.toArray⟩] 9)).alloc (.cells #[.string ⟨S.toArray⟩] 9)) := ((Below.refl _ _).alloc (Nat.le_refl _) _).alloc (by simp) _
  have k0 : ((w.alloc (.cells #[.string ⟨K.toArray⟩] 9)).alloc (.cells #[.string ⟨S.toArray⟩] 9)).heap[w.heap.size]? = some (.cells #[.string ⟨K.toArray⟩] 9) := heap_old (heap_new _ _) _
  have k1 : ((w.alloc (.cells #[.string ⟨K.toArray⟩] 9)).alloc (.cells #[.string ⟨S.toArray⟩] 9)).heap[w.heap.size + 1]? = some (.cells #[.string ⟨S.toArray⟩] 9) := by
    have := heap_new (w.alloc (.cells #[.string ⟨K.toArray⟩] 9)) (.cells #[.string ⟨S.toArray⟩] 9); rwa [World.size_alloc] at this
  have hsz0 : ((w.alloc (.cells #[.string ⟨K.toArray⟩] 9)).alloc (.cells #[.string ⟨S.toArray⟩] 9)).heap.size = w.heap.size + 2 := by simp
  go_enter Tryd.func11, Tryd.ntmps11
  cases hr : readS s with
  | none =>
    have hq : qualS s K S = none := by rw [qualS, hr]
    rw [hq]
    clear hq
    go_wp2_with (go_at_call 9; refine (parse_none s hs hr _).mono ?_; rintro e w1 ⟨rfl, hb⟩)
    go_ret2
    exact ⟨rfl, hb0.trans (hb.mono (by rw [hsz0]; omega))⟩
  | some l =>
    cases l with
    | nil =>
      have hq : qualS s K S = some 1000 := by rw [qualS, hr]; rfl
      rw [hq]
      clear hq
      go_wp2_with (go_at_call 9; refine (parse_some s [] hs hr _).mono ?_; rintro e w1 ⟨p, c, rfl, hrow, hlen, hb⟩)
      go_ret2
      exact ⟨rfl, hb0.trans (hb.mono (by rw [hsz0]; omega))⟩
    | cons r0 l0 =>
      have hq : qualS s K S = match bestS K S (r0 :: l0) with | none => some 0 | some r => some r.quality := by rw [qualS, hr]; rfl
      have Hq := Lib.hid hq; clear hq
      cases hbst : bestS K S (r0 :: l0) with
      | none =>
        have hq0 : qualS s K S = some 0 := by rw [Hq.out, hbst]
        rw [hq0]; clear hq0
        have Hbst := Lib.hid hbst; clear hbst
        go_wp2_with (first
          | (go_at_call 9; refine (parse_some s (r0 :: l0) hs hr _).mono ?_; rintro e w1 ⟨p, c, rfl, hrow, hlen, hb⟩; have hl0 : ((r0 :: l0).length : Int) = (l0.length : Int) + 1 := by simp)
          | (go_at_call 16; refine (best_any _ _ (r0 :: l0) K S ⟨w.heap.size, 0, none⟩ ⟨w.heap.size + 1, 0, none⟩ _ hrow hlen (Lib.cell_of_heap (below_heap hb k0 (by omega)) 0) (by have := hb.size; dsimp only; omega) (Lib.cell_of_heap (below_heap hb k1 (by omega)) 0) (by have := hb.size; dsimp only; omega)).mono ?_; rintro e w2 ⟨rfl, hb2⟩; rw [Hbst.out]; simp only [bestV, Option.isSome_none]))
        go_ret2
        refine ⟨rfl, hb0.trans ?_⟩
        have h3 := acc hb hb2
        exact (h3.mono (by rw [hsz0]; omega)).alloc (by have := h3.size; omega) _
      | some r =>
        have hq0 : qualS s K S = some r.quality := by rw [Hq.out, hbst]
        rw [hq0]; clear hq0
        have Hbst := Lib.hid hbst; clear hbst
        go_wp2_with (first
          | (go_at_call 9; refine (parse_some s (r0 :: l0) hs hr _).mono ?_; rintro e w1 ⟨p, c, rfl, hrow, hlen, hb⟩; have hl0 : ((r0 :: l0).length : Int) = (l0.length : Int) + 1 := by simp)
          | (go_at_call 16; refine (best_any _ _ (r0 :: l0) K S ⟨w.heap.size, 0, none⟩ ⟨w.heap.size + 1, 0, none⟩ _ hrow hlen (Lib.cell_of_heap (below_heap hb k0 (by omega)) 0) (by have := hb.size; dsimp only; omega) (Lib.cell_of_heap (below_heap hb k1 (by omega)) 0) (by have := hb.size; dsimp only; omega)).mono ?_; rintro e w2 ⟨rfl, hb2⟩; rw [Hbst.out]; simp only [bestV, Rg.enc, Option.isSome_some]))
        go_ret2
        refine ⟨rfl, hb0.trans ?_⟩
        have h3 := acc hb hb2
        exact (h3.mono (by rw [hsz0]; omega)).alloc (by have := h3.size; omega) _
end Go.Proofs.YtnlkmiieebahoaaDoor
