/- Contracts of strings.Builder: a byte written, the text told (conditions: none). -/
import Derived.Test.YtnlkmiieebahoaaDoorBase
import Derived.Test.YtnlkmiieebahoaaDoorShelf
set_option linter.unusedVariables false
set_option linter.unusedSimpArgs false
namespace Go.Proofs.YtnlkmiieebahoaaDoor
open Go.RowKit

/-- a builder in a block of its own, v its buffer, which holds l. -/
def Bld (B : Nat) (w : World) (b : Nat) (v : Value) (l : List UInt8) : Prop :=
  B ≤ b ∧ ∃ p, (p = .pointer none ∨ p = .pointer (some ⟨b, 0, none⟩)) ∧ w.heap[b]? = some (.cells #[p, v] 93) ∧ w.ownsRow B 5 1 v l.length (Lib.byteCells l) ∧ v.ownBlock ≠ some b

theorem bld_new (B : Nat) (w : World) (hB : B ≤ w.heap.size) : Bld B (w.alloc (.cells #[.pointer none, .slice none 0 0] 93)) w.heap.size (.slice none 0 0) [] :=
  ⟨hB, _, .inl rfl, heap_new _ _, World.ownsRow_nil _ _ _ _, by simp [Value.ownBlock]⟩
theorem Bld.is {B : Nat} {w : World} {b : Nat} {v : Value} {l : List UInt8} (h : Bld B w b v l) : Lib.IsBuilder 93 5 B b (Lib.byteCells l) w := by
  obtain ⟨hB, p, hp, hb, ho, hn⟩ := h
  have hl : (Lib.byteCells l).length = l.length := by simp [Lib.byteCells]
  rcases hp with rfl | rfl
  · exact .inl ⟨hB, v, hb, by rw [hl]; exact ho, hn⟩
  · exact .inr ⟨hB, v, hb, by rw [hl]; exact ho, hn⟩
theorem Bld.lt {B : Nat} {w : World} {b : Nat} {v : Value} {l : List UInt8} (h : Bld B w b v l) : b < w.heap.size := by
  obtain ⟨_, p, _, hb, _⟩ := h; exact lt_heap hb
/-- a builder stands through whatever turns neither its block nor its buffer. -/
theorem Bld.keep {B : Nat} {S : Nat → Prop} {w w' : World} {b : Nat} {v : Value} {l : List UInt8} (h : Bld B w b v l) (ho : Only S w w') (h1 : ¬ S b) (h2 : ∀ k, v.ownBlock = some k → ¬ S k) : Bld B w' b v l := by
  obtain ⟨hB, p, hp, hb, hr, hn⟩ := h
  refine ⟨hB, p, hp, ho.heap hb h1, ?_, hn⟩
  refine ⟨hr.1, ?_⟩
  rcases hr.2 with h | ⟨g, cap, cur, hv, hg, hh, rest⟩
  · exact .inl h
  · exact .inr ⟨g, cap, cur, hv, hg, ho.heap hh (h2 g (by rw [hv]; rfl)), rest⟩

theorem sizeBuilder : ∃ j, Tryd.prog.info? 93 = some j ∧ j.size = 2 := Option.map_eq_some_iff.1 (show (Tryd.prog.info? 93).map (·.size) = some 2 by kernel_rfl)
theorem liesBuilder : liesAt Tryd.prog Tryd.prog.depth 93 (2 / Tryd.prog.cellsOf 93) 0 93 1 = true := by kernel_rfl

set_option maxRecDepth 100000 in
set_option maxHeartbeats 400000 in
theorem copyCheck_fresh (b : Nat) (v : Value) (w : World) (hb : w.heap[b]? = some (.cells #[.pointer none, v] 93)) :
    Calls Tryd.prog 66 #[.pointer (some ⟨b, 0, none⟩)] w fun e w' => e = .returned (.tuple #[]) ∧ w' = w.setCell ⟨b, 0, none⟩ (.pointer (some ⟨b, 0, none⟩)) := by
  obtain ⟨j, hj, hjs⟩ := sizeBuilder
  have h0 : w.cell? ⟨b, 0, none⟩ = some (.pointer none) := Lib.cell_of_heap hb 0
  have hfz : w.frozen? ⟨b, 0, none⟩ = false := Lib.frozen_of_heap hb 0
  have hsh : w.shape? b = some (93, 2) := by simp [World.shape?, hb]
  have HB := Lib.hid hb; clear hb
  have hto := Lib.run_to_unsafe (P := Tryd.prog) w ⟨b, 0, none⟩ Tryd.underlying91 Tryd.underlying109 hj (by rw [hjs]; decide) hsh (Nat.zero_lt_succ 1)
  have hfrom := Lib.run_from_unsafe (P := Tryd.prog) w ⟨b, 0, none⟩ Tryd.underlying109 Tryd.underlying91 hj hsh liesBuilder
  have hne : ∀ (x : Value) (w : World), (callFunc 72 #[x]).run Tryd.prog w = .ok (.value x) w := fun x w => by
    rw [run_callFunc_extern Tryd.func72 (by kernel_rfl) (by kernel_rfl) (by kernel_rfl) (e := Extern.AbiNoEscape.same) (by kernel_rfl), Lib.run_noEscape]; rfl
  clear hj hjs hsh
  go_enter Tryd.func66, Tryd.ntmps66
  go_wp2
  go_end0
  exact ⟨rfl, rfl⟩
set_option maxRecDepth 100000 in
set_option maxHeartbeats 400000 in
theorem copyCheck_used (b : Nat) (v : Value) (w : World) (hb : w.heap[b]? = some (.cells #[.pointer (some ⟨b, 0, none⟩), v] 93)) :
    Calls Tryd.prog 66 #[.pointer (some ⟨b, 0, none⟩)] w fun e w' => e = .returned (.tuple #[]) ∧ w' = w := by
  obtain ⟨j, hj, hjs⟩ := sizeBuilder
  have h0 : w.cell? ⟨b, 0, none⟩ = some (.pointer (some ⟨b, 0, none⟩)) := Lib.cell_of_heap hb 0
  have hnq := fun (w : World) => Lib.run_neq_ptr_same (P := Tryd.prog) w ⟨b, 0, none⟩ Tryd.underlying91 hj
  clear hb hj hjs
  go_enter Tryd.func66, Tryd.ntmps66
  go_wp2
  go_end0
  exact ⟨rfl, rfl⟩

theorem copyCheck_any (B b : Nat) (v : Value) (l : List UInt8) (w : World) (h : Bld B w b v l) :
    Calls Tryd.prog 66 #[.pointer (some ⟨b, 0, none⟩)] w fun e w' => e = .returned (.tuple #[]) ∧ Bld B w' b v l ∧ w'.heap[b]? = some (.cells #[.pointer (some ⟨b, 0, none⟩), v] 93) ∧ Only (fun k => k = b) w w' := by
  obtain ⟨hB, p, hp, hb, hr, hn⟩ := h
  rcases hp with rfl | rfl
  · refine (copyCheck_fresh b v w hb).mono ?_
    rintro e w' ⟨rfl, rfl⟩
    have h2 := heap_setCell hb 0 (.pointer (some ⟨b, 0, none⟩))
    refine ⟨rfl, ⟨hB, _, .inr rfl, h2, ⟨hr.1, ?_⟩, hn⟩, h2, only1 _ _ _ _⟩
    rcases hr.2 with h | ⟨g, cap, cur, hv, hg, hh, rest⟩
    · exact .inl h
    · exact .inr ⟨g, cap, cur, hv, hg, (only1 w b 0 _).heap hh (fun e => hn (by rw [hv, ← e]; rfl)), rest⟩
  · refine (copyCheck_used b v w hb).mono ?_
    rintro e w' ⟨rfl, rfl⟩
    exact ⟨rfl, ⟨hB, _, .inr rfl, hb, hr, hn⟩, hb, Only.refl _ _⟩

theorem infoByte : (Tryd.prog.info? 5).map (fun i => (i.zero, i.size, i.bytes)) = some (some (.int .u8 0), 1, 1) := by kernel_rfl

set_option maxRecDepth 100000 in
set_option maxHeartbeats 800000 in
theorem writeByte_any (B b : Nat) (v : Value) (l : List UInt8) (c : UInt8) (w : World) (h : Bld B w b v l) (hlen : l.length + 1 ≤ 140737488355328) (hBw : B ≤ w.heap.size) :
    Calls Tryd.prog 57 #[.pointer (some ⟨b, 0, none⟩), .int .u8 c.toNat] w fun e w' => e = .returned .nilIface ∧ ∃ v', Bld B w' b v' (l ++ [c]) ∧ Only (fun k => k = b ∨ v.ownBlock = some k) w w' ∧
      (∀ k, v'.ownBlock = some k → v.ownBlock = some k ∨ w.heap.size ≤ k) := by
  obtain ⟨i0, hi, hz0, hz1, hz2⟩ := info_parts infoByte
  have hll : (Lib.byteCells l).length = l.length := by simp [Lib.byteCells]
  go_enter Tryd.func57, Tryd.ntmps57
  go_wp2_with (go_at_call 66; refine (copyCheck_any B b v l _ h).mono ?_)
  rintro e w1 ⟨rfl, hbl, hbk, ho1⟩
  obtain ⟨hB, _, _, _, hown, hne⟩ := hbl
  have c0 : w1.cell? ⟨b, 0, none⟩ = some (.pointer (some ⟨b, 0, none⟩)) := by rw [Lib.cell_of_heap hbk]; rfl
  have c1 : w1.cell? ⟨b, 1, none⟩ = some v := by rw [Lib.cell_of_heap hbk]; rfl
  go_wp2_with (at_builtin; refine wpList_append_own_at _ rfl _ _ 76 rfl B 5 i0 (.int .u8 0) 1 1 Tryd.underlying76 hi hz0 hz1 hz2 rfl (by decide) _ _ _ rfl (hown.alloc _) ⟨w1.heap.size, 0, none⟩ 1 1 [.int .u8 c.toNat] rfl rfl ?c1 ?c2 ?c3 ?c4 ?c5 ?_)
  case c1 => exact cell_one_new _ _ _
  case c2 => intro u hu; simp at hu; subst hu; rfl
  case c3 => unfold maxLen; omega
  case c4 => omega
  case c5 => have := ho1.size; simp; omega
  intro v' w2 hown' hgrow _ hat
  have hlt : b < w1.heap.size := lt_heap hbk
  have hb2 : w2.heap[b]? = some (.cells #[.pointer (some ⟨b, 0, none⟩), v] 93) := by
    rw [hgrow.block b (by simp; omega) (fun e => hne e.symm)]
    exact heap_old hbk _
  have d0 : w2.cell? ⟨b, 0, none⟩ = some (.pointer (some ⟨b, 0, none⟩)) := by rw [Lib.cell_of_heap hb2]; rfl
  have d1 : w2.cell? ⟨b, 1, none⟩ = some v := by rw [Lib.cell_of_heap hb2]; rfl
  have f1 : w2.frozen? ⟨b, 1, none⟩ = false := Lib.frozen_of_heap hb2 1
  obtain ⟨g, cap, rfl⟩ : ∃ g cap, v' = .slice (some ⟨g, 0, none⟩) (l.length + 1) cap := by
    rcases hown'.2 with ⟨_, h0⟩ | ⟨g, cap, cur, hv, _⟩
    · omega
    · exact ⟨g, cap, hv⟩
  have ho2 : Only (fun k => k = b ∨ v.ownBlock = some k) w w2 := (ho1.mono (fun _ _ x => .inl x)).next (T := fun k => v.ownBlock = some k)
    ⟨hgrow.os, hgrow.tape, hgrow.output, Nat.le_trans (by simp) hgrow.size, fun k hk hs => (hgrow.block k (by simp; omega) (fun e => hs e.symm)).trans (Below.heap_alloc _ _ _ hk)⟩ (fun i _ e => .inr e)
  have hs1 := ho1.size
  have Hat := Lib.hid hat; have Ho2 := Lib.hid ho2; have Ho1 := Lib.hid ho1; have Hown := Lib.hid hown'; have Hg := Lib.hid hgrow; clear hat ho2 ho1 hown' hgrow
  have Hb2 := Lib.hid hb2; have Hbk := Lib.hid hbk; have Hh := Lib.hid h; clear hb2 hbk h hll hown
  go_wp2
  go_ret
  refine ⟨rfl, .slice (some ⟨g, 0, none⟩) (l.length + 1) cap, ?_, ?_, ?_⟩
  · have hown' := Hown.out
    have hp := Lib.BuilderAt.put (T := 93) (e := 5) hB Hb2.out (bs' := Lib.byteCells l ++ [.int .u8 c.toNat]) (v' := .slice (some ⟨g, 0, none⟩) (l.length + 1) cap) (by simpa [Lib.byteCells] using hown') (by decide)
    obtain ⟨h1, v2, h2, h3, h4⟩ := hp
    have e2 := (heap_setCell Hb2.out 1 (.slice (some ⟨g, 0, none⟩) (l.length + 1) cap)).symm.trans h2
    simp at e2
    subst e2
    exact ⟨hB, _, .inr rfl, h2, by simpa [Lib.byteCells] using h3, h4⟩
  · exact Ho2.out.setCell ⟨b, 1, none⟩ (fun _ => .inl rfl) _
  · intro k hk
    rcases Hat.out with h | h
    · exact .inl (h ▸ hk)
    · rw [h] at hk; simp at hk; exact .inr (by omega)

theorem string_any (B b : Nat) (v : Value) (l : List UInt8) (w : World) (h : Bld B w b v l) (hBw : B ≤ w.heap.size) :
    Calls Tryd.prog 56 #[.pointer (some ⟨b, 0, none⟩)] w fun e w' => e = .returned (.string ⟨l.toArray⟩) ∧ Below B w w' := Tryd.Builder_String_any B b l w h.is hBw
end Go.Proofs.YtnlkmiieebahoaaDoor
