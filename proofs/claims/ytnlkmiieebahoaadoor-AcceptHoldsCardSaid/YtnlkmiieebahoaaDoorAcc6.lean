/- Contracts of package accept: caught as a deferred call in the wide fence (conditions: none). -/
import Derived.Test.YtnlkmiieebahoaaDoorAcc5
set_option linter.unusedVariables false
set_option linter.unusedSimpArgs false
namespace Go.Proofs.YtnlkmiieebahoaaDoor
open Go.RowKit

theorem wpSIn_seq_k {P : Program} {Q : Exit → Act → List Frame → World → Prop} {a : Act} {cs : List Frame} {w : World} {x y : Code} {F : Fence} {n : Nat}
    (h : ∀ K : Act → List Frame → World → Prop, (∀ a cs w, y.wpSIn F n P Q a cs w → K a cs w) → x.wpSIn F n P (Exit.thenS K Q) a cs w) : (Code.seq x y).wpSIn F n P Q a cs w := wpSIn_seq (h _ fun _ _ _ h => h)

set_option maxRecDepth 100000 in
set_option maxHeartbeats 400000 in
theorem caughtIn_yes (p : Addr) (x n : Int) (w : World) (hc : w.cell? p = some (.int .i64 x)) (hz : w.frozen? p = false) (m : Nat) :
    CallsDIn Fence.wide m Tryd.prog 20 #[.pointer (some p)] (.panicking (giveUp n)) w fun e u' w' =>
      e = .returned (.tuple #[]) ∧ u' = .panicking [{ v := .iface 29 (.int .i64 n), recovered := true }] ∧ w' = w.setCell p (.int .i64 n) := by
  refine callsDIn_of_wpSIn Tryd.func20 rfl trivial fun c₀ cs hu => ?_
  simp only [Tryd.ntmps20, List.size_toArray, List.length_cons, List.length_nil, Nat.reduceAdd, Nat.reduceSub, Array.replicate_succ, Array.replicate_zero, List.push_toArray, List.append_toArray, List.nil_append, List.cons_append]
  unfold giveUp at hu
  have hwf : ∀ g, Fence.wide.fn g := fun _ => trivial
  have hnot : ∀ (x : Bool) (w : World), (Op.unary .not (.bool x)).run Tryd.prog w = .ok (.bool (!x)) w := fun _ _ => rfl
  refine wpSIn_seq_k fun K hK => ?_
  refine wpSIn_region ?_
  simp [wpOpsSIn, go_sem, recoverD, hu, Exit.thenS, hwf]
  apply hK
  refine wpSIn_of_wpIn rfl ?_
  clear hK K hu
  have hta : ∀ w, (Instr.typeAssert (.iface 29 (.int .i64 n)) 20 29 true).run Tryd.prog w = .ok (.tuple #[.int .i64 n, .bool true]) w := fun _ => by kernel_rfl
  gi_wp2
  exact ⟨rfl, _, rfl, _, results_none rfl _ _ _, rfl, rfl, rfl⟩
set_option maxRecDepth 100000 in
set_option maxHeartbeats 400000 in
theorem caughtIn_idle (p : Addr) (w : World) (m : Nat) :
    CallsDIn Fence.wide m Tryd.prog 20 #[.pointer (some p)] .returning w fun e u' w' => e = .returned (.tuple #[]) ∧ u' = .returning ∧ w' = w := by
  refine callsDIn_of_wpSIn Tryd.func20 rfl trivial fun c₀ cs hu => ?_
  simp only [Tryd.ntmps20, List.size_toArray, List.length_cons, List.length_nil, Nat.reduceAdd, Nat.reduceSub, Array.replicate_succ, Array.replicate_zero, List.push_toArray, List.append_toArray, List.nil_append, List.cons_append]
  have hwf : ∀ g, Fence.wide.fn g := fun _ => trivial
  refine wpSIn_seq_k fun K hK => ?_
  refine wpSIn_region ?_
  simp [wpOpsSIn, go_sem, recoverD, hu, Exit.thenS, hwf]
  apply hK
  refine wpSIn_of_wpIn rfl ?_
  clear hK K
  have Hu := Lib.hid hu; clear hu
  gi_wp2
  exact ⟨rfl, .returning, by rw [← Hu.out], _, results_none rfl _ _ _, rfl, rfl, rfl⟩

/-- leaving with 'defer caught(&e)': a panic of ours is caught. -/
theorem leaves_caught {fn : Func} {tmps : Array Value} {R : Ending → World → Prop} {p : Addr} {x n : Int} {w : World} (hc : w.cell? p = some (.int .i64 x)) (hz : w.frozen? p = false)
    (hr : LeavesInM Fence.wide 0 Tryd.prog fn tmps R [] .returning (w.setCell p (.int .i64 n))) :
    LeavesInM Fence.wide 0 Tryd.prog fn tmps R [{ target := .fn (.func 20) #[], args := #[.pointer (some p)] }] (.panicking (giveUp n)) w := by
  refine ⟨by simp, .inr ⟨fun h => by simp [Fence.wide] at h, _, _, 20, #[.pointer (some p)], rfl, ?_, fun _ _ => trivial, ?_⟩⟩
  · rfl
  · refine CallsDIn.mono (caughtIn_yes p x n w hc hz _) ?_
    rintro e u' w' ⟨rfl, rfl, rfl⟩
    exact hr
theorem leaves_idle {fn : Func} {tmps : Array Value} {R : Ending → World → Prop} {p : Addr} {w : World}
    (hr : LeavesInM Fence.wide 0 Tryd.prog fn tmps R [] .returning w) :
    LeavesInM Fence.wide 0 Tryd.prog fn tmps R [{ target := .fn (.func 20) #[], args := #[.pointer (some p)] }] .returning w := by
  refine ⟨by simp, .inr ⟨fun h => by simp [Fence.wide] at h, _, _, 20, #[.pointer (some p)], rfl, ?_, fun _ _ => trivial, ?_⟩⟩
  · rfl
  · refine CallsDIn.mono (caughtIn_idle p w _) ?_
    rintro e u' w' ⟨rfl, rfl, rfl⟩
    exact hr
end Go.Proofs.YtnlkmiieebahoaaDoor
