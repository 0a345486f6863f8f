/- Contracts of package accept: caught (conditions: none). -/
import Derived.Test.YtnlkmiieebahoaaDoorAcc1
set_option linter.unusedVariables false
set_option linter.unusedSimpArgs false
namespace Go.Proofs.YtnlkmiieebahoaaDoor
open Go.RowKit

set_option maxRecDepth 100000 in
set_option maxHeartbeats 400000 in
theorem caught_yes (p : Addr) (x n : Int) (w : World) (hc : w.cell? p = some (.int .i64 x)) (hz : w.frozen? p = false) :
    CallsD Tryd.prog 20 #[.pointer (some p)] (.panicking (giveUp n)) w fun e u' w' =>
      e = .returned (.tuple #[]) ∧ u' = .panicking [{ v := .iface 29 (.int .i64 n), recovered := true }] ∧ w' = w.setCell p (.int .i64 n) := by
  refine callsD_of_wpS Tryd.func20 rfl fun c₀ cs hu => ?_
  simp only [Tryd.ntmps20, List.size_toArray, List.length_cons, List.length_nil, Nat.reduceAdd, Nat.reduceSub, Array.replicate_succ, Array.replicate_zero, List.push_toArray, List.append_toArray, List.nil_append, List.cons_append]
  unfold giveUp at hu
  have hnot : ∀ (x : Bool) (w : World), (Op.unary .not (.bool x)).run Tryd.prog w = .ok (.bool (!x)) w := fun _ _ => rfl
  refine wpS_seq_k fun K hK => ?_
  refine wpS_region ?_
  simp [wpOpsS, go_sem, recoverD, hu, Exit.thenS]
  apply hK
  refine wpS_of_wp ?_
  clear hK K hu
  have hta : ∀ w, (Instr.typeAssert (.iface 29 (.int .i64 n)) 20 29 true).run Tryd.prog w = .ok (.tuple #[.int .i64 n, .bool true]) w := fun _ => by kernel_rfl
  go_wp2
  exact ⟨rfl, _, rfl, _, results_none rfl _ _ _, rfl, rfl, rfl⟩
set_option maxRecDepth 100000 in
set_option maxHeartbeats 400000 in
theorem caught_idle (p : Addr) (w : World) :
    CallsD Tryd.prog 20 #[.pointer (some p)] .returning w fun e u' w' => e = .returned (.tuple #[]) ∧ u' = .returning ∧ w' = w := by
  refine callsD_of_wpS Tryd.func20 rfl fun c₀ cs hu => ?_
  simp only [Tryd.ntmps20, List.size_toArray, List.length_cons, List.length_nil, Nat.reduceAdd, Nat.reduceSub, Array.replicate_succ, Array.replicate_zero, List.push_toArray, List.append_toArray, List.nil_append, List.cons_append]
  refine wpS_seq_k fun K hK => ?_
  refine wpS_region ?_
  simp [wpOpsS, go_sem, recoverD, hu, Exit.thenS]
  apply hK
  refine wpS_of_wp ?_
  clear hK K
  have Hu := Lib.hid hu; clear hu
  go_wp2
  exact ⟨rfl, .returning, by rw [← Hu.out], _, results_none rfl _ _ _, rfl, rfl, rfl⟩
end Go.Proofs.YtnlkmiieebahoaaDoor
