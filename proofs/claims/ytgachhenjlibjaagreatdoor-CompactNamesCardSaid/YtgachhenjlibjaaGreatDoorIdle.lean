/-
  bytes.growSlice's deferred function, walked: where nothing panics it does nothing.
-/
import Derived.Test.YtgachhenjlibjaaGreatDoorProg
import Derived.Lib.ByteType
import Derived.Lib.IfaceNeq
import Derived.Tactics
import Derived.Tactics2
import Derived.Defers
import Derived.Recover
namespace Go.Proofs.YtgachhenjlibjaaGreatDoor

theorem grow_idle (w : World) : CallsD Tryz.prog 325 #[] .returning w fun e u' w' => e = .returned (.tuple #[]) ∧ u' = .returning ∧ w' = w := by
  have hnn : ∀ w, (binOp .neq 20 .nilIface .nilIface).run Tryz.prog w = .ok (.bool false) w := fun w => Lib.run_neq_nil_nil w Tryz.underlying20
  refine callsD_of_wpS Tryz.func325 rfl fun c₀ cs hu => ?_
  apply wpS_seq
  apply wpS_region
  simp [wpOpsS, go_sem, recoverD, hu, hnn, Tryz.ntmps325, Exit.thenS]
  refine wpS_cond (t := false) (by simp [Act.eval, Array.replicate]) ?_
  simp only [Bool.false_eq_true, if_false]
  refine wpS_of_wp (wp_skip ?_)
  cases c₀
  simp_all [bodyPostS, results, (show Tryz.f325.results = #[] from rfl)]
end Go.Proofs.YtgachhenjlibjaaGreatDoor
