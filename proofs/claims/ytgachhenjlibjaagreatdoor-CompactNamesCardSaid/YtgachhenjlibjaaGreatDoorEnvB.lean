/-
  The environment of the abstract machine for this program: its facts, and the functions known by hand.
-/
import Derived.Test.YtgachhenjlibjaaGreatDoorLay
import Derived.Test.YtgachhenjlibjaaGreatDoorIdle
import Derived.Test.YtgachhenjlibjaaGreatDoorAMP7
namespace Go.Proofs.YtgachhenjlibjaaGreatDoor
open Go.RowKit Go.AM
set_option maxRecDepth 100000

theorem e_closed : closedB Tryz.prog = true := by kernel_rfl
theorem e_names : namesB Tryz.prog = true := by kernel_rfl
theorem e_mixed : Tryz.prog.follows .mixedOrders = true := by kernel_rfl
def eqTypes : List Nat := []
theorem n_cmp : NatOk Tryz.prog 322 cmpA := nat_ext Tryz.func322 (by kernel_rfl) (by kernel_rfl) (by kernel_rfl) (e := Extern.BytealgCompare.compare) (by kernel_rfl) cmp_ext
theorem n_lay (ih : Ih) (h : IhOk Tryz.prog ih) : NatOk Tryz.prog 315 (layA 317 ih) :=
  nat_lay (D := 33) (names_of e_names) Tryz.func315 rfl Tryz.func317 rfl lay_walk ih h
theorem n_idle : NatDOk Tryz.prog 325 idleA := nat_idle (names_of e_names) Tryz.func325 rfl grow_idle
noncomputable def nats : List (Nat × (Ih → List AV → Heap → Ps → Res)) := [(322, fun _ => cmpA), (315, layA 317)]
def idles : List Nat := [325]
noncomputable def env : Env := envOf Tryz.prog eqTypes ((nats.map fun p => (p.1, natC p.2)) ++ idles.map fun f => (f, natD idleA))
theorem env_ok : EnvOk Tryz.prog env := envOk_of e_closed (names_of e_names) e_mixed (fun t ht => by cases ht) (fun p hp ih h => by
  simp only [nats, List.mem_cons, List.not_mem_nil, or_false] at hp
  rcases hp with rfl | rfl
  · exact n_cmp
  · exact n_lay ih h) fun f hf => by
  simp only [idles, List.mem_cons, List.not_mem_nil, or_false] at hf
  subst hf
  exact n_idle
end Go.Proofs.YtgachhenjlibjaaGreatDoor
