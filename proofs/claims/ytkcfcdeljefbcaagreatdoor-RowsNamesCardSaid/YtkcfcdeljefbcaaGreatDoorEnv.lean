/-
  The environment of the abstract machine for this program: its facts, and the functions known by hand.
-/
import Derived.Test.YtkcfcdeljefbcaaGreatDoorTexted
namespace Go.Proofs.YtkcfcdeljefbcaaGreatDoor
open Go.RowKit Go.AM
set_option maxRecDepth 100000

theorem e_closed : closedB Tryz.prog = true := by kernel_rfl
theorem e_names : namesB Tryz.prog = true := by kernel_rfl
theorem e_mixed : Tryz.prog.follows .mixedOrders = true := by kernel_rfl
def eqTypes : List Nat := [57, 61, 89, 99, 127]
theorem e_eqs : eqTypes.all (eqB Tryz.prog) = true := by kernel_rfl
theorem n_count : NatOk Tryz.prog 212 countA := nat_ext Tryz.func212 (by kernel_rfl) (by kernel_rfl) (by kernel_rfl) (e := Extern.BytealgCount.count) (by kernel_rfl) count_ext
theorem n_index : NatOk Tryz.prog 226 indexByteA := nat_ext Tryz.func226 (by kernel_rfl) (by kernel_rfl) (by kernel_rfl) (e := Extern.BytealgIndexByte.indexByte) (by kernel_rfl) indexByte_ext
theorem n_texted : NatOk Tryz.prog 156 textedA := nat_texted (names_of e_names) Tryz.func156 rfl texted_walk
noncomputable def nats : List (Nat × (List AV → Heap → Ps → Res)) := [(212, countA), (226, indexByteA), (156, textedA)]
noncomputable def env : Env := envOf Tryz.prog eqTypes (nats.map fun p => (p.1, natC p.2))
theorem env_ok : EnvOk Tryz.prog env := envOk_of e_closed (names_of e_names) e_mixed (eq_of e_eqs) fun p hp => by
  simp only [nats, List.mem_cons, List.not_mem_nil, or_false] at hp
  rcases hp with rfl | rfl | rfl
  · exact n_count
  · exact n_index
  · exact n_texted
end Go.Proofs.YtkcfcdeljefbcaaGreatDoor
