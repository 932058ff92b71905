/-
  dev.lay, walked: writes are laid over what lasts, in whatever order the map hands them out.
-/
import Derived.Test.YtgachhenjlibjaaGreatDoorProg
import Derived.ProofKit
import Derived.Maps.RangeWalk
import Derived.Laws.IdiomCopy
import Derived.Lib.Hide
import Derived.Great.Walk
import Derived.Lib.Builder
import Derived.Lib.Buffer
import Derived.Test.YtgachhenjlibjaaGreatDoorAMP7
import Derived.Maps.RangeRun
import Derived.WalkKit
namespace Go.Proofs.YtgachhenjlibjaaGreatDoor
open Go.RowKit Go.AM

set_option maxHeartbeats 4000000 in
set_option maxRecDepth 1000000 in
theorem at_walk (c o len cap n : Nat) (x1 x2 : Value) (w : World) (hn : n * 128 + 128 ≤ len) (hl : len ≤ cap) (hm : len ≤ 1099511627776) :
    Calls Tryz.prog 318 #[.agg #[.slice (some ⟨c, o, none⟩) len cap, x1, x2], .int .i64 n] w fun e w' => e = .returned (.slice (some ⟨c, o + n * 128, none⟩) 128 (cap - n * 128)) ∧
      w' = w.alloc (.cells #[.slice (some ⟨c, o, none⟩) len cap, x1, x2] 33) := by
  go_enter Tryz.func318, Tryz.ntmps318
  iterate 40 go_step
  go_ret
  exact ⟨rfl, rfl⟩

section
variable {P : Program} (w : World) {ops : Array Oper} {rest : List Oper} {o : Oper} {a : Act} {Q : Exit → Act → World → Prop}

theorem wpl_range (hg : o.guard = none) (m : Operand) (t : TypeId) (hop : o.op = Op.range t m) (k e : TypeId) (ht : P.underlying t = some (.map k e)) (b : Nat) (es : Array MapEntry) (clock : Nat)
    (hm : a.eval m = .map (some b)) (hb : w.heap[b]? = some (.map es clock))
    (hK : wpList P ops Q rest (a.put o.dst (.pointer (some ⟨w.heap.size, 0, none⟩))) (w.alloc (.mapIter (some b) clock #[] clock))) :
    wpList P ops Q (o :: rest) a w := by
  refine wpList_plain hg fun K' hK' => ?_
  unfold Oper.wp
  simp [execOp, hop, hm, run_range_map (P := P) w t k e b es clock ht hb, Result.andThen]
  exact hK' _ _ hK

theorem wpl_next (hg : o.guard = none) (it : Operand) (hop : o.op = Op.next it false) (r bm since c0 : Nat) (seen : Array Nat) (es : Array MapEntry) (clock : Nat)
    (hit : a.eval it = .pointer (some ⟨r, 0, none⟩)) (hr : w.heap[r]? = some (.mapIter (some bm) since seen c0)) (hb : w.heap[bm]? = some (.map es clock)) (hold : ∀ x ∈ es.toList, x.born < since) (hsc : since ≤ c0)
    (hDone : (leftOf es seen).size = 0 → wpList P ops Q rest (a.put o.dst (.tuple #[.bool false])) w)
    (hMore : ∀ e ∈ (leftOf es seen).toList, ∀ w1 : World, (w1 = w ∨ w1 = w.drew) →
      wpList P ops Q rest (a.put o.dst (.tuple #[.bool true, e.key, e.val])) (Go.ChangeMaps.setBlock w1 r (.mapIter (some bm) since (seen.push e.born) clock))) :
    wpList P ops Q (o :: rest) a w := by
  refine wpList_plain hg fun K' hK' => ?_
  unfold Oper.wp
  rcases run_next_at (P := P) w o.type r bm since c0 seen es clock hr hb hold hsc with ⟨h0, hrun⟩ | ⟨e, he, w1, hw, hrun⟩
  · simp [execOp, hop, hit, hrun, Result.andThen]
    exact hK' _ _ (hDone h0)
  · simp [execOp, hop, hit, hrun, Result.andThen]
    exact hK' _ _ (hMore e he w1 hw)

theorem wpl_entry (hg : o.guard = none) (it : Operand) (hop : o.op = Op.entry it) (r bm since : Nat) (seen : Array Nat) (es : Array MapEntry) (clock : Nat) (e : MapEntry)
    (hit : a.eval it = .pointer (some ⟨r, 0, none⟩)) (hr : w.heap[r]? = some (.mapIter (some bm) since (seen.push e.born) clock)) (hb : w.heap[bm]? = some (.map es clock)) (he : e ∈ es.toList) (hn : (es.toList.map (·.born)).Nodup)
    (hK : wpList P ops Q rest (a.put o.dst (.tuple #[e.key, e.val])) w) :
    wpList P ops Q (o :: rest) a w := by
  refine wpList_plain hg fun K' hK' => ?_
  unfold Oper.wp
  simp [execOp, hop, hit, run_entry_at (P := P) w r bm since seen es clock e hr hb he hn, Result.andThen]
  exact hK' _ _ hK
end

def leftIn (es : Array MapEntry) (r : Nat) (w : World) : Nat := match w.heap[r]? with
  | some (.mapIter _ _ seen _) => (leftOf es seen).size
  | _ => 0

set_option maxHeartbeats 4000000 in
set_option maxRecDepth 1000000 in
theorem lay_walk (c o len cap : Nat) (x1 x2 l : Value) (w : World) (hl : len ≤ cap) (hm : len ≤ 1099511627776) (Q : World → Nat → Array MapEntry → Nat → Array Value → Nat → Nat × Nat → Prop)
    (hover : Calls Tryz.prog 317 #[l] (w.alloc (.cells #[.slice (some ⟨c, o, none⟩) len cap, x1, x2] 33)) fun e w1 => ∃ mb es clock cs el fz, e = .returned (.map (some mb)) ∧ LayH w1 mb es clock c o len cs el fz ∧
      w1.heap[w.heap.size]? = some (.cells #[.slice (some ⟨c, o, none⟩) len cap, x1, x2] 33) ∧ w.heap.size ≠ c ∧ Q w1 mb es clock cs el fz) :
    Calls Tryz.prog 315 #[.agg #[.slice (some ⟨c, o, none⟩) len cap, x1, x2], l] w fun e w' => e = .returned (.tuple #[]) ∧ ∃ w1 mb es clock cs el fz seen, LayH w1 mb es clock c o len cs el fz ∧ Q w1 mb es clock cs el fz ∧
      Lying w1 es c o cs el fz seen w' ∧ ∀ e, e ∈ es.toList → seen.contains e.born = true := by
  go_enter Tryz.func315, Tryz.ntmps315
  iterate 30 (first | (go_at_call 317) | go_step)
  refine hover.mono ?_
  rintro e w1 ⟨mb, es, clock, cs, el, fz, rfl, H, hbox, hbc, hQ⟩
  have hrun := run_range_map (P := Tryz.prog) w1 411 3 29 mb es clock Tryz.underlying411 H.map
  have hbs : w.heap.size < w1.heap.size := by
    rcases Nat.lt_or_ge w.heap.size w1.heap.size with h | h
    · exact h
    · rw [Array.getElem?_eq_none h] at hbox; cases hbox
  have hcs : c < w1.heap.size := by
    rcases Nat.lt_or_ge c w1.heap.size with h | h
    · exact h
    · have := H.row
      rw [Array.getElem?_eq_none h] at this; cases this
  have hmb : mb < w1.heap.size := by
    rcases Nat.lt_or_ge mb w1.heap.size with h | h
    · exact h
    · have := H.map
      rw [Array.getElem?_eq_none h] at this; cases this
  have hmc : mb ≠ c := fun e => by
    have h1 := H.map
    rw [e, H.row] at h1; cases h1
  dsimp only
  repeat go_step
  go_loopw [] (fun wr => ∃ seen, wr.heap[w1.heap.size]? = some (.mapIter (some mb) clock seen clock) ∧ Lying w1 es c o cs el fz seen wr ∧ w1.heap.size < wr.heap.size) (fun wr => leftIn es w1.heap.size wr)
  case atStart =>
    exact ⟨#[], heap_alloc_new w1 _, (Lying.start H).grow hcs rfl rfl rfl (by simp) (fun k hk => Below.heap_alloc w1 _ k hk), by simp⟩
  case round =>
    obtain ⟨seen, hit, hL, hsz⟩ := hrel
    have hmap : wr.heap[mb]? = some (.map es clock) := (hL.others mb hmb hmc).trans H.map
    iterate 3 go_step
    refine wpl_next _ rfl _ rfl w1.heap.size mb clock clock seen es clock rfl hit hmap H.born (Nat.le_refl _) ?_ ?_
    · intro h0
      go_frame
      repeat go_step
      refine Go.Great.bodyPost_end0 rfl rfl ?_
      refine ⟨rfl, w1, mb, es, clock, cs, el, fz, seen, H, hQ, hL, fun e he => ?_⟩
      cases hs : seen.contains e.born with
      | true => rfl
      | false =>
        have : e ∈ (leftOf es seen).toList := by
          unfold leftOf
          simp
          exact ⟨by simpa using he, by simpa using hs⟩
        rw [← Array.length_toList] at h0
        rw [List.eq_nil_of_length_eq_zero h0] at this
        cases this
    · intro e he w2 hw2
      obtain ⟨n, g, p, bc, L, hk, hv, hn, hgc, hg, hLl, hLs, hL1⟩ := H.ent e (by unfold leftOf at he; simp at he; simpa using he.1)
      obtain ⟨W, hW⟩ : ∃ W, W = Go.ChangeMaps.setBlock w2 w1.heap.size (.mapIter (some mb) clock (seen.push e.born) clock) := ⟨_, rfl⟩
      obtain ⟨q1, q2, q3, q4, q5, q6⟩ : W.os = wr.os ∧ W.tape = wr.tape ∧ W.output = wr.output ∧ W.heap.size = wr.heap.size ∧ (∀ k, k ≠ w1.heap.size → W.heap[k]? = wr.heap[k]?) ∧
          W.heap[w1.heap.size]? = some (.mapIter (some mb) clock (seen.push e.born) clock) := by
        subst hW
        rcases hw2 with rfl | rfl <;>
        · refine ⟨rfl, rfl, rfl, by simp [Go.ChangeMaps.setBlock], fun k hk => ?_, ?_⟩
          · exact Array.getElem?_setIfInBounds_ne (Ne.symm hk)
          · exact Array.getElem?_setIfInBounds_self_of_lt hsz
      rw [← hW]
      clear hW hw2
      have hbx : W.heap[w.heap.size]? = some (.cells #[.slice (some ⟨c, o, none⟩) len cap, x1, x2] 33) := by
        rw [q5 _ (by omega), hL.others _ hbs hbc]; exact hbox
      have d0 : W.cell? ⟨w.heap.size, 0, none⟩ = some (.slice (some ⟨c, o, none⟩) len cap) := by rw [Lib.cell_of_heap hbx]; rfl
      have d1 : W.cell? ⟨w.heap.size, 1, none⟩ = some x1 := by rw [Lib.cell_of_heap hbx]; rfl
      have d2 : W.cell? ⟨w.heap.size, 2, none⟩ = some x2 := by rw [Lib.cell_of_heap hbx]; rfl
      have hLW : Lying w1 es c o cs el fz seen W := hL.grow hcs q1 q2 q3 (Nat.le_of_eq q4.symm) fun k hk => q5 k (by omega)
      have hmapW : W.heap[mb]? = some (.map es clock) := (q5 mb (by omega)).trans hmap
      have hein : e ∈ es.toList := by unfold leftOf at he; simp at he; simpa using he.1
      have hen := run_entry_at (P := Tryz.prog) W w1.heap.size mb clock seen es clock e q6 hmapW hein H.nodup
      rw [hk, hv] at hen ⊢
      go_frame
      iterate 70 (first | (go_at_call 318) | go_step)
      refine (at_walk c o len cap n x1 x2 W hn hl hm).mono ?_
      rintro e' W2 ⟨rfl, hW2⟩
      have hsW2 : W2.heap.size = W.heap.size + 1 := by rw [hW2]; simp
      have hoW2 : ∀ k, k < W.heap.size → W2.heap[k]? = W.heap[k]? := fun k hk => by rw [hW2]; exact Below.heap_alloc W _ k hk
      have hLW2 : Lying w1 es c o cs el fz seen W2 := hLW.grow hcs (by rw [hW2]; rfl) (by rw [hW2]; rfl) (by rw [hW2]; rfl) (by omega) fun k hk => hoW2 k (by omega)
      have hitW2 : W2.heap[w1.heap.size]? = some (.mapIter (some mb) clock (seen.push e.born) clock) := by rw [hoW2 _ (by omega)]; exact q6
      clear hW2
      obtain ⟨cur, r1, r2, r3, r4⟩ := hLW2.row
      have hfit := H.fits
      have hsrc2 : ∀ j v, L[j]? = some v → W2.cell? ((⟨g, p, none⟩ : Addr).add j) = some v := fun j v hj => by
        have h5 := hLs j v hj
        rw [Lib.addr_add]
        unfold World.cell? at h5 ⊢
        rw [hLW2.others g hg hgc]
        exact h5
      have hcell2 : ∀ j, j < cur.size → W2.cell? ⟨c, j, none⟩ = some cur[j]! := fun j hj => by rw [Lib.cell_of_heap r1]; simp [hj]
      have hcp := run_copy_cells (P := Tryz.prog) W2 29 29 3 5 c (o + n * 128) 128 (cap - n * 128) ⟨g, p, none⟩ 128 bc L Tryz.underlying29 (by kernel_rfl) (by rw [hLl]; rfl) hsrc2 (fun j hj => by rw [hcell2 _ (by omega)]; rfl) (fun j hj => by
        unfold World.frozen?
        rw [r1]
        simp only [Bool.and_eq_false_iff, decide_eq_false_iff_not]
        rcases Nat.lt_or_ge (o + n * 128 + j) fz.2 with h7 | h7
        · left; intro h8
          have := H.free _ h8 h7
          omega
        · right; omega) hL1
      rw [hLl] at hcp
      dsimp only
      repeat go_step
      obtain ⟨e5, e6, e7⟩ := setCells_rest c L (o + n * 128) W2
      have e8 : (W2.setCells c (o + n * 128) L).heap[w1.heap.size]? = some (.mapIter (some mb) clock (seen.push e.born) clock) := (setCells_other c L _ W2 _ (by omega)).trans hitW2
      refine ⟨⟨seen.push e.born, e8, Lying.step H hLW2 he hk hv hn hLl hLs, by rw [setCells_size]; omega⟩, ?_⟩
      unfold leftIn
      rw [e8, hit]
      exact left_shrinks es seen e he
end Go.Proofs.YtgachhenjlibjaaGreatDoor
