/-
  Operations of the abstract machine are sound: first part. No condition.
-/
import Derived.Test.YtgachhenjlibjaaGreatDoorAMP2
import Derived.Laws.Concat
import Derived.Laws.BytesString
import Derived.Laws.Tables
namespace Go.AM

@[simp] theorem newBlock_eq (h : Heap) (m : Ps) (b : AB) (k : Heap → Ps → OR) : newBlock h m b k = k (setT (some b) m h) m.succ := by
  simp [newBlock]

@[simp] theorem newCells_eq (h : Heap) (m : Ps) (vs : List AV) (k : Heap → Ps → OR) :
    newCells h m vs k = k (setT (some (.ce (setAllT .nil 0 vs) 0 vs.length [] true [])) m h) m.succ := by
  simp [newCells]

theorem Nx.new (φ : Emb) (m : Ps) (x : Nat × Nat × Nat) : Nx φ m (φ.upd m x) m.succ :=
  ⟨by rw [Ps.val_succ]; omega, fun b hb => Emb.upd_ne _ _ fun e => by subst e; omega⟩

/-- a new row of cells -/
theorem HR.newRow {φ : Emb} {h : Heap} {m : Ps} {w : World} (k : HR φ h m w) {blk : AB} {cs : Array Value} (el : TypeId)
    (hcb : (∃ d ba s p ow an, blk = .ce d ba s p ow an) ∨ ∃ x s ow an, blk = .by x s ow an) (hle : blk.size ≤ cs.size)
    (hget : ∀ i v, blk.get i = some v → flat v = true ∧ ∃ u, cs[i]? = some u ∧ VR φ v u) {w' : World} (hw : w'.heap = w.heap.push (.cells cs el)) (hs : Same w w') :
    HR (φ.upd m (w.heap.size, 0, cs.size)) (setT (some blk) m h) m.succ w' ∧ Kept φ h w (φ.upd m (w.heap.size, 0, cs.size)) (setT (some blk) m h) w' := by
  have hup := Emb.le_upd (k.fresh m (Nat.le_refl _)) (w.heap.size, 0, cs.size)
  have hcr : CellsR (φ.upd m (w.heap.size, 0, cs.size)) blk.get blk.size blk.isOwn w.heap.size 0 cs.size w' := by
    refine ⟨cs, el, (0, 0), by rw [hw]; simp, rfl, by omega, fun i v _ hg => ?_, fun _ j _ hj => by simp at hj⟩
    obtain ⟨hf, u, hu, hr⟩ := hget i v hg
    exact ⟨hf, u, by rw [Nat.zero_add]; exact hu, VR.mono hup _ _ hr⟩
  refine k.new hw hs ?_
  rcases hcb with ⟨d, ba, s, p, ow, an, rfl⟩ | ⟨x, s, ow, an, rfl⟩ <;> exact hcr

theorem ceNew_get (vs : List AV) (i : Nat) (v : AV) (h : (AB.ce (setAllT .nil 0 vs) 0 vs.length [] true []).get i = some v) : vs[i]? = some v := by
  have := ce_get .nil 0 vs.length [] true [] 0 vs (by omega) true [] i
  rw [Nat.zero_add] at this
  rw [this] at h
  split at h
  · simpa using h
  · rename_i hn
    have hlt := AB.get_lt h
    exact absurd ⟨Nat.zero_le i, by have : i < vs.length := hlt; omega⟩ hn

theorem run_newVar (P : Program) (w : World) (t : TypeId) (v : Value) : (newVar t v).run P w = .ok ⟨w.heap.size, 0, none⟩ { w with heap := w.heap.push (.cells v.cells t) } := by
  simp [newVar, Go.newRow]

theorem run_newRow (P : Program) (w : World) (t : TypeId) (cs : Array Value) : (Go.newRow t cs).run P w = .ok ⟨w.heap.size, 0, none⟩ { w with heap := w.heap.push (.cells cs t) } := by
  simp [Go.newRow]

theorem VR.pt_new (φ : Emb) (m : Ps) (c sz : Nat) : VR (φ.upd m (c, 0, sz)) (.pt m 0) (.pointer (some ⟨c, 0, none⟩)) := by
  simp only [VR]; exact ⟨c, 0, sz, Emb.upd_same _ _ _, rfl⟩

section
variable {P : Program} {T : Tab} {φ : Emb} {h : Heap} {m : Ps} {w : World} {v : AV} {h' : Heap} {m' : Ps}

theorem alloc_sound (hT : TOk T P) {t : Nat} {old : Value} (e : allocOp T t h m = .val v h' m') (k : HR φ h m w) : ValS P φ h m w (Instr.alloc t true old) v h' m' := by
  unfold allocOp at e
  split at e
  · rename_i ti hti
    obtain ⟨hz, e⟩ := bi_val e
    simp only [newBlock_eq] at e
    cases e
    have ok := ty_ok hT hti
    obtain ⟨z, h1, h2⟩ := ok.run_zero w hz
    have hlen := (h2.cells φ).length
    obtain ⟨q1, q2⟩ := k.newRow (blk := .ce .nil 0 ti.size ti.pat true []) (cs := z.cells) t (.inl ⟨_, _, _, _, _, _, rfl⟩)
      (by show ti.size ≤ _; rw [← Array.length_toList, hlen, h2.len]; exact Nat.le_refl _)
      (fun i u hu => by
        have hlt := AB.get_lt hu
        have hlt' : i < ti.zero.length := by rw [h2.len]; exact hlt
        have hu' : patAt ti.pat i = some u := by
          have hb : Nat.blt i ti.size = true := (blt_iff _ _).2 hlt
          simp only [AB.get, hb, bi_true, getP_nil] at hu
          rw [show Nat.add 0 i = i by exact Nat.zero_add i] at hu
          exact hu
        rw [ok.pat i hlt'] at hu'
        obtain ⟨c, hc, hr⟩ := (h2.cells φ).get hu'
        exact ⟨h2.flats u (List.mem_of_getElem? hu'), c, by simpa using hc, hr⟩)
      (w' := { w with heap := w.heap.push (.cells z.cells t) }) rfl ⟨rfl, rfl, rfl⟩
    refine ⟨_, _, _, ?_, VR.pt_new φ m w.heap.size z.cells.size, q1, q2, Nx.new φ m _⟩
    simp [Instr.alloc, h1, run_newVar]
  · cases e

theorem box_sound {t : Nat} {x : AV} {cx : Value} (hx : VR φ x cx) (ht : isTu x = false) (k : HR φ h m w) :
    ValS P φ h m w (Instr.box t cx) (.pt m 0) (setT (some (.ce (setAllT .nil 0 (cellsOf x)) 0 (cellsOf x).length [] true [])) m h) m.succ := by
  obtain ⟨h1, h2⟩ := hx.cellsOf ht
  have hlen := h1.length
  obtain ⟨q1, q2⟩ := k.newRow (blk := .ce (setAllT .nil 0 (cellsOf x)) 0 (cellsOf x).length [] true []) (cs := cx.cells) t (.inl ⟨_, _, _, _, _, _, rfl⟩)
    (by show (cellsOf x).length ≤ _; rw [← Array.length_toList, hlen]; exact Nat.le_refl _)
    (fun i u hu => by
      have hu' := ceNew_get _ _ _ hu
      obtain ⟨c, hc, hr⟩ := h1.get hu'
      exact ⟨h2 u (List.mem_of_getElem? hu'), c, by simpa using hc, hr⟩)
    (w' := { w with heap := w.heap.push (.cells cx.cells t) }) rfl ⟨rfl, rfl, rfl⟩
  refine ⟨_, _, _, ?_, VR.pt_new φ m w.heap.size cx.cells.size, q1, q2, Nx.new φ m _⟩
  simp [Instr.box, run_newVar]

theorem boxOp_sound {t : Nat} {x : AV} {cx : Value} (e : boxOp x h m = .val v h' m') (hx : VR φ x cx) (k : HR φ h m w) : ValS P φ h m w (Instr.box t cx) v h' m' := by
  unfold boxOp at e
  split at e
  · rename_i p n
    rw [newBlock_eq] at e; cases e
    simp only [VR] at hx
    obtain ⟨l, rfl, rfl, h2, h3⟩ := hx
    obtain ⟨q1, q2⟩ := k.newRow (blk := .ce .nil 0 l.length [p] true []) (cs := l.toArray) t (.inl ⟨_, _, _, _, _, _, rfl⟩)
      (by show l.length ≤ _; simp)
      (fun i u hu => by
        have hlt : i < l.length := AB.get_lt hu
        have hb : Nat.blt i l.length = true := (blt_iff _ _).2 hlt
        simp only [AB.get, hb, bi_true, getP_nil, patAt] at hu
        cases hu
        exact ⟨h3, l[i], by simp [hlt], h2 _ (List.getElem_mem _)⟩)
      (w' := { w with heap := w.heap.push (.cells l.toArray t) }) rfl ⟨rfl, rfl, rfl⟩
    refine ⟨_, _, _, ?_, VR.pt_new φ m w.heap.size l.toArray.size, q1, q2, Nx.new φ m _⟩
    simp [Instr.box, run_newVar, Value.cells]
  · cases ht : isTu x with
    | true => rw [ht] at e; cases e
    | false =>
      rw [ht] at e
      simp only [bi_false, newCells_eq] at e
      cases e
      exact box_sound hx ht k

theorem load_pr (hT : TOk T P) {t : Nat} {a : AV} {ca : Value} (e : loadOp T t a h m = .val v h' m') (ha : VR φ a ca) (k : HR φ h m w) :
    ValP P φ w (Instr.loadAt t ca) v ∧ h' = h ∧ m' = m := by
  unfold loadOp at e
  split at e
  · rename_i b o
    simp only [VR] at ha
    obtain ⟨c, off, sz, hφ, rfl⟩ := ha
    split at e
    · rename_i ti hti
      have ok := ty_ok hT hti
      cases hag : ti.agg with
      | true =>
        rw [hag] at e; simp only [bi_true] at e
        split at e
        · rename_i l hl
          cases e
          unfold readCells at hl
          split at hl
          · rename_i blk hb
            obtain ⟨us, u1, u2, u3, u4⟩ := k.cellsL hb hl hφ
            refine ⟨.pure k (cv := .agg us.toArray) ?_ ?_, rfl, rfl⟩
            · simp only [Instr.loadAt, Instr.sureAddr, pure_bind, loadVar, Sem.run_bind, ok.run_agg, Result.andThen_ok, hag, if_true, ok.run_size]
              rw [← u1, run_loadCells_at u4]
              simp
            · simp only [VR]; exact ⟨us, rfl, u2, u3⟩
          · cases hl
        · cases e
      | false =>
        rw [hag] at e; simp only [bi_false] at e
        split at e
        · rename_i blk hb
          split at e
          · rename_i x hx
            cases e
            obtain ⟨_, u, hu, hr⟩ := k.cell hb hx hφ
            refine ⟨.pure k (cv := u) ?_ hr, rfl, rfl⟩
            simp only [Instr.loadAt, Instr.sureAddr, pure_bind, loadVar, Sem.run_bind, ok.run_agg, Result.andThen_ok, hag, Bool.false_eq_true, if_false, run_load, hu]
          · cases e
        · cases e
    · cases e
  · cases e

theorem load_sound (hT : TOk T P) {t : Nat} {a : AV} {ca : Value} (e : loadOp T t a h m = .val v h' m') (ha : VR φ a ca) (k : HR φ h m w) :
    ValS P φ h m w (Instr.loadAt t ca) v h' m' ∧ h' = h ∧ m' = m := by
  obtain ⟨⟨cv, h1, h2⟩, rfl, rfl⟩ := load_pr hT e ha k
  exact ⟨.pure k h1 h2, rfl, rfl⟩

theorem store_sound (hT : TOk T P) {t : Nat} {a x : AV} {ca cx : Value} (e : storeOp T t a x h m = .val v h' m') (ha : VR φ a ca) (hx : VR φ x cx) (k : HR φ h m w) :
    v = .tu [] ∧ m' = m ∧ ∃ w', (Instr.storeAt t ca cx).run P w = .ok () w' ∧ HR φ h' m w' ∧ Kept φ h w φ h' w' := by
  unfold storeOp at e
  split at e
  · rename_i b o
    simp only [VR] at ha
    obtain ⟨c, off, sz, hφ, rfl⟩ := ha
    split at e
    · rename_i ti hti
      have ok := ty_ok hT hti
      cases htu : isTu x with
      | true => rw [htu] at e; simp at e
      | false =>
        rw [htu] at e; simp only [bi_false] at e
        obtain ⟨hsz, e⟩ := bi_val e
        obtain ⟨h1, h2⟩ := hx.cellsOf htu
        obtain ⟨h3, e, hs⟩ := storeCells_sound e
        cases e
        obtain ⟨w', r1, r2, r3⟩ := hs P φ m w _ c off sz k h1 h2 hφ
        refine ⟨rfl, rfl, w', ?_, r2, r3⟩
        have hlen : cx.cells.size = ti.size := by rw [← Array.length_toList, h1.length]; exact (beq_iff _ _).1 hsz
        simp only [Instr.storeAt, Instr.sureAddr, pure_bind, storeVar, Sem.run_bind, ok.run_size, Result.andThen_ok, hlen, ne_eq, not_true_eq_false, if_false]
        exact r1
    · cases e
  · cases e
end

end Go.AM
namespace Go.AM

theorem wrap_i64 (n : Int) (h1 : -9223372036854775808 ≤ n) (h2 : n < 9223372036854775808) : IntKind.wrap .i64 n = n := by
  have e : (2 ^ IntKind.bits .i64 : Int) = 18446744073709551616 := rfl
  have e2 : (2 ^ (IntKind.bits .i64 - 1) : Int) = 9223372036854775808 := rfl
  unfold IntKind.wrap
  simp only [e, e2, IntKind.signed, Bool.true_and, decide_eq_true_eq]
  split <;> omega

theorem wrapF_eq (k : IntKind) (n : Int) : wrapF k n = k.wrap n := by
  unfold wrapF
  split
  · rename_i a
    cases hb : Nat.blt a 9223372036854775808 with
    | true =>
      have := (blt_iff _ _).1 hb
      have e1 : Int.ofNat a = (a : Int) := rfl
      simp only [bi_true]
      exact (wrap_i64 _ (by rw [e1]; omega) (by rw [e1]; omega)).symm
    | false => rfl
  · rename_i a
    cases hb : Nat.blt a 9223372036854775808 with
    | true =>
      have := (blt_iff _ _).1 hb
      have e1 : Int.negSucc a = -((a : Int) + 1) := Int.negSucc_eq a
      have e2 := wrap_i64 (-((a : Int) + 1)) (by omega) (by omega)
      rw [← e1] at e2
      exact e2.symm
    | false => exact bi_false _ _
  · rename_i a; simp [IntKind.wrap, IntKind.bits, IntKind.signed, mod_eq]
  · rename_i a; simp [IntKind.wrap, IntKind.bits, IntKind.signed, mod_eq]
  · rename_i a; simp [IntKind.wrap, IntKind.bits, IntKind.signed, mod_eq]
  · rename_i a; simp [IntKind.wrap, IntKind.bits, IntKind.signed, mod_eq]
  · rfl

theorem intLt_iff (a b : Int) : intLt a b = decide (a < b) := by
  cases a <;> cases b <;> simp only [intLt]
  · rename_i a b
    cases hb : Nat.blt a b with
    | true => have := (blt_iff _ _).1 hb; simp; omega
    | false => simp; have : ¬ a < b := fun h => by rw [(blt_iff _ _).2 h] at hb; cases hb
               omega
  · rename_i a b; simp; omega
  · rename_i a b; simp; omega
  · rename_i a b
    cases hb : Nat.blt b a with
    | true => have := (blt_iff _ _).1 hb; simp; omega
    | false => simp; have : ¬ b < a := fun h => by rw [(blt_iff _ _).2 h] at hb; cases hb
               omega

theorem notB_eq (b : Bool) : notB b = !b := by cases b <;> rfl

theorem mkInt_eq (k : IntKind) (n : Int) (h : Heap) (m : Ps) : mkInt k n h m = .val (.it k n) h m := by simp [mkInt]
theorem mkBool_eq (b : Bool) (h : Heap) (m : Ps) : mkBool b h m = .val (.bo b) h m := by cases b <;> rfl

theorem nats_val {a b : Int} {kk : Nat → Nat → OR} {v : AV} {h : Heap} {m : Ps} (e : nats a b kk = .val v h m) : ∃ x y : Nat, a = .ofNat x ∧ b = .ofNat y ∧ kk x y = .val v h m := by
  unfold nats at e
  split at e
  · exact ⟨_, _, rfl, rfl, e⟩
  · cases e

theorem wrap_mod (k : IntKind) (a : Nat) : k.wrap ((a % 2 ^ k.bits : Nat) : Int) = k.wrap (a : Int) := by
  unfold IntKind.wrap
  have : ((a % 2 ^ k.bits : Nat) : Int) % (2 ^ k.bits : Int) = (a : Int) % (2 ^ k.bits : Int) := by
    rw [Int.natCast_emod, Int.natCast_pow]
    exact Int.emod_emod_of_dvd _ (Int.dvd_refl _)
  rw [this]

theorem bits_and (k : IntKind) (a b : Nat) : k.wrap (((BitVec.ofInt k.bits (Int.ofNat a) &&& BitVec.ofInt k.bits (Int.ofNat b)).toNat : Nat) : Int) = k.wrap ((Nat.land a b : Nat) : Int) := by
  have e : BitVec.ofInt k.bits (Int.ofNat a) &&& BitVec.ofInt k.bits (Int.ofNat b) = BitVec.ofNat k.bits (a &&& b) := by
    apply BitVec.eq_of_getLsbD_eq; intro i hi; simp [hi]
  rw [e, BitVec.toNat_ofNat, wrap_mod]; rfl

theorem bits_or (k : IntKind) (a b : Nat) : k.wrap (((BitVec.ofInt k.bits (Int.ofNat a) ||| BitVec.ofInt k.bits (Int.ofNat b)).toNat : Nat) : Int) = k.wrap ((Nat.lor a b : Nat) : Int) := by
  have e : BitVec.ofInt k.bits (Int.ofNat a) ||| BitVec.ofInt k.bits (Int.ofNat b) = BitVec.ofNat k.bits (a ||| b) := by
    apply BitVec.eq_of_getLsbD_eq; intro i hi; simp [hi]
  rw [e, BitVec.toNat_ofNat, wrap_mod]; rfl

theorem bits_xor (k : IntKind) (a b : Nat) : k.wrap (((BitVec.ofInt k.bits (Int.ofNat a) ^^^ BitVec.ofInt k.bits (Int.ofNat b)).toNat : Nat) : Int) = k.wrap ((Nat.xor a b : Nat) : Int) := by
  have e : BitVec.ofInt k.bits (Int.ofNat a) ^^^ BitVec.ofInt k.bits (Int.ofNat b) = BitVec.ofNat k.bits (a ^^^ b) := by
    apply BitVec.eq_of_getLsbD_eq; intro i hi; simp [hi]
  rw [e, BitVec.toNat_ofNat, wrap_mod]; rfl

theorem bits_andNot (k : IntKind) (a b : Nat) : k.wrap (((BitVec.ofInt k.bits (Int.ofNat a) &&& ~~~BitVec.ofInt k.bits (Int.ofNat b)).toNat : Nat) : Int) = k.wrap ((Nat.xor a (Nat.land a b) : Nat) : Int) := by
  have e : BitVec.ofInt k.bits (Int.ofNat a) &&& ~~~BitVec.ofInt k.bits (Int.ofNat b) = BitVec.ofNat k.bits (a ^^^ (a &&& b)) := by
    apply BitVec.eq_of_getLsbD_eq; intro i hi
    simp [hi]
    generalize (BitVec.ofNat k.bits a)[i] = p; generalize (BitVec.ofNat k.bits b)[i] = q; cases p <;> cases q <;> rfl
  rw [e, BitVec.toNat_ofNat, wrap_mod]; rfl

theorem eqGuard_plain (op : BinOp) (t : Nat) (x y : Operand) (a b : Value) (h1 : ¬(a = .nilIface ∧ b = .nilIface)) (h2 : ∀ xs ys, ¬(a = .agg xs ∧ b = .agg ys)) (P : Program) (w : World) :
    (eqGuard op t x y a b).run P w = .ok () w := by
  cases op <;> first
    | rfl
    | (simp only [eqGuard, Bool.not_true, Bool.false_eq_true, if_false]
       split
       · exact absurd ⟨rfl, rfl⟩ h1
       · exact absurd ⟨rfl, rfl⟩ (h2 _ _)
       · rfl)

section
variable {P : Program} {φ : Emb} {h : Heap} {m : Ps} {w : World} {v : AV} {h' : Heap} {m' : Ps}

/-- the numbers -/
theorem binInt_sound {op : BinOp} {t : Nat} {x y : Operand} {k k' : IntKind} {a b : Int} (hk : (cBin op).shift = true ∨ k = k')
    (e : (cBin op).ri k a b h m = .val v h' m') (kk : HR φ h m w) :
    ValS P φ h m w (do eqGuard op t x y (.int k a) (.int k' b); binOp op t (.int k a) (.int k' b)) v h' m' ∧ h' = h ∧ m' = m := by
  have key : ∀ cv, v = cv → h' = h → m' = m → (∃ u, VR φ cv u ∧ (binOp op t (.int k a) (.int k' b)).run P w = .ok u w) →
      ValS P φ h m w (do eqGuard op t x y (.int k a) (.int k' b); binOp op t (.int k a) (.int k' b)) v h' m' ∧ h' = h ∧ m' = m := by
    rintro cv rfl rfl rfl ⟨u, hu, hr⟩
    refine ⟨.pure kk (cv := u) ?_ hu, rfl, rfl⟩
    rw [Sem.run_bind, eqGuard_plain _ _ _ _ _ _ (by simp) (by simp), Result.andThen_ok, hr]
  have hne : ¬(cBin op).shift = true → ¬ k ≠ k' := fun h1 h2 => by rcases hk with h3 | h3 <;> simp_all
  cases op <;> simp only [cBin] at e hne
  case add => rw [mkInt_eq] at e; cases e; exact key _ rfl rfl rfl ⟨_, by simp only [VR]; rfl, by simp [binOp, hne (by simp), Op.intArith, wrapF_eq]; try rfl⟩
  case sub => rw [mkInt_eq] at e; cases e; exact key _ rfl rfl rfl ⟨_, by simp only [VR]; rfl, by simp [binOp, hne (by simp), Op.intArith, wrapF_eq]; try rfl⟩
  case mul => rw [mkInt_eq] at e; cases e; exact key _ rfl rfl rfl ⟨_, by simp only [VR]; rfl, by simp [binOp, hne (by simp), Op.intArith, wrapF_eq]; try rfl⟩
  case eql => rw [mkBool_eq] at e; cases e; exact key _ rfl rfl rfl ⟨_, by simp only [VR]; rfl, by simp [binOp, hne (by simp), Op.intCmp, intEq_iff]⟩
  case neq => rw [mkBool_eq] at e; cases e; exact key _ rfl rfl rfl ⟨_, by simp only [VR]; rfl, by simp [binOp, hne (by simp), Op.intCmp, intEq_iff, notB_eq, bne]⟩
  case lss => rw [mkBool_eq] at e; cases e; exact key _ rfl rfl rfl ⟨_, by simp only [VR]; rfl, by simp [binOp, hne (by simp), Op.intCmp, intLt_iff]⟩
  case leq => rw [mkBool_eq] at e; cases e; exact key _ rfl rfl rfl ⟨_, by simp only [VR]; rfl, by simp [binOp, hne (by simp), Op.intCmp, intLt_iff, notB_eq, ← decide_not, Int.not_lt]⟩
  case gtr => rw [mkBool_eq] at e; cases e; exact key _ rfl rfl rfl ⟨_, by simp only [VR]; rfl, by simp [binOp, hne (by simp), Op.intCmp, intLt_iff]⟩
  case geq => rw [mkBool_eq] at e; cases e; exact key _ rfl rfl rfl ⟨_, by simp only [VR]; rfl, by simp [binOp, hne (by simp), Op.intCmp, intLt_iff, notB_eq, ← decide_not, Int.not_lt]⟩
  case quo =>
    obtain ⟨p, q, rfl, rfl, e2⟩ := nats_val e
    clear e
    cases hb : Nat.beq q 0 with
    | true => rw [hb] at e2; simp at e2
    | false =>
      rw [hb] at e2; simp only [bi_false, mkInt_eq] at e2; cases e2
      have hq : q ≠ 0 := fun h => by rw [h] at hb; cases hb
      exact key _ rfl rfl rfl ⟨_, by simp only [VR]; rfl, by simp [binOp, hne (by simp), Op.intDiv, hq, wrapF_eq, div_eq]⟩
  case rem =>
    obtain ⟨p, q, rfl, rfl, e2⟩ := nats_val e
    clear e
    cases hb : Nat.beq q 0 with
    | true => rw [hb] at e2; simp at e2
    | false =>
      rw [hb] at e2; simp only [bi_false, mkInt_eq] at e2; cases e2
      have hq : q ≠ 0 := fun h => by rw [h] at hb; cases hb
      exact key _ rfl rfl rfl ⟨_, by simp only [VR]; rfl, by simp [binOp, hne (by simp), Op.intDiv, hq, mod_eq]; exact (Int.ofNat_tmod p q).symm⟩
  case and =>
    obtain ⟨p, q, rfl, rfl, e2⟩ := nats_val e
    clear e
    rw [mkInt_eq] at e2; cases e2
    refine key _ rfl rfl rfl ⟨_, by simp only [VR]; rfl, ?_⟩
    simp only [binOp, hne (by simp), if_false, Op.intBits, wrapF_eq, bits_and]; rfl
  case or =>
    obtain ⟨p, q, rfl, rfl, e2⟩ := nats_val e
    clear e
    rw [mkInt_eq] at e2; cases e2
    refine key _ rfl rfl rfl ⟨_, by simp only [VR]; rfl, ?_⟩
    simp only [binOp, hne (by simp), if_false, Op.intBits, wrapF_eq, bits_or]; rfl
  case xor =>
    obtain ⟨p, q, rfl, rfl, e2⟩ := nats_val e
    clear e
    rw [mkInt_eq] at e2; cases e2
    refine key _ rfl rfl rfl ⟨_, by simp only [VR]; rfl, ?_⟩
    simp only [binOp, hne (by simp), if_false, Op.intBits, wrapF_eq, bits_xor]; rfl
  case andNot =>
    obtain ⟨p, q, rfl, rfl, e2⟩ := nats_val e
    clear e
    rw [mkInt_eq] at e2; cases e2
    refine key _ rfl rfl rfl ⟨_, by simp only [VR]; rfl, ?_⟩
    simp only [binOp, hne (by simp), if_false, Op.intBits, wrapF_eq, bits_andNot]; rfl
  case shl =>
    obtain ⟨p, q, rfl, rfl, e2⟩ := nats_val e
    clear e
    obtain ⟨hq, e3⟩ := bi_val e2
    rw [mkInt_eq] at e3; cases e3
    have hq := (ble_iff _ _).1 hq
    refine key _ rfl rfl rfl ⟨_, by simp only [VR]; rfl, ?_⟩
    have h0 : ¬ (Int.ofNat q < 0) := by simp
    simp only [binOp, Op.shift, h0, if_false, wrapF_eq, Nat.min_eq_left hq, Int.ofNat_eq_natCast, Int.toNat_natCast, pow_eq]
    rw [show ((Nat.mul p (2 ^ q) : Nat) : Int) = (p : Int) * 2 ^ q by rw [show Nat.mul p (2 ^ q) = p * 2 ^ q from rfl, Int.natCast_mul, Int.natCast_pow]; rfl]
    rfl
  case shr =>
    obtain ⟨p, q, rfl, rfl, e2⟩ := nats_val e
    clear e
    obtain ⟨hq, e3⟩ := bi_val e2
    rw [mkInt_eq] at e3; cases e3
    have hq := (ble_iff _ _).1 hq
    refine key _ rfl rfl rfl ⟨_, by simp only [VR]; rfl, ?_⟩
    have h0 : ¬ (Int.ofNat q < 0) := by simp
    simp only [binOp, Op.shift, h0, if_false, Nat.min_eq_left hq, Int.ofNat_eq_natCast, Int.toNat_natCast, pow_eq, div_eq]
    rw [show ((p / 2 ^ q : Nat) : Int) = (p : Int).fdiv (2 ^ q) by
      rw [Int.natCast_ediv, Int.natCast_pow, Int.fdiv_eq_ediv_of_nonneg _ (by exact Int.pow_nonneg (by decide))]; rfl]
    rfl
end

end Go.AM
namespace Go.AM

theorem run_underlying' {P : Program} {t : TypeId} {d : TypeDesc} (h : P.underlying t = some d) (w : World) : (underlying t).run P w = .ok d w := by
  simp [underlying, h]

theorem strLt_iff : ∀ (f : Nat) (x y : List UInt8), x.length < f → strLt (encBytes x) x.length (encBytes y) y.length f = Op.bytesLess x y
  | 0, x, y, h => by omega
  | f + 1, x, [], _ => by
    simp only [strLt, List.length_nil]
    cases x <;> rfl
  | f + 1, [], b :: y, _ => by simp only [strLt, List.length_cons, List.length_nil]; rfl
  | f + 1, a :: x, b :: y, h => by
    have ha : a.toNat < 256 := a.toNat_lt
    have hb : b.toNat < 256 := b.toNat_lt
    have e1 : encBytes (a :: x) = a.toNat + 256 * encBytes x := rfl
    have e2 : encBytes (b :: y) = b.toNat + 256 * encBytes y := rfl
    have m1 : Nat.mod (encBytes (a :: x)) 256 = a.toNat := by rw [mod_eq, e1]; omega
    have m2 : Nat.mod (encBytes (b :: y)) 256 = b.toNat := by rw [mod_eq, e2]; omega
    have d1 : Nat.div (encBytes (a :: x)) 256 = encBytes x := by rw [div_eq, e1]; omega
    have d2 : Nat.div (encBytes (b :: y)) 256 = encBytes y := by rw [div_eq, e2]; omega
    simp only [strLt, List.length_cons, m1, m2, d1, d2, strLt_iff f x y (by simpa using h), Op.bytesLess]
    by_cases h1 : a.toNat < b.toNat
    · rw [(blt_iff _ _).2 h1]
      have : a < b := UInt8.lt_iff_toNat_lt.2 h1
      simp [this]
    · have hb1 : Nat.blt a.toNat b.toNat = false := by
        cases hh : Nat.blt a.toNat b.toNat with
        | true => exact absurd ((blt_iff _ _).1 hh) h1
        | false => rfl
      have : ¬ a < b := fun h => h1 (UInt8.lt_iff_toNat_lt.1 h)
      rw [hb1]
      simp only [bi_false, this, decide_false, Bool.false_or]
      by_cases h2 : a = b
      · subst h2; rw [(beq_iff _ _).2 rfl]; simp
      · have : Nat.beq a.toNat b.toNat = false := by
          cases hh : Nat.beq a.toNat b.toNat with
          | true => exact absurd (UInt8.toNat_inj.1 ((beq_iff _ _).1 hh)) h2
          | false => rfl
        rw [this]; simp [h2]

theorem strEq_list (x y : List UInt8) : strEq (encBytes x) x.length (encBytes y) y.length = (x == y) := by
  cases h : strEq (encBytes x) x.length (encBytes y) y.length with
  | true =>
    obtain ⟨h1, h2⟩ := (strEq_iff _ _ _ _).1 h
    rw [enc_inj h1 h2]; simp
  | false =>
    have : ¬ (x == y) = true := fun e => by
      have e := eq_of_beq e
      subst e
      rw [(strEq_iff _ _ _ _).2 ⟨rfl, rfl⟩] at h; cases h
    simp at this; simp [this]

theorem bytesLess_asymm : ∀ (x y : List UInt8), (Op.bytesLess x y || x == y) = !Op.bytesLess y x
  | [], [] => rfl
  | [], b :: y => by simp [Op.bytesLess]
  | a :: x, [] => by simp [Op.bytesLess]
  | a :: x, b :: y => by
    have ih := bytesLess_asymm x y
    simp only [Op.bytesLess]
    by_cases h1 : a = b
    · subst h1
      have : ¬ a < a := fun h => absurd (UInt8.lt_iff_toNat_lt.1 h) (by omega)
      simp [this]
      simpa using ih
    · have h3 : ¬ b = a := fun e => h1 e.symm
      by_cases h2 : a < b
      · have : ¬ b < a := fun h => absurd (UInt8.lt_iff_toNat_lt.1 h) (by have := UInt8.lt_iff_toNat_lt.1 h2; omega)
        simp [h1, h2, h3, this]
      · have : b < a := UInt8.lt_iff_toNat_lt.2 (by
          have e1 : ¬ a.toNat < b.toNat := fun h => h2 (UInt8.lt_iff_toNat_lt.2 h)
          have e2 : a.toNat ≠ b.toNat := fun h => h1 (UInt8.toNat_inj.1 h)
          omega)
        simp [h1, h2, h3, this]

section
variable {P : Program} {φ : Emb} {h : Heap} {m : Ps} {w : World} {v : AV} {h' : Heap} {m' : Ps}

theorem binStr_sound {op : BinOp} {t : Nat} {x y : Operand} {s r : ByteArray}
    (e : (cBin op).rs (encBytes s.data.toList) s.data.toList.length (encBytes r.data.toList) r.data.toList.length h m = .val v h' m') (kk : HR φ h m w) :
    ValS P φ h m w (do eqGuard op t x y (.string s) (.string r); binOp op t (.string s) (.string r)) v h' m' ∧ h' = h ∧ m' = m := by
  have key : ∀ cv, v = cv → h' = h → m' = m → (∃ u, VR φ cv u ∧ (binOp op t (.string s) (.string r)).run P w = .ok u w) →
      ValS P φ h m w (do eqGuard op t x y (.string s) (.string r); binOp op t (.string s) (.string r)) v h' m' ∧ h' = h ∧ m' = m := by
    rintro cv rfl rfl rfl ⟨u, hu, hr⟩
    refine ⟨.pure kk (cv := u) ?_ hu, rfl, rfl⟩
    rw [Sem.run_bind, eqGuard_plain _ _ _ _ _ _ (by simp) (by simp), Result.andThen_ok, hr]
  have l1 := strLt_iff (Nat.succ s.data.toList.length) s.data.toList r.data.toList (Nat.lt_succ_self _)
  have l2 := strLt_iff (Nat.succ r.data.toList.length) r.data.toList s.data.toList (Nat.lt_succ_self _)
  have q := strEq_list s.data.toList r.data.toList
  have a1 := bytesLess_asymm s.data.toList r.data.toList
  have hb : ∀ b : Bool, VR φ (.bo b) (.bool b) := fun b => by simp [VR]
  cases op <;> simp only [cBin, noStr] at e <;> try (cases e; done)
  case add =>
    simp only [forceNat_eq] at e
    obtain ⟨hl, e⟩ := bi_val e
    cases e
    have hl := (blt_iff _ _).1 hl
    have hs : s.size = s.data.toList.length := by cases s; rfl
    have hr : r.size = r.data.toList.length := by cases r; rfl
    refine key _ rfl rfl rfl ⟨.string (s ++ r), ?_, ?_⟩
    · simp only [VR]
      refine ⟨_, rfl, ?_, ?_⟩
      · rw [show (s ++ r).data.toList = s.data.toList ++ r.data.toList by cases s; cases r; simp, enc_append]
      · rw [show (s ++ r).data.toList = s.data.toList ++ r.data.toList by cases s; cases r; simp]; simp
    · have : ¬ (((s.size + r.size : Nat) : Int) > IntKind.i64.max) := by
        rw [hs, hr]
        have : IntKind.i64.max = 9223372036854775807 := rfl
        rw [this]
        have : Nat.add s.data.toList.length r.data.toList.length = s.data.toList.length + r.data.toList.length := rfl
        omega
      simp only [binOp, Op.stringOp, this, if_false]; rfl
  case eql => rw [mkBool_eq, q] at e; cases e; exact key _ rfl rfl rfl ⟨_, hb _, by simp only [binOp, Op.stringOp, ByteArray.toList_eq]; rfl⟩
  case neq => rw [mkBool_eq, notB_eq, q] at e; cases e; exact key _ rfl rfl rfl ⟨_, hb _, by simp only [binOp, Op.stringOp, ByteArray.toList_eq]; rfl⟩
  case lss => rw [mkBool_eq, l1] at e; cases e; exact key _ rfl rfl rfl ⟨_, hb _, by simp only [binOp, Op.stringOp, ByteArray.toList_eq]; rfl⟩
  case leq => rw [mkBool_eq, notB_eq, l2, ← a1] at e; cases e; exact key _ rfl rfl rfl ⟨_, hb _, by simp only [binOp, Op.stringOp, ByteArray.toList_eq]; rfl⟩
  case gtr =>
    rw [mkBool_eq, l2] at e; cases e
    exact key _ rfl rfl rfl ⟨_, hb _, by simp only [binOp, Op.stringOp, ByteArray.toList_eq, a1, Bool.not_not]; rfl⟩
  case geq => rw [mkBool_eq, notB_eq, l1] at e; cases e; exact key _ rfl rfl rfl ⟨_, hb _, by simp only [binOp, Op.stringOp, ByteArray.toList_eq]; rfl⟩

/-- equality of cells -/
theorem eqCell_sound {u : TypeDesc} {t : Nat} (hu : P.underlying t = some u) {a b : AV} {ca cb : Value} {r : Bool} (e : eqCell u a b = some r) (ha : VR φ a ca) (hb : VR φ b cb) (d : Nat) (w : World) :
    (Op.equalIn (d + 1) t ca cb).run P w = .ok r w ∧ ca.cells = #[ca] ∧ cb.cells = #[cb] ∧ isAggD u = false := by
  unfold eqCell at e
  split at e
  · split at e
    · obtain ⟨hk, e⟩ := bi_some e
      cases e
      have := (kindEq_iff _ _).1 hk
      subst this
      simp only [VR] at ha hb
      subst ha; subst hb
      exact ⟨by rw [run_equalIn_int w d t _ _ _ _ hu, intEq_iff], rfl, rfl, rfl⟩
    · cases e
  · split at e
    · cases e
      simp only [VR] at ha hb
      obtain ⟨s, rfl, rfl, rfl⟩ := ha
      obtain ⟨s', rfl, rfl, rfl⟩ := hb
      exact ⟨by rw [run_equalIn_string w d t _ _ hu, strEq_list, ByteArray.toList_eq, ByteArray.toList_eq], rfl, rfl, rfl⟩
    · cases e
  · split at e
    · cases e
      simp only [VR] at ha hb
      subst ha; subst hb
      exact ⟨by rw [run_equalIn_bool' w d t _ _ hu, boolEq_iff], rfl, rfl, rfl⟩
    · cases e
  · cases e

theorem run_part_cell {t : Nat} {ti : TI} (ok : TyOk P t ti) (hag : ti.agg = false) {cs : List Value} {off : Nat} {c : Value} (hc : cs[off]? = some c) (w : World) :
    (part t cs.toArray off).run P w = .ok c w := by
  simp only [part, Sem.run_bind, ok.run_agg, Result.andThen_ok, hag, Bool.false_eq_true, if_false]
  simp [hc]

theorem eqFields_sound {T : Tab} (hT : TOk T P) {l r : List AV} {cl cr : List Value} (hl : VRs φ l cl) (hr : VRs φ r cr) (d : Nat) (w : World) : ∀ (fs : List Field) (b : Bool), (fs.all fun f => f.name != "_") = true →
    eqFields T l r fs = some b → (Op.eqFields (d + 1) cl.toArray cr.toArray fs).run P w = .ok b w
  | [], b, _, e => by cases e; rfl
  | f :: fs, b, hn, e => by
    simp only [List.all_cons, Bool.and_eq_true] at hn
    have hname : f.name ≠ "_" := by simpa using hn.1
    unfold eqFields at e
    split at e
    · cases e
    · rename_i ti hti
      have ok := ty_ok hT hti
      split at e
      · rename_i a c ha hc
        split at e
        · cases e
        · rename_i q hq
          rw [nth_eq] at ha hc
          obtain ⟨ca, hca, va⟩ := hl.get ha
          obtain ⟨cc, hcc, vc⟩ := hr.get hc
          obtain ⟨k1, _, _, k4⟩ := eqCell_sound ok.under hq va vc d w
          have hag : ti.agg = false := by rw [← ok.agg]; exact k4
          simp only [Op.eqFields, if_pos hname, Sem.run_bind, run_part_cell ok hag hca, run_part_cell ok hag hcc, Result.andThen_ok, k1]
          cases q with
          | true =>
            simp only [bi_true] at e
            simp only [Bool.not_true, Bool.false_eq_true, if_false]
            exact eqFields_sound hT hl hr d w fs b hn.2 e
          | false =>
            simp only [bi_false] at e; cases e
            simp
      · cases e

theorem eq_finish {op : BinOp} {t : Nat} {x y : Operand} {ca cb : Value} {r : Bool} (hop : op = .eql ∨ op = .neq) (w : World)
    (h1 : (eqGuard op t x y ca cb).run P w = .ok () w) (h2 : ∀ op', (op' = .eql ∨ op' = .neq) → binOp op' t ca cb = (do let q ← Op.equal t ca cb; pure (.bool (if op' = .eql then q else !q))))
    (h3 : (Op.equalIn (9999 + 1) t ca cb).run P w = .ok r w) :
    (do eqGuard op t x y ca cb; binOp op t ca cb : Sem Value).run P w = .ok (.bool (if op = .eql then r else !r)) w := by
  rw [Sem.run_bind, h1, Result.andThen_ok, h2 op hop, Sem.run_bind]
  have : (Op.equal t ca cb).run P w = .ok r w := h3
  rw [this]; rfl

theorem eqv_pointer {t el : Nat} (hu : P.underlying t = some (.pointer el)) (a : Option Addr) (w : World) (d : Nat) :
    (Op.equalIn (d + 1) t (.pointer none) (.pointer a)).run P w = .ok a.isNone w ∧ (Op.equalIn (d + 1) t (.pointer a) (.pointer none)).run P w = .ok a.isNone w := by
  have h := run_underlying' hu w
  constructor
  · simp only [Op.equalIn, Sem.run_bind, h, Result.andThen_ok]; rfl
  · cases a with
    | none => simp only [Op.equalIn, Sem.run_bind, h, Result.andThen_ok]; rfl
    | some a => simp only [Op.equalIn, Sem.run_bind, h, Result.andThen_ok]; rfl

theorem eqv_slice {t el : Nat} (hu : P.underlying t = some (.slice el)) (a : Addr) (l c : Nat) (w : World) (d : Nat) :
    (Op.equalIn (d + 1) t (.slice none 0 0) (.slice none 0 0)).run P w = .ok true w ∧ (Op.equalIn (d + 1) t (.slice none 0 0) (.slice (some a) l c)).run P w = .ok false w ∧
      (Op.equalIn (d + 1) t (.slice (some a) l c) (.slice none 0 0)).run P w = .ok false w := by
  have h := run_underlying' hu w
  refine ⟨?_, ?_, ?_⟩ <;> (simp only [Op.equalIn, Sem.run_bind, h, Result.andThen_ok]; rfl)

theorem eqv_map {t k el : Nat} (hu : P.underlying t = some (.map k el)) (a : Nat) (w : World) (d : Nat) :
    (Op.equalIn (d + 1) t (.map none) (.map none)).run P w = .ok true w ∧ (Op.equalIn (d + 1) t (.map none) (.map (some a))).run P w = .ok false w ∧
      (Op.equalIn (d + 1) t (.map (some a)) (.map none)).run P w = .ok false w := by
  have h := run_underlying' hu w
  refine ⟨?_, ?_, ?_⟩ <;> (simp only [Op.equalIn, Sem.run_bind, h, Result.andThen_ok]; rfl)

theorem eqv_func {t : Nat} {p q : Array TypeId} {v : Bool} (hu : P.underlying t = some (.func p q v)) (f : Fn) (a b : Array Value) (w : World) (d : Nat) :
    (Op.equalIn (d + 1) t .nilFunc .nilFunc).run P w = .ok true w ∧ (Op.equalIn (d + 1) t .nilFunc (.func f a b)).run P w = .ok false w ∧
      (Op.equalIn (d + 1) t (.func f a b) .nilFunc).run P w = .ok false w := by
  have h := run_underlying' hu w
  refine ⟨?_, ?_, ?_⟩ <;> (simp only [Op.equalIn, Sem.run_bind, h, Result.andThen_ok]; rfl)

theorem eqv_iface {t : Nat} {ms : Array (String × TypeId)} (hu : P.underlying t = some (.interface ms)) (f : TypeId) (a : Value) (w : World) (d : Nat) :
    (Op.equalIn (d + 1) t .nilIface .nilIface).run P w = .ok true w ∧ (Op.equalIn (d + 1) t .nilIface (.iface f a)).run P w = .ok false w ∧
      (Op.equalIn (d + 1) t (.iface f a) .nilIface).run P w = .ok false w := by
  have h := run_underlying' hu w
  refine ⟨?_, ?_, ?_⟩ <;> (simp only [Op.equalIn, Sem.run_bind, h, Result.andThen_ok]; rfl)

theorem memNat_mem {n : Nat} : ∀ {l : List Nat}, memNat n l = true → n ∈ l
  | [], h => by cases h
  | a :: r, h => by
    simp only [memNat] at h
    cases hb : Nat.beq a n with
    | true => rw [(beq_iff _ _).1 hb]; exact List.mem_cons_self
    | false => rw [hb] at h; exact List.mem_cons_of_mem _ (memNat_mem h)

theorem eqGuard_lit (op : BinOp) (t : Nat) {x y : Operand} (h : ((x matches .const _) || (y matches .const _)) = true) (w : World) : (eqGuard op t x y .nilIface .nilIface).run P w = .ok () w := by
  cases op <;> first
    | rfl
    | (cases x <;> cases y <;> first
        | rfl
        | cases h)

/-- equality -/
theorem eqOp_sound {T : Tab} (hT : TOk T P) {t : Nat} {x y : Operand} {a b : AV} {ca cb : Value} {r : Bool} {lit : Bool} (hlit : lit = true → ((x matches .const _) || (y matches .const _)) = true)
    (e : eqOp T t lit a b = some r) (ha : VR φ a ca) (hb : VR φ b cb) (op : BinOp) (hop : op = .eql ∨ op = .neq) (w : World) :
    (do eqGuard op t x y ca cb; binOp op t ca cb : Sem Value).run P w = .ok (.bool (if op = .eql then r else !r)) w := by
  unfold eqOp at e
  split at e
  · cases e
  · rename_i ti hti
    have ok := ty_ok hT hti
    split at e
    · rename_i hd
      have hu : P.underlying t = some .bool := by rw [ok.under, hd]
      split at e
      · cases e
        simp only [VR] at ha hb; subst ha; subst hb
        refine eq_finish hop w (eqGuard_plain _ _ _ _ _ _ (by simp) (by simp) P w) (fun op' ho => by rcases ho with rfl | rfl <;> simp [binOp]) ?_
        rw [run_equalIn_bool' w 9999 t _ _ hu, boolEq_iff]
      · cases e
    · rename_i el hd
      have hu : P.underlying t = some (.pointer el) := by rw [ok.under, hd]
      split at e <;> cases e <;> simp only [VR] at ha hb
      · subst ha; subst hb
        exact eq_finish hop w (eqGuard_plain _ _ _ _ _ _ (by simp) (by simp) P w) (fun op' ho => by rcases ho with rfl | rfl <;> simp [binOp]) (eqv_pointer hu none w 9999).1
      · subst ha; obtain ⟨c, o, s, _, rfl⟩ := hb
        exact eq_finish hop w (eqGuard_plain _ _ _ _ _ _ (by simp) (by simp) P w) (fun op' ho => by rcases ho with rfl | rfl <;> simp [binOp]) (eqv_pointer hu _ w 9999).1
      · subst hb; obtain ⟨c, o, s, _, rfl⟩ := ha
        exact eq_finish hop w (eqGuard_plain _ _ _ _ _ _ (by simp) (by simp) P w) (fun op' ho => by rcases ho with rfl | rfl <;> simp [binOp]) (eqv_pointer hu _ w 9999).2
    · rename_i el hd
      have hu : P.underlying t = some (.slice el) := by rw [ok.under, hd]
      split at e <;> cases e <;> simp only [VR] at ha hb
      · subst ha; subst hb
        exact eq_finish hop w (eqGuard_plain _ _ _ _ _ _ (by simp) (by simp) P w) (fun op' ho => by rcases ho with rfl | rfl <;> simp [binOp]) (eqv_slice hu ⟨0, 0, none⟩ 0 0 w 9999).1
      · subst ha; obtain ⟨c, o, rfl, _⟩ := hb
        exact eq_finish hop w (eqGuard_plain _ _ _ _ _ _ (by simp) (by simp) P w) (fun op' ho => by rcases ho with rfl | rfl <;> simp [binOp]) (eqv_slice hu _ _ _ w 9999).2.1
      · subst hb; obtain ⟨c, o, rfl, _⟩ := ha
        exact eq_finish hop w (eqGuard_plain _ _ _ _ _ _ (by simp) (by simp) P w) (fun op' ho => by rcases ho with rfl | rfl <;> simp [binOp]) (eqv_slice hu _ _ _ w 9999).2.2
    · rename_i kt el hd
      have hu : P.underlying t = some (.map kt el) := by rw [ok.under, hd]
      split at e <;> cases e <;> simp only [VR] at ha hb
      · subst ha; subst hb
        exact eq_finish hop w (eqGuard_plain _ _ _ _ _ _ (by simp) (by simp) P w) (fun op' ho => by rcases ho with rfl | rfl <;> simp [binOp]) (eqv_map hu 0 w 9999).1
      · subst ha; obtain ⟨c, o, s, _, rfl⟩ := hb
        exact eq_finish hop w (eqGuard_plain _ _ _ _ _ _ (by simp) (by simp) P w) (fun op' ho => by rcases ho with rfl | rfl <;> simp [binOp]) (eqv_map hu _ w 9999).2.1
      · subst hb; obtain ⟨c, o, s, _, rfl⟩ := ha
        exact eq_finish hop w (eqGuard_plain _ _ _ _ _ _ (by simp) (by simp) P w) (fun op' ho => by rcases ho with rfl | rfl <;> simp [binOp]) (eqv_map hu _ w 9999).2.2
    · rename_i p q vv hd
      have hu : P.underlying t = some (.func p q vv) := by rw [ok.under, hd]
      split at e <;> cases e <;> simp only [VR] at ha hb
      · subst ha; subst hb
        exact eq_finish hop w (eqGuard_plain _ _ _ _ _ _ (by simp) (by simp) P w) (fun op' ho => by rcases ho with rfl | rfl <;> simp [binOp]) (eqv_func hu (.func 0) #[] #[] w 9999).1
      · subst ha; obtain ⟨c, o, rfl, _⟩ := hb
        exact eq_finish hop w (eqGuard_plain _ _ _ _ _ _ (by simp) (by simp) P w) (fun op' ho => by rcases ho with rfl | rfl <;> simp [binOp]) (eqv_func hu _ _ _ w 9999).2.1
      · subst hb; obtain ⟨c, o, rfl, _⟩ := ha
        exact eq_finish hop w (eqGuard_plain _ _ _ _ _ _ (by simp) (by simp) P w) (fun op' ho => by rcases ho with rfl | rfl <;> simp [binOp]) (eqv_func hu _ _ _ w 9999).2.2
    · rename_i ms hd
      have hu : P.underlying t = some (.interface ms) := by rw [ok.under, hd]
      split at e
      · obtain ⟨hl, e⟩ := bi_some e
        cases e
        simp only [VR] at ha hb; subst ha; subst hb
        exact eq_finish hop w (eqGuard_lit op t (hlit hl) w) (fun op' ho => by rcases ho with rfl | rfl <;> simp [binOp]) (eqv_iface hu 0 .nilFunc w 9999).1
      · cases e
        simp only [VR] at ha hb; subst ha; obtain ⟨c, rfl, _⟩ := hb
        exact eq_finish hop w (eqGuard_plain _ _ _ _ _ _ (by simp) (by simp) P w) (fun op' ho => by rcases ho with rfl | rfl <;> simp [binOp]) (eqv_iface hu _ _ w 9999).2.1
      · cases e
        simp only [VR] at ha hb; subst hb; obtain ⟨c, rfl, _⟩ := ha
        exact eq_finish hop w (eqGuard_plain _ _ _ _ _ _ (by simp) (by simp) P w) (fun op' ho => by rcases ho with rfl | rfl <;> simp [binOp]) (eqv_iface hu _ _ w 9999).2.2
      · cases e
    · rename_i fs hd
      have hu : P.underlying t = some (.struct fs) := by rw [ok.under, hd]
      have hfs : P.fieldsOf t = fs := by simp [Program.fieldsOf, hu]
      split at e
      · obtain ⟨hm, e⟩ := bi_some e
        have q := hT.eqs t (memNat_mem hm)
        simp only [VR] at ha hb
        obtain ⟨l1, rfl, hl1, _⟩ := ha
        obtain ⟨l2, rfl, hl2, _⟩ := hb
        refine eq_finish hop w (run_eqGuard_agg w op t x y _ _ q.guard) (fun op' ho => by rcases ho with rfl | rfl <;> simp [binOp]) ?_
        rw [run_equalIn_struct w 9999 t _ _ (by rw [hfs]; exact hu) q.stood, hfs]
        exact eqFields_sound hT hl1 hl2 9998 w fs.toList r (by rw [← hfs]; exact q.names) e
      · cases e
    · cases e
end

end Go.AM
namespace Go.AM

section
variable {P : Program} {T : Tab} {φ : Emb} {h : Heap} {m : Ps} {w : World} {v : AV} {h' : Heap} {m' : Ps}

theorem binOpx_sound (hT : TOk T P) {t : Nat} {x y : Operand} {a b : AV} {ca cb : Value} {lit : Bool} {op : BinOp} (hlit : lit = true → ((x matches .const _) || (y matches .const _)) = true)
    (e : binOpx T t (cBin op) lit a b h m = .val v h' m') (ha : VR φ a ca) (hb : VR φ b cb) (k : HR φ h m w) :
    ValS P φ h m w (do eqGuard op t x y ca cb; binOp op t ca cb) v h' m' ∧ h' = h ∧ m' = m := by
  unfold binOpx at e
  split at e
  · split at e
    · rename_i k1 x1 k2 y1
      obtain ⟨hk, e⟩ := bi_val e
      simp only [VR] at ha hb; subst ha; subst hb
      refine binInt_sound ?_ e k
      cases hs : (cBin op).shift with
      | true => exact .inl rfl
      | false => rw [hs] at hk; exact .inr ((kindEq_iff _ _).1 hk)
    · cases e
  · split at e
    · simp only [VR] at ha hb
      obtain ⟨s, rfl, rfl, rfl⟩ := ha
      obtain ⟨r, rfl, rfl, rfl⟩ := hb
      exact binStr_sound e k
    · cases e
  · have hre : (cBin op).re = if op = .eql then some true else if op = .neq then some false else none := by cases op <;> rfl
    unfold eqRes at e
    rw [hre] at e
    cases hq : eqOp T t lit a b with
    | none => rw [hq] at e; cases op <;> simp at e
    | some r =>
      rw [hq] at e
      by_cases h1 : op = .eql
      · subst h1
        simp only [if_true, mkBool_eq] at e; cases e
        exact ⟨.pure k (eqOp_sound hT hlit hq ha hb .eql (.inl rfl) w) (by simp [VR]), rfl, rfl⟩
      · by_cases h2 : op = .neq
        · subst h2
          simp only [if_neg h1, if_true, mkBool_eq, notB_eq] at e; cases e
          exact ⟨.pure k (eqOp_sound hT hlit hq ha hb .neq (.inr rfl) w) (by simp [VR]), rfl, rfl⟩
        · simp only [if_neg h1, if_neg h2] at e
          cases e

theorem unOp_sound {op : UnOp} {a : AV} {ca : Value} (e : unOpx op a h m = .val v h' m') (ha : VR φ a ca) (k : HR φ h m w) :
    ValS P φ h m w (Op.unary op ca) v h' m' ∧ h' = h ∧ m' = m := by
  unfold unOpx at e
  split at e
  · rw [mkBool_eq, notB_eq] at e; cases e
    simp only [VR] at ha; subst ha
    exact ⟨.pure k (cv := .bool _) rfl (by simp [VR]), rfl, rfl⟩
  · rw [mkInt_eq, wrapF_eq] at e; cases e
    simp only [VR] at ha; subst ha
    exact ⟨.pure k (cv := .int _ _) rfl (by simp only [VR]; rfl), rfl, rfl⟩
  · cases e

theorem fieldPlace_run {ti : TI} {f : Field} (ok : TyOk P f.type ti) (hz : 0 < ti.size) (a : Addr) : (fieldPlace a f).run P w = .ok (a.add f.offset) w := by
  simp only [fieldPlace, Sem.run_bind, ok.run_size, Result.andThen_ok, if_neg (show ¬ ti.size = 0 by omega)]; rfl

theorem fieldOf_sound (hT : TOk T P) {t f : Nat} {off : Nat} {ti : TI} (e : fieldOf T t f = some (off, ti)) : ∃ fs fd, P.underlying t = some (.struct fs) ∧ fs[f]? = some fd ∧ fd.offset = off ∧ TyOk P fd.type ti := by
  unfold fieldOf at e
  split at e
  · rename_i u size bytes agg zok zero pat hti
    have ok := ty_ok hT hti
    split at e
    · rename_i fd hfd
      split at e
      · rename_i ti' hti'
        cases e
        exact ⟨_, fd, ok.under, by rw [nth_eq] at hfd; simpa using hfd, rfl, ty_ok hT hti'⟩
      · cases e
    · cases e
  · cases e

theorem fieldAddr_sound (hT : TOk T P) {t f : Nat} {a : AV} {ca : Value} (e : fieldAddrOp T t a f h m = .val v h' m') (ha : VR φ a ca) (k : HR φ h m w) :
    ValS P φ h m w (Instr.fieldAt t ca f) v h' m' ∧ h' = h ∧ m' = m := by
  unfold fieldAddrOp at e
  split at e
  · rename_i b o
    split at e
    · rename_i off ti hf
      obtain ⟨hz, e⟩ := bi_val e
      simp only [forceNat_eq] at e
      cases e
      obtain ⟨fs, fd, h1, h2, h3, h4⟩ := fieldOf_sound hT hf
      simp only [VR] at ha
      obtain ⟨c, o', sz, hφ, rfl⟩ := ha
      refine ⟨.pure k (cv := .pointer (some ⟨c, o' + (o + off), none⟩)) ?_ ?_, rfl, rfl⟩
      · simp only [Instr.fieldAt, Sem.run_bind, run_underlying' h1, Result.andThen_ok, h2, Instr.sureAddr, pure_bind, fieldPlace_run h4 ((blt_iff _ _).1 hz), add_zero_spot, h3, Sem.run_pure]
        rw [Nat.add_assoc]
      · simp only [VR]; exact ⟨c, o', sz, hφ, rfl⟩
    · cases e
  · cases e

theorem partOf_sound {ti : TI} {t : Nat} (ok : TyOk P t ti) {l : List AV} {cl : List Value} (hl : VRs φ l cl) (hf : ∀ x, x ∈ l → flat x = true) {off : Nat} (e : partOf l off ti.size ti.agg = some v) :
    ∃ c, (part t cl.toArray off).run P w = .ok c w ∧ VR φ v c := by
  unfold partOf at e
  cases hag : ti.agg with
  | true =>
    rw [hag] at e; simp only [bi_true] at e; cases e
    refine ⟨.agg ((cl.drop off).take ti.size).toArray, ?_, ?_⟩
    · simp only [part, Sem.run_bind, ok.run_agg, Result.andThen_ok, hag, if_true, ok.run_size, Sem.run_pure]
      congr 2
      apply Array.ext'
      simp [List.extract_eq_take_drop]
    · simp only [VR]
      exact ⟨_, rfl, (hl.drop off).take ti.size, fun x hx => hf x (List.mem_of_mem_drop (List.mem_of_mem_take hx))⟩
  | false =>
    rw [hag] at e; simp only [bi_false, nth_eq] at e
    obtain ⟨c, hc, hr⟩ := hl.get e
    exact ⟨c, run_part_cell ok hag hc w, hr⟩

theorem field_sound (hT : TOk T P) {t f : Nat} {a : AV} {ca : Value} (e : fieldOp T t a f h m = .val v h' m') (ha : VR φ a ca) (k : HR φ h m w) :
    ValS P φ h m w (Instr.field t ca f) v h' m' ∧ h' = h ∧ m' = m := by
  unfold fieldOp at e
  split at e
  · rename_i cs
    split at e
    · rename_i off ti hf
      obtain ⟨fs, fd, h1, h2, h3, h4⟩ := fieldOf_sound hT hf
      simp only [VR] at ha
      obtain ⟨cl, rfl, hl, hfl⟩ := ha
      have main : ∀ x, partOf cs off ti.size ti.agg = some x → ValS P φ h m w (Instr.field t (.agg cl.toArray) f) x h m := fun x hx => by
        obtain ⟨c, hc, hr⟩ := partOf_sound (w := w) h4 hl hfl hx
        refine .pure k (cv := c) ?_ hr
        simp only [Instr.field, Sem.run_bind, run_underlying' h1, Result.andThen_ok, h2, asAgg, pure_bind, h3, hc]
      split at e
      · rename_i l hx
        simp only [forceL_eq] at e; cases e
        exact ⟨main _ hx, rfl, rfl⟩
      · rename_i x hne hx
        cases e
        exact ⟨main _ hx, rfl, rfl⟩
      · cases e
    · cases e
  · cases e

theorem asIdx_sound {a : AV} {n : Nat} {ca : Value} (e : asIdx a = some n) (ha : VR φ a ca) : ∃ k, ca = .int k (n : Int) := by
  unfold asIdx at e
  split at e
  · cases e
    simp only [VR] at ha
    exact ⟨_, ha⟩
  · cases e

theorem elemOfSlice_sound (hT : TOk T P) {t et : Nat} {ti : TI} (e : elemOfSlice T t = some (et, ti)) : P.underlying t = some (.slice et) ∧ TyOk P et ti := by
  unfold elemOfSlice at e
  split at e
  · rename_i hti
    have ok := ty_ok hT hti
    split at e
    · rename_i hi
      cases e
      exact ⟨ok.under, ty_ok hT hi⟩
    · cases e
  · cases e

theorem isU8_sound (hT : TOk T P) {t : Nat} (e : isU8 T t = true) : P.underlying t = some (.int .u8) ∧ ∀ ti, TyOk P t ti → ti.size = 1 := by
  unfold isU8 at e
  split at e
  · rename_i hti
    have ok := ty_ok hT hti
    refine ⟨ok.under, fun ti k => ?_⟩
    obtain ⟨i, h1, h2, _⟩ := ok.info
    obtain ⟨j, h3, h4, _⟩ := k.info
    rw [h1] at h3; cases h3
    rw [← h4, h2]
    exact (beq_iff _ _).1 e
  · cases e

theorem indexAddr_sound (hT : TOk T P) {t : Nat} {a i : AV} {ca ci : Value} (e : indexAddrOp T t a i h m = .val v h' m') (ha : VR φ a ca) (hi : VR φ i ci) (k : HR φ h m w) :
    ValS P φ h m w (Instr.indexAt t ca ci) v h' m' ∧ h' = h ∧ m' = m := by
  unfold indexAddrOp at e
  split at e
  · cases e
  · rename_i n hn
    obtain ⟨ki, rfl⟩ := asIdx_sound hn hi
    split at e
    · rename_i b o len cap el op
      split at e
      · rename_i et ti hel
        obtain ⟨h1, h2⟩ := elemOfSlice_sound hT hel
        obtain ⟨hs, e⟩ := bi_val e
        obtain ⟨hlt, e⟩ := bi_val e
        simp only [forceNat_eq] at e; cases e
        have hs := (beq_iff _ _).1 hs
        have hlt := (blt_iff _ _).1 hlt
        simp only [VR] at ha
        obtain ⟨a', ccap, rfl, q1, q2, q3, q4⟩ := ha
        obtain ⟨c, off, sz, hφ, rfl, _⟩ := q4 (by omega)
        refine ⟨.pure k (cv := .pointer (some ⟨c, off + (o + n * el), none⟩)) ?_ ?_, rfl, rfl⟩
        · have hb : 0 ≤ (n : Int) ∧ (n : Int) < (len : Int) := ⟨by omega, by omega⟩
          simp only [Instr.indexAt, asIntOf, pure_bind, Sem.run_bind, run_underlying' h1, Result.andThen_ok, Sem.run_pure, hb, and_self, if_true, h2.run_size, Int.toNat_natCast, add_zero_spot, hs]
          rw [Nat.add_assoc]
        · simp only [VR]; exact ⟨c, off, sz, hφ, rfl⟩
      · cases e
    · rename_i b o
      split at e
      · rename_i nn el size bytes agg zok zero pat hti
        have ok := ty_ok hT hti
        split at e
        · rename_i ti hte
          have h2 := ty_ok hT hte
          obtain ⟨hlt, e⟩ := bi_val e
          simp only [forceNat_eq] at e; cases e
          have hlt := (blt_iff _ _).1 hlt
          simp only [VR] at ha
          obtain ⟨c, off, sz, hφ, rfl⟩ := ha
          refine ⟨.pure k (cv := .pointer (some ⟨c, off + (o + n * ti.size), none⟩)) ?_ ?_, rfl, rfl⟩
          · have hb : 0 ≤ (n : Int) ∧ (n : Int) < (nn : Int) := ⟨by omega, by omega⟩
            simp only [Instr.indexAt, asIntOf, pure_bind, Sem.run_bind, run_underlying' ok.under, Result.andThen_ok, Sem.run_pure, Instr.sureAddr, hb, and_self, if_true, h2.run_size, Int.toNat_natCast, add_zero_spot]
            rw [Nat.add_assoc]
          · simp only [VR]; exact ⟨c, off, sz, hφ, rfl⟩
        · cases e
      · cases e
    · cases e
end

end Go.AM
namespace Go.AM

theorem u8_val (b : UInt8) : u8 b = .int .u8 b.toNat := rfl

/-- a string of bytes -/
def strOf (bs : List UInt8) : ByteArray := ⟨bs.toArray⟩
theorem strOf_list (bs : List UInt8) : (strOf bs).data.toList = bs := by simp [strOf]
theorem VR.str (φ : Emb) (bs : List UInt8) : VR φ (.st (encBytes bs) bs.length) (.string (strOf bs)) := by
  simp only [VR]; exact ⟨_, rfl, by rw [strOf_list], by rw [strOf_list]⟩

theorem ext_le {bs : List UInt8} {l h : Nat} (h1 : l ≤ h) (h2 : h ≤ bs.length) : ext (encBytes bs) l h = encBytes ((bs.drop l).take (h - l)) := by
  have := enc_take_drop bs l (h - l) (by omega)
  rwa [show l + (h - l) = h by omega] at this

def OptR (φ : Emb) : Option AV → Option Value → Prop
  | none, none => True
  | some a, some c => VR φ a c
  | _, _ => False

section
variable {P : Program} {T : Tab} {φ : Emb} {h : Heap} {m : Ps} {w : World} {v : AV} {h' : Heap} {m' : Ps}

theorem index_sound (hT : TOk T P) {t : Nat} {a i : AV} {ca ci : Value} (e : indexOp T t a i h m = .val v h' m') (ha : VR φ a ca) (hi : VR φ i ci) (k : HR φ h m w) :
    ValS P φ h m w (Instr.index t ca ci) v h' m' ∧ h' = h ∧ m' = m := by
  unfold indexOp at e
  split at e
  · cases e
  · rename_i n hn
    obtain ⟨ki, rfl⟩ := asIdx_sound hn hi
    split at e
    · rename_i x len
      split at e
      · rename_i size bytes agg zok zero pat hti
        have ok := ty_ok hT hti
        obtain ⟨hlt, e⟩ := bi_val e
        simp only [forceNat_eq] at e; cases e
        have hlt := (blt_iff _ _).1 hlt
        simp only [VR] at ha
        obtain ⟨s, rfl, rfl, rfl⟩ := ha
        have hs : s.size = s.data.toList.length := by cases s; rfl
        have hsz : n < s.size := by omega
        have hd : n < s.data.size := hsz
        refine ⟨.pure k (cv := .int .u8 (s.data[n]'hd).toNat) ?_ ?_, rfl, rfl⟩
        · have hb : (0 : Int) ≤ (n : Int) := by omega
          have hg : s[n]? = some (s.data[n]'hd) := by rw [ByteArray.getElem?_lt' s n hsz]; rfl
          simp only [Instr.index, asIntOf, pure_bind, Sem.run_bind, run_underlying' ok.under, Result.andThen_ok, hb, if_true, Int.toNat_natCast, hg, Sem.run_pure]
        · simp only [VR]
          rw [byteAt_enc s.data.toList n (s.data[n]'hd) (by simp [hd])]; rfl
      · cases e
    · rename_i cs
      split at e
      · rename_i nn el size bytes agg zok zero pat hti
        have ok := ty_ok hT hti
        split at e
        · rename_i ti hte
          have h2 := ty_ok hT hte
          obtain ⟨hlt, e⟩ := bi_val e
          have hlt := (blt_iff _ _).1 hlt
          split at e
          · rename_i x hx
            cases e
            simp only [VR] at ha
            obtain ⟨cl, rfl, hl, hfl⟩ := ha
            obtain ⟨c, hc, hr⟩ := partOf_sound (w := w) h2 hl hfl hx
            refine ⟨.pure k (cv := c) ?_ hr, rfl, rfl⟩
            have hb : 0 ≤ (n : Int) ∧ (n : Int) < (nn : Int) := ⟨by omega, by omega⟩
            simp only [Instr.index, asIntOf, pure_bind, Sem.run_bind, run_underlying' ok.under, Result.andThen_ok, hb, and_self, if_true, h2.run_size, Int.toNat_natCast]
            exact hc
          · cases e
        · cases e
      · cases e
    · cases e

/-- bounds of a slice expression -/
theorem bound_none {d hi n : Nat} (e : bound none d hi = some n) : n = d := by
  unfold bound at e; cases e; rfl
theorem bound_sound {x : AV} {cx : Value} {d hi n : Nat} (e : bound (some x) d hi = some n) (hx : VR φ x cx) : n ≤ hi ∧ ∃ k, cx = .int k (n : Int) := by
  unfold bound at e
  simp only at e
  split at e
  · rename_i j hj
    obtain ⟨hle, e⟩ := bi_some e
    cases e
    obtain ⟨kk, rfl⟩ := asIdx_sound hj hx
    exact ⟨(ble_iff _ _).1 hle, kk, rfl⟩
  · cases e

theorem run_sliceBound {k : IntKind} {n y : Nat} {code : BoundsCode} (hn : n ≤ y) : (Instr.sliceBound (.int k (n : Int)) y code).run P w = .ok n w := by
  have hb : 0 ≤ (n : Int) ∧ (n : Int) ≤ (y : Int) := ⟨by omega, by omega⟩
  simp only [Instr.sliceBound, asIntOf, pure_bind, hb, and_self, if_true, Int.toNat_natCast, Sem.run_pure]

theorem OptR.none_left {c : Option Value} (h : OptR φ none c) : c = none := by
  cases c with
  | none => rfl
  | some c => exact h.elim
theorem OptR.some_left {a : AV} {c : Option Value} (h : OptR φ (some a) c) : ∃ v, c = some v ∧ VR φ a v := by
  cases c with
  | none => exact h.elim
  | some c => exact ⟨c, rfl, h⟩

theorem bound_low {lo : Option AV} {clo : Option Value} {hh l : Nat} (hlo : OptR φ lo clo) (e : bound lo 0 hh = some l) :
    l ≤ hh ∧ (clo = none ∧ l = 0 ∨ ∃ k, clo = some (.int k (l : Int))) := by
  cases lo with
  | none => rw [hlo.none_left, bound_none e]; exact ⟨Nat.zero_le _, .inl ⟨rfl, rfl⟩⟩
  | some x =>
    obtain ⟨v, rfl, hv⟩ := hlo.some_left
    obtain ⟨h1, k, rfl⟩ := bound_sound e hv
    exact ⟨h1, .inr ⟨k, rfl⟩⟩

/-- the three bounds. len, cap: the concrete ones; cap': the abstract one, at most the concrete one -/
theorem bounds_sound {lo hi mx : Option AV} {clo chi cmx : Option Value} {len cap cap' : Nat} {kk : Nat → Nat → Nat → OR} (hlo : OptR φ lo clo) (hhi : OptR φ hi chi) (hmx : OptR φ mx cmx)
    (e : bounds len cap' lo hi mx kk = .val v h' m') (hlc : len ≤ cap') (hcc : cap' ≤ cap) :
    ∃ l hh c c2, kk l hh c = .val v h' m' ∧ (∀ isS, (Instr.sliceBounds isS len cap clo chi cmx).run P w = .ok (l, hh, c2) w) ∧ l ≤ hh ∧ hh ≤ c ∧ c ≤ cap' ∧ (isNo mx = true ∧ c2 = cap ∧ c = cap' ∨ isNo mx = false ∧ c2 = c) := by
  unfold bounds at e
  split at e
  · cases e
  · rename_i c hc
    split at e
    · split at e
      · cases e
      · split at e
        · rename_i l hl
          cases bound_none hc
          have h1 := hhi.none_left; have h2 := hmx.none_left; subst h1; subst h2
          obtain ⟨h3, h4⟩ := bound_low hlo hl
          refine ⟨l, len, cap', cap, e, fun isS => ?_, h3, hlc, Nat.le_refl _, .inl ⟨rfl, rfl, rfl⟩⟩
          rcases h4 with ⟨rfl, rfl⟩ | ⟨k, rfl⟩
          · simp [Instr.sliceBounds]
          · simp [Instr.sliceBounds, run_sliceBound h3]
        · cases e
    · rename_i x
      split at e
      · cases e
      · rename_i hh hhh
        split at e
        · rename_i l hl
          obtain ⟨h3, h4⟩ := bound_low hlo hl
          obtain ⟨ch, rfl, hch⟩ := hhi.some_left
          obtain ⟨h5, k2, rfl⟩ := bound_sound hhh hch
          cases mx with
          | none =>
            cases bound_none hc
            have h2 := hmx.none_left; subst h2
            have h6 : hh ≤ cap := by omega
            refine ⟨l, hh, cap', cap, e, fun isS => ?_, h3, h5, Nat.le_refl _, .inl ⟨rfl, rfl, rfl⟩⟩
            rcases h4 with ⟨rfl, rfl⟩ | ⟨k, rfl⟩
            · simp [Instr.sliceBounds, run_sliceBound h6]
            · simp [Instr.sliceBounds, run_sliceBound h3, run_sliceBound h6]
          | some y =>
            obtain ⟨cm, rfl, hcm⟩ := hmx.some_left
            obtain ⟨h7, k3, rfl⟩ := bound_sound hc hcm
            have h8 : c ≤ cap := by omega
            refine ⟨l, hh, c, c, e, fun isS => ?_, h3, h5, h7, .inr ⟨rfl, rfl⟩⟩
            rcases h4 with ⟨rfl, rfl⟩ | ⟨k, rfl⟩
            · simp [Instr.sliceBounds, run_sliceBound h8, run_sliceBound h5]
            · simp [Instr.sliceBounds, run_sliceBound h3, run_sliceBound h5, run_sliceBound h8]
        · cases e

theorem SlR.slice {b : Ps} {o len cap e : Nat} {op : Bool} {a : Addr} {ccap l hh c c2 : Nat} {n : Bool} (k : SlR φ b o len cap e op a ccap) (h1 : l ≤ hh) (h2 : hh ≤ c) (h3 : c ≤ cap)
    (h4 : n = true ∧ c2 = ccap ∧ c = cap ∨ n = false ∧ c2 = c) :
    SlR φ b (o + l * e) (hh - l) (c - l) e (bi n op false) (if c2 = l then a else a.add (l * e)) (c2 - l) := by
  obtain ⟨k1, k2, k3, k4⟩ := k
  refine ⟨by omega, ?_, fun ho => ?_, fun hc => ?_⟩
  · rcases h4 with ⟨_, rfl, rfl⟩ | ⟨_, rfl⟩ <;> omega
  · rcases h4 with ⟨rfl, rfl, rfl⟩ | ⟨rfl, rfl⟩
    · have := k3 ho; omega
    · rfl
  · have h5 : ccap ≠ 0 := by
      rcases h4 with ⟨_, rfl, rfl⟩ | ⟨_, rfl⟩ <;> omega
    obtain ⟨cc, off, sz, h6, h7, h8⟩ := k4 h5
    have hne : c2 ≠ l := by omega
    rw [if_neg hne]
    refine ⟨cc, off, sz, h6, by rw [h7]; simp [Addr.add, Nat.add_assoc], fun ho => ?_⟩
    rcases h4 with ⟨rfl, rfl, rfl⟩ | ⟨rfl, rfl⟩
    · have h9 := h8 ho
      have h10 : l * e + (c2 - l) * e = c2 * e := by rw [← Nat.add_mul]; congr 1; omega
      omega
    · cases ho

theorem slice_sound (hT : TOk T P) {t : Nat} {x : AV} {cx : Value} {lo hi mx : Option AV} {clo chi cmx : Option Value} (e : sliceOp T t x lo hi mx h m = .val v h' m') (hx : VR φ x cx)
    (hlo : OptR φ lo clo) (hhi : OptR φ hi chi) (hmx : OptR φ mx cmx) (k : HR φ h m w) :
    ValS P φ h m w (Instr.sliceAt t cx clo chi cmx) v h' m' ∧ h' = h ∧ m' = m := by
  unfold sliceOp at e
  split at e
  · cases e
  · rename_i ti hti
    have ok := ty_ok hT hti
    split at e
    · rename_i hu
      have hund := ok.under; rw [hu] at hund
      split at e
      · rename_i n len
        obtain ⟨hno, e⟩ := bi_val e
        have hmn : mx = none := by cases mx with
          | none => rfl
          | some _ => cases hno
        subst hmn
        have h2 := hmx.none_left; subst h2
        obtain ⟨l, hh, c, c2, e, hb, h3, h4, h5, h6⟩ := bounds_sound (P := P) (w := w) (cap := len) hlo hhi hmx e (Nat.le_refl _) (Nat.le_refl _)
        simp only [forceNat_eq] at e; cases e
        simp only [VR] at hx
        obtain ⟨s, rfl, rfl, rfl⟩ := hx
        have hs : s.size = s.data.toList.length := by cases s; rfl
        refine ⟨.pure k (cv := .string (s.extract l hh)) ?_ ?_, rfl, rfl⟩
        · rw [← hs] at hb
          simp [Instr.sliceAt, Instr.slice, run_underlying' hund, hb]
        · simp only [VR]
          have hex : (s.extract l hh).data.toList = (s.data.toList.drop l).take (hh - l) := by
            rw [ByteArray.data_extract]
            simp [List.extract_eq_take_drop]
          refine ⟨_, rfl, ?_, ?_⟩
          · rw [hex, ext_le h3 (by omega)]
          · rw [hex]; simp; omega
      · cases e
    · rename_i el hu
      have hund := ok.under; rw [hu] at hund
      split at e
      · cases e
      · rename_i te hte
        have ok2 := ty_ok hT hte
        split at e
        · obtain ⟨l, hh, c, c2, e, hb, h3, h4, h5, h6⟩ := bounds_sound (P := P) (w := w) (cap := 0) hlo hhi hmx e (Nat.le_refl _) (Nat.le_refl _)
          cases e
          simp only [VR] at hx; subst hx
          have : l = 0 ∧ hh = 0 ∧ c2 = 0 := by rcases h6 with ⟨_, rfl, rfl⟩ | ⟨_, rfl⟩ <;> omega
          obtain ⟨rfl, rfl, rfl⟩ := this
          refine ⟨.pure k (cv := .slice none 0 0) ?_ (by simp [VR]), rfl, rfl⟩
          simp [Instr.sliceAt, Instr.slice, run_underlying' hund, hb, ok2.run_size]
        · rename_i b o len cap e' op
          obtain ⟨hsz, e⟩ := bi_val e
          have hsz := (beq_iff _ _).1 hsz
          simp only [VR] at hx
          obtain ⟨a, ccap, rfl, hs⟩ := hx
          obtain ⟨l, hh, c, c2, e, hb, h3, h4, h5, h6⟩ := bounds_sound (P := P) (w := w) (cap := ccap) hlo hhi hmx e hs.1 hs.2.1
          simp only [forceNat_eq] at e; cases e
          have hsl := hs.slice h3 h4 h5 h6
          refine ⟨.pure k (cv := .slice (some (if c2 = l then a else a.add (l * e'))) (hh - l) (c2 - l)) ?_ ?_, rfl, rfl⟩
          · simp only [Instr.sliceAt, Instr.slice, Sem.run_bind, run_underlying' hund, Result.andThen_ok, hb, ok2.run_size, Sem.run_pure]
            rw [hsz]
            split <;> rfl
          · simp only [VR]; exact ⟨_, _, rfl, hsl⟩
        · cases e
    · rename_i n el hu
      have hund := ok.under; rw [hu] at hund
      split at e
      · cases e
      · rename_i te hte
        have ok2 := ty_ok hT hte
        split at e
        · rename_i b o
          simp only [VR] at hx
          obtain ⟨cc, off, sz, hφ, rfl⟩ := hx
          obtain ⟨l, hh, c, c2, e, hb, h3, h4, h5, h6⟩ := bounds_sound (P := P) (w := w) (cap := n) hlo hhi hmx e (Nat.le_refl _) (Nat.le_refl _)
          simp only [forceNat_eq] at e; cases e
          have hc2 : c2 = c := by rcases h6 with ⟨_, rfl, rfl⟩ | ⟨_, rfl⟩ <;> rfl
          subst hc2
          refine ⟨.pure k (cv := .slice (some (if c2 = l then (⟨cc, off + o, none⟩ : Addr) else (⟨cc, off + o, none⟩ : Addr).add (l * te.size))) (hh - l) (c2 - l)) ?_ ?_, rfl, rfl⟩
          · simp [Instr.sliceAt, Instr.sureAddr, run_underlying' hund, hb, ok2.run_size]
          · simp only [VR]
            refine ⟨_, _, rfl, by show hh - l ≤ c2 - l; omega, Nat.le_refl _, fun _ => rfl, fun hc => ?_⟩
            have hne : c2 ≠ l := by omega
            rw [if_neg hne]
            exact ⟨cc, off, sz, hφ, by simp [Addr.add, Nat.add_assoc], fun hf => by cases hf⟩
        · cases e
    · cases e
end

end Go.AM
namespace Go.AM

theorem strOf_size (bs : List UInt8) : (strOf bs).size = bs.length := by simp [strOf, ByteArray.size]

/-- pairs of a place and a value -/
def PRs (φ : Emb) : List (Nat × AV) → List (Nat × Value) → Prop
  | [], l => l = []
  | (i, a) :: r, l => ∃ v l', l = (i, v) :: l' ∧ VR φ a v ∧ PRs φ r l'

theorem zip_set (vs : List Value) : ∀ (k off : Nat) (cs : Array Value) (p : Nat),
    (((vs.zipIdx k).foldl (fun cs (x : Value × Nat) => cs.setIfInBounds (off + x.2) x.1) cs))[p]? = if off + k ≤ p ∧ p < off + k + vs.length ∧ p < cs.size then vs[p - (off + k)]? else cs[p]? := by
  induction vs with
  | nil => intro k off cs p; simp; intro h1 h2; omega
  | cons v vs ih =>
    intro k off cs p
    simp only [List.zipIdx_cons, List.foldl_cons]
    rw [ih]
    simp only [Array.size_setIfInBounds, List.length_cons]
    by_cases h : off + (k + 1) ≤ p ∧ p < off + (k + 1) + vs.length ∧ p < cs.size
    · rw [if_pos h, if_pos (by omega)]
      have : p - (off + k) = (p - (off + (k + 1))) + 1 := by omega
      rw [this, List.getElem?_cons_succ]
    · rw [if_neg h]
      by_cases h2 : off + k ≤ p ∧ p < off + k + (vs.length + 1) ∧ p < cs.size
      · have hp : p = off + k := by omega
        rw [if_pos h2, hp, Nat.sub_self, List.getElem?_cons_zero, Array.getElem?_setIfInBounds]
        simp; omega
      · rw [if_neg h2, Array.getElem?_setIfInBounds]
        by_cases h3 : off + k = p
        · rw [if_pos h3]
          have : ¬ p < cs.size := by omega
          rw [if_neg (by omega), Array.getElem?_eq_none (by omega)]
        · rw [if_neg h3]

theorem zip_toList {φ : Emb} {cs : List AV} {ccs : Array Value} {vs : List AV} {us : List Value} {off : Nat} (h1 : VRs φ cs ccs.toList) (h2 : VRs φ vs us) (hle : off + vs.length ≤ cs.length) :
    VRs φ (spliceL cs off vs) ((us.zipIdx 0).foldl (fun cs (x : Value × Nat) => cs.setIfInBounds (off + x.2) x.1) ccs).toList := by
  have hl1 := h1.length
  have hl2 := h2.length
  have hsz : ∀ (us : List (Value × Nat)) (cc : Array Value), (us.foldl (fun cs (x : Value × Nat) => cs.setIfInBounds (off + x.2) x.1) cc).size = cc.size := by
    intro us
    induction us with
    | nil => intro cc; rfl
    | cons u us ih => intro cc; rw [List.foldl_cons, ih]; simp
  have hl : (spliceL cs off vs).length = cs.length := by simp [spliceL]; omega
  refine VRs.of_get ?_ fun i a u ha hu => ?_
  · rw [hl, Array.length_toList, hsz, ← hl1, Array.length_toList]
  · rw [Array.getElem?_toList, zip_set] at hu
    simp only [Nat.add_zero] at hu
    simp only [spliceL] at ha
    have hcs : ccs.size = cs.length := by rw [← hl1, Array.length_toList]
    by_cases c : off ≤ i ∧ i < off + us.length
    · rw [if_pos (by omega)] at hu
      have : (List.take off cs ++ vs ++ List.drop (off + vs.length) cs)[i]? = vs[i - off]? := by
        rw [List.append_assoc, List.getElem?_append_right (by simp; omega), List.getElem?_append_left (by simp; omega)]
        congr 1
        simp; omega
      rw [this] at ha
      obtain ⟨u', hu', hr⟩ := h2.get ha
      rw [hu] at hu'; cases hu'; exact hr
    · rw [if_neg (by omega)] at hu
      have : (List.take off cs ++ vs ++ List.drop (off + vs.length) cs)[i]? = cs[i]? := by
        rcases Nat.lt_or_ge i off with h | h
        · rw [List.append_assoc, List.getElem?_append_left (by simp; omega), List.getElem?_take, if_pos h]
        · rw [List.getElem?_append_right (by simp; omega), List.getElem?_drop]
          congr 1
          simp; omega
      rw [this] at ha
      obtain ⟨u', hu', hr⟩ := h1.get ha
      rw [← Array.getElem?_toList] at hu
      rw [hu] at hu'; cases hu'; exact hr

theorem spliceL_flat {cs : List AV} {off : Nat} {vs : List AV} (h1 : ∀ x, x ∈ cs → flat x = true) (h2 : ∀ x, x ∈ vs → flat x = true) : ∀ x, x ∈ spliceL cs off vs → flat x = true := by
  intro x hx
  simp only [spliceL, List.mem_append] at hx
  rcases hx with (hx | hx) | hx
  · exact h1 x (List.mem_of_mem_take hx)
  · exact h2 x hx
  · exact h1 x (List.mem_of_mem_drop hx)

theorem fill_sound {φ : Emb} {pl : Nat → Option (Nat × Nat)} {pc : Nat → Option (Nat × Nat)} (hp : ∀ i x, pl i = some x → pc i = some x) : ∀ {parts : List (Nat × AV)} {cparts : List (Nat × Value)} {cs : List AV} {ccs : Array Value} {l : List AV},
    PRs φ parts cparts → VRs φ cs ccs.toList → (∀ x, x ∈ cs → flat x = true) → buildParts pl cs parts = some l →
    ∃ cl : Array Value, Instr.fill pc ccs cparts = some cl ∧ VRs φ l cl.toList ∧ (∀ x, x ∈ l → flat x = true) ∧ l.length = cs.length
  | [], _, cs, ccs, l, h1, h2, h3, e => by
    simp only [PRs] at h1; subst h1
    simp only [buildParts] at e; cases e
    exact ⟨ccs, rfl, h2, h3, rfl⟩
  | (i, a) :: r, _, cs, ccs, l, h1, h2, h3, e => by
    simp only [PRs] at h1
    obtain ⟨v, l', rfl, h4, h5⟩ := h1
    simp only [buildParts] at e
    split at e
    · rename_i off size hpl
      obtain ⟨c1, e⟩ := bi_some e
      obtain ⟨c2, e⟩ := bi_some e
      have htu : isTu a = false := by cases ht : isTu a with
        | false => rfl
        | true => rw [ht] at c1; cases c1
      rw [htu] at c1; simp only [bi_false] at c1
      have c1 := (beq_iff _ _).1 c1
      have c2 := (ble_iff _ _).1 c2
      have c2' : off + size ≤ cs.length := c2
      obtain ⟨g1, g2⟩ := h4.cellsOf htu
      have hlen := g1.length
      have hcs := h2.length
      have hz := zip_toList (off := off) h2 g1 (by omega)
      obtain ⟨cl, k1, k2, k3, k4⟩ := fill_sound hp h5 hz (spliceL_flat h3 g2) e
      refine ⟨cl, ?_, k2, k3, by rw [k4]; simp [spliceL]; omega⟩
      have hvs : v.cells.size = size := by rw [← Array.length_toList, hlen, c1]
      have hcz : ccs.size = cs.length := by rw [← hcs, Array.length_toList]
      simp only [Instr.fill, hp i _ hpl]
      rw [if_neg (by simp; omega)]
      rw [← k1, ← Array.foldl_toList, Array.toList_zipIdx]
    · cases e

section
variable {P : Program} {T : Tab} {φ : Emb} {h : Heap} {m : Ps} {w : World} {v : AV} {h' : Heap} {m' : Ps}

theorem places_some {P : Program} : ∀ {fs : List Field}, (∀ f, f ∈ fs → ∃ i, P.info? f.type = some i) → ∃ l, fs.mapM (fun f => (P.info? f.type).map fun i => (f.offset, i.size)) = some l ∧
    ∀ (j : Nat) (f : Field) (i : TypeInfo), fs[j]? = some f → P.info? f.type = some i → l[j]? = some (f.offset, i.size)
  | [], _ => ⟨[], by simp, fun j f i hj => by simp at hj⟩
  | f :: fs, h => by
    obtain ⟨i, hi⟩ := h f List.mem_cons_self
    obtain ⟨l, h1, h2⟩ := places_some fun g hg => h g (List.mem_cons_of_mem _ hg)
    refine ⟨(f.offset, i.size) :: l, by simp [List.mapM_cons, hi, h1], fun j g i' hj hg => ?_⟩
    cases j with
    | zero => simp at hj; subst hj; rw [hi] at hg; cases hg; rfl
    | succ j => simpa using h2 j g i' (by simpa using hj) hg

theorem build_sound (hT : TOk T P) {t : Nat} {parts : List (Nat × AV)} {cparts : List (Nat × Value)} (e : buildOp T t parts h m = .val v h' m') (hp : PRs φ parts cparts) (k : HR φ h m w) :
    ValS P φ h m w (Instr.build t cparts.toArray) v h' m' ∧ h' = h ∧ m' = m := by
  unfold buildOp at e
  split at e
  · rename_i tb htb
    have ok := ty_ok hT htb
    obtain ⟨hz, e⟩ := bi_val e
    obtain ⟨it, hit, hsz, _, hzz⟩ := ok.info
    obtain ⟨z, hiz, zok⟩ := hzz hz
    have hund := ok.under
    split at e
    · rename_i fs hu
      rw [hu] at hund
      split at e
      · rename_i l hl
        rw [forceL_eq] at e; cases e
        obtain ⟨pl, hpl1, hpl2⟩ := places_some (P := P) (fs := fs.toList) (ty_closed hT htb hu)
        obtain ⟨cl, k1, k2, k3, k4⟩ := fill_sound (φ := φ) (pc := (pl.toArray[·]?)) (fun i x hx => by
          unfold placeIn at hx
          rw [nth_eq] at hx
          split at hx
          · rename_i fd hfd
            split at hx
            · rename_i ti hti
              cases hx
              obtain ⟨j, hj, hjs, _⟩ := (ty_ok hT hti).info
              rw [List.getElem?_toArray, hpl2 i fd j hfd hj, hjs]
            · cases hx
          · cases hx) hp (zok.cells φ) zok.flats hl
        refine ⟨.pure k (cv := .agg cl) (run_build w t _ _ ?_) ?_, rfl, rfl⟩
        · simp only [Program.built, hit, hund, hiz, hpl1]
          exact k1
        · simp only [VR]; exact ⟨cl.toList, by simp, k2, k3⟩
      · cases e
    · rename_i n el hu
      rw [hu] at hund
      split at e
      · rename_i ti hti
        obtain ⟨j, hj, hjs, _⟩ := (ty_ok hT hti).info
        split at e
        · rename_i q p zs hpat hzr he
          clear he
          cases e
          have hpc : cparts = [] := hp
          subst hpc
          have hag : tb.agg = true := by rw [← ok.agg, hu]; rfl
          rcases zok.form with ⟨_, cs, rfl⟩ | ⟨h0, _⟩
          · have hc := zok.cells φ
            have hl := hc.length
            refine ⟨.pure k (cv := .agg cs) (run_build w t _ _ ?_) ?_, rfl, rfl⟩
            · simp [Program.built, hit, hund, hiz, hj, Instr.fill, Value.cells]
            · simp only [VR]
              have hpq : q = p := by
                have := ok.pat 0 (by rw [hzr]; simp)
                rw [hpat, hzr] at this
                simpa [patAt] using this
              refine ⟨cs.toList, by simp, ?_, fun x hx => ?_, ?_⟩
              · rw [← zok.len]; simpa [Value.cells] using hl
              · obtain ⟨i, hi⟩ := List.getElem?_of_mem hx
                have hlt : i < cs.toList.length := by
                  rcases Nat.lt_or_ge i cs.toList.length with h | h
                  · exact h
                  · rw [List.getElem?_eq_none h] at hi; cases hi
                have hz2 := ok.pat i (by simpa [Value.cells] using hl ▸ hlt)
                rw [hpat] at hz2
                obtain ⟨u, hu2, hr⟩ := hc.get hz2.symm
                simp only [Value.cells] at hu2
                rw [hi] at hu2; cases hu2
                rw [← hpq]; exact hr
              · exact zok.flats p (by rw [hzr]; exact List.mem_cons_self)
          · rw [hag] at h0; cases h0
        split at e
        · rename_i l hl
          rw [forceL_eq] at e; cases e
          obtain ⟨cl, k1, k2, k3, k4⟩ := fill_sound (φ := φ) (pc := fun i => some (i * j.size, j.size)) (fun i x hx => by cases hx; rw [hjs]; rfl) hp (zok.cells φ) zok.flats hl
          refine ⟨.pure k (cv := .agg cl) (run_build w t _ _ ?_) ?_, rfl, rfl⟩
          · simp only [Program.built, hit, hund, hiz, hj]
            exact k1
          · simp only [VR]; exact ⟨cl.toList, by simp, k2, k3⟩
        · cases e
      · cases e
    · cases e
  · cases e

theorem repeatL_length (z : List AV) : ∀ n, (repeatL z n).length = n * z.length
  | 0 => by simp [repeatL]
  | n + 1 => by simp [repeatL, repeatL_length z n, Nat.succ_mul]; omega

theorem repeatL_get (z : List AV) : ∀ (n i : Nat), i < n * z.length → (repeatL z n)[i]? = z[i % z.length]?
  | 0, i, h => by simp at h
  | n + 1, i, h => by
    simp only [repeatL]
    rw [Nat.succ_mul] at h
    rcases Nat.lt_or_ge i z.length with hi | hi
    · rw [List.getElem?_append_left hi, Nat.mod_eq_of_lt hi]
    · rw [List.getElem?_append_right hi, repeatL_get z n _ (by omega), Nat.mod_eq_sub_mod hi]

theorem repeatL_flat {z : List AV} (hz : ∀ x, x ∈ z → flat x = true) : ∀ n x, x ∈ repeatL z n → flat x = true
  | 0, x, h => by simp [repeatL] at h
  | n + 1, x, h => by
    simp only [repeatL, List.mem_append] at h
    rcases h with h | h
    · exact hz x h
    · exact repeatL_flat hz n x h

theorem range_get (zc : Array Value) (N i : Nat) (hi : i < N) (hz : 0 < zc.size) : ((Array.range N).map fun i => zc[i % zc.size]!)[i]? = zc[i % zc.size]? := by
  have : i % zc.size < zc.size := Nat.mod_lt _ hz
  simp [Array.getElem?_map, hi, getElem!_pos, this]

theorem VRs.repeat {φ : Emb} {z : List AV} {zc : Array Value} (hz : VRs φ z zc.toList) (n N : Nat) (hN : N = n * z.length) : VRs φ (repeatL z n) ((Array.range N).map fun i => zc[i % zc.size]!).toList := by
  have hl := hz.length
  rw [Array.length_toList] at hl
  refine VRs.of_get (by simp [repeatL_length, hN]) fun i a u ha hu => ?_
  have hi : i < n * z.length := by
    have := (List.getElem?_eq_some_iff.1 ha).1
    rwa [repeatL_length] at this
  have hzp : 0 < z.length := by
    rcases Nat.eq_zero_or_pos z.length with h | h
    · rw [h] at hi; simp at hi
    · exact h
  rw [repeatL_get z n i hi] at ha
  rw [Array.getElem?_toList, range_get zc N i (by omega) (by omega), hl, ← Array.getElem?_toList] at hu
  obtain ⟨u', hu', hr⟩ := hz.get ha
  rw [hu] at hu'; cases hu'; exact hr

@[simp] theorem run_askRoom (n : Nat) : (askRoom n).run P w = .ok () w := by
  unfold askRoom; split
  · rfl
  · rfl

theorem isZ8_eq {z : List AV} (h : isZ8 z = true) : z = [.it .u8 0] := by
  unfold isZ8 at h
  split at h
  · rename_i n; rw [(beq_iff _ _).1 h]; rfl
  · cases h

theorem patAt_mod (p : List AV) (i : Nat) (hp : 0 < p.length) : patAt p i = p[i % p.length]? := by
  match p, hp with
  | [a], _ => simp [patAt, Nat.mod_one]
  | a :: b :: r, _ => show nth (a :: b :: r) (Nat.mod i (a :: b :: r).length) = _; rw [nth_eq]; rfl

theorem bytesOf_cells {φ : Emb} {l : List AV} {x : Nat} (h : bytesOf l = some x) : ∃ bs : List UInt8, bs.length = l.length ∧ encBytes bs = x ∧ l = bs.map fun b => .it .u8 (.ofNat b.toNat) := by
  obtain ⟨bs, h1, h2, h3⟩ := bytesOf_spec h
  refine ⟨bs, h1, h2, ?_⟩
  apply List.ext_getElem?
  intro i
  rw [List.getElem?_map]
  cases hb : bs[i]? with
  | none =>
    have := List.getElem?_eq_none_iff.1 hb
    simp; omega
  | some b => simpa using h3 i b hb

theorem by_get_enc {bs : List UInt8} {size : Nat} {own : Bool} {anc : List Ps} (hs : size ≤ bs.length) {i : Nat} {v : AV} (h : (AB.by (encBytes bs) size own anc).get i = some v) :
    ∃ b, bs[i]? = some b ∧ v = .it .u8 (.ofNat b.toNat) := by
  have hlt := AB.get_lt h
  have hlt' : i < size := hlt
  rw [by_get _ _ _ _ _ hlt'] at h
  cases h
  have hb : bs[i]? = some (bs[i]'(by omega)) := List.getElem?_eq_getElem (by omega)
  exact ⟨_, hb, by rw [byteAt_enc bs i _ hb]⟩

theorem buildSlice_sound (hT : TOk T P) {t len : Nat} {parts : List (Nat × AV)} {cparts : List (Nat × Value)} (e : buildSliceOp T t len parts h m = .val v h' m') (hp : PRs φ parts cparts) (k : HR φ h m w) :
    ValS P φ h m w (Instr.buildSlice t len cparts.toArray) v h' m' := by
  unfold buildSliceOp at e
  split at e
  · rename_i et ti hel
    obtain ⟨hund, hti⟩ := elemOfSlice_sound hT hel
    obtain ⟨c1, e⟩ := bi_val e
    obtain ⟨hz, c1⟩ := bi_and c1
    have c1 := (ble_iff _ _).1 c1
    have c1' : len * ti.size ≤ 16777216 := c1
    obtain ⟨z, hrz, zok⟩ := hti.run_zero w hz
    split at e
    · rename_i l hl
      have hzc := VRs.repeat (zok.cells φ) len (len * ti.size) (by rw [zok.len])
      obtain ⟨cl, k1, k2, k3, k4⟩ := fill_sound (φ := φ) (pc := fun i => some (i * ti.size, ti.size)) (fun i x hx => hx) hp hzc (repeatL_flat zok.flats len) hl
      rw [repeatL_length, zok.len] at k4
      have hrun : (Instr.buildSlice t len cparts.toArray).run P w = .ok (.slice (some ⟨w.heap.size, 0, none⟩) len len) { w with heap := w.heap.push (.cells cl et) } := by
        have hbig : ¬ (len * ti.size > 2 ^ 24) := by omega
        simp only [Instr.buildSlice, Sem.run_bind, run_underlying' hund, Result.andThen_ok, hti.run_size, hbig, if_false]
        by_cases h0 : len * ti.size = 0
        · simp only [h0, if_true, pure_bind, Array.size_empty]
          rw [h0] at k1
          have hr : ((Array.range 0).map fun x => (#[] : Array Value)[x % 0]!) = (Array.range 0).map fun i => z.cells[i % z.cells.size]! := by simp
          simp only [hr, k1]
          simp [run_newRow]
        · simp only [h0, if_false, Sem.run_bind, hrz, Result.andThen_ok, Sem.run_pure, k1]
          simp [run_newRow]
      have hcl : cl.size = len * ti.size := by rw [← Array.length_toList, k2.length, k4]
      cases hu8 : isU8 T et with
      | true =>
        rw [hu8] at e; simp only [bi_true] at e
        split at e
        · rename_i n hn
          simp only [forceNat_eq, newBlock_eq] at e; cases e
          obtain ⟨bs, b1, rfl, rfl⟩ := bytesOf_cells (φ := φ) hn
          rw [List.length_map, (isU8_sound hT hu8).2 _ hti, Nat.mul_one] at k4
          rw [(isU8_sound hT hu8).2 _ hti, Nat.mul_one] at hcl
          obtain ⟨q1, q2⟩ := k.newRow (blk := .by (encBytes bs) len true []) (cs := cl) et (.inr ⟨_, _, _, _, rfl⟩)
            (by show len ≤ _; rw [hcl]; exact Nat.le_refl _)
            (fun i u hu => by
              obtain ⟨b, hb, rfl⟩ := by_get_enc (by omega) hu
              obtain ⟨c, hc, hr⟩ := k2.get (i := i) (a := .it .u8 (.ofNat b.toNat)) (by rw [List.getElem?_map, hb]; rfl)
              exact ⟨rfl, c, by simpa using hc, hr⟩) (w' := { w with heap := w.heap.push (.cells cl et) }) rfl ⟨rfl, rfl, rfl⟩
          refine ⟨_, _, _, hrun, ?_, q1, q2, Nx.new φ m _⟩
          simp only [VR]
          exact ⟨_, _, rfl, Nat.le_refl _, Nat.le_refl _, fun _ => rfl, fun _ => ⟨_, _, _, Emb.upd_same _ _ _, by simp, fun hf => by cases hf⟩⟩
        · cases e
      | false =>
        rw [hu8] at e; simp only [bi_false, forceL_eq, newCells_eq] at e
        cases e
        obtain ⟨q1, q2⟩ := k.newRow (blk := .ce (setAllT .nil 0 l) 0 l.length [] true []) (cs := cl) et (.inl ⟨_, _, _, _, _, _, rfl⟩)
          (by show l.length ≤ _; rw [k4, hcl]; exact Nat.le_refl _)
          (fun i u hu => by
            have hu' := ceNew_get _ _ _ hu
            obtain ⟨c, hc, hr⟩ := k2.get hu'
            exact ⟨k3 u (List.mem_of_getElem? hu'), c, by simpa using hc, hr⟩) (w' := { w with heap := w.heap.push (.cells cl et) }) rfl ⟨rfl, rfl, rfl⟩
        refine ⟨_, _, _, hrun, ?_, q1, q2, Nx.new φ m _⟩
        simp only [VR]
        exact ⟨_, _, rfl, Nat.le_refl _, Nat.le_refl _, fun _ => rfl, fun _ => ⟨_, _, _, Emb.upd_same _ _ _, by simp, fun hf => by cases hf⟩⟩
    · cases e
  · cases e
end

end Go.AM
namespace Go.AM
section
variable {P : Program} {T : Tab} {φ : Emb} {h : Heap} {m : Ps} {w : World} {v : AV} {h' : Heap} {m' : Ps}

theorem roomy_spec {ti : TI} {a b : Nat} (h : roomy ti a b = true) : a + b < 16777216 ∧ ti.bytes < 4096 ∧ 0 < ti.bytes := by
  unfold roomy at h
  obtain ⟨h1, h⟩ := bi_and h
  obtain ⟨h2, h3⟩ := bi_and h
  exact ⟨(blt_iff _ _).1 h1, (blt_iff _ _).1 h2, (blt_iff _ _).1 h3⟩

theorem makeSlice_sound (hT : TOk T P) {t : Nat} {len cap : AV} {clen ccap : Value} (e : makeSliceOp T t len cap h m = .val v h' m') (hl : VR φ len clen) (hc : VR φ cap ccap) (k : HR φ h m w) :
    ValS P φ h m w (Instr.makeSlice t clen ccap) v h' m' := by
  unfold makeSliceOp at e
  split at e
  · rename_i et ti hel
    obtain ⟨hund, hti⟩ := elemOfSlice_sound hT hel
    split at e
    · rename_i l c hl' hc'
      obtain ⟨kl, rfl⟩ := asIdx_sound hl' hl
      obtain ⟨kc, rfl⟩ := asIdx_sound hc' hc
      obtain ⟨hle, e⟩ := bi_val e
      obtain ⟨hr, e⟩ := bi_val e
      obtain ⟨hz, hr⟩ := bi_and hr
      obtain ⟨r1, r2, r3⟩ := roomy_spec hr
      have hle := (ble_iff _ _).1 hle
      obtain ⟨z, hrz, zok⟩ := hti.run_zero w hz
      obtain ⟨i, hi, _, hib, _⟩ := hti.run_info w
      have hwl : IntKind.i64.wrap (l : Int) = (l : Int) := wrap_i64 _ (by omega) (by omega)
      have hwc : IntKind.i64.wrap (c : Int) = (c : Int) := wrap_i64 _ (by omega) (by omega)
      have hrun : (Instr.makeSlice t (.int kl (l : Int)) (.int kc (c : Int))).run P w = .ok (.slice (some ⟨w.heap.size, 0, none⟩) l c)
          { w with heap := w.heap.push (.cells ((Array.range (c * ti.size)).map fun i => z.cells[i % z.cells.size]!) et) } := by
        have hmul : (i.bytes : Int) * (c : Int) ≤ 68719476736 := by
          rw [hib]
          have h1 : ti.bytes * c ≤ 68719476736 := Nat.le_trans (Nat.mul_le_mul (show ti.bytes ≤ 4096 by omega) (show c ≤ 16777216 by omega)) (by decide)
          have h2 := Int.ofNat_le.2 h1
          rw [Int.natCast_mul] at h2
          exact h2
        have hbig : ((decide ((c : Int) < 0) || decide ((i.bytes : Int) * (c : Int) > 2 ^ 48)) || decide ((l : Int) < 0) || decide ((l : Int) > (c : Int))) = false := by
          simp only [Bool.or_eq_false_iff, decide_eq_false_iff_not]
          refine ⟨⟨⟨by omega, ?_⟩, by omega⟩, by omega⟩
          have : (2 ^ 48 : Int) = 281474976710656 := by decide
          omega
        have ha : ∀ (kk : IntKind) (n : Int) (w : World), (asInt (.int kk n)).run P w = .ok n w := fun _ _ _ => rfl
        simp only [Instr.makeSlice, Sem.run_bind, run_underlying' hund, Result.andThen_ok, ha, Sem.run_pure, hi, hwl, hwc, hbig, Bool.false_eq_true, if_false, run_askRoom, hti.run_size, Int.toNat_natCast]
        by_cases h0 : c * ti.size = 0
        · simp only [h0, if_true, pure_bind]
          have hr : ∀ f : Nat → Value, (Array.range 0).map f = #[] := fun f => by simp
          simp only [hr]
          simp [run_newRow]
        · simp only [h0, if_false, Sem.run_bind, hrz, Result.andThen_ok, Sem.run_pure]
          simp [run_newRow]
      have hrep := VRs.repeat (zok.cells φ) c (c * ti.size) (by rw [zok.len])
      have hcl : ((Array.range (c * ti.size)).map fun i => z.cells[i % z.cells.size]!).size = c * ti.size := by simp
      generalize (Array.range (c * ti.size)).map (fun i => z.cells[i % z.cells.size]!) = cl at hrun hrep hcl
      cases hu8 : isU8 T et with
      | true =>
        rw [hu8] at e; simp only [bi_true] at e
        obtain ⟨h8, e⟩ := bi_val e
        rw [newBlock_eq] at e; cases e
        have hz8 := isZ8_eq h8
        rw [(isU8_sound hT hu8).2 _ hti, Nat.mul_one] at hcl
        obtain ⟨q1, q2⟩ := k.newRow (blk := .by 0 c true []) (cs := cl) et (.inr ⟨_, _, _, _, rfl⟩)
          (by show c ≤ _; rw [hcl]; exact Nat.le_refl _)
          (fun i u hu => by
            have hlt := AB.get_lt hu
            have hlt' : i < c := hlt
            rw [by_get _ _ _ _ _ hlt'] at hu
            cases hu
            obtain ⟨c', hc', hr'⟩ := hrep.get (i := i) (a := .it .u8 0) (by rw [repeatL_get _ _ _ (by rw [hz8]; simpa using hlt'), hz8]; simp [Nat.mod_one])
            refine ⟨rfl, c', by simpa using hc', ?_⟩
            have : byteAt 0 i = 0 := by simp [byteAt, mod_eq, div_eq]
            rw [this]; exact hr') (w' := { w with heap := w.heap.push (.cells cl et) }) rfl ⟨rfl, rfl, rfl⟩
        refine ⟨_, _, _, hrun, ?_, q1, q2, Nx.new φ m _⟩
        simp only [VR]
        exact ⟨_, _, rfl, hle, Nat.le_refl _, fun _ => rfl, fun _ => ⟨_, _, _, Emb.upd_same _ _ _, by simp, fun hf => by cases hf⟩⟩
      | false =>
        rw [hu8] at e; simp only [bi_false, forceNat_eq, newBlock_eq] at e
        cases e
        obtain ⟨q1, q2⟩ := k.newRow (blk := .ce .nil 0 (Nat.mul c ti.size) ti.zero true []) (cs := cl) et (.inl ⟨_, _, _, _, _, _, rfl⟩)
          (by show Nat.mul c ti.size ≤ _; rw [hcl]; exact Nat.le_refl _)
          (fun i u hu => by
            have hlt := AB.get_lt hu
            have hlt' : i < c * ti.size := hlt
            have hzp : 0 < ti.zero.length := by
              rw [zok.len]
              rcases Nat.eq_zero_or_pos ti.size with h | h
              · rw [h] at hlt'; simp at hlt'
              · exact h
            have hu' : patAt ti.zero i = some u := by
              have hb : Nat.blt i (Nat.mul c ti.size) = true := (blt_iff _ _).2 hlt
              simp only [AB.get, hb, bi_true, getP_nil] at hu
              rw [show Nat.add 0 i = i by exact Nat.zero_add i] at hu
              exact hu
            rw [patAt_mod _ _ hzp] at hu'
            obtain ⟨c', hc', hr'⟩ := hrep.get (i := i) (a := u) (by rw [repeatL_get _ _ _ (by rw [zok.len]; exact hlt')]; exact hu')
            exact ⟨zok.flats u (List.mem_of_getElem? hu'), c', by simpa using hc', hr'⟩) (w' := { w with heap := w.heap.push (.cells cl et) }) rfl ⟨rfl, rfl, rfl⟩
        refine ⟨_, _, _, hrun, ?_, q1, q2, Nx.new φ m _⟩
        simp only [VR]
        exact ⟨_, _, rfl, hle, Nat.le_refl _, fun _ => rfl, fun _ => ⟨_, _, _, Emb.upd_same _ _ _, by simp, fun hf => by cases hf⟩⟩
    · cases e
  · cases e

/-- a string's bytes in a new row, marked -/
theorem stringToBytes_sound {t : Nat} {bs : List UInt8} (k : HR φ h m w) :
    ValS P φ h m w (Conv.stringToBytes t (strOf bs)) (.sl m 0 bs.length bs.length 1 true) (setT (some (.by (encBytes bs) bs.length true [])) m h) m.succ := by
  have hsz := strOf_size bs
  let q : Question := .appendCap bs.length 0 t
  let cap := bs.length + w.tape w.drawn q % (2 ^ 63 - bs.length)
  let cs : Array Value := (strOf bs).data.map (fun b => .int .u8 b.toNat) ++ Array.replicate (cap - bs.length) (.int .u8 0)
  have hcs : cs.size = cap := by
    show ((strOf bs).data.map _ ++ Array.replicate (cap - bs.length) _).size = cap
    have : (strOf bs).data.size = bs.length := by simp [strOf]
    simp only [Array.size_append, Array.size_map, Array.size_replicate, this]
    have : bs.length ≤ cap := Nat.le_add_right _ _
    omega
  let w' : World := { w with heap := w.heap.push (.cells cs t (cs.size, cs.size + 1)), drawn := w.drawn + 1 }
  have hrun : (Conv.stringToBytes t (strOf bs)).run P w = .ok (.slice (some ⟨w.heap.size, 0, none⟩) bs.length cap) w' := by
    have h1 : (choose q).run P w = .ok cap { w with drawn := w.drawn + 1 } := by
      simp [choose, Sem.run, q, Question.forced, Question.cut, cap]
    have h2 : (markStringish ⟨w.heap.size, 0, none⟩).run P { w with heap := w.heap.push (.cells cs t), drawn := w.drawn + 1 } = .ok () w' := by
      simp only [markStringish, shape, freeze, Sem.run_bind, Sem.run, World.shape?, Array.getElem?_push_size, Result.andThen_ok, World.freeze, Nat.succ_ne_zero, if_false, Nat.one_ne_zero]
      congr 2
      apply Array.ext_getElem?
      intro i
      rw [Array.getElem?_modify]
      simp only [Array.getElem?_push]
      by_cases hi : i = w.heap.size
      · subst hi; simp
      · simp [hi, Ne.symm hi]
    unfold Conv.stringToBytes
    simp only [hsz, Sem.run_bind]
    rw [h1]
    simp only [Result.andThen_ok, run_newRow]
    rw [show ((strOf bs).data.map (fun b => Value.int .u8 b.toNat) ++ Array.replicate (cap - bs.length) (Value.int .u8 0)) = cs from rfl]
    rw [h2]
    simp
  have hup := Emb.le_upd (k.fresh m (Nat.le_refl _)) (w.heap.size, 0, cs.size)
  have hcr : CellsR (φ.upd m (w.heap.size, 0, cs.size)) (AB.by (encBytes bs) bs.length true []).get bs.length true w.heap.size 0 cs.size w' := by
    refine ⟨cs, t, (cs.size, cs.size + 1), by simp [w'], rfl, by rw [hcs]; show 0 + bs.length ≤ bs.length + _; omega, fun i v hi hg => ?_, fun _ j hj _ => hj⟩
    obtain ⟨b, hb, rfl⟩ := by_get_enc (Nat.le_refl _) hg
    refine ⟨rfl, .int .u8 b.toNat, ?_, by simp [VR]⟩
    show ((strOf bs).data.map _ ++ Array.replicate (cap - bs.length) _)[0 + i]? = _
    have : (strOf bs).data.size = bs.length := by simp [strOf]
    rw [Array.getElem?_append_left (by simp [this]; omega), Array.getElem?_map]
    simp [strOf, hb]
  obtain ⟨q1, q2⟩ := k.new (o := .cells cs t (cs.size, cs.size + 1)) (w' := w') (sz := cs.size) rfl ⟨rfl, rfl, rfl⟩ (blk := .by (encBytes bs) bs.length true []) hcr
  refine ⟨_, _, _, hrun, ?_, q1, q2, Nx.new φ m _⟩
  simp only [VR]
  refine ⟨_, _, rfl, Nat.le_refl _, Nat.le_add_right _ _, fun hf => (by cases hf), fun _ => ⟨_, _, _, Emb.upd_same _ _ _, by simp, fun _ => (by rw [hcs]; simp)⟩⟩
end

end Go.AM
namespace Go.AM
section
variable {P : Program} {T : Tab} {φ : Emb} {h : Heap} {m : Ps} {w : World} {v : AV} {h' : Heap} {m' : Ps}

theorem bytes_fold : ∀ (bs : List UInt8) (s : ByteArray), ((bs.map fun b => (b.toNat : Int)).foldl (fun r n => r.push (UInt8.ofNat n.toNat)) s).data.toList = s.data.toList ++ bs
  | [], s => by simp
  | b :: bs, s => by
    simp only [List.map_cons, List.foldl_cons]
    rw [bytes_fold bs]
    simp [ByteArray.push]

theorem bytesToString_sound {b : Ps} {o len cap e : Nat} {op : Bool} {cx : Value} {n : Nat} (hx : VR φ (.sl b o len cap e op) cx) (hlen : len ≠ 0) (hr : readBytes h b o len = some n) (k : HR φ h m w) :
    ∃ cv, (Conv.bytesToString cx).run P w = .ok cv w ∧ VR φ (.st n len) cv := by
  simp only [VR] at hx
  obtain ⟨a, ccap, rfl, h1, h2, h3, h4⟩ := hx
  obtain ⟨c, off, sz, hφ, rfl, _⟩ := h4 (by omega)
  obtain ⟨bs, b1, b2, b3⟩ := k.bytes hr hφ
  have hld : (loadCells ⟨c, off + o, none⟩ len).run P w = .ok ((bs.map fun b => (b.toNat : Int)).map (Value.int .u8)).toArray w := by
    have := run_loadCells_at (P := P) (w := w) (c := c) (p := off + o) (us := bs.map u8) (fun j u hu => by
      rw [List.getElem?_map] at hu
      cases hb : bs[j]? with
      | none => rw [hb] at hu; cases hu
      | some y => rw [hb] at hu; cases hu; exact b3 j y hb)
    rw [List.length_map, b1] at this
    rw [this, List.map_map]
    rfl
  refine ⟨_, run_bytesToString w _ _ _ _ hld, ?_⟩
  simp only [VR]
  refine ⟨_, rfl, ?_, ?_⟩
  · rw [bytes_fold]; simpa using b2
  · rw [bytes_fold]; simpa using b1

theorem bytesToString_none {b : Ps} {o cap e : Nat} {op : Bool} {cx : Value} (hx : VR φ (.sl b o 0 cap e op) cx) : (Conv.bytesToString cx).run P w = .ok (.string .empty) w := by
  simp only [VR] at hx
  obtain ⟨a, ccap, rfl, h1, h2, h3, h4⟩ := hx
  have := run_bytesToString (P := P) w a 0 ccap [] (by simp [loadCells, loadCellsFrom])
  simpa using this

theorem VR.st0 (φ : Emb) : VR φ (.st 0 0) (.string .empty) := by
  simp only [VR]; exact ⟨_, rfl, rfl, rfl⟩

theorem convert_sound (hT : TOk T P) {src dst : Nat} {x : AV} {cx : Value} (e : convertOp T src dst x h m = .val v h' m') (hx : VR φ x cx) (k : HR φ h m w) :
    ValS P φ h m w (convert src dst cx) v h' m' := by
  unfold convertOp at e
  split at e
  · cases e
  · rename_i ts hts
    split at e
    · cases e
    · rename_i td htd
      have us := (ty_ok hT hts).under
      have ud := (ty_ok hT htd).under
      split at e
      · rename_i kk n
        split at e
        · rename_i kd hu
          rw [hu] at ud
          rw [mkInt_eq, wrapF_eq] at e; cases e
          simp only [VR] at hx; subst hx
          refine .pure k (cv := .int kd (kd.wrap n)) ?_ (by simp [VR])
          simp only [convert, Sem.run_bind, run_underlying' us, run_underlying' ud, Result.andThen_ok]
          cases ts.u <;> rfl
        · cases e
      · rename_i n len
        split at e
        · rename_i hu
          rw [hu] at ud
          cases e
          have hx' := hx
          simp only [VR] at hx'
          obtain ⟨s, rfl, _⟩ := hx'
          refine .pure k (cv := .string s) ?_ hx
          simp only [convert, Sem.run_bind, run_underlying' us, run_underlying' ud, Result.andThen_ok]
          cases ts.u <;> rfl
        · rename_i el hu
          rw [hu] at ud
          obtain ⟨h8, e⟩ := bi_val e
          rw [newBlock_eq] at e; cases e
          simp only [VR] at hx
          obtain ⟨s, rfl, rfl, rfl⟩ := hx
          have hs : s = strOf s.data.toList := by cases s; simp [strOf]
          have hrun : (convert src dst (.string s)).run P w = (Conv.stringToBytes el (strOf s.data.toList)).run P w := by
            rw [← hs]
            simp only [convert, Sem.run_bind, run_underlying' us, run_underlying' ud, Result.andThen_ok]
            cases ts.u <;> simp [run_underlying' (isU8_sound hT h8).1]
          have := stringToBytes_sound (P := P) (t := el) (bs := s.data.toList) k
          unfold ValS at this ⊢
          rw [hrun]
          exact this
        · cases e
      · split at e
        · rename_i el hu hus
          rw [hu] at ud; rw [hus] at us
          obtain ⟨h8, e⟩ := bi_val e
          cases e
          simp only [VR] at hx; subst hx
          refine .pure k (cv := .string .empty) ?_ (VR.st0 φ)
          simp [convert, run_underlying' us, run_underlying' ud, run_underlying' (isU8_sound hT h8).1, Conv.bytesToString]
        · cases e
      · rename_i b o len cap e' op
        split at e
        · rename_i el hu hus
          rw [hu] at ud; rw [hus] at us
          obtain ⟨h8, e⟩ := bi_val e
          obtain ⟨h1, e⟩ := bi_val e
          have hrun : (convert src dst cx).run P w = (Conv.bytesToString cx).run P w := by
            have hx' := hx
            simp only [VR] at hx'
            obtain ⟨a, ccap, rfl, _⟩ := hx'
            simp [convert, run_underlying' us, run_underlying' ud, run_underlying' (isU8_sound hT h8).1]
          cases hl : Nat.beq len 0 with
          | true =>
            rw [hl] at e; simp only [bi_true] at e; cases e
            have hl := (beq_iff _ _).1 hl; subst hl
            exact .pure k (by rw [hrun]; exact bytesToString_none hx) (VR.st0 φ)
          | false =>
            rw [hl] at e; simp only [bi_false] at e
            split at e
            · rename_i n hn
              rw [forceNat_eq] at e; cases e
              have hl0 : len ≠ 0 := fun h0 => by rw [h0] at hl; cases hl
              obtain ⟨cv, r1, r2⟩ := bytesToString_sound (P := P) hx hl0 hn k
              exact .pure k (by rw [hrun]; exact r1) r2
            · cases e
        · cases e
      · cases e

theorem convert_pr (hT : TOk T P) {src dst : Nat} {b : Ps} {o len cap e' : Nat} {op : Bool} {cx : Value} (e : convertOp T src dst (.sl b o len cap e' op) h m = .val v h' m') (hx : VR φ (.sl b o len cap e' op) cx) (k : HR φ h m w) :
    ValP P φ w (convert src dst cx) v ∧ h' = h ∧ m' = m := by
  unfold convertOp at e
  split at e
  · cases e
  · rename_i ts hts
    split at e
    · cases e
    · rename_i td htd
      have us := (ty_ok hT hts).under
      have ud := (ty_ok hT htd).under
      simp only at e
      split at e
      · rename_i el hu hus
        rw [hu] at ud; rw [hus] at us
        obtain ⟨h8, e⟩ := bi_val e
        obtain ⟨h1, e⟩ := bi_val e
        have hrun : (convert src dst cx).run P w = (Conv.bytesToString cx).run P w := by
          have hx' := hx
          simp only [VR] at hx'
          obtain ⟨a, ccap, rfl, _⟩ := hx'
          simp [convert, run_underlying' us, run_underlying' ud, run_underlying' (isU8_sound hT h8).1]
        cases hl : Nat.beq len 0 with
        | true =>
          rw [hl] at e; simp only [bi_true] at e; cases e
          have hl := (beq_iff _ _).1 hl; subst hl
          exact ⟨.pure k (by rw [hrun]; exact bytesToString_none hx) (VR.st0 φ), rfl, rfl⟩
        | false =>
          rw [hl] at e; simp only [bi_false] at e
          split at e
          · rename_i n hn
            rw [forceNat_eq] at e; cases e
            have hl0 : len ≠ 0 := fun h0 => by rw [h0] at hl; cases hl
            obtain ⟨cv, r1, r2⟩ := bytesToString_sound (P := P) hx hl0 hn k
            exact ⟨.pure k (by rw [hrun]; exact r1) r2, rfl, rfl⟩
          · cases e
      · cases e

theorem isIface_sound (hT : TOk T P) {t : Nat} (e : isIface T t = false) : ∃ u, P.underlying t = some u ∧ ∀ l, u ≠ .interface l := by
  unfold isIface at e
  split at e
  · cases e
  · rename_i ti hti
    split at e
    · cases e
    · rename_i hne
      exact ⟨ti.u, (ty_ok hT hti).under, hne⟩

theorem makeInterface_sound (hT : TOk T P) {t : Nat} {x : AV} {cx : Value} (e : isIface T t = false) (hx : VR φ x cx) (k : HR φ h m w) :
    ValS P φ h m w (Instr.makeInterface t cx) (.ic t x) h m := by
  obtain ⟨u, hu, hn⟩ := isIface_sound hT e
  refine .pure k (cv := .iface t cx) ?_ (by simp only [VR]; exact ⟨_, rfl, hx⟩)
  simp only [Instr.makeInterface, Sem.run_bind, run_underlying' hu, Result.andThen_ok]
  cases u <;> first | rfl | exact absurd rfl (hn _)

theorem typeAssert_sound (hT : TOk T P) {xt t : Nat} {ok : Bool} {x : AV} {cx : Value} (e : typeAssertOp x t (isIface T t) ok h m = .val v h' m') (hx : VR φ x cx) (k : HR φ h m w) :
    ValS P φ h m w (Instr.typeAssert cx xt t ok) v h' m' ∧ h' = h ∧ m' = m := by
  unfold typeAssertOp at e
  split at e
  · rename_i ty y
    obtain ⟨h1, e⟩ := bi_val e
    have h1 := (beq_iff _ _).1 h1; subst h1
    cases hi : isIface T ty with
    | true => rw [hi] at e; cases e
    | false =>
      rw [hi] at e; simp only [bi_false] at e
      obtain ⟨u, hu, hn⟩ := isIface_sound hT hi
      simp only [VR] at hx
      obtain ⟨cy, rfl, hy⟩ := hx
      cases ok with
      | true =>
        simp only [bi_true] at e; cases e
        refine ⟨.pure k (cv := .tuple #[cy, .bool true]) ?_ ?_, rfl, rfl⟩
        · simp only [Instr.typeAssert, Sem.run_bind, run_underlying' hu, Result.andThen_ok]
          cases u <;> first | exact absurd rfl (hn _) | simp
        · simp only [VR]; exact ⟨[cy, .bool true], rfl, VRs.cons hy (VRs.cons (by simp [VR]) (VRs.nil_iff.2 rfl))⟩
      | false =>
        simp only [bi_false] at e; cases e
        refine ⟨.pure k (cv := cy) ?_ hy, rfl, rfl⟩
        simp only [Instr.typeAssert, Sem.run_bind, run_underlying' hu, Result.andThen_ok]
        cases u <;> first | exact absurd rfl (hn _) | simp
  · cases e

theorem extract_sound {x : AV} {l : List AV} {i : Nat} {cx : Value} (hx : VR φ (.tu l) cx) (e : nth l i = some v) (k : HR φ h m w) : ValS P φ h m w (Instr.extract cx i) v h m := by
  simp only [VR] at hx
  obtain ⟨l', rfl, hl⟩ := hx
  rw [nth_eq] at e
  obtain ⟨c, hc, hr⟩ := hl.get e
  refine .pure k (cv := c) ?_ hr
  simp [Instr.extract, hc]

theorem makeMap_sound {t : Nat} (k : HR φ h m w) : ValS P φ h m w (Instr.makeMap t none) (.mp m) (setT (some (.ma [] 0)) m h) m.succ := by
  obtain ⟨q1, q2⟩ := k.new (o := .map #[] 0) (w' := { w with heap := w.heap.push (.map #[] 0) }) (sz := 0) rfl ⟨rfl, rfl, rfl⟩ (blk := .ma [] 0) ⟨#[], by simp, rfl⟩
  refine ⟨.map (some w.heap.size), _, _, ?_, ?_, q1, q2, Nx.new φ m _⟩
  · simp [Instr.makeMap, newObj, Sem.run]
  · simp only [VR]; exact ⟨_, _, _, Emb.upd_same _ _ _, rfl⟩
end

end Go.AM
