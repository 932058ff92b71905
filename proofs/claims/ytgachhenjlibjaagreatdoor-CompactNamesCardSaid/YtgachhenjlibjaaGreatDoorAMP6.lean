/-
  A region whose order is drawn is sound in every order; code is sound. No condition.
-/
import Derived.Test.YtgachhenjlibjaaGreatDoorAMP5
import Derived.Orders
namespace Go.AM

/-- what an operation gives over two heaps -/
structure Q2 (h h1 : Heap) (m : Ps) (r r1 : OR) : Prop where
  out : ∀ v h' m', r = .val v h' m' →
  (h' = h ∧ m' = m ∧ r1 = .val v h1 m) ∨ ∃ blk : AB, blk.isOwn = true ∧ h' = setT (some blk) m h ∧ m' = m.succ ∧ r1 = .val v (setT (some blk) m h1) m.succ

section
variable {h h1 : Heap} {m : Ps}

theorem Q2.bad {s : String} {r1 : OR} : Q2 h h1 m (.bad s) r1 := ⟨fun _ _ _ e => by cases e⟩
theorem Q2.val {v : AV} : Q2 h h1 m (.val v h m) (.val v h1 m) := ⟨fun _ _ _ e => by cases e; exact .inl ⟨rfl, rfl, rfl⟩⟩
theorem Q2.call {f : Nat} {a : List AV} {r1 : OR} : Q2 h h1 m (.call f a) r1 := ⟨fun _ _ _ e => by cases e⟩
theorem Q2.dfr {d : ADef} {r1 : OR} : Q2 h h1 m (.dfr d) r1 := ⟨fun _ _ _ e => by cases e⟩
theorem Q2.mkInt {k : IntKind} {n : Int} : Q2 h h1 m (mkInt k n h m) (mkInt k n h1 m) := by rw [mkInt_eq, mkInt_eq]; exact .val
theorem Q2.mkBool {b : Bool} : Q2 h h1 m (mkBool b h m) (mkBool b h1 m) := by rw [mkBool_eq, mkBool_eq]; exact .val
theorem Q2.bi {c : Bool} {x y x1 y1 : OR} (a : Q2 h h1 m x x1) (b : Q2 h h1 m y y1) : Q2 h h1 m (bi c x y) (bi c x1 y1) := by cases c <;> assumption
theorem Q2.opt {α : Type} {x : Option α} {k k1 : α → OR} {y y1 : OR} (a : ∀ z, x = some z → Q2 h h1 m (k z) (k1 z)) (b : Q2 h h1 m y y1) : Q2 h h1 m (opt x k y) (opt x k1 y1) := by
  cases x with
  | none => exact b
  | some z => exact a z rfl
theorem Q2.forceNat {n : Nat} {k k1 : Nat → OR} (a : ∀ z, Q2 h h1 m (k z) (k1 z)) : Q2 h h1 m (forceNat n k) (forceNat n k1) := by rw [forceNat_eq, forceNat_eq]; exact a n
theorem Q2.forceL {n : List AV} {k k1 : List AV → OR} (a : ∀ z, Q2 h h1 m (k z) (k1 z)) : Q2 h h1 m (forceL n k) (forceL n k1) := by rw [forceL_eq, forceL_eq]; exact a n
theorem Q2.newBlock {blk : AB} (ho : blk.isOwn = true) {v : AV} : Q2 h h1 m (newBlock h m blk fun h m' => .val v h m') (newBlock h1 m blk fun h m' => .val v h m') := by
  rw [newBlock_eq, newBlock_eq]
  refine ⟨fun _ _ _ e => ?_⟩; cases e
  exact .inr ⟨blk, ho, rfl, rfl, rfl⟩
theorem Q2.newCells {vs : List AV} {v : AV} : Q2 h h1 m (newCells h m vs fun h m' => .val v h m') (newCells h1 m vs fun h m' => .val v h m') := by
  rw [newCells_eq, newCells_eq]
  refine ⟨fun _ _ _ e => ?_⟩; cases e
  exact .inr ⟨_, rfl, rfl, rfl, rfl⟩
theorem Q2.nats {a b : Int} {k k1 : Nat → Nat → OR} (hk : ∀ a b, Q2 h h1 m (k a b) (k1 a b)) : Q2 h h1 m (nats a b k) (nats a b k1) := by
  unfold AM.nats; split
  · exact hk _ _
  · exact .bad
theorem Q2.bounds {len cap : Nat} {lo hi mx : Option AV} {k k1 : Nat → Nat → Nat → OR} (hk : ∀ a b c, Q2 h h1 m (k a b c) (k1 a b c)) : Q2 h h1 m (bounds len cap lo hi mx k) (bounds len cap lo hi mx k1) := by
  unfold AM.bounds
  repeat' (first | exact Q2.bad | exact hk _ _ _ | split)


theorem q_alloc {T : Tab} {t : Nat} : Q2 h h1 m (allocOp T t h m) (allocOp T t h1 m) := by unfold allocOp; (repeat' (first | exact Q2.bad | exact Q2.val | exact Q2.mkInt | exact Q2.mkBool | exact Q2.newBlock rfl | exact Q2.newCells | apply Q2.bi | (apply Q2.opt; (intro _ _)) | apply Q2.forceNat | apply Q2.forceL | apply Q2.nats | apply Q2.bounds | intro _ | split))
theorem q_box {x : AV} : Q2 h h1 m (boxOp x h m) (boxOp x h1 m) := by unfold boxOp; (repeat' (first | exact Q2.bad | exact Q2.val | exact Q2.mkInt | exact Q2.mkBool | exact Q2.newBlock rfl | exact Q2.newCells | apply Q2.bi | (apply Q2.opt; (intro _ _)) | apply Q2.forceNat | apply Q2.forceL | apply Q2.nats | apply Q2.bounds | intro _ | split))
theorem q_build {T : Tab} {t : Nat} {ps : List (Nat × AV)} : Q2 h h1 m (buildOp T t ps h m) (buildOp T t ps h1 m) := by unfold buildOp; (repeat' (first | exact Q2.bad | exact Q2.val | exact Q2.mkInt | exact Q2.mkBool | exact Q2.newBlock rfl | exact Q2.newCells | apply Q2.bi | (apply Q2.opt; (intro _ _)) | apply Q2.forceNat | apply Q2.forceL | apply Q2.nats | apply Q2.bounds | intro _ | split))
theorem q_buildSlice {T : Tab} {t l : Nat} {ps : List (Nat × AV)} : Q2 h h1 m (buildSliceOp T t l ps h m) (buildSliceOp T t l ps h1 m) := by unfold buildSliceOp; (repeat' (first | exact Q2.bad | exact Q2.val | exact Q2.mkInt | exact Q2.mkBool | exact Q2.newBlock rfl | exact Q2.newCells | apply Q2.bi | (apply Q2.opt; (intro _ _)) | apply Q2.forceNat | apply Q2.forceL | apply Q2.nats | apply Q2.bounds | intro _ | split))
theorem q_makeSlice {T : Tab} {t : Nat} {l c : AV} : Q2 h h1 m (makeSliceOp T t l c h m) (makeSliceOp T t l c h1 m) := by unfold makeSliceOp; (repeat' (first | exact Q2.bad | exact Q2.val | exact Q2.mkInt | exact Q2.mkBool | exact Q2.newBlock rfl | exact Q2.newCells | apply Q2.bi | (apply Q2.opt; (intro _ _)) | apply Q2.forceNat | apply Q2.forceL | apply Q2.nats | apply Q2.bounds | intro _ | split))
theorem q_slice {T : Tab} {t : Nat} {x : AV} {lo hi mx : Option AV} : Q2 h h1 m (sliceOp T t x lo hi mx h m) (sliceOp T t x lo hi mx h1 m) := by unfold sliceOp; (repeat' (first | exact Q2.bad | exact Q2.val | exact Q2.mkInt | exact Q2.mkBool | exact Q2.newBlock rfl | exact Q2.newCells | apply Q2.bi | (apply Q2.opt; (intro _ _)) | apply Q2.forceNat | apply Q2.forceL | apply Q2.nats | apply Q2.bounds | intro _ | split))
theorem q_indexAddr {T : Tab} {t : Nat} {x i : AV} : Q2 h h1 m (indexAddrOp T t x i h m) (indexAddrOp T t x i h1 m) := by unfold indexAddrOp; (repeat' (first | exact Q2.bad | exact Q2.val | exact Q2.mkInt | exact Q2.mkBool | exact Q2.newBlock rfl | exact Q2.newCells | apply Q2.bi | (apply Q2.opt; (intro _ _)) | apply Q2.forceNat | apply Q2.forceL | apply Q2.nats | apply Q2.bounds | intro _ | split))
theorem q_index {T : Tab} {t : Nat} {x i : AV} : Q2 h h1 m (indexOp T t x i h m) (indexOp T t x i h1 m) := by unfold indexOp; (repeat' (first | exact Q2.bad | exact Q2.val | exact Q2.mkInt | exact Q2.mkBool | exact Q2.newBlock rfl | exact Q2.newCells | apply Q2.bi | (apply Q2.opt; (intro _ _)) | apply Q2.forceNat | apply Q2.forceL | apply Q2.nats | apply Q2.bounds | intro _ | split))
theorem q_fieldAddr {T : Tab} {t f : Nat} {x : AV} : Q2 h h1 m (fieldAddrOp T t x f h m) (fieldAddrOp T t x f h1 m) := by unfold fieldAddrOp; (repeat' (first | exact Q2.bad | exact Q2.val | exact Q2.mkInt | exact Q2.mkBool | exact Q2.newBlock rfl | exact Q2.newCells | apply Q2.bi | (apply Q2.opt; (intro _ _)) | apply Q2.forceNat | apply Q2.forceL | apply Q2.nats | apply Q2.bounds | intro _ | split))
theorem q_field {T : Tab} {t f : Nat} {x : AV} : Q2 h h1 m (fieldOp T t x f h m) (fieldOp T t x f h1 m) := by unfold fieldOp; (repeat' (first | exact Q2.bad | exact Q2.val | exact Q2.mkInt | exact Q2.mkBool | exact Q2.newBlock rfl | exact Q2.newCells | apply Q2.bi | (apply Q2.opt; (intro _ _)) | apply Q2.forceNat | apply Q2.forceL | apply Q2.nats | apply Q2.bounds | intro _ | split))
theorem q_nilCheck {x : AV} : Q2 h h1 m (nilCheckOp x h m) (nilCheckOp x h1 m) := by unfold nilCheckOp; (repeat' (first | exact Q2.bad | exact Q2.val | exact Q2.mkInt | exact Q2.mkBool | exact Q2.newBlock rfl | exact Q2.newCells | apply Q2.bi | (apply Q2.opt; (intro _ _)) | apply Q2.forceNat | apply Q2.forceL | apply Q2.nats | apply Q2.bounds | intro _ | split))
theorem q_unOp {o : UnOp} {x : AV} : Q2 h h1 m (unOpx o x h m) (unOpx o x h1 m) := by unfold unOpx; (repeat' (first | exact Q2.bad | exact Q2.val | exact Q2.mkInt | exact Q2.mkBool | exact Q2.newBlock rfl | exact Q2.newCells | apply Q2.bi | (apply Q2.opt; (intro _ _)) | apply Q2.forceNat | apply Q2.forceL | apply Q2.nats | apply Q2.bounds | intro _ | split))
theorem q_typeAssert {x : AV} {t : Nat} {a b : Bool} : Q2 h h1 m (typeAssertOp x t a b h m) (typeAssertOp x t a b h1 m) := by unfold typeAssertOp; (repeat' (first | exact Q2.bad | exact Q2.val | exact Q2.mkInt | exact Q2.mkBool | exact Q2.newBlock rfl | exact Q2.newCells | apply Q2.bi | (apply Q2.opt; (intro _ _)) | apply Q2.forceNat | apply Q2.forceL | apply Q2.nats | apply Q2.bounds | intro _ | split))
theorem q_mnmx {b : Bool} {args : List AV} : Q2 h h1 m (mnmx b args h m) (mnmx b args h1 m) := by unfold mnmx; (repeat' (first | exact Q2.bad | exact Q2.val | exact Q2.mkInt | exact Q2.mkBool | exact Q2.newBlock rfl | exact Q2.newCells | apply Q2.bi | (apply Q2.opt; (intro _ _)) | apply Q2.forceNat | apply Q2.forceL | apply Q2.nats | apply Q2.bounds | intro _ | split))
theorem q_cap {T : Tab} {ats : List Nat} {args : List AV} : Q2 h h1 m (capOp T ats args h m) (capOp T ats args h1 m) := by unfold capOp; (repeat' (first | exact Q2.bad | exact Q2.val | exact Q2.mkInt | exact Q2.mkBool | exact Q2.newBlock rfl | exact Q2.newCells | apply Q2.bi | (apply Q2.opt; (intro _ _)) | apply Q2.forceNat | apply Q2.forceL | apply Q2.nats | apply Q2.bounds | intro _ | split))
theorem q_eqRes {c : BinC} {r : Option Bool} : Q2 h h1 m (eqRes c r h m) (eqRes c r h1 m) := by unfold eqRes; (repeat' (first | exact Q2.bad | exact Q2.val | exact Q2.mkInt | exact Q2.mkBool | exact Q2.newBlock rfl | exact Q2.newCells | apply Q2.bi | (apply Q2.opt; (intro _ _)) | apply Q2.forceNat | apply Q2.forceL | apply Q2.nats | apply Q2.bounds | intro _ | split))
theorem q_ri {op : BinOp} {k : IntKind} {a b : Int} : Q2 h h1 m ((cBin op).ri k a b h m) ((cBin op).ri k a b h1 m) := by
  cases op <;> simp only [cBin] <;> (repeat' (first | exact Q2.bad | exact Q2.val | exact Q2.mkInt | exact Q2.mkBool | exact Q2.newBlock rfl | exact Q2.newCells | apply Q2.bi | (apply Q2.opt; (intro _ _)) | apply Q2.forceNat | apply Q2.forceL | apply Q2.nats | apply Q2.bounds | intro _ | split))
theorem q_rs {op : BinOp} {a la b lb : Nat} : Q2 h h1 m ((cBin op).rs a la b lb h m) ((cBin op).rs a la b lb h1 m) := by
  cases op <;> simp only [cBin, noStr] <;> (repeat' (first | exact Q2.bad | exact Q2.val | exact Q2.mkInt | exact Q2.mkBool | exact Q2.newBlock rfl | exact Q2.newCells | apply Q2.bi | (apply Q2.opt; (intro _ _)) | apply Q2.forceNat | apply Q2.forceL | apply Q2.nats | apply Q2.bounds | intro _ | split))
theorem q_bin {T : Tab} {t : Nat} {op : BinOp} {lit : Bool} {a b : AV} : Q2 h h1 m (binOpx T t (cBin op) lit a b h m) (binOpx T t (cBin op) lit a b h1 m) := by
  unfold binOpx
  repeat' (first | exact Q2.bad | exact q_ri | exact q_rs | exact q_eqRes | apply Q2.bi | split)
end
end Go.AM
namespace Go.AM

section
variable {h h1 : Heap} {m : Ps} {T : Tab} {rd : Operand → Rd} {vs : List AV} {t : Tmps}

theorem quiet_call {c : Call} (hl : loud (.call c) = false) : c.callee = .builtin .len ∨ c.callee = .builtin .cap ∨ c.callee = .builtin .min ∨ c.callee = .builtin .max := by
  have hl' : (match c.callee with
    | .builtin .len => false
    | .builtin .cap => false
    | .builtin .min => false
    | .builtin .max => false
    | _ => true) = false := hl
  cases hc : c.callee with
  | builtin b =>
    rw [hc] at hl'
    cases b <;> first
      | exact .inl rfl
      | exact .inr (.inl rfl)
      | exact .inr (.inr (.inl rfl))
      | exact .inr (.inr (.inr rfl))
      | cases hl'
  | value f => rw [hc] at hl'; cases hl'
  | invoke r n => rw [hc] at hl'; cases hl'

theorem opt_only {α : Type} {x : Option α} {k : α → OR} {s : String} (hk : ∀ a, OnlyVal (k a)) : OnlyVal (opt x k (.bad s)) := OnlyVal.opt hk trivial

theorem quiet_only {op : Op} (hl : loud op = false) : OnlyVal ((cOp rd op).run T vs t h m) := by
  cases op <;> try (first | trivial | (cases hl; done))
  case move x => exact opt_only fun _ => trivial
  case assign x => exact opt_only fun _ => trivial
  case pick c a b =>
    simp only [cOp]
    split
    · exact OnlyVal.bi (opt_only fun _ => trivial) (opt_only fun _ => trivial)
    · trivial
  case alloc e => exact allocOp_only
  case box e x => exact opt_only fun v => boxOp_only
  case build t' ps => exact opt_only fun _ => buildOp_only
  case buildSlice t' l ps => exact opt_only fun _ => buildSliceOp_only
  case load t' a => exact opt_only fun _ => loadOp_only
  case nilCheck x => exact opt_only fun _ => nilCheckOp_only
  case binOp o t' x y e => exact opt_only fun _ => opt_only fun _ => binOpx_only
  case unOp o t' x => exact opt_only fun _ => unOpx_only
  case convert s d x => exact opt_only fun _ => convertOp_only
  case makeInterface xt x => exact opt_only fun _ => OnlyVal.bi trivial trivial
  case makeFunc fn a b => exact opt_only fun _ => opt_only fun _ => trivial
  case makeMap t' r =>
    cases r with
    | none => exact OnlyVal.newBlock fun _ _ => trivial
    | some r => trivial
  case makeSlice t' l c => exact opt_only fun _ => opt_only fun _ => makeSliceOp_only
  case slice t' x lo hi mx => exact opt_only fun _ => opt_only fun _ => opt_only fun _ => opt_only fun _ => sliceOp_only
  case fieldAddr t' x f => exact opt_only fun _ => fieldAddrOp_only
  case field t' x f => exact opt_only fun _ => fieldOp_only
  case indexAddr t' x i => exact opt_only fun _ => opt_only fun _ => indexAddrOp_only
  case index t' x i => exact opt_only fun _ => opt_only fun _ => indexOp_only
  case lookup t' x i ok => exact opt_only fun _ => opt_only fun _ => lookupOp_only
  case typeAssert x xt a ok => exact opt_only fun _ => typeAssertOp_only
  case extract x i =>
    simp only [cOp]
    split
    · exact opt_only fun _ => trivial
    · trivial
  case call c =>
    simp only [cOp, cCall]
    rcases quiet_call hl with e | e | e | e <;> simp only [e, cBuiltin]
    · exact opt_only fun _ => lenOp_only
    · exact opt_only fun _ => capOp_only
    · exact opt_only fun _ => mnmx_only
    · exact opt_only fun _ => mnmx_only

theorem Q2.optb {α : Type} {x : Option α} {k k1 : α → OR} {s s1 : String} (a : ∀ z, x = some z → Q2 h h1 m (k z) (k1 z)) : Q2 h h1 m (AM.opt x k (.bad s)) (AM.opt x k1 (.bad s1)) := by
  cases x with
  | none => exact .bad
  | some z => exact a z rfl

theorem readCells_congr {b : Ps} (hb : getP h1 b = getP h b) (o n : Nat) : readCells h1 b o n = readCells h b o n := by unfold readCells; rw [hb]
theorem readBytes_congr {b : Ps} (hb : getP h1 b = getP h b) (o n : Nat) : readBytes h1 b o n = readBytes h b o n := by unfold readBytes; rw [hb]

theorem q_load {t' : Nat} {b : Ps} {o : Nat} (hb : getP h1 b = getP h b) : Q2 h h1 m (loadOp T t' (.pt b o) h m) (loadOp T t' (.pt b o) h1 m) := by
  unfold loadOp
  simp only [readCells_congr hb, hb]
  (repeat' (first | exact Q2.bad | exact Q2.val | exact Q2.mkInt | exact Q2.mkBool | exact Q2.newBlock rfl | exact Q2.newCells | apply Q2.bi | (apply Q2.opt; (intro _ _)) | apply Q2.forceNat | apply Q2.forceL | apply Q2.nats | apply Q2.bounds | intro _ | split))

theorem q_len {ats : List Nat} {args : List AV} (hb : ∀ b r, args = .mp b :: r → getP h1 b = getP h b) : Q2 h h1 m (lenOp T ats args h m) (lenOp T ats args h1 m) := by
  cases ats with
  | nil => unfold lenOp; exact .bad
  | cons ty ats =>
    cases args with
    | nil => unfold lenOp; exact .bad
    | cons a r =>
      unfold lenOp
      cases a with
      | mp b => simp only [hb b r rfl]; (repeat' (first | exact Q2.bad | exact Q2.val | exact Q2.mkInt | exact Q2.mkBool | exact Q2.newBlock rfl | exact Q2.newCells | apply Q2.bi | (apply Q2.opt; (intro _ _)) | apply Q2.forceNat | apply Q2.forceL | apply Q2.nats | apply Q2.bounds | intro _ | split))
      | _ => (repeat' (first | exact Q2.bad | exact Q2.val | exact Q2.mkInt | exact Q2.mkBool | exact Q2.newBlock rfl | exact Q2.newCells | apply Q2.bi | (apply Q2.opt; (intro _ _)) | apply Q2.forceNat | apply Q2.forceL | apply Q2.nats | apply Q2.bounds | intro _ | split)); all_goals (injections)

/-- an operation that only reads gives the same over a heap that holds the same where it reads -/
theorem quiet_loc {op : Op} (hl : loud op = false) {ob : Option Ps} (hr : (cReads rd op).run vs t = some ob) (hb : ∀ b, ob = some b → getP h1 b = getP h b) :
    Q2 h h1 m ((cOp rd op).run T vs t h m) ((cOp rd op).run T vs t h1 m) := by
  cases op <;> try (first | exact Q2.bad | (cases hl; done))
  case move x => exact Q2.optb fun _ _ => .val
  case assign x => exact Q2.optb fun _ _ => .val
  case pick c a b =>
    simp only [cOp]
    split
    · exact Q2.bi (Q2.optb fun _ _ => .val) (Q2.optb fun _ _ => .val)
    · exact .bad
  case alloc e => exact q_alloc
  case box e x => exact Q2.optb fun v _ => q_box
  case build t' ps => exact Q2.optb fun _ _ => q_build
  case buildSlice t' l ps => exact Q2.optb fun _ _ => q_buildSlice
  case load t' a =>
    refine Q2.optb fun z hz => ?_
    simp only [cReads, hz] at hr
    cases z <;> try exact .bad
    case pt b o =>
      cases hr
      exact q_load (hb b rfl)
  case nilCheck x => exact Q2.optb fun _ _ => q_nilCheck
  case binOp o t' x y e => exact Q2.optb fun _ _ => Q2.optb fun _ _ => q_bin
  case unOp o t' x => exact Q2.optb fun _ _ => q_unOp
  case convert s d x =>
    refine Q2.optb fun z hz => ?_
    simp only [cReads, hz] at hr
    cases z with
    | sl b o len cap e op =>
      cases hlen : Nat.beq len 0 with
      | true =>
        unfold convertOp
        simp only [hlen]
        (repeat' (first | exact Q2.bad | exact Q2.val | exact Q2.mkInt | exact Q2.mkBool | exact Q2.newBlock rfl | exact Q2.newCells | apply Q2.bi | (apply Q2.opt; (intro _ _)) | apply Q2.forceNat | apply Q2.forceL | apply Q2.nats | apply Q2.bounds | intro _ | split))
      | false =>
        simp only [hlen, bi_false] at hr
        cases hr
        unfold convertOp
        simp only [readBytes_congr (hb b rfl)]
        (repeat' (first | exact Q2.bad | exact Q2.val | exact Q2.mkInt | exact Q2.mkBool | exact Q2.newBlock rfl | exact Q2.newCells | apply Q2.bi | (apply Q2.opt; (intro _ _)) | apply Q2.forceNat | apply Q2.forceL | apply Q2.nats | apply Q2.bounds | intro _ | split))
    | _ => unfold convertOp; (repeat' (first | exact Q2.bad | exact Q2.val | exact Q2.mkInt | exact Q2.mkBool | exact Q2.newBlock rfl | exact Q2.newCells | apply Q2.bi | (apply Q2.opt; (intro _ _)) | apply Q2.forceNat | apply Q2.forceL | apply Q2.nats | apply Q2.bounds | intro _ | split)); all_goals contradiction
  case makeInterface xt x => exact Q2.optb fun _ _ => Q2.bi .bad .val
  case makeFunc fn a b => exact Q2.optb fun _ _ => Q2.optb fun _ _ => .val
  case makeMap t' r =>
    cases r with
    | none => exact Q2.newBlock rfl
    | some r => exact .bad
  case makeSlice t' l c => exact Q2.optb fun _ _ => Q2.optb fun _ _ => q_makeSlice
  case slice t' x lo hi mx => exact Q2.optb fun _ _ => Q2.optb fun _ _ => Q2.optb fun _ _ => Q2.optb fun _ _ => q_slice
  case fieldAddr t' x f => exact Q2.optb fun _ _ => q_fieldAddr
  case field t' x f => exact Q2.optb fun _ _ => q_field
  case indexAddr t' x i => exact Q2.optb fun _ _ => Q2.optb fun _ _ => q_indexAddr
  case index t' x i => exact Q2.optb fun _ _ => Q2.optb fun _ _ => q_index
  case lookup t' x i ok =>
    refine Q2.optb fun z hz => Q2.optb fun y _ => ?_
    simp only [cReads, hz] at hr
    have he : entriesOf h1 z = entriesOf h z := by
      cases z <;> first
        | rfl
        | (cases hr; simp only [entriesOf, hb _ rfl])
    unfold lookupOp
    simp only [he]
    (repeat' (first | exact Q2.bad | exact Q2.val | exact Q2.mkInt | exact Q2.mkBool | exact Q2.newBlock rfl | exact Q2.newCells | apply Q2.bi | (apply Q2.opt; (intro _ _)) | apply Q2.forceNat | apply Q2.forceL | apply Q2.nats | apply Q2.bounds | intro _ | split))
  case typeAssert x xt a ok => exact Q2.optb fun _ _ => q_typeAssert
  case extract x i =>
    simp only [cOp]
    split
    · exact Q2.optb fun _ _ => .val
    · exact .bad
  case call c =>
    simp only [cOp, cCall]
    rcases quiet_call hl with e | e | e | e <;> simp only [e, cBuiltin]
    · refine Q2.optb fun as has => ?_
      simp only [cReads] at hr
      cases hargs : c.args.toList with
      | nil =>
        rw [hargs] at hr; cases hr
      | cons a r =>
        rw [hargs] at hr has
        simp only [cOpds] at has
        obtain ⟨z, h2, has⟩ := opt_some' has
        obtain ⟨zs, h3, has⟩ := opt_some' has
        cases has
        simp only [h2] at hr
        refine q_len fun b r' hbr => ?_
        cases hbr
        cases hr
        exact hb b rfl
    · exact Q2.optb fun _ _ => q_cap
    · exact Q2.optb fun _ _ => q_mnmx
    · exact Q2.optb fun _ _ => q_mnmx

/-- what it reads has a name that an operand bears -/
theorem quiet_reads {op : Op} (hl : loud op = false) {v : AV} {h' : Heap} {m' : Ps} (e : (cOp rd op).run T vs t h m = .val v h' m') :
    ∃ ob, (cReads rd op).run vs t = some ob ∧ ∀ b, ob = some b → ∃ x a, x ∈ op.operands.toList ∧ (rd x).run vs t = some a ∧ ∀ φ cv, VR φ a cv → ∃ y, φ b = some y := by
  cases op <;> try (first | exact ⟨none, rfl, fun _ h => by cases h⟩ | (cases hl; done))
  case load t' a =>
    obtain ⟨z, hz, e⟩ := opt_val e
    cases z with
    | pt b o =>
      refine ⟨some b, by simp only [cReads, hz], fun b' hb' => ?_⟩
      cases hb'
      refine ⟨a, _, by simp [Op.operands], hz, fun φ cv hv => ?_⟩
      simp only [VR] at hv
      obtain ⟨c, off, sz, hφ, _⟩ := hv
      exact ⟨_, hφ⟩
    | _ => cases e
  case convert s d x =>
    obtain ⟨z, hz, e⟩ := opt_val e
    cases z with
    | sl b o len cap el op =>
      cases hlen : Nat.beq len 0 with
      | true => exact ⟨none, by simp only [cReads, hz, hlen, bi_true], fun _ h => by cases h⟩
      | false =>
        refine ⟨some b, by simp only [cReads, hz, hlen, bi_false], fun b' hb' => ?_⟩
        cases hb'
        refine ⟨x, _, by simp [Op.operands], hz, fun φ cv hv => ?_⟩
        simp only [VR] at hv
        obtain ⟨a, cc, _, h1, h2, h3, h4⟩ := hv
        have h0 : len ≠ 0 := fun e => by subst e; cases hlen
        obtain ⟨c, off, sz, hφ, _⟩ := h4 (by omega)
        exact ⟨_, hφ⟩
    | _ => exact ⟨none, by simp only [cReads, hz], fun _ h => by cases h⟩
  case lookup t' x i ok =>
    obtain ⟨z, hz, e⟩ := opt_val e
    cases z with
    | mp b =>
      refine ⟨some b, by simp only [cReads, hz], fun b' hb' => ?_⟩
      cases hb'
      refine ⟨x, _, by simp [Op.operands], hz, fun φ cv hv => ?_⟩
      simp only [VR] at hv
      obtain ⟨c, off, sz, hφ, _⟩ := hv
      exact ⟨_, hφ⟩
    | _ => exact ⟨none, by simp only [cReads, hz], fun _ h => by cases h⟩
  case call c =>
    have hall : ∃ as, (cOpds rd c.args.toList).run vs t = some as ∧ as ≠ [] := by
      simp only [cOp, cCall] at e
      rcases quiet_call hl with ec | ec | ec | ec <;> simp only [ec, cBuiltin] at e <;> obtain ⟨as, has, e⟩ := opt_val e <;> refine ⟨as, has, fun hn => ?_⟩ <;> subst hn
      · unfold lenOp at e; split at e <;> first | cases e | (rename_i hh; cases hh)
      · unfold capOp at e; split at e <;> first | cases e | (rename_i hh; cases hh)
      · cases e
      · cases e
    obtain ⟨as, has, hne⟩ := hall
    cases hargs : c.args.toList with
    | nil => rw [hargs] at has; cases has; exact absurd rfl hne
    | cons a r =>
      rw [hargs] at has
      simp only [cOpds] at has
      obtain ⟨z, h2, has⟩ := opt_some' has
      have hmem : a ∈ (Op.call c).operands.toList := by
        simp only [Op.operands, Call.operands, Array.toList_append, hargs]
        simp
      cases z with
      | mp b =>
        refine ⟨some b, by simp only [cReads, hargs, h2], fun b' hb' => ?_⟩
        cases hb'
        refine ⟨a, _, hmem, h2, fun φ cv hv => ?_⟩
        simp only [VR] at hv
        obtain ⟨c, off, sz, hφ, _⟩ := hv
        exact ⟨_, hφ⟩
      | _ => exact ⟨none, by simp only [cReads, hargs, h2], fun _ h => by cases h⟩
end
end Go.AM
namespace Go.AM

section
variable {rd rd' : Operand → Rd}

theorem cOpds_congr : ∀ {l : List Operand}, (∀ x, x ∈ l → rd x = rd' x) → cOpds rd l = cOpds rd' l
  | [], _ => rfl
  | x :: r, h => by
    simp only [cOpds, h x List.mem_cons_self, cOpds_congr fun y hy => h y (List.mem_cons_of_mem _ hy)]

theorem cParts_congr : ∀ {l : List (Nat × Operand)}, (∀ x, x ∈ l.map (·.2) → rd x = rd' x) → cParts rd l = cParts rd' l
  | [], _ => rfl
  | (i, x) :: r, h => by
    simp only [cParts, h x (by simp), cParts_congr (l := r) fun y hy => h y (by simp only [List.map_cons]; exact List.mem_cons_of_mem _ hy)]

theorem cOpt_congr {x : Option Operand} (h : ∀ y, x = some y → rd y = rd' y) : cOpt rd x = cOpt rd' x := by
  cases x with
  | none => rfl
  | some y => simp only [cOpt, h y rfl]

theorem cCall_congr {c : Call} (h : ∀ x, x ∈ c.operands.toList → rd x = rd' x) : cCall rd c = cCall rd' c := by
  have ha : cOpds rd c.args.toList = cOpds rd' c.args.toList := cOpds_congr fun x hx => h x (by simp only [Call.operands, Array.toList_append]; exact List.mem_append_right _ hx)
  unfold cCall
  simp only [ha]
  split <;> try rfl
  rename_i x hne hx
  have : rd x = rd' x := h x (by simp [Call.operands, hx])
  simp only [this]

theorem cDefer_congr {c : Call} (h : ∀ x, x ∈ c.operands.toList → rd x = rd' x) : cDefer rd c = cDefer rd' c := by
  have ha : cOpds rd c.args.toList = cOpds rd' c.args.toList := cOpds_congr fun x hx => h x (by simp only [Call.operands, Array.toList_append]; exact List.mem_append_right _ hx)
  unfold cDefer
  simp only [ha]
  split <;> try rfl
  rename_i x hx
  have : rd x = rd' x := h x (by simp [Call.operands, hx])
  simp only [this]

theorem cOp_congr {op : Op} (h : ∀ x, x ∈ op.operands.toList → rd x = rd' x) : cOp rd op = cOp rd' op := by
  cases op <;> simp only [Op.operands] at h <;> simp only [cOp]
  case build t ps => rw [cParts_congr fun x hx => h x (by simpa using hx)]
  case buildSlice t l ps => rw [cParts_congr fun x hx => h x (by simpa using hx)]
  case makeFunc fn a b =>
    rw [cOpds_congr fun x hx => h x (by simp only [Array.toList_append]; exact List.mem_append_left _ hx), cOpds_congr fun x hx => h x (by simp only [Array.toList_append]; exact List.mem_append_right _ hx)]
  case makeMap t r => cases r <;> rfl
  case slice t x lo hi mx =>
    rw [cOpt_congr (x := lo) fun y hy => h y (by subst hy; simp), cOpt_congr (x := hi) fun y hy => h y (by subst hy; simp), cOpt_congr (x := mx) fun y hy => h y (by subst hy; simp), h x (by simp)]
  case call c => exact cCall_congr h
  case defer c => exact cDefer_congr h
  all_goals (first | rfl | (simp only [Array.toList, List.mem_cons, List.not_mem_nil, or_false, forall_eq, forall_eq_or_imp] at h; simp only [h]))

theorem cReads_congr {op : Op} (h : ∀ x, x ∈ op.operands.toList → rd x = rd' x) : cReads rd op = cReads rd' op := by
  cases op <;> simp only [Op.operands] at h <;> simp only [cReads]
  case call c =>
    cases hc : c.args.toList with
    | nil => rfl
    | cons a r => simp only [h a (by simp only [Call.operands, Array.toList_append, hc]; simp)]
  all_goals (first | rfl | (simp only [Array.toList, List.mem_cons, List.not_mem_nil, or_false, forall_eq, forall_eq_or_imp] at h; simp only [h]))
end

/-- reading what an operation reads, and nothing else -/
noncomputable def mrd (rd : Operand → Rd) (A : List Operand) (x : Operand) : Rd := match x with
  | .tmp i => open Classical in if Operand.tmp i ∈ A then rd (.tmp i) else ⟨fun _ _ => none⟩
  | x => rd x

theorem mrd_mem {rd : Operand → Rd} {A : List Operand} {x : Operand} (h : x ∈ A) : mrd rd A x = rd x := by
  unfold mrd
  split
  · rw [if_pos h]
  · rfl

theorem mrd_rho {lv : List Nat} {ds : List (Option Nat)} {vs : List AV} {t : Tmps} {φ : Emb} {a : Act} {A : List Operand}
    (h : ∀ i v, Operand.tmp i ∈ A → (cOpd lv ds (.tmp i)).run vs t = some v → VR φ v (a.tmps.getD i undef)) : RhoOk (mrd (cOpd lv ds) A) vs t φ a.eval := by
  refine ⟨fun x v e => ?_, fun f => rfl⟩
  cases x with
  | tmp i =>
    simp only [mrd] at e
    split at e
    · rename_i hm; exact h i v hm e
    · cases e
  | const c =>
    simp only [mrd, cOpd] at e
    split at e
    · rename_i a' ha
      cases e
      exact ofVal_sound ha φ
    · cases e
  | global g => cases e
  | func f =>
    cases e
    simp only [VR]
    exact ⟨[], [], rfl, VRs.nil_iff.2 rfl, VRs.nil_iff.2 rfl⟩

/-- an operation that reads leaves the world alone -/
theorem reads_sound {P : Program} {T : Tab} {φ : Emb} {h : Heap} {m : Ps} {w : World} {v : AV} {h' : Heap} {m' : Ps} {rd : Operand → Rd} {vs : List AV} {t : Tmps} {ρ : Operand → Value}
    (hT : TOk T P) (hρ : RhoOk rd vs t φ ρ) (o : Oper) (k : HR φ h m w) (hl : loud o.op = false) {b : Ps} (hb : (cReads rd o.op).run vs t = some (some b)) (e : (cOp rd o.op).run T vs t h m = .val v h' m') :
    h' = h ∧ m' = m ∧ ∃ cv, (execOp ρ o).run P w = .ok (.value cv) w ∧ VR φ v cv := by
  obtain ⟨dst, op, ty, after, pos, guard⟩ := o
  cases op <;> try (first | cases hb; done | cases hl; done)
  case load t' a =>
    obtain ⟨z, hz, e⟩ := opt_val e
    obtain ⟨⟨cv, h1, h2⟩, rfl, rfl⟩ := load_pr hT e (hρ.rd _ _ hz) k
    exact ⟨rfl, rfl, cv, by simp [execOp, h1], h2⟩
  case convert s d x =>
    obtain ⟨z, hz, e⟩ := opt_val e
    simp only [cReads, hz] at hb
    cases z with
    | sl b o len cap e' op =>
      obtain ⟨⟨cv, h1, h2⟩, rfl, rfl⟩ := convert_pr hT e (hρ.rd _ _ hz) k
      exact ⟨rfl, rfl, cv, by simp [execOp, h1], h2⟩
    | _ => cases hb
  case lookup t' x i ok =>
    obtain ⟨z, hz, e⟩ := opt_val e
    obtain ⟨y, hy, e⟩ := opt_val e
    obtain ⟨⟨cv, h1, h2⟩, rfl, rfl⟩ := lookup_pr hT e (hρ.rd _ _ hz) (hρ.rd _ _ hy) k
    exact ⟨rfl, rfl, cv, by simp [execOp, h1], h2⟩
  case call c =>
    simp only [cOp, cCall] at e
    rcases quiet_call hl with ec | ec | ec | ec <;> simp only [ec, cBuiltin] at e <;> obtain ⟨as, has, e⟩ := opt_val e
    · have har := cOpds_sound hρ has
      obtain ⟨⟨cv, h1, h2⟩, rfl, rfl⟩ := len_pr (tt := ty) hT e har k
      refine ⟨rfl, rfl, cv, ?_, h2⟩
      simp only [execOp, resolve, ec, Sem.run_bind, Sem.run_pure, Result.andThen_ok, invoke, builtin, args_eq c.args ρ]
      have hat : c.argTypes.toList.toArray = c.argTypes := by simp
      rw [hat] at h1
      simp [h1]
    all_goals
      exfalso
      simp only [cReads] at hb
      cases hc : c.args.toList with
      | nil => rw [hc] at hb; cases hb
      | cons a r =>
        rw [hc] at hb has
        simp only [cOpds] at has
        obtain ⟨z, h2, has⟩ := opt_some' has
        obtain ⟨zs, h3, has⟩ := opt_some' has
        cases has
        simp only [h2] at hb
        cases z <;> try (cases hb; done)
        rename_i b'
        first
          | (unfold capOp at e; split at e <;> first | (cases e; done) | (rename_i hh; cases hh; split at e <;> first | (cases e; done) | (split at e <;> first | (cases e; done) | contradiction)))
          | (simp only [mnmx] at e; cases zs <;> simp [maxL] at e)
end Go.AM
namespace Go.AM

/-- where the machine stands ahead of an operation of a region -/
structure Pt where
  ds : List (Option Nat)
  vs : List AV
  d : List ADef
  h : Heap
  m : Ps
  sn : List Sn

section
variable (T : Tab) (n : Nat) (ih : Ih) (lv : List Nat) (nt : Nat) (ops : List Oper) (t : Tmps)

/-- one step of the machine in a region -/
structure StepOk (s : Stp) (x y : Pt) (v : AV) : Prop where
  dst : okDst nt s.o.dst = true
  ds : y.ds = s.o.dst :: x.ds
  vs : y.vs = v :: x.vs
  sn : y.sn = snapNo s x.h x.m x.sn
  mono : s.k = .snap → x.m.val ≤ y.m.val
  run : (∃ j want, s.o.guard = some (j, want) ∧ (cGuard (cOpd lv x.ds) ops j want).run x.vs t = some false ∧ v = .tu [] ∧ y.d = x.d ∧ y.h = x.h ∧ y.m = x.m) ∨
    ((∀ j want, s.o.guard = some (j, want) → (cGuard (cOpd lv x.ds) ops j want).run x.vs t = some true) ∧
      (((cOp (cOpd lv x.ds) s.o.op).run T x.vs t x.h x.m = .val v y.h y.m ∧ y.d = x.d ∧
          ∀ mask, s.k = .check mask → stable (cOp (cOpd lv x.ds) s.o.op) (cReads (cOpd lv x.ds) s.o.op) T x.vs t v x.m mask x.sn = true) ∨
       (∃ f args, (cOp (cOpd lv x.ds) s.o.op).run T x.vs t x.h x.m = .call f args ∧ ih f args x.h x.m = .ret v y.h y.m ∧ y.d = x.d) ∨
       (∃ q, (cOp (cOpd lv x.ds) s.o.op).run T x.vs t x.h x.m = .dfr q ∧ v = .tu [] ∧ y.d = q :: x.d ∧ y.h = x.h ∧ y.m = x.m)))
end

theorem psVal_eq : ∀ p : Ps, psVal p = p.val
  | .e => rfl
  | .o p => by simp only [psVal, Ps.val, psVal_eq p]; show Nat.succ (2 * p.val) = _; omega
  | .i p => by simp only [psVal, Ps.val, psVal_eq p]; show Nat.succ (Nat.succ (2 * p.val)) = _; omega

theorem bi_ok {c : Bool} {x : Res} {s : String} {x0 : X} {t0 : Tmps} {d0 : List ADef} {h0 : Heap} {m0 : Ps} (e : bi c x (.bad s) = .ok x0 t0 d0 h0 m0) : c = true ∧ x = .ok x0 t0 d0 h0 m0 := by
  cases c
  · cases e
  · exact ⟨rfl, e⟩

section
variable {T : Tab} {n : Nat} {ih : Ih} {lv : List Nat} {nt : Nat} {ops : List Oper} {t : Tmps}

theorem act_step {s : Stp} {nx : RegC} {x : Pt} {x0 : X} {t0 : Tmps} {d0 : List ADef} {h0 : Heap} {m0 : Ps}
    (hd : okDst nt s.o.dst = true) (hg : ∀ j want, s.o.guard = some (j, want) → (cGuard (cOpd lv x.ds) ops j want).run x.vs t = some true)
    (e : (cAct s (cOp (cOpd lv x.ds) s.o.op) (cReads (cOpd lv x.ds) s.o.op) nx).run T n ih x.sn x.vs t x.d x.h x.m = .ok x0 t0 d0 h0 m0) :
    ∃ (y : Pt) (v : AV), StepOk T ih lv nt ops t s x y v ∧ nx.run T n ih y.sn y.vs t y.d y.h y.m = .ok x0 t0 d0 h0 m0 := by
  unfold cAct at e
  cases hk : s.k with
  | plain =>
    simp only [hk] at e
    have hsn : ∀ h m, snapNo s h m x.sn = x.sn := fun h m => by simp only [snapNo, hk]
    split at e
    · rename_i v h' m' hr
      exact ⟨⟨s.o.dst :: x.ds, v :: x.vs, x.d, h', m', x.sn⟩, v, ⟨hd, rfl, rfl, (hsn _ _).symm, fun q => (by rw [hk] at q; cases q), .inr ⟨hg, .inl ⟨hr, rfl, fun _ q => (by rw [hk] at q; cases q)⟩⟩⟩, e⟩
    · rename_i f args hr
      split at e
      · rename_i v h' m' hc
        exact ⟨⟨s.o.dst :: x.ds, v :: x.vs, x.d, h', m', x.sn⟩, v, ⟨hd, rfl, rfl, (hsn _ _).symm, fun q => (by rw [hk] at q; cases q), .inr ⟨hg, .inr (.inl ⟨f, args, hr, hc, rfl⟩)⟩⟩, e⟩
      · cases e
      · cases e
    · rename_i q hr
      exact ⟨⟨s.o.dst :: x.ds, .tu [] :: x.vs, q :: x.d, x.h, x.m, x.sn⟩, .tu [], ⟨hd, rfl, rfl, (hsn _ _).symm, fun q => (by rw [hk] at q; cases q), .inr ⟨hg, .inr (.inr ⟨q, hr, rfl, rfl, rfl, rfl⟩)⟩⟩, e⟩
    · cases e
  | snap =>
    simp only [hk] at e
    have hsn : snapNo s x.h x.m x.sn = ⟨s.i, x.h, x.m⟩ :: x.sn := by simp only [snapNo, hk]
    split at e
    · rename_i v h' m' hr
      obtain ⟨hm, e⟩ := bi_ok e
      have hm := (ble_iff _ _).1 hm
      rw [psVal_eq, psVal_eq] at hm
      exact ⟨⟨s.o.dst :: x.ds, v :: x.vs, x.d, h', m', ⟨s.i, x.h, x.m⟩ :: x.sn⟩, v, ⟨hd, rfl, rfl, hsn.symm, fun _ => hm, .inr ⟨hg, .inl ⟨hr, rfl, fun _ q => (by rw [hk] at q; cases q)⟩⟩⟩, e⟩
    · rename_i f args hr
      split at e
      · rename_i v h' m' hc
        obtain ⟨hm, e⟩ := bi_ok e
        have hm := (ble_iff _ _).1 hm
        rw [psVal_eq, psVal_eq] at hm
        exact ⟨⟨s.o.dst :: x.ds, v :: x.vs, x.d, h', m', ⟨s.i, x.h, x.m⟩ :: x.sn⟩, v, ⟨hd, rfl, rfl, hsn.symm, fun _ => hm, .inr ⟨hg, .inr (.inl ⟨f, args, hr, hc, rfl⟩)⟩⟩, e⟩
      · cases e
      · cases e
    · rename_i q hr
      exact ⟨⟨s.o.dst :: x.ds, .tu [] :: x.vs, q :: x.d, x.h, x.m, ⟨s.i, x.h, x.m⟩ :: x.sn⟩, .tu [], ⟨hd, rfl, rfl, hsn.symm, fun _ => Nat.le_refl _, .inr ⟨hg, .inr (.inr ⟨q, hr, rfl, rfl, rfl, rfl⟩)⟩⟩, e⟩
    · cases e
  | check mask =>
    simp only [hk] at e
    have hsn : ∀ h m, snapNo s h m x.sn = x.sn := fun h m => by simp only [snapNo, hk]
    split at e
    · rename_i v h' m' hr
      obtain ⟨hs, e⟩ := bi_ok e
      exact ⟨⟨s.o.dst :: x.ds, v :: x.vs, x.d, h', m', x.sn⟩, v, ⟨hd, rfl, rfl, (hsn _ _).symm, fun q => (by rw [hk] at q; cases q), .inr ⟨hg, .inl ⟨hr, rfl, fun mk q => (by rw [hk] at q; cases q; exact hs)⟩⟩⟩, e⟩
    · cases e
    · cases e

/-- all steps of a region -/
theorem trace_of {k : List (Option Nat) → CC} {x0 : X} {t0 : Tmps} {d0 : List ADef} {h0 : Heap} {m0 : Ps} : ∀ (l : List Stp) (x : Pt), (cReg lv nt ops k l x.ds).run T n ih x.sn x.vs t x.d x.h x.m = .ok x0 t0 d0 h0 m0 →
    ∃ (pts : Nat → Pt) (val : Nat → AV), pts 0 = x ∧ (∀ p s, l[p]? = some s → StepOk T ih lv nt ops t s (pts p) (pts (p + 1)) (val p)) ∧
      (k (pts l.length).ds).run T n ih (pts l.length).vs t (pts l.length).d (pts l.length).h (pts l.length).m = .ok x0 t0 d0 h0 m0
  | [], x, e => ⟨fun _ => x, fun _ => .tu [], rfl, fun p s hs => by simp at hs, e⟩
  | s :: l, x, e => by
    have key : ∃ (y : Pt) (v : AV), StepOk T ih lv nt ops t s x y v ∧ (cReg lv nt ops k l y.ds).run T n ih y.sn y.vs t y.d y.h y.m = .ok x0 t0 d0 h0 m0 := by
      simp only [cReg] at e
      cases hd : okDst nt s.o.dst with
      | false => rw [hd] at e; cases e
      | true =>
        rw [hd] at e; simp only [bi_true] at e
        have hact : ∀ (hg : ∀ j want, s.o.guard = some (j, want) → (cGuard (cOpd lv x.ds) ops j want).run x.vs t = some true),
            (cAct s (cOp (cOpd lv x.ds) s.o.op) (cReads (cOpd lv x.ds) s.o.op) (cReg lv nt ops k l (s.o.dst :: x.ds))).run T n ih x.sn x.vs t x.d x.h x.m = .ok x0 t0 d0 h0 m0 →
            ∃ (y : Pt) (v : AV), StepOk T ih lv nt ops t s x y v ∧ (cReg lv nt ops k l y.ds).run T n ih y.sn y.vs t y.d y.h y.m = .ok x0 t0 d0 h0 m0 := fun hg e => by
          obtain ⟨y, v, h1, h2⟩ := act_step hd hg e
          exact ⟨y, v, h1, by rw [h1.ds]; exact h2⟩
        cases hg : s.o.guard with
        | none =>
          rw [hg] at e
          exact hact (fun j w q => by rw [hg] at q; cases q) e
        | some jw =>
          obtain ⟨j, want⟩ := jw
          rw [hg] at e
          simp only at e
          split at e
          · rename_i hgr
            exact hact (fun j' w' q => by rw [hg] at q; cases q; exact hgr) e
          · rename_i hgr
            exact ⟨⟨s.o.dst :: x.ds, .tu [] :: x.vs, x.d, x.h, x.m, snapNo s x.h x.m x.sn⟩, .tu [], ⟨hd, rfl, rfl, rfl, fun _ => Nat.le_refl _, .inl ⟨j, want, hg, hgr, rfl, rfl, rfl, rfl⟩⟩, e⟩
          · cases e
    obtain ⟨y, v, h1, h2⟩ := key
    obtain ⟨pts, val, g1, g2, g3⟩ := trace_of l y h2
    refine ⟨fun p => match p with | 0 => x | p + 1 => pts p, fun p => match p with | 0 => v | p + 1 => val p, rfl, fun p s' hs => ?_, g3⟩
    cases p with
    | zero => simp at hs; subst hs; show StepOk T ih lv nt ops t s x (pts 0) v; rw [g1]; exact h1
    | succ p => exact g2 p s' (by simpa using hs)
end
end Go.AM
namespace Go.AM

/-- what holds of the order in which the machine goes through a region -/
structure PlanF (ops : List Oper) (ms : List Nat) (σ : List Stp) : Prop where
  here : ∀ (p : Nat) (s : Stp), σ[p]? = some s → ops[s.i]? = some s.o ∧ s.k = kindOf (orZero (nth ms s.i)) s.o.op
  inj : ∀ (p q : Nat) (s r : Stp), σ[p]? = some s → σ[q]? = some r → s.i = r.i → p = q
  all : ∀ i, i < ops.length → ∃ (p : Nat) (s : Stp), σ[p]? = some s ∧ s.i = i
  after : ∀ (p : Nat) (s : Stp), σ[p]? = some s → ∀ j, j ∈ onsOf s.o.after.toList → ∃ (q : Nat) (r : Stp), q < p ∧ σ[q]? = some r ∧ r.i = j
  louds : ∀ (p : Nat) (s : Stp), σ[p]? = some s → loud s.o.op = true → ∀ (q : Nat) (r : Stp), q < p → σ[q]? = some r → bit (orZero (nth ms s.i)) r.i = true
  mask : ∀ (i : Nat) (o : Oper), ops[i]? = some o → ∀ x, bit (orZero (nth ms i)) x = true → ∃ j, j ∈ onsOf o.after.toList ∧ (x = j ∨ bit (orZero (nth ms j)) x = true)
  dst : ∀ (i : Nat) (o : Oper) (j : Nat) (o' : Oper) (d : Nat), ops[i]? = some o → ops[j]? = some o' → o.dst = some d → o'.dst = some d → i = j
  args : ∀ (i : Nat) (o : Oper), ops[i]? = some o → ∀ t, Operand.tmp t ∈ o.op.operands.toList → ∀ (j : Nat) (o' : Oper), ops[j]? = some o' → o'.dst = some t → j ∈ onsOf o.after.toList ∨ j = i ∨ bit (orZero (nth ms j)) i = true
  guard : ∀ (i : Nat) (o : Oper) (j : Nat) (want : Bool), ops[i]? = some o → o.guard = some (j, want) → j ∈ onsOf o.after.toList ∧ ∃ (o' : Oper) (d : Nat), ops[j]? = some o' ∧ o'.dst = some d

theorem memNat_iff (n : Nat) : ∀ l : List Nat, memNat n l = true ↔ n ∈ l
  | [] => by simp [memNat]
  | a :: r => by
    simp only [memNat, List.mem_cons]
    cases h : Nat.beq a n with
    | true => simp [(beq_iff _ _).1 h]
    | false =>
      have : n ≠ a := fun e => by rw [e, (beq_iff _ _).2 rfl] at h; cases h
      simp [memNat_iff n r, this]

theorem bi_tf {c x : Bool} (h : bi c x false = true) : c = true ∧ x = true := by cases c <;> simp_all
theorem bi_ft {c x : Bool} (h : bi c false x = true) : c = false ∧ x = true := by cases c <;> simp_all

theorem subB_iff (seen : List Nat) : ∀ {l : List Nat}, subB seen l = true → ∀ j, j ∈ l → j ∈ seen
  | [], _, j, hj => by simp at hj
  | a :: r, h, j, hj => by
    obtain ⟨h1, h2⟩ := bi_tf h
    rcases List.mem_cons.1 hj with rfl | hj
    · exact (memNat_iff _ _).1 h1
    · exact subB_iff seen h2 j hj

theorem bitsIn_iff {mask : Nat} : ∀ {l : List Nat}, bitsIn mask l = true → ∀ j, j ∈ l → bit mask j = true
  | [], _, j, hj => by simp at hj
  | a :: r, h, j, hj => by
    obtain ⟨h1, h2⟩ := bi_tf h
    rcases List.mem_cons.1 hj with rfl | hj
    · exact h1
    · exact bitsIn_iff h2 j hj

theorem bit_eq (n i : Nat) : bit n i = n.testBit i := by
  unfold bit
  rw [Nat.testBit_eq_decide_div_mod_eq]
  show Nat.beq (n / 2 ^ i % 2) 1 = _
  by_cases h : n / 2 ^ i % 2 = 1
  · rw [h]; simp
  · rw [decide_eq_false h]
    cases hb : Nat.beq (n / 2 ^ i % 2) 1 with
    | true => exact absurd ((beq_iff _ _).1 hb) h
    | false => rfl

theorem bit_maskBy (ms : List Nat) (x : Nat) : ∀ {l : List Nat}, bit (maskBy ms l) x = true → ∃ j, j ∈ l ∧ (x = j ∨ bit (orZero (nth ms j)) x = true)
  | [], h => by rw [bit_eq] at h; simp [maskBy] at h
  | a :: r, h => by
    rw [bit_eq] at h
    have e : maskBy ms (a :: r) = (2 ^ a ||| orZero (nth ms a)) ||| maskBy ms r := rfl
    rw [e, Nat.testBit_or, Nat.testBit_or, Bool.or_eq_true, Bool.or_eq_true] at h
    rcases h with (h | h) | h
    · rw [Nat.testBit_two_pow] at h
      exact ⟨a, List.mem_cons_self, .inl (by simpa using h : a = x).symm⟩
    · exact ⟨a, List.mem_cons_self, .inr (by rw [bit_eq]; exact h)⟩
    · obtain ⟨j, h1, h2⟩ := bit_maskBy ms x (l := r) (by rw [bit_eq]; exact h)
      exact ⟨j, List.mem_cons_of_mem _ h1, h2⟩

theorem masksOk_get {ms : List Nat} : ∀ {l : List Oper} {i : Nat}, masksOk ms i l = true → ∀ (p : Nat) (o : Oper), l[p]? = some o → orZero (nth ms (i + p)) = maskBy ms (onsOf o.after.toList)
  | [], _, _, p, o, ho => by simp at ho
  | a :: r, i, h, p, o, ho => by
    obtain ⟨h1, h2⟩ := bi_tf h
    cases p with
    | zero => simp at ho; subst ho; exact (beq_iff _ _).1 h1
    | succ p =>
      have := masksOk_get h2 p o (by simpa using ho)
      rw [show i + (p + 1) = Nat.succ i + p by omega]; exact this

theorem orderOk_get {ops : List Oper} {ms : List Nat} : ∀ {l seen : List Nat}, orderOk ops ms seen l = true → ∀ (p i : Nat), l[p]? = some i →
    ∃ o, ops[i]? = some o ∧ i ∉ seen ∧ (∀ q, q < p → l[q]? ≠ some i) ∧ (∀ j, j ∈ onsOf o.after.toList → j ∈ seen ∨ ∃ q, q < p ∧ l[q]? = some j) ∧
      (loud o.op = true → (∀ x, x ∈ seen → bit (orZero (nth ms i)) x = true) ∧ ∀ q x, q < p → l[q]? = some x → bit (orZero (nth ms i)) x = true)
  | [], _, _, p, i, hi => by simp at hi
  | a :: r, seen, h, p, i, hi => by
    simp only [orderOk] at h
    split at h
    · cases h
    · rename_i o ho
      rw [nth_eq] at ho
      obtain ⟨h1, h⟩ := bi_ft h
      obtain ⟨h2, h⟩ := bi_tf h
      obtain ⟨h3, h⟩ := bi_tf h
      have h1' : a ∉ seen := fun e => by rw [(memNat_iff _ _).2 e] at h1; cases h1
      cases p with
      | zero =>
        simp at hi; subst hi
        refine ⟨o, ho, h1', fun q hq => by omega, fun j hj => .inl (subB_iff _ h2 j hj), fun hl => ⟨fun x hx => ?_, fun q x hq => by omega⟩⟩
        rw [hl] at h3
        exact bitsIn_iff h3 x hx
      | succ p =>
        obtain ⟨o', g1, g2, g3, g4, g5⟩ := orderOk_get h p i (by simpa using hi)
        have hne : i ≠ a := fun e => g2 (by rw [e]; exact List.mem_cons_self)
        refine ⟨o', g1, fun e => g2 (List.mem_cons_of_mem _ e), fun q hq => ?_, fun j hj => ?_, fun hl => ⟨fun x hx => (g5 hl).1 x (List.mem_cons_of_mem _ hx), fun q x hq hx => ?_⟩⟩
        · cases q with
          | zero => simp; exact fun e => hne e.symm
          | succ q => simpa using g3 q (by omega)
        · rcases g4 j hj with hs | ⟨q, hq, hq'⟩
          · rcases List.mem_cons.1 hs with rfl | hs
            · exact .inr ⟨0, by omega, rfl⟩
            · exact .inl hs
          · exact .inr ⟨q + 1, by omega, by simpa using hq'⟩
        · cases q with
          | zero => simp at hx; subst hx; exact (g5 hl).1 _ List.mem_cons_self
          | succ q => exact (g5 hl).2 q x (by omega) (by simpa using hx)

theorem stepsOf_get {ops : List Oper} {ms : List Nat} : ∀ {l : List Nat}, (∀ (p i : Nat), l[p]? = some i → ∃ o, ops[i]? = some o) → ∀ (p : Nat) (s : Stp), (stepsOf ops ms l)[p]? = some s →
    l[p]? = some s.i ∧ ops[s.i]? = some s.o ∧ s.k = kindOf (orZero (nth ms s.i)) s.o.op
  | [], _, p, s, hs => by simp [stepsOf] at hs
  | a :: r, h, p, s, hs => by
    obtain ⟨o, ho⟩ := h 0 a rfl
    have ho' : nth ops a = some o := by rw [nth_eq]; exact ho
    simp only [stepsOf, ho'] at hs
    cases p with
    | zero => simp at hs; subst hs; exact ⟨rfl, ho, rfl⟩
    | succ p =>
      have := stepsOf_get (l := r) (fun q i hq => h (q + 1) i (by simpa using hq)) p s (by simpa using hs)
      exact ⟨by simpa using this.1, this.2⟩

theorem stepsOf_has {ops : List Oper} {ms : List Nat} : ∀ {l : List Nat}, (∀ (p i : Nat), l[p]? = some i → ∃ o, ops[i]? = some o) → ∀ (p i : Nat), l[p]? = some i → ∃ s : Stp, (stepsOf ops ms l)[p]? = some s ∧ s.i = i
  | [], _, p, i, hi => by simp at hi
  | a :: r, h, p, i, hi => by
    obtain ⟨o, ho⟩ := h 0 a rfl
    have ho' : nth ops a = some o := by rw [nth_eq]; exact ho
    simp only [stepsOf, ho']
    cases p with
    | zero => simp at hi; subst hi; exact ⟨_, rfl, rfl⟩
    | succ p =>
      obtain ⟨s, h1, h2⟩ := stepsOf_has (ms := ms) (l := r) (fun q i hq => h (q + 1) i (by simpa using hq)) p i (by simpa using hi)
      exact ⟨s, by simpa using h1, h2⟩

theorem coversB_get {order : List Nat} : ∀ {l : List Oper} {i : Nat}, coversB order i l = true → ∀ p, p < l.length → i + p ∈ order
  | [], _, _, p, hp => by simp at hp
  | a :: r, i, h, p, hp => by
    obtain ⟨h1, h2⟩ := bi_tf h
    cases p with
    | zero => exact (memNat_iff _ _).1 h1
    | succ p =>
      have := coversB_get h2 p (by simpa using hp)
      rw [show i + (p + 1) = Nat.succ i + p by omega]; exact this

theorem posOfT_some {t : Nat} : ∀ {l : List (Option Nat)} {j : Nat}, posOfT t l = some j → l[j]? = some (some t)
  | [], _, h => by cases h
  | d :: r, j, h => by
    rw [posOfT_cons] at h
    by_cases hd : d = some t
    · rw [if_pos hd] at h; cases h; simp [hd]
    · rw [if_neg hd] at h
      cases hp : posOfT t r with
      | none => rw [hp] at h; cases h
      | some q => rw [hp] at h; cases h; simpa using posOfT_some hp

theorem posOfT_mem {t : Nat} : ∀ {l : List (Option Nat)} {j : Nat}, l[j]? = some (some t) → ∃ q, posOfT t l = some q
  | [], _, h => by simp at h
  | d :: r, j, h => by
    rw [posOfT_cons]
    by_cases hd : d = some t
    · exact ⟨0, if_pos hd⟩
    · rw [if_neg hd]
      cases j with
      | zero => simp at h; exact absurd h hd
      | succ j =>
        obtain ⟨q, hq⟩ := posOfT_mem (l := r) (by simpa using h)
        exact ⟨q + 1, by rw [hq]; rfl⟩

theorem dstsOk_inj {t : Nat} : ∀ {l : List (Option Nat)}, dstsOk l = true → ∀ (i j : Nat), l[i]? = some (some t) → l[j]? = some (some t) → i = j
  | [], _, i, j, hi, _ => by simp at hi
  | none :: r, h, i, j, hi, hj => by
    cases i with
    | zero => simp at hi
    | succ i =>
      cases j with
      | zero => simp at hj
      | succ j => exact congrArg (· + 1) (dstsOk_inj (l := r) h i j (by simpa using hi) (by simpa using hj))
  | some d :: r, h, i, j, hi, hj => by
    simp only [dstsOk] at h
    split at h
    · rename_i hn
      have no : ∀ q, r[q]? ≠ some (some d) := fun q hq => by
        obtain ⟨x, hx⟩ := posOfT_mem hq
        rw [hn] at hx; cases hx
      cases i with
      | zero =>
        simp at hi; subst hi
        cases j with
        | zero => rfl
        | succ j => exact absurd (by simpa using hj) (no j)
      | succ i =>
        cases j with
        | zero => simp at hj; subst hj; exact absurd (by simpa using hi) (no i)
        | succ j => exact congrArg (· + 1) (dstsOk_inj (l := r) h i j (by simpa using hi) (by simpa using hj))
    · cases h

theorem dstsOf_get : ∀ (l : List Oper) (i : Nat), (dstsOf l)[i]? = (l[i]?).map (·.dst)
  | [], i => by simp [dstsOf]
  | o :: r, 0 => by simp [dstsOf]
  | o :: r, i + 1 => by simpa [dstsOf] using dstsOf_get r i

theorem argsOk_get {ms : List Nat} {ds : List (Option Nat)} {ons : List Nat} {i : Nat} : ∀ {l : List Operand}, argsOk ms ds ons i l = true → ∀ t, Operand.tmp t ∈ l → ∀ x, posOfT t ds = some x → x ∈ ons ∨ x = i ∨ bit (orZero (nth ms x)) i = true
  | [], _, t, ht, _, _ => by simp at ht
  | a :: r, h, t, ht, x, hx => by
    rcases List.mem_cons.1 ht with rfl | ht
    · simp only [argsOk, hx] at h
      have h := (bi_tf h).1
      cases hm : memNat x ons with
      | true => exact .inl ((memNat_iff _ _).1 hm)
      | false =>
        rw [hm] at h; simp only [bi_false] at h
        cases hb : Nat.beq x i with
        | true => exact .inr (.inl ((beq_iff _ _).1 hb))
        | false => rw [hb] at h; exact .inr (.inr h)
    · have hr : argsOk ms ds ons i r = true := by
        cases a with
        | tmp t' =>
          simp only [argsOk] at h
          split at h
          · exact h
          · exact (bi_tf h).2
        | _ => exact h
      exact argsOk_get hr t ht x hx

theorem usesOk_get {ops : List Oper} {ms : List Nat} {ds : List (Option Nat)} : ∀ {l : List Oper} {k : Nat}, usesOk ops ms ds k l = true → ∀ (i : Nat) (o : Oper), l[i]? = some o →
    argsOk ms ds (onsOf o.after.toList) (k + i) o.op.operands.toList = true ∧ guardOk ops (onsOf o.after.toList) o.guard = true
  | [], _, _, i, o, ho => by simp at ho
  | a :: r, k, h, i, o, ho => by
    obtain ⟨h1, h⟩ := bi_tf h
    obtain ⟨h2, h⟩ := bi_tf h
    cases i with
    | zero => simp at ho; subst ho; exact ⟨h1, h2⟩
    | succ i =>
      have := usesOk_get h i o (by simpa using ho)
      rw [show k + (i + 1) = Nat.succ k + i by omega]; exact this

theorem planF_of {ops : List Oper} {ms order : List Nat} (h : planOk ops ms order = true) : PlanF ops ms (stepsOf ops ms order) := by
  obtain ⟨h1, h⟩ := bi_tf h
  obtain ⟨h2, h⟩ := bi_tf h
  obtain ⟨h3, h⟩ := bi_tf h
  obtain ⟨h4, h5⟩ := bi_tf h
  have hall : ∀ (p i : Nat), order[p]? = some i → ∃ o, ops[i]? = some o := fun p i hi => by
    obtain ⟨o, ho, _⟩ := orderOk_get h2 p i hi; exact ⟨o, ho⟩
  have hget := fun p s => stepsOf_get (ms := ms) hall p s
  have hhas := fun p i => stepsOf_has (ms := ms) hall p i
  have dsts : ∀ (i : Nat) (o : Oper) (j : Nat) (o' : Oper) (d : Nat), ops[i]? = some o → ops[j]? = some o' → o.dst = some d → o'.dst = some d → i = j := fun i o j o' d a b c e =>
    dstsOk_inj (t := d) h4 i j (by rw [dstsOf_get, a]; simp [c]) (by rw [dstsOf_get, b]; simp [e])
  refine ⟨fun p s hs => (hget p s hs).2, fun p q s r hs hr e => ?_, fun i hi => ?_, fun p s hs j hj => ?_, fun p s hs hl q r hq hr => ?_, fun i o ho x hx => ?_, dsts, fun i o ho t ht j o' hj hd => ?_, fun i o j want ho hg => ?_⟩
  · obtain ⟨a1, _⟩ := hget p s hs
    obtain ⟨b1, _⟩ := hget q r hr
    obtain ⟨_, _, _, g1, _⟩ := orderOk_get h2 p _ a1
    obtain ⟨_, _, _, g2, _⟩ := orderOk_get h2 q _ b1
    rcases Nat.lt_trichotomy p q with hlt | rfl | hlt
    · exact absurd (by rw [a1, e]) (g2 p hlt)
    · rfl
    · exact absurd (by rw [b1, e]) (g1 q hlt)
  · have := coversB_get h3 i hi
    rw [Nat.zero_add] at this
    obtain ⟨p, hp⟩ := List.mem_iff_getElem?.1 this
    obtain ⟨s, a, b⟩ := hhas p i hp
    exact ⟨p, s, a, b⟩
  · obtain ⟨a1, a2, _⟩ := hget p s hs
    obtain ⟨o, g0, _, _, g1, _⟩ := orderOk_get h2 p _ a1
    rw [a2] at g0; cases g0
    rcases g1 j hj with hh | ⟨q, hq, hq'⟩
    · simp at hh
    · obtain ⟨r, b1, b2⟩ := hhas q j hq'
      exact ⟨q, r, hq, b1, b2⟩
  · obtain ⟨a1, a2, _⟩ := hget p s hs
    obtain ⟨b1, _⟩ := hget q r hr
    obtain ⟨o, g0, _, _, _, g1⟩ := orderOk_get h2 p _ a1
    rw [a2] at g0; cases g0
    exact (g1 hl).2 q _ hq b1
  · have := masksOk_get h1 i o ho
    rw [Nat.zero_add] at this
    rw [this] at hx
    exact bit_maskBy ms x hx
  · obtain ⟨g1, _⟩ := usesOk_get h5 i o ho
    have hdj : (dstsOf ops)[j]? = some (some t) := by rw [dstsOf_get, hj]; simp [hd]
    obtain ⟨q, hq⟩ := posOfT_mem hdj
    have := dstsOk_inj h4 j q hdj (posOfT_some hq)
    subst this
    rw [Nat.zero_add] at g1
    exact argsOk_get g1 t ht j hq
  · obtain ⟨_, g1⟩ := usesOk_get h5 i o ho
    rw [hg] at g1
    obtain ⟨a1, a2⟩ := bi_tf g1
    refine ⟨(memNat_iff _ _).1 a1, ?_⟩
    split at a2
    · rename_i o' ho'
      rw [nth_eq] at ho'
      split at a2
      · rename_i d hd; exact ⟨o', d, ho', hd⟩
      · cases a2
    · cases a2

/-- what must be done before an operation stands before it -/
theorem PlanF.before {ops : List Oper} {ms : List Nat} {σ : List Stp} (k : PlanF ops ms σ) : ∀ (p : Nat) (s : Stp), σ[p]? = some s → ∀ i, bit (orZero (nth ms s.i)) i = true → ∃ (q : Nat) (r : Stp), q < p ∧ σ[q]? = some r ∧ r.i = i := by
  intro p
  induction p using Nat.strongRecOn with
  | ind p ih =>
    intro s hs i hi
    obtain ⟨j, hj, h⟩ := k.mask s.i s.o (k.here p s hs).1 i hi
    obtain ⟨q, r, h1, h2, h3⟩ := k.after p s hs j hj
    rcases h with rfl | h
    · exact ⟨q, r, h1, h2, h3⟩
    · obtain ⟨q', r', g1, g2, g3⟩ := ih q h1 r h2 i (by rw [h3]; exact h)
      exact ⟨q', r', by omega, g2, g3⟩

theorem onsOf_mem {e : Edge} : ∀ {l : List Edge}, e ∈ l → Region.binds .any e = true → e.on ∈ onsOf l
  | [], h, _ => by simp at h
  | a :: r, h, hb => by
    simp only [onsOf]
    rcases List.mem_cons.1 h with rfl | h
    · rw [hb]; exact List.mem_cons_self
    · have := onsOf_mem h hb
      cases Region.binds .any a
      · exact this
      · exact List.mem_cons_of_mem _ this

theorem onsOf_edge {j : Nat} : ∀ {l : List Edge}, j ∈ onsOf l → ∃ e, e ∈ l ∧ Region.binds .any e = true ∧ e.on = j
  | [], h => by simp [onsOf] at h
  | a :: r, h => by
    simp only [onsOf] at h
    cases hb : Region.binds .any a with
    | true =>
      rw [hb] at h
      rcases List.mem_cons.1 h with rfl | h
      · exact ⟨a, List.mem_cons_self, hb, rfl⟩
      · obtain ⟨e, h1, h2, h3⟩ := onsOf_edge h; exact ⟨e, List.mem_cons_of_mem _ h1, h2, h3⟩
    | false =>
      rw [hb] at h
      obtain ⟨e, h1, h2, h3⟩ := onsOf_edge h; exact ⟨e, List.mem_cons_of_mem _ h1, h2, h3⟩
end Go.AM
namespace Go.AM

def Emb.cut (φ : Emb) (m : Ps) : Emb := fun b => if b.val < m.val then φ b else none

theorem Emb.cut_lt {φ : Emb} {m b : Ps} (h : b.val < m.val) : φ.cut m b = φ b := if_pos h
theorem Emb.cut_ge {φ : Emb} {m b : Ps} (h : m.val ≤ b.val) : φ.cut m b = none := if_neg (by omega)
theorem Emb.cut_some {φ : Emb} {m b : Ps} {x : Nat × Nat × Nat} (h : φ.cut m b = some x) : b.val < m.val ∧ φ b = some x := by
  unfold Emb.cut at h
  split at h
  · exact ⟨‹_›, h⟩
  · cases h
theorem Emb.cut_mono {φ : Emb} {m m' : Ps} (h : m.val ≤ m'.val) : (φ.cut m).le (φ.cut m') := fun b x hb => by
  obtain ⟨h1, h2⟩ := Emb.cut_some hb
  rw [Emb.cut_lt (by omega)]; exact h2
theorem Emb.le_cut {φ ψ : Emb} (h : φ.le ψ) (m : Ps) : (φ.cut m).le (ψ.cut m) := fun b x hb => by
  obtain ⟨h1, h2⟩ := Emb.cut_some hb
  rw [Emb.cut_lt h1]; exact h b x h2
theorem Emb.cut_upd {φ : Emb} {m b : Ps} (h : m.val ≤ b.val) (x : Nat × Nat × Nat) : (φ.upd b x).cut m = φ.cut m := by
  funext c
  unfold Emb.cut
  split
  · rw [Emb.upd_ne _ _ (fun e => by subst e; omega)]
  · rfl

/-- the world has grown, and nothing of what was there has changed -/
structure Grew (w w' : World) : Prop where
  same : Same w w'
  size : w.heap.size ≤ w'.heap.size
  old : ∀ r, r < w.heap.size → w'.heap[r]? = w.heap[r]?

theorem HR.grow {φ : Emb} {h : Heap} {m : Ps} {w w' : World} (k : HR φ h m w) (g : Grew w w') : HR φ h m w' where
  fresh := k.fresh
  blocks b blk hb := by
    obtain ⟨c, off, sz, h1, h2⟩ := k.blocks b blk hb
    exact ⟨c, off, sz, h1, h2.mono (Emb.le_refl _) (g.old c h2.there)⟩
  apart := k.apart

theorem Kept.grow {φ φ' : Emb} {h h' : Heap} {w w' w2 : World} (k : Kept φ h w φ' h' w') (g : Grew w' w2) : Kept φ h w φ' h' w2 where
  le := k.le
  os := g.same.os.trans k.os
  tape := g.same.tape.trans k.tape
  output := g.same.output.trans k.output
  size := Nat.le_trans k.size g.size
  block r hr hn := (g.old r (Nat.lt_of_lt_of_le hr k.size)).trans (k.block r hr hn)
  own := k.own
  known := k.known

def Ex (listed : Array Bool) (i : Nat) : Prop := listed.getD i false = true

theorem Ex.set {listed : Array Bool} {i j : Nat} (h : Ex listed j) : Ex (listed.setIfInBounds i true) j := getD_set_true h
theorem Ex.of_set {listed : Array Bool} {i j : Nat} (h : Ex (listed.setIfInBounds i true) j) : j = i ∨ Ex listed j := by
  by_cases e : i = j
  · exact .inl e.symm
  · refine .inr ?_
    unfold Ex at h
    rw [getD_set_ne false e] at h; exact h
theorem Ex.set_self {listed : Array Bool} {i : Nat} (h : i < listed.size) : Ex (listed.setIfInBounds i true) i := by
  unfold Ex; simp [h]

theorem tmps_put (a : Act) (dst : Option Nat) (cv : Value) (i : Nat) (hd : ∀ d, dst = some d → d < a.tmps.size) : (a.put dst cv).tmps.getD i undef = if dst = some i then cv else a.tmps.getD i undef := by
  cases dst with
  | none => simp [Act.put]
  | some d =>
    have := hd d rfl
    simp only [Act.put, Array.getD_eq_getD_getElem?, Array.getElem?_setIfInBounds]
    by_cases h : d = i
    · subst h; simp [this]
    · simp [h]

section
variable {T : Tab} {n : Nat} {ih : Ih} {lv : List Nat} {nt : Nat} {ops : List Oper} {t : Tmps}

theorem kind_quiet {mask : Nat} {o : Op} (hl : loud o = false) : kindOf mask o ≠ .snap := by
  unfold kindOf
  rw [hl]; simp only [bi_false]
  cases mayRead o <;> simp

/-- what a step makes that writes nothing -/
theorem quiet_abs {s : Stp} {x y : Pt} {v : AV} (k : StepOk T ih lv nt ops t s x y v) {mask : Nat} (hk : s.k = kindOf mask s.o.op) (hl : loud s.o.op = false) :
    y.d = x.d ∧ y.sn = x.sn ∧ ((y.h = x.h ∧ y.m = x.m) ∨ ∃ blk : AB, blk.isOwn = true ∧ y.h = setT (some blk) x.m x.h ∧ y.m = x.m.succ) := by
  have hsn : y.sn = x.sn := by
    rw [k.sn]
    have := kind_quiet (mask := mask) hl
    rw [← hk] at this
    cases hs : s.k with
    | snap => exact absurd hs this
    | plain => simp only [snapNo, hs]
    | check m => simp only [snapNo, hs]
  rcases k.run with ⟨j, want, _, _, _, h1, h2, h3⟩ | ⟨_, ⟨h1, h2, _⟩ | ⟨f, args, h1, _⟩ | ⟨q, h1, _⟩⟩
  · exact ⟨h1, hsn, .inl ⟨h2, h3⟩⟩
  · obtain ⟨ob, r1, _⟩ := quiet_reads hl h1
    refine ⟨h2, hsn, ?_⟩
    rcases (quiet_loc (h1 := x.h) hl r1 (fun _ _ => rfl)).out _ _ _ h1 with ⟨a, b, _⟩ | ⟨blk, a, b, c, _⟩
    · exact .inl ⟨a, b⟩
    · exact .inr ⟨blk, a, b, c⟩
  · have := quiet_only (T := T) (rd := cOpd lv x.ds) (vs := x.vs) (t := t) (h := x.h) (m := x.m) hl
    rw [h1] at this; exact this.elim
  · have := quiet_only (T := T) (rd := cOpd lv x.ds) (vs := x.vs) (t := t) (h := x.h) (m := x.m) hl
    rw [h1] at this; exact this.elim

theorem step_mono {s : Stp} {x y : Pt} {v : AV} (k : StepOk T ih lv nt ops t s x y v) {mask : Nat} (hk : s.k = kindOf mask s.o.op) : x.m.val ≤ y.m.val := by
  cases hl : loud s.o.op with
  | true => exact k.mono (by rw [hk]; unfold kindOf; rw [hl]; rfl)
  | false =>
    rcases (quiet_abs k hk hl).2.2 with ⟨_, h⟩ | ⟨_, _, _, h⟩
    · rw [h]; exact Nat.le_refl _
    · rw [h, Ps.val_succ]; omega
end

/-- a region, and the machine's way through it -/
structure Reg (P : Program) (T : Tab) (ih : Ih) (lv : List Nat) (nt : Nat) (ops : Array Oper) (t : Tmps) (ms : List Nat) (σ : List Stp) (pts : Nat → Pt) (val : Nat → AV) (φ0 : Emb) (a0 : Act) (w0 : World) : Prop where
  plan : PlanF ops.toList ms σ
  steps : ∀ (p : Nat) (s : Stp), σ[p]? = some s → StepOk T ih lv nt ops.toList t s (pts p) (pts (p + 1)) (val p)
  start : St φ0 nt lv (pts 0).ds (pts 0).vs t (pts 0).d (pts 0).h (pts 0).m a0 w0
  nosn : (pts 0).sn = []
  hT : TOk T P
  hih : IhOk P ih

section
variable {P : Program} {T : Tab} {ih : Ih} {lv : List Nat} {nt : Nat} {ops : Array Oper} {t : Tmps} {ms : List Nat} {σ : List Stp} {pts : Nat → Pt} {val : Nat → AV} {φ0 : Emb} {a0 : Act} {w0 : World}

theorem Reg.kind (R : Reg P T ih lv nt ops t ms σ pts val φ0 a0 w0) {p : Nat} {s : Stp} (hp : σ[p]? = some s) : s.k = kindOf (orZero (nth ms s.i)) s.o.op := (R.plan.here p s hp).2

theorem Reg.op (R : Reg P T ih lv nt ops t ms σ pts val φ0 a0 w0) {p : Nat} {s : Stp} (hp : σ[p]? = some s) : ops[s.i]? = some s.o := by
  have := (R.plan.here p s hp).1
  simpa using this

theorem at_lt {p : Nat} {s : Stp} (hp : σ[p]? = some s) : p < σ.length := (List.getElem?_eq_some_iff.1 hp).1
theorem at_some {p : Nat} (hp : p < σ.length) : ∃ s, σ[p]? = some s := ⟨_, List.getElem?_eq_getElem hp⟩

theorem Reg.mono (R : Reg P T ih lv nt ops t ms σ pts val φ0 a0 w0) {p : Nat} : ∀ {q : Nat}, p ≤ q → q ≤ σ.length → (pts p).m.val ≤ (pts q).m.val
  | 0, h, _ => by have : p = 0 := by omega
                  subst this; exact Nat.le_refl _
  | q + 1, h, hq => by
    by_cases e : p = q + 1
    · subst e; exact Nat.le_refl _
    · have := Reg.mono R (p := p) (q := q) (by omega) (by omega)
      obtain ⟨s, hs⟩ := at_some (σ := σ) (p := q) (by omega)
      exact Nat.le_trans this (step_mono (R.steps q s hs) (R.kind hs))

/-- names of blocks that were made at two places -/
theorem Reg.ne (R : Reg P T ih lv nt ops t ms σ pts val φ0 a0 w0) {p q : Nat} (hp : (pts (p + 1)).m = (pts p).m.succ) (h : p < q) (hq : q ≤ σ.length) : (pts p).m.val < (pts q).m.val := by
  have := R.mono (p := p + 1) (q := q) (by omega) hq
  rw [hp, Ps.val_succ] at this; omega

/-- reading a temporary -/
theorem Reg.rd_succ (R : Reg P T ih lv nt ops t ms σ pts val φ0 a0 w0) {p : Nat} {s : Stp} (hp : σ[p]? = some s) (i : Nat) :
    (cOpd lv (pts (p + 1)).ds (.tmp i)).run (pts (p + 1)).vs t = if s.o.dst = some i then some (val p) else (cOpd lv (pts p).ds (.tmp i)).run (pts p).vs t := by
  have k := R.steps p s hp
  rw [k.ds, k.vs]
  simp only [cOpd, posOfT_cons]
  by_cases h : s.o.dst = some i
  · rw [if_pos h, if_pos h]; rfl
  · rw [if_neg h, if_neg h]
    cases hq : posOfT i (pts p).ds with
    | none => simp only [Option.map_none]; cases findIx i lv <;> rfl
    | some j => simp [nth_eq]

theorem Reg.rd_found (R : Reg P T ih lv nt ops t ms σ pts val φ0 a0 w0) {q : Nat} {r : Stp} (hq : σ[q]? = some r) {i : Nat} (hd : r.o.dst = some i) :
    ∀ {p : Nat}, q < p → p ≤ σ.length → (cOpd lv (pts p).ds (.tmp i)).run (pts p).vs t = some (val q)
  | 0, h, _ => by omega
  | p + 1, h, hl => by
    obtain ⟨s, hs⟩ := at_some (σ := σ) (p := p) (by omega)
    rw [R.rd_succ hs]
    by_cases e : q = p
    · subst e; rw [hq] at hs; cases hs; rw [if_pos hd]
    · rw [if_neg, Reg.rd_found R hq hd (by omega) (by omega)]
      intro hd'
      have := R.plan.dst _ _ _ _ i (R.plan.here q r hq).1 (R.plan.here p s hs).1 hd hd'
      exact e (R.plan.inj q p r s hq hs this)

theorem Reg.rd_none (R : Reg P T ih lv nt ops t ms σ pts val φ0 a0 w0) {i : Nat} :
    ∀ {p : Nat}, (∀ (q : Nat) (s : Stp), q < p → σ[q]? = some s → s.o.dst ≠ some i) → p ≤ σ.length → (cOpd lv (pts p).ds (.tmp i)).run (pts p).vs t = (cOpd lv (pts 0).ds (.tmp i)).run (pts 0).vs t
  | 0, _, _ => rfl
  | p + 1, hn, hl => by
    obtain ⟨s, hs⟩ := at_some (σ := σ) (p := p) (by omega)
    rw [R.rd_succ hs, if_neg (hn p s (by omega) hs), Reg.rd_none R (fun q s hq => hn q s (by omega)) (by omega)]

/-- a block that an operation made which was done before its turn -/
structure Priv (pts : Nat → Pt) (w0 : World) (c p : Nat) (φ : Emb) (w : World) (blk : AB) : Prop where
  own : blk.isOwn = true
  h : (pts (p + 1)).h = setT (some blk) (pts p).m (pts p).h
  m : (pts (p + 1)).m = (pts p).m.succ
  lies : ∃ k off sz, φ (pts p).m = some (k, off, sz) ∧ BR (φ.cut (pts (p + 1)).m) blk k off sz w ∧ w0.heap.size ≤ k ∧ ¬ Known (φ.cut (pts c).m) (pts c).h k ∧
    ∀ b, b ≠ (pts p).m → (pts c).m.val ≤ b.val → ∀ off' sz', φ b ≠ some (k, off', sz')

structure Inv (R : Reg P T ih lv nt ops t ms σ pts val φ0 a0 w0) (c : Nat) (φ : Emb) (listed : Array Bool) (a : Act) (w : World) : Prop where
  lsz : listed.size = ops.size
  cle : c ≤ σ.length
  pre : ∀ (p : Nat) (s : Stp), p < c → σ[p]? = some s → Ex listed s.i
  clo : ∀ i, Ex listed i → ∀ x, bit (orZero (nth ms i)) x = true → Ex listed x
  hr : HR (φ.cut (pts c).m) (pts c).h (pts c).m w
  kept : Kept φ0 (pts 0).h w0 (φ.cut (pts c).m) (pts c).h w
  nx : Nx φ0 (pts 0).m (φ.cut (pts c).m) (pts c).m
  vals : ∀ (p : Nat) (s : Stp) (d : Nat), σ[p]? = some s → Ex listed s.i → s.o.dst = some d → VR (φ.cut (pts (p + 1)).m) (val p) (a.tmps.getD d undef)
  old : ∀ i, (∀ (j : Nat) (o : Oper), ops[j]? = some o → o.dst = some i → ¬ Ex listed j) → a.tmps.getD i undef = a0.tmps.getD i undef
  early : ∀ (p : Nat) (s : Stp), c ≤ p → σ[p]? = some s → Ex listed s.i → loud s.o.op = false ∧
    (((pts (p + 1)).h = (pts p).h ∧ (pts (p + 1)).m = (pts p).m) ∨ ∃ blk, Priv pts w0 c p φ w blk)
  names : ∀ b x, φ b = some x → b.val < (pts c).m.val ∨ ∃ (p : Nat) (s : Stp), c ≤ p ∧ σ[p]? = some s ∧ Ex listed s.i ∧ (pts (p + 1)).m = (pts p).m.succ ∧ b = (pts p).m
  de : DRs (φ.cut (pts c).m) (pts c).d a.defers
  sz : nt ≤ a.tmps.size

/-- what was done before its turn is taken in its turn -/
theorem Inv.absorb {R : Reg P T ih lv nt ops t ms σ pts val φ0 a0 w0} {c : Nat} {φ : Emb} {listed : Array Bool} {a : Act} {w : World} (I : Inv R c φ listed a w) {s : Stp} (hs : σ[c]? = some s) (he : Ex listed s.i) :
    Inv R (c + 1) φ listed a w := by
  have hlt := at_lt hs
  obtain ⟨hl, hc⟩ := I.early c s (Nat.le_refl _) hs he
  obtain ⟨hd, _, _⟩ := quiet_abs (R.steps c s hs) (R.kind hs) hl
  have hpre : ∀ (p : Nat) (s' : Stp), p < c + 1 → σ[p]? = some s' → Ex listed s'.i := fun p s' hp hs' => by
    by_cases e : p = c
    · subst e; rw [hs] at hs'; cases hs'; exact he
    · exact I.pre p s' (by omega) hs'
  rcases hc with ⟨hh, hm⟩ | ⟨blk, pv⟩
  · refine ⟨I.lsz, by omega, hpre, I.clo, ?_, ?_, ?_, I.vals, I.old, fun p s' hp hs' he' => ?_, fun b x hb => ?_, ?_, I.sz⟩
    · rw [hh, hm]; exact I.hr
    · rw [hh, hm]; exact I.kept
    · rw [hm]; exact I.nx
    · obtain ⟨g1, g2⟩ := I.early p s' (by omega) hs' he'
      refine ⟨g1, ?_⟩
      rcases g2 with g2 | ⟨blk, pv⟩
      · exact .inl g2
      · refine .inr ⟨blk, pv.own, pv.h, pv.m, ?_⟩
        obtain ⟨k, off, sz, q1, q2, q3, q4, q5⟩ := pv.lies
        exact ⟨k, off, sz, q1, q2, q3, by rw [hh, hm]; exact q4, by rw [hm]; exact q5⟩
    · rw [hm]
      rcases I.names b x hb with h1 | ⟨p, s', h1, h2, h3, h4, h5⟩
      · exact .inl h1
      · by_cases e : p = c
        · subst e
          rw [hm] at h4
          have := congrArg Ps.val h4
          rw [Ps.val_succ] at this; omega
        · exact .inr ⟨p, s', by omega, h2, h3, h4, h5⟩
    · rw [hm, hd]; exact I.de
  · obtain ⟨k, off, sz, q1, q2, q3, q4, q5⟩ := pv.lies
    have hmlt : (pts c).m.val < (pts (c + 1)).m.val := by rw [pv.m, Ps.val_succ]; omega
    have hcm := Emb.cut_mono (φ := φ) (Nat.le_of_lt hmlt)
    have hat : φ.cut (pts (c + 1)).m (pts c).m = some (k, off, sz) := by rw [Emb.cut_lt hmlt]; exact q1
    have hget : ∀ b b', getP (pts (c + 1)).h b = some b' → (b = (pts c).m ∧ b' = blk) ∨ (b ≠ (pts c).m ∧ getP (pts c).h b = some b') := fun b b' hb' => by
      rw [pv.h, get_setT] at hb'
      split at hb'
      · rename_i e; cases hb'; exact .inl ⟨e, rfl⟩
      · rename_i e; exact .inr ⟨e, hb'⟩
    -- a block that was known lies where it lay
    have hsame : ∀ b b' x, getP (pts c).h b = some b' → φ.cut (pts (c + 1)).m b = some x → φ.cut (pts c).m b = some x := fun b b' x hb hx => by
      obtain ⟨c1, o1, s1, h1, _⟩ := I.hr.blocks b b' hb
      have := hcm _ _ h1
      rw [hx] at this; cases this; exact h1
    refine ⟨I.lsz, by omega, hpre, I.clo, ⟨?_, ?_, ?_⟩, ⟨?_, I.kept.os, I.kept.tape, I.kept.output, I.kept.size, I.kept.block, ?_, ?_⟩, ⟨?_, ?_⟩, I.vals, I.old, fun p s' hp hs' he' => ?_, fun b x hb => ?_, ?_, I.sz⟩
    · exact fun b hb => Emb.cut_ge hb
    · intro b b' hb
      rcases hget b b' hb with ⟨rfl, rfl⟩ | ⟨hne, hb'⟩
      · exact ⟨k, off, sz, hat, q2⟩
      · obtain ⟨c1, o1, s1, h1, h2⟩ := I.hr.blocks b b' hb'
        exact ⟨c1, o1, s1, hcm _ _ h1, h2.mono hcm rfl⟩
    · intro b1 b2 b3 b4 c1 off1 sz1 off2 sz2 h1 h2 h3 h4 h5 h6
      rcases hget b1 b2 h1 with ⟨rfl, rfl⟩ | ⟨hne, h1'⟩
      · rw [hat] at h5; cases h5
        rcases hget b3 b4 h3 with ⟨rfl, rfl⟩ | ⟨hne', h3'⟩
        · exact absurd rfl h4
        · exact absurd ⟨b3, b4, off2, sz2, h3', hsame _ _ _ h3' h6⟩ q4
      · rcases hget b3 b4 h3 with ⟨rfl, rfl⟩ | ⟨hne', h3'⟩
        · rw [hat] at h6; cases h6
          exact absurd ⟨b1, b2, off1, sz1, h1', hsame _ _ _ h1' h5⟩ q4
        · exact I.hr.apart b1 b2 b3 b4 c1 off1 sz1 off2 sz2 h1' h2 h3' h4 (hsame _ _ _ h1' h5) (hsame _ _ _ h3' h6)
    · exact Emb.le_trans I.kept.le hcm
    · rintro r hr ⟨b, b', o1, s1, h1, h2, h3⟩
      rcases hget b b' h1 with ⟨rfl, rfl⟩ | ⟨hne, h1'⟩
      · rw [hat] at h3; cases h3; omega
      · exact I.kept.own r hr ⟨b, b', o1, s1, h1', h2, hsame _ _ _ h1' h3⟩
    · rintro r hr ⟨b, b', o1, s1, h1, h3⟩
      rcases hget b b' h1 with ⟨rfl, rfl⟩ | ⟨hne, h1'⟩
      · rw [hat] at h3; cases h3; omega
      · exact I.kept.known r hr ⟨b, b', o1, s1, h1', hsame _ _ _ h1' h3⟩
    · exact Nat.le_trans I.nx.le (Nat.le_of_lt hmlt)
    · intro b hb
      have := I.nx.le
      rw [← I.nx.nm b hb, Emb.cut_lt (by omega), Emb.cut_lt (by omega)]
    · obtain ⟨g1, g2⟩ := I.early p s' (by omega) hs' he'
      refine ⟨g1, ?_⟩
      rcases g2 with g2 | ⟨blk', pv'⟩
      · exact .inl g2
      · refine .inr ⟨blk', pv'.own, pv'.h, pv'.m, ?_⟩
        obtain ⟨k', off', sz', p1, p2, p3, p4, p5⟩ := pv'.lies
        have hpm := R.mono (p := c + 1) (q := p) hp (Nat.le_of_lt (at_lt hs'))
        refine ⟨k', off', sz', p1, p2, p3, ?_, fun b hb hle => p5 b hb (by omega)⟩
        rintro ⟨b, b', o1, s1, h1, h3⟩
        rcases hget b b' h1 with ⟨rfl, rfl⟩ | ⟨hne, h1'⟩
        · obtain ⟨_, h3⟩ := Emb.cut_some h3
          exact p5 (pts c).m (fun e => by rw [e] at hmlt; omega) (Nat.le_refl _) _ _ h3
        · exact p4 ⟨b, b', o1, s1, h1', hsame _ _ _ h1' h3⟩
    · rcases I.names b x hb with h1 | ⟨p, s', h1, h2, h3, h4, h5⟩
      · exact .inl (by omega)
      · by_cases e : p = c
        · subst e; subst h5; exact .inl hmlt
        · exact .inr ⟨p, s', by omega, h2, h3, h4, h5⟩
    · rw [hd]; exact I.de.mono hcm
end
end Go.AM
namespace Go.AM
section
variable {P : Program} {T : Tab} {ih : Ih} {lv : List Nat} {nt : Nat} {ops : Array Oper} {t : Tmps} {ms : List Nat} {σ : List Stp} {pts : Nat → Pt} {val : Nat → AV} {φ0 : Emb} {a0 : Act} {w0 : World}

theorem Ex.lt {listed : Array Bool} {i : Nat} (h : Ex listed i) : i < listed.size := by
  unfold Ex at h
  rcases Nat.lt_or_ge i listed.size with h' | h'
  · exact h'
  · simp [Array.getElem?_eq_none h'] at h

theorem Inv.i_lt {R : Reg P T ih lv nt ops t ms σ pts val φ0 a0 w0} {c : Nat} {φ : Emb} {listed : Array Bool} {a : Act} {w : World} (I : Inv R c φ listed a w) {p : Nat} {s : Stp} (hp : σ[p]? = some s) : s.i < listed.size := by
  rw [I.lsz]; exact (Array.getElem?_eq_some_iff.1 (R.op hp)).1

/-- what is done stays closed -/
theorem Inv.clo' {R : Reg P T ih lv nt ops t ms σ pts val φ0 a0 w0} {c : Nat} {φ : Emb} {listed : Array Bool} {a : Act} {w : World} (I : Inv R c φ listed a w) {p : Nat} {s : Stp} (hp : σ[p]? = some s)
    (hr : ∀ j, j ∈ onsOf s.o.after.toList → Ex listed j) : (∀ x, bit (orZero (nth ms s.i)) x = true → Ex listed x) ∧ ∀ i, Ex (listed.setIfInBounds s.i true) i → ∀ x, bit (orZero (nth ms i)) x = true → Ex (listed.setIfInBounds s.i true) x := by
  have h1 : ∀ x, bit (orZero (nth ms s.i)) x = true → Ex listed x := fun x hx => by
    obtain ⟨j, hj, h⟩ := R.plan.mask s.i s.o (R.plan.here p s hp).1 x hx
    rcases h with rfl | h
    · exact hr _ hj
    · exact I.clo j (hr j hj) x h
  refine ⟨h1, fun i hi x hx => ?_⟩
  rcases hi.of_set with rfl | hi
  · exact (h1 x hx).set
  · exact (I.clo i hi x hx).set

/-- the place of what is not done is not behind us -/
theorem Inv.ge {R : Reg P T ih lv nt ops t ms σ pts val φ0 a0 w0} {c : Nat} {φ : Emb} {listed : Array Bool} {a : Act} {w : World} (I : Inv R c φ listed a w) {p : Nat} {s : Stp} (hp : σ[p]? = some s) (hn : ¬ Ex listed s.i) : c ≤ p :=
  Nat.le_of_not_lt fun h => hn (I.pre p s h hp)

/-- an operation that writes nothing has been done -/
theorem Inv.place {R : Reg P T ih lv nt ops t ms σ pts val φ0 a0 w0} {c : Nat} {φ : Emb} {listed : Array Bool} {a : Act} {w : World} (I : Inv R c φ listed a w) {p : Nat} {s : Stp} (hp : σ[p]? = some s) (hn : ¬ Ex listed s.i)
    (hl : loud s.o.op = false) (hr : ∀ j, j ∈ onsOf s.o.after.toList → Ex listed j) {φ' : Emb} {w' : World} {cv : Value} (g : Grew w w') (hle : φ.le φ') (hv : VR (φ'.cut (pts (p + 1)).m) (val p) cv)
    (hc : (φ' = φ ∧ (pts (p + 1)).h = (pts p).h ∧ (pts (p + 1)).m = (pts p).m) ∨
      ∃ (blk : AB) (k off sz : Nat), φ' = φ.upd (pts p).m (k, off, sz) ∧ blk.isOwn = true ∧ (pts (p + 1)).h = setT (some blk) (pts p).m (pts p).h ∧ (pts (p + 1)).m = (pts p).m.succ ∧
        BR (φ'.cut (pts (p + 1)).m) blk k off sz w' ∧ w.heap.size ≤ k) :
    Inv R c φ' (listed.setIfInBounds s.i true) (a.put s.o.dst cv) w' := by
  have hge := I.ge hp hn
  have hplt := at_lt hp
  have hcp := R.mono hge (Nat.le_of_lt hplt)
  have hdst : ∀ d, s.o.dst = some d → d < a.tmps.size := fun d hd => Nat.lt_of_lt_of_le (okDst_lt (R.steps p s hp).dst d hd) I.sz
  have hcut : φ'.cut (pts c).m = φ.cut (pts c).m := by
    rcases hc with ⟨rfl, _⟩ | ⟨blk, k, off, sz, rfl, _⟩
    · rfl
    · exact Emb.cut_upd hcp _
  have hcuts : ∀ m, (φ.cut m).le (φ'.cut m) := Emb.le_cut hle
  have hpos : ∀ q r, σ[q]? = some r → Ex (listed.setIfInBounds s.i true) r.i → (q = p ∧ r = s) ∨ (q ≠ p ∧ Ex listed r.i) := fun q r hq he => by
    rcases he.of_set with e | he
    · have := R.plan.inj q p r s hq hp e
      subst this; rw [hp] at hq; cases hq; exact .inl ⟨rfl, rfl⟩
    · refine .inr ⟨fun e => ?_, he⟩
      subst e; rw [hp] at hq; cases hq; exact hn he
  refine ⟨by rw [Array.size_setIfInBounds]; exact I.lsz, I.cle, fun q r hq hr' => (I.pre q r hq hr').set, (I.clo' hp hr).2, ?_, ?_, ?_, fun q r d hq he hd => ?_, fun i hi => ?_, fun q r hcq hq he => ?_, fun b x hb => ?_, ?_, ?_⟩
  · rw [hcut]; exact I.hr.grow g
  · rw [hcut]; exact I.kept.grow g
  · rw [hcut]; exact I.nx
  · rw [tmps_put _ _ _ _ hdst]
    rcases hpos q r hq he with ⟨rfl, rfl⟩ | ⟨hne, he'⟩
    · rw [if_pos hd]; exact hv
    · rw [if_neg]
      · exact VR.mono (hcuts _) _ _ (I.vals q r d hq he' hd)
      · intro hd'
        have := R.plan.dst _ _ _ _ d (R.plan.here q r hq).1 (R.plan.here p s hp).1 hd hd'
        exact hne (R.plan.inj q p r s hq hp this)
  · rw [tmps_put _ _ _ _ hdst, if_neg (fun e => hi _ _ (R.op hp) e (Ex.set_self (I.i_lt hp)))]; exact I.old i fun j o hj ho he => hi j o hj ho he.set
  · rcases hpos q r hq he with ⟨rfl, rfl⟩ | ⟨hne, he'⟩
    · refine ⟨hl, ?_⟩
      rcases hc with ⟨_, h1, h2⟩ | ⟨blk, k, off, sz, hφ, h1, h2, h3, h4, h5⟩
      · exact .inl ⟨h1, h2⟩
      · refine .inr ⟨blk, h1, h2, h3, k, off, sz, by rw [hφ, Emb.upd_same], h4, Nat.le_trans I.kept.size h5, ?_, fun b hb hbc off' sz' e => ?_⟩
        · rw [hcut]
          rintro ⟨b, blk', o1, s1, g1, g2⟩
          obtain ⟨c1, o2, s2, g3, g4⟩ := I.hr.blocks b blk' g1
          rw [g2] at g3; cases g3
          have := g4.there; omega
        · rw [hφ, Emb.upd_ne _ _ hb] at e
          rcases I.names b _ e with g1 | ⟨q', r', g1, g2, g3, g4, rfl⟩
          · omega
          · obtain ⟨_, g5⟩ := I.early q' r' g1 g2 g3
            rcases g5 with ⟨_, g5⟩ | ⟨blk', pv⟩
            · rw [g4] at g5
              have := congrArg Ps.val g5
              rw [Ps.val_succ] at this; omega
            · obtain ⟨k', off', sz', q1, q2, _⟩ := pv.lies
              rw [e] at q1; cases q1
              have := q2.there; omega
    · obtain ⟨g1, g2⟩ := I.early q r hcq hq he'
      refine ⟨g1, ?_⟩
      rcases g2 with g2 | ⟨blk, pv⟩
      · exact .inl g2
      · refine .inr ⟨blk, pv.own, pv.h, pv.m, ?_⟩
        obtain ⟨k, off, sz, q1, q2, q3, q4, q5⟩ := pv.lies
        refine ⟨k, off, sz, hle _ _ q1, q2.mono (hcuts _) (g.old k q2.there), q3, by rw [hcut]; exact q4, fun b hb hbc off' sz' e => ?_⟩
        rcases hc with ⟨rfl, _⟩ | ⟨blk', k', off2, sz2, hφ, h1, h2, h3, h4, h5⟩
        · exact q5 b hb hbc _ _ e
        · by_cases eb : b = (pts p).m
          · rw [hφ, eb, Emb.upd_same] at e; cases e
            have := q2.there; omega
          · rw [hφ, Emb.upd_ne _ _ eb] at e
            exact q5 b hb hbc _ _ e
  · have hold : φ b = some x → b.val < (pts c).m.val ∨ ∃ (q : Nat) (r : Stp), c ≤ q ∧ σ[q]? = some r ∧ Ex (listed.setIfInBounds s.i true) r.i ∧ (pts (q + 1)).m = (pts q).m.succ ∧ b = (pts q).m := fun hb => by
      rcases I.names b x hb with g1 | ⟨q, r, g1, g2, g3, g4, g5⟩
      · exact .inl g1
      · exact .inr ⟨q, r, g1, g2, g3.set, g4, g5⟩
    rcases hc with ⟨rfl, _⟩ | ⟨blk', k', off2, sz2, hφ, h1, h2, h3, h4, h5⟩
    · exact hold hb
    · by_cases eb : b = (pts p).m
      · exact .inr ⟨p, s, hge, hp, Ex.set_self (I.i_lt hp), h3, eb⟩
      · rw [hφ, Emb.upd_ne _ _ eb] at hb; exact hold hb
  · rw [put_defers, hcut]; exact I.de
  · rw [put_size]; exact I.sz

/-- an operation that may write has been done in its turn -/
theorem Inv.advance {R : Reg P T ih lv nt ops t ms σ pts val φ0 a0 w0} {c : Nat} {φ : Emb} {listed : Array Bool} {a : Act} {w : World} (I : Inv R c φ listed a w) {s : Stp} (hs : σ[c]? = some s) (hn : ¬ Ex listed s.i)
    (hr : ∀ j, j ∈ onsOf s.o.after.toList → Ex listed j) {φ1 : Emb} {a1 : Act} {w' : World} {cv : Value} (hv : VR φ1 (val c) cv) (hh : HR φ1 (pts (c + 1)).h (pts (c + 1)).m w') (hk : Kept (φ.cut (pts c).m) (pts c).h w φ1 (pts (c + 1)).h w')
    (hx : Nx (φ.cut (pts c).m) (pts c).m φ1 (pts (c + 1)).m) (ht : a1.tmps = a.tmps) (hde : DRs φ1 (pts (c + 1)).d a1.defers) :
    ∃ φ', Inv R (c + 1) φ' (listed.setIfInBounds s.i true) (a1.put s.o.dst cv) w' := by
  have hclt := at_lt hs
  have hdst : ∀ d, s.o.dst = some d → d < a1.tmps.size := fun d hd => by rw [ht]; exact Nat.lt_of_lt_of_le (okDst_lt (R.steps c s hs).dst d hd) I.sz
  have hpos : ∀ q r, σ[q]? = some r → Ex (listed.setIfInBounds s.i true) r.i → (q = c ∧ r = s) ∨ (q ≠ c ∧ Ex listed r.i) := fun q r hq he => by
    rcases he.of_set with e | he
    · have := R.plan.inj q c r s hq hs e
      subst this; rw [hs] at hq; cases hq; exact .inl ⟨rfl, rfl⟩
    · refine .inr ⟨fun e => ?_, he⟩
      subst e; rw [hs] at hq; cases hq; exact hn he
  have hnames : ∀ b x, φ b = some x → (pts c).m.val ≤ b.val → ∃ (p : Nat) (r : Stp), c + 1 ≤ p ∧ σ[p]? = some r ∧ Ex listed r.i ∧ (pts (p + 1)).m = (pts p).m.succ ∧ b = (pts p).m := fun b x hb hc => by
    rcases I.names b x hb with h1 | ⟨p, r, h1, h2, h3, h4, h5⟩
    · omega
    · by_cases e : p = c
      · subst e; rw [hs] at h2; cases h2; exact absurd h3 hn
      · exact ⟨p, r, by omega, h2, h3, h4, h5⟩
  -- early names are not reached yet
  have hfar : ∀ b x, φ b = some x → (pts c).m.val ≤ b.val → (pts (c + 1)).m.val ≤ b.val := fun b x hb hc => by
    obtain ⟨p, r, h1, h2, h3, h4, rfl⟩ := hnames b x hb hc
    exact R.mono h1 (Nat.le_of_lt (at_lt h2))
  let φ' : Emb := fun b => if b.val < (pts (c + 1)).m.val then φ1 b else φ b
  have hlt' : ∀ b : Ps, b.val < (pts (c + 1)).m.val → φ' b = φ1 b := fun b hb => if_pos hb
  have hge' : ∀ b : Ps, (pts (c + 1)).m.val ≤ b.val → φ' b = φ b := fun b hb => if_neg (by omega)
  have hle : φ.le φ' := fun b x hb => by
    rcases Nat.lt_or_ge b.val (pts c).m.val with h1 | h1
    · have := hx.le
      rw [hlt' b (by omega), hx.nm b h1, Emb.cut_lt h1]; exact hb
    · rw [hge' b (hfar b x hb h1)]; exact hb
  have hcut : φ'.cut (pts (c + 1)).m = φ1 := by
    funext b
    unfold Emb.cut
    split
    · rename_i hb; exact hlt' b hb
    · rename_i hb; exact (hh.fresh b (by omega)).symm
  have hcuts : ∀ m, (φ.cut m).le (φ'.cut m) := Emb.le_cut hle
  refine ⟨φ', by rw [Array.size_setIfInBounds]; exact I.lsz, by omega, fun q r hq hr' => ?_, (I.clo' hs hr).2, by rw [hcut]; exact hh, by rw [hcut]; exact I.kept.trans hk, by rw [hcut]; exact I.nx.trans hx, fun q r d hq he hd => ?_, fun i hi => ?_, fun q r hcq hq he => ?_, fun b x hb => ?_, ?_, ?_⟩
  · by_cases e : q = c
    · subst e; rw [hs] at hr'; cases hr'; exact Ex.set_self (I.i_lt hs)
    · exact (I.pre q r (by omega) hr').set
  · rw [tmps_put _ _ _ _ hdst]
    rcases hpos q r hq he with ⟨rfl, rfl⟩ | ⟨hne, he'⟩
    · rw [if_pos hd, hcut]; exact hv
    · rw [if_neg, ht]
      · exact VR.mono (hcuts _) _ _ (I.vals q r d hq he' hd)
      · intro hd'
        have := R.plan.dst _ _ _ _ d (R.plan.here q r hq).1 (R.plan.here c s hs).1 hd hd'
        exact hne (R.plan.inj q c r s hq hs this)
  · rw [tmps_put _ _ _ _ hdst, if_neg (fun e => hi _ _ (R.op hs) e (Ex.set_self (I.i_lt hs))), ht]; exact I.old i fun j o hj ho he => hi j o hj ho he.set
  · rcases hpos q r hq he with ⟨rfl, rfl⟩ | ⟨hne, he'⟩
    · omega
    · obtain ⟨g1, g2⟩ := I.early q r (by omega) hq he'
      refine ⟨g1, ?_⟩
      rcases g2 with g2 | ⟨blk, pv⟩
      · exact .inl g2
      · refine .inr ⟨blk, pv.own, pv.h, pv.m, ?_⟩
        obtain ⟨k, off, sz, q1, q2, q3, q4, q5⟩ := pv.lies
        have hqm := R.mono (p := c + 1) (q := q) hcq (Nat.le_of_lt (at_lt hq))
        have hno : ¬ Owned (φ.cut (pts c).m) (pts c).h k := fun ⟨b, b', o1, s1, g1, _, g2⟩ => q4 ⟨b, b', o1, s1, g1, g2⟩
        refine ⟨k, off, sz, hle _ _ q1, q2.mono (hcuts _) (hk.block k q2.there hno), q3, ?_, fun b hb hbc off' sz' e => ?_⟩
        · rw [hcut]
          intro hkn
          exact q4 (hk.known k q2.there hkn)
        · rw [hge' b hbc] at e
          have := hx.le
          exact q5 b hb (by omega) _ _ e
  · rcases Nat.lt_or_ge b.val (pts (c + 1)).m.val with h1 | h1
    · exact .inl h1
    · rw [hge' b h1] at hb
      have := hx.le
      obtain ⟨p, r, h2, h3, h4, h5, h6⟩ := hnames b x hb (by omega)
      exact .inr ⟨p, r, h2, h3, h4.set, h5, h6⟩
  · rw [put_defers, hcut]; exact hde
  · rw [put_size, ht]; exact I.sz
end
end Go.AM
namespace Go.AM

theorem again_val {c : OpC} {T : Tab} {vs : List AV} {t : Tmps} {v : AV} {h : Heap} {m : Ps} (e : again c T vs t v h m = true) : ∃ hh mm, c.run T vs t h m = .val v hh mm := by
  unfold again at e
  split at e
  · rename_i w hh mm hr
    rw [sameAV_eq e]; exact ⟨hh, mm, hr⟩
  · cases e

theorem reads_may {rd : Operand → Rd} {op : Op} {vs : List AV} {t : Tmps} {b : Ps} (hb : (cReads rd op).run vs t = some (some b)) : mayRead op = true := by
  cases op <;> first | rfl | (cases hb; done)

theorem reads_same {T : Tab} {h : Heap} {m : Ps} {v : AV} {h' : Heap} {m' : Ps} {rd : Operand → Rd} {vs : List AV} {t : Tmps}
    {op : Op} (hl : loud op = false) {b : Ps} (hb : (cReads rd op).run vs t = some (some b)) (e : (cOp rd op).run T vs t h m = .val v h' m') : h' = h ∧ m' = m := by
  cases op <;> try (first | (cases hb; done) | (cases hl; done))
  case load t' a =>
    obtain ⟨z, hz, e⟩ := opt_val e
    unfold loadOp at e
    repeat' (first | (cases e; done) | (cases e; exact ⟨rfl, rfl⟩) | (rw [bi_eq] at e) | split at e)
  case convert s d x =>
    obtain ⟨z, hz, e⟩ := opt_val e
    simp only [cReads, hz] at hb
    cases z with
    | sl b o len cap e' op =>
      unfold convertOp at e
      simp only [forceNat_eq] at e
      repeat' (first | (cases e; done) | (cases e; exact ⟨rfl, rfl⟩) | (rw [bi_eq] at e) | split at e)
    | _ => cases hb
  case lookup t' x i ok =>
    obtain ⟨z, hz, e⟩ := opt_val e
    obtain ⟨y, hy, e⟩ := opt_val e
    unfold lookupOp at e
    repeat' (first | (cases e; done) | (cases e; exact ⟨rfl, rfl⟩) | (rw [bi_eq] at e) | split at e)
  case call c =>
    simp only [cOp, cCall] at e
    rcases quiet_call hl with ec | ec | ec | ec <;> simp only [ec, cBuiltin] at e <;> obtain ⟨as, has, e⟩ := opt_val e
    · unfold lenOp at e
      simp only [mkInt_eq] at e
      repeat' (first | (cases e; done) | (cases e; exact ⟨rfl, rfl⟩) | (rw [bi_eq] at e) | split at e)
    · unfold capOp at e
      repeat' (first | (cases e; done) | (cases e; exact ⟨rfl, rfl⟩) | (rw [bi_eq] at e) | split at e)
    all_goals
      unfold mnmx at e
      simp only [mkInt_eq] at e
      repeat' (first | (cases e; done) | (cases e; exact ⟨rfl, rfl⟩) | (rw [bi_eq] at e) | split at e)

theorem guard_read {φ : Emb} {rd : Operand → Rd} {vs : List AV} {t : Tmps} {tmps : Array Value} {ops : Array Oper} {j : Nat} {want b : Bool} {oj : Oper} {d : Nat} (hj : ops[j]? = some oj) (hd : oj.dst = some d)
    (k : ∀ v, (rd (.tmp d)).run vs t = some v → VR φ v (tmps.getD d undef))
    (e : (cGuard rd ops.toList j want).run vs t = some b) : (yielded ops tmps j == some want) = b := by
  have hj' : nth ops.toList j = some oj := by rw [nth_eq]; simpa using hj
  simp only [cGuard, hj', hd] at e
  simp only [yielded, hj, Option.bind_some, hd]
  split at e
  · rename_i bb hb
    cases e
    have hv := k _ hb
    simp only [VR] at hv
    rw [Array.getD_eq_getD_getElem?] at hv
    cases ht : tmps[d]? with
    | none => rw [ht] at hv; cases hv
    | some u =>
      rw [ht] at hv
      simp only [Option.getD_some] at hv
      subst hv
      cases bb <;> cases want <;> rfl
  · rename_i v hne hv
    cases e
    have hv' := k _ hv
    rw [Array.getD_eq_getD_getElem?] at hv'
    cases ht : tmps[d]? with
    | none => rfl
    | some u =>
      rw [ht] at hv'
      simp only [Option.getD_some] at hv'
      cases u <;> first | rfl | exact (hne _ (VR_bool hv')).elim
  · cases e

section
variable {P : Program} {T : Tab} {ih : Ih} {lv : List Nat} {nt : Nat} {ops : Array Oper} {t : Tmps} {ms : List Nat} {σ : List Stp} {pts : Nat → Pt} {val : Nat → AV} {φ0 : Emb} {a0 : Act} {w0 : World}

/-- what a temporary holds that an operation reads -/
theorem Inv.tmp {R : Reg P T ih lv nt ops t ms σ pts val φ0 a0 w0} {c : Nat} {φ : Emb} {listed : Array Bool} {a : Act} {w : World} (I : Inv R c φ listed a w) {p : Nat} (hcp : c ≤ p) (hpl : p ≤ σ.length) {i : Nat}
    (hd : ∀ (j : Nat) (o : Oper), ops[j]? = some o → o.dst = some i → (∃ (q : Nat) (r : Stp), q < p ∧ σ[q]? = some r ∧ r.i = j ∧ Ex listed j) ∨ (¬ Ex listed j ∧ ∀ (q : Nat) (r : Stp), σ[q]? = some r → r.i = j → p ≤ q)) {v : AV} (e : (cOpd lv (pts p).ds (.tmp i)).run (pts p).vs t = some v) :
    VR (φ.cut (pts p).m) v (a.tmps.getD i undef) := by
  by_cases h : ∃ (j : Nat) (o : Oper), ops[j]? = some o ∧ o.dst = some i ∧ ∃ (q : Nat) (r : Stp), q < p ∧ σ[q]? = some r ∧ r.i = j ∧ Ex listed j
  · obtain ⟨j, o, hj, ho, q, r, hq, hr, rfl, hex⟩ := h
    have : r.o = o := by have := R.op hr; rw [hj] at this; cases this; rfl
    rw [← this] at ho
    rw [R.rd_found hr ho hq hpl] at e; cases e
    exact VR.mono (Emb.cut_mono (R.mono (by omega) hpl)) _ _ (I.vals q r i hr hex ho)
  · have hn : ∀ (j : Nat) (o : Oper), ops[j]? = some o → o.dst = some i → ¬ Ex listed j ∧ ∀ (q : Nat) (r : Stp), σ[q]? = some r → r.i = j → p ≤ q := fun j o hj ho => by
      rcases hd j o hj ho with hh | hh
      · exact absurd ⟨j, o, hj, ho, hh⟩ h
      · exact hh
    rw [R.rd_none (fun q s hq hs ho => by have := (hn _ _ (R.op hs) ho).2 q s hs rfl; omega) hpl] at e
    have := R.start.fr.rho.rd (.tmp i) v e
    rw [I.old i fun j o hj ho => (hn j o hj ho).1]
    exact VR.mono (Emb.le_trans I.kept.le (Emb.cut_mono (R.mono hcp hpl))) _ _ this

theorem Inv.ons {R : Reg P T ih lv nt ops t ms σ pts val φ0 a0 w0} {p : Nat} {s : Stp} {listed : Array Bool} (hp : σ[p]? = some s) (hr : ∀ j, j ∈ onsOf s.o.after.toList → Ex listed j) {j : Nat} (hj : j ∈ onsOf s.o.after.toList) :
    ∃ (q : Nat) (r : Stp), q < p ∧ σ[q]? = some r ∧ r.i = j ∧ Ex listed j := by
  obtain ⟨q, r, h1, h2, h3⟩ := R.plan.after p s hp j hj
  exact ⟨q, r, h1, h2, h3, hr j hj⟩

theorem Inv.rho {R : Reg P T ih lv nt ops t ms σ pts val φ0 a0 w0} {c : Nat} {φ : Emb} {listed : Array Bool} {a : Act} {w : World} (I : Inv R c φ listed a w) {p : Nat} {s : Stp} (hp : σ[p]? = some s) (hn : ¬ Ex listed s.i) (hcp : c ≤ p)
    (hr : ∀ j, j ∈ onsOf s.o.after.toList → Ex listed j) : RhoOk (mrd (cOpd lv (pts p).ds) s.o.op.operands.toList) (pts p).vs t (φ.cut (pts p).m) a.eval :=
  mrd_rho fun i v hi e => I.tmp hcp (Nat.le_of_lt (at_lt hp)) (fun j o hj ho => by
    rcases R.plan.args s.i s.o (R.plan.here p s hp).1 i hi j o (by simpa using hj) ho with h | rfl | h
    · exact .inl (Inv.ons (R := R) hp hr h)
    · exact .inr ⟨hn, fun q r hq hri => by rw [R.plan.inj q p r s hq hp hri]; exact Nat.le_refl _⟩
    · refine .inr ⟨fun he => hn (I.clo j he _ h), fun q r hq hri => ?_⟩
      obtain ⟨q', r', g1, g2, g3⟩ := R.plan.before q r hq s.i (by rw [hri]; exact h)
      have := R.plan.inj q' p r' s g2 hp g3
      omega) e

theorem Inv.wanted {R : Reg P T ih lv nt ops t ms σ pts val φ0 a0 w0} {c : Nat} {φ : Emb} {listed : Array Bool} {a : Act} {w : World} (I : Inv R c φ listed a w) {p : Nat} {s : Stp} (hp : σ[p]? = some s) (hcp : c ≤ p)
    (hr : ∀ j, j ∈ onsOf s.o.after.toList → Ex listed j) {j : Nat} {want b : Bool} (hg : s.o.guard = some (j, want)) (e : (cGuard (cOpd lv (pts p).ds) ops.toList j want).run (pts p).vs t = some b) :
    Region.wanted s.o (yielded ops a.tmps) = b := by
  obtain ⟨h1, o', d, h2, h3⟩ := R.plan.guard s.i s.o j want (R.plan.here p s hp).1 hg
  simp only [Region.wanted, hg]
  have h2' : ops[j]? = some o' := by simpa using h2
  refine guard_read (φ := φ.cut (pts p).m) h2' h3 (fun v e => I.tmp hcp (Nat.le_of_lt (at_lt hp)) (fun j' o'' hj ho => ?_) e) e
  have hj' : ops.toList[j']? = some o'' := by simpa using hj
  have := R.plan.dst _ _ _ _ d h2 hj' h3 ho
  subst this
  exact .inl (Inv.ons (R := R) hp hr h1)

/-- what is read at a place held already when that place was made, or was looked at -/
theorem Reg.back (R : Reg P T ih lv nt ops t ms σ pts val φ0 a0 w0) {C : OpC} {vs : List AV} {v : AV} {m b : Ps} {mask q : Nat} (hb : b.val < (pts q).m.val) : ∀ {p : Nat}, q ≤ p → p ≤ σ.length →
    (∀ (l : Nat) (r : Stp), q ≤ l → l < p → σ[l]? = some r → loud r.o.op = true → bit mask r.i = false) → lookBack C T vs t v m b mask (pts p).sn = true →
    getP (pts p).h b = getP (pts q).h b ∨ ∃ h, getP h b = getP (pts q).h b ∧ again C T vs t v h m = true
  | 0, h, _, _, _ => by have : q = 0 := by omega
                        subst this; exact .inl rfl
  | p + 1, h, hl, hm, hlb => by
    by_cases e : q = p + 1
    · subst e; exact .inl rfl
    · obtain ⟨r, hr⟩ := at_some (σ := σ) (p := p) (by omega)
      have hmono := R.mono (p := q) (q := p) (by omega) (by omega)
      have st := R.steps p r hr
      have hm' : ∀ (l : Nat) (r : Stp), q ≤ l → l < p → σ[l]? = some r → loud r.o.op = true → bit mask r.i = false := fun l r a b c d => hm l r a (by omega) c d
      cases hlo : loud r.o.op with
      | true =>
        have hk : r.k = .snap := by rw [R.kind hr]; unfold kindOf; rw [hlo]; rfl
        have hsn : (pts (p + 1)).sn = ⟨r.i, (pts p).h, (pts p).m⟩ :: (pts p).sn := by rw [st.sn]; simp only [snapNo, hk]
        rw [hsn] at hlb
        simp only [lookBack, hm p r (by omega) (by omega) hr hlo, bi_false] at hlb
        obtain ⟨h1, h2⟩ := bi_tf hlb
        have hbm : Nat.blt (psVal b) (psVal (pts p).m) = true := (blt_iff _ _).2 (by rw [psVal_eq, psVal_eq]; omega)
        rw [hbm] at h1
        rcases Reg.back R hb (p := p) (by omega) (by omega) hm' h2 with g | g
        · exact .inr ⟨_, g, h1⟩
        · exact .inr g
      | false =>
        obtain ⟨_, hsn, hq⟩ := quiet_abs st (R.kind hr) hlo
        rw [hsn] at hlb
        rcases Reg.back R hb (p := p) (by omega) (by omega) hm' hlb with g | g
        · refine .inl ?_
          rcases hq with ⟨h1, _⟩ | ⟨blk, _, h1, _⟩
          · rw [h1]; exact g
          · rw [h1, get_setT, if_neg (fun e => by subst e; omega)]; exact g
        · exact .inr g
end
end Go.AM
namespace Go.AM

theorem HR.empty {φ : Emb} {m : Ps} {w : World} : HR (φ.cut m) .nil m w :=
  ⟨fun _ hb => Emb.cut_ge hb, fun _ _ h => (by cases h), fun _ _ _ _ _ _ _ _ _ h => (by cases h)⟩

theorem HR.single {φ : Emb} {m b : Ps} {w : World} {blk : AB} {k off sz : Nat} (hb : φ.cut m b = some (k, off, sz)) (hbr : BR (φ.cut m) blk k off sz w) : HR (φ.cut m) (setT (some blk) b .nil) m w := by
  have hget : ∀ b1 b2, getP (setT (some blk) b .nil) b1 = some b2 → b1 = b ∧ b2 = blk := fun b1 b2 h => by
    rw [get_setT] at h
    split at h
    · rename_i e; cases h; exact ⟨e, rfl⟩
    · cases h
  refine ⟨fun _ hb => Emb.cut_ge hb, fun b1 b2 h => ?_, fun b1 b2 b3 b4 c off sz off' sz' h1 h2 h3 h4 => ?_⟩
  · obtain ⟨rfl, rfl⟩ := hget _ _ h; exact ⟨k, off, sz, hb, hbr⟩
  · obtain ⟨rfl, _⟩ := hget _ _ h1
    obtain ⟨rfl, _⟩ := hget _ _ h3
    exact absurd rfl h4

theorem Grew.of_kept {φ φ' : Emb} {h' : Heap} {w w' : World} (k : Kept φ .nil w φ' h' w') : Grew w w' :=
  ⟨⟨k.os, k.tape, k.output⟩, k.size, fun r hr => k.block r hr fun ⟨_, _, _, _, h, _⟩ => by cases h⟩

theorem Grew.refl (w : World) : Grew w w := ⟨Same.refl w, Nat.le_refl _, fun _ _ => rfl⟩

section
variable {P : Program} {T : Tab} {ih : Ih} {lv : List Nat} {nt : Nat} {ops : Array Oper} {t : Tmps} {ms : List Nat} {σ : List Stp} {pts : Nat → Pt} {val : Nat → AV} {φ0 : Emb} {a0 : Act} {w0 : World}

/-- an operation that writes nothing, whenever it may be done -/
theorem Inv.quiet_step {R : Reg P T ih lv nt ops t ms σ pts val φ0 a0 w0} {c : Nat} {φ : Emb} {listed : Array Bool} {a : Act} {w : World} (I : Inv R c φ listed a w) {p : Nat} {s : Stp} (hp : σ[p]? = some s) (hn : ¬ Ex listed s.i)
    (hl : loud s.o.op = false) (hr : ∀ j, j ∈ onsOf s.o.after.toList → Ex listed j) {Q : Exit → Act → World → Prop} :
    wpOp P ops Q s.i (fun a' w' => ∃ φ', Inv R c φ' (listed.setIfInBounds s.i true) a' w') a w := by
  have hge := I.ge hp hn
  have hplt := at_lt hp
  have hcp := R.mono hge (Nat.le_of_lt hplt)
  have st := R.steps p s hp
  unfold wpOp
  rw [R.op hp]
  simp only
  rcases st.run with ⟨j, want, hg, hgr, hv, _, hh, hm⟩ | ⟨hg, hrun⟩
  · rw [I.wanted hp hge hr hg hgr, if_neg Bool.false_ne_true]
    exact ⟨φ, I.place hp hn hl hr (Grew.refl w) (Emb.le_refl _) (by rw [hv]; exact VR_undef _) (.inl ⟨rfl, hh, hm⟩)⟩
  · have hw : Region.wanted s.o (yielded ops a.tmps) = true := by
      cases hgd : s.o.guard with
      | none => simp [Region.wanted, hgd]
      | some jw => exact I.wanted hp hge hr (j := jw.1) (want := jw.2) hgd (hg _ _ hgd)
    rw [if_pos hw]
    refine .inl ?_
    have honly := fun h m => quiet_only (T := T) (rd := cOpd lv (pts p).ds) (vs := (pts p).vs) (t := t) (h := h) (m := m) hl
    rcases hrun with ⟨hrun, _, hchk⟩ | ⟨f, args, h1, _⟩ | ⟨q, h1, _⟩
    · have hρ := I.rho hp hn hge hr
      have hcong : cOp (mrd (cOpd lv (pts p).ds) s.o.op.operands.toList) s.o.op = cOp (cOpd lv (pts p).ds) s.o.op := cOp_congr fun x hx => mrd_mem hx
      have hcongr : cReads (mrd (cOpd lv (pts p).ds) s.o.op.operands.toList) s.o.op = cReads (cOpd lv (pts p).ds) s.o.op := cReads_congr fun x hx => mrd_mem hx
      obtain ⟨ob, hob, hnamed⟩ := quiet_reads hl hrun
      cases ob with
      | none =>
        have hq := (quiet_loc (h1 := .nil) hl hob (fun b hb => by cases hb)).out _ _ _ hrun
        have hop := cOp_sound (P := P) R.hT hρ s.o (HR.empty (φ := φ) (m := (pts p).m) (w := w))
        rw [hcong] at hop
        rcases hq with ⟨hh, hm, h1⟩ | ⟨blk, hbo, hh, hm, h1⟩
        · rw [h1] at hop
          obtain ⟨nn, w', φ', g1, g2, g3, g4, g5⟩ := hop
          have hφ : φ' = φ.cut (pts p).m := by
            funext b
            rcases Nat.lt_or_ge b.val (pts p).m.val with hb | hb
            · exact g5.nm b hb
            · rw [g3.fresh b hb, Emb.cut_ge hb]
          unfold Oper.wp
          rw [g1]
          have hgr := Grew.of_kept g4
          rcases g2 with ⟨cv, rfl, hv⟩ | ⟨rfl, hv⟩
          · exact ⟨φ, I.place hp hn hl hr hgr (Emb.le_refl _) (by rw [hm, ← hφ]; exact hv) (.inl ⟨rfl, hh, hm⟩)⟩
          · exact ⟨φ, I.place hp hn hl hr hgr (Emb.le_refl _) (by rw [hv]; exact VR_undef _) (.inl ⟨rfl, hh, hm⟩)⟩
        · rw [h1] at hop
          obtain ⟨nn, w', φ', g1, g2, g3, g4, g5⟩ := hop
          obtain ⟨k, off, sz, b1, b2⟩ := g3.blocks (pts p).m blk (by rw [get_setT, if_pos rfl])
          have hnone : φ (pts p).m = none := by
            cases hφ : φ (pts p).m with
            | none => rfl
            | some x =>
              exfalso
              rcases I.names _ _ hφ with q1 | ⟨q, r, q1, q2, q3, q4, q5⟩
              · omega
              · have hne : q ≠ p := fun e => by subst e; rw [hp] at q2; cases q2; exact hn q3
                rcases Nat.lt_or_gt_of_ne hne with hlt | hlt
                · have := R.ne q4 hlt (Nat.le_of_lt hplt)
                  rw [q5] at this; omega
                · have := R.ne hm hlt (Nat.le_of_lt (at_lt q2))
                  rw [q5] at this; omega
          have hψ : (φ.upd (pts p).m (k, off, sz)).cut (pts (p + 1)).m = φ' := by
            funext b
            rw [hm]
            rcases Nat.lt_or_ge b.val (pts p).m.val with hb | hb
            · rw [g5.nm b hb, Emb.cut_lt hb, Emb.cut_lt (by rw [Ps.val_succ]; omega), Emb.upd_ne _ _ (fun e => by subst e; omega)]
            · by_cases he : b = (pts p).m
              · subst he
                rw [Emb.cut_lt (by rw [Ps.val_succ]; omega), Emb.upd_same, b1]
              · have : (pts p).m.succ.val ≤ b.val := by
                  rw [Ps.val_succ]
                  rcases Nat.lt_or_ge (pts p).m.val b.val with h | h
                  · omega
                  · exact absurd (Ps.val_inj (Nat.le_antisymm h hb)) he
                rw [g3.fresh b this, Emb.cut_ge this]
          have hk : w.heap.size ≤ k := by
            refine Nat.le_of_not_lt fun hlt => ?_
            obtain ⟨_, _, _, _, hx, _⟩ := g4.own k hlt ⟨(pts p).m, blk, off, sz, by rw [get_setT, if_pos rfl], hbo, b1⟩
            cases hx
          unfold Oper.wp
          rw [g1]
          have hgr := Grew.of_kept g4
          have hle := Emb.le_upd hnone (k, off, sz)
          have hcase : ((φ.upd (pts p).m (k, off, sz)) = φ ∧ (pts (p + 1)).h = (pts p).h ∧ (pts (p + 1)).m = (pts p).m) ∨
              ∃ (blk' : AB) (k' off' sz' : Nat), (φ.upd (pts p).m (k, off, sz)) = φ.upd (pts p).m (k', off', sz') ∧ blk'.isOwn = true ∧ (pts (p + 1)).h = setT (some blk') (pts p).m (pts p).h ∧ (pts (p + 1)).m = (pts p).m.succ ∧
                BR ((φ.upd (pts p).m (k, off, sz)).cut (pts (p + 1)).m) blk' k' off' sz' w' ∧ w.heap.size ≤ k' := .inr ⟨blk, k, off, sz, rfl, hbo, hh, hm, by rw [hψ]; exact b2, hk⟩
          rcases g2 with ⟨cv, rfl, hv⟩ | ⟨rfl, hv⟩
          · exact ⟨_, I.place hp hn hl hr hgr hle (by rw [hψ]; exact hv) hcase⟩
          · exact ⟨_, I.place hp hn hl hr hgr hle (by rw [hv]; exact VR_undef _) hcase⟩
      | some b =>
        obtain ⟨x0, a1, hx0, hrd, hnm⟩ := hnamed b rfl
        have hvr := hρ.rd x0 a1 (by rw [mrd_mem hx0]; exact hrd)
        obtain ⟨z, hz⟩ := hnm _ _ hvr
        obtain ⟨hbp, hφb⟩ := Emb.cut_some hz
        -- where its content is known
        have hq : ∃ q, c ≤ q ∧ q ≤ p ∧ b.val < (pts q).m.val ∧ ∀ blk, getP (pts q).h b = some blk → ∃ k off sz, φ b = some (k, off, sz) ∧ BR (φ.cut (pts q).m) blk k off sz w := by
          rcases I.names b z hφb with h1 | ⟨q, r, h1, h2, h3, h4, h5⟩
          · refine ⟨c, Nat.le_refl _, hge, h1, fun blk hb => ?_⟩
            obtain ⟨k, off, sz, g1, g2⟩ := I.hr.blocks b blk hb
            exact ⟨k, off, sz, (Emb.cut_some g1).2, g2⟩
          · have hqp : q < p := by
              refine Nat.lt_of_not_le fun hpq => ?_
              have := R.mono hpq (Nat.le_of_lt (at_lt h2))
              rw [h5] at hbp; omega
            refine ⟨q + 1, by omega, by omega, by rw [h4, h5, Ps.val_succ]; omega, fun blk hb => ?_⟩
            obtain ⟨_, he⟩ := I.early q r h1 h2 h3
            rcases he with ⟨_, he⟩ | ⟨blk', pv⟩
            · rw [h4] at he
              have := congrArg Ps.val he
              rw [Ps.val_succ] at this; omega
            · obtain ⟨k, off, sz, g1, g2, _⟩ := pv.lies
              rw [pv.h, h5, get_setT, if_pos rfl] at hb; cases hb
              exact ⟨k, off, sz, by rw [h5]; exact g1, g2⟩
        obtain ⟨q, hcq, hqp, hbq, hcont⟩ := hq
        have hmask := (I.clo' hp hr).1
        have hfree : ∀ (l : Nat) (r : Stp), q ≤ l → l < p → σ[l]? = some r → loud r.o.op = true → bit (orZero (nth ms s.i)) r.i = false := fun l r h1 h2 h3 h4 => by
          cases hbit : bit (orZero (nth ms s.i)) r.i with
          | false => rfl
          | true =>
            have := (I.early l r (by omega) h3 (hmask _ hbit)).1
            rw [h4] at this; cases this
        have hkd : s.k = .check (orZero (nth ms s.i)) := by
          rw [R.kind hp]; unfold kindOf; rw [hl, reads_may hob]; simp
        have hst := hchk _ hkd
        unfold stable at hst
        rw [hob] at hst
        simp only at hst
        have hstar : ∃ h hh mm, getP h b = getP (pts q).h b ∧ (cOp (cOpd lv (pts p).ds) s.o.op).run T (pts p).vs t h (pts p).m = .val (val p) hh mm := by
          rcases R.back hbq hqp (Nat.le_of_lt hplt) hfree hst with g | ⟨h, g1, g2⟩
          · exact ⟨(pts p).h, _, _, g, hrun⟩
          · obtain ⟨hh, mm, g3⟩ := again_val g2
            exact ⟨h, hh, mm, g1, g3⟩
        obtain ⟨hs, hh, mm, hsb, hsr⟩ := hstar
        obtain ⟨hsame1, hsame2⟩ := reads_same hl hob hrun
        -- a heap with that block alone
        have hone : ∃ h1 : Heap, getP h1 b = getP (pts q).h b ∧ HR (φ.cut (pts p).m) h1 (pts p).m w := by
          cases hb : getP (pts q).h b with
          | none => exact ⟨.nil, rfl, HR.empty⟩
          | some blk =>
            obtain ⟨k, off, sz, g1, g2⟩ := hcont blk hb
            exact ⟨setT (some blk) b .nil, by rw [get_setT, if_pos rfl], HR.single (by rw [Emb.cut_lt hbp]; exact g1) (g2.mono (Emb.cut_mono (R.mono hqp (Nat.le_of_lt hplt))) rfl)⟩
        obtain ⟨h1, h1b, h1r⟩ := hone
        have hval : ∃ hh mm, (cOp (cOpd lv (pts p).ds) s.o.op).run T (pts p).vs t h1 (pts p).m = .val (val p) hh mm := by
          rcases (quiet_loc (h1 := h1) hl hob (fun b' hb' => by cases hb'; rw [h1b, hsb])).out _ _ _ hsr with ⟨_, _, g⟩ | ⟨_, _, _, _, g⟩
          · exact ⟨_, _, g⟩
          · exact ⟨_, _, g⟩
        obtain ⟨hh2, mm2, hval⟩ := hval
        obtain ⟨_, _, cv, g1, g2⟩ := reads_sound R.hT hρ s.o h1r hl (by rw [hcongr]; exact hob) (by rw [hcong]; exact hval)
        unfold Oper.wp
        rw [g1]
        exact ⟨φ, I.place hp hn hl hr (Grew.refl w) (Emb.le_refl _) (by rw [hsame2]; exact g2) (.inl ⟨rfl, hsame1, hsame2⟩)⟩
    · have := honly (pts p).h (pts p).m
      rw [h1] at this; exact this.elim
    · have := honly (pts p).h (pts p).m
      rw [h1] at this; exact this.elim

/-- an operation that may write, in its turn -/
theorem Inv.loud_step {R : Reg P T ih lv nt ops t ms σ pts val φ0 a0 w0} {c : Nat} {φ : Emb} {listed : Array Bool} {a : Act} {w : World} (I : Inv R c φ listed a w) {s : Stp} (hp : σ[c]? = some s) (hn : ¬ Ex listed s.i)
    (hr : ∀ j, j ∈ onsOf s.o.after.toList → Ex listed j) {Q : Exit → Act → World → Prop} :
    wpOp P ops Q s.i (fun a' w' => ∃ φ', Inv R (c + 1) φ' (listed.setIfInBounds s.i true) a' w') a w := by
  have st := R.steps c s hp
  unfold wpOp
  rw [R.op hp]
  simp only
  rcases st.run with ⟨j, want, hg, hgr, hv, hd, hh, hm⟩ | ⟨hg, hrun⟩
  · rw [I.wanted hp (Nat.le_refl _) hr hg hgr, if_neg Bool.false_ne_true]
    exact I.advance hp hn hr (φ1 := φ.cut (pts c).m) (a1 := a) (by rw [hv]; exact VR_undef _) (by rw [hh, hm]; exact I.hr) (by rw [hh]; exact Kept.refl _ _ _) (by rw [hm]; exact Nx.refl _ _) rfl (by rw [hd]; exact I.de)
  · have hw : Region.wanted s.o (yielded ops a.tmps) = true := by
      cases hgd : s.o.guard with
      | none => simp [Region.wanted, hgd]
      | some jw => exact I.wanted hp (Nat.le_refl _) hr (j := jw.1) (want := jw.2) hgd (hg _ _ hgd)
    rw [if_pos hw]
    refine .inl ?_
    have hρ := I.rho hp hn (Nat.le_refl _) hr
    have hcong : cOp (mrd (cOpd lv (pts c).ds) s.o.op.operands.toList) s.o.op = cOp (cOpd lv (pts c).ds) s.o.op := cOp_congr fun x hx => mrd_mem hx
    have hop := cOp_sound (P := P) R.hT hρ s.o I.hr
    rw [hcong] at hop
    unfold Oper.wp
    rcases hrun with ⟨hrun, hd, _⟩ | ⟨f, args, hrun, hcall, hd⟩ | ⟨q, hrun, hv, hd, hh, hm⟩
    · rw [hrun] at hop
      obtain ⟨nn, w', φ', g1, g2, g3, g4, g5⟩ := hop
      rw [g1]
      rcases g2 with ⟨cv, rfl, hv⟩ | ⟨rfl, hv⟩
      · exact I.advance hp hn hr hv g3 g4 g5 rfl (by rw [hd]; exact I.de.mono g4.le)
      · exact I.advance hp hn hr (by rw [hv]; exact VR_undef _) g3 g4 g5 rfl (by rw [hd]; exact I.de.mono g4.le)
    · rw [hrun] at hop
      obtain ⟨cargs, g1, g2⟩ := hop
      rw [g1]
      rcases R.hih f args _ _ _ _ _ hcall _ w cargs I.hr g2 with ⟨cv, w', φ', q1, q2, q3, q4, q5⟩ | ⟨q1, q2⟩
      · rw [q1]
        exact I.advance hp hn hr q2 q3 q4 q5 rfl (by rw [hd]; exact I.de.mono q4.le)
      · rw [q1]
        refine q2.mono fun e w' he => ?_
        cases e with
        | returned cv =>
          obtain ⟨φ', g2, g3, g4, g5⟩ := he
          exact I.advance hp hn hr g2 g3 g4 g5 rfl (by rw [hd]; exact I.de.mono g4.le)
        | panicked => exact he.elim
        | outgrown => exact he.elim
    · rw [hrun] at hop
      obtain ⟨cd, g1, g2⟩ := hop
      rw [g1]
      exact I.advance hp hn hr (φ1 := φ.cut (pts c).m) (a1 := { a with defers := cd :: a.defers }) (by rw [hv]; exact VR_undef _) (by rw [hh, hm]; exact I.hr) (by rw [hh]; exact Kept.refl _ _ _) (by rw [hm]; exact Nx.refl _ _) rfl (by rw [hd]; exact ⟨cd, _, rfl, g2, I.de⟩)
end
end Go.AM
namespace Go.AM
section
variable {P : Program} {T : Tab} {n : Nat} {ih : Ih} {nt : Nat} {lv : List Nat}

/-- regions whose order is drawn -/
def DrawnOk (P : Program) (T : Tab) (n : Nat) (ih : Ih) (nt : Nat) (lv : List Nat) : Prop :=
  ∀ (id : Nat) (ops : Array Oper) (k : Kt) (r : Res) (x0 : X) (t0 : Tmps) (d0 : List ADef) (h0 : Heap) (m0 : Ps), r = .ok x0 t0 d0 h0 m0 →
    ∀ (ds : List (Option Nat)) (vs : List AV) (t : Tmps) (d : List ADef) (h : Heap) (m : Ps) (φ : Emb) (a : Act) (w : World),
      St φ nt lv ds vs t d h m a w → (cDrawn lv nt ops.toList (k.go lv) ds).run T n ih [] vs t d h m = r →
      (Code.region id ops true).wp P (Mid T n ih nt lv k r φ h m w) a w

theorem range_range' (n : Nat) : List.range n = List.range' 0 n := List.range_eq_range'

theorem Mid.step {k k' : Kt} {r : Res} {x1 : X} {t1 : Tmps} {d1 : List ADef} {h1 : Heap} {m1 : Ps} {φ φ0 : Emb} {h h0 : Heap} {m m0 : Ps} {w w0 : World} {e : Exit} {a' : Act} {w' : World} (he : e ≠ .normal)
    (hq : Mid T n ih nt lv k' (.ok x1 t1 d1 h1 m1) φ h m w e a' w') (hr : x1 ≠ .n → r = .ok x1 t1 d1 h1 m1) (hk : Kept φ0 h0 w0 φ h w) (hm : Nx φ0 m0 φ m) : Mid T n ih nt lv k r φ0 h0 m0 w0 e a' w' := by
  cases e with
  | normal => exact absurd rfl he
  | _ =>
    obtain ⟨x, t', d', h', m', φ', g1, g2, g3, g4, g5⟩ := hq
    cases g1
    exact ⟨x1, t1, d1, h1, m1, φ', hr (fun hx => by subst hx; cases g2), g2, g3, hk.trans g4, hm.trans g5⟩

/-- rounds -/
theorem iter_sound {c : Code} {f : CC} {r : Res} {x0 : X} {t0 : Tmps} {d0 : List ADef} {hh0 : Heap} {mm0 : Ps} (ho : r = .ok x0 t0 d0 hh0 mm0)
    (hf : ∀ (t : Tmps) (d : List ADef) (h : Heap) (m : Ps) (φ : Emb) (a : Act) (w : World) (x1 : X) (t1 : Tmps) (d1 : List ADef) (h1 : Heap) (m1 : Ps), St φ nt lv [] [] t d h m a w → f.run T n ih [] t d h m = .ok x1 t1 d1 h1 m1 →
      c.wp P (Mid T n ih nt lv .fin (.ok x1 t1 d1 h1 m1) φ h m w) a w)
    {φ0 : Emb} {h0 : Heap} {m0 : Ps} {w0 : World} (b : Frame) (k : List Item) (cs : List Frame) : ∀ (fuel : Nat) (t : Tmps) (d : List ADef) (h : Heap) (m : Ps) (φ : Emb) (a : Act) (w : World),
      St φ nt lv [] [] t d h m a w → iter f T ih n fuel t d h m = r → Kept φ0 h0 w0 φ h w → Nx φ0 m0 φ m →
      ∃ e a' w', Mid T n ih nt lv .fin r φ0 h0 m0 w0 e a' w' ∧ Arrives P (lone (b.at a (.code c :: .inLoop c :: k)) cs w) b k cs e a' w'
  | 0, t, d, h, m, φ, a, w, s, hr, hk, hm => by
    have : iter f T ih n 0 t d h m = .bad "fuel" := rfl
    rw [this] at hr; rw [← hr] at ho; cases ho
  | fuel + 1, t, d, h, m, φ, a, w, s, hr, hk, hm => by
    have hit : iter f T ih n (fuel + 1) t d h m = andThen (f.run T n ih [] t d h m) (iter f T ih n fuel) := rfl
    rw [hit] at hr
    cases hf1 : f.run T n ih [] t d h m with
    | bad s => rw [hf1] at hr; rw [← hr] at ho; cases ho
    | ret v h1 m1 => rw [hf1] at hr; rw [← hr] at ho; cases ho
    | ok x1 t1 d1 h1 m1 =>
      rw [hf1] at hr
      obtain ⟨e, a1, w1, hq, harr⟩ := hf t d h m φ a w x1 t1 d1 h1 m1 s hf1 b (.inLoop c :: k) cs
      cases e with
      | normal =>
        obtain ⟨t', d', h', m', φ', g1, g2, g3, g4⟩ := hq.fin_normal
        cases g1
        obtain ⟨e2, a2, w2, hq2, harr2⟩ := iter_sound ho hf b k cs fuel t1 d1 h1 m1 φ' a1 w1 g2 hr (hk.trans g3) (hm.trans g4)
        exact ⟨e2, a2, w2, hq2, .of_steps (Steps.trans harr (.one step_inLoop)) harr2⟩
      | _ =>
        refine ⟨_, a1, w1, Mid.step (by simp) hq (fun hx => ?_) hk hm, .pass (x := .inLoop c) rfl (fun _ _ => .inl (by simp)) harr⟩
        cases x1 with
        | n => exact absurd rfl hx
        | _ => exact hr.symm

theorem code_sound (hih : IhOk P ih) (hT : TOk T P) (hdr : DrawnOk P T n ih nt lv) : ∀ (c : Code) (k : Kt) (r : Res) (x0 : X) (t0 : Tmps) (d0 : List ADef) (h0 : Heap) (m0 : Ps), r = .ok x0 t0 d0 h0 m0 →
    ∀ (ds : List (Option Nat)) (vs : List AV) (t : Tmps) (d : List ADef) (h : Heap) (m : Ps) (φ : Emb) (a : Act) (w : World),
      St φ nt lv ds vs t d h m a w → (cCode lv nt c ds k).run T n ih vs t d h m = r → c.wp P (Mid T n ih nt lv k r φ h m w) a w := by
  intro c
  induction c with
  | skip =>
    intro k r x0 t0 d0 h0 m0 ho ds vs t d h m φ a w s hr
    exact wp_skip ⟨ds, vs, t, d, h, m, φ, hr, s, Kept.refl _ _ _, Nx.refl _ _⟩
  | label l =>
    intro k r x0 t0 d0 h0 m0 ho ds vs t d h m φ a w s hr
    exact wp_label ⟨ds, vs, t, d, h, m, φ, hr, s, Kept.refl _ _ _, Nx.refl _ _⟩
  | region id ops dr =>
    intro k r x0 t0 d0 h0 m0 ho ds vs t d h m φ a w s hr
    cases dr with
    | false =>
      refine wp_region ?_
      have := reg_sound hih hT ho (φ0 := φ) (h0 := h) (m0 := m) (w0 := w) ops.toList 0 (by simp) s hr (Kept.refl _ _ _) (Nx.refl _ _)
      rw [range_range', ← Array.length_toList]; exact this
    | true => exact hdr id ops k r x0 t0 d0 h0 m0 ho ds vs t d h m φ a w s hr
  | seq x y ihx ihy =>
    intro k r x0 t0 d0 h0 m0 ho ds vs t d h m φ a w s hr
    refine wp_seq (wp_mono (ihx (.more fun ds => cCode lv nt y ds k) r x0 t0 d0 h0 m0 ho ds vs t d h m φ a w s hr) fun e a' w' hm => ?_)
    cases e with
    | normal =>
      obtain ⟨ds', vs', t', d', h', m', φ', g1, g2, g3, g4⟩ := hm
      exact wp_mono (ihy k r x0 t0 d0 h0 m0 ho ds' vs' t' d' h' m' φ' a' w' g2 g1) fun e a w hm => hm.mono g3 g4
    | _ => exact hm
  | cond x y z ihy ihz =>
    intro k r x0 t0 d0 h0 m0 ho ds vs t d h m φ a w s hr
    refine joined_sound hr ho fun r1 x1 t1 d1 h1 m1 hf1 ho1 => ?_
    simp only at hf1
    split at hf1
    · rename_i b hb
      have hv := s.fr.rho.rd _ _ hb
      simp only [VR] at hv
      refine wp_cond hv ?_
      cases b with
      | true => exact ihy .fin r1 x1 t1 d1 h1 m1 ho1 ds vs t d h m φ a w s hf1
      | false => exact ihz .fin r1 x1 t1 d1 h1 m1 ho1 ds vs t d h m φ a w s hf1
    · rw [← hf1] at ho1; cases ho1
  | block id b ihb =>
    intro k r x0 t0 d0 h0 m0 ho ds vs t d h m φ a w s hr
    refine joined_sound hr ho fun r1 x1 t1 d1 h1 m1 hf1 ho1 => ?_
    simp only at hf1
    refine wp_block ?_
    cases hb : (cCode lv nt b ds .fin).run T n ih vs t d h m with
    | bad s => rw [hb] at hf1; simp only at hf1; rw [← hf1] at ho1; cases ho1
    | ret v h2 m2 => rw [hb] at hf1; simp only at hf1; rw [← hf1] at ho1; cases ho1
    | ok x2 t2 d2 h2 m2 =>
      rw [hb] at hf1
      refine wp_mono (ihb .fin _ x2 t2 d2 h2 m2 rfl ds vs t d h m φ a w s hb) fun e a' w' hm => ?_
      cases e with
      | normal =>
        obtain ⟨t', d', h', m', φ', g1, g2, g3, g4⟩ := hm.fin_normal
        cases g1
        simp only at hf1
        exact ⟨[], [], t2, d2, h2, m2, φ', hf1, g2, g3, g4⟩
      | exit i =>
        obtain ⟨x, t', d', h', m', φ', g1, g2, g3, g4, g5⟩ := hm
        cases g1
        cases x2 with
        | e i' =>
          cases g2
          simp only at hf1
          show Exit.inBlock id _ (.exit i) a' w'
          simp only [Exit.inBlock]
          by_cases hi : i = id
          · rw [if_pos hi]
            rw [(beq_iff _ _).2 hi] at hf1
            exact ⟨[], [], t2, d2, h2, m2, φ', hf1, g3, g4, g5⟩
          · rw [if_neg hi]
            have : Nat.beq i id = false := by
              cases hb : Nat.beq i id with
              | false => rfl
              | true => exact absurd ((beq_iff _ _).1 hb) hi
            rw [this] at hf1
            exact ⟨.e i, t2, d2, h2, m2, φ', hf1.symm, rfl, g3, g4, g5⟩
        | n => cases g2
        | g l => cases g2
        | r => cases g2
      | goto l =>
        obtain ⟨x, t', d', h', m', φ', g1, g2, g3, g4, g5⟩ := hm
        cases g1
        cases x2 with
        | g l' => cases g2; exact ⟨.g l, t2, d2, h2, m2, φ', hf1.symm, rfl, g3, g4, g5⟩
        | n => cases g2
        | e l => cases g2
        | r => cases g2
      | ret =>
        obtain ⟨x, t', d', h', m', φ', g1, g2, g3, g4, g5⟩ := hm
        cases g1
        cases x2 with
        | r => exact ⟨.r, t2, d2, h2, m2, φ', hf1.symm, rfl, g3, g4, g5⟩
        | n => cases g2
        | e l => cases g2
        | g l => cases g2
      | panic ch =>
        obtain ⟨x, t', d', h', m', φ', g1, g2, _⟩ := hm
        cases x <;> cases g2
      | outgrown =>
        obtain ⟨x, t', d', h', m', φ', g1, g2, _⟩ := hm
        cases x <;> cases g2
  | loop b ihb =>
    intro k r x0 t0 d0 h0 m0 ho ds vs t d h m φ a w s hr
    refine joined_sound hr ho fun r1 x1 t1 d1 h1 m1 hf1 ho1 => ?_
    simp only at hf1
    obtain ⟨t', q1, q2⟩ := s.flush
    rw [q1] at hf1
    intro bf kk cs
    obtain ⟨e, a', w', hm, harr⟩ := iter_sound (P := P) (c := b) ho1 (fun t d h m φ a w x1 t1 d1 h1 m1 s hf => ihb .fin _ x1 t1 d1 h1 m1 rfl [] [] t d h m φ a w s hf) bf kk cs n t' d h m φ a w q2 hf1 (Kept.refl _ _ _) (Nx.refl _ _)
    exact ⟨e, a', w', hm, .of_steps (.one step_loop) harr⟩
  | exit id =>
    intro k r x0 t0 d0 h0 m0 ho ds vs t d h m φ a w s hr
    obtain ⟨t', q1, q2⟩ := s.ended (T := T) (n := n) (ih := ih) (x := .e id)
    exact wp_exit ⟨.e id, t', d, h, m, φ, by rw [← hr]; exact q1, rfl, q2, Kept.refl _ _ _, Nx.refl _ _⟩
  | goto l =>
    intro k r x0 t0 d0 h0 m0 ho ds vs t d h m φ a w s hr
    obtain ⟨t', q1, q2⟩ := s.ended (T := T) (n := n) (ih := ih) (x := .g l)
    exact wp_goto ⟨.g l, t', d, h, m, φ, by rw [← hr]; exact q1, rfl, q2, Kept.refl _ _ _, Nx.refl _ _⟩
  | ret =>
    intro k r x0 t0 d0 h0 m0 ho ds vs t d h m φ a w s hr
    obtain ⟨t', q1, q2⟩ := s.ended (T := T) (n := n) (ih := ih) (x := .r)
    exact wp_ret ⟨.r, t', d, h, m, φ, by rw [← hr]; exact q1, rfl, q2, Kept.refl _ _ _, Nx.refl _ _⟩
  | rangeFunc => intro k r x0 t0 d0 h0 m0 ho ds vs t d h m φ a w s hr; rw [← hr] at ho; cases ho
  | scope => intro k r x0 t0 d0 h0 m0 ho ds vs t d h m φ a w s hr; rw [← hr] at ho; cases ho
  | refuse => intro k r x0 t0 d0 h0 m0 ho ds vs t d h m φ a w s hr; rw [← hr] at ho; cases ho
end

end Go.AM
namespace Go.AM

theorem count_set {l : Array Bool} {i : Nat} (h : l.getD i true = false) : (l.setIfInBounds i true).toList.count false + 1 = l.toList.count false := by
  have hi : i < l.size := by
    rcases Nat.lt_or_ge i l.size with h' | h'
    · exact h'
    · simp [Array.getElem?_eq_none h'] at h
  have hv : l[i] = false := by simpa [hi] using h
  rw [Array.toList_setIfInBounds]
  have key : ∀ (l : List Bool) (i : Nat), l[i]? = some false → (l.set i true).count false + 1 = l.count false := by
    intro l
    induction l with
    | nil => intro i h; simp at h
    | cons a r ih =>
      intro i h
      cases i with
      | zero => simp at h; subst h; simp
      | succ i =>
        have := ih i (by simpa using h)
        simp only [List.set_cons_succ, List.count_cons]
        omega
  exact key _ _ (by simp [hi, hv])

theorem count_zero {l : Array Bool} (h : l.toList.count false = 0) (i : Nat) (hi : i < l.size) : l.getD i false = true := by
  have := List.count_eq_zero.1 h
  cases hb : l[i] with
  | true => simp [hi, hb]
  | false => exact absurd (by rw [← hb]; simp) this

section
variable {P : Program} {T : Tab} {ih : Ih} {lv : List Nat} {nt : Nat} {ops : Array Oper} {t : Tmps} {ms : List Nat} {σ : List Stp} {pts : Nat → Pt} {val : Nat → AV} {φ0 : Emb} {a0 : Act} {w0 : World}

/-- all that is behind us is taken -/
theorem Inv.upto {R : Reg P T ih lv nt ops t ms σ pts val φ0 a0 w0} {c : Nat} {φ : Emb} {listed : Array Bool} {a : Act} {w : World} (I : Inv R c φ listed a w) : ∀ (k : Nat), c + k ≤ σ.length → (∀ (p : Nat) (s : Stp), p < c + k → σ[p]? = some s → Ex listed s.i) → Inv R (c + k) φ listed a w
  | 0, _, _ => I
  | k + 1, hl, h => by
    obtain ⟨s, hs⟩ := at_some (σ := σ) (p := c + k) (by omega)
    exact (Inv.upto I k (by omega) fun p s hp hs => h p s (by omega) hs).absorb hs (h _ s (by omega) hs)

theorem Inv.to {R : Reg P T ih lv nt ops t ms σ pts val φ0 a0 w0} {c : Nat} {φ : Emb} {listed : Array Bool} {a : Act} {w : World} (I : Inv R c φ listed a w) {p : Nat} (hcp : c ≤ p) (hp : p ≤ σ.length) (h : ∀ (q : Nat) (s : Stp), q < p → σ[q]? = some s → Ex listed s.i) : Inv R p φ listed a w := by
  have := I.upto (p - c) (by omega) (fun q s hq hs => h q s (by omega) hs)
  rwa [show c + (p - c) = p by omega] at this

theorem not_ex {listed : Array Bool} {i : Nat} (h : listed.getD i true = false) : ¬ Ex listed i := by
  unfold Ex
  rcases Nat.lt_or_ge i listed.size with h' | h'
  · simp [h'] at h ⊢; exact h
  · simp [Array.getElem?_eq_none h'] at h

/-- any order of a region -/
theorem any_order (R : Reg P T ih lv nt ops t ms σ pts val φ0 a0 w0) {Q : Exit → Act → World → Prop} (hQ : ∀ φ listed a w, Inv R σ.length φ listed a w → Q .normal a w) :
    ∀ (fuel c : Nat) (φ : Emb) (listed : Array Bool) (a : Act) (w : World), Inv R c φ listed a w → listed.toList.count false ≤ fuel → wpAny P .any ops Q fuel listed a w := by
  -- where nothing may be done all is done
  have hall : ∀ (c : Nat) (φ : Emb) (listed : Array Bool) (a : Act) (w : World), Inv R c φ listed a w → Region.ready .any ops listed = [] → Q .normal a w := fun c φ listed a w I hnil => by
    have hdone : ∀ (p : Nat) (s : Stp), σ[p]? = some s → Ex listed s.i := by
      intro p
      induction p using Nat.strongRecOn with
      | ind p ihp =>
        intro s hs
        cases hb : listed.getD s.i true with
        | true =>
          have hlt := I.i_lt hs
          unfold Ex
          simp [hlt] at hb ⊢; exact hb
        | false =>
          have : s.i ∈ Region.ready .any ops listed := mem_ready.2 ⟨hb, s.o, R.op hs, fun e he hbi => by
            obtain ⟨q, r, h1, h2, h3⟩ := R.plan.after p s hs e.on (onsOf_mem (by simpa using he) hbi)
            have := ihp q h1 r h2
            rw [h3] at this; exact this⟩
          rw [hnil] at this; cases this
    exact hQ φ listed a w (I.to I.cle (Nat.le_refl _) fun q s _ hs => hdone q s hs)
  intro fuel
  induction fuel with
  | zero =>
    intro c φ listed a w I hc
    have hnil : Region.ready .any ops listed = [] := by
      cases hr : Region.ready .any ops listed with
      | nil => rfl
      | cons i rest =>
        exfalso
        have hi : i ∈ Region.ready .any ops listed := by rw [hr]; exact List.mem_cons_self
        obtain ⟨h0, o, ho, _⟩ := mem_ready.1 hi
        have hlt : i < listed.size := by rw [I.lsz]; exact (Array.getElem?_eq_some_iff.1 ho).1
        exact not_ex h0 (count_zero (Nat.le_zero.1 hc) i hlt)
    exact ⟨hnil, hall c φ listed a w I hnil⟩
  | succ fuel ihf =>
    intro c φ listed a w I hc
    refine ⟨hall c φ listed a w I, fun i hi => ?_⟩
    obtain ⟨h0, o, ho, hed⟩ := mem_ready.1 hi
    have hn := not_ex h0
    obtain ⟨p, s, hp, rfl⟩ := R.plan.all i (by simpa using (Array.getElem?_eq_some_iff.1 ho).1)
    have hso : s.o = o := by have := R.op hp; rw [ho] at this; cases this; rfl
    have hr : ∀ j, j ∈ onsOf s.o.after.toList → Ex listed j := fun j hj => by
      obtain ⟨e, h1, h2, h3⟩ := onsOf_edge hj
      rw [← h3]
      exact hed e (by rw [← hso]; simpa using h1) h2
    have hcount : (listed.setIfInBounds s.i true).toList.count false ≤ fuel := by have := count_set h0; omega
    cases hl : loud s.o.op with
    | true =>
      have hpre : ∀ (q : Nat) (r : Stp), q < p → σ[q]? = some r → Ex listed r.i := fun q r hq hr' => (I.clo' hp hr).1 _ (R.plan.louds p s hp hl q r hq hr')
      exact wpOp_mono (fun a' w' ⟨φ', I'⟩ => ihf _ _ _ _ _ I' hcount) ((I.to (I.ge hp hn) (Nat.le_of_lt (at_lt hp)) hpre).loud_step hp hn hr)
    | false => exact wpOp_mono (fun a' w' ⟨φ', I'⟩ => ihf _ _ _ _ _ I' hcount) (I.quiet_step hp hn hl hr)

theorem Reg.len (R : Reg P T ih lv nt ops t ms σ pts val φ0 a0 w0) : ∀ {p : Nat}, p ≤ σ.length → (pts p).vs.length = (pts p).ds.length
  | 0, _ => R.start.fr.len
  | p + 1, h => by
    obtain ⟨s, hs⟩ := at_some (σ := σ) (p := p) (by omega)
    have st := R.steps p s hs
    rw [st.vs, st.ds, List.length_cons, List.length_cons, Reg.len R (by omega)]

/-- the start -/
theorem Inv.start (R : Reg P T ih lv nt ops t ms σ pts val φ0 a0 w0) : Inv R 0 φ0 (Array.replicate ops.size false) a0 w0 := by
  have hno : ∀ i, ¬ Ex (Array.replicate ops.size false) i := fun i h => by
    unfold Ex at h
    rw [Array.getD_eq_getD_getElem?, Array.getElem?_replicate] at h
    split at h <;> cases h
  have hcut : φ0.cut (pts 0).m = φ0 := by
    funext b
    rcases Nat.lt_or_ge b.val (pts 0).m.val with hb | hb
    · exact Emb.cut_lt hb
    · rw [Emb.cut_ge hb, R.start.hr.fresh b hb]
  refine ⟨by simp, Nat.zero_le _, fun p s h => by omega, fun i h => absurd h (hno i), by rw [hcut]; exact R.start.hr, by rw [hcut]; exact Kept.refl _ _ _, by rw [hcut]; exact Nx.refl _ _, fun p s d _ h => absurd h (hno _), fun i _ => rfl,
    fun p s _ _ h => absurd h (hno _), fun b x hb => ?_, by rw [hcut]; exact R.start.de, R.start.sz⟩
  rcases Nat.lt_or_ge b.val (pts 0).m.val with h | h
  · exact .inl h
  · rw [R.start.hr.fresh b h] at hb; cases hb

/-- the end -/
theorem Inv.fin {R : Reg P T ih lv nt ops t ms σ pts val φ0 a0 w0} {φ : Emb} {listed : Array Bool} {a : Act} {w : World} (I : Inv R σ.length φ listed a w) :
    St (φ.cut (pts σ.length).m) nt lv (pts σ.length).ds (pts σ.length).vs t (pts σ.length).d (pts σ.length).h (pts σ.length).m a w := by
  have hrd : ∀ i v, (cOpd lv (pts σ.length).ds (.tmp i)).run (pts σ.length).vs t = some v → VR (φ.cut (pts σ.length).m) v (a.tmps.getD i undef) := fun i v e =>
    I.tmp (Nat.le_refl _) (Nat.le_refl _) (fun j o hj ho => by
      obtain ⟨p, s, hp, rfl⟩ := R.plan.all j (by simpa using (Array.getElem?_eq_some_iff.1 hj).1)
      exact .inl ⟨p, s, at_lt hp, hp, rfl, I.pre p s (at_lt hp) hp⟩) e
  refine ⟨⟨fun i j v h1 h2 => hrd i v ?_, fun i j v h1 h2 h3 => hrd i v ?_, R.len (Nat.le_refl _)⟩, I.de, I.sz, I.hr⟩
  · simp only [cOpd, h1]; exact h2
  · simp only [cOpd, h1, h2]; exact h3
end

/-- regions whose order is drawn -/
theorem drawn_ok {P : Program} {T : Tab} (hT : TOk T P) (hm : P.follows .mixedOrders = true) (n : Nat) (ih : Ih) (nt : Nat) (lv : List Nat) (hih : IhOk P ih) : DrawnOk P T n ih nt lv := by
  intro id ops k r x0 t0 d0 h0 m0 ho ds vs t d h m φ a w s hr
  unfold cDrawn at hr
  cases hpl : planOk ops.toList (masks [] 0 ops.toList).reverse (orderOf (masks [] 0 ops.toList).reverse ops.toList.length 0 (louds 0 ops.toList)) with
  | false => simp only [hpl, bi_false] at hr; rw [← hr] at ho; cases ho
  | true =>
    simp only [hpl, bi_true] at hr
    rw [ho] at hr
    obtain ⟨pts, val, g1, g2, g3⟩ := trace_of (T := T) (n := n) (ih := ih) (lv := lv) (nt := nt) (ops := ops.toList) (t := t) (k := k.go lv) _ ⟨ds, vs, d, h, m, []⟩ hr
    refine wp_region_any hm ?_
    have s' : St φ nt lv ds vs t d h m a { w with drawn := w.drawn + 1 } := ⟨s.fr, s.de, s.sz, s.hr.of_heap rfl⟩
    have R : Reg P T ih lv nt ops t (masks [] 0 ops.toList).reverse (stepsOf ops.toList (masks [] 0 ops.toList).reverse (orderOf (masks [] 0 ops.toList).reverse ops.toList.length 0 (louds 0 ops.toList))) pts val φ a { w with drawn := w.drawn + 1 } :=
      ⟨planF_of hpl, g2, by rw [g1]; exact s', by rw [g1], hT, hih⟩
    refine any_order R (fun φ' listed a' w' I => ?_) _ 0 φ _ a _ (Inv.start R) ?_
    · have hk := I.kept
      have hx := I.nx
      rw [g1] at hk hx
      exact ⟨_, _, _, _, _, _, _, by rw [ho]; exact g3, I.fin, (Kept.of_heap (h := h) (φ := φ) (w := w) (w' := { w with drawn := w.drawn + 1 }) ⟨rfl, rfl, rfl⟩ rfl).trans hk, hx⟩
    · rw [Array.toList_replicate]
      simp
end Go.AM
