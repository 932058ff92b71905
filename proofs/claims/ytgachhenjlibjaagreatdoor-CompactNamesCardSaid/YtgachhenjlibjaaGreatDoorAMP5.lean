/-
  One operation, and a region in the order of its text, are sound. No condition.
-/
import Derived.Test.YtgachhenjlibjaaGreatDoorAMP4
import Derived.Defers
namespace Go.AM

/-- a deferred call -/
def DR (φ : Emb) (d : ADef) (c : Deferred) : Prop := ∃ f caps args, d.fn = .func f ∧ VRs φ d.caps caps ∧ VRs φ d.args args ∧ c = { target := .fn (.func f) caps.toArray, args := args.toArray }

theorem DR.mono {φ ψ : Emb} (h : φ.le ψ) {d : ADef} {c : Deferred} (k : DR φ d c) : DR ψ d c := by
  obtain ⟨f, caps, args, h1, h2, h3, h4⟩ := k
  exact ⟨f, caps, args, h1, h2.mono h, h3.mono h, h4⟩

/-- an operation, and what the machine makes of it -/
def OpS (P : Program) (φ : Emb) (h : Heap) (m : Ps) (w : World) (s : Sem Next) : OR → Prop
  | .bad _ => True
  | .val v h' m' => ∃ n w' φ', s.run P w = .ok n w' ∧ ((∃ cv, n = .value cv ∧ VR φ' v cv) ∨ (n = .skip ∧ v = .tu [])) ∧ HR φ' h' m' w' ∧ Kept φ h w φ' h' w' ∧ Nx φ m φ' m'
  | .call f args => ∃ cargs : List Value, s.run P w = (callFunc f cargs.toArray).run P w ∧ VRs φ args cargs
  | .dfr d => ∃ c, s.run P w = .ok (.defer c) w ∧ DR φ d c

section
variable {P : Program} {T : Tab} {φ : Emb} {h : Heap} {m : Ps} {w : World} {v : AV} {h' : Heap} {m' : Ps}

theorem ValS.op {s : Sem Value} (k : ValS P φ h m w s v h' m') : OpS P φ h m w (s >>= fun x => Pure.pure (Next.value x)) (.val v h' m') := by
  obtain ⟨cv, w', φ', h1, h2, h3, h4, h5⟩ := k
  exact ⟨.value cv, w', φ', by simp [h1], .inl ⟨cv, rfl, h2⟩, h3, h4, h5⟩

theorem OpS.pure {v : AV} {cv : Value} (k : HR φ h m w) (hv : VR φ v cv) : OpS P φ h m w (Pure.pure (Next.value cv)) (.val v h m) :=
  ⟨.value cv, w, φ, rfl, .inl ⟨cv, rfl, hv⟩, k, Kept.refl _ _ _, Nx.refl _ _⟩

/-- what an operation gives if it gives a value -/
theorem OpS.of {s : Sem Next} {r : OR} (hb : ∀ v h' m', r = .val v h' m' → OpS P φ h m w s r) (hc : ∀ f a, r = .call f a → OpS P φ h m w s r) (hd : ∀ d, r = .dfr d → OpS P φ h m w s r) : OpS P φ h m w s r := by
  cases r with
  | bad => trivial
  | val v h' m' => exact hb _ _ _ rfl
  | call f a => exact hc _ _ rfl
  | dfr d => exact hd _ rfl

/-- operations that only give values -/
def OnlyVal (r : OR) : Prop := match r with
  | .bad _ => True
  | .val .. => True
  | _ => False

theorem OpS.vals {s : Sem Value} {r : OR} (ho : OnlyVal r) (k : ∀ v h' m', r = .val v h' m' → ValS P φ h m w s v h' m') : OpS P φ h m w (s >>= fun x => Pure.pure (Next.value x)) r := by
  cases r with
  | bad => trivial
  | val v h' m' => exact (k _ _ _ rfl).op
  | call f a => exact ho.elim
  | dfr d => exact ho.elim

theorem opt_cases {α : Type} (x : Option α) (k : α → OR) (s : String) : (∃ a, x = some a ∧ opt x k (.bad s) = k a) ∨ (opt x k (.bad s) = .bad s) := by
  cases x with
  | none => exact .inr rfl
  | some a => exact .inl ⟨a, rfl, rfl⟩

/-- reading operands -/
structure RhoOk (rf : Operand → Rd) (vs : List AV) (t : Tmps) (φ : Emb) (ρ : Operand → Value) : Prop where
  rd : ∀ x a, (rf x).run vs t = some a → VR φ a (ρ x)
  fn : ∀ f, (rf (.func f)).run vs t = some (.fn (.func f) [] [])

variable {rd : Operand → Rd} {vs : List AV} {t : Tmps} {ρ : Operand → Value}

theorem opt_some' {α β : Type} {x : Option α} {k : α → Option β} {b : β} (e : opt x k none = some b) : ∃ a, x = some a ∧ k a = some b := by
  cases x with
  | none => cases e
  | some a => exact ⟨a, rfl, e⟩

theorem cOpds_sound (hρ : RhoOk rd vs t φ ρ) : ∀ {l : List Operand} {as : List AV}, (cOpds rd l).run vs t = some as → VRs φ as (l.map ρ)
  | [], as, e => by cases e; exact VRs.nil_iff.2 rfl
  | x :: r, as, e => by
    simp only [cOpds] at e
    obtain ⟨a, h1, e⟩ := opt_some' e
    obtain ⟨l, h2, e⟩ := opt_some' e
    cases e
    exact VRs.cons (hρ.rd x a h1) (cOpds_sound hρ h2)

theorem cParts_sound (hρ : RhoOk rd vs t φ ρ) : ∀ {l : List (Nat × Operand)} {as : List (Nat × AV)}, (cParts rd l).run vs t = some as → PRs φ as (l.map fun p => (p.1, ρ p.2))
  | [], as, e => by cases e; rfl
  | (i, x) :: r, as, e => by
    simp only [cParts] at e
    obtain ⟨a, h1, e⟩ := opt_some' e
    obtain ⟨l, h2, e⟩ := opt_some' e
    cases e
    exact ⟨_, _, rfl, hρ.rd x a h1, cParts_sound hρ h2⟩

theorem cOpt_sound (hρ : RhoOk rd vs t φ ρ) {x : Option Operand} {a : Option AV} (e : (cOpt rd x).run vs t = some a) : OptR φ a (x.map ρ) := by
  cases x with
  | none => cases e; trivial
  | some x =>
    simp only [cOpt] at e
    obtain ⟨b, h1, e⟩ := opt_some' e
    cases e
    exact hρ.rd x b h1

theorem vr_tu0 (φ : Emb) : VR φ (.tu []) (.tuple #[]) := by simp only [VR]; exact ⟨[], rfl, VRs.nil_iff.2 rfl⟩

theorem args_eq (c : Array Operand) (ρ : Operand → Value) : c.map ρ = (c.toList.map ρ).toArray := by apply Array.ext'; simp

theorem unit_op {s : Sem Unit} {w' : World} (h1 : s.run P w = .ok () w') (h3 : HR φ h' m w') (h4 : Kept φ h w φ h' w') : OpS P φ h m w (s >>= fun _ => Pure.pure Next.skip) (.val (.tu []) h' m) :=
  ⟨.skip, w', φ, by simp [h1], .inr ⟨rfl, rfl⟩, h3, h4, Nx.refl _ _⟩

theorem bl_op {s : Sem Value} {r : OR} (ho : ∀ f a, r ≠ .call f a) (hd : ∀ d, r ≠ .dfr d) (k : ∀ v h' m', r = .val v h' m' → ValS P φ h m w s v h' m') : OpS P φ h m w (s >>= fun x => Pure.pure (Next.value x)) r := by
  cases r with
  | bad => trivial
  | val v h' m' => exact (k _ _ _ rfl).op
  | call f a => exact (ho _ _ rfl).elim
  | dfr d => exact (hd _ rfl).elim

end

theorem OnlyVal.bi {c : Bool} {x y : OR} (h1 : OnlyVal x) (h2 : OnlyVal y) : OnlyVal (bi c x y) := by cases c <;> assumption
theorem OnlyVal.opt {α : Type} {x : Option α} {k : α → OR} {y : OR} (h1 : ∀ a, OnlyVal (k a)) (h2 : OnlyVal y) : OnlyVal (opt x k y) := by
  cases x with
  | none => exact h2
  | some a => exact h1 a
theorem OnlyVal.forceNat {n : Nat} {k : Nat → OR} (h : ∀ n, OnlyVal (k n)) : OnlyVal (forceNat n k) := by rw [forceNat_eq]; exact h n
theorem OnlyVal.forceL {l : List AV} {k : List AV → OR} (h : ∀ n, OnlyVal (k n)) : OnlyVal (forceL l k) := by rw [forceL_eq]; exact h l
theorem OnlyVal.kills {h : Heap} {l : List Ps} {k : Heap → OR} (hk : ∀ h, OnlyVal (k h)) : OnlyVal (kills h l k) := by rw [kills_eq]; exact hk _
theorem OnlyVal.setK {x : Option AB} {p : Ps} {h : Heap} {k : Heap → OR} (hk : ∀ h, OnlyVal (k h)) : OnlyVal (setK x p h k) := by rw [setK_eq]; exact hk _
theorem OnlyVal.setAll {l : List AV} {d : Trie AV} {i : Nat} {k : Trie AV → OR} (hk : ∀ h, OnlyVal (k h)) : OnlyVal (setAll d i l k) := by rw [setAll_eq]; exact hk _
theorem OnlyVal.newBlock {h : Heap} {m : Ps} {b : AB} {k : Heap → Ps → OR} (hk : ∀ h m, OnlyVal (k h m)) : OnlyVal (newBlock h m b k) := by rw [newBlock_eq]; exact hk _ _
theorem OnlyVal.newCells {h : Heap} {m : Ps} {vs : List AV} {k : Heap → Ps → OR} (hk : ∀ h m, OnlyVal (k h m)) : OnlyVal (newCells h m vs k) := by rw [newCells_eq]; exact hk _ _
theorem OnlyVal.mkInt {k : IntKind} {n : Int} {h : Heap} {m : Ps} : OnlyVal (mkInt k n h m) := by rw [mkInt_eq]; trivial
theorem OnlyVal.mkBool {b : Bool} {h : Heap} {m : Ps} : OnlyVal (mkBool b h m) := by rw [mkBool_eq]; trivial
theorem OnlyVal.val {v : AV} {h : Heap} {m : Ps} : OnlyVal (.val v h m) := trivial
theorem OnlyVal.bad {s : String} : OnlyVal (.bad s) := trivial

theorem OnlyVal.succK {p : Ps} {k : Ps → OR} (hk : ∀ m, OnlyVal (k m)) : OnlyVal (succK p k) := by rw [succK_eq]; exact hk _

theorem storeCells_only {h : Heap} {b : Ps} {o : Nat} {vs : List AV} {k : Heap → OR} (hk : ∀ h, OnlyVal (k h)) : OnlyVal (storeCells h b o vs k) := by
  unfold storeCells
  repeat' (first | exact OnlyVal.bad | exact hk _ | apply OnlyVal.bi | apply OnlyVal.kills | apply OnlyVal.setK | apply OnlyVal.setAll | apply OnlyVal.forceNat | intro _ | split)
theorem bounds_only {len cap : Nat} {lo hi mx : Option AV} {k : Nat → Nat → Nat → OR} (hk : ∀ a b c, OnlyVal (k a b c)) : OnlyVal (bounds len cap lo hi mx k) := by
  unfold bounds
  repeat' (first | exact OnlyVal.bad | exact hk _ _ _ | split)


theorem nats_only {a b : Int} {k : Nat → Nat → OR} (hk : ∀ a b, OnlyVal (k a b)) : OnlyVal (nats a b k) := by
  unfold nats; split
  · exact hk _ _
  · trivial
theorem loadOp_only {T : Tab} {t : Nat} {a : AV} {h : Heap} {m : Ps} : OnlyVal (loadOp T t a h m) := by unfold loadOp; (repeat' (first | exact OnlyVal.val | exact OnlyVal.bad | exact OnlyVal.mkInt | exact OnlyVal.mkBool | apply OnlyVal.newBlock | apply OnlyVal.newCells | apply OnlyVal.succK | apply OnlyVal.bi | apply OnlyVal.opt | apply OnlyVal.forceNat | apply OnlyVal.forceL | apply OnlyVal.kills | apply OnlyVal.setK | apply OnlyVal.setAll | apply OnlyVal.newBlock | apply OnlyVal.newCells | apply storeCells_only | apply bounds_only | assumption | intro _ | split))
theorem storeOp_only {T : Tab} {t : Nat} {a x : AV} {h : Heap} {m : Ps} : OnlyVal (storeOp T t a x h m) := by unfold storeOp; (repeat' (first | exact OnlyVal.val | exact OnlyVal.bad | exact OnlyVal.mkInt | exact OnlyVal.mkBool | apply OnlyVal.newBlock | apply OnlyVal.newCells | apply OnlyVal.succK | apply OnlyVal.bi | apply OnlyVal.opt | apply OnlyVal.forceNat | apply OnlyVal.forceL | apply OnlyVal.kills | apply OnlyVal.setK | apply OnlyVal.setAll | apply OnlyVal.newBlock | apply OnlyVal.newCells | apply storeCells_only | apply bounds_only | assumption | intro _ | split))
theorem allocOp_only {T : Tab} {t : Nat} {h : Heap} {m : Ps} : OnlyVal (allocOp T t h m) := by unfold allocOp; (repeat' (first | exact OnlyVal.val | exact OnlyVal.bad | exact OnlyVal.mkInt | exact OnlyVal.mkBool | apply OnlyVal.newBlock | apply OnlyVal.newCells | apply OnlyVal.succK | apply OnlyVal.bi | apply OnlyVal.opt | apply OnlyVal.forceNat | apply OnlyVal.forceL | apply OnlyVal.kills | apply OnlyVal.setK | apply OnlyVal.setAll | apply OnlyVal.newBlock | apply OnlyVal.newCells | apply storeCells_only | apply bounds_only | assumption | intro _ | split))
theorem boxOp_only {x : AV} {h : Heap} {m : Ps} : OnlyVal (boxOp x h m) := by unfold boxOp; (repeat' (first | exact OnlyVal.val | exact OnlyVal.bad | exact OnlyVal.mkInt | exact OnlyVal.mkBool | apply OnlyVal.newBlock | apply OnlyVal.newCells | apply OnlyVal.succK | apply OnlyVal.bi | apply OnlyVal.opt | apply OnlyVal.forceNat | apply OnlyVal.forceL | apply OnlyVal.kills | apply OnlyVal.setK | apply OnlyVal.setAll | apply OnlyVal.newBlock | apply OnlyVal.newCells | apply storeCells_only | apply bounds_only | assumption | intro _ | split))
theorem buildOp_only {T : Tab} {t : Nat} {ps : List (Nat × AV)} {h : Heap} {m : Ps} : OnlyVal (buildOp T t ps h m) := by unfold buildOp; (repeat' (first | exact OnlyVal.val | exact OnlyVal.bad | exact OnlyVal.mkInt | exact OnlyVal.mkBool | apply OnlyVal.newBlock | apply OnlyVal.newCells | apply OnlyVal.succK | apply OnlyVal.bi | apply OnlyVal.opt | apply OnlyVal.forceNat | apply OnlyVal.forceL | apply OnlyVal.kills | apply OnlyVal.setK | apply OnlyVal.setAll | apply OnlyVal.newBlock | apply OnlyVal.newCells | apply storeCells_only | apply bounds_only | assumption | intro _ | split))
theorem buildSliceOp_only {T : Tab} {t l : Nat} {ps : List (Nat × AV)} {h : Heap} {m : Ps} : OnlyVal (buildSliceOp T t l ps h m) := by unfold buildSliceOp; (repeat' (first | exact OnlyVal.val | exact OnlyVal.bad | exact OnlyVal.mkInt | exact OnlyVal.mkBool | apply OnlyVal.newBlock | apply OnlyVal.newCells | apply OnlyVal.succK | apply OnlyVal.bi | apply OnlyVal.opt | apply OnlyVal.forceNat | apply OnlyVal.forceL | apply OnlyVal.kills | apply OnlyVal.setK | apply OnlyVal.setAll | apply OnlyVal.newBlock | apply OnlyVal.newCells | apply storeCells_only | apply bounds_only | assumption | intro _ | split))
theorem makeSliceOp_only {T : Tab} {t : Nat} {l c : AV} {h : Heap} {m : Ps} : OnlyVal (makeSliceOp T t l c h m) := by unfold makeSliceOp; (repeat' (first | exact OnlyVal.val | exact OnlyVal.bad | exact OnlyVal.mkInt | exact OnlyVal.mkBool | apply OnlyVal.newBlock | apply OnlyVal.newCells | apply OnlyVal.succK | apply OnlyVal.bi | apply OnlyVal.opt | apply OnlyVal.forceNat | apply OnlyVal.forceL | apply OnlyVal.kills | apply OnlyVal.setK | apply OnlyVal.setAll | apply OnlyVal.newBlock | apply OnlyVal.newCells | apply storeCells_only | apply bounds_only | assumption | intro _ | split))
theorem convertOp_only {T : Tab} {s d : Nat} {x : AV} {h : Heap} {m : Ps} : OnlyVal (convertOp T s d x h m) := by unfold convertOp; (repeat' (first | exact OnlyVal.val | exact OnlyVal.bad | exact OnlyVal.mkInt | exact OnlyVal.mkBool | apply OnlyVal.newBlock | apply OnlyVal.newCells | apply OnlyVal.succK | apply OnlyVal.bi | apply OnlyVal.opt | apply OnlyVal.forceNat | apply OnlyVal.forceL | apply OnlyVal.kills | apply OnlyVal.setK | apply OnlyVal.setAll | apply OnlyVal.newBlock | apply OnlyVal.newCells | apply storeCells_only | apply bounds_only | assumption | intro _ | split))
theorem sliceOp_only {T : Tab} {t : Nat} {x : AV} {lo hi mx : Option AV} {h : Heap} {m : Ps} : OnlyVal (sliceOp T t x lo hi mx h m) := by unfold sliceOp; (repeat' (first | exact OnlyVal.val | exact OnlyVal.bad | exact OnlyVal.mkInt | exact OnlyVal.mkBool | apply OnlyVal.newBlock | apply OnlyVal.newCells | apply OnlyVal.succK | apply OnlyVal.bi | apply OnlyVal.opt | apply OnlyVal.forceNat | apply OnlyVal.forceL | apply OnlyVal.kills | apply OnlyVal.setK | apply OnlyVal.setAll | apply OnlyVal.newBlock | apply OnlyVal.newCells | apply storeCells_only | apply bounds_only | assumption | intro _ | split))
theorem indexAddrOp_only {T : Tab} {t : Nat} {x i : AV} {h : Heap} {m : Ps} : OnlyVal (indexAddrOp T t x i h m) := by unfold indexAddrOp; (repeat' (first | exact OnlyVal.val | exact OnlyVal.bad | exact OnlyVal.mkInt | exact OnlyVal.mkBool | apply OnlyVal.newBlock | apply OnlyVal.newCells | apply OnlyVal.succK | apply OnlyVal.bi | apply OnlyVal.opt | apply OnlyVal.forceNat | apply OnlyVal.forceL | apply OnlyVal.kills | apply OnlyVal.setK | apply OnlyVal.setAll | apply OnlyVal.newBlock | apply OnlyVal.newCells | apply storeCells_only | apply bounds_only | assumption | intro _ | split))
theorem indexOp_only {T : Tab} {t : Nat} {x i : AV} {h : Heap} {m : Ps} : OnlyVal (indexOp T t x i h m) := by unfold indexOp; (repeat' (first | exact OnlyVal.val | exact OnlyVal.bad | exact OnlyVal.mkInt | exact OnlyVal.mkBool | apply OnlyVal.newBlock | apply OnlyVal.newCells | apply OnlyVal.succK | apply OnlyVal.bi | apply OnlyVal.opt | apply OnlyVal.forceNat | apply OnlyVal.forceL | apply OnlyVal.kills | apply OnlyVal.setK | apply OnlyVal.setAll | apply OnlyVal.newBlock | apply OnlyVal.newCells | apply storeCells_only | apply bounds_only | assumption | intro _ | split))
theorem fieldAddrOp_only {T : Tab} {t f : Nat} {x : AV} {h : Heap} {m : Ps} : OnlyVal (fieldAddrOp T t x f h m) := by unfold fieldAddrOp; (repeat' (first | exact OnlyVal.val | exact OnlyVal.bad | exact OnlyVal.mkInt | exact OnlyVal.mkBool | apply OnlyVal.newBlock | apply OnlyVal.newCells | apply OnlyVal.succK | apply OnlyVal.bi | apply OnlyVal.opt | apply OnlyVal.forceNat | apply OnlyVal.forceL | apply OnlyVal.kills | apply OnlyVal.setK | apply OnlyVal.setAll | apply OnlyVal.newBlock | apply OnlyVal.newCells | apply storeCells_only | apply bounds_only | assumption | intro _ | split))
theorem fieldOp_only {T : Tab} {t f : Nat} {x : AV} {h : Heap} {m : Ps} : OnlyVal (fieldOp T t x f h m) := by unfold fieldOp; (repeat' (first | exact OnlyVal.val | exact OnlyVal.bad | exact OnlyVal.mkInt | exact OnlyVal.mkBool | apply OnlyVal.newBlock | apply OnlyVal.newCells | apply OnlyVal.succK | apply OnlyVal.bi | apply OnlyVal.opt | apply OnlyVal.forceNat | apply OnlyVal.forceL | apply OnlyVal.kills | apply OnlyVal.setK | apply OnlyVal.setAll | apply OnlyVal.newBlock | apply OnlyVal.newCells | apply storeCells_only | apply bounds_only | assumption | intro _ | split))
theorem lookupOp_only {T : Tab} {t : Nat} {x k : AV} {ok : Bool} {h : Heap} {m : Ps} : OnlyVal (lookupOp T t x k ok h m) := by unfold lookupOp; (repeat' (first | exact OnlyVal.val | exact OnlyVal.bad | exact OnlyVal.mkInt | exact OnlyVal.mkBool | apply OnlyVal.newBlock | apply OnlyVal.newCells | apply OnlyVal.succK | apply OnlyVal.bi | apply OnlyVal.opt | apply OnlyVal.forceNat | apply OnlyVal.forceL | apply OnlyVal.kills | apply OnlyVal.setK | apply OnlyVal.setAll | apply OnlyVal.newBlock | apply OnlyVal.newCells | apply storeCells_only | apply bounds_only | assumption | intro _ | split))
theorem mapUpdateOp_only {T : Tab} {t : Nat} {x k v : AV} {h : Heap} {m : Ps} : OnlyVal (mapUpdateOp T t x k v h m) := by unfold mapUpdateOp; (repeat' (first | exact OnlyVal.val | exact OnlyVal.bad | exact OnlyVal.mkInt | exact OnlyVal.mkBool | apply OnlyVal.newBlock | apply OnlyVal.newCells | apply OnlyVal.succK | apply OnlyVal.bi | apply OnlyVal.opt | apply OnlyVal.forceNat | apply OnlyVal.forceL | apply OnlyVal.kills | apply OnlyVal.setK | apply OnlyVal.setAll | apply OnlyVal.newBlock | apply OnlyVal.newCells | apply storeCells_only | apply bounds_only | assumption | intro _ | split))
theorem nilCheckOp_only {x : AV} {h : Heap} {m : Ps} : OnlyVal (nilCheckOp x h m) := by unfold nilCheckOp; (repeat' (first | exact OnlyVal.val | exact OnlyVal.bad | exact OnlyVal.mkInt | exact OnlyVal.mkBool | apply OnlyVal.newBlock | apply OnlyVal.newCells | apply OnlyVal.succK | apply OnlyVal.bi | apply OnlyVal.opt | apply OnlyVal.forceNat | apply OnlyVal.forceL | apply OnlyVal.kills | apply OnlyVal.setK | apply OnlyVal.setAll | apply OnlyVal.newBlock | apply OnlyVal.newCells | apply storeCells_only | apply bounds_only | assumption | intro _ | split))
theorem unOpx_only {o : UnOp} {x : AV} {h : Heap} {m : Ps} : OnlyVal (unOpx o x h m) := by unfold unOpx; (repeat' (first | exact OnlyVal.val | exact OnlyVal.bad | exact OnlyVal.mkInt | exact OnlyVal.mkBool | apply OnlyVal.newBlock | apply OnlyVal.newCells | apply OnlyVal.succK | apply OnlyVal.bi | apply OnlyVal.opt | apply OnlyVal.forceNat | apply OnlyVal.forceL | apply OnlyVal.kills | apply OnlyVal.setK | apply OnlyVal.setAll | apply OnlyVal.newBlock | apply OnlyVal.newCells | apply storeCells_only | apply bounds_only | assumption | intro _ | split))
theorem typeAssertOp_only {x : AV} {t : Nat} {a b : Bool} {h : Heap} {m : Ps} : OnlyVal (typeAssertOp x t a b h m) := by unfold typeAssertOp; (repeat' (first | exact OnlyVal.val | exact OnlyVal.bad | exact OnlyVal.mkInt | exact OnlyVal.mkBool | apply OnlyVal.newBlock | apply OnlyVal.newCells | apply OnlyVal.succK | apply OnlyVal.bi | apply OnlyVal.opt | apply OnlyVal.forceNat | apply OnlyVal.forceL | apply OnlyVal.kills | apply OnlyVal.setK | apply OnlyVal.setAll | apply OnlyVal.newBlock | apply OnlyVal.newCells | apply storeCells_only | apply bounds_only | assumption | intro _ | split))
theorem appendU8_only {s : AV} {x n : Nat} {h : Heap} {m : Ps} : OnlyVal (appendU8 h m s x n) := by unfold appendU8; (repeat' (first | exact OnlyVal.val | exact OnlyVal.bad | exact OnlyVal.mkInt | exact OnlyVal.mkBool | apply OnlyVal.newBlock | apply OnlyVal.newCells | apply OnlyVal.succK | apply OnlyVal.bi | apply OnlyVal.opt | apply OnlyVal.forceNat | apply OnlyVal.forceL | apply OnlyVal.kills | apply OnlyVal.setK | apply OnlyVal.setAll | apply OnlyVal.newBlock | apply OnlyVal.newCells | apply storeCells_only | apply bounds_only | assumption | intro _ | split))
theorem appendC_only {s : AV} {e n : Nat} {vs : List AV} {h : Heap} {m : Ps} : OnlyVal (appendC h m e s vs n) := by unfold appendC; (repeat' (first | exact OnlyVal.val | exact OnlyVal.bad | exact OnlyVal.mkInt | exact OnlyVal.mkBool | apply OnlyVal.newBlock | apply OnlyVal.newCells | apply OnlyVal.succK | apply OnlyVal.bi | apply OnlyVal.opt | apply OnlyVal.forceNat | apply OnlyVal.forceL | apply OnlyVal.kills | apply OnlyVal.setK | apply OnlyVal.setAll | apply OnlyVal.newBlock | apply OnlyVal.newCells | apply storeCells_only | apply bounds_only | assumption | intro _ | split))
theorem appendOp_only {T : Tab} {ats : List Nat} {args : List AV} {h : Heap} {m : Ps} : OnlyVal (appendOp T ats args h m) := by
  unfold appendOp
  repeat' (first | exact OnlyVal.bad | exact appendU8_only | exact appendC_only | apply OnlyVal.bi | apply OnlyVal.forceNat | apply OnlyVal.forceL | intro _ | split)
theorem copyOp_only {T : Tab} {ats : List Nat} {args : List AV} {h : Heap} {m : Ps} : OnlyVal (copyOp T ats args h m) := by unfold copyOp; (repeat' (first | exact OnlyVal.val | exact OnlyVal.bad | exact OnlyVal.mkInt | exact OnlyVal.mkBool | apply OnlyVal.newBlock | apply OnlyVal.newCells | apply OnlyVal.succK | apply OnlyVal.bi | apply OnlyVal.opt | apply OnlyVal.forceNat | apply OnlyVal.forceL | apply OnlyVal.kills | apply OnlyVal.setK | apply OnlyVal.setAll | apply OnlyVal.newBlock | apply OnlyVal.newCells | apply storeCells_only | apply bounds_only | assumption | intro _ | split))
theorem lenOp_only {T : Tab} {ats : List Nat} {args : List AV} {h : Heap} {m : Ps} : OnlyVal (lenOp T ats args h m) := by unfold lenOp; (repeat' (first | exact OnlyVal.val | exact OnlyVal.bad | exact OnlyVal.mkInt | exact OnlyVal.mkBool | apply OnlyVal.newBlock | apply OnlyVal.newCells | apply OnlyVal.succK | apply OnlyVal.bi | apply OnlyVal.opt | apply OnlyVal.forceNat | apply OnlyVal.forceL | apply OnlyVal.kills | apply OnlyVal.setK | apply OnlyVal.setAll | apply OnlyVal.newBlock | apply OnlyVal.newCells | apply storeCells_only | apply bounds_only | assumption | intro _ | split))
theorem capOp_only {T : Tab} {ats : List Nat} {args : List AV} {h : Heap} {m : Ps} : OnlyVal (capOp T ats args h m) := by unfold capOp; (repeat' (first | exact OnlyVal.val | exact OnlyVal.bad | exact OnlyVal.mkInt | exact OnlyVal.mkBool | apply OnlyVal.newBlock | apply OnlyVal.newCells | apply OnlyVal.succK | apply OnlyVal.bi | apply OnlyVal.opt | apply OnlyVal.forceNat | apply OnlyVal.forceL | apply OnlyVal.kills | apply OnlyVal.setK | apply OnlyVal.setAll | apply OnlyVal.newBlock | apply OnlyVal.newCells | apply storeCells_only | apply bounds_only | assumption | intro _ | split))
theorem clearOp_only {T : Tab} {ats : List Nat} {args : List AV} {h : Heap} {m : Ps} : OnlyVal (clearOp T ats args h m) := by unfold clearOp; (repeat' (first | exact OnlyVal.val | exact OnlyVal.bad | exact OnlyVal.mkInt | exact OnlyVal.mkBool | apply OnlyVal.newBlock | apply OnlyVal.newCells | apply OnlyVal.succK | apply OnlyVal.bi | apply OnlyVal.opt | apply OnlyVal.forceNat | apply OnlyVal.forceL | apply OnlyVal.kills | apply OnlyVal.setK | apply OnlyVal.setAll | apply OnlyVal.newBlock | apply OnlyVal.newCells | apply storeCells_only | apply bounds_only | assumption | intro _ | split))
theorem deleteOp_only {T : Tab} {ats : List Nat} {args : List AV} {h : Heap} {m : Ps} : OnlyVal (deleteOp T ats args h m) := by unfold deleteOp; (repeat' (first | exact OnlyVal.val | exact OnlyVal.bad | exact OnlyVal.mkInt | exact OnlyVal.mkBool | apply OnlyVal.newBlock | apply OnlyVal.newCells | apply OnlyVal.succK | apply OnlyVal.bi | apply OnlyVal.opt | apply OnlyVal.forceNat | apply OnlyVal.forceL | apply OnlyVal.kills | apply OnlyVal.setK | apply OnlyVal.setAll | apply OnlyVal.newBlock | apply OnlyVal.newCells | apply storeCells_only | apply bounds_only | assumption | intro _ | split))
theorem mnmx_only {b : Bool} {args : List AV} {h : Heap} {m : Ps} : OnlyVal (mnmx b args h m) := by unfold mnmx; (repeat' (first | exact OnlyVal.val | exact OnlyVal.bad | exact OnlyVal.mkInt | exact OnlyVal.mkBool | apply OnlyVal.newBlock | apply OnlyVal.newCells | apply OnlyVal.succK | apply OnlyVal.bi | apply OnlyVal.opt | apply OnlyVal.forceNat | apply OnlyVal.forceL | apply OnlyVal.kills | apply OnlyVal.setK | apply OnlyVal.setAll | apply OnlyVal.newBlock | apply OnlyVal.newCells | apply storeCells_only | apply bounds_only | assumption | intro _ | split))
theorem eqRes_only {c : BinC} {r : Option Bool} {h : Heap} {m : Ps} : OnlyVal (eqRes c r h m) := by unfold eqRes; (repeat' (first | exact OnlyVal.val | exact OnlyVal.bad | exact OnlyVal.mkInt | exact OnlyVal.mkBool | apply OnlyVal.newBlock | apply OnlyVal.newCells | apply OnlyVal.succK | apply OnlyVal.bi | apply OnlyVal.opt | apply OnlyVal.forceNat | apply OnlyVal.forceL | apply OnlyVal.kills | apply OnlyVal.setK | apply OnlyVal.setAll | apply OnlyVal.newBlock | apply OnlyVal.newCells | apply storeCells_only | apply bounds_only | assumption | intro _ | split))
theorem cBin_ri {op : BinOp} {k : IntKind} {a b : Int} {h : Heap} {m : Ps} : OnlyVal ((cBin op).ri k a b h m) := by
  cases op <;> simp only [cBin] <;> first | exact OnlyVal.mkInt | exact OnlyVal.mkBool | (apply nats_only; intro _ _; (repeat' (first | exact OnlyVal.val | exact OnlyVal.bad | exact OnlyVal.mkInt | exact OnlyVal.mkBool | apply OnlyVal.newBlock | apply OnlyVal.newCells | apply OnlyVal.succK | apply OnlyVal.bi | apply OnlyVal.opt | apply OnlyVal.forceNat | apply OnlyVal.forceL | apply OnlyVal.kills | apply OnlyVal.setK | apply OnlyVal.setAll | apply OnlyVal.newBlock | apply OnlyVal.newCells | apply storeCells_only | apply bounds_only | assumption | intro _ | split)))
theorem cBin_rs {op : BinOp} {a la b lb : Nat} {h : Heap} {m : Ps} : OnlyVal ((cBin op).rs a la b lb h m) := by
  cases op <;> simp only [cBin, noStr] <;> (repeat' (first | exact OnlyVal.val | exact OnlyVal.bad | exact OnlyVal.mkInt | exact OnlyVal.mkBool | apply OnlyVal.newBlock | apply OnlyVal.newCells | apply OnlyVal.succK | apply OnlyVal.bi | apply OnlyVal.opt | apply OnlyVal.forceNat | apply OnlyVal.forceL | apply OnlyVal.kills | apply OnlyVal.setK | apply OnlyVal.setAll | apply OnlyVal.newBlock | apply OnlyVal.newCells | apply storeCells_only | apply bounds_only | assumption | intro _ | split))
theorem binOpx_only {T : Tab} {t : Nat} {op : BinOp} {lit : Bool} {a b : AV} {h : Heap} {m : Ps} : OnlyVal (binOpx T t (cBin op) lit a b h m) := by
  unfold binOpx
  repeat' (first | exact OnlyVal.bad | exact cBin_ri | exact cBin_rs | exact eqRes_only | apply OnlyVal.bi | split)

end Go.AM
namespace Go.AM
section
variable {P : Program} {T : Tab} {φ : Emb} {h : Heap} {m : Ps} {w : World} {v : AV} {h' : Heap} {m' : Ps}
variable {rd : Operand → Rd} {vs : List AV} {t : Tmps} {ρ : Operand → Value}

theorem opt_op {α : Type} {x : Option α} {kk : α → OR} {s : String} {sem : Sem Next} (hk : ∀ a, x = some a → OpS P φ h m w sem (kk a)) : OpS P φ h m w sem (opt x kk (.bad s)) := by
  cases x with
  | none => trivial
  | some a => exact hk a rfl

theorem callVal_sound {f : AV} {args : List AV} {cf : Value} {cargs : List Value} (hf : VR φ f cf) (ha : VRs φ args cargs) (ty : TypeId) (tt : Array TypeId) :
    OpS P φ h m w (do let d ← Deferred.ofValue cf cargs.toArray; invoke d.target d.args) (callVal f args) := by
  unfold callVal
  split <;> try trivial
  rename_i g first caps
  simp only [VR] at hf
  obtain ⟨fs', cs', rfl, h1, h2⟩ := hf
  rw [forceL_eq]
  refine ⟨fs' ++ cargs ++ cs', ?_, (h1.append ha).append h2⟩
  simp only [Deferred.ofValue, Sem.run_bind, Sem.run_pure, Result.andThen_ok, invoke]
  congr 2
  apply Array.ext'
  simp

theorem cCall_sound (hT : TOk T P) (hρ : RhoOk rd vs t φ ρ) (c : Call) (ty : TypeId) (k : HR φ h m w) :
    OpS P φ h m w (do let d ← resolve ρ c ty; invoke d.target d.args) ((cCall rd c).run T vs t h m) := by
  unfold cCall
  split
  · rename_i b hb
    refine opt_op fun args ha => ?_
    have har := cOpds_sound hρ ha
    have hrun : ∀ r : OR, OpS P φ h m w (builtin b c.argTypes ty (c.args.map fun | .const _ => true | _ => false) (c.args.toList.map ρ).toArray) r →
        OpS P φ h m w (do let d ← resolve ρ c ty; invoke d.target d.args) r := fun r hr => by
      have e : (do let d ← resolve ρ c ty; invoke d.target d.args : Sem Next).run P w = (builtin b c.argTypes ty (c.args.map fun | .const _ => true | _ => false) (c.args.toList.map ρ).toArray).run P w := by
        simp only [resolve, hb, Sem.run_bind, Sem.run_pure, Result.andThen_ok, invoke, args_eq c.args ρ]
        rfl
      cases r with
      | bad => trivial
      | val => simp only [OpS] at hr ⊢; rw [e]; exact hr
      | call => simp only [OpS] at hr ⊢; rw [e]; exact hr
      | dfr => simp only [OpS] at hr ⊢; rw [e]; exact hr
    refine hrun _ ?_
    have hat : c.argTypes = c.argTypes.toList.toArray := by simp
    rw [hat]
    cases b <;> simp only [cBuiltin, builtin] <;> try trivial
    · exact OpS.vals appendOp_only fun v h' m' e => append_sound hT e har k
    · exact OpS.vals capOp_only fun v h' m' e => (cap_sound hT e har k).1
    · exact OpS.vals clearOp_only fun v h' m' e => clear_sound hT e har k
    · exact OpS.vals copyOp_only fun v h' m' e => copy_sound hT e har k
    · exact OpS.vals deleteOp_only fun v h' m' e => delete_sound (t := 0) hT e har k
    · exact OpS.vals lenOp_only fun v h' m' e => (len_sound hT e har k).1
    · exact OpS.vals mnmx_only fun v h' m' e => (max_sound e har k).1
    · exact OpS.vals mnmx_only fun v h' m' e => (min_sound e har k).1
  · rename_i f hf
    refine opt_op fun args ha => ?_
    have har := cOpds_sound hρ ha
    have hf' : VR φ (.fn (.func f) [] []) (ρ (.func f)) := hρ.rd (.func f) _ (hρ.fn f)
    have := callVal_sound (P := P) (h := h) (m := m) (w := w) hf' har ty #[]
    have e2 : callVal (.fn (.func f) [] []) args = .call f args := by
      show forceL ([] ++ args ++ []) _ = _
      rw [forceL_eq]; simp
    rw [e2] at this
    have e : (do let d ← resolve ρ c ty; invoke d.target d.args : Sem Next).run P w = (do let d ← Deferred.ofValue (ρ (.func f)) (c.args.toList.map ρ).toArray; invoke d.target d.args : Sem Next).run P w := by
      simp only [resolve, hf, args_eq c.args ρ]
    simp only [OpS] at this ⊢; rw [e]; exact this
  · rename_i x hne hx
    refine opt_op fun args ha => ?_
    have har := cOpds_sound hρ ha
    refine opt_op fun f hf => ?_
    have := callVal_sound (P := P) (h := h) (m := m) (w := w) (hρ.rd _ _ hf) har ty #[]
    have e : (do let d ← resolve ρ c ty; invoke d.target d.args : Sem Next).run P w = (do let d ← Deferred.ofValue (ρ x) (c.args.toList.map ρ).toArray; invoke d.target d.args : Sem Next).run P w := by
      simp only [resolve, hx, args_eq c.args ρ]
    revert this
    cases callVal f args with
    | bad => intro _; trivial
    | val => intro hr; simp only [OpS] at hr ⊢; rw [e]; exact hr
    | call => intro hr; simp only [OpS] at hr ⊢; rw [e]; exact hr
    | dfr => intro hr; simp only [OpS] at hr ⊢; rw [e]; exact hr
  · trivial

theorem cDefer_sound (hρ : RhoOk rd vs t φ ρ) (c : Call) (ty : TypeId) (k : HR φ h m w) :
    OpS P φ h m w (do pure (.defer (← resolve ρ c ty))) ((cDefer rd c).run T vs t h m) := by
  unfold cDefer
  split
  · rename_i x hx
    refine opt_op fun args ha => ?_
    have har := cOpds_sound hρ ha
    refine opt_op fun f hf => ?_
    have hfr := hρ.rd _ _ hf
    split <;> try trivial
    rename_i g caps
    simp only [VR] at hfr
    obtain ⟨fs', cs', hfe, h1, h2⟩ := hfr
    have h1 := VRs.nil_iff.1 h1
    subst h1
    refine ⟨{ target := .fn (.func g) cs'.toArray, args := (c.args.toList.map ρ).toArray }, ?_, g, cs', _, rfl, h2, har, rfl⟩
    simp only [resolve, hx, hfe, Deferred.ofValue, args_eq c.args ρ, Sem.run_bind, Sem.run_pure, Result.andThen_ok]
    simp
  · trivial

theorem cOp_sound (hT : TOk T P) (hρ : RhoOk rd vs t φ ρ) (o : Oper) (k : HR φ h m w) : OpS P φ h m w (execOp ρ o) ((cOp rd o.op).run T vs t h m) := by
  obtain ⟨dst, op, ty, after, pos, guard⟩ := o
  cases op <;> simp only [cOp, execOp] <;> try trivial
  case move x => exact opt_op fun v hv => OpS.pure k (hρ.rd _ _ hv)
  case assign x => exact opt_op fun v hv => OpS.pure k (hρ.rd _ _ hv)
  case pick c a b =>
    split
    · rename_i cb hc
      have hcr := hρ.rd _ _ hc
      simp only [VR] at hcr
      have hrun : ∀ (v : AV) (x : Value), VR φ v x → (if cb then ρ a else ρ b) = x → OpS P φ h m w (do pure (.value (if ← asBool (ρ c) then ρ a else ρ b))) (.val v h m) := fun v x hx e => by
        refine ⟨.value x, w, φ, ?_, .inl ⟨x, rfl, hx⟩, k, Kept.refl _ _ _, Nx.refl _ _⟩
        rw [← e, hcr]
        simp [asBool]
      cases cb with
      | true => exact opt_op fun v hv => hrun v _ (hρ.rd _ _ hv) rfl
      | false => exact opt_op fun v hv => hrun v _ (hρ.rd _ _ hv) rfl
    · trivial
  case alloc e => exact OpS.vals allocOp_only fun v h' m' e => alloc_sound hT e k
  case box e x =>
    refine opt_op fun a ha => ?_
    refine OpS.vals boxOp_only fun v h' m' e => ?_
    exact boxOp_sound e (hρ.rd _ _ ha) k
  case build t' ps =>
    refine opt_op fun a ha => ?_
    refine OpS.vals buildOp_only fun v h' m' e => ?_
    have := (build_sound hT e (cParts_sound hρ ha) k).1
    have e2 : (ps.map fun x => (x.1, ρ x.2)) = ((ps.toList.map fun p => (p.1, ρ p.2))).toArray := by apply Array.ext'; simp
    rw [e2]; exact this
  case buildSlice t' len ps =>
    refine opt_op fun a ha => ?_
    refine OpS.vals buildSliceOp_only fun v h' m' e => ?_
    have := buildSlice_sound hT e (cParts_sound hρ ha) k
    have e2 : (ps.map fun x => (x.1, ρ x.2)) = ((ps.toList.map fun p => (p.1, ρ p.2))).toArray := by apply Array.ext'; simp
    rw [e2]; exact this
  case load t' a => exact opt_op fun a ha => OpS.vals loadOp_only fun v h' m' e => (load_sound hT e (hρ.rd _ _ ha) k).1
  case store t' a x =>
    refine opt_op fun a ha => opt_op fun x hx => ?_
    cases e : storeOp T t' a x h m with
    | bad => trivial
    | val v h' m' =>
      obtain ⟨rfl, rfl, w', r1, r2, r3⟩ := store_sound hT e (hρ.rd _ _ ha) (hρ.rd _ _ hx) k
      exact unit_op r1 r2 r3
    | call => have := storeOp_only (T := T) (t := t') (a := a) (x := x) (h := h) (m := m); rw [e] at this; exact this.elim
    | dfr => have := storeOp_only (T := T) (t := t') (a := a) (x := x) (h := h) (m := m); rw [e] at this; exact this.elim
  case nilCheck x =>
    refine opt_op fun a ha => ?_
    have hr := hρ.rd _ _ ha
    cases a <;> try trivial
    case pt b o =>
      simp only [VR] at hr
      obtain ⟨c, off, sz, hφ, e⟩ := hr
      rw [e]; exact OpS.pure k (by simp only [VR]; exact ⟨c, off, sz, hφ, rfl⟩)
    case fn f fs cs =>
      cases f <;> try trivial
      simp only [VR] at hr
      obtain ⟨fs, cs, e, h1, h2⟩ := hr
      rw [e]; exact OpS.pure k (by simp only [VR]; exact ⟨fs, cs, rfl, h1, h2⟩)
    case ic ty v =>
      simp only [VR] at hr
      obtain ⟨y, e, h1⟩ := hr
      rw [e]; exact OpS.pure k (by simp only [VR]; exact ⟨y, rfl, h1⟩)
  case binOp op' t' x y ex =>
    refine opt_op fun a ha => opt_op fun b hb => ?_
    refine OpS.vals binOpx_only fun v h' m' e => ?_
    refine (binOpx_sound hT (x := x) (y := y) ?_ e (hρ.rd _ _ ha) (hρ.rd _ _ hb) k).1
    intro hl
    cases x <;> cases y <;> first | rfl | cases hl
  case unOp op' t' x => exact opt_op fun a ha => OpS.vals unOpx_only fun v h' m' e => (unOp_sound e (hρ.rd _ _ ha) k).1
  case convert s d x => exact opt_op fun a ha => OpS.vals convertOp_only fun v h' m' e => convert_sound hT e (hρ.rd _ _ ha) k
  case makeInterface xt x =>
    refine opt_op fun a ha => ?_
    cases hi : isIface T xt with
    | true => trivial
    | false => exact (makeInterface_sound hT hi (hρ.rd _ _ ha) k).op
  case makeFunc fn first caps =>
    refine opt_op fun a ha => opt_op fun b hb => ?_
    refine ⟨.value (.func fn (first.map ρ) (caps.map ρ)), w, φ, by simp [Instr.makeFunc], .inl ⟨_, rfl, ?_⟩, k, Kept.refl _ _ _, Nx.refl _ _⟩
    simp only [VR]
    exact ⟨first.toList.map ρ, caps.toList.map ρ, by rw [args_eq, args_eq], cOpds_sound hρ ha, cOpds_sound hρ hb⟩
  case makeMap t' r =>
    cases r with
    | none => simp only [newBlock_eq]; exact (makeMap_sound k).op
    | some r => trivial
  case makeSlice t' l c => exact opt_op fun a ha => opt_op fun b hb => OpS.vals makeSliceOp_only fun v h' m' e => makeSlice_sound hT e (hρ.rd _ _ ha) (hρ.rd _ _ hb) k
  case slice t' x lo hi mx => exact opt_op fun a ha => opt_op fun b hb => opt_op fun c hc => opt_op fun d hd => OpS.vals sliceOp_only fun v h' m' e => (slice_sound hT e (hρ.rd _ _ ha) (cOpt_sound hρ hb) (cOpt_sound hρ hc) (cOpt_sound hρ hd) k).1
  case fieldAddr t' x f => exact opt_op fun a ha => OpS.vals fieldAddrOp_only fun v h' m' e => (fieldAddr_sound hT e (hρ.rd _ _ ha) k).1
  case field t' x f => exact opt_op fun a ha => OpS.vals fieldOp_only fun v h' m' e => (field_sound hT e (hρ.rd _ _ ha) k).1
  case indexAddr t' x i => exact opt_op fun a ha => opt_op fun b hb => OpS.vals indexAddrOp_only fun v h' m' e => (indexAddr_sound hT e (hρ.rd _ _ ha) (hρ.rd _ _ hb) k).1
  case index t' x i => exact opt_op fun a ha => opt_op fun b hb => OpS.vals indexOp_only fun v h' m' e => (index_sound hT e (hρ.rd _ _ ha) (hρ.rd _ _ hb) k).1
  case lookup t' x i ok => exact opt_op fun a ha => opt_op fun b hb => OpS.vals lookupOp_only fun v h' m' e => (lookup_sound hT e (hρ.rd _ _ ha) (hρ.rd _ _ hb) k).1
  case mapUpdate t' x i y =>
    refine opt_op fun a ha => opt_op fun b hb => opt_op fun c hc => ?_
    cases e : mapUpdateOp T t' a b c h m with
    | bad => trivial
    | val v h' m' =>
      obtain ⟨rfl, rfl, w', r1, r2, r3⟩ := mapUpdate_sound hT e (hρ.rd _ _ ha) (hρ.rd _ _ hb) (hρ.rd _ _ hc) k
      exact unit_op r1 r2 r3
    | call => have := mapUpdateOp_only (T := T) (t := t') (x := a) (k := b) (v := c) (h := h) (m := m); rw [e] at this; exact this.elim
    | dfr => have := mapUpdateOp_only (T := T) (t := t') (x := a) (k := b) (v := c) (h := h) (m := m); rw [e] at this; exact this.elim
  case insert t' x i y =>
    refine opt_op fun a ha => opt_op fun b hb => opt_op fun c hc => ?_
    cases e : mapUpdateOp T t' a b c h m with
    | bad => trivial
    | val v h' m' =>
      obtain ⟨rfl, rfl, w', r1, r2, r3⟩ := mapUpdate_sound hT e (hρ.rd _ _ ha) (hρ.rd _ _ hb) (hρ.rd _ _ hc) k
      exact unit_op r1 r2 r3
    | call => have := mapUpdateOp_only (T := T) (t := t') (x := a) (k := b) (v := c) (h := h) (m := m); rw [e] at this; exact this.elim
    | dfr => have := mapUpdateOp_only (T := T) (t := t') (x := a) (k := b) (v := c) (h := h) (m := m); rw [e] at this; exact this.elim
  case typeAssert x xt a ok => exact opt_op fun b hb => OpS.vals typeAssertOp_only fun v h' m' e => (typeAssert_sound hT e (hρ.rd _ _ hb) k).1
  case extract x i =>
    split
    · rename_i l hl
      exact opt_op fun v hv => (extract_sound (x := .pz) (hρ.rd _ _ hl) hv k).op
    · trivial
  case call c => exact cCall_sound hT hρ c ty k
  case defer c => exact cDefer_sound hρ c ty k
end

end Go.AM
namespace Go.AM

/-- the temporaries: those that this region has written, and those of before -/
structure FR (φ : Emb) (lv : List Nat) (ds : List (Option Nat)) (vs : List AV) (t : Tmps) (tmps : Array Value) : Prop where
  new : ∀ i j v, posOfT i ds = some j → nth vs j = some v → VR φ v (tmps.getD i undef)
  old : ∀ i j v, posOfT i ds = none → findIx i lv = some j → getP t (psN j) = some v → VR φ v (tmps.getD i undef)
  len : vs.length = ds.length

def DRs (φ : Emb) : List ADef → List Deferred → Prop
  | [], l => l = []
  | d :: r, l => ∃ c l', l = c :: l' ∧ DR φ d c ∧ DRs φ r l'

theorem DRs.mono {φ ψ : Emb} (h : φ.le ψ) : ∀ {l : List ADef} {l' : List Deferred}, DRs φ l l' → DRs ψ l l'
  | [], _, k => k
  | _ :: _, _, ⟨c, l', e, h1, h2⟩ => ⟨c, l', e, h1.mono h, DRs.mono h h2⟩

theorem FR.mono {φ ψ : Emb} (h : φ.le ψ) {lv : List Nat} {ds : List (Option Nat)} {vs : List AV} {t : Tmps} {tmps : Array Value} (k : FR φ lv ds vs t tmps) : FR ψ lv ds vs t tmps :=
  ⟨fun i j v a b => VR.mono h _ _ (k.new i j v a b), fun i j v a b c => VR.mono h _ _ (k.old i j v a b c), k.len⟩

theorem FR.rho {φ : Emb} {lv : List Nat} {ds : List (Option Nat)} {vs : List AV} {t : Tmps} {a : Act} (k : FR φ lv ds vs t a.tmps) : RhoOk (cOpd lv ds) vs t φ a.eval := by
  refine ⟨fun x v e => ?_, fun f => rfl⟩
  cases x with
  | tmp i =>
    simp only [cOpd] at e
    split at e
    · rename_i j hj
      exact k.new i j v hj e
    · rename_i hj
      split at e
      · rename_i j hf
        exact k.old i j v hj hf e
      · cases e
  | const c =>
    simp only [cOpd] at e
    split at e
    · rename_i a' ha
      cases e
      exact ofVal_sound ha φ
    · cases e
  | global g => cases e
  | func f =>
    cases e
    simp only [VR]
    exact ⟨[], [], rfl, VRs.nil_iff.2 rfl, VRs.nil_iff.2 rfl⟩

theorem optEq_iff (d : Option Nat) (i : Nat) : optEq d i = true ↔ d = some i := by
  cases d with
  | none => simp [optEq]
  | some j => simp only [optEq, beq_iff]; exact ⟨fun h => by rw [h], fun h => by cases h; rfl⟩

theorem posOfT_cons (i : Nat) (d : Option Nat) (r : List (Option Nat)) : posOfT i (d :: r) = if d = some i then some 0 else (posOfT i r).map Nat.succ := by
  simp only [posOfT]
  by_cases h : d = some i
  · rw [if_pos h, (optEq_iff d i).2 h]; rfl
  · rw [if_neg h]
    cases hb : optEq d i with
    | true => exact absurd ((optEq_iff d i).1 hb) h
    | false => simp only [bi_false]; cases posOfT i r <;> rfl

theorem FR.put {φ : Emb} {lv : List Nat} {ds : List (Option Nat)} {vs : List AV} {t : Tmps} {a : Act} (k : FR φ lv ds vs t a.tmps) {v : AV} {cv : Value} (hv : VR φ v cv) {dst : Option Nat}
    (hd : ∀ d, dst = some d → d < a.tmps.size) : FR φ lv (dst :: ds) (v :: vs) t (a.put dst cv).tmps := by
  have hget : ∀ i, (a.put dst cv).tmps.getD i undef = if dst = some i then cv else a.tmps.getD i undef := fun i => by
    cases dst with
    | none => simp [Act.put]
    | some d =>
      have := hd d rfl
      simp only [Act.put, Array.getD_eq_getD_getElem?, Array.getElem?_setIfInBounds]
      by_cases h : d = i
      · subst h; simp [this]
      · have h' : ¬ (some d = some i) := fun e => h (by cases e; rfl)
        simp [h]
  refine ⟨fun i j u h1 h2 => ?_, fun i j u h1 h2 h3 => ?_, by simp [k.len]⟩
  · rw [posOfT_cons] at h1
    rw [hget]
    by_cases h : dst = some i
    · rw [if_pos h] at h1 ⊢
      cases h1
      rw [nth_eq] at h2; cases h2
      exact hv
    · rw [if_neg h] at h1 ⊢
      cases hp : posOfT i ds with
      | none => rw [hp] at h1; cases h1
      | some q =>
        rw [hp] at h1; cases h1
        rw [nth_eq] at h2
        exact k.new i q u hp (by rw [nth_eq]; simpa using h2)
  · rw [posOfT_cons] at h1
    rw [hget]
    by_cases h : dst = some i
    · rw [if_pos h] at h1; cases h1
    · rw [if_neg h] at h1 ⊢
      cases hp : posOfT i ds with
      | none => exact k.old i j u hp h2 h3
      | some q => rw [hp] at h1; cases h1

theorem findIx_inj : ∀ {lv : List Nat} {i i' j : Nat}, findIx i lv = some j → findIx i' lv = some j → i = i'
  | [], _, _, _, h, _ => by cases h
  | a :: r, i, i', j, h, h' => by
    simp only [findIx] at h h'
    cases h1 : Nat.beq a i with
    | true =>
      rw [h1] at h; simp only [bi_true] at h; cases h
      cases h2 : Nat.beq a i' with
      | true => exact ((beq_iff _ _).1 h1).symm.trans ((beq_iff _ _).1 h2)
      | false =>
        rw [h2] at h'; simp only [bi_false] at h'
        split at h'
        · cases h'
        · cases h'
    | false =>
      rw [h1] at h; simp only [bi_false] at h
      split at h
      · rename_i q hq
        cases h
        cases h2 : Nat.beq a i' with
        | true => rw [h2] at h'; cases h'
        | false =>
          rw [h2] at h'; simp only [bi_false] at h'
          split at h'
          · rename_i q' hq'
            cases h'
            exact findIx_inj hq hq'
          · cases h'
      · cases h

/-- all is put down -/
theorem flush_get (lv : List Nat) : ∀ {ds : List (Option Nat)} {vs : List AV} (t : Tmps), vs.length = ds.length → ∃ t', (∀ k : Tmps → Res, (cFl lv ds).run vs t k = k t') ∧
    ∀ i j, findIx i lv = some j → getP t' (psN j) = match posOfT i ds with
      | some q => nth vs q
      | none => getP t (psN j)
  | [], vs, t, hl => ⟨t, fun k => rfl, fun i j _ => rfl⟩
  | d :: r, [], t, hl => by simp at hl
  | d :: r, v :: vs, t, hl => by
    obtain ⟨t', h1, h2⟩ := flush_get lv (ds := r) (vs := vs) t (by simpa using hl)
    have none' : ∀ i j, findIx i lv = some j → d ≠ some i → getP t' (psN j) = match posOfT i (d :: r) with
        | some q => nth (v :: vs) q
        | none => getP t (psN j) := fun i j hj hne => by
      rw [h2 i j hj, posOfT_cons, if_neg hne]
      cases posOfT i r with
      | none => rfl
      | some q => simp [nth_eq]
    cases d with
    | none => exact ⟨t', fun k => h1 k, fun i j hj => none' i j hj (by simp)⟩
    | some i' =>
      cases hd : findIx i' lv with
      | none =>
        refine ⟨t', fun k => ?_, fun i j hj => none' i j hj (fun e => by cases e; rw [hj] at hd; cases hd)⟩
        simp only [cFl, hd]; exact h1 k
      | some p =>
        refine ⟨setT (some v) (psN p) t', fun k => ?_, fun i j hj => ?_⟩
        · simp only [cFl, hd]
          rw [h1, setK_eq]
        · by_cases he : i' = i
          · subst he
            rw [hd] at hj; cases hj
            rw [posOfT_cons, if_pos rfl]
            simp [nth_eq]
          · have hne : some i' ≠ some i := fun e => he (by cases e; rfl)
            have hpj : psN j ≠ psN p := fun e => he (findIx_inj hd (by rw [psN_inj e] at hj; exact hj))
            rw [get_setT, if_neg hpj]
            exact none' i j hj hne

/-- temporaries, all put down -/
def TR (φ : Emb) (lv : List Nat) (t : Tmps) (tmps : Array Value) : Prop := ∀ i j v, findIx i lv = some j → getP t (psN j) = some v → VR φ v (tmps.getD i undef)

theorem TR.fr {φ : Emb} {lv : List Nat} {t : Tmps} {tmps : Array Value} (k : TR φ lv t tmps) : FR φ lv [] [] t tmps :=
  ⟨fun i j v h => (by cases h), fun i j v _ h2 h3 => k i j v h2 h3, rfl⟩

theorem FR.flush {φ : Emb} {lv : List Nat} {ds : List (Option Nat)} {vs : List AV} {t : Tmps} {tmps : Array Value} (k : FR φ lv ds vs t tmps) :
    ∃ t', (∀ kk : Tmps → Res, (cFl lv ds).run vs t kk = kk t') ∧ TR φ lv t' tmps := by
  obtain ⟨t', h1, h2⟩ := flush_get lv t k.len
  refine ⟨t', h1, fun i j v hj hv => ?_⟩
  rw [h2 i j hj] at hv
  cases hp : posOfT i ds with
  | none => rw [hp] at hv; exact k.old i j v hp hj hv
  | some q => rw [hp] at hv; exact k.new i q v hp hv

end Go.AM
namespace Go.AM

/-- a call, and what comes back -/
def CalledS (P : Program) (φ : Emb) (h : Heap) (m : Ps) (w : World) (f : Nat) (cargs : List Value) (v : AV) (h' : Heap) (m' : Ps) : Prop :=
  (∃ cv w' φ', (callFunc f cargs.toArray).run P w = .ok (.value cv) w' ∧ VR φ' v cv ∧ HR φ' h' m' w' ∧ Kept φ h w φ' h' w' ∧ Nx φ m φ' m') ∨
  ((callFunc f cargs.toArray).run P w = .ok (.enter f cargs.toArray) w ∧ Calls P f cargs.toArray w fun
    | .returned cv, w' => ∃ φ', VR φ' v cv ∧ HR φ' h' m' w' ∧ Kept φ h w φ' h' w' ∧ Nx φ m φ' m'
    | _, _ => False)

def IhOk (P : Program) (ih : Ih) : Prop := ∀ f args h m v h' m', ih f args h m = .ret v h' m' → ∀ φ w cargs, HR φ h m w → VRs φ args cargs → CalledS P φ h m w f cargs v h' m'

/-- a frame's state -/
structure St (φ : Emb) (nt : Nat) (lv : List Nat) (ds : List (Option Nat)) (vs : List AV) (t : Tmps) (d : List ADef) (h : Heap) (m : Ps) (a : Act) (w : World) : Prop where
  fr : FR φ lv ds vs t a.tmps
  de : DRs φ d a.defers
  sz : nt ≤ a.tmps.size
  hr : HR φ h m w

def XE : X → Exit
  | .n => .normal
  | .e i => .exit i
  | .g l => .goto l
  | .r => .ret

section
variable (P : Program) (T : Tab) (n : Nat) (ih : Ih) (nt : Nat) (lv : List Nat)

/-- behind a piece of code: its end, or another one's start -/
def Mid (k : Kt) (r : Res) (φ : Emb) (h : Heap) (m : Ps) (w : World) : Exit → Act → World → Prop
  | .normal, a', w' => ∃ ds' vs' t' d' h' m' φ', (k.go lv ds').run T n ih vs' t' d' h' m' = r ∧ St φ' nt lv ds' vs' t' d' h' m' a' w' ∧ Kept φ h w φ' h' w' ∧ Nx φ m φ' m'
  | e, a', w' => ∃ x t' d' h' m' φ', r = .ok x t' d' h' m' ∧ e = XE x ∧ St φ' nt lv [] [] t' d' h' m' a' w' ∧ Kept φ h w φ' h' w' ∧ Nx φ m φ' m'
end

section
variable {P : Program} {T : Tab} {n : Nat} {ih : Ih} {nt : Nat} {lv : List Nat}

theorem Mid.mono {k : Kt} {r : Res} {φ φ1 : Emb} {h h1 : Heap} {m m1 : Ps} {w w1 : World} (q : Kept φ h w φ1 h1 w1) (hm : Nx φ m φ1 m1) {e : Exit} {a : Act} {w' : World}
    (k1 : Mid T n ih nt lv k r φ1 h1 m1 w1 e a w') : Mid T n ih nt lv k r φ h m w e a w' := by
  cases e with
  | normal =>
    obtain ⟨ds', vs', t', d', h', m', φ', g1, g2, g3, g4⟩ := k1
    exact ⟨ds', vs', t', d', h', m', φ', g1, g2, q.trans g3, hm.trans g4⟩
  | _ =>
    obtain ⟨x, t', d', h', m', φ', g1, g2, g3, g4, g5⟩ := k1
    exact ⟨x, t', d', h', m', φ', g1, g2, g3, q.trans g4, hm.trans g5⟩

/-- another continuation, where the code did not end normally -/
theorem Mid.other {k k' : Kt} {r : Res} {φ : Emb} {h : Heap} {m : Ps} {w : World} {e : Exit} {a : Act} {w' : World} (he : e ≠ .normal)
    (k1 : Mid T n ih nt lv k r φ h m w e a w') : Mid T n ih nt lv k' r φ h m w e a w' := by
  cases e with
  | normal => exact absurd rfl he
  | _ => exact k1

theorem St.flush {φ : Emb} {ds : List (Option Nat)} {vs : List AV} {t : Tmps} {d : List ADef} {h : Heap} {m : Ps} {a : Act} {w : World} (s : St φ nt lv ds vs t d h m a w) :
    ∃ t', (∀ kk : Tmps → Res, (cFl lv ds).run vs t kk = kk t') ∧ St φ nt lv [] [] t' d h m a w := by
  obtain ⟨t', h1, h2⟩ := s.fr.flush
  exact ⟨t', h1, h2.fr, s.de, s.sz, s.hr⟩

/-- the end of a piece of code -/
theorem St.ended {φ : Emb} {x : X} {ds : List (Option Nat)} {vs : List AV} {t : Tmps} {d : List ADef} {h : Heap} {m : Ps} {a : Act} {w : World} (s : St φ nt lv ds vs t d h m a w) :
    ∃ t', (cEnd lv x ds).run T n ih vs t d h m = .ok x t' d h m ∧ St φ nt lv [] [] t' d h m a w := by
  obtain ⟨t', h1, h2⟩ := s.flush
  exact ⟨t', h1 _, h2⟩

/-- what a normal end of finished code says -/
theorem Mid.fin_normal {r : Res} {φ : Emb} {h : Heap} {m : Ps} {w : World} {a : Act} {w' : World} (k : Mid T n ih nt lv .fin r φ h m w .normal a w') :
    ∃ t' d' h' m' φ', r = .ok .n t' d' h' m' ∧ St φ' nt lv [] [] t' d' h' m' a w' ∧ Kept φ h w φ' h' w' ∧ Nx φ m φ' m' := by
  obtain ⟨ds', vs', t', d', h', m', φ', g1, g2, g3, g4⟩ := k
  obtain ⟨t2, q1, q2⟩ := g2.ended (T := T) (n := n) (ih := ih) (x := .n)
  exact ⟨t2, d', h', m', φ', by rw [← g1]; exact q1, q2, g3, g4⟩

/-- behind a whole piece of code, what goes on -/
theorem joined_sound {f : CC} {k : Kt} {r : Res} {vs : List AV} {t : Tmps} {d : List ADef} {h : Heap} {m : Ps} {φ : Emb} {w : World} {x0 : X} {t0 : Tmps} {d0 : List ADef} {h0 : Heap} {m0 : Ps}
    (hr : (joined f k).run T n ih vs t d h m = r) (ho : r = .ok x0 t0 d0 h0 m0) {c : Code} {a : Act}
    (hf : ∀ r1 x1 t1 d1 h1 m1, f.run T n ih vs t d h m = r1 → r1 = .ok x1 t1 d1 h1 m1 → c.wp P (Mid T n ih nt lv .fin r1 φ h m w) a w) :
    c.wp P (Mid T n ih nt lv k r φ h m w) a w := by
  cases k with
  | fin => exact hf r x0 t0 d0 h0 m0 hr ho
  | more g =>
    have hr' : (andThen (f.run T n ih vs t d h m) fun t d h m => (g []).run T n ih [] t d h m) = r := hr
    cases hf1 : f.run T n ih vs t d h m with
    | bad s => rw [hf1] at hr'; rw [← hr'] at ho; cases ho
    | ret v h1 m1 => rw [hf1] at hr'; rw [← hr'] at ho; cases ho
    | ok x1 t1 d1 h1 m1 =>
      refine wp_mono (hf _ x1 t1 d1 h1 m1 hf1 rfl) fun e a' w' hm => ?_
      cases e with
      | normal =>
        obtain ⟨t', d', h', m', φ', g1, g2, g3, g4⟩ := hm.fin_normal
        cases g1
        refine ⟨[], [], t1, d1, h1, m1, φ', ?_, g2, g3, g4⟩
        rw [hf1] at hr'
        exact hr'
      | _ =>
        obtain ⟨x, t', d', h', m', φ', g1, g2, g3, g4, g5⟩ := hm
        cases g1
        refine ⟨x1, t1, d1, h1, m1, φ', ?_, g2, g3, g4, g5⟩
        rw [hf1] at hr'
        cases x1 with
        | n => cases g2
        | _ => exact hr'.symm

theorem VR_bool {φ : Emb} {v : AV} {b : Bool} (h : VR φ v (.bool b)) : v = .bo b := by
  cases v <;> simp [VR] at h
  rw [h]

/-- is it wanted? -/
theorem guard_sound {φ : Emb} {ds : List (Option Nat)} {vs : List AV} {t : Tmps} {a : Act} (k : FR φ lv ds vs t a.tmps) {ops : Array Oper} {j : Nat} {want b : Bool}
    (e : (cGuard (cOpd lv ds) ops.toList j want).run vs t = some b) : (yielded ops a.tmps j == some want) = b := by
  unfold cGuard at e
  split at e
  · rename_i oj hj
    rw [nth_eq] at hj
    have hoj : ops[j]? = some oj := by simpa using hj
    split at e
    · rename_i d hd
      simp only [yielded, hoj, Option.bind_some, hd]
      have hrd := k.rho.rd (.tmp d)
      have hev : a.eval (.tmp d) = a.tmps.getD d undef := rfl
      simp only at e
      split at e
      · rename_i bb hb
        cases e
        have hv := hrd _ hb
        simp only [VR] at hv
        rw [hev, Array.getD_eq_getD_getElem?] at hv
        cases ht : a.tmps[d]? with
        | none => rw [ht] at hv; cases hv
        | some u =>
          rw [ht] at hv
          simp only [Option.getD_some] at hv
          subst hv
          cases bb <;> cases want <;> rfl
      · rename_i v hne hv
        cases e
        have hv' := hrd _ hv
        rw [hev, Array.getD_eq_getD_getElem?] at hv'
        cases ht : a.tmps[d]? with
        | none => rfl
        | some u =>
          rw [ht] at hv'
          simp only [Option.getD_some] at hv'
          cases u <;> first | rfl | exact (hne _ (VR_bool hv')).elim
      · cases e
    · cases e
  · cases e
end

end Go.AM
namespace Go.AM
section
variable {P : Program} {T : Tab} {n : Nat} {ih : Ih} {nt : Nat} {lv : List Nat}

theorem VR_undef (φ : Emb) : VR φ (.tu []) undef := by simp only [VR]; exact ⟨[], rfl, VRs.nil_iff.2 rfl⟩

theorem okDst_lt {nt : Nat} {d : Option Nat} (h : okDst nt d = true) : ∀ x, d = some x → x < nt := by
  intro x hx; subst hx; exact (blt_iff _ _).1 h

theorem put_size (a : Act) (d : Option Nat) (v : Value) : (a.put d v).tmps.size = a.tmps.size := by cases d <;> simp [Act.put]
theorem put_defers (a : Act) (d : Option Nat) (v : Value) : (a.put d v).defers = a.defers := by cases d <;> rfl

theorem St.put {φ φ' : Emb} {ds : List (Option Nat)} {vs : List AV} {t : Tmps} {d : List ADef} {h h' : Heap} {m m' : Ps} {a : Act} {w w' : World} (s : St φ nt lv ds vs t d h m a w) (q : φ.le φ')
    {v : AV} {cv : Value} (hv : VR φ' v cv) {dst : Option Nat} (hd : okDst nt dst = true) (k : HR φ' h' m' w') : St φ' nt lv (dst :: ds) (v :: vs) t d h' m' (a.put dst cv) w' :=
  ⟨(s.fr.mono q).put hv fun x hx => Nat.lt_of_lt_of_le (okDst_lt hd x hx) s.sz, by rw [put_defers]; exact s.de.mono q, by rw [put_size]; exact s.sz, k⟩

/-- an operation, then the rest -/
theorem act_sound (hih : IhOk P ih) (hT : TOk T P) {o : Oper} {ds : List (Option Nat)} {vs : List AV} {t : Tmps} {d : List ADef} {h : Heap} {m : Ps} {φ : Emb} {a : Act} {w : World} (s : St φ nt lv ds vs t d h m a w)
    (hd : okDst nt o.dst = true) {nx : RegC} {sn : List Sn} {r : Res} {i : Nat} {x0 : X} {t0 : Tmps} {d0 : List ADef} {h0 : Heap} {m0 : Ps} (ho : r = .ok x0 t0 d0 h0 m0) {rb : RdB}
    (hr : (cAct ⟨i, o, .plain⟩ (cOp (cOpd lv ds) o.op) rb nx).run T n ih sn vs t d h m = r) {K : Act → World → Prop} {Q : Exit → Act → World → Prop}
    (hnx : ∀ φ' v d' h' m' a' w', nx.run T n ih sn (v :: vs) t d' h' m' = r → St φ' nt lv (o.dst :: ds) (v :: vs) t d' h' m' a' w' → Kept φ h w φ' h' w' → Nx φ m φ' m' → K a' w') :
    o.wp P a w K Q := by
  have hop := cOp_sound (P := P) hT s.fr.rho o s.hr
  simp only [cAct] at hr
  generalize (cOp (cOpd lv ds) o.op).run T vs t h m = res at hop hr
  unfold Oper.wp
  cases res with
  | bad why => simp only at hr; rw [← hr] at ho; cases ho
  | val v h' m' =>
    simp only at hr
    obtain ⟨nn, w', φ', h1, h2, h3, h4, h5⟩ := hop
    rw [h1]
    rcases h2 with ⟨cv, rfl, hv⟩ | ⟨rfl, rfl⟩
    · exact hnx φ' v d h' m' _ w' hr (s.put h4.le hv hd h3) h4 h5
    · exact hnx φ' _ d h' m' _ w' hr (s.put h4.le (VR_undef φ') hd h3) h4 h5
  | call f args =>
    simp only at hr
    obtain ⟨cargs, h1, h2⟩ := hop
    rw [h1]
    cases hc : ih f args h m with
    | bad why => rw [hc] at hr; simp only at hr; rw [← hr] at ho; cases ho
    | ok => rw [hc] at hr; simp only at hr; rw [← hr] at ho; cases ho
    | ret v h' m' =>
      rw [hc] at hr; simp only at hr
      rcases hih f args h m v h' m' hc φ w cargs s.hr h2 with ⟨cv, w', φ', q1, q2, q3, q4, q5⟩ | ⟨q1, q2⟩
      · rw [q1]
        exact hnx φ' v d h' m' _ w' hr (s.put q4.le q2 hd q3) q4 q5
      · rw [q1]
        refine q2.mono fun e w' he => ?_
        cases e with
        | returned cv =>
          obtain ⟨φ', g2, g3, g4, g5⟩ := he
          exact hnx φ' v d h' m' _ w' hr (s.put g4.le g2 hd g3) g4 g5
        | panicked => exact he.elim
        | outgrown => exact he.elim
  | dfr x =>
    simp only at hr
    obtain ⟨c, h1, h2⟩ := hop
    rw [h1]
    have s' : St φ nt lv ds vs t (x :: d) h m { a with defers := c :: a.defers } w := ⟨s.fr, ⟨c, _, rfl, h2, s.de⟩, s.sz, s.hr⟩
    exact hnx φ _ (x :: d) h m _ w hr (s'.put (Emb.le_refl _) (VR_undef φ) hd s.hr) (Kept.refl _ _ _) (Nx.refl _ _)

/-- a region in the order of its text -/
theorem reg_sound (hih : IhOk P ih) (hT : TOk T P) {ops : Array Oper} {k : Kt} {r : Res} {x0 : X} {t0 : Tmps} {d0 : List ADef} {hh0 : Heap} {mm0 : Ps} (ho : r = .ok x0 t0 d0 hh0 mm0)
    {φ0 : Emb} {h0 : Heap} {m0 : Ps} {w0 : World} : ∀ (l : List Oper) (i : Nat) {ds : List (Option Nat)} {vs : List AV} {t : Tmps} {d : List ADef} {h : Heap} {m : Ps} {φ : Emb} {a : Act} {w : World} {sn : List Sn},
    ops.toList.drop i = l → St φ nt lv ds vs t d h m a w → (cReg lv nt ops.toList (k.go lv) (straight i l) ds).run T n ih sn vs t d h m = r → Kept φ0 h0 w0 φ h w → Nx φ0 m0 φ m →
    wpOps P ops (Mid T n ih nt lv k r φ0 h0 m0 w0) (List.range' i l.length) a w
  | [], i, ds, vs, t, d, h, m, φ, a, w, sn, hl, s, hr, hk, hm => ⟨ds, vs, t, d, h, m, φ, hr, s, hk, hm⟩
  | o :: l, i, ds, vs, t, d, h, m, φ, a, w, sn, hl, s, hr, hk, hm => by
    have hoi : ops[i]? = some o := by
      have : ops.toList[i]? = some o := by
        have := congrArg (·[0]?) hl
        simpa [List.getElem?_drop] using this
      simpa using this
    have hl' : ops.toList.drop (i + 1) = l := by
      have := congrArg List.tail hl
      simpa [List.tail_drop] using this
    have ihl := fun {ds vs t d h m φ a w sn} => @reg_sound hih hT ops k r x0 t0 d0 hh0 mm0 ho φ0 h0 m0 w0 l (i + 1) ds vs t d h m φ a w sn hl'
    rw [List.length_cons, List.range'_succ]
    simp only [wpOps, hoi]
    simp only [straight, cReg] at hr
    cases hd : okDst nt o.dst with
    | false => rw [hd] at hr; simp only [bi_false] at hr; rw [← hr] at ho; cases ho
    | true =>
      rw [hd] at hr; simp only [bi_true] at hr
      have hact : ∀ sn, (cAct ⟨i, o, .plain⟩ (cOp (cOpd lv ds) o.op) (cReads (cOpd lv ds) o.op) (cReg lv nt ops.toList (k.go lv) (straight (Nat.succ i) l) (o.dst :: ds))).run T n ih sn vs t d h m = r →
          o.wp P a w (wpOps P ops (Mid T n ih nt lv k r φ0 h0 m0 w0) (List.range' (i + 1) l.length)) (Mid T n ih nt lv k r φ0 h0 m0 w0) := fun sn hr =>
        act_sound hih hT s hd ho hr fun φ' v d' h' m' a' w' q1 q2 q3 q4 => ihl q2 q1 (hk.trans q3) (hm.trans q4)
      cases hg : o.guard with
      | none =>
        rw [hg] at hr
        have hw : Region.wanted o (yielded ops a.tmps) = true := by simp [Region.wanted, hg]
        rw [if_pos hw]
        exact .inl (hact sn hr)
      | some jw =>
        obtain ⟨j, want⟩ := jw
        rw [hg] at hr
        simp only at hr
        cases hgr : (cGuard (cOpd lv ds) ops.toList j want).run vs t with
        | none => rw [hgr] at hr; simp only at hr; rw [← hr] at ho; cases ho
        | some b =>
          rw [hgr] at hr
          have hw : Region.wanted o (yielded ops a.tmps) = b := by
            simp only [Region.wanted, hg]; exact guard_sound s.fr hgr
          cases b with
          | true =>
            rw [if_pos hw]
            exact .inl (hact sn hr)
          | false =>
            rw [if_neg (by rw [hw]; exact Bool.false_ne_true)]
            exact ihl (s.put (Emb.le_refl _) (VR_undef φ) hd s.hr) hr hk hm
end

end Go.AM
