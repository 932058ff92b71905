/-
  Functions, and the whole machine, are sound: what it gives, the program gives; a law without arguments. No condition.
-/
import Derived.Test.YtgachhenjlibjaaGreatDoorAMP6
import Derived.Lib.Bytealg
import Derived.Below
import Derived.Lib.Strings
import Derived.ProofKit
import Derived.Laws.IdiomCopy
import Derived.Laws.IdiomRangeMap
import Derived.ChangeMaps4
namespace Go.AM
section
variable {P : Program} {T : Tab} {n : Nat} {ih : Ih} {nt : Nat} {lv : List Nat}

variable {φ : Emb} {h : Heap} {m : Ps} {w : World} {v : AV} {h' : Heap} {m' : Ps} in
theorem load_pure (hT : TOk T P) {t : Nat} {a : AV} {ca : Value} (e : loadOp T t a h m = .val v h' m') (ha : VR φ a ca) (k : HR φ h m w) :
    (∃ cv, (Instr.loadAt t ca).run P w = .ok cv w ∧ VR φ v cv) ∧ h' = h ∧ m' = m := by
  unfold loadOp at e
  split at e
  · rename_i b o
    simp only [VR] at ha
    obtain ⟨c, off, sz, hφ, rfl⟩ := ha
    split at e
    · rename_i ti hti
      have ok := ty_ok hT hti
      cases hag : ti.agg with
      | true =>
        rw [hag] at e; simp only [bi_true] at e
        split at e
        · rename_i l hl
          cases e
          unfold readCells at hl
          split at hl
          · rename_i blk hb
            obtain ⟨us, u1, u2, u3, u4⟩ := k.cellsL hb hl hφ
            refine ⟨⟨.agg us.toArray, ?_, ?_⟩, rfl, rfl⟩
            · simp only [Instr.loadAt, Instr.sureAddr, pure_bind, loadVar, Sem.run_bind, ok.run_agg, Result.andThen_ok, hag, if_true, ok.run_size]
              rw [← u1, run_loadCells_at u4]
              simp
            · simp only [VR]; exact ⟨us, rfl, u2, u3⟩
          · cases hl
        · cases e
      | false =>
        rw [hag] at e; simp only [bi_false] at e
        split at e
        · rename_i blk hb
          split at e
          · rename_i x hx
            cases e
            obtain ⟨_, u, hu, hr⟩ := k.cell hb hx hφ
            refine ⟨⟨u, ?_, hr⟩, rfl, rfl⟩
            simp only [Instr.loadAt, Instr.sureAddr, pure_bind, loadVar, Sem.run_bind, ok.run_agg, Result.andThen_ok, hag, Bool.false_eq_true, if_false, run_load, hu]
          · cases e
        · cases e
    · cases e
  · cases e

/-- the parameters that are read -/
theorem pa_sound {φ : Emb} (lv : List Nat) (tmps : Array Value) : ∀ (k i : Nat) (vs : List AV) (cvs : List Value) (t : Tmps), VRs φ vs cvs → (∀ j, j < cvs.length → tmps[i + j]? = cvs[j]?) → TR φ lv t tmps →
    ∃ t', (∀ kk : Tmps → Res, (cPa lv i k).run vs t kk = kk t') ∧ TR φ lv t' tmps
  | 0, i, vs, cvs, t, hv, hc, ht => ⟨t, fun kk => rfl, ht⟩
  | k + 1, i, vs, cvs, t, hv, hc, ht => by
    cases vs with
    | nil =>
      refine ⟨t, fun kk => ?_, ht⟩
      simp only [cPa]
      cases findIx i lv <;> rfl
    | cons v vs =>
      simp only [VRs] at hv
      obtain ⟨c, cvs', rfl, h1, h2⟩ := hv
      have hc' : ∀ j, j < cvs'.length → tmps[i + 1 + j]? = cvs'[j]? := fun j hj => by
        have := hc (j + 1) (by simpa using hj)
        rw [show i + 1 + j = i + (j + 1) by omega]; simpa using this
      have hi : tmps.getD i undef = c := by
        have := hc 0 (by simp)
        rw [Array.getD_eq_getD_getElem?]
        simp at this
        rw [this]; rfl
      cases hf : findIx i lv with
      | none =>
        obtain ⟨t', q1, q2⟩ := pa_sound lv tmps k (i + 1) vs cvs' t h2 hc' ht
        refine ⟨t', fun kk => ?_, q2⟩
        simp only [cPa, hf]
        exact q1 kk
      | some j =>
        have ht2 : TR φ lv (setT (some v) (psN j) t) tmps := fun i' j' v' hj' hv' => by
          rw [get_setT] at hv'
          split at hv'
          · rename_i e
            cases hv'
            have e := psN_inj e
            subst e
            rw [findIx_inj hj' hf, hi]; exact h1
          · exact ht i' j' v' hj' hv'
        obtain ⟨t', q1, q2⟩ := pa_sound lv tmps k (i + 1) vs cvs' _ h2 hc' ht2
        refine ⟨t', fun kk => ?_, q2⟩
        simp only [cPa, hf, setK_eq]
        exact q1 kk

theorem slot_sound {φ : Emb} {t : Tmps} {tmps : Array Value} (k : TR φ lv t tmps) {i : Nat} {v : AV} (e : slot lv t i = some v) : VR φ v (tmps.getD i undef) := by
  unfold slot at e
  split at e
  · rename_i j hj; exact k i j v hj e
  · cases e

theorem results_sound (hT : TOk T P) {φ : Emb} {t : Tmps} {tmps : Array Value} (k : TR φ lv t tmps) {h : Heap} {m : Ps} {w : World} (hr : HR φ h m w) : ∀ {l : List ResultVar} {vs : List AV}, resultsA T lv t h m l = some vs →
    ∃ cvs, (l.mapM fun (r : ResultVar) => (match r with
      | .tmp t => pure (tmps.getD t undef)
      | .cell a t => do loadVar t (← asAddr (tmps.getD a undef)) : Sem Value)).run P w = .ok cvs w ∧ VRs φ vs cvs
  | [], vs, e => by cases e; exact ⟨[], rfl, VRs.nil_iff.2 rfl⟩
  | .tmp i :: r, vs, e => by
    simp only [resultsA] at e
    split at e
    · rename_i v l h1 h2
      cases e
      obtain ⟨cvs, q1, q2⟩ := results_sound hT k hr h2
      refine ⟨_ :: cvs, ?_, VRs.cons (slot_sound k h1) q2⟩
      simp only [List.mapM_cons, Sem.run_bind, Sem.run_pure, Result.andThen_ok, q1]
    · cases e
  | .cell i ty :: r, vs, e => by
    simp only [resultsA] at e
    split at e
    · rename_i b o h1
      split at e
      · rename_i v h' m' l h2 h3
        cases e
        obtain ⟨cvs, q1, q2⟩ := results_sound hT k hr h3
        have hs := slot_sound k h1
        obtain ⟨⟨cv, r1, r2⟩, rfl, rfl⟩ := load_pure (P := P) (w := w) hT h2 hs hr
        simp only [VR] at hs
        obtain ⟨c, off, sz, hφ, he⟩ := hs
        refine ⟨cv :: cvs, ?_, VRs.cons r2 q2⟩
        rw [he] at r1
        have r1' : (loadVar ty ⟨c, off + o, none⟩).run P w = .ok cv w := by
          simpa only [Instr.loadAt, Instr.sureAddr, pure_bind] using r1
        have hasA : asAddr (.pointer (some ⟨c, off + o, none⟩)) = pure ⟨c, off + o, none⟩ := rfl
        simp only [List.mapM_cons, he, hasA, pure_bind, Sem.run_bind, r1', Sem.run_pure, Result.andThen_ok, q1]
      · cases e
    · cases e

/-- what a function gives -/
theorem finish_sound (hT : TOk T P) {fn : Func} {φ : Emb} {t : Tmps} {tmps : Array Value} (k : TR φ lv t tmps) {h : Heap} {m : Ps} {w : World} (hr : HR φ h m w) {v : AV} {h' : Heap} {m' : Ps}
    (e : finishA T lv fn t h m = .ret v h' m') : h' = h ∧ m' = m ∧ ∃ cv, (results fn tmps).run P w = .ok cv w ∧ VR φ v cv := by
  have key : ∀ vs cvs, resultsA T lv t h m fn.results.toList = some vs → (fn.results.toList.mapM fun (r : ResultVar) => (match r with
      | .tmp t => pure (tmps.getD t undef)
      | .cell a t => do loadVar t (← asAddr (tmps.getD a undef)) : Sem Value)).run P w = .ok cvs w → (results fn tmps).run P w = .ok (if h : cvs.toArray.size = 1 then cvs.toArray[0] else .tuple cvs.toArray) w := fun vs cvs _ hc => by
    unfold results
    rw [Array.mapM_eq_mapM_toList]
    simp only [map_eq_pure_bind, bind_assoc, pure_bind, Sem.run_bind]
    refine (congrArg (fun x => Result.andThen x _) hc).trans ?_
    rfl
  unfold finishA at e
  split at e
  · rename_i u hu
    cases e
    obtain ⟨cvs, q1, q2⟩ := results_sound hT k hr hu
    simp only [VRs] at q2
    obtain ⟨c, _, rfl, h1, rfl⟩ := q2
    exact ⟨rfl, rfl, c, key _ _ hu q1, h1⟩
  · rename_i l hne hu
    cases e
    obtain ⟨cvs, q1, q2⟩ := results_sound hT k hr hu
    refine ⟨rfl, rfl, .tuple cvs.toArray, ?_, by simp only [VR]; exact ⟨cvs, rfl, q2⟩⟩
    rw [key _ _ hu q1, dif_neg]
    intro hs
    have hl : l.length = 1 := by rw [← q2.length]; simpa using hs
    obtain ⟨x, rfl⟩ := List.length_eq_one_iff.1 hl
    exact hne _ rfl
  · cases e

/-- what is known of the calls that a function leaves behind -/
def IhDOk (P : Program) (ihD : Ih) : Prop := ∀ f args h m v h' m', ihD f args h m = .ret v h' m' → ∀ φ w (cargs : List Value), HR φ h m w → VRs φ args cargs →
    (callFunc f cargs.toArray).run P w = .ok (.enter f cargs.toArray) w ∧ CallsD P f cargs.toArray .returning w fun e u' w' => u' = .returning ∧ (match e with
      | .returned _ => ∃ φ', HR φ' h' m' w' ∧ Kept φ h w φ' h' w' ∧ Nx φ m φ' m'
      | _ => False)

theorem defers_sound {ihD : Ih} (hD : IhDOk P ihD) {fn : Func} {tmps : Array Value} {R : Ending → World → Prop} {kk : Heap → Ps → Res} {v : AV} {h0 : Heap} {m0 : Ps} {φ0 : Emb} {hh0 : Heap} {mm0 : Ps} {w0 : World}
    (hk : ∀ φ h m w, kk h m = .ret v h0 m0 → HR φ h m w → Kept φ0 hh0 w0 φ h w → Nx φ0 mm0 φ m → ∃ cv, (results fn tmps).run P w = .ok cv w ∧ R (.returned cv) w) :
    ∀ (d : List ADef) (c : List Deferred) (φ : Emb) (h : Heap) (m : Ps) (w : World), DRs φ d c → HR φ h m w → Kept φ0 hh0 w0 φ h w → Nx φ0 mm0 φ m → runDefers ihD h m d kk = .ret v h0 m0 → Leaves P fn tmps R c .returning w
  | [], c, φ, h, m, w, hd, hr, hkp, hm, e => by
    cases hd
    obtain ⟨cv, q1, q2⟩ := hk φ h m w e hr hkp hm
    exact ⟨cv, q1, q2⟩
  | x :: d, c, φ, h, m, w, hd, hr, hkp, hm, e => by
    obtain ⟨c1, c', rfl, ⟨f, caps, args, g1, g2, g3, rfl⟩, hd'⟩ := hd
    simp only [runDefers, g1] at e
    split at e
    · rename_i v1 h1 m1 hcall
      obtain ⟨q1, q2⟩ := hD f _ h m v1 h1 m1 hcall φ w (args ++ caps) hr (g3.append g2)
      refine ⟨by simp, .func f, caps.toArray, f, (args ++ caps).toArray, rfl, ?_, fun c0 cs hm0 => ?_⟩
      · simp only [invoke]
        rw [show args.toArray ++ caps.toArray = (args ++ caps).toArray by simp]
        exact q1
      · obtain ⟨e1, u', w', fr, ⟨hu, hR⟩, r2, r3, r4⟩ := q2 c0 cs hm0
        refine ⟨e1, u', w', fr, ?_, r2, r3, r4⟩
        cases e1 with
        | returned vv =>
          obtain ⟨φ', a1, a2, a3⟩ := hR
          subst hu
          exact defers_sound hD hk d c' φ' h1 m1 w' (hd'.mono a2.le) a1 (hkp.trans a2) (hm.trans a3) e
        | panicked => exact hR.elim
        | outgrown => exact hR.elim
    · cases e
    · cases e
end
end Go.AM
namespace Go.AM

/-- no function by the one name that the machine answers itself -/
def NamesOk (P : Program) : Prop := ∀ (f : Nat) (fn : Func), P.funcs[f]? = some fn → (fn.name == "runtime.NumGoroutine") = false

section
variable {P : Program} {T : Tab} {n : Nat} {ih : Ih}

theorem run_callFunc (hn : NamesOk P) {f : Nat} {fn : Func} {c : Code} (hf : P.funcs[f]? = some fn) (hb : fn.body = some c) (args : Array Value) (w : World) : (callFunc f args).run P w = .ok (.enter f args) w := by
  have h1 := hn f fn hf
  simp only [beq_eq_false_iff_ne] at h1
  simp [callFunc, program, Sem.run, hf, h1, hb]

theorem frame_start {φ : Emb} {h : Heap} {m : Ps} {w : World} (hr : HR φ h m w) {fn : Func} {lv : List Nat} {args : List AV} {cargs : List Value} (ha : VRs φ args cargs) :
    ∃ t, (∀ kk : Tmps → Res, (cPa lv 0 (Nat.add fn.params.size fn.nfree)).run args .nil kk = kk t) ∧
      St φ fn.ntmps lv [] [] t [] h m { tmps := cargs.toArray ++ Array.replicate (fn.ntmps - cargs.toArray.size) undef, defers := [] } w := by
  obtain ⟨t, q1, q2⟩ := pa_sound (φ := φ) lv (cargs.toArray ++ Array.replicate (fn.ntmps - cargs.toArray.size) undef) (Nat.add fn.params.size fn.nfree) 0 args cargs .nil ha
    (fun j hj => by rw [Nat.zero_add, Array.getElem?_append_left (by simpa using hj)]; simp) (fun i j v _ hv => by cases hv)
  exact ⟨t, q1, q2.fr, rfl, by simp; omega, hr⟩

theorem St.tr {φ : Emb} {nt : Nat} {lv : List Nat} {t : Tmps} {d : List ADef} {h : Heap} {m : Ps} {a : Act} {w : World} (s : St φ nt lv [] [] t d h m a w) : TR φ lv t a.tmps := by
  intro i j v hj hv
  exact s.fr.old i j v rfl hj hv

theorem fn_sound (hT : TOk T P) (hn : NamesOk P) (hih : IhOk P ih) {ihD : Ih} (hD : IhDOk P ihD) (hdr : ∀ nt lv, DrawnOk P T n ih nt lv) {f : Nat} {fn : Func} {c : Code} (hf : P.funcs[f]? = some fn) (hb : fn.body = some c)
    {lv : List Nat} {args : List AV} {h : Heap} {m : Ps} {v : AV} {h' : Heap} {m' : Ps} (e : (cFnL fn c lv).run T n ih ihD args h m = .ret v h' m') {φ : Emb} {w : World} {cargs : List Value} (hr : HR φ h m w) (ha : VRs φ args cargs) :
    CalledS P φ h m w f cargs v h' m' := by
  refine .inr ⟨run_callFunc hn hf hb _ _, calls_of_wp_defers hf hb ?_⟩
  obtain ⟨t, q1, q2⟩ := frame_start hr (fn := fn) (lv := lv) ha
  simp only [cFnL] at e
  rw [q1] at e
  generalize hres : (cCode lv fn.ntmps c [] .fin).run T n ih [] t [] h m = r at e
  have hfin : ∀ t1 d1 h1 m1 φ1 a1 w1, runDefers ihD h1 m1 d1 (fun h m => finishA T lv fn t1 h m) = .ret v h' m' → St φ1 fn.ntmps lv [] [] t1 d1 h1 m1 a1 w1 → Kept φ h w φ1 h1 w1 → Nx φ m φ1 m1 →
      Leaves P fn a1.tmps (fun | .returned cv, w' => ∃ φ', VR φ' v cv ∧ HR φ' h' m' w' ∧ Kept φ h w φ' h' w' ∧ Nx φ m φ' m' | _, _ => False) a1.defers .returning w1 := fun t1 d1 h1 m1 φ1 a1 w1 he s hk hm => by
    refine defers_sound hD (φ0 := φ1) (hh0 := h1) (mm0 := m1) (w0 := w1) (fun φ2 h2 m2 w2 hf2 hr2 hk2 hm2 => ?_) d1 a1.defers φ1 h1 m1 w1 s.de s.hr (Kept.refl _ _ _) (Nx.refl _ _) he
    have htr : TR φ2 lv t1 a1.tmps := fun i j v' hj hv => VR.mono hk2.le _ _ (s.tr i j v' hj hv)
    obtain ⟨rfl, rfl, cv, g1, g2⟩ := finish_sound hT htr hr2 hf2
    exact ⟨cv, g1, φ2, g2, hr2, hk.trans hk2, hm.trans hm2⟩
  cases r with
  | bad s => cases e
  | ret => cases e
  | ok x1 t1 d1 h1 m1 =>
    refine wp_mono (code_sound hih hT (hdr _ _) c .fin _ x1 t1 d1 h1 m1 rfl [] [] t [] h m φ _ w q2 hres) fun ex a1 w1 hm => ?_
    cases ex with
    | normal =>
      obtain ⟨t', d', h2, m2, φ', g1, g2, g3, g4⟩ := hm.fin_normal
      cases g1
      exact hfin t1 d1 h1 m1 φ' a1 w1 e g2 g3 g4
    | ret =>
      obtain ⟨x, t', d', h2, m2, φ', g1, g2, g3, g4, g5⟩ := hm
      cases g1
      cases x1 with
      | r => exact hfin t1 d1 h1 m1 φ' a1 w1 e g3 g4 g5
      | n => cases g2
      | e i => cases g2
      | g i => cases g2
    | exit id =>
      obtain ⟨x, t', d', h2, m2, φ', g1, g2, g3, g4, g5⟩ := hm
      cases g1
      cases x1 with
      | e i => cases e
      | r => cases g2
      | n => cases g2
      | g i => cases g2
    | goto l =>
      obtain ⟨x, t', d', h2, m2, φ', g1, g2, g3, g4, g5⟩ := hm
      cases g1
      cases x1 with
      | g i => cases e
      | r => cases g2
      | n => cases g2
      | e i => cases g2
    | panic ch =>
      obtain ⟨x, t', d', h2, m2, φ', g1, g2, _⟩ := hm
      cases x <;> cases g2
    | outgrown =>
      obtain ⟨x, t', d', h2, m2, φ', g1, g2, _⟩ := hm
      cases x <;> cases g2

/-- a function that is called behind another one's end -/
theorem fnD_sound (hT : TOk T P) (hn : NamesOk P) (hih : IhOk P ih) (hdr : ∀ nt lv, DrawnOk P T n ih nt lv) {f : Nat} {fn : Func} {c : Code} (hf : P.funcs[f]? = some fn) (hb : fn.body = some c)
    {lv : List Nat} {args : List AV} {h : Heap} {m : Ps} {v : AV} {h' : Heap} {m' : Ps} (e : (cFnL fn c lv).runD T n ih args h m = .ret v h' m') {φ : Emb} {w : World} {cargs : List Value} (hr : HR φ h m w) (ha : VRs φ args cargs) :
    (callFunc f cargs.toArray).run P w = .ok (.enter f cargs.toArray) w ∧ CallsD P f cargs.toArray .returning w fun e u' w' => u' = .returning ∧ (match e with
      | .returned _ => ∃ φ', HR φ' h' m' w' ∧ Kept φ h w φ' h' w' ∧ Nx φ m φ' m'
      | _ => False) := by
  refine ⟨run_callFunc hn hf hb _ _, ?_⟩
  have := callsD_of_wp (P := P) (f := f) (fn := fn) (c := c) (args := cargs.toArray) (u := .returning) (w := w) (R := fun e w' => (match e with
      | .returned _ => ∃ φ', HR φ' h' m' w' ∧ Kept φ h w φ' h' w' ∧ Nx φ m φ' m'
      | _ => False)) hf hb ?_
  · exact this
  obtain ⟨t, q1, q2⟩ := frame_start hr (fn := fn) (lv := lv) ha
  simp only [cFnL] at e
  rw [q1] at e
  generalize hres : (cCode lv fn.ntmps c [] .fin).run T n ih [] t [] h m = r at e
  have hfin : ∀ t1 d1 h1 m1 φ1 a1 w1, noDefers h1 m1 d1 (fun h m => finishA T lv fn t1 h m) = .ret v h' m' → St φ1 fn.ntmps lv [] [] t1 d1 h1 m1 a1 w1 → Kept φ h w φ1 h1 w1 → Nx φ m φ1 m1 →
      a1.defers = [] ∧ ∃ cv, (results fn a1.tmps).run P w1 = .ok cv w1 ∧ ∃ φ', HR φ' h' m' w1 ∧ Kept φ h w φ' h' w1 ∧ Nx φ m φ' m' := fun t1 d1 h1 m1 φ1 a1 w1 he s hk hm => by
    cases d1 with
    | cons => cases he
    | nil =>
      obtain ⟨rfl, rfl, cv, g1, g2⟩ := finish_sound hT s.tr s.hr he
      exact ⟨s.de, cv, g1, φ1, s.hr, hk, hm⟩
  cases r with
  | bad s => cases e
  | ret => cases e
  | ok x1 t1 d1 h1 m1 =>
    refine wp_mono (code_sound hih hT (hdr _ _) c .fin _ x1 t1 d1 h1 m1 rfl [] [] t [] h m φ _ w q2 hres) fun ex a1 w1 hm => ?_
    cases ex with
    | normal =>
      obtain ⟨t', d', h2, m2, φ', g1, g2, g3, g4⟩ := hm.fin_normal
      cases g1
      exact hfin t1 d1 h1 m1 φ' a1 w1 e g2 g3 g4
    | ret =>
      obtain ⟨x, t', d', h2, m2, φ', g1, g2, g3, g4, g5⟩ := hm
      cases g1
      cases x1 with
      | r => exact hfin t1 d1 h1 m1 φ' a1 w1 e g3 g4 g5
      | n => cases g2
      | e i => cases g2
      | g i => cases g2
    | exit id =>
      obtain ⟨x, t', d', h2, m2, φ', g1, g2, g3, g4, g5⟩ := hm
      cases g1
      cases x1 with
      | e i => cases e
      | r => cases g2
      | n => cases g2
      | g i => cases g2
    | goto l =>
      obtain ⟨x, t', d', h2, m2, φ', g1, g2, g3, g4, g5⟩ := hm
      cases g1
      cases x1 with
      | g i => cases e
      | r => cases g2
      | n => cases g2
      | e i => cases g2
    | panic ch =>
      obtain ⟨x, t', d', h2, m2, φ', g1, g2, _⟩ := hm
      cases x <;> cases g2
    | outgrown =>
      obtain ⟨x, t', d', h2, m2, φ', g1, g2, _⟩ := hm
      cases x <;> cases g2
end
end Go.AM
namespace Go.AM

/-- a hand-made summary of one function -/
def NatOk (P : Program) (f : Nat) (g : List AV → Heap → Ps → Res) : Prop :=
  ∀ args h m v h' m', g args h m = .ret v h' m' → ∀ φ w (cargs : List Value), HR φ h m w → VRs φ args cargs → CalledS P φ h m w f cargs v h' m'

/-- .. of one that is called behind a function -/
def NatDOk (P : Program) (f : Nat) (g : List AV → Heap → Ps → Res) : Prop :=
  ∀ args h m v h' m', g args h m = .ret v h' m' → ∀ φ w (cargs : List Value), HR φ h m w → VRs φ args cargs →
    (callFunc f cargs.toArray).run P w = .ok (.enter f cargs.toArray) w ∧ CallsD P f cargs.toArray .returning w fun e u' w' => u' = .returning ∧ (match e with
      | .returned _ => ∃ φ', HR φ' h' m' w' ∧ Kept φ h w φ' h' w' ∧ Nx φ m φ' m'
      | _ => False)

structure EnvOk (P : Program) (E : Env) : Prop where
  tys : TOk E.tys P
  names : NamesOk P
  fns : ∀ f c, getP E.fns (psN f) = some c → (∃ fn, P.funcs[f]? = some fn ∧ c = cFn fn) ∨ (∃ g, c = natC g ∧ ∀ ih, IhOk P ih → NatOk P f (g ih)) ∨ ∃ g, c = natD g ∧ NatDOk P f g
  mixed : P.follows .mixedOrders = true

theorem stepD_sound {P : Program} {E : Env} (k : EnvOk P E) {n : Nat} {ih : Ih} (hih : IhOk P ih) : IhDOk P (stepD E n ih) := by
  intro f args h m v h' m' e φ w cargs hr ha
  unfold stepD at e
  split at e
  · cases e
  · rename_i c hc
    rcases k.fns f c hc with ⟨fn, hf, rfl⟩ | ⟨g, rfl, _⟩ | ⟨g, rfl, hg⟩
    · cases hb : fn.body with
      | none => simp only [cFn, hb] at e; cases e
      | some c =>
        simp only [cFn, hb] at e
        exact fnD_sound k.tys k.names hih (fun nt lv => drawn_ok k.tys k.mixed n ih nt lv hih) hf hb e hr ha
    · cases e
    · exact hg args h m v h' m' e φ w cargs hr ha

theorem step_sound {P : Program} {E : Env} (k : EnvOk P E) {n : Nat} {ih : Ih} (hih : IhOk P ih) : IhOk P (step E n ih) := by
  intro f args h m v h' m' e φ w cargs hr ha
  unfold step at e
  split at e
  · cases e
  · rename_i c hc
    rcases k.fns f c hc with ⟨fn, hf, rfl⟩ | ⟨g, rfl, hg⟩ | ⟨g, rfl, _⟩
    · cases hb : fn.body with
      | none => simp only [cFn, hb] at e; cases e
      | some c =>
        simp only [cFn, hb] at e
        exact fn_sound k.tys k.names hih (stepD_sound k hih) (fun nt lv => drawn_ok k.tys k.mixed n ih nt lv hih) hf hb e hr ha
    · exact hg ih hih args h m v h' m' e φ w cargs hr ha
    · cases e

/-- THE machine is sound: what it gives, the program gives -/
theorem run_sound {P : Program} {E : Env} (k : EnvOk P E) : ∀ n, IhOk P (run E n)
  | 0 => fun f args h m v h' m' e => by cases e
  | n + 1 => by
    have : run E (n + 1) = step E n (run E n) := rfl
    rw [this]
    exact step_sound k (run_sound k n)

theorem nat_idle {P : Program} {f : Nat} {fn : Func} {c : Code} (hn : NamesOk P) (hf : P.funcs[f]? = some fn) (hb : fn.body = some c)
    (hw : ∀ w, CallsD P f #[] .returning w fun e u' w' => e = .returned (.tuple #[]) ∧ u' = .returning ∧ w' = w) : NatDOk P f idleA := by
  intro args h m v h' m' e φ w cargs hr ha
  unfold idleA at e
  split at e
  · cases e
    simp only [VRs] at ha; subst ha
    refine ⟨run_callFunc hn hf hb _ _, (hw w).mono ?_⟩
    rintro e u' w' ⟨rfl, rfl, rfl⟩
    exact ⟨rfl, φ, hr, Kept.refl _ _ _, Nx.refl _ _⟩
  · cases e

/-- the empty heap -/
theorem HR.nil (w : World) : HR (fun _ => none) .nil .e w := ⟨fun _ _ => rfl, fun b blk h => (by cases h), fun b blk b' blk' c off sz off' sz' h => (by cases h)⟩

/-- a call of the program, from any world -/
theorem called {P : Program} {E : Env} (k : EnvOk P E) {n f : Nat} {args : List AV} {cargs : List Value} {v : AV} {h' : Heap} {m' : Ps} (e : run E n f args .nil .e = .ret v h' m') (ha : ∀ φ, VRs φ args cargs) {fn : Func} {c : Code}
    (hf : P.funcs[f]? = some fn) (hb : fn.body = some c) (w : World) : Calls P f cargs.toArray w fun
    | .returned cv, w' => ∃ φ', VR φ' v cv ∧ HR φ' h' m' w' ∧ Kept (fun _ => none) .nil w φ' h' w'
    | _, _ => False := by
  rcases run_sound k n f args .nil .e v h' m' e _ w cargs (HR.nil w) (ha _) with ⟨cv, w', φ', q1, _⟩ | ⟨q1, q2⟩
  · rw [run_callFunc k.names hf hb] at q1; cases q1
  · refine q2.mono fun e w' he => ?_
    cases e with
    | returned cv => obtain ⟨φ', g1, g2, g3, g4⟩ := he; exact ⟨φ', g1, g2, g3⟩
    | panicked => exact he.elim
    | outgrown => exact he.elim

end Go.AM
namespace Go.AM

theorem get_trieOf {α : Type} : ∀ (l : List α) (d : Trie α) (i j : Nat), getP (trieOf d i l) (psN j) = if i ≤ j ∧ j < i + l.length then l[j - i]? else getP d (psN j)
  | [], d, i, j => by simp [trieOf]; intro h1 h2; omega
  | v :: r, d, i, j => by
    simp only [trieOf, setK_eq]
    rw [get_trieOf r _ (Nat.succ i) j, List.length_cons]
    by_cases h : Nat.succ i ≤ j ∧ j < Nat.succ i + r.length
    · have h1 : i ≤ j ∧ j < i + (r.length + 1) := by omega
      rw [if_pos h, if_pos h1, show j - i = (j - Nat.succ i) + 1 by omega, List.getElem?_cons_succ]
    · rw [if_neg h, get_setT]
      by_cases h2 : j = i
      · subst h2
        rw [if_pos rfl, if_pos (by omega)]; simp
      · have h3 : psN j ≠ psN i := fun e => h2 (psN_inj e)
        rw [if_neg h3, if_neg (by omega)]

theorem get_fnsOf : ∀ (l : List Func) (d : Trie FnC) (i j : Nat), getP (fnsOf d i l) (psN j) = if i ≤ j ∧ j < i + l.length then (l[j - i]?).map cFn else getP d (psN j)
  | [], d, i, j => by simp [fnsOf]; intro h1 h2; omega
  | v :: r, d, i, j => by
    simp only [fnsOf, setK_eq]
    rw [get_fnsOf r _ (Nat.succ i) j, List.length_cons]
    by_cases h : Nat.succ i ≤ j ∧ j < Nat.succ i + r.length
    · have h1 : i ≤ j ∧ j < i + (r.length + 1) := by omega
      rw [if_pos h, if_pos h1, show j - i = (j - Nat.succ i) + 1 by omega, List.getElem?_cons_succ]
    · rw [if_neg h, get_setT]
      by_cases h2 : j = i
      · subst h2
        rw [if_pos rfl, if_pos (by omega)]; simp
      · have h3 : psN j ≠ psN i := fun e => h2 (psN_inj e)
        rw [if_neg h3, if_neg (by omega)]

/-- every struct's fields have known types -/
def closedB (P : Program) : Bool := P.types.toList.all fun i => match i.desc with
  | .struct fs => fs.toList.all fun f => Nat.blt f.type P.types.size
  | _ => true

theorem closed_of {P : Program} (h : closedB P = true) : ∀ i, i ∈ P.types.toList → ∀ fs, i.desc = .struct fs → ∀ f, f ∈ fs.toList → f.type < P.types.size := by
  intro i hi fs hd f hf
  have := List.all_eq_true.1 h i hi
  rw [hd] at this
  exact (blt_iff _ _).1 (List.all_eq_true.1 this f hf)

theorem types_ok (P : Program) (t : Nat) : getP (trieOf .nil 0 P.types.toList) (psN t) = P.types[t]? := by
  rw [get_trieOf]
  by_cases h : t < P.types.size
  · rw [if_pos (by simpa using h)]; simp
  · rw [if_neg (by simpa using h), Array.getElem?_eq_none (by omega)]; rfl

theorem fns_ok (P : Program) (f : Nat) (c : FnC) (h : getP (fnsOf .nil 0 P.funcs.toList) (psN f) = some c) : ∃ fn, P.funcs[f]? = some fn ∧ c = cFn fn := by
  rw [get_fnsOf] at h
  split at h
  · rw [Nat.sub_zero] at h
    cases hf : P.funcs[f]? with
    | none => rw [← Array.getElem?_toList] at hf; rw [hf] at h; cases h
    | some fn => rw [← Array.getElem?_toList] at hf; rw [hf] at h; cases h; exact ⟨fn, rfl, rfl⟩
  · cases h

theorem get_withNats : ∀ (l : List (Nat × FnC)) (d : Trie FnC) (j : Nat) (c : FnC), getP (withNats d l) (psN j) = some c → (∃ p, p ∈ l ∧ p.1 = j ∧ p.2 = c) ∨ getP d (psN j) = some c
  | [], d, j, c, h => .inr h
  | (i, x) :: r, d, j, c, h => by
    simp only [withNats, setK_eq] at h
    rcases get_withNats r _ j c h with ⟨p, h1, h2, h3⟩ | h
    · exact .inl ⟨p, List.mem_cons_of_mem _ h1, h2, h3⟩
    · rw [get_setT] at h
      split at h
      · rename_i e; cases h; exact .inl ⟨_, List.mem_cons_self, (psN_inj e).symm, rfl⟩
      · exact .inr h

/-- a program's environment -/
theorem envOk_of {P : Program} {eqs : List Nat} {nats : List (Nat × (Ih → List AV → Heap → Ps → Res))} {idle : List Nat} (hc : closedB P = true) (hn : NamesOk P) (hm : P.follows .mixedOrders = true) (he : ∀ t, t ∈ eqs → EqOk P t)
    (hnat : ∀ p, p ∈ nats → ∀ ih, IhOk P ih → NatOk P p.1 (p.2 ih)) (hidle : ∀ f, f ∈ idle → NatDOk P f idleA) : EnvOk P (envOf P eqs ((nats.map fun p => (p.1, natC p.2)) ++ idle.map fun f => (f, natD idleA))) where
  tys := ⟨types_ok P, he, closed_of hc⟩
  names := hn
  mixed := hm
  fns f c h := by
    rcases get_withNats _ _ f c h with ⟨p, h1, h2, h3⟩ | h
    · rcases List.mem_append.1 h1 with h1 | h1
      · obtain ⟨q, g1, g2⟩ := List.mem_map.1 h1
        subst g2
        exact .inr (.inl ⟨q.2, h3.symm, by rw [← h2]; exact hnat q g1⟩)
      · obtain ⟨q, g1, g2⟩ := List.mem_map.1 h1
        subst g2
        exact .inr (.inr ⟨idleA, h3.symm, by rw [← h2]; exact hidle q g1⟩)
    · exact .inl (fns_ok P f c h)
end Go.AM
namespace Go.AM
open Go.RowKit

/-- a function without a text: the model's own answer -/
theorem nat_ext {P : Program} {f : Nat} {fn : Func} {e : Array Value → Sem Value} {g : List AV → Heap → Ps → Res} (hf : P.funcs[f]? = some fn) (hname : (fn.name == "runtime.NumGoroutine") = false) (hb : fn.body.isNone = true)
    (hn : Extern.findNext fn = none) (he : Extern.find fn = some e)
    (hg : ∀ args h m v h' m', g args h m = .ret v h' m' → ∀ φ (w : World) (cargs : List Value), VRs φ args cargs → h' = h ∧ m' = m ∧ ∃ cv, (e cargs.toArray).run P w = .ok cv w ∧ VR φ v cv) : NatOk P f g := by
  intro args h m v h' m' hr φ w cargs hh ha
  obtain ⟨rfl, rfl, cv, h1, h2⟩ := hg args h m v h' m' hr φ w cargs ha
  exact .inl ⟨cv, w, φ, by rw [run_callFunc_extern hf hname hb hn he, h1]; rfl, h2, hh, Kept.refl _ _ _, Nx.refl _ _⟩

theorem toUInt8_ofNat (c : Nat) : (Int.toNat (Int.ofNat c)).toUInt8 = UInt8.ofNat c := rfl

theorem enc_cons (b : UInt8) (l : List UInt8) : encBytes (b :: l) % 256 = b.toNat ∧ encBytes (b :: l) / 256 = encBytes l := by
  have hb : b.toNat < 256 := b.toNat_lt
  have : encBytes (b :: l) = b.toNat + 256 * encBytes l := rfl
  rw [this]; omega

theorem byte_eq (b : UInt8) (c : Nat) (hc : c < 256) : (b == UInt8.ofNat c) = Nat.beq b.toNat c := by
  cases h : Nat.beq b.toNat c with
  | true =>
    have := (beq_iff _ _).1 h
    rw [beq_iff_eq, ← this]; simp
  | false =>
    have hne : b.toNat ≠ c := fun e => by rw [(beq_iff _ _).2 e] at h; cases h
    rw [beq_eq_false_iff_ne]
    intro e
    apply hne
    rw [e]; simp [Nat.mod_eq_of_lt hc]

theorem countB_eq (c : Nat) (hc : c < 256) : ∀ l : List UInt8, countB c l.length (encBytes l) = Lib.countByte l (UInt8.ofNat c)
  | [] => rfl
  | b :: l => by
    obtain ⟨h1, h2⟩ := enc_cons b l
    rw [List.length_cons]
    simp only [countB]
    rw [mod_eq, div_eq, h1, h2, countB_eq c hc l]
    unfold Lib.countByte
    rw [List.count_cons, byte_eq b c hc]
    cases Nat.beq b.toNat c <;> simp

theorem indexB_eq (c : Nat) (hc : c < 256) : ∀ (l : List UInt8) (i : Nat), (match indexB c l.length i (encBytes l) with | some k => (k : Int) | none => -1) = (if Lib.indexByte l (UInt8.ofNat c) = -1 then -1 else Lib.indexByte l (UInt8.ofNat c) + i)
  | [], i => by simp [indexB, Lib.indexByte]
  | b :: l, i => by
    obtain ⟨h1, h2⟩ := enc_cons b l
    rw [List.length_cons]
    simp only [indexB]
    rw [mod_eq, div_eq, h1, h2]
    unfold Lib.indexByte
    rw [byte_eq b c hc]
    cases hb : Nat.beq b.toNat c with
    | true => simp
    | false =>
      simp only [bi_false, Bool.false_eq_true, if_false]
      rw [indexB_eq c hc l (Nat.succ i)]
      have := Lib.indexByte_ge l (UInt8.ofNat c)
      by_cases h : Lib.indexByte l (UInt8.ofNat c) = -1
      · simp [h]
      · have h' : (Lib.indexByte l (UInt8.ofNat c) == -1) = false := by simpa using h
        rw [if_neg h]
        simp only [h', Bool.false_eq_true, if_false]
        rw [if_neg (by omega)]
        push_cast
        omega

theorem count_ext {P : Program} (args : List AV) (h : Heap) (m : Ps) (v : AV) (h' : Heap) (m' : Ps) (e : countA args h m = .ret v h' m') (φ : Emb) (w : World) (cargs : List Value) (ha : VRs φ args cargs) :
    h' = h ∧ m' = m ∧ ∃ cv, (Extern.BytealgCount.count cargs.toArray).run P w = .ok cv w ∧ VR φ v cv := by
  unfold countA at e
  split at e
  · rename_i n l c
    rw [forceNat_eq] at e
    obtain ⟨hc, e⟩ := bi_ret e
    cases e
    have hc := (blt_iff _ _).1 hc
    simp only [VRs, VR] at ha
    obtain ⟨_, _, rfl, ⟨s, rfl, rfl, rfl⟩, _, _, rfl, rfl, rfl⟩ := ha
    refine ⟨rfl, rfl, _, Lib.run_countString s _ w, ?_⟩
    simp only [VR]
    rw [toUInt8_ofNat, countB_eq c hc]; rfl
  · cases e

theorem indexByte_ext {P : Program} (args : List AV) (h : Heap) (m : Ps) (v : AV) (h' : Heap) (m' : Ps) (e : indexByteA args h m = .ret v h' m') (φ : Emb) (w : World) (cargs : List Value) (ha : VRs φ args cargs) :
    h' = h ∧ m' = m ∧ ∃ cv, (Extern.BytealgIndexByte.indexByte cargs.toArray).run P w = .ok cv w ∧ VR φ v cv := by
  unfold indexByteA at e
  split at e
  · rename_i n l c
    obtain ⟨hc, e⟩ := bi_ret e
    have hc := (blt_iff _ _).1 hc
    simp only [VRs, VR] at ha
    obtain ⟨_, _, rfl, ⟨s, rfl, rfl, rfl⟩, _, _, rfl, rfl, rfl⟩ := ha
    have hi := indexB_eq c hc s.data.toList 0
    have hsame : (if Lib.indexByte s.data.toList (UInt8.ofNat c) = -1 then (-1 : Int) else Lib.indexByte s.data.toList (UInt8.ofNat c) + (0 : Nat)) = Lib.indexByte s.data.toList (UInt8.ofNat c) := by
      split <;> simp_all
    rw [hsame] at hi
    split at e
    · rename_i k hk
      rw [forceNat_eq] at e; cases e
      rw [hk] at hi
      refine ⟨rfl, rfl, _, run_indexByte_string s _ w, ?_⟩
      simp only [VR]
      rw [toUInt8_ofNat, Lib.firstIdx_eq, ← hi]; rfl
    · rename_i hk
      cases e
      rw [hk] at hi
      refine ⟨rfl, rfl, _, run_indexByte_string s _ w, ?_⟩
      simp only [VR]
      rw [toUInt8_ofNat, Lib.firstIdx_eq, ← hi]; rfl
  · cases e

/-- what is left of a world where a call owned nothing -/
theorem Kept.below {w w' : World} {φ' : Emb} {h' : Heap} (k : Kept (fun _ => none) .nil w φ' h' w') : Below w.heap.size w w' :=
  ⟨k.os, k.tape, k.output, k.size, fun r hr => k.block r hr fun ⟨_, _, _, _, h, _⟩ => by cases h⟩

/-- does a call without arguments give true? -/
def isTrue : Res → Bool
  | .ret (.bo b) _ _ => b
  | _ => false

theorem law_true {P : Program} {E : Env} (k : EnvOk P E) {n f : Nat} {fn : Func} {c : Code} (hf : P.funcs[f]? = some fn) (hb : fn.body = some c) (e : isTrue (run E n f [] .nil .e) = true) (w : World) :
    Calls P f #[] w fun e w' => e = .returned (.bool true) ∧ Below w.heap.size w w' := by
  cases hr : run E n f [] .nil .e with
  | bad s => rw [hr] at e; cases e
  | ok => rw [hr] at e; cases e
  | ret v h' m' =>
    rw [hr] at e
    have hv : v = .bo true := by
      cases v <;> simp only [isTrue] at e <;> first | (cases e; done) | (rw [e])
    subst hv
    refine (called k hr (fun φ => VRs.nil_iff.2 rfl) hf hb w).mono fun e w' he => ?_
    cases e with
    | returned cv =>
      obtain ⟨φ', h1, _, h3⟩ := he
      simp only [VR] at h1
      subst h1
      exact ⟨rfl, h3.below⟩
    | panicked => exact he.elim
    | outgrown => exact he.elim
def namesB (P : Program) : Bool := P.funcs.toList.all fun fn => !(fn.name == "runtime.NumGoroutine")
theorem names_of {P : Program} (h : namesB P = true) : NamesOk P := by
  intro f fn hf
  have := List.all_eq_true.1 h fn (by rw [← Array.getElem?_toList] at hf; exact List.mem_of_getElem? hf)
  simpa using this

def eqB (P : Program) (t : Nat) : Bool := !P.stoodInHeld t && !P.eqGuardType P.depth t && (P.fieldsOf t).toList.all fun f => f.name != "_"
theorem eq_of {P : Program} {l : List Nat} (h : l.all (eqB P) = true) : ∀ t, t ∈ l → EqOk P t := fun t ht => by
  have := List.all_eq_true.1 h t ht
  simp only [eqB, Bool.and_eq_true, Bool.not_eq_true'] at this
  exact ⟨this.1.1, this.1.2, this.2⟩
end Go.AM
namespace Go.AM
open Go.RowKit

/-! the text that a key goes on with, and what stands behind it -/
def textedL (acc : List UInt8) : List UInt8 → List UInt8 × List UInt8 × Bool
  | [] => ([], [], false)
  | [_] => ([], [], false)
  | b :: e :: r => if b == 0 then (if e == 0 then (acc, r, true) else if e == 255 then textedL (acc ++ [0]) r else ([], [], false)) else textedL (acc ++ [b]) (e :: r)

theorem textedL_eq (acc : List UInt8) (b e : UInt8) (r : List UInt8) : textedL acc (b :: e :: r) = if b == 0 then (if e == 0 then (acc, r, true) else if e == 255 then textedL (acc ++ [0]) r else ([], [], false)) else textedL (acc ++ [b]) (e :: r) := by
  rw [textedL]

theorem textedL_none : ∀ (l acc : List UInt8), (0 : UInt8) ∉ l → textedL acc l = ([], [], false)
  | [], _, _ => rfl
  | [_], _, _ => rfl
  | b :: e :: r, acc, h => by
    have hb : (b == 0) = false := by
      rw [beq_eq_false_iff_ne]; intro hb; exact h (by rw [hb]; exact List.mem_cons_self)
    rw [textedL_eq, hb]
    simp only [Bool.false_eq_true, if_false]
    exact textedL_none (e :: r) _ fun h' => h (List.mem_cons_of_mem _ h')

theorem textedL_skip : ∀ (pre acc t : List UInt8), (0 : UInt8) ∉ pre → textedL acc (pre ++ 0 :: t) = textedL (acc ++ pre) (0 :: t)
  | [], acc, t, _ => by simp
  | b :: pre, acc, t, h => by
    have hb : (b == 0) = false := by
      rw [beq_eq_false_iff_ne]; intro hb; exact h (by rw [hb]; exact List.mem_cons_self)
    have ih := textedL_skip pre (acc ++ [b]) t fun h' => h (List.mem_cons_of_mem _ h')
    have e1 : ∃ e r, pre ++ 0 :: t = e :: r := by cases pre <;> exact ⟨_, _, rfl⟩
    obtain ⟨e, r, e1⟩ := e1
    rw [List.cons_append, e1]
    rw [e1] at ih
    rw [textedL_eq, hb]
    simp only [Bool.false_eq_true, if_false]
    rw [ih]; simp

theorem index_parts : ∀ l : List UInt8, (Lib.indexByte l 0 = -1 ∧ (0 : UInt8) ∉ l) ∨ ∃ pre t, l = pre ++ 0 :: t ∧ (0 : UInt8) ∉ pre ∧ Lib.indexByte l 0 = (pre.length : Int)
  | [] => .inl ⟨rfl, by simp⟩
  | b :: l => by
    unfold Lib.indexByte
    by_cases hb : b = 0
    · subst hb
      exact .inr ⟨[], l, rfl, by simp, by simp⟩
    · have hb' : (b == 0) = false := by simpa using hb
      rw [hb']
      simp only [Bool.false_eq_true, if_false]
      rcases index_parts l with ⟨h1, h2⟩ | ⟨pre, t, rfl, h2, h3⟩
      · exact .inl ⟨by rw [h1]; rfl, by simpa using ⟨fun e => hb e.symm, h2⟩⟩
      · refine .inr ⟨b :: pre, t, rfl, by simpa using ⟨fun e => hb e.symm, h2⟩, ?_⟩
        rw [h3]
        have : ((pre.length : Int) == -1) = false := by
          rw [beq_eq_false_iff_ne]; omega
        rw [this]
        simp

def strLen : Value → Nat | .string s => s.size | _ => 0


/-- a call that leaves old memory alone -/
theorem nat_calls {P : Program} {f : Nat} {fn : Func} {c : Code} {g : List AV → Heap → Ps → Res} (hn : NamesOk P) (hf : P.funcs[f]? = some fn) (hb : fn.body = some c)
    (hg : ∀ args h m v h' m', g args h m = .ret v h' m' → h' = h ∧ m' = m ∧ ∀ φ (w : World) (cargs : List Value), VRs φ args cargs → Calls P f cargs.toArray w fun e w' => ∃ cv, e = .returned cv ∧ VR φ v cv ∧ Below w.heap.size w w') : NatOk P f g := by
  intro args h m v h' m' hr φ w cargs hh ha
  obtain ⟨rfl, rfl, hc⟩ := hg args h m v h' m' hr
  refine .inr ⟨run_callFunc hn hf hb _ _, (hc φ w cargs ha).mono fun e w' he => ?_⟩
  obtain ⟨cv, rfl, h1, h2⟩ := he
  have gr : Grew w w' := ⟨⟨h2.os, h2.tape, h2.output⟩, h2.size, h2.block⟩
  exact ⟨φ, h1, hh.grow gr, (Kept.refl _ _ _).grow gr, Nx.refl _ _⟩

noncomputable def textedA (args : List AV) (h : Heap) (m : Ps) : Res := match args with
  | [.st n l] => bi (Nat.ble l 1000000) (match textedL [] (bytesL n 0 l) with
    | (t, r, ok) => forceNat (encBytes t) fun tn => forceNat t.length fun tl => forceNat (encBytes r) fun rn => forceNat r.length fun rl => .ret (.tu [.st tn tl, .st rn rl, .bo ok]) h m) (.bad "texted")
  | _ => .bad "texted"

theorem bytesL_enc (s : List UInt8) : bytesL (encBytes s) 0 s.length = s := by
  apply List.ext_getElem?
  intro j
  by_cases hj : j < s.length
  · rw [bytesL_get _ _ _ _ hj, Nat.zero_add, List.getElem?_eq_getElem hj, byteAt_enc s j _ (List.getElem?_eq_getElem hj)]
    simp
  · rw [List.getElem?_eq_none (by rw [bytesL_length]; omega), List.getElem?_eq_none (by omega)]

theorem nat_texted {P : Program} {f : Nat} {fn : Func} {c : Code} (hn : NamesOk P) (hf : P.funcs[f]? = some fn) (hb : fn.body = some c)
    (hw : ∀ (s : ByteArray) (w : World), s.size ≤ 1000000 → Calls P f #[.string s] w fun e w' =>
      e = .returned (.tuple #[.string ⟨(textedL [] s.data.toList).1.toArray⟩, .string ⟨(textedL [] s.data.toList).2.1.toArray⟩, .bool (textedL [] s.data.toList).2.2]) ∧ Below w.heap.size w w') : NatOk P f textedA := by
  refine nat_calls hn hf hb fun args h m v h' m' e => ?_
  unfold textedA at e
  split at e
  · rename_i n l
    obtain ⟨hl, e⟩ := bi_ret e
    have hl := (ble_iff _ _).1 hl
    simp only [forceNat_eq] at e
    generalize hq : textedL [] (bytesL n 0 l) = q at e
    obtain ⟨t, r, ok⟩ := q
    cases e
    refine ⟨rfl, rfl, fun φ w cargs ha => ?_⟩
    simp only [VRs, VR] at ha
    obtain ⟨_, _, rfl, ⟨s, rfl, rfl, rfl⟩, rfl⟩ := ha
    rw [bytesL_enc] at hq
    refine (hw s w hl).mono fun e w' ⟨he, hbl⟩ => ⟨_, he, ?_, hbl⟩
    rw [hq]
    simp only [VR, VRs]
    exact ⟨_, rfl, _, _, rfl, ⟨_, rfl, rfl, rfl⟩, _, _, rfl, ⟨_, rfl, rfl, rfl⟩, _, _, rfl, rfl, rfl⟩
  · cases e
end Go.AM
namespace Go.AM
open Go.RowKit

theorem compareBytes_eq : ∀ x y : List UInt8, Lib.compareBytes x y = if (x == y) = true then 0 else if Op.bytesLess x y = true then -1 else 1
  | [], [] => rfl
  | [], _ :: _ => rfl
  | _ :: _, [] => rfl
  | a :: x, b :: y => by
    have ih := compareBytes_eq x y
    simp only [Lib.compareBytes, Op.bytesLess, ih]
    by_cases h1 : a < b
    · have hne : a ≠ b := fun e => by subst e; exact absurd h1 (UInt8.lt_irrefl a)
      simp [h1, hne]
    · by_cases h2 : b < a
      · have hne : a ≠ b := fun e => by subst e; exact absurd h2 (UInt8.lt_irrefl a)
        simp [h1, h2, hne]
      · have he : a = b := UInt8.le_antisymm (UInt8.not_lt.1 h2) (UInt8.not_lt.1 h1)
        subst he
        simp

theorem cmp_ext {P : Program} (args : List AV) (h : Heap) (m : Ps) (v : AV) (h' : Heap) (m' : Ps) (e : cmpA args h m = .ret v h' m') (φ : Emb) (w : World) (cargs : List Value) (ha : VRs φ args cargs) :
    h' = h ∧ m' = m ∧ ∃ cv, (Extern.BytealgCompare.compare cargs.toArray).run P w = .ok cv w ∧ VR φ v cv := by
  unfold cmpA at e
  split at e
  · rename_i n l n' l'
    simp only [VRs, VR] at ha
    obtain ⟨_, _, rfl, ⟨s, rfl, rfl, rfl⟩, _, _, rfl, ⟨r, rfl, rfl, rfl⟩, rfl⟩ := ha
    rw [strEq_list, strLt_iff _ _ _ (Nat.lt_succ_self _)] at e
    have hc := compareBytes_eq s.data.toList r.data.toList
    have hrun := Lib.run_compareString (P := P) s r w
    cases h1 : s.data.toList == r.data.toList with
    | true =>
      rw [h1] at e; simp only [bi_true] at e; cases e
      refine ⟨rfl, rfl, _, hrun, ?_⟩
      rw [hc, h1]; simp [VR]
    | false =>
      rw [h1] at e; simp only [bi_false] at e
      cases h2 : Op.bytesLess s.data.toList r.data.toList with
      | true =>
        rw [h2] at e; simp only [bi_true] at e; cases e
        refine ⟨rfl, rfl, _, hrun, ?_⟩
        rw [hc, h1, h2]; simp [VR]
      | false =>
        rw [h2] at e; simp only [bi_false] at e; cases e
        refine ⟨rfl, rfl, _, hrun, ?_⟩
        rw [hc, h1, h2]; simp [VR]
  · cases e
end Go.AM
namespace Go.AM

theorem setCell_at {w : World} {c off : Nat} {cur : Array Value} {el : Nat} {fz : Nat × Nat} (h : w.heap[c]? = some (.cells cur el fz)) (v : Value) :
    (w.setCell ⟨c, off, none⟩ v).heap[c]? = some (.cells (cur.setIfInBounds off v) el fz) := by
  have hlt : c < w.heap.size := (Array.getElem?_eq_some_iff.1 h).1
  have hg : w.heap[c] = .cells cur el fz := (Array.getElem?_eq_some_iff.1 h).2
  unfold World.setCell
  simp only [Array.getElem?_modify, if_true, h, Option.map_some, Option.isSome_none, Bool.false_eq_true, if_false]

theorem setCells_at (c : Nat) {el : Nat} {fz : Nat × Nat} : ∀ (L : List Value) (off : Nat) (w : World) (cur : Array Value), w.heap[c]? = some (.cells cur el fz) → off + L.length ≤ cur.size →
    ∃ cur', (w.setCells c off L).heap[c]? = some (.cells cur' el fz) ∧ cur'.size = cur.size ∧ (∀ j, j < L.length → cur'[off + j]? = L[j]?) ∧ ∀ i, (i < off ∨ off + L.length ≤ i) → cur'[i]? = cur[i]?
  | [], off, w, cur, h, _ => ⟨cur, h, rfl, fun j hj => by simp at hj, fun _ _ => rfl⟩
  | v :: L, off, w, cur, h, hs => by
    simp only [List.length_cons] at hs
    obtain ⟨cur', k1, k2, k3, k4⟩ := setCells_at c L (off + 1) (w.setCell ⟨c, off, none⟩ v) (cur.setIfInBounds off v) (setCell_at h v) (by simp; omega)
    refine ⟨cur', by rw [World.setCells]; exact k1, by simpa using k2, fun j hj => ?_, fun i hi => ?_⟩
    · cases j with
      | zero =>
        rw [Nat.add_zero, k4 off (by omega)]
        simp [show off < cur.size by omega]
      | succ j =>
        have := k3 j (by simpa using hj)
        rw [show off + (j + 1) = off + 1 + j by omega, this]; simp
    · simp only [List.length_cons] at hi
      rw [k4 i (by omega)]
      rw [Array.getElem?_setIfInBounds_ne (by omega)]

theorem setCells_other (c : Nat) : ∀ (L : List Value) (off : Nat) (w : World) (k : Nat), k ≠ c → (w.setCells c off L).heap[k]? = w.heap[k]?
  | [], _, _, _, _ => rfl
  | v :: L, off, w, k, hk => by
    rw [World.setCells, setCells_other c L (off + 1) _ k hk]
    exact RowKit.Below.heap_setCell _ _ _ _ hk

theorem setCells_size (c : Nat) : ∀ (L : List Value) (off : Nat) (w : World), (w.setCells c off L).heap.size = w.heap.size
  | [], _, _ => rfl
  | v :: L, off, w => by rw [World.setCells, setCells_size c L]; simp [World.setCell]

theorem setCells_rest (c : Nat) : ∀ (L : List Value) (off : Nat) (w : World), (w.setCells c off L).os = w.os ∧ (w.setCells c off L).tape = w.tape ∧ (w.setCells c off L).output = w.output
  | [], _, _ => ⟨rfl, rfl, rfl⟩
  | v :: L, off, w => by rw [World.setCells]; exact setCells_rest c L _ _

def num (e : MapEntry) : Nat := match e.key with
  | .int _ n => n.toNat
  | _ => 0
def src (w : World) (e : MapEntry) (j : Nat) : Option Value := match e.val with
  | .slice (some a) _ _ => w.cell? ⟨a.block, a.off + j, none⟩
  | _ => none

/-- what is laid: es over the row c, from o on -/
structure LayH (w1 : World) (mb : Nat) (es : Array MapEntry) (clock c o len : Nat) (cs : Array Value) (el : Nat) (fz : Nat × Nat) : Prop where
  map : w1.heap[mb]? = some (.map es clock)
  row : w1.heap[c]? = some (.cells cs el fz)
  fits : o + len ≤ cs.size
  free : ∀ j, fz.1 ≤ j → j < fz.2 → cs.size ≤ j
  born : ∀ e, e ∈ es.toList → e.born < clock
  nodup : (es.toList.map (·.born)).Nodup
  keys : ∀ e, e ∈ es.toList → ∀ e', e' ∈ es.toList → num e = num e' → e.born = e'.born
  ent : ∀ e, e ∈ es.toList → ∃ (n g p bc : Nat) (L : List Value), e.key = .int .i64 n ∧ e.val = .slice (some ⟨g, p, none⟩) 128 bc ∧ n * 128 + 128 ≤ len ∧ g ≠ c ∧ g < w1.heap.size ∧
    L.length = 128 ∧ (∀ j v, L[j]? = some v → w1.cell? ⟨g, p + j, none⟩ = some v) ∧ ∀ v, v ∈ L → v.oneCell' = true

/-- some of it is laid -/
structure Lying (w1 : World) (es : Array MapEntry) (c o : Nat) (cs : Array Value) (el : Nat) (fz : Nat × Nat) (seen : Array Nat) (wr : World) : Prop where
  os : wr.os = w1.os
  tape : wr.tape = w1.tape
  output : wr.output = w1.output
  size : w1.heap.size ≤ wr.heap.size
  others : ∀ k, k < w1.heap.size → k ≠ c → wr.heap[k]? = w1.heap[k]?
  row : ∃ cur, wr.heap[c]? = some (.cells cur el fz) ∧ cur.size = cs.size ∧
    (∀ e, e ∈ es.toList → seen.contains e.born = true → ∀ j, j < 128 → cur[o + num e * 128 + j]? = src w1 e j) ∧
    ∀ i, (∀ e, e ∈ es.toList → seen.contains e.born = true → ¬ (o + num e * 128 ≤ i ∧ i < o + num e * 128 + 128)) → cur[i]? = cs[i]?

theorem Lying.start {w1 : World} {mb : Nat} {es : Array MapEntry} {clock c o len : Nat} {cs : Array Value} {el : Nat} {fz : Nat × Nat} (H : LayH w1 mb es clock c o len cs el fz) : Lying w1 es c o cs el fz #[] w1 :=
  ⟨rfl, rfl, rfl, Nat.le_refl _, fun _ _ _ => rfl, cs, H.row, rfl, fun e _ h => by simp at h, fun _ _ => rfl⟩

theorem Lying.grow {w1 : World} {es : Array MapEntry} {c o : Nat} {cs : Array Value} {el : Nat} {fz : Nat × Nat} {seen : Array Nat} {wr wr' : World} (h : Lying w1 es c o cs el fz seen wr) (hc : c < w1.heap.size)
    (os : wr'.os = wr.os) (tape : wr'.tape = wr.tape) (output : wr'.output = wr.output) (size : wr.heap.size ≤ wr'.heap.size) (others : ∀ k, k < w1.heap.size → wr'.heap[k]? = wr.heap[k]?) : Lying w1 es c o cs el fz seen wr' where
  os := os.trans h.os
  tape := tape.trans h.tape
  output := output.trans h.output
  size := Nat.le_trans h.size size
  others k hk hkc := (others k hk).trans (h.others k hk hkc)
  row := by
    obtain ⟨cur, h1, h2⟩ := h.row
    exact ⟨cur, (others c hc).trans h1, h2⟩

theorem Lying.step {w1 : World} {mb : Nat} {es : Array MapEntry} {clock c o len : Nat} {cs : Array Value} {el : Nat} {fz : Nat × Nat} (H : LayH w1 mb es clock c o len cs el fz) {seen : Array Nat} {wr : World}
    (h : Lying w1 es c o cs el fz seen wr) {e : MapEntry} (he : e ∈ (leftOf es seen).toList) {n g p bc : Nat} {L : List Value} (hk : e.key = .int .i64 n) (hv : e.val = .slice (some ⟨g, p, none⟩) 128 bc) (hn : n * 128 + 128 ≤ len)
    (hL : L.length = 128) (hsrc : ∀ j v, L[j]? = some v → w1.cell? ⟨g, p + j, none⟩ = some v) : Lying w1 es c o cs el fz (seen.push e.born) (wr.setCells c (o + n * 128) L) := by
  obtain ⟨hin, hns⟩ : e ∈ es.toList ∧ seen.contains e.born = false := by
    unfold leftOf at he
    simp at he
    exact ⟨by simpa using he.1, by simpa using he.2⟩
  have hnum : num e = n := by simp [num, hk]
  obtain ⟨cur, h1, h2, h3, h4⟩ := h.row
  have hf := H.fits
  obtain ⟨cur', k1, k2, k3, k4⟩ := setCells_at c L (o + n * 128) wr cur h1 (by omega)
  obtain ⟨r1, r2, r3⟩ := setCells_rest c L (o + n * 128) wr
  refine ⟨r1.trans h.os, r2.trans h.tape, r3.trans h.output, by rw [setCells_size]; exact h.size, fun k hk hkc => (setCells_other c L _ wr k hkc).trans (h.others k hk hkc), cur', k1, by omega, fun e' he' hs j hj => ?_, fun i hi => ?_⟩
  · rw [Array.contains_push] at hs
    by_cases hb : e'.born = e.born
    · -- the same entry
      have hee : e' = e := by
        have q1 := find_born e' es.toList H.nodup he'
        have q2 := find_born e es.toList H.nodup hin
        rw [hb] at q1
        exact Option.some.inj (q1.symm.trans q2)
      subst hee
      rw [hnum, k3 j (by omega)]
      have hj' : j < L.length := by omega
      rw [List.getElem?_eq_getElem hj']
      simp only [src, hv]
      exact (hsrc j _ (List.getElem?_eq_getElem hj')).symm
    · have hs' : seen.contains e'.born = true := by
        rcases Bool.or_eq_true _ _ ▸ hs with h' | h'
        · exact h'
        · exact absurd (by simpa using h') hb
      have hne : num e' ≠ n := fun hx => hb (H.keys e' he' e hin (by rw [hx, hnum]))
      rw [k4 _ (by
        rcases Nat.lt_or_gt_of_ne hne with h' | h'
        · left
          have : num e' * 128 + 128 ≤ n * 128 := by omega
          omega
        · right
          have : n * 128 + 128 ≤ num e' * 128 := by omega
          omega)]
      exact h3 e' he' hs' j hj
  · have h5 := hi e hin (by rw [Array.contains_push]; simp)
    rw [hnum] at h5
    rw [k4 i (by omega)]
    exact h4 i fun e' he' hs => hi e' he' (by rw [Array.contains_push, hs]; simp)
end Go.AM
namespace Go.AM
open Go.RowKit

noncomputable section
def orRes (r : OR) : Res := match r with
  | .val v h m => .ret v h m
  | .bad w => .bad w
  | _ => .bad "by hand"

def layPs (h : Heap) (db : Ps) : List (AV × AV × Nat) → Option (List (Nat × Nat))
  | [] => some []
  | (.it .i64 (.ofNat n), .sl b o len _ e _, _) :: r => bi (psEq b db) none (bi (Nat.beq len 128) (bi (Nat.beq e 1) (match readBytes h b o 128, layPs h db r with
    | some y, some l => some ((n, y) :: l)
    | _, _ => none) none) none)
  | _ => none

def layZ (dob : Nat) : List (Nat × Nat) → Nat → Nat
  | [], z => z
  | (n, y) :: r, z => forceNat (splice z (Nat.add dob (Nat.mul n 128)) 128 y) fun z => layZ dob r z

def freshN (n : Nat) : List (Nat × Nat) → Bool
  | [] => true
  | (k, _) :: r => bi (Nat.beq n k) false (freshN n r)
def numsOk (len : Nat) : List (Nat × Nat) → Bool
  | [] => true
  | (n, _) :: r => bi (Nat.ble (Nat.add (Nat.mul n 128) 128) len) (bi (freshN n r) (numsOk len r) false) false
def freshB (n : Nat) : List (AV × AV × Nat) → Bool
  | [] => true
  | (_, _, k) :: r => bi (Nat.beq n k) false (freshB n r)
def bornsOk (clock : Nat) : List (AV × AV × Nat) → Bool
  | [] => true
  | (_, _, b) :: r => bi (Nat.blt b clock) (bi (freshB b r) (bornsOk clock r) false) false

/-- dev.lay -/
def layA (over : Nat) (ih : Ih) (args : List AV) (h : Heap) (m : Ps) : Res := match args with
  | [.ag [.sl db dob dlen _ e _, _, _], l] => bi (Nat.ble dlen 1099511627776) (bi (Nat.beq e 1) (bi (Nat.blt 0 dlen) (match ih over [l] h m with
    | .ret (.mp mb) h1 m1 => match getP h1 mb, getP h1 db with
      | some (.ma es clock), some (.by z size own anc) => bi own (bi (Nat.ble (Nat.add dob dlen) size) (bi (bornsOk clock es) (orRes (kills h1 anc fun h2 => match layPs h2 db es with
        | some ps => bi (numsOk dlen ps) (forceNat (layZ dob ps z) fun z => setK (some (.by z size true [])) db h2 fun h3 => .val (.tu []) h3 m1) (.bad "lay: numbers")
        | none => .bad "lay: entries")) (.bad "lay: borns")) (.bad "lay: size")) (.bad "lay: own")
      | _, _ => .bad "lay: blocks"
    | _ => .bad "lay: over") (.bad "lay")) (.bad "lay")) (.bad "lay")
  | _ => .bad "lay args"

end

/-! what they mean -/
def PsR (w1 : World) (c : Nat) : List (Nat × Nat) → List MapEntry → Prop
  | [], l => l = []
  | (n, y) :: r, l => ∃ e l', l = e :: l' ∧ (e.key = .int .i64 n ∧ ∃ (g p bc : Nat) (bs : List UInt8), e.val = .slice (some ⟨g, p, none⟩) 128 bc ∧ g ≠ c ∧ g < w1.heap.size ∧ bs.length = 128 ∧ encBytes bs = y ∧
      ∀ (j : Nat) (x : UInt8), bs[j]? = some x → w1.cell? ⟨g, p + j, none⟩ = some (u8 x)) ∧ PsR w1 c r l'

theorem PsR.of_mem {w1 : World} {c : Nat} : ∀ {ps : List (Nat × Nat)} {l : List MapEntry}, PsR w1 c ps l → ∀ e, e ∈ l → ∃ n y, (n, y) ∈ ps ∧ e.key = .int .i64 n ∧ ∃ (g p bc : Nat) (bs : List UInt8), e.val = .slice (some ⟨g, p, none⟩) 128 bc ∧ g ≠ c ∧ g < w1.heap.size ∧ bs.length = 128 ∧ encBytes bs = y ∧
      ∀ (j : Nat) (x : UInt8), bs[j]? = some x → w1.cell? ⟨g, p + j, none⟩ = some (u8 x)
  | [], _, h, e, he => by simp only [PsR] at h; subst h; cases he
  | (n, y) :: r, _, h, e, he => by
    simp only [PsR] at h
    obtain ⟨e', l', rfl, h1, h2⟩ := h
    rcases List.mem_cons.1 he with rfl | he
    · exact ⟨n, y, List.mem_cons_self, h1⟩
    · obtain ⟨n', y', g1, g2⟩ := PsR.of_mem h2 e he
      exact ⟨n', y', List.mem_cons_of_mem _ g1, g2⟩

theorem PsR.to_mem {w1 : World} {c : Nat} : ∀ {ps : List (Nat × Nat)} {l : List MapEntry}, PsR w1 c ps l → ∀ n y, (n, y) ∈ ps → ∃ e, e ∈ l ∧ e.key = .int .i64 n ∧ ∃ (g p bc : Nat) (bs : List UInt8), e.val = .slice (some ⟨g, p, none⟩) 128 bc ∧ g ≠ c ∧ g < w1.heap.size ∧ bs.length = 128 ∧ encBytes bs = y ∧
      ∀ (j : Nat) (x : UInt8), bs[j]? = some x → w1.cell? ⟨g, p + j, none⟩ = some (u8 x)
  | [], _, _, n, y, he => by cases he
  | (n', y') :: r, _, h, n, y, he => by
    simp only [PsR] at h
    obtain ⟨e', l', rfl, h1, h2⟩ := h
    rcases List.mem_cons.1 he with he | he
    · cases he; exact ⟨e', List.mem_cons_self, h1⟩
    · obtain ⟨e, g1, g2⟩ := PsR.to_mem h2 n y he
      exact ⟨e, List.mem_cons_of_mem _ g1, g2⟩

theorem freshN_spec {n : Nat} : ∀ {l : List (Nat × Nat)}, freshN n l = true → ∀ k y, (k, y) ∈ l → k ≠ n
  | [], _, k, y, h => by cases h
  | (k', y') :: r, e, k, y, h => by
    simp only [freshN] at e
    cases hb : Nat.beq n k' with
    | true => rw [hb] at e; cases e
    | false =>
      rw [hb] at e; simp only [bi_false] at e
      rcases List.mem_cons.1 h with h | h
      · cases h
        intro e'
        subst e'
        rw [(beq_iff _ _).2 rfl] at hb; cases hb
      · exact freshN_spec e k y h

theorem numsOk_cons {len n y : Nat} {r : List (Nat × Nat)} (e : numsOk len ((n, y) :: r) = true) : n * 128 + 128 ≤ len ∧ freshN n r = true ∧ numsOk len r = true := by
  simp only [numsOk] at e
  cases h1 : Nat.ble (Nat.add (Nat.mul n 128) 128) len with
  | false => rw [h1] at e; cases e
  | true =>
    rw [h1] at e; simp only [bi_true] at e
    cases h2 : freshN n r with
    | false => rw [h2] at e; cases e
    | true => rw [h2] at e; exact ⟨(ble_iff _ _).1 h1, rfl, e⟩

theorem numsOk_le {len : Nat} : ∀ {l : List (Nat × Nat)}, numsOk len l = true → ∀ k y, (k, y) ∈ l → k * 128 + 128 ≤ len
  | [], _, k, y, h => by cases h
  | (k', y') :: r, e, k, y, h => by
    obtain ⟨h1, h2, h3⟩ := numsOk_cons e
    rcases List.mem_cons.1 h with h | h
    · cases h; exact h1
    · exact numsOk_le h3 k y h

/-- entries with the same number are the same -/
theorem PsR.keys {w1 : World} {c len : Nat} : ∀ {ps : List (Nat × Nat)} {l : List MapEntry}, PsR w1 c ps l → numsOk len ps = true → ∀ e, e ∈ l → ∀ e', e' ∈ l → num e = num e' → e.born = e'.born
  | [], _, h, _, e, he, _, _, _ => by simp only [PsR] at h; subst h; cases he
  | (n, y) :: r, _, h, hn, e, he, e', he', hx => by
    simp only [PsR] at h
    obtain ⟨e0, l', rfl, ⟨h1, _⟩, h2⟩ := h
    obtain ⟨_, k2, k3⟩ := numsOk_cons hn
    have hn0 : num e0 = n := by simp [num, h1]
    have hne : ∀ q, q ∈ l' → num q ≠ n := fun q hq => by
      obtain ⟨k, y', g1, g2, _⟩ := PsR.of_mem h2 q hq
      have : num q = k := by simp [num, g2]
      rw [this]; exact freshN_spec k2 k y' g1
    rcases List.mem_cons.1 he with rfl | he
    · rcases List.mem_cons.1 he' with rfl | he'
      · rfl
      · exact absurd (hx.symm.trans hn0) (hne _ he')
    · rcases List.mem_cons.1 he' with h0 | he'
      · exact absurd (hx.trans (by rw [h0]; exact hn0)) (hne _ he)
      · exact PsR.keys h2 k3 e he e' he' hx

theorem freshB_spec {φ : Emb} {n : Nat} : ∀ {es : List (AV × AV × Nat)} {l : List MapEntry}, ERs φ es l → freshB n es = true → ∀ e, e ∈ l → e.born ≠ n
  | [], _, h, _, e, he => by simp only [ERs] at h; subst h; cases he
  | (k, v, b) :: r, _, h, hf, e, he => by
    simp only [ERs] at h
    obtain ⟨e0, l', rfl, _, _, h3, h4⟩ := h
    simp only [freshB] at hf
    cases hb : Nat.beq n b with
    | true => rw [hb] at hf; cases hf
    | false =>
      rw [hb] at hf; simp only [bi_false] at hf
      rcases List.mem_cons.1 he with rfl | he
      · intro e'
        rw [← e', h3, (beq_iff _ _).2 rfl] at hb; cases hb
      · exact freshB_spec h4 hf e he

theorem bornsOk_spec {φ : Emb} {clock : Nat} : ∀ {es : List (AV × AV × Nat)} {l : List MapEntry}, ERs φ es l → bornsOk clock es = true → (∀ e, e ∈ l → e.born < clock) ∧ (l.map (·.born)).Nodup
  | [], _, h, _ => by
    simp only [ERs] at h
    subst h
    exact ⟨fun e he => (by cases he), by simp⟩
  | (k, v, b) :: r, _, h, hf => by
    simp only [ERs] at h
    obtain ⟨e0, l', rfl, _, _, h3, h4⟩ := h
    simp only [bornsOk] at hf
    cases h1 : Nat.blt b clock with
    | false => rw [h1] at hf; cases hf
    | true =>
      rw [h1] at hf; simp only [bi_true] at hf
      cases h2 : freshB b r with
      | false => rw [h2] at hf; cases hf
      | true =>
        rw [h2] at hf
        obtain ⟨k1, k2⟩ := bornsOk_spec h4 hf
        refine ⟨fun e he => ?_, ?_⟩
        · rcases List.mem_cons.1 he with rfl | he
          · rw [h3]; exact (blt_iff _ _).1 h1
          · exact k1 e he
        · rw [List.map_cons, List.nodup_cons]
          refine ⟨fun hm => ?_, k2⟩
          obtain ⟨q, hq, hqe⟩ := List.mem_map.1 hm
          exact freshB_spec h4 h2 q hq (hqe.trans h3)

theorem layZ_spec (dob : Nat) : ∀ (ps : List (Nat × Nat)) (z : Nat) (len : Nat), numsOk len ps = true → (∀ n y, (n, y) ∈ ps → y < 256 ^ 128) →
    (∀ i, (∀ n y, (n, y) ∈ ps → ¬ (dob + n * 128 ≤ i ∧ i < dob + n * 128 + 128)) → byteAt (layZ dob ps z) i = byteAt z i) ∧
    ∀ n y, (n, y) ∈ ps → ∀ j, j < 128 → byteAt (layZ dob ps z) (dob + n * 128 + j) = byteAt y j
  | [], z, _, _, _ => ⟨fun _ _ => rfl, fun n y h => by cases h⟩
  | (n, y) :: r, z, len, hn, hy => by
    obtain ⟨_, k2, k3⟩ := numsOk_cons hn
    obtain ⟨g1, g2⟩ := layZ_spec dob r (splice z (dob + n * 128) 128 y) len k3 fun n y h => hy n y (List.mem_cons_of_mem _ h)
    have e : layZ dob ((n, y) :: r) z = layZ dob r (splice z (dob + n * 128) 128 y) := by simp only [layZ, forceNat_eq]; rfl
    have hs := byteAt_splice z (dob + n * 128) 128 (hy n y List.mem_cons_self)
    refine ⟨fun i hi => ?_, fun n' y' h' j hj => ?_⟩
    · rw [e, g1 i fun n y h => hi n y (List.mem_cons_of_mem _ h), hs, if_neg (hi n y List.mem_cons_self)]
    · rw [e]
      rcases List.mem_cons.1 h' with h' | h'
      · cases h'
        rw [g1 _ fun k y' hk => ?_, hs, if_pos (by omega), Nat.add_sub_cancel_left]
        have := freshN_spec k2 k y' hk
        rcases Nat.lt_or_gt_of_ne this with h | h
        · have : k * 128 + 128 ≤ n * 128 := by omega
          omega
        · have : n * 128 + 128 ≤ k * 128 := by omega
          omega
      · exact g2 n' y' h' j hj

theorem psEq_refl : ∀ p : Ps, psEq p p = true
  | .e => rfl
  | .o p => psEq_refl p
  | .i p => psEq_refl p

theorem layPs_spec {φ : Emb} {h2 : Heap} {m : Ps} {w1 : World} {db : Ps} {c off sz : Nat} (k : HR φ h2 m w1) (hd : φ db = some (c, off, sz)) (hap : ∀ b blk off' sz', getP h2 b = some blk → b ≠ db → φ b ≠ some (c, off', sz')) :
    ∀ {es : List (AV × AV × Nat)} {l : List MapEntry} {ps : List (Nat × Nat)}, ERs φ es l → layPs h2 db es = some ps → PsR w1 c ps l
  | [], l, ps, h, e => by
    simp only [ERs] at h; subst h
    cases e; rfl
  | (a, v, b) :: r, l, ps, h, e => by
    simp only [ERs] at h
    obtain ⟨e0, l', rfl, g1, g2, _, g4⟩ := h
    unfold layPs at e
    split at e
    · rename_i heq
      cases heq
    · rename_i n b1 o len cap ee op born r' heq
      cases heq
      cases hps : psEq b1 db with
      | true => rw [hps] at e; cases e
      | false =>
        rw [hps] at e; simp only [bi_false] at e
        obtain ⟨h128, e⟩ := bi_some e
        obtain ⟨h1e, e⟩ := bi_some e
        have h128 : len = 128 := (beq_iff _ _).1 h128
        have h1e : ee = 1 := (beq_iff _ _).1 h1e
        subst h128 h1e
        split at e
        · rename_i y q hy hq
          cases e
          simp only [VR] at g1 g2
          obtain ⟨ad, ccap, hv, hs1, hs2, _, hs4⟩ := g2
          obtain ⟨g, off', sz', hb, had, _⟩ := hs4 (by omega)
          subst had
          have hne : b1 ≠ db := fun e' => by subst e'; rw [psEq_refl] at hps; cases hps
          have hthere : ∃ blk, getP h2 b1 = some blk := by
            unfold readBytes at hy
            cases hg : getP h2 b1 with
            | none => rw [hg] at hy; cases hy
            | some blk => exact ⟨blk, rfl⟩
          obtain ⟨blk, hblk⟩ := hthere
          have hgc : g ≠ c := fun e' => by subst e'; exact hap b1 blk off' sz' hblk hne hb
          obtain ⟨c1, off1, sz1, j1, j2⟩ := k.blocks b1 blk hblk
          rw [hb] at j1; cases j1
          obtain ⟨bs, b2, b3, b4⟩ := k.bytes hy hb
          simp only [PsR]
          exact ⟨e0, l', rfl, ⟨g1, g, off' + o, ccap, bs, hv, hgc, j2.there, b2, b3, b4⟩, layPs_spec k hd hap g4 hq⟩
        · cases e
    · cases e

theorem orRes_ret {r : OR} {v : AV} {h : Heap} {m : Ps} (e : orRes r = .ret v h m) : r = .val v h m := by
  unfold orRes at e
  split at e <;> cases e
  rfl

theorem nat_lay {P : Program} {f over D : Nat} {fn fo : Func} {c0 co : Code} (hn : NamesOk P) (hf : P.funcs[f]? = some fn) (hb : fn.body = some c0) (hfo : P.funcs[over]? = some fo) (hbo : fo.body = some co)
    (hw : ∀ (c o len cap : Nat) (x1 x2 l : Value) (w : World), len ≤ cap → len ≤ 1099511627776 → ∀ (Q : World → Nat → Array MapEntry → Nat → Array Value → Nat → Nat × Nat → Prop),
      Calls P over #[l] (w.alloc (.cells #[.slice (some ⟨c, o, none⟩) len cap, x1, x2] D)) (fun e w1 => ∃ mb es clock cs el fz, e = .returned (.map (some mb)) ∧ LayH w1 mb es clock c o len cs el fz ∧
        w1.heap[w.heap.size]? = some (.cells #[.slice (some ⟨c, o, none⟩) len cap, x1, x2] D) ∧ w.heap.size ≠ c ∧ Q w1 mb es clock cs el fz) →
      Calls P f #[.agg #[.slice (some ⟨c, o, none⟩) len cap, x1, x2], l] w fun e w' => e = .returned (.tuple #[]) ∧ ∃ w1 mb es clock cs el fz seen, LayH w1 mb es clock c o len cs el fz ∧ Q w1 mb es clock cs el fz ∧
        Lying w1 es c o cs el fz seen w' ∧ ∀ e, e ∈ es.toList → seen.contains e.born = true)
    (ih : Ih) (hih : IhOk P ih) : NatOk P f (layA over ih) := by
  intro args h m v h' m' e φ w cargs hh ha
  unfold layA at e
  split at e
  · rename_i db dob dlen dcap de dop x1 x2 l
    obtain ⟨hdl0, e1⟩ := bi_ret e
    obtain ⟨hde0, e2⟩ := bi_ret e1
    obtain ⟨hd00, e3⟩ := bi_ret e2
    have hdl := (ble_iff _ _).1 hdl0
    have hde := (beq_iff _ _).1 hde0
    have hd0 := (blt_iff _ _).1 hd00
    clear hdl0 hde0 hd00 e e1 e2
    subst hde
    have e := e3
    clear e3
    split at e
    · rename_i mb h1 m1 hcall
      split at e
      · rename_i es clock z size own anc hmb hdb
        obtain ⟨hown, e1⟩ := bi_ret e
        obtain ⟨hfit0, e2⟩ := bi_ret e1
        obtain ⟨hborn, e3⟩ := bi_ret e2
        have hfit : dob + dlen ≤ size := (ble_iff _ _).1 hfit0
        have e4 := orRes_ret e3
        rw [kills_eq] at e4
        clear hfit0 e e1 e2 e3
        have e := e4
        clear e4
        subst hown
        split at e
        · rename_i ps hps
          obtain ⟨hnum, e1⟩ := bi_val e
          clear e
          rw [forceNat_eq, setK_eq] at e1
          cases e1
          -- the arguments
          simp only [VRs, VR] at ha
          obtain ⟨_, _, rfl, ⟨cl, rfl, ⟨_, _, rfl, ⟨ad, ccap, rfl, hs1, hs2, hs3, hs4⟩, cx1, _, rfl, hx1, cx2, _, rfl, hx2, rfl⟩, hflat⟩, cl2, _, rfl, hl, rfl⟩ := ha
          obtain ⟨c, off, sz, hφd, rfl, _⟩ := hs4 (by omega)
          refine .inr ⟨run_callFunc hn hf hb _ _, ?_⟩
          let Q : World → Nat → Array MapEntry → Nat → Array Value → Nat → Nat × Nat → Prop := fun w1 mc ces k cs el fz =>
            ∃ φ1, HR φ1 h1 m' w1 ∧ Kept φ h w φ1 h1 w1 ∧ Nx φ m φ1 m' ∧ φ1 db = some (c, off, sz) ∧ PsR w1 c ps ces.toList
          refine (hw c (off + dob) dlen ccap cx1 cx2 cl2 w (by omega) hdl Q ?_).mono ?_
          · -- over
            have gr : Grew w (w.alloc (.cells #[.slice (some ⟨c, off + dob, none⟩) dlen ccap, cx1, cx2] D)) := ⟨⟨rfl, rfl, rfl⟩, by simp, fun r hr => Below.heap_alloc w _ r hr⟩
            rcases hih over [l] h m _ _ _ hcall φ _ [cl2] (hh.grow gr) (VRs.cons hl (VRs.nil_iff.2 rfl)) with ⟨cv, w', φ', p1, _⟩ | ⟨_, p2⟩
            · rw [run_callFunc hn hfo hbo] at p1; cases p1
            refine p2.mono fun e1 w1 he => ?_
            cases e1 with
            | panicked => exact he.elim
            | outgrown => exact he.elim
            | returned cv =>
              obtain ⟨φ1, g1, g2, g3, g4⟩ := he
              simp only [VR] at g1
              obtain ⟨mc, moff, msz, hmc, rfl⟩ := g1
              have hd1 : φ1 db = some (c, off, sz) := g3.le _ _ hφd
              obtain ⟨ces, j1, j2⟩ := g2.map hmb hmc
              obtain ⟨c1, off1, sz1, j3, j4⟩ := g2.blocks db _ hdb
              rw [hd1] at j3; cases j3
              have hcw1 := j4.there
              obtain ⟨cs, el, fz, r1, r2, r3, r4, r5⟩ := j4
              have r3 : off + size ≤ sz := r3
              obtain ⟨b1, b2⟩ := bornsOk_spec j2 hborn
              have hps2 : PsR w1 c ps ces.toList := layPs_spec (g2.killed anc).1 hd1 (fun b blk off' sz' hb1 hne hbc => by
                obtain ⟨k1, k2⟩ := getP_kill_sub hb1
                exact k2 (g2.apart db _ b blk c off sz off' sz' hdb rfl k1 hne hd1 hbc).1) j2 hps
              have hnown : ¬ Owned φ h w.heap.size := fun ⟨b, blk, o', s', k1, _, k3⟩ => by
                obtain ⟨c', o2, s2, k4, k5⟩ := hh.blocks b blk k1
                rw [k3] at k4; cases k4
                exact absurd k5.there (Nat.lt_irrefl _)
              have hnc : w.heap.size ≠ c := fun e' => by
                obtain ⟨b, blk, o', s', k1, k3⟩ := g3.known c (by rw [← e']; simp) ⟨db, _, off, sz, hdb, hd1⟩
                obtain ⟨c', o2, s2, k4, k5⟩ := hh.blocks b blk k1
                rw [k3] at k4; cases k4
                have := k5.there
                omega
              refine ⟨mc, ces, clock, cs, el, fz, rfl, ⟨j1, r1, by omega, fun j hj hj2 => by rw [r2]; exact r5 rfl j hj hj2, b1, b2, hps2.keys hnum, fun e0 he0 => ?_⟩, ?_, hnc, φ1, g2, ((Kept.refl φ h w).grow gr).trans g3, g4, hd1, hps2⟩
              · obtain ⟨n, y, k1, k2, g, p, bc, bs, k3, k4, k5, k6, _, k8⟩ := hps2.of_mem e0 he0
                refine ⟨n, g, p, bc, bs.map u8, k2, k3, numsOk_le hnum n y k1, k4, k5, by simpa using k6, fun j v hj => ?_, fun v hv => ?_⟩
                · rw [List.getElem?_map] at hj
                  cases hx : bs[j]? with
                  | none => rw [hx] at hj; cases hj
                  | some x => rw [hx] at hj; cases hj; exact k8 j x hx
                · obtain ⟨x, _, rfl⟩ := List.mem_map.1 hv; rfl
              · rw [g3.block _ (by simp) hnown]
                exact heap_alloc_new w _
          · rintro e' w' ⟨rfl, w1, mc, ces, k, cs, el, fz, seen, H, ⟨φ1, q1, q2, q3, q4, q5⟩, hLy, hall⟩
            obtain ⟨cur, l1, l2, l3, l4⟩ := hLy.row
            obtain ⟨c1, off1, sz1, j3, j4⟩ := q1.blocks db _ hdb
            rw [q4] at j3; cases j3
            have hcw1 := j4.there
            obtain ⟨cs0, el0, fz0, r1, r2, r3, r4, r5⟩ := j4
            have r3 : off + size ≤ sz := r3
            rw [H.row] at r1; cases r1
            obtain ⟨z1, z2⟩ := layZ_spec dob ps z dlen hnum fun n y hy => by
              obtain ⟨e0, _, _, g, p, bc, bs, _, _, _, k6, k7, _⟩ := q5.to_mem n y hy
              rw [← k7, ← k6]; exact enc_lt bs
            let wX : World := { w1 with heap := w1.heap.setIfInBounds c (.cells cur el fz) }
            have hXc : wX.heap[c]? = some (.cells cur el fz) := Array.getElem?_setIfInBounds_self_of_lt hcw1
            have hXo : ∀ r, r ≠ c → wX.heap[r]? = w1.heap[r]? := fun r hr => Array.getElem?_setIfInBounds_ne (Ne.symm hr)
            have hXs : wX.heap.size = w1.heap.size := Array.size_setIfInBounds
            obtain ⟨t1, t2⟩ := q1.write (w' := wX) (blk' := .by (layZ dob ps z) size true []) hdb rfl q4 rfl ⟨rfl, rfl, rfl⟩ hXs hXo
              ⟨cur, el, fz, hXc, by omega, r3, fun i v hi hv => by
                have hi : i < size := hi
                rw [by_get _ _ _ _ _ hi] at hv
                cases hv
                refine ⟨rfl, ?_⟩
                by_cases hcov : ∃ n y, (n, y) ∈ ps ∧ dob + n * 128 ≤ i ∧ i < dob + n * 128 + 128
                · obtain ⟨n, y, hmem, k1, k2⟩ := hcov
                  obtain ⟨e0, he0, hk0, g, p, bc, bs, hv0, _, _, k6, k7, k8⟩ := q5.to_mem n y hmem
                  have hj : i - (dob + n * 128) < 128 := by omega
                  have hnum0 : num e0 = n := by simp [num, hk0]
                  have k9 := l3 e0 he0 (hall e0 he0) (i - (dob + n * 128)) hj
                  have k10 := z2 n y hmem (i - (dob + n * 128)) hj
                  rw [show dob + n * 128 + (i - (dob + n * 128)) = i by omega] at k10
                  rw [hnum0, show off + dob + n * 128 + (i - (dob + n * 128)) = off + i by omega] at k9
                  have hx := List.getElem?_eq_getElem (l := bs) (i := i - (dob + n * 128)) (by omega)
                  simp only [src, hv0] at k9
                  rw [k8 _ _ hx] at k9
                  refine ⟨_, k9, ?_⟩
                  simp only [VR]
                  rw [k10, ← k7, byteAt_enc bs _ _ hx]
                  rfl
                · have k10 := z1 i fun n y hm hc => hcov ⟨n, y, hm, hc⟩
                  have k9 := l4 (off + i) fun e0 he0 _ hc => by
                    obtain ⟨n, y, k1, k2, _⟩ := q5.of_mem e0 he0
                    have hnum0 : num e0 = n := by simp [num, k2]
                    rw [hnum0] at hc
                    exact hcov ⟨n, y, k1, by omega, by omega⟩
                  obtain ⟨_, u, hu, hr⟩ := r4 i _ hi (by_get _ _ _ _ _ hi)
                  exact ⟨u, k9.trans hu, by rw [k10]; exact hr⟩, fun _ j hj hj2 => r5 rfl j hj hj2⟩
            have gr : Grew wX w' := ⟨⟨hLy.os, hLy.tape, hLy.output⟩, by rw [hXs]; exact hLy.size, fun r hr => by
              rw [hXs] at hr
              by_cases hrc : r = c
              · subst hrc; rw [hXc, l1]
              · rw [hXo r hrc, hLy.others r hr hrc]⟩
            exact ⟨φ1, by simp [VR, VRs], t1.grow gr, q2.trans (t2.grow gr), q3⟩
        · cases e
      · cases e
    · cases e
  · cases e
end Go.AM
