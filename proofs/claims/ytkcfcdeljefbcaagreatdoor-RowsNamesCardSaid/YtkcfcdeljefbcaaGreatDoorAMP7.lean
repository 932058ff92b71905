/-
  Functions, and the whole machine, are sound: what it gives, the program gives; a law without arguments. No condition.
-/
import Derived.Test.YtkcfcdeljefbcaaGreatDoorAMP6
import Derived.Lib.Bytealg
import Derived.Below
import Derived.Lib.Strings
namespace Go.AM
section
variable {P : Program} {T : Tab} {n : Nat} {ih : Ih} {nt : Nat} {lv : List Nat}

variable {φ : Emb} {h : Heap} {m : Ps} {w : World} {v : AV} {h' : Heap} {m' : Ps} in
theorem load_pure (hT : TOk T P) {t : Nat} {a : AV} {ca : Value} (e : loadOp T t a h m = .val v h' m') (ha : VR φ a ca) (k : HR φ h m w) :
    (∃ cv, (Instr.loadAt t ca).run P w = .ok cv w ∧ VR φ v cv) ∧ h' = h ∧ m' = m := by
  unfold loadOp at e
  split at e
  · rename_i b o
    simp only [VR] at ha
    obtain ⟨c, off, sz, hφ, rfl⟩ := ha
    split at e
    · rename_i ti hti
      have ok := ty_ok hT hti
      cases hag : ti.agg with
      | true =>
        rw [hag] at e; simp only [bi_true] at e
        split at e
        · rename_i l hl
          cases e
          unfold readCells at hl
          split at hl
          · rename_i blk hb
            obtain ⟨us, u1, u2, u3, u4⟩ := k.cellsL hb hl hφ
            refine ⟨⟨.agg us.toArray, ?_, ?_⟩, rfl, rfl⟩
            · simp only [Instr.loadAt, Instr.sureAddr, pure_bind, loadVar, Sem.run_bind, ok.run_agg, Result.andThen_ok, hag, if_true, ok.run_size]
              rw [← u1, run_loadCells_at u4]
              simp
            · simp only [VR]; exact ⟨us, rfl, u2, u3⟩
          · cases hl
        · cases e
      | false =>
        rw [hag] at e; simp only [bi_false] at e
        split at e
        · rename_i blk hb
          split at e
          · rename_i x hx
            cases e
            obtain ⟨_, u, hu, hr⟩ := k.cell hb hx hφ
            refine ⟨⟨u, ?_, hr⟩, rfl, rfl⟩
            simp only [Instr.loadAt, Instr.sureAddr, pure_bind, loadVar, Sem.run_bind, ok.run_agg, Result.andThen_ok, hag, Bool.false_eq_true, if_false, run_load, hu]
          · cases e
        · cases e
    · cases e
  · cases e

/-- the parameters that are read -/
theorem pa_sound {φ : Emb} (lv : List Nat) (tmps : Array Value) : ∀ (k i : Nat) (vs : List AV) (cvs : List Value) (t : Tmps), VRs φ vs cvs → (∀ j, j < cvs.length → tmps[i + j]? = cvs[j]?) → TR φ lv t tmps →
    ∃ t', (∀ kk : Tmps → Res, (cPa lv i k).run vs t kk = kk t') ∧ TR φ lv t' tmps
  | 0, i, vs, cvs, t, hv, hc, ht => ⟨t, fun kk => rfl, ht⟩
  | k + 1, i, vs, cvs, t, hv, hc, ht => by
    cases vs with
    | nil =>
      refine ⟨t, fun kk => ?_, ht⟩
      simp only [cPa]
      cases findIx i lv <;> rfl
    | cons v vs =>
      simp only [VRs] at hv
      obtain ⟨c, cvs', rfl, h1, h2⟩ := hv
      have hc' : ∀ j, j < cvs'.length → tmps[i + 1 + j]? = cvs'[j]? := fun j hj => by
        have := hc (j + 1) (by simpa using hj)
        rw [show i + 1 + j = i + (j + 1) by omega]; simpa using this
      have hi : tmps.getD i undef = c := by
        have := hc 0 (by simp)
        rw [Array.getD_eq_getD_getElem?]
        simp at this
        rw [this]; rfl
      cases hf : findIx i lv with
      | none =>
        obtain ⟨t', q1, q2⟩ := pa_sound lv tmps k (i + 1) vs cvs' t h2 hc' ht
        refine ⟨t', fun kk => ?_, q2⟩
        simp only [cPa, hf]
        exact q1 kk
      | some j =>
        have ht2 : TR φ lv (setT (some v) (psN j) t) tmps := fun i' j' v' hj' hv' => by
          rw [get_setT] at hv'
          split at hv'
          · rename_i e
            cases hv'
            have e := psN_inj e
            subst e
            rw [findIx_inj hj' hf, hi]; exact h1
          · exact ht i' j' v' hj' hv'
        obtain ⟨t', q1, q2⟩ := pa_sound lv tmps k (i + 1) vs cvs' _ h2 hc' ht2
        refine ⟨t', fun kk => ?_, q2⟩
        simp only [cPa, hf, setK_eq]
        exact q1 kk

theorem slot_sound {φ : Emb} {t : Tmps} {tmps : Array Value} (k : TR φ lv t tmps) {i : Nat} {v : AV} (e : slot lv t i = some v) : VR φ v (tmps.getD i undef) := by
  unfold slot at e
  split at e
  · rename_i j hj; exact k i j v hj e
  · cases e

theorem results_sound (hT : TOk T P) {φ : Emb} {t : Tmps} {tmps : Array Value} (k : TR φ lv t tmps) {h : Heap} {m : Ps} {w : World} (hr : HR φ h m w) : ∀ {l : List ResultVar} {vs : List AV}, resultsA T lv t h m l = some vs →
    ∃ cvs, (l.mapM fun (r : ResultVar) => (match r with
      | .tmp t => pure (tmps.getD t undef)
      | .cell a t => do loadVar t (← asAddr (tmps.getD a undef)) : Sem Value)).run P w = .ok cvs w ∧ VRs φ vs cvs
  | [], vs, e => by cases e; exact ⟨[], rfl, VRs.nil_iff.2 rfl⟩
  | .tmp i :: r, vs, e => by
    simp only [resultsA] at e
    split at e
    · rename_i v l h1 h2
      cases e
      obtain ⟨cvs, q1, q2⟩ := results_sound hT k hr h2
      refine ⟨_ :: cvs, ?_, VRs.cons (slot_sound k h1) q2⟩
      simp only [List.mapM_cons, Sem.run_bind, Sem.run_pure, Result.andThen_ok, q1]
    · cases e
  | .cell i ty :: r, vs, e => by
    simp only [resultsA] at e
    split at e
    · rename_i b o h1
      split at e
      · rename_i v h' m' l h2 h3
        cases e
        obtain ⟨cvs, q1, q2⟩ := results_sound hT k hr h3
        have hs := slot_sound k h1
        obtain ⟨⟨cv, r1, r2⟩, rfl, rfl⟩ := load_pure (P := P) (w := w) hT h2 hs hr
        simp only [VR] at hs
        obtain ⟨c, off, sz, hφ, he⟩ := hs
        refine ⟨cv :: cvs, ?_, VRs.cons r2 q2⟩
        rw [he] at r1
        have r1' : (loadVar ty ⟨c, off + o, none⟩).run P w = .ok cv w := by
          simpa only [Instr.loadAt, Instr.sureAddr, pure_bind] using r1
        have hasA : asAddr (.pointer (some ⟨c, off + o, none⟩)) = pure ⟨c, off + o, none⟩ := rfl
        simp only [List.mapM_cons, he, hasA, pure_bind, Sem.run_bind, r1', Sem.run_pure, Result.andThen_ok, q1]
      · cases e
    · cases e

/-- what a function gives -/
theorem finish_sound (hT : TOk T P) {fn : Func} {φ : Emb} {t : Tmps} {tmps : Array Value} (k : TR φ lv t tmps) {h : Heap} {m : Ps} {w : World} (hr : HR φ h m w) {v : AV} {h' : Heap} {m' : Ps}
    (e : finishA T lv fn t h m = .ret v h' m') : h' = h ∧ m' = m ∧ ∃ cv, (results fn tmps).run P w = .ok cv w ∧ VR φ v cv := by
  have key : ∀ vs cvs, resultsA T lv t h m fn.results.toList = some vs → (fn.results.toList.mapM fun (r : ResultVar) => (match r with
      | .tmp t => pure (tmps.getD t undef)
      | .cell a t => do loadVar t (← asAddr (tmps.getD a undef)) : Sem Value)).run P w = .ok cvs w → (results fn tmps).run P w = .ok (if h : cvs.toArray.size = 1 then cvs.toArray[0] else .tuple cvs.toArray) w := fun vs cvs _ hc => by
    unfold results
    rw [Array.mapM_eq_mapM_toList]
    simp only [map_eq_pure_bind, bind_assoc, pure_bind, Sem.run_bind]
    refine (congrArg (fun x => Result.andThen x _) hc).trans ?_
    rfl
  unfold finishA at e
  split at e
  · rename_i u hu
    cases e
    obtain ⟨cvs, q1, q2⟩ := results_sound hT k hr hu
    simp only [VRs] at q2
    obtain ⟨c, _, rfl, h1, rfl⟩ := q2
    exact ⟨rfl, rfl, c, key _ _ hu q1, h1⟩
  · rename_i l hne hu
    cases e
    obtain ⟨cvs, q1, q2⟩ := results_sound hT k hr hu
    refine ⟨rfl, rfl, .tuple cvs.toArray, ?_, by simp only [VR]; exact ⟨cvs, rfl, q2⟩⟩
    rw [key _ _ hu q1, dif_neg]
    intro hs
    have hl : l.length = 1 := by rw [← q2.length]; simpa using hs
    obtain ⟨x, rfl⟩ := List.length_eq_one_iff.1 hl
    exact hne _ rfl
  · cases e

/-- what is known of the calls that a function leaves behind -/
def IhDOk (P : Program) (ihD : Ih) : Prop := ∀ f args h m v h' m', ihD f args h m = .ret v h' m' → ∀ φ w (cargs : List Value), HR φ h m w → VRs φ args cargs →
    (callFunc f cargs.toArray).run P w = .ok (.enter f cargs.toArray) w ∧ CallsD P f cargs.toArray .returning w fun e u' w' => u' = .returning ∧ (match e with
      | .returned _ => ∃ φ', HR φ' h' m' w' ∧ Kept φ h w φ' h' w' ∧ Nx φ m φ' m'
      | _ => False)

theorem defers_sound {ihD : Ih} (hD : IhDOk P ihD) {fn : Func} {tmps : Array Value} {R : Ending → World → Prop} {kk : Heap → Ps → Res} {v : AV} {h0 : Heap} {m0 : Ps} {φ0 : Emb} {hh0 : Heap} {mm0 : Ps} {w0 : World}
    (hk : ∀ φ h m w, kk h m = .ret v h0 m0 → HR φ h m w → Kept φ0 hh0 w0 φ h w → Nx φ0 mm0 φ m → ∃ cv, (results fn tmps).run P w = .ok cv w ∧ R (.returned cv) w) :
    ∀ (d : List ADef) (c : List Deferred) (φ : Emb) (h : Heap) (m : Ps) (w : World), DRs φ d c → HR φ h m w → Kept φ0 hh0 w0 φ h w → Nx φ0 mm0 φ m → runDefers ihD h m d kk = .ret v h0 m0 → Leaves P fn tmps R c .returning w
  | [], c, φ, h, m, w, hd, hr, hkp, hm, e => by
    cases hd
    obtain ⟨cv, q1, q2⟩ := hk φ h m w e hr hkp hm
    exact ⟨cv, q1, q2⟩
  | x :: d, c, φ, h, m, w, hd, hr, hkp, hm, e => by
    obtain ⟨c1, c', rfl, ⟨f, caps, args, g1, g2, g3, rfl⟩, hd'⟩ := hd
    simp only [runDefers, g1] at e
    split at e
    · rename_i v1 h1 m1 hcall
      obtain ⟨q1, q2⟩ := hD f _ h m v1 h1 m1 hcall φ w (args ++ caps) hr (g3.append g2)
      refine ⟨by simp, .func f, caps.toArray, f, (args ++ caps).toArray, rfl, ?_, fun c0 cs hm0 => ?_⟩
      · simp only [invoke]
        rw [show args.toArray ++ caps.toArray = (args ++ caps).toArray by simp]
        exact q1
      · obtain ⟨e1, u', w', fr, ⟨hu, hR⟩, r2, r3, r4⟩ := q2 c0 cs hm0
        refine ⟨e1, u', w', fr, ?_, r2, r3, r4⟩
        cases e1 with
        | returned vv =>
          obtain ⟨φ', a1, a2, a3⟩ := hR
          subst hu
          exact defers_sound hD hk d c' φ' h1 m1 w' (hd'.mono a2.le) a1 (hkp.trans a2) (hm.trans a3) e
        | panicked => exact hR.elim
        | outgrown => exact hR.elim
    · cases e
    · cases e
end
end Go.AM
namespace Go.AM

/-- no function by the one name that the machine answers itself -/
def NamesOk (P : Program) : Prop := ∀ (f : Nat) (fn : Func), P.funcs[f]? = some fn → (fn.name == "runtime.NumGoroutine") = false

section
variable {P : Program} {T : Tab} {n : Nat} {ih : Ih}

theorem run_callFunc (hn : NamesOk P) {f : Nat} {fn : Func} {c : Code} (hf : P.funcs[f]? = some fn) (hb : fn.body = some c) (args : Array Value) (w : World) : (callFunc f args).run P w = .ok (.enter f args) w := by
  have h1 := hn f fn hf
  simp only [beq_eq_false_iff_ne] at h1
  simp [callFunc, program, Sem.run, hf, h1, hb]

theorem frame_start {φ : Emb} {h : Heap} {m : Ps} {w : World} (hr : HR φ h m w) {fn : Func} {lv : List Nat} {args : List AV} {cargs : List Value} (ha : VRs φ args cargs) :
    ∃ t, (∀ kk : Tmps → Res, (cPa lv 0 (Nat.add fn.params.size fn.nfree)).run args .nil kk = kk t) ∧
      St φ fn.ntmps lv [] [] t [] h m { tmps := cargs.toArray ++ Array.replicate (fn.ntmps - cargs.toArray.size) undef, defers := [] } w := by
  obtain ⟨t, q1, q2⟩ := pa_sound (φ := φ) lv (cargs.toArray ++ Array.replicate (fn.ntmps - cargs.toArray.size) undef) (Nat.add fn.params.size fn.nfree) 0 args cargs .nil ha
    (fun j hj => by rw [Nat.zero_add, Array.getElem?_append_left (by simpa using hj)]; simp) (fun i j v _ hv => by cases hv)
  exact ⟨t, q1, q2.fr, rfl, by simp; omega, hr⟩

theorem St.tr {φ : Emb} {nt : Nat} {lv : List Nat} {t : Tmps} {d : List ADef} {h : Heap} {m : Ps} {a : Act} {w : World} (s : St φ nt lv [] [] t d h m a w) : TR φ lv t a.tmps := by
  intro i j v hj hv
  exact s.fr.old i j v rfl hj hv

theorem fn_sound (hT : TOk T P) (hn : NamesOk P) (hih : IhOk P ih) {ihD : Ih} (hD : IhDOk P ihD) (hdr : ∀ nt lv, DrawnOk P T n ih nt lv) {f : Nat} {fn : Func} {c : Code} (hf : P.funcs[f]? = some fn) (hb : fn.body = some c)
    {lv : List Nat} {args : List AV} {h : Heap} {m : Ps} {v : AV} {h' : Heap} {m' : Ps} (e : (cFnL fn c lv).run T n ih ihD args h m = .ret v h' m') {φ : Emb} {w : World} {cargs : List Value} (hr : HR φ h m w) (ha : VRs φ args cargs) :
    CalledS P φ h m w f cargs v h' m' := by
  refine .inr ⟨run_callFunc hn hf hb _ _, calls_of_wp_defers hf hb ?_⟩
  obtain ⟨t, q1, q2⟩ := frame_start hr (fn := fn) (lv := lv) ha
  simp only [cFnL] at e
  rw [q1] at e
  generalize hres : (cCode lv fn.ntmps c [] .fin).run T n ih [] t [] h m = r at e
  have hfin : ∀ t1 d1 h1 m1 φ1 a1 w1, runDefers ihD h1 m1 d1 (fun h m => finishA T lv fn t1 h m) = .ret v h' m' → St φ1 fn.ntmps lv [] [] t1 d1 h1 m1 a1 w1 → Kept φ h w φ1 h1 w1 → Nx φ m φ1 m1 →
      Leaves P fn a1.tmps (fun | .returned cv, w' => ∃ φ', VR φ' v cv ∧ HR φ' h' m' w' ∧ Kept φ h w φ' h' w' ∧ Nx φ m φ' m' | _, _ => False) a1.defers .returning w1 := fun t1 d1 h1 m1 φ1 a1 w1 he s hk hm => by
    refine defers_sound hD (φ0 := φ1) (hh0 := h1) (mm0 := m1) (w0 := w1) (fun φ2 h2 m2 w2 hf2 hr2 hk2 hm2 => ?_) d1 a1.defers φ1 h1 m1 w1 s.de s.hr (Kept.refl _ _ _) (Nx.refl _ _) he
    have htr : TR φ2 lv t1 a1.tmps := fun i j v' hj hv => VR.mono hk2.le _ _ (s.tr i j v' hj hv)
    obtain ⟨rfl, rfl, cv, g1, g2⟩ := finish_sound hT htr hr2 hf2
    exact ⟨cv, g1, φ2, g2, hr2, hk.trans hk2, hm.trans hm2⟩
  cases r with
  | bad s => cases e
  | ret => cases e
  | ok x1 t1 d1 h1 m1 =>
    refine wp_mono (code_sound hih hT (hdr _ _) c .fin _ x1 t1 d1 h1 m1 rfl [] [] t [] h m φ _ w q2 hres) fun ex a1 w1 hm => ?_
    cases ex with
    | normal =>
      obtain ⟨t', d', h2, m2, φ', g1, g2, g3, g4⟩ := hm.fin_normal
      cases g1
      exact hfin t1 d1 h1 m1 φ' a1 w1 e g2 g3 g4
    | ret =>
      obtain ⟨x, t', d', h2, m2, φ', g1, g2, g3, g4, g5⟩ := hm
      cases g1
      cases x1 with
      | r => exact hfin t1 d1 h1 m1 φ' a1 w1 e g3 g4 g5
      | n => cases g2
      | e i => cases g2
      | g i => cases g2
    | exit id =>
      obtain ⟨x, t', d', h2, m2, φ', g1, g2, g3, g4, g5⟩ := hm
      cases g1
      cases x1 with
      | e i => cases e
      | r => cases g2
      | n => cases g2
      | g i => cases g2
    | goto l =>
      obtain ⟨x, t', d', h2, m2, φ', g1, g2, g3, g4, g5⟩ := hm
      cases g1
      cases x1 with
      | g i => cases e
      | r => cases g2
      | n => cases g2
      | e i => cases g2
    | panic ch =>
      obtain ⟨x, t', d', h2, m2, φ', g1, g2, _⟩ := hm
      cases x <;> cases g2
    | outgrown =>
      obtain ⟨x, t', d', h2, m2, φ', g1, g2, _⟩ := hm
      cases x <;> cases g2

/-- a function that is called behind another one's end -/
theorem fnD_sound (hT : TOk T P) (hn : NamesOk P) (hih : IhOk P ih) (hdr : ∀ nt lv, DrawnOk P T n ih nt lv) {f : Nat} {fn : Func} {c : Code} (hf : P.funcs[f]? = some fn) (hb : fn.body = some c)
    {lv : List Nat} {args : List AV} {h : Heap} {m : Ps} {v : AV} {h' : Heap} {m' : Ps} (e : (cFnL fn c lv).runD T n ih args h m = .ret v h' m') {φ : Emb} {w : World} {cargs : List Value} (hr : HR φ h m w) (ha : VRs φ args cargs) :
    (callFunc f cargs.toArray).run P w = .ok (.enter f cargs.toArray) w ∧ CallsD P f cargs.toArray .returning w fun e u' w' => u' = .returning ∧ (match e with
      | .returned _ => ∃ φ', HR φ' h' m' w' ∧ Kept φ h w φ' h' w' ∧ Nx φ m φ' m'
      | _ => False) := by
  refine ⟨run_callFunc hn hf hb _ _, ?_⟩
  have := callsD_of_wp (P := P) (f := f) (fn := fn) (c := c) (args := cargs.toArray) (u := .returning) (w := w) (R := fun e w' => (match e with
      | .returned _ => ∃ φ', HR φ' h' m' w' ∧ Kept φ h w φ' h' w' ∧ Nx φ m φ' m'
      | _ => False)) hf hb ?_
  · exact this
  obtain ⟨t, q1, q2⟩ := frame_start hr (fn := fn) (lv := lv) ha
  simp only [cFnL] at e
  rw [q1] at e
  generalize hres : (cCode lv fn.ntmps c [] .fin).run T n ih [] t [] h m = r at e
  have hfin : ∀ t1 d1 h1 m1 φ1 a1 w1, noDefers h1 m1 d1 (fun h m => finishA T lv fn t1 h m) = .ret v h' m' → St φ1 fn.ntmps lv [] [] t1 d1 h1 m1 a1 w1 → Kept φ h w φ1 h1 w1 → Nx φ m φ1 m1 →
      a1.defers = [] ∧ ∃ cv, (results fn a1.tmps).run P w1 = .ok cv w1 ∧ ∃ φ', HR φ' h' m' w1 ∧ Kept φ h w φ' h' w1 ∧ Nx φ m φ' m' := fun t1 d1 h1 m1 φ1 a1 w1 he s hk hm => by
    cases d1 with
    | cons => cases he
    | nil =>
      obtain ⟨rfl, rfl, cv, g1, g2⟩ := finish_sound hT s.tr s.hr he
      exact ⟨s.de, cv, g1, φ1, s.hr, hk, hm⟩
  cases r with
  | bad s => cases e
  | ret => cases e
  | ok x1 t1 d1 h1 m1 =>
    refine wp_mono (code_sound hih hT (hdr _ _) c .fin _ x1 t1 d1 h1 m1 rfl [] [] t [] h m φ _ w q2 hres) fun ex a1 w1 hm => ?_
    cases ex with
    | normal =>
      obtain ⟨t', d', h2, m2, φ', g1, g2, g3, g4⟩ := hm.fin_normal
      cases g1
      exact hfin t1 d1 h1 m1 φ' a1 w1 e g2 g3 g4
    | ret =>
      obtain ⟨x, t', d', h2, m2, φ', g1, g2, g3, g4, g5⟩ := hm
      cases g1
      cases x1 with
      | r => exact hfin t1 d1 h1 m1 φ' a1 w1 e g3 g4 g5
      | n => cases g2
      | e i => cases g2
      | g i => cases g2
    | exit id =>
      obtain ⟨x, t', d', h2, m2, φ', g1, g2, g3, g4, g5⟩ := hm
      cases g1
      cases x1 with
      | e i => cases e
      | r => cases g2
      | n => cases g2
      | g i => cases g2
    | goto l =>
      obtain ⟨x, t', d', h2, m2, φ', g1, g2, g3, g4, g5⟩ := hm
      cases g1
      cases x1 with
      | g i => cases e
      | r => cases g2
      | n => cases g2
      | e i => cases g2
    | panic ch =>
      obtain ⟨x, t', d', h2, m2, φ', g1, g2, _⟩ := hm
      cases x <;> cases g2
    | outgrown =>
      obtain ⟨x, t', d', h2, m2, φ', g1, g2, _⟩ := hm
      cases x <;> cases g2
end
end Go.AM
namespace Go.AM

/-- a hand-made summary of one function -/
def NatOk (P : Program) (f : Nat) (g : List AV → Heap → Ps → Res) : Prop :=
  ∀ args h m v h' m', g args h m = .ret v h' m' → ∀ φ w (cargs : List Value), HR φ h m w → VRs φ args cargs → CalledS P φ h m w f cargs v h' m'

structure EnvOk (P : Program) (E : Env) : Prop where
  tys : TOk E.tys P
  names : NamesOk P
  fns : ∀ f c, getP E.fns (psN f) = some c → (∃ fn, P.funcs[f]? = some fn ∧ c = cFn fn) ∨ ∃ g, c = natC g ∧ NatOk P f g
  mixed : P.follows .mixedOrders = true

theorem stepD_sound {P : Program} {E : Env} (k : EnvOk P E) {n : Nat} {ih : Ih} (hih : IhOk P ih) : IhDOk P (stepD E n ih) := by
  intro f args h m v h' m' e φ w cargs hr ha
  unfold stepD at e
  split at e
  · cases e
  · rename_i c hc
    rcases k.fns f c hc with ⟨fn, hf, rfl⟩ | ⟨g, rfl, _⟩
    · cases hb : fn.body with
      | none => simp only [cFn, hb] at e; cases e
      | some c =>
        simp only [cFn, hb] at e
        exact fnD_sound k.tys k.names hih (fun nt lv => drawn_ok k.tys k.mixed n ih nt lv hih) hf hb e hr ha
    · cases e

theorem step_sound {P : Program} {E : Env} (k : EnvOk P E) {n : Nat} {ih : Ih} (hih : IhOk P ih) : IhOk P (step E n ih) := by
  intro f args h m v h' m' e φ w cargs hr ha
  unfold step at e
  split at e
  · cases e
  · rename_i c hc
    rcases k.fns f c hc with ⟨fn, hf, rfl⟩ | ⟨g, rfl, hg⟩
    · cases hb : fn.body with
      | none => simp only [cFn, hb] at e; cases e
      | some c =>
        simp only [cFn, hb] at e
        exact fn_sound k.tys k.names hih (stepD_sound k hih) (fun nt lv => drawn_ok k.tys k.mixed n ih nt lv hih) hf hb e hr ha
    · exact hg args h m v h' m' e φ w cargs hr ha

/-- THE machine is sound: what it gives, the program gives -/
theorem run_sound {P : Program} {E : Env} (k : EnvOk P E) : ∀ n, IhOk P (run E n)
  | 0 => fun f args h m v h' m' e => by cases e
  | n + 1 => by
    have : run E (n + 1) = step E n (run E n) := rfl
    rw [this]
    exact step_sound k (run_sound k n)

/-- the empty heap -/
theorem HR.nil (w : World) : HR (fun _ => none) .nil .e w := ⟨fun _ _ => rfl, fun b blk h => (by cases h), fun b blk b' blk' c off sz off' sz' h => (by cases h)⟩

/-- a call of the program, from any world -/
theorem called {P : Program} {E : Env} (k : EnvOk P E) {n f : Nat} {args : List AV} {cargs : List Value} {v : AV} {h' : Heap} {m' : Ps} (e : run E n f args .nil .e = .ret v h' m') (ha : ∀ φ, VRs φ args cargs) {fn : Func} {c : Code}
    (hf : P.funcs[f]? = some fn) (hb : fn.body = some c) (w : World) : Calls P f cargs.toArray w fun
    | .returned cv, w' => ∃ φ', VR φ' v cv ∧ HR φ' h' m' w' ∧ Kept (fun _ => none) .nil w φ' h' w'
    | _, _ => False := by
  rcases run_sound k n f args .nil .e v h' m' e _ w cargs (HR.nil w) (ha _) with ⟨cv, w', φ', q1, _⟩ | ⟨q1, q2⟩
  · rw [run_callFunc k.names hf hb] at q1; cases q1
  · refine q2.mono fun e w' he => ?_
    cases e with
    | returned cv => obtain ⟨φ', g1, g2, g3, g4⟩ := he; exact ⟨φ', g1, g2, g3⟩
    | panicked => exact he.elim
    | outgrown => exact he.elim

end Go.AM
namespace Go.AM

theorem get_trieOf {α : Type} : ∀ (l : List α) (d : Trie α) (i j : Nat), getP (trieOf d i l) (psN j) = if i ≤ j ∧ j < i + l.length then l[j - i]? else getP d (psN j)
  | [], d, i, j => by simp [trieOf]; intro h1 h2; omega
  | v :: r, d, i, j => by
    simp only [trieOf, setK_eq]
    rw [get_trieOf r _ (Nat.succ i) j, List.length_cons]
    by_cases h : Nat.succ i ≤ j ∧ j < Nat.succ i + r.length
    · have h1 : i ≤ j ∧ j < i + (r.length + 1) := by omega
      rw [if_pos h, if_pos h1, show j - i = (j - Nat.succ i) + 1 by omega, List.getElem?_cons_succ]
    · rw [if_neg h, get_setT]
      by_cases h2 : j = i
      · subst h2
        rw [if_pos rfl, if_pos (by omega)]; simp
      · have h3 : psN j ≠ psN i := fun e => h2 (psN_inj e)
        rw [if_neg h3, if_neg (by omega)]

theorem get_fnsOf : ∀ (l : List Func) (d : Trie FnC) (i j : Nat), getP (fnsOf d i l) (psN j) = if i ≤ j ∧ j < i + l.length then (l[j - i]?).map cFn else getP d (psN j)
  | [], d, i, j => by simp [fnsOf]; intro h1 h2; omega
  | v :: r, d, i, j => by
    simp only [fnsOf, setK_eq]
    rw [get_fnsOf r _ (Nat.succ i) j, List.length_cons]
    by_cases h : Nat.succ i ≤ j ∧ j < Nat.succ i + r.length
    · have h1 : i ≤ j ∧ j < i + (r.length + 1) := by omega
      rw [if_pos h, if_pos h1, show j - i = (j - Nat.succ i) + 1 by omega, List.getElem?_cons_succ]
    · rw [if_neg h, get_setT]
      by_cases h2 : j = i
      · subst h2
        rw [if_pos rfl, if_pos (by omega)]; simp
      · have h3 : psN j ≠ psN i := fun e => h2 (psN_inj e)
        rw [if_neg h3, if_neg (by omega)]

/-- every struct's fields have known types -/
def closedB (P : Program) : Bool := P.types.toList.all fun i => match i.desc with
  | .struct fs => fs.toList.all fun f => Nat.blt f.type P.types.size
  | _ => true

theorem closed_of {P : Program} (h : closedB P = true) : ∀ i, i ∈ P.types.toList → ∀ fs, i.desc = .struct fs → ∀ f, f ∈ fs.toList → f.type < P.types.size := by
  intro i hi fs hd f hf
  have := List.all_eq_true.1 h i hi
  rw [hd] at this
  exact (blt_iff _ _).1 (List.all_eq_true.1 this f hf)

theorem types_ok (P : Program) (t : Nat) : getP (trieOf .nil 0 P.types.toList) (psN t) = P.types[t]? := by
  rw [get_trieOf]
  by_cases h : t < P.types.size
  · rw [if_pos (by simpa using h)]; simp
  · rw [if_neg (by simpa using h), Array.getElem?_eq_none (by omega)]; rfl

theorem fns_ok (P : Program) (f : Nat) (c : FnC) (h : getP (fnsOf .nil 0 P.funcs.toList) (psN f) = some c) : ∃ fn, P.funcs[f]? = some fn ∧ c = cFn fn := by
  rw [get_fnsOf] at h
  split at h
  · rw [Nat.sub_zero] at h
    cases hf : P.funcs[f]? with
    | none => rw [← Array.getElem?_toList] at hf; rw [hf] at h; cases h
    | some fn => rw [← Array.getElem?_toList] at hf; rw [hf] at h; cases h; exact ⟨fn, rfl, rfl⟩
  · cases h

theorem get_withNats : ∀ (l : List (Nat × FnC)) (d : Trie FnC) (j : Nat) (c : FnC), getP (withNats d l) (psN j) = some c → (∃ p, p ∈ l ∧ p.1 = j ∧ p.2 = c) ∨ getP d (psN j) = some c
  | [], d, j, c, h => .inr h
  | (i, x) :: r, d, j, c, h => by
    simp only [withNats, setK_eq] at h
    rcases get_withNats r _ j c h with ⟨p, h1, h2, h3⟩ | h
    · exact .inl ⟨p, List.mem_cons_of_mem _ h1, h2, h3⟩
    · rw [get_setT] at h
      split at h
      · rename_i e; cases h; exact .inl ⟨_, List.mem_cons_self, (psN_inj e).symm, rfl⟩
      · exact .inr h

/-- a program's environment -/
theorem envOk_of {P : Program} {eqs : List Nat} {nats : List (Nat × (List AV → Heap → Ps → Res))} (hc : closedB P = true) (hn : NamesOk P) (hm : P.follows .mixedOrders = true) (he : ∀ t, t ∈ eqs → EqOk P t)
    (hnat : ∀ p, p ∈ nats → NatOk P p.1 p.2) : EnvOk P (envOf P eqs (nats.map fun p => (p.1, natC p.2))) where
  tys := ⟨types_ok P, he, closed_of hc⟩
  names := hn
  mixed := hm
  fns f c h := by
    rcases get_withNats _ _ f c h with ⟨p, h1, h2, h3⟩ | h
    · obtain ⟨q, g1, g2⟩ := List.mem_map.1 h1
      subst g2
      exact .inr ⟨q.2, h3.symm, by rw [← h2]; exact hnat q g1⟩
    · exact .inl (fns_ok P f c h)
end Go.AM
namespace Go.AM
open Go.RowKit

/-- a function without a text: the model's own answer -/
theorem nat_ext {P : Program} {f : Nat} {fn : Func} {e : Array Value → Sem Value} {g : List AV → Heap → Ps → Res} (hf : P.funcs[f]? = some fn) (hname : (fn.name == "runtime.NumGoroutine") = false) (hb : fn.body.isNone = true)
    (hn : Extern.findNext fn = none) (he : Extern.find fn = some e)
    (hg : ∀ args h m v h' m', g args h m = .ret v h' m' → ∀ φ (w : World) (cargs : List Value), VRs φ args cargs → h' = h ∧ m' = m ∧ ∃ cv, (e cargs.toArray).run P w = .ok cv w ∧ VR φ v cv) : NatOk P f g := by
  intro args h m v h' m' hr φ w cargs hh ha
  obtain ⟨rfl, rfl, cv, h1, h2⟩ := hg args h m v h' m' hr φ w cargs ha
  exact .inl ⟨cv, w, φ, by rw [run_callFunc_extern hf hname hb hn he, h1]; rfl, h2, hh, Kept.refl _ _ _, Nx.refl _ _⟩

theorem toUInt8_ofNat (c : Nat) : (Int.toNat (Int.ofNat c)).toUInt8 = UInt8.ofNat c := rfl

theorem enc_cons (b : UInt8) (l : List UInt8) : encBytes (b :: l) % 256 = b.toNat ∧ encBytes (b :: l) / 256 = encBytes l := by
  have hb : b.toNat < 256 := b.toNat_lt
  have : encBytes (b :: l) = b.toNat + 256 * encBytes l := rfl
  rw [this]; omega

theorem byte_eq (b : UInt8) (c : Nat) (hc : c < 256) : (b == UInt8.ofNat c) = Nat.beq b.toNat c := by
  cases h : Nat.beq b.toNat c with
  | true =>
    have := (beq_iff _ _).1 h
    rw [beq_iff_eq, ← this]; simp
  | false =>
    have hne : b.toNat ≠ c := fun e => by rw [(beq_iff _ _).2 e] at h; cases h
    rw [beq_eq_false_iff_ne]
    intro e
    apply hne
    rw [e]; simp [Nat.mod_eq_of_lt hc]

theorem countB_eq (c : Nat) (hc : c < 256) : ∀ l : List UInt8, countB c l.length (encBytes l) = Lib.countByte l (UInt8.ofNat c)
  | [] => rfl
  | b :: l => by
    obtain ⟨h1, h2⟩ := enc_cons b l
    rw [List.length_cons]
    simp only [countB]
    rw [mod_eq, div_eq, h1, h2, countB_eq c hc l]
    unfold Lib.countByte
    rw [List.count_cons, byte_eq b c hc]
    cases Nat.beq b.toNat c <;> simp

theorem indexB_eq (c : Nat) (hc : c < 256) : ∀ (l : List UInt8) (i : Nat), (match indexB c l.length i (encBytes l) with | some k => (k : Int) | none => -1) = (if Lib.indexByte l (UInt8.ofNat c) = -1 then -1 else Lib.indexByte l (UInt8.ofNat c) + i)
  | [], i => by simp [indexB, Lib.indexByte]
  | b :: l, i => by
    obtain ⟨h1, h2⟩ := enc_cons b l
    rw [List.length_cons]
    simp only [indexB]
    rw [mod_eq, div_eq, h1, h2]
    unfold Lib.indexByte
    rw [byte_eq b c hc]
    cases hb : Nat.beq b.toNat c with
    | true => simp
    | false =>
      simp only [bi_false, Bool.false_eq_true, if_false]
      rw [indexB_eq c hc l (Nat.succ i)]
      have := Lib.indexByte_ge l (UInt8.ofNat c)
      by_cases h : Lib.indexByte l (UInt8.ofNat c) = -1
      · simp [h]
      · have h' : (Lib.indexByte l (UInt8.ofNat c) == -1) = false := by simpa using h
        rw [if_neg h]
        simp only [h', Bool.false_eq_true, if_false]
        rw [if_neg (by omega)]
        push_cast
        omega

theorem count_ext {P : Program} (args : List AV) (h : Heap) (m : Ps) (v : AV) (h' : Heap) (m' : Ps) (e : countA args h m = .ret v h' m') (φ : Emb) (w : World) (cargs : List Value) (ha : VRs φ args cargs) :
    h' = h ∧ m' = m ∧ ∃ cv, (Extern.BytealgCount.count cargs.toArray).run P w = .ok cv w ∧ VR φ v cv := by
  unfold countA at e
  split at e
  · rename_i n l c
    rw [forceNat_eq] at e
    obtain ⟨hc, e⟩ := bi_ret e
    cases e
    have hc := (blt_iff _ _).1 hc
    simp only [VRs, VR] at ha
    obtain ⟨_, _, rfl, ⟨s, rfl, rfl, rfl⟩, _, _, rfl, rfl, rfl⟩ := ha
    refine ⟨rfl, rfl, _, Lib.run_countString s _ w, ?_⟩
    simp only [VR]
    rw [toUInt8_ofNat, countB_eq c hc]; rfl
  · cases e

theorem indexByte_ext {P : Program} (args : List AV) (h : Heap) (m : Ps) (v : AV) (h' : Heap) (m' : Ps) (e : indexByteA args h m = .ret v h' m') (φ : Emb) (w : World) (cargs : List Value) (ha : VRs φ args cargs) :
    h' = h ∧ m' = m ∧ ∃ cv, (Extern.BytealgIndexByte.indexByte cargs.toArray).run P w = .ok cv w ∧ VR φ v cv := by
  unfold indexByteA at e
  split at e
  · rename_i n l c
    obtain ⟨hc, e⟩ := bi_ret e
    have hc := (blt_iff _ _).1 hc
    simp only [VRs, VR] at ha
    obtain ⟨_, _, rfl, ⟨s, rfl, rfl, rfl⟩, _, _, rfl, rfl, rfl⟩ := ha
    have hi := indexB_eq c hc s.data.toList 0
    have hsame : (if Lib.indexByte s.data.toList (UInt8.ofNat c) = -1 then (-1 : Int) else Lib.indexByte s.data.toList (UInt8.ofNat c) + (0 : Nat)) = Lib.indexByte s.data.toList (UInt8.ofNat c) := by
      split <;> simp_all
    rw [hsame] at hi
    split at e
    · rename_i k hk
      rw [forceNat_eq] at e; cases e
      rw [hk] at hi
      refine ⟨rfl, rfl, _, run_indexByte_string s _ w, ?_⟩
      simp only [VR]
      rw [toUInt8_ofNat, Lib.firstIdx_eq, ← hi]; rfl
    · rename_i hk
      cases e
      rw [hk] at hi
      refine ⟨rfl, rfl, _, run_indexByte_string s _ w, ?_⟩
      simp only [VR]
      rw [toUInt8_ofNat, Lib.firstIdx_eq, ← hi]; rfl
  · cases e

/-- what is left of a world where a call owned nothing -/
theorem Kept.below {w w' : World} {φ' : Emb} {h' : Heap} (k : Kept (fun _ => none) .nil w φ' h' w') : Below w.heap.size w w' :=
  ⟨k.os, k.tape, k.output, k.size, fun r hr => k.block r hr fun ⟨_, _, _, _, h, _⟩ => by cases h⟩

/-- does a call without arguments give true? -/
def isTrue : Res → Bool
  | .ret (.bo b) _ _ => b
  | _ => false

theorem law_true {P : Program} {E : Env} (k : EnvOk P E) {n f : Nat} {fn : Func} {c : Code} (hf : P.funcs[f]? = some fn) (hb : fn.body = some c) (e : isTrue (run E n f [] .nil .e) = true) (w : World) :
    Calls P f #[] w fun e w' => e = .returned (.bool true) ∧ Below w.heap.size w w' := by
  cases hr : run E n f [] .nil .e with
  | bad s => rw [hr] at e; cases e
  | ok => rw [hr] at e; cases e
  | ret v h' m' =>
    rw [hr] at e
    have hv : v = .bo true := by
      cases v <;> simp only [isTrue] at e <;> first | (cases e; done) | (rw [e])
    subst hv
    refine (called k hr (fun φ => VRs.nil_iff.2 rfl) hf hb w).mono fun e w' he => ?_
    cases e with
    | returned cv =>
      obtain ⟨φ', h1, _, h3⟩ := he
      simp only [VR] at h1
      subst h1
      exact ⟨rfl, h3.below⟩
    | panicked => exact he.elim
    | outgrown => exact he.elim
def namesB (P : Program) : Bool := P.funcs.toList.all fun fn => !(fn.name == "runtime.NumGoroutine")
theorem names_of {P : Program} (h : namesB P = true) : NamesOk P := by
  intro f fn hf
  have := List.all_eq_true.1 h fn (by rw [← Array.getElem?_toList] at hf; exact List.mem_of_getElem? hf)
  simpa using this

def eqB (P : Program) (t : Nat) : Bool := !P.stoodInHeld t && !P.eqGuardType P.depth t && (P.fieldsOf t).toList.all fun f => f.name != "_"
theorem eq_of {P : Program} {l : List Nat} (h : l.all (eqB P) = true) : ∀ t, t ∈ l → EqOk P t := fun t ht => by
  have := List.all_eq_true.1 h t ht
  simp only [eqB, Bool.and_eq_true, Bool.not_eq_true'] at this
  exact ⟨this.1.1, this.1.2, this.2⟩
end Go.AM
namespace Go.AM
open Go.RowKit

/-! the text that a key goes on with, and what stands behind it -/
def textedL (acc : List UInt8) : List UInt8 → List UInt8 × List UInt8 × Bool
  | [] => ([], [], false)
  | [_] => ([], [], false)
  | b :: e :: r => if b == 0 then (if e == 0 then (acc, r, true) else if e == 255 then textedL (acc ++ [0]) r else ([], [], false)) else textedL (acc ++ [b]) (e :: r)

theorem textedL_eq (acc : List UInt8) (b e : UInt8) (r : List UInt8) : textedL acc (b :: e :: r) = if b == 0 then (if e == 0 then (acc, r, true) else if e == 255 then textedL (acc ++ [0]) r else ([], [], false)) else textedL (acc ++ [b]) (e :: r) := by
  rw [textedL]

theorem textedL_none : ∀ (l acc : List UInt8), (0 : UInt8) ∉ l → textedL acc l = ([], [], false)
  | [], _, _ => rfl
  | [_], _, _ => rfl
  | b :: e :: r, acc, h => by
    have hb : (b == 0) = false := by
      rw [beq_eq_false_iff_ne]; intro hb; exact h (by rw [hb]; exact List.mem_cons_self)
    rw [textedL_eq, hb]
    simp only [Bool.false_eq_true, if_false]
    exact textedL_none (e :: r) _ fun h' => h (List.mem_cons_of_mem _ h')

theorem textedL_skip : ∀ (pre acc t : List UInt8), (0 : UInt8) ∉ pre → textedL acc (pre ++ 0 :: t) = textedL (acc ++ pre) (0 :: t)
  | [], acc, t, _ => by simp
  | b :: pre, acc, t, h => by
    have hb : (b == 0) = false := by
      rw [beq_eq_false_iff_ne]; intro hb; exact h (by rw [hb]; exact List.mem_cons_self)
    have ih := textedL_skip pre (acc ++ [b]) t fun h' => h (List.mem_cons_of_mem _ h')
    have e1 : ∃ e r, pre ++ 0 :: t = e :: r := by cases pre <;> exact ⟨_, _, rfl⟩
    obtain ⟨e, r, e1⟩ := e1
    rw [List.cons_append, e1]
    rw [e1] at ih
    rw [textedL_eq, hb]
    simp only [Bool.false_eq_true, if_false]
    rw [ih]; simp

theorem index_parts : ∀ l : List UInt8, (Lib.indexByte l 0 = -1 ∧ (0 : UInt8) ∉ l) ∨ ∃ pre t, l = pre ++ 0 :: t ∧ (0 : UInt8) ∉ pre ∧ Lib.indexByte l 0 = (pre.length : Int)
  | [] => .inl ⟨rfl, by simp⟩
  | b :: l => by
    unfold Lib.indexByte
    by_cases hb : b = 0
    · subst hb
      exact .inr ⟨[], l, rfl, by simp, by simp⟩
    · have hb' : (b == 0) = false := by simpa using hb
      rw [hb']
      simp only [Bool.false_eq_true, if_false]
      rcases index_parts l with ⟨h1, h2⟩ | ⟨pre, t, rfl, h2, h3⟩
      · exact .inl ⟨by rw [h1]; rfl, by simpa using ⟨fun e => hb e.symm, h2⟩⟩
      · refine .inr ⟨b :: pre, t, rfl, by simpa using ⟨fun e => hb e.symm, h2⟩, ?_⟩
        rw [h3]
        have : ((pre.length : Int) == -1) = false := by
          rw [beq_eq_false_iff_ne]; omega
        rw [this]
        simp

def strLen : Value → Nat | .string s => s.size | _ => 0


/-- a call that leaves old memory alone -/
theorem nat_calls {P : Program} {f : Nat} {fn : Func} {c : Code} {g : List AV → Heap → Ps → Res} (hn : NamesOk P) (hf : P.funcs[f]? = some fn) (hb : fn.body = some c)
    (hg : ∀ args h m v h' m', g args h m = .ret v h' m' → h' = h ∧ m' = m ∧ ∀ φ (w : World) (cargs : List Value), VRs φ args cargs → Calls P f cargs.toArray w fun e w' => ∃ cv, e = .returned cv ∧ VR φ v cv ∧ Below w.heap.size w w') : NatOk P f g := by
  intro args h m v h' m' hr φ w cargs hh ha
  obtain ⟨rfl, rfl, hc⟩ := hg args h m v h' m' hr
  refine .inr ⟨run_callFunc hn hf hb _ _, (hc φ w cargs ha).mono fun e w' he => ?_⟩
  obtain ⟨cv, rfl, h1, h2⟩ := he
  have gr : Grew w w' := ⟨⟨h2.os, h2.tape, h2.output⟩, h2.size, h2.block⟩
  exact ⟨φ, h1, hh.grow gr, (Kept.refl _ _ _).grow gr, Nx.refl _ _⟩

noncomputable def textedA (args : List AV) (h : Heap) (m : Ps) : Res := match args with
  | [.st n l] => bi (Nat.ble l 1000000) (match textedL [] (bytesL n 0 l) with
    | (t, r, ok) => forceNat (encBytes t) fun tn => forceNat t.length fun tl => forceNat (encBytes r) fun rn => forceNat r.length fun rl => .ret (.tu [.st tn tl, .st rn rl, .bo ok]) h m) (.bad "texted")
  | _ => .bad "texted"

theorem bytesL_enc (s : List UInt8) : bytesL (encBytes s) 0 s.length = s := by
  apply List.ext_getElem?
  intro j
  by_cases hj : j < s.length
  · rw [bytesL_get _ _ _ _ hj, Nat.zero_add, List.getElem?_eq_getElem hj, byteAt_enc s j _ (List.getElem?_eq_getElem hj)]
    simp
  · rw [List.getElem?_eq_none (by rw [bytesL_length]; omega), List.getElem?_eq_none (by omega)]

theorem nat_texted {P : Program} {f : Nat} {fn : Func} {c : Code} (hn : NamesOk P) (hf : P.funcs[f]? = some fn) (hb : fn.body = some c)
    (hw : ∀ (s : ByteArray) (w : World), s.size ≤ 1000000 → Calls P f #[.string s] w fun e w' =>
      e = .returned (.tuple #[.string ⟨(textedL [] s.data.toList).1.toArray⟩, .string ⟨(textedL [] s.data.toList).2.1.toArray⟩, .bool (textedL [] s.data.toList).2.2]) ∧ Below w.heap.size w w') : NatOk P f textedA := by
  refine nat_calls hn hf hb fun args h m v h' m' e => ?_
  unfold textedA at e
  split at e
  · rename_i n l
    obtain ⟨hl, e⟩ := bi_ret e
    have hl := (ble_iff _ _).1 hl
    simp only [forceNat_eq] at e
    generalize hq : textedL [] (bytesL n 0 l) = q at e
    obtain ⟨t, r, ok⟩ := q
    cases e
    refine ⟨rfl, rfl, fun φ w cargs ha => ?_⟩
    simp only [VRs, VR] at ha
    obtain ⟨_, _, rfl, ⟨s, rfl, rfl, rfl⟩, rfl⟩ := ha
    rw [bytesL_enc] at hq
    refine (hw s w hl).mono fun e w' ⟨he, hbl⟩ => ⟨_, he, ?_, hbl⟩
    rw [hq]
    simp only [VR, VRs]
    exact ⟨_, rfl, _, _, rfl, ⟨_, rfl, rfl, rfl⟩, _, _, rfl, ⟨_, rfl, rfl, rfl⟩, _, _, rfl, rfl, rfl⟩
  · cases e
end Go.AM
