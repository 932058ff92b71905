/-
  Operations of the abstract machine are sound: maps and appending. No condition.
-/
import Derived.Test.YtgachhenjlibjaaGreatDoorAMP3
import Derived.Laws.Append
namespace Go.AM
section
variable {P : Program} {T : Tab} {φ : Emb} {h : Heap} {m : Ps} {w : World} {v : AV} {h' : Heap} {m' : Ps}

theorem sameNow_sound {u : TypeDesc} {a b : AV} {ca cb : Value} {r : Bool} (e : eqCell u a b = some r) (ha : VR φ a ca) (hb : VR φ b cb) :
    Instr.sameNow u ca cb = some r ∧ (r = true → cb = ca ∧ Instr.sameBits 10000 cb ca = true) := by
  unfold eqCell at e
  split at e
  · split at e
    · obtain ⟨hk, e⟩ := bi_some e
      cases e
      have := (kindEq_iff _ _).1 hk
      subst this
      simp only [VR] at ha hb
      subst ha; subst hb
      rw [intEq_iff]
      refine ⟨by simp [Instr.sameNow], fun he => ?_⟩
      rw [eq_of_beq he]
      exact ⟨rfl, by simp [Instr.sameBits]⟩
    · cases e
  · split at e
    · cases e
      simp only [VR] at ha hb
      obtain ⟨s, rfl, rfl, rfl⟩ := ha
      obtain ⟨s', rfl, rfl, rfl⟩ := hb
      rw [strEq_list]
      have hbs : (s.data.toList == s'.data.toList) = (s == s') := by
        cases s with
        | mk d => cases s' with
          | mk d' => show (d.toList == d'.toList) = (d == d'); simp
      rw [hbs]
      refine ⟨by simp [Instr.sameNow], fun he => ?_⟩
      have hd : s.data.toList = s'.data.toList := by rw [← hbs] at he; exact eq_of_beq he
      have hs : s = s' := by
        cases s with
        | mk d => cases s' with
          | mk d' => simp only [Array.toList_inj] at hd; rw [hd]
      subst hs
      exact ⟨rfl, by simp [Instr.sameBits, he]⟩
    · cases e
  · split at e
    · cases e
      simp only [VR] at ha hb
      subst ha; subst hb
      rw [boolEq_iff]
      refine ⟨by simp [Instr.sameNow], fun he => ?_⟩
      rw [eq_of_beq he]
      exact ⟨rfl, by simp [Instr.sameBits]⟩
    · cases e
  · cases e

theorem findEntry_sound {u : TypeDesc} {k : AV} {ck : Value} (hk : VR φ k ck) : ∀ {es : List (AV × AV × Nat)} {l : List MapEntry} {r : Option (AV × Nat)} (i : Nat), ERs φ es l → findEntry u k es = some r →
    match r with
    | none => Instr.findNow u ck l i = some none
    | some (v, _) => ∃ j cv, Instr.findNow u ck l i = some (some (j, cv)) ∧ VR φ v cv
  | [], l, r, i, h, e => by
    cases h
    simp only [findEntry] at e; cases e
    rfl
  | (a, v, b) :: es, l, r, i, h, e => by
    obtain ⟨e0, l', rfl, h1, h2, h3, h4⟩ := h
    simp only [findEntry] at e
    split at e
    · rename_i x hx
      obtain ⟨s1, s2⟩ := sameNow_sound hx hk h1
      cases x with
      | true =>
        simp only [bi_true] at e; cases e
        exact ⟨i, e0.val, by simp [Instr.findNow, s1], h2⟩
      | false =>
        simp only [bi_false] at e
        have := findEntry_sound hk (i + 1) h4 e
        cases r with
        | none => simp only at this ⊢; simp [Instr.findNow, s1, this]
        | some p =>
          obtain ⟨v', b'⟩ := p
          simp only at this ⊢
          obtain ⟨j, cv, g1, g2⟩ := this
          exact ⟨j, cv, by simp [Instr.findNow, s1, g1], g2⟩
    · cases e

theorem ERs.push {k v : AV} {b : Nat} {e0 : MapEntry} (h1 : VR φ k e0.key) (h2 : VR φ v e0.val) (h3 : e0.born = b) : ERs φ [(k, v, b)] [e0] :=
  ⟨e0, [], rfl, h1, h2, h3, rfl⟩

theorem putEntry_sound {u : TypeDesc} {k v : AV} {ck cv : Value} {c : Nat} (hk : VR φ k ck) (hv : VR φ v cv) : ∀ {es es' : List (AV × AV × Nat)} {nw : Bool} {l : List MapEntry} (i : Nat), ERs φ es l →
    putEntry u k v c es = some (nw, es') →
    (nw = true → Instr.findNow u ck l i = some none ∧ ERs φ es' (l ++ [{ key := ck, val := cv, born := c }])) ∧
    (nw = false → ∃ j cv0 e0, Instr.findNow u ck l i = some (some (i + j, cv0)) ∧ l[j]? = some e0 ∧ Instr.sameBits 10000 e0.key ck = true ∧ ERs φ es' (l.modify j fun e => { e with key := ck, val := cv }))
  | [], es', nw, l, i, h, e => by
    cases h
    simp only [putEntry] at e; cases e
    exact ⟨fun _ => ⟨rfl, ERs.push hk hv rfl⟩, fun hf => by cases hf⟩
  | (a, x, b) :: es, es', nw, l, i, h, e => by
    obtain ⟨e0, l', rfl, h1, h2, h3, h4⟩ := h
    simp only [putEntry] at e
    split at e
    · rename_i r hr
      obtain ⟨s1, s2⟩ := sameNow_sound hr hk h1
      cases r with
      | true =>
        simp only [bi_true] at e; cases e
        refine ⟨fun hf => (by cases hf), fun _ => ⟨0, e0.val, e0, by simp [Instr.findNow, s1], rfl, (s2 rfl).2, ?_⟩⟩
        exact ⟨{ e0 with key := ck, val := cv }, l', by simp, hk, hv, h3, h4⟩
      | false =>
        simp only [bi_false] at e
        split at e
        · rename_i nw' r' hr'
          cases e
          obtain ⟨g1, g2⟩ := putEntry_sound hk hv (i + 1) h4 hr'
          refine ⟨fun hn => ?_, fun hn => ?_⟩
          · obtain ⟨q1, q2⟩ := g1 hn
            exact ⟨by simp [Instr.findNow, s1, q1], e0, _, rfl, h1, h2, h3, q2⟩
          · obtain ⟨j, cv0, e1, q1, q2, q3, q4⟩ := g2 hn
            refine ⟨j + 1, cv0, e1, ?_, by simpa using q2, q3, ?_⟩
            · simp only [Instr.findNow, s1, q1]
              congr 3; omega
            · exact ⟨e0, _, by simp, h1, h2, h3, q4⟩
        · cases e
    · cases e

theorem dropEntry_sound {u : TypeDesc} {k : AV} {ck : Value} (hk : VR φ k ck) : ∀ {es es' : List (AV × AV × Nat)} {l : List MapEntry} (i : Nat), ERs φ es l →
    dropEntry u k es = some es' → (Instr.findNow u ck l i = some none ∧ ERs φ es' l) ∨ ∃ j cv0, Instr.findNow u ck l i = some (some (i + j, cv0)) ∧ ERs φ es' (l.eraseIdx j)
  | [], es', l, i, h, e => by
    cases h
    simp only [dropEntry] at e; cases e
    exact .inl ⟨rfl, rfl⟩
  | (a, x, b) :: es, es', l, i, h, e => by
    obtain ⟨e0, l', rfl, h1, h2, h3, h4⟩ := h
    simp only [dropEntry] at e
    split at e
    · rename_i r hr
      obtain ⟨s1, s2⟩ := sameNow_sound hr hk h1
      cases r with
      | true =>
        simp only [bi_true] at e; cases e
        exact .inr ⟨0, e0.val, by simp [Instr.findNow, s1], by simpa using h4⟩
      | false =>
        simp only [bi_false] at e
        split at e
        · rename_i r' hr'
          cases e
          rcases dropEntry_sound hk (i + 1) h4 hr' with ⟨q1, q2⟩ | ⟨j, cv0, q1, q2⟩
          · exact .inl ⟨by simp [Instr.findNow, s1, q1], e0, _, rfl, h1, h2, h3, q2⟩
          · refine .inr ⟨j + 1, cv0, ?_, e0, _, by simp, h1, h2, h3, q2⟩
            simp only [Instr.findNow, s1, q1]
            congr 3; omega
        · cases e
    · cases e

theorem run_checkKey' {t : Nat} {u : TypeDesc} (hu : P.underlying t = some u) {k : AV} {ck : Value} (hk : keyOk u k = true) (emp : Bool) (w : World) (n : Nat) : (Instr.checkKey emp (n + 1) t ck).run P w = .ok () w := by
  simp only [Instr.checkKey, Sem.run_bind, run_underlying' hu, Result.andThen_ok]
  unfold keyOk at hk
  split at hk <;> first | rfl | cases hk

theorem run_checkKey {t : Nat} {u : TypeDesc} (hu : P.underlying t = some u) {k : AV} {ck : Value} (hk : keyOk u k = true) (emp : Bool) (w : World) : (Instr.checkKey emp 10000 t ck).run P w = .ok () w :=
  run_checkKey' hu hk emp w 9999

theorem run_findKey {t : Nat} {u : TypeDesc} (hu : P.underlying t = some u) {ck : Value} {l : List MapEntry} {r : Option (Nat × Value)} (hr : Instr.findNow u ck l 0 = some r) (w : World) :
    (Instr.findKey t ck l).run P w = .ok r w := by
  simp only [Instr.findKey, Sem.run_bind, run_underlying' hu, Result.andThen_ok, hr]
  rfl

theorem HR.map (k : HR φ h m w) {b : Ps} {es : List (AV × AV × Nat)} {c : Nat} (hb : getP h b = some (.ma es c)) {r off sz : Nat} (hφ : φ b = some (r, off, sz)) :
    ∃ ces, w.heap[r]? = some (.map ces c) ∧ ERs φ es ces.toList := by
  obtain ⟨c1, off1, sz1, h1, h2⟩ := k.blocks b _ hb
  rw [hφ] at h1; cases h1
  exact h2

theorem run_getObj_map {r : Nat} {ces : Array MapEntry} {c : Nat} (hw : w.heap[r]? = some (.map ces c)) : (getObj r).run P w = .ok (.map ces c) w := by
  simp [getObj, Sem.run, hw]

theorem run_setObj_map {r : Nat} {ces ces' : Array MapEntry} {c c' : Nat} (hw : w.heap[r]? = some (.map ces c)) :
    (setObj r (.map ces' c')).run P w = .ok () { w with heap := w.heap.setIfInBounds r (.map ces' c') } := by
  simp [setObj, Sem.run, hw]

/-- a map is written -/
theorem HR.mapWrite (k : HR φ h m w) {b : Ps} {es es' : List (AV × AV × Nat)} {c c' : Nat} {ces ces' : Array MapEntry} (hb : getP h b = some (.ma es c)) {r off sz : Nat} (hφ : φ b = some (r, off, sz))
    (hw : w.heap[r]? = some (.map ces c)) (he : ERs φ es' ces'.toList) :
    (setObj r (.map ces' c')).run P w = .ok () { w with heap := w.heap.setIfInBounds r (.map ces' c') } ∧
    HR φ (setT (some (.ma es' c')) b h) m { w with heap := w.heap.setIfInBounds r (.map ces' c') } ∧ Kept φ h w φ (setT (some (.ma es' c')) b h) { w with heap := w.heap.setIfInBounds r (.map ces' c') } := by
  have hlt : r < w.heap.size := by
    rcases Nat.lt_or_ge r w.heap.size with h | h
    · exact h
    · rw [Array.getElem?_eq_none h] at hw; cases hw
  have := k.write (w' := { w with heap := w.heap.setIfInBounds r (.map ces' c') }) hb (blk' := .ma es' c') rfl hφ rfl ⟨rfl, rfl, rfl⟩ (by simp)
    (fun q hq => by simp [Array.getElem?_setIfInBounds, Ne.symm hq]) ⟨ces', by simp [Array.getElem?_setIfInBounds, hlt], he⟩
  exact ⟨run_setObj_map hw, this⟩

theorem keyTy_sound (hT : TOk T P) {t : Nat} {u : TypeDesc} (e : keyTy T t = some u) : ∃ kt el, P.underlying t = some (.map kt el) ∧ P.underlying kt = some u := by
  unfold keyTy at e
  split at e
  · rename_i hti
    have ok := ty_ok hT hti
    split at e
    · rename_i hk
      cases e
      exact ⟨_, _, ok.under, (ty_ok hT hk).under⟩
    · cases e
  · cases e

theorem mapUpdate_sound (hT : TOk T P) {t : Nat} {x kk y : AV} {cx ck cy : Value} (e : mapUpdateOp T t x kk y h m = .val v h' m') (hx : VR φ x cx) (hk : VR φ kk ck) (hy : VR φ y cy) (k : HR φ h m w) :
    v = .tu [] ∧ m' = m ∧ ∃ w', (Instr.mapUpdate t cx ck cy).run P w = .ok () w' ∧ HR φ h' m w' ∧ Kept φ h w φ h' w' := by
  unfold mapUpdateOp at e
  split at e
  · cases e
  · rename_i u hu
    obtain ⟨kt, el, u1, u2⟩ := keyTy_sound hT hu
    obtain ⟨hko, e⟩ := bi_val e
    split at e
    · rename_i r
      simp only [VR] at hx
      obtain ⟨c, off, sz, hφ, rfl⟩ := hx
      split at e
      · rename_i es cl hb
        obtain ⟨ces, hw, he⟩ := k.map hb hφ
        split at e
        · rename_i nw es' hp
          obtain ⟨g1, g2⟩ := putEntry_sound (c := cl) hk hy 0 he hp
          cases nw with
          | true =>
            simp only [bi_true, forceNat_eq, setK_eq] at e; cases e
            obtain ⟨q1, q2⟩ := g1 rfl
            have he' : ERs φ es' (ces.push { key := ck, val := cy, born := cl }).toList := by simpa using q2
            obtain ⟨r1, r2, r3⟩ := k.mapWrite (P := P) (c' := cl + 1) hb hφ hw he'
            refine ⟨rfl, rfl, _, ?_, r2, r3⟩
            simp only [Instr.mapUpdate, Sem.run_bind, run_underlying' u1, Result.andThen_ok, run_getObj_map hw, run_checkKey u2 hko, run_findKey u2 q1]
            exact r1
          | false =>
            simp only [bi_false, setK_eq] at e; cases e
            obtain ⟨j, cv0, e0, q1, q2, q3, q4⟩ := g2 rfl
            rw [Nat.zero_add] at q1
            have he' : ERs φ es' (ces.modify j fun e => { e with key := ck, val := cy }).toList := by simpa using q4
            obtain ⟨r1, r2, r3⟩ := k.mapWrite (P := P) (c' := cl) hb hφ hw he'
            refine ⟨rfl, rfl, _, ?_, r2, r3⟩
            have hq2 : ces[j]? = some e0 := by simpa using q2
            simp only [Instr.mapUpdate, Sem.run_bind, run_underlying' u1, Result.andThen_ok, run_getObj_map hw, run_checkKey u2 hko, run_findKey u2 q1, hq2, Option.map_some, Option.getD_some, Instr.keyThatStays, q3, if_true, Sem.run_pure]
            exact r1
        · cases e
      · cases e
    · cases e

theorem delete_sound (hT : TOk T P) {t : Nat} {ats : List Nat} {tt : Nat} {args : List AV} {cargs : List Value} (e : deleteOp T ats args h m = .val v h' m') (ha : VRs φ args cargs) (k : HR φ h m w) :
    ValS P φ h m w (Builtin.delete_ ats.toArray tt cargs.toArray) v h' m' := by
  unfold deleteOp at e
  split at e
  · rename_i t rest x kk
    simp only [VRs] at ha
    obtain ⟨cx, _, rfl, hx, ck, _, rfl, hk, rfl⟩ := ha
    split at e
    · cases e
    · rename_i u hu
      obtain ⟨kt, el, u1, u2⟩ := keyTy_sound hT hu
      obtain ⟨hko, e⟩ := bi_val e
      split at e
      · cases e
        simp only [VR] at hx; subst hx
        refine .pure k (cv := .tuple #[]) ?_ (by simp only [VR]; exact ⟨[], rfl, VRs.nil_iff.2 rfl⟩)
        simp [Builtin.delete_, run_underlying' u1, run_checkKey u2 hko]
      · rename_i r _
        simp only [VR] at hx
        obtain ⟨c, off, sz, hφ, rfl⟩ := hx
        split at e
        · rename_i es cl hb
          obtain ⟨ces, hw, he⟩ := k.map hb hφ
          split at e
          · rename_i es' hd
            simp only [setK_eq] at e; cases e
            have hfin : ∀ ces' : Array MapEntry, ERs φ es' ces'.toList → (Builtin.delete_ (t :: rest).toArray tt #[.map (some c), ck]).run P w = ((setObj c (.map ces' cl)).run P w).andThen (fun _ w => .ok (.tuple #[]) w) →
                ValS P φ h m w (Builtin.delete_ (t :: rest).toArray tt #[.map (some c), ck]) (.tu []) (setT (some (.ma es' cl)) r h) m := fun ces' he' hrun => by
              obtain ⟨r1, r2, r3⟩ := k.mapWrite (P := P) (c' := cl) hb hφ hw he'
              refine ⟨.tuple #[], _, φ, by rw [hrun, r1]; rfl, by simp only [VR]; exact ⟨[], rfl, VRs.nil_iff.2 rfl⟩, r2, r3, Nx.refl _ _⟩
            rcases dropEntry_sound hk 0 he hd with ⟨q1, q2⟩ | ⟨j, cv0, q1, q2⟩
            · refine hfin ces q2 ?_
              simp only [Builtin.delete_, List.getElem?_toArray, List.getElem?_cons_zero, List.getElem?_cons_succ, Sem.run_bind, run_underlying' u1, Result.andThen_ok, run_getObj_map hw, run_checkKey u2 hko, run_findKey u2 q1]
              rfl
            · rw [Nat.zero_add] at q1
              refine hfin (ces.eraseIdxIfInBounds j) (by simpa [Array.toList_eraseIdxIfInBounds] using q2) ?_
              simp only [Builtin.delete_, List.getElem?_toArray, List.getElem?_cons_zero, List.getElem?_cons_succ, Sem.run_bind, run_underlying' u1, Result.andThen_ok, run_getObj_map hw, run_checkKey u2 hko, run_findKey u2 q1]
              rfl
          · cases e
        · cases e
      · cases e
  · cases e

theorem zeroOf_sound {ti : TI} {z : Value} (k : ZeroOk ti z) (φ : Emb) : VR φ (zeroOf ti) z := by
  unfold zeroOf
  rcases k.form with ⟨h1, cs, rfl⟩ | ⟨h1, h2⟩
  · rw [h1]; simp only [bi_true, VR]
    exact ⟨cs.toList, by simp, k.cells φ, k.flats⟩
  · rw [h1]; simp only [bi_false]
    have := k.cells φ
    rw [h2] at this
    split
    · rename_i v r hz
      rw [hz] at this
      simp only [VRs] at this
      obtain ⟨v', l', h3, h4, _⟩ := this
      cases h3; exact h4
    · rename_i hz
      rw [hz] at this
      have := this.length; simp at this

theorem lookup_pr (hT : TOk T P) {t : Nat} {x kk : AV} {cx ck : Value} {ok : Bool} (e : lookupOp T t x kk ok h m = .val v h' m') (hx : VR φ x cx) (hk : VR φ kk ck) (k : HR φ h m w) :
    ValP P φ w (Instr.lookup t cx ck ok) v ∧ h' = h ∧ m' = m := by
  unfold lookupOp at e
  split at e
  · rename_i kt el size bytes agg zok zero pat hti
    have ok1 := ty_ok hT hti
    have u1 := ok1.under
    split at e
    · rename_i te tk hte htk
      have oke := ty_ok hT hte
      have u2 := (ty_ok hT htk).under
      obtain ⟨hko, e⟩ := bi_val e
      split at e
      · cases e
      · rename_i es hes
        have hent : ∃ ces : Array MapEntry, ERs φ es ces.toList ∧ (cx = .map none ∧ ces = #[] ∨ ∃ c cl, cx = .map (some c) ∧ w.heap[c]? = some (.map ces cl)) := by
          unfold entriesOf at hes
          split at hes
          · cases hes
            simp only [VR] at hx; subst hx
            exact ⟨#[], rfl, .inl ⟨rfl, rfl⟩⟩
          · rename_i r
            simp only [VR] at hx
            obtain ⟨c, off, sz, hφ, rfl⟩ := hx
            split at hes
            · rename_i es' cl hb
              cases hes
              obtain ⟨ces, hw, he⟩ := k.map hb hφ
              exact ⟨ces, he, .inr ⟨c, cl, rfl, hw⟩⟩
            · cases hes
          · cases hes
        obtain ⟨ces, he, hcx⟩ := hent
        have hstep : ∀ res : Option (Nat × Value), Instr.findNow tk.u ck ces.toList 0 = some res → (Instr.lookup t cx ck ok).run P w =
            ((match res with | some (_, v) => pure (v, true) | none => do pure (← zeroValue el, false) : Sem (Value × Bool)).run P w).andThen (fun x w => .ok (if ok then .tuple #[x.1, .bool x.2] else x.1) w) := fun res hres => by
          rcases hcx with ⟨rfl, rfl⟩ | ⟨c, cl, rfl, hw⟩
          · simp only [Instr.lookup, Sem.run_bind, run_underlying' u1, Result.andThen_ok, Sem.run_pure, run_checkKey u2 hko, run_findKey u2 hres]
            rcases res with _ | ⟨_, v⟩ <;> simp <;> cases (Sem.run P (zeroValue el) w) <;> rfl
          · simp only [Instr.lookup, Sem.run_bind, run_underlying' u1, Result.andThen_ok, run_getObj_map hw, Sem.run_pure, run_checkKey u2 hko, run_findKey u2 hres]
            rcases res with _ | ⟨_, v⟩ <;> simp <;> cases (Sem.run P (zeroValue el) w) <;> rfl
        have hpair : ∀ (a : AV) (c : Value) (b : Bool), VR φ a c → VR φ (.tu [a, .bo b]) (.tuple #[c, .bool b]) := fun a c b hh => by
          simp only [VR]; exact ⟨[c, .bool b], rfl, VRs.cons hh (VRs.cons (by simp [VR]) (VRs.nil_iff.2 rfl))⟩
        split at e
        · cases e
        · rename_i v0 b0 hf
          obtain ⟨j, cv, q1, q2⟩ := findEntry_sound hk 0 he hf
          have hrun2 : (Instr.lookup t cx ck ok).run P w = .ok (if ok then .tuple #[cv, .bool true] else cv) w := by
            rw [hstep _ q1]; rfl
          cases ok with
          | true => simp only [bi_true] at e; cases e; exact ⟨.pure k (by rw [hrun2]; rfl) (hpair _ _ _ q2), rfl, rfl⟩
          | false => simp only [bi_false] at e; cases e; exact ⟨.pure k (by rw [hrun2]; rfl) q2, rfl, rfl⟩
        · rename_i hf
          have q1 := findEntry_sound hk 0 he hf
          simp only at q1
          obtain ⟨hz, e⟩ := bi_val e
          obtain ⟨z, z1, z2⟩ := oke.run_zero w hz
          have hrun2 : (Instr.lookup t cx ck ok).run P w = .ok (if ok then .tuple #[z, .bool false] else z) w := by
            rw [hstep _ q1]; simp [z1]
          cases ok with
          | true => simp only [bi_true] at e; cases e; exact ⟨.pure k (by rw [hrun2]; rfl) (hpair _ _ _ (zeroOf_sound z2 φ)), rfl, rfl⟩
          | false => simp only [bi_false] at e; cases e; exact ⟨.pure k (by rw [hrun2]; rfl) (zeroOf_sound z2 φ), rfl, rfl⟩
    · cases e
  · cases e

theorem lookup_sound (hT : TOk T P) {t : Nat} {x kk : AV} {cx ck : Value} {ok : Bool} (e : lookupOp T t x kk ok h m = .val v h' m') (hx : VR φ x cx) (hk : VR φ kk ck) (k : HR φ h m w) :
    ValS P φ h m w (Instr.lookup t cx ck ok) v h' m' ∧ h' = h ∧ m' = m := by
  obtain ⟨⟨cv, h1, h2⟩, rfl, rfl⟩ := lookup_pr hT e hx hk k
  exact ⟨.pure k h1 h2, rfl, rfl⟩

theorem VR.nat (φ : Emb) (n : Nat) : VR φ (.it .i64 (.ofNat n)) (goInt n) := by simp [VR, goInt]

theorem ERs.length : ∀ {es : List (AV × AV × Nat)} {l : List MapEntry}, ERs φ es l → l.length = es.length
  | [], _, h => by cases h; rfl
  | (_, _, _) :: es, _, h => by obtain ⟨_, l', rfl, _, _, _, h4⟩ := h; simp [ERs.length h4]

theorem len_pr (hT : TOk T P) {ats : List Nat} {tt : Nat} {args : List AV} {cargs : List Value} (e : lenOp T ats args h m = .val v h' m') (ha : VRs φ args cargs) (k : HR φ h m w) :
    ValP P φ w (Builtin.len_ ats.toArray tt cargs.toArray) v ∧ h' = h ∧ m' = m := by
  unfold lenOp at e
  split at e
  · rename_i t rest a arest
    simp only [VRs] at ha
    obtain ⟨cx, cr, rfl, hx, _⟩ := ha
    split at e
    · cases e
    · rename_i ti hti
      have hu' := (ty_ok hT hti).under
      have done : ∀ (n : Nat), (Builtin.len_ (t :: rest).toArray tt (cx :: cr).toArray).run P w = .ok (goInt n) w → v = .it .i64 (.ofNat n) → h' = h → m' = m →
          ValP P φ w (Builtin.len_ (t :: rest).toArray tt (cx :: cr).toArray) v ∧ h' = h ∧ m' = m := fun n hr hv hh hm => by
        subst hv; subst hh; subst hm
        exact ⟨.pure k hr (VR.nat φ n), rfl, rfl⟩
      split at e
      · rename_i hu; rw [hu] at hu'
        split at e
        · rename_i n
          cases e
          simp only [VR] at hx
          obtain ⟨s, rfl, _, h2⟩ := hx
          refine done _ ?_ rfl rfl rfl
          have : s.size = _ := h2
          simp [Builtin.len_, run_underlying' hu', this]
        · cases e
      · rename_i el hu; rw [hu] at hu'
        split at e
        · cases e
          simp only [VR] at hx; subst hx
          exact done 0 (by simp [Builtin.len_, run_underlying' hu']) rfl rfl rfl
        · cases e
          simp only [VR] at hx
          obtain ⟨a, cc, rfl, _⟩ := hx
          exact done _ (by simp [Builtin.len_, run_underlying' hu']) rfl rfl rfl
        · cases e
      · rename_i k1 k2 hu; rw [hu] at hu'
        split at e
        · cases e
          simp only [VR] at hx; subst hx
          exact done 0 (by simp [Builtin.len_, run_underlying' hu']) rfl rfl rfl
        · rename_i r
          simp only [VR] at hx
          obtain ⟨c, off, sz, hφ, rfl⟩ := hx
          split at e
          · rename_i es cl hb
            obtain ⟨ces, hw, he⟩ := k.map hb hφ
            rw [mkInt_eq] at e
            cases e
            refine done _ ?_ rfl rfl rfl
            have := he.length
            rw [Array.length_toList] at this
            simp [Builtin.len_, run_underlying' hu', run_getObj_map hw, this]
          · cases e
        · cases e
      · rename_i n el hu; rw [hu] at hu'
        cases e
        exact done n (by simp [Builtin.len_, run_underlying' hu']) rfl rfl rfl
      · rename_i p hu; rw [hu] at hu'
        split at e
        · rename_i hp
          cases e
          exact done _ (by simp [Builtin.len_, run_underlying' hu', run_underlying' (ty_ok hT hp).under]) rfl rfl rfl
        · cases e
      · cases e
  · cases e

theorem len_sound (hT : TOk T P) {ats : List Nat} {tt : Nat} {args : List AV} {cargs : List Value} (e : lenOp T ats args h m = .val v h' m') (ha : VRs φ args cargs) (k : HR φ h m w) :
    ValS P φ h m w (Builtin.len_ ats.toArray tt cargs.toArray) v h' m' ∧ h' = h ∧ m' = m := by
  obtain ⟨⟨cv, h1, h2⟩, rfl, rfl⟩ := len_pr (tt := tt) hT e ha k
  exact ⟨.pure k h1 h2, rfl, rfl⟩

theorem cap_sound (hT : TOk T P) {ats : List Nat} {tt : Nat} {args : List AV} {cargs : List Value} (e : capOp T ats args h m = .val v h' m') (ha : VRs φ args cargs) (k : HR φ h m w) :
    ValS P φ h m w (Builtin.cap_ ats.toArray tt cargs.toArray) v h' m' ∧ h' = h ∧ m' = m := by
  unfold capOp at e
  split at e
  · rename_i t rest a arest
    simp only [VRs] at ha
    obtain ⟨cx, cr, rfl, hx, _⟩ := ha
    split at e
    · rename_i hti
      have hu' := (ty_ok hT hti).under
      split at e
      · cases e
        simp only [VR] at hx; subst hx
        exact ⟨.pure k (cv := goInt 0) (by simp [Builtin.cap_, run_underlying' hu']) (VR.nat φ 0), rfl, rfl⟩
      · rename_i b o len c e' op
        cases op with
        | true => cases e
        | false =>
          simp only [bi_false] at e; cases e
          simp only [VR] at hx
          obtain ⟨a, cc, rfl, _, _, h3, _⟩ := hx
          rw [h3 rfl]
          exact ⟨.pure k (cv := goInt c) (by simp [Builtin.cap_, run_underlying' hu']) (VR.nat φ c), rfl, rfl⟩
      · cases e
    · cases e
  · cases e

theorem maxL_sound (mx : Bool) : ∀ {l : List AV} {cl : List Value} {a r : AV} {ca : Value}, maxL mx a l = some r → VR φ a ca → VRs φ l cl →
    ∃ cr, (cl.foldlM (if mx then Builtin.max2 else Builtin.min2) ca).run P w = .ok cr w ∧ VR φ r cr
  | [], cl, a, r, ca, e, ha, hl => by
    rw [VRs.nil_iff.1 hl]
    simp only [maxL] at e; cases e
    exact ⟨ca, rfl, ha⟩
  | b :: l, cl, a, r, ca, e, ha, hl => by
    simp only [VRs] at hl
    obtain ⟨cb, cl', rfl, hb, hl'⟩ := hl
    simp only [maxL] at e
    split at e
    · rename_i k x k' y
      simp only [VR] at ha hb
      subst ha; subst hb
      have hstep : ((if mx then Builtin.max2 else Builtin.min2) (.int k x) (.int k' y)).run P w = .ok (.int k (if (if mx then intLt x y else intLt y x) = true then y else x)) w := by
        cases mx with
        | true => simp only [if_true, Builtin.max2, Sem.run_pure, intLt_iff]; simp
        | false => simp only [Bool.false_eq_true, if_false, Builtin.min2, Sem.run_pure, intLt_iff]; simp
      have hv : VR φ (bi (bi mx (intLt x y) (intLt y x)) (.it k y) (.it k x)) (.int k (if (if mx then intLt x y else intLt y x) = true then y else x)) := by
        cases mx <;> simp only [bi_true, bi_false, if_true, Bool.false_eq_true, if_false]
        · cases intLt y x <;> simp [VR]
        · cases intLt x y <;> simp [VR]
      obtain ⟨cr, g1, g2⟩ := maxL_sound mx e hv hl'
      exact ⟨cr, by simp only [List.foldlM_cons, Sem.run_bind, hstep, Result.andThen_ok, g1], g2⟩
    · cases e

theorem max_sound {ats : Array Nat} {tt : Nat} {args : List AV} {cargs : List Value} (e : mnmx true args h m = .val v h' m') (ha : VRs φ args cargs) (k : HR φ h m w) :
    ValS P φ h m w (Builtin.max_ ats tt cargs.toArray) v h' m' ∧ h' = h ∧ m' = m := by
  unfold mnmx at e
  split at e
  · rename_i a r
    simp only [VRs] at ha
    obtain ⟨ca, cr, rfl, h1, h2⟩ := ha
    split at e
    · rename_i kk n hm
      rw [mkInt_eq] at e; cases e
      obtain ⟨c, g1, g2⟩ := maxL_sound (P := P) (w := w) true hm h1 h2
      exact ⟨.pure k (cv := c) (by simp only [Builtin.max_]; exact g1) g2, rfl, rfl⟩
    · cases e
  · cases e

theorem min_sound {ats : Array Nat} {tt : Nat} {args : List AV} {cargs : List Value} (e : mnmx false args h m = .val v h' m') (ha : VRs φ args cargs) (k : HR φ h m w) :
    ValS P φ h m w (Builtin.min_ ats tt cargs.toArray) v h' m' ∧ h' = h ∧ m' = m := by
  unfold mnmx at e
  split at e
  · rename_i a r
    simp only [VRs] at ha
    obtain ⟨ca, cr, rfl, h1, h2⟩ := ha
    split at e
    · rename_i kk n hm
      rw [mkInt_eq] at e; cases e
      obtain ⟨c, g1, g2⟩ := maxL_sound (P := P) (w := w) false hm h1 h2
      exact ⟨.pure k (cv := c) (by simp only [Builtin.min_]; exact g1) g2, rfl, rfl⟩
    · cases e
  · cases e
end

end Go.AM
namespace Go.AM

/-- what append does, in the one case and in the other -/
structure App (P : Program) (s : Sem Value) (w : World) (et size : Nat) (base : Option Addr) (sLen sCap n : Nat) (us : List Value) : Prop where
  len : us.length = n * size
  inPlace : sLen + n ≤ sCap → s.run P w = ((match base with | some a => Go.storeCells (a.add (sLen * size)) us | none => pure () : Sem Unit).run P w).andThen fun _ w => .ok (.slice base (sLen + n) sCap) w
  fresh : ¬ sLen + n ≤ sCap → ∀ old, old.size = sLen * size → (∀ w', w'.heap = w.heap → (Builtin.firstCells size sLen (.slice base sLen sCap)).run P w' = .ok old w') →
    ∃ cs cap w', s.run P w = .ok (.slice (some ⟨w.heap.size, 0, none⟩) (sLen + n) cap) w' ∧ sLen + n ≤ cap ∧ cs.size = cap * size ∧ (∃ more, cs = old ++ us.toArray ++ more) ∧
      w'.heap = w.heap.push (.cells cs et) ∧ Same w w'

section
variable {P : Program} {T : Tab} {φ : Emb} {h : Heap} {m : Ps} {w : World} {v : AV} {h' : Heap} {m' : Ps}

/-- append's second argument's type: that of a length or not -/
def ZerosR (P : Program) (rest : List Nat) (z : Bool) : Prop := rest = [] ∧ z = false ∨ ∃ xt r d, rest = xt :: r ∧ P.underlying xt = some d ∧ (z = true ∧ (∃ k, d = .int k) ∨ z = false ∧ ∀ k, d ≠ .int k)

theorem zerosOf_sound (hT : TOk T P) {rest : List Nat} {z : Bool} (e : zerosOf T rest = some z) : ZerosR P rest z := by
  unfold zerosOf at e
  split at e
  · rename_i xt r
    split at e
    · cases e
    · rename_i ti hti
      refine .inr ⟨xt, r, ti.u, rfl, (ty_ok hT hti).under, ?_⟩
      split at e
      · rename_i kk hk
        cases e; exact .inl ⟨rfl, kk, hk⟩
      · rename_i hk
        cases e; exact .inr ⟨rfl, hk⟩
  · cases e; exact .inl ⟨rfl, rfl⟩

theorem TyOk.run_zero' {t : Nat} {ti : TI} (k : TyOk P t ti) (hz : ti.zok = true) : ∃ z, (∀ w : World, (zeroValue t).run P w = .ok z w) ∧ ZeroOk ti z := by
  obtain ⟨i, h1, _, _, h2⟩ := k.info
  obtain ⟨z, h3, h4⟩ := h2 hz
  exact ⟨z, fun w => by simp [zeroValue, typeInfo, h1, h3], h4⟩

theorem grown_le (w : World) (need old e : Nat) : need ≤ grownCap w need old e := by
  unfold grownCap; simp [Question.cut]

set_option maxRecDepth 20000 in
theorem app_false {et : Nat} {ti : TI} {st tt : Nat} {rest : List Nat} (hund : P.underlying st = some (.slice et)) (ok : TyOk P et ti) (hzok : ti.zok = true)
    {base : Option Addr} {sLen sCap n : Nat} {x : Value} {more : List Value} {us : List Value}
    (hz : ZerosR P rest false)
    (hroom : roomy ti sLen n = true) (hn : ∀ w : World, (Builtin.lenOf x).run P w = .ok n w) (hlen : us.length = n * ti.size)
    (hus : ∀ w' : World, w'.heap = w.heap → (Builtin.firstCells ti.size n x).run P w' = .ok us.toArray w') :
    App P (Builtin.append_ (st :: rest).toArray tt ((.slice base sLen sCap) :: x :: more).toArray) w et ti.size base sLen sCap n us := by
  obtain ⟨r1, r2, r3⟩ := roomy_spec hroom
  obtain ⟨i, hi, hsz, hb, _⟩ := ok.info
  have hi' : ∀ w : World, (typeInfo et).run P w = .ok i w := fun w => by simp [typeInfo, hi]
  have nint : ∀ d : TypeDesc, (∀ k, d ≠ .int k) → Builtin.append_.match_1 (fun _ => Bool) d (fun _ => true) (fun _ => false) = false := fun d hd => by
    cases d <;> first | exact absurd rfl (hd _) | rfl
  refine ⟨hlen, fun hin => ?_, fun hin old hos hold => ?_⟩
  · rcases hz with ⟨rfl, _⟩ | ⟨xt, r, d, rfl, hd, ⟨hf, _⟩ | ⟨_, hdz⟩⟩
    · simp only [Builtin.append_, List.getElem?_toArray, List.getElem?_cons_zero, List.getElem?_cons_succ, List.getElem?_nil, Sem.run_bind, run_underlying' hund, Result.andThen_ok, ok.run_size, Sem.run_pure, Bool.false_eq_true, if_false, hn, Bool.not_false, if_true, hin]
      rw [hus w rfl]
      cases base <;> simp
    · cases hf
    · simp only [Builtin.append_, List.getElem?_toArray, List.getElem?_cons_zero, List.getElem?_cons_succ, Sem.run_bind, run_underlying' hund, run_underlying' hd, nint d hdz, Result.andThen_ok, ok.run_size, Sem.run_pure, Bool.false_eq_true, if_false, hn, Bool.not_false, if_true, hin]
      rw [hus w rfl]
      cases base <;> simp
  · obtain ⟨z, z1, z2⟩ := ok.run_zero' hzok
    refine ⟨old ++ us.toArray ++ Builtin.zeroCells z.cells (grownCap w (sLen + n) sCap et - (sLen + n)), grownCap w (sLen + n) sCap et,
      w.drew.alloc (.cells (old ++ us.toArray ++ Builtin.zeroCells z.cells (grownCap w (sLen + n) sCap et - (sLen + n))) et), ?_, grown_le _ _ _ _, ?_, ⟨_, rfl⟩, rfl, ⟨rfl, rfl, rfl⟩⟩
    · have hi63 : ¬ (9223372036854775807 < ((sLen : Int) + (n : Int))) := by omega
      have h48 : ¬ (281474976710656 < Builtin.nextslicecap (sLen + n) sCap * i.bytes) := by
        have := growslice_fits (need := sLen + n) (old := sCap) (bytes := i.bytes) (by omega) (by
          have : (sLen + n) * i.bytes ≤ 16777216 * 4096 := Nat.mul_le_mul (by omega) (by omega)
          omega)
        omega
      have hd1 := hold w.drew rfl
      have hd2 := hus w.drew rfl
      have hsize : ∀ w : World, (sizeOf et).run P w = .ok ti.size w := ok.run_size
      rcases hz with ⟨rfl, _⟩ | ⟨xt, r, d, rfl, hd, ⟨hf, _⟩ | ⟨_, hdz⟩⟩
      · simp [Builtin.append_, run_underlying hund, hsize, typeInfo, hi, hn, hin, hi63, h48, Question.forced, newRow, grownCap, hd1, hd2, z1]
      · cases hf
      · simp [Builtin.append_, run_underlying hund, run_underlying hd, nint d hdz, hsize, typeInfo, hi, hn, hin, hi63, h48, Question.forced, newRow, grownCap, hd1, hd2, z1]
    · have hcz : z.cells.size = ti.size := by rw [← Array.length_toList, (z2.cells (fun _ => none)).length, z2.len]
      have := grown_le w (sLen + n) sCap et
      simp only [Array.size_append, hos, List.size_toArray, hlen, Builtin.zeroCells, Array.size_map, Array.size_range, hcz]
      rw [← Nat.add_mul, ← Nat.add_mul]; congr 1; omega
set_option maxRecDepth 20000 in
theorem app_true {et : Nat} {ti : TI} {st tt : Nat} {rest : List Nat} (hund : P.underlying st = some (.slice et)) (ok : TyOk P et ti) {z : Value} (z1 : ∀ w : World, (zeroValue et).run P w = .ok z w) (z2 : ZeroOk ti z)
    {base : Option Addr} {sLen sCap n : Nat} {kx : IntKind} {more : List Value}
    (hz : ZerosR P rest true) (hroom : roomy ti sLen n = true) :
    App P (Builtin.append_ (st :: rest).toArray tt ((.slice base sLen sCap) :: (.int kx (n : Int)) :: more).toArray) w et ti.size base sLen sCap n (Builtin.zeroCells z.cells n).toList := by
  obtain ⟨r1, r2, r3⟩ := roomy_spec hroom
  obtain ⟨i, hi, hsz, hb, _⟩ := ok.info
  have hint : ∀ k : IntKind, Builtin.append_.match_1 (fun _ => Bool) (.int k) (fun _ => true) (fun _ => false) = true := fun k => rfl
  have hcz : z.cells.size = ti.size := by rw [← Array.length_toList, (z2.cells (fun _ => none)).length, z2.len]
  have hlen : (Builtin.zeroCells z.cells n).toList.length = n * ti.size := by simp [Builtin.zeroCells, hcz]
  have hwr : IntKind.i64.wrap (n : Int) = (n : Int) := wrap_i64 _ (by omega) (by omega)
  have hn0 : ¬ ((n : Int) < 0) := by omega
  have hnb : ¬ (281474976710656 < (n : Int) * (i.bytes : Int)) := by
    have h1 : n * i.bytes ≤ 16777216 * 4096 := Nat.mul_le_mul (by omega) (by omega)
    have h2 := Int.ofNat_le.2 h1
    rw [Int.natCast_mul] at h2
    have : ((16777216 * 4096 : Nat) : Int) = 68719476736 := rfl
    omega
  have hsize : ∀ w : World, (sizeOf et).run P w = .ok ti.size w := ok.run_size
  have happ : ∀ w : World, (if n * ti.size = 0 then pure #[] else do pure (Builtin.zeroCells (← zeroValue et).cells n) : Sem (Array Value)).run P w = .ok (Builtin.zeroCells z.cells n) w := fun w => by
    by_cases h0 : n * ti.size = 0
    · rw [if_pos h0]
      have : Builtin.zeroCells z.cells n = #[] := by
        apply Array.eq_empty_of_size_eq_zero
        rw [← Array.length_toList, hlen, h0]
      rw [this]; rfl
    · rw [if_neg h0]; simp [z1]
  rcases hz with ⟨_, hf⟩ | ⟨xt, r, d, rfl, hd, ⟨_, kd, rfl⟩ | ⟨hf, _⟩⟩
  · cases hf
  · refine ⟨hlen, fun hin => ?_, fun hin old hos hold => ?_⟩
    · have e1 : (Builtin.append_ (st :: xt :: r).toArray tt ((.slice base sLen sCap) :: (.int kx (n : Int)) :: more).toArray).run P w =
        ((if n * ti.size = 0 then pure #[] else do pure (Builtin.zeroCells (← zeroValue et).cells n) : Sem (Array Value)).run P w).andThen fun new w =>
          ((match base with | some a => Go.storeCells (a.add (sLen * ti.size)) new.toList | none => pure () : Sem Unit).run P w).andThen fun _ w => .ok (.slice base (sLen + n) sCap) w := by
        cases base <;> simp [Builtin.append_, run_underlying hund, run_underlying hd, hint, hsize, typeInfo, hi, asInt, asIntOf, hwr, hn0, hnb, hin]
      rw [e1, happ]; simp
    · refine ⟨old ++ Builtin.zeroCells z.cells n ++ Builtin.zeroCells z.cells (grownCap w (sLen + n) sCap et - (sLen + n)), grownCap w (sLen + n) sCap et,
        w.drew.alloc (.cells (old ++ Builtin.zeroCells z.cells n ++ Builtin.zeroCells z.cells (grownCap w (sLen + n) sCap et - (sLen + n))) et), ?_, grown_le _ _ _ _, ?_, ⟨_, by simp; rfl⟩, rfl, ⟨rfl, rfl, rfl⟩⟩
      · have hi63 : ¬ (9223372036854775807 < ((sLen : Int) + (n : Int))) := by omega
        have h48 : ¬ (281474976710656 < Builtin.nextslicecap (sLen + n) sCap * i.bytes) := by
          have := growslice_fits (need := sLen + n) (old := sCap) (bytes := i.bytes) (by omega) (by
            have : (sLen + n) * i.bytes ≤ 16777216 * 4096 := Nat.mul_le_mul (by omega) (by omega)
            omega)
          omega
        have hd1 := hold w.drew rfl
        have hd2 := happ w.drew
        have e1 : (Builtin.append_ (st :: xt :: r).toArray tt ((.slice base sLen sCap) :: (.int kx (n : Int)) :: more).toArray).run P w =
          ((if n * ti.size = 0 then pure #[] else do pure (Builtin.zeroCells (← zeroValue et).cells n) : Sem (Array Value)).run P w.drew).andThen fun new w' =>
            .ok (.slice (some ⟨w.heap.size, 0, none⟩) (sLen + n) (grownCap w (sLen + n) sCap et)) (w'.alloc (.cells (old ++ new ++ Builtin.zeroCells z.cells (grownCap w (sLen + n) sCap et - (sLen + n))) et)) := by
          simp [Builtin.append_, run_underlying hund, run_underlying hd, hint, hsize, typeInfo, hi, asInt, asIntOf, hwr, hn0, hnb, hin, hi63, h48, Question.forced, newRow, grownCap, hd1, z1]
        rw [e1, hd2]; rfl
      · have := grown_le w (sLen + n) sCap et
        have hl2 : (Builtin.zeroCells z.cells n).size = n * ti.size := by rw [← Array.length_toList, hlen]
        simp only [Array.size_append, hos, hl2, Builtin.zeroCells, Array.size_map, Array.size_range, hcz]
        rw [← Nat.add_mul, ← Nat.add_mul]; congr 1; omega
  · cases hf
end

end Go.AM
namespace Go.AM

/-- a new block takes another one's place -/
theorem HR.move {φ : Emb} {h : Heap} {m : Ps} {w w' : World} (k : HR φ h m w) {b : Ps} {blk blk' : AB} {c off sz off' sz' : Nat}
    (hb : getP h b = some blk) (ho : blk.isOwn = true) (hφ : φ b = some (c, off, sz))
    (hs : Same w w') (hn : w'.heap.size = w.heap.size) (hw : ∀ r, r ≠ c → w'.heap[r]? = w.heap[r]?)
    (hbr : BR (φ.upd m (c, off', sz')) blk' c off' sz' w') :
    HR (φ.upd m (c, off', sz')) (setT (some blk') m (killT h (b :: blk.ancs))) m.succ w' ∧ Kept φ h w (φ.upd m (c, off', sz')) (setT (some blk') m (killT h (b :: blk.ancs))) w' := by
  have hle := Emb.le_upd (k.fresh m (Nat.le_refl _)) (c, off', sz')
  have hget : ∀ b1 b2, getP (setT (some blk') m (killT h (b :: blk.ancs))) b1 = some b2 → (b1 = m ∧ b2 = blk') ∨ (b1 ≠ m ∧ b1 ≠ b ∧ b1 ∉ blk.ancs ∧ getP h b1 = some b2) := fun b1 b2 h1 => by
    rw [get_setT] at h1
    split at h1
    · rename_i e; cases h1; exact .inl ⟨e, rfl⟩
    · rename_i e
      obtain ⟨h2, h3⟩ := getP_kill_sub h1
      exact .inr ⟨e, fun e' => h3 (by rw [e']; exact List.mem_cons_self), fun e' => h3 (List.mem_cons_of_mem _ e'), h2⟩
  have hoff : ∀ b1 b2 c1 off1 sz1, b1 ≠ b → b1 ∉ blk.ancs → getP h b1 = some b2 → φ b1 = some (c1, off1, sz1) → c1 ≠ c := fun b1 b2 c1 off1 sz1 hne hna h1 h2 e => by
    subst e
    exact hna (k.apart b blk b1 b2 c1 off sz off1 sz1 hb ho h1 hne hφ h2).1
  refine ⟨⟨?_, ?_, ?_⟩, ⟨hle, hs.os, hs.tape, hs.output, by omega, fun r hr hno => hw r fun e => hno ?_, ?_, ?_⟩⟩
  · intro b1 hb1
    rw [Ps.val_succ] at hb1
    rw [Emb.upd_ne _ _ (fun e => by subst e; omega)]
    exact k.fresh b1 (by omega)
  · intro b1 b2 h1
    rcases hget b1 b2 h1 with ⟨rfl, rfl⟩ | ⟨hne, hne', hna, h1'⟩
    · exact ⟨_, _, _, Emb.upd_same _ _ _, hbr⟩
    · obtain ⟨c1, off1, sz1, h2, h3⟩ := k.blocks b1 b2 h1'
      exact ⟨c1, off1, sz1, by rw [Emb.upd_ne _ _ hne]; exact h2, h3.mono hle (hw _ (hoff _ _ _ _ _ hne' hna h1' h2))⟩
  · intro b1 b2 b3 b4 c1 off1 sz1 off2 sz2 h1 h2 h3 h4 h5 h6
    rcases hget b1 b2 h1 with ⟨rfl, rfl⟩ | ⟨hne, hne', hna, h1'⟩
    · rw [Emb.upd_same] at h5; cases h5
      rcases hget b3 b4 h3 with ⟨rfl, rfl⟩ | ⟨hne3, hne3', hna3, h3'⟩
      · exact absurd rfl h4
      · rw [Emb.upd_ne _ _ hne3] at h6
        exact absurd rfl (hoff _ _ _ _ _ hne3' hna3 h3' h6)
    · rw [Emb.upd_ne _ _ hne] at h5
      rcases hget b3 b4 h3 with ⟨rfl, rfl⟩ | ⟨hne3, hne3', hna3, h3'⟩
      · rw [Emb.upd_same] at h6; cases h6
        exact absurd rfl (hoff _ _ _ _ _ hne' hna h1' h5)
      · rw [Emb.upd_ne _ _ hne3] at h6
        exact k.apart b1 b2 b3 b4 c1 off1 sz1 off2 sz2 h1' h2 h3' h4 h5 h6
  · subst e; exact ⟨b, blk, off, sz, hb, ho, hφ⟩
  · rintro r hr ⟨b1, b2, off1, sz1, h1, h2, h3⟩
    rcases hget b1 b2 h1 with ⟨rfl, rfl⟩ | ⟨hne, hne', hna, h1'⟩
    · rw [Emb.upd_same] at h3; cases h3
      exact ⟨b, blk, off, sz, hb, ho, hφ⟩
    · rw [Emb.upd_ne _ _ hne] at h3
      exact ⟨b1, b2, off1, sz1, h1', h2, h3⟩
  · rintro r hr ⟨b1, b2, off1, sz1, h1, h3⟩
    rcases hget b1 b2 h1 with ⟨rfl, rfl⟩ | ⟨hne, hne', hna, h1'⟩
    · rw [Emb.upd_same] at h3; cases h3
      exact ⟨b, blk, off, sz, hb, hφ⟩
    · rw [Emb.upd_ne _ _ hne] at h3
      exact ⟨b1, b2, off1, sz1, h1', h3⟩

def isCells (blk : AB) : Prop := (∃ d ba s p ow an, blk = .ce d ba s p ow an) ∨ ∃ x s ow an, blk = .by x s ow an

theorem AB.shut_spec {blk : AB} (h : isCells blk) : blk.shut.isOwn = false ∧ blk.shut.size = blk.size ∧ blk.shut.get = blk.get := by
  rcases h with ⟨d, ba, s, p, ow, an, rfl⟩ | ⟨x, s, ow, an, rfl⟩ <;> exact ⟨rfl, rfl, rfl⟩

theorem isCells.br {φ : Emb} {blk : AB} {c off sz : Nat} {w : World} (h : isCells blk) : BR φ blk c off sz w ↔ CellsR φ blk.get blk.size blk.isOwn c off sz w := by
  rcases h with ⟨d, ba, s, p, ow, an, rfl⟩ | ⟨x, s, ow, an, rfl⟩ <;> exact Iff.rfl

theorem isCells.shut {blk : AB} (h : isCells blk) : isCells blk.shut := by
  rcases h with ⟨d, ba, s, p, ow, an, rfl⟩ | ⟨x, s, ow, an, rfl⟩
  · exact .inl ⟨_, _, _, _, _, _, rfl⟩
  · exact .inr ⟨_, _, _, _, rfl⟩

/-- a block is shut -/
theorem HR.shut {φ : Emb} {h : Heap} {m : Ps} {w : World} (k : HR φ h m w) {b : Ps} {blk : AB} (hb : getP h b = some blk) (hc : isCells blk) :
    HR φ (setT (some blk.shut) b h) m w ∧ Kept φ h w φ (setT (some blk.shut) b h) w := by
  obtain ⟨s1, s2, s3⟩ := AB.shut_spec hc
  have hget : ∀ b1 b2, getP (setT (some blk.shut) b h) b1 = some b2 → (b1 = b ∧ b2 = blk.shut) ∨ (b1 ≠ b ∧ getP h b1 = some b2) := fun b1 b2 h1 => by
    rw [get_setT] at h1
    split at h1
    · rename_i e; cases h1; exact .inl ⟨e, rfl⟩
    · rename_i e; exact .inr ⟨e, h1⟩
  refine ⟨⟨k.fresh, ?_, ?_⟩, ⟨Emb.le_refl _, rfl, rfl, rfl, Nat.le_refl _, fun _ _ _ => rfl, ?_, ?_⟩⟩
  · intro b1 b2 h1
    rcases hget b1 b2 h1 with ⟨rfl, rfl⟩ | ⟨hne, h1'⟩
    · obtain ⟨c, off, sz, g1, g2⟩ := k.blocks _ _ hb
      refine ⟨c, off, sz, g1, hc.shut.br.2 ?_⟩
      obtain ⟨cs, el, fz, q1, q2, q3, q4, q5⟩ := hc.br.1 g2
      rw [s1, s2, s3]
      exact ⟨cs, el, fz, q1, q2, q3, q4, fun hf => by cases hf⟩
    · exact k.blocks b1 b2 h1'
  · intro b1 b2 b3 b4 c1 off1 sz1 off2 sz2 h1 h2 h3 h4 h5 h6
    rcases hget b1 b2 h1 with ⟨rfl, rfl⟩ | ⟨hne, h1'⟩
    · rw [s1] at h2; cases h2
    · rcases hget b3 b4 h3 with ⟨rfl, rfl⟩ | ⟨hne3, h3'⟩
      · obtain ⟨g1, g2, g3⟩ := k.apart b1 b2 b3 blk c1 off1 sz1 off2 sz2 h1' h2 hb h4 h5 h6
        exact ⟨g1, s1, by rw [s2]; exact g3⟩
      · exact k.apart b1 b2 b3 b4 c1 off1 sz1 off2 sz2 h1' h2 h3' h4 h5 h6
  · rintro r hr ⟨b1, b2, off1, sz1, h1, h2, h3⟩
    rcases hget b1 b2 h1 with ⟨rfl, rfl⟩ | ⟨hne, h1'⟩
    · rw [s1] at h2; cases h2
    · exact ⟨b1, b2, off1, sz1, h1', h2, h3⟩
  · rintro r hr ⟨b1, b2, off1, sz1, h1, h3⟩
    rcases hget b1 b2 h1 with ⟨rfl, rfl⟩ | ⟨hne, h1'⟩
    · exact ⟨b1, blk, off1, sz1, hb, h3⟩
    · exact ⟨b1, b2, off1, sz1, h1', h3⟩

section
variable {P : Program} {T : Tab} {φ : Emb} {h : Heap} {m : Ps} {w : World} {v : AV} {h' : Heap} {m' : Ps}

theorem ValS.of_kept {φ1 : Emb} {h1 : Heap} {s : Sem Value} {m1 : Ps} (q : Kept φ h w φ1 h1 w) (hm : Nx φ m φ1 m1) (k : ValS P φ1 h1 m1 w s v h' m') : ValS P φ h m w s v h' m' := by
  obtain ⟨cv, w', φ', a1, a2, a3, a4, a5⟩ := k
  exact ⟨cv, w', φ', a1, a2, a3, q.trans a4, hm.trans a5⟩

/-- what a grown block holds: old cells (from o on), then new ones -/
structure Grown (φ : Emb) (blk' : AB) (len n size : Nat) (vs : List AV) (oldc : Nat → Option Value) : Prop where
  cells : isCells blk'
  sz : blk'.size ≤ (len + n) * size
  old : ∀ i v, i < len * size → blk'.get i = some v → flat v = true ∧ ∃ u, oldc i = some u ∧ VR φ v u
  new : ∀ i v, len * size ≤ i → blk'.get i = some v → vs[i - len * size]? = some v

/-- append to a new row -/
theorem grow_fresh {s : Sem Value} {et size sLen sCap n : Nat} {base : Option Addr} {us : List Value} (app : App P s w et size base sLen sCap n us) (hnot : ¬ sLen + n ≤ sCap)
    {old : Array Value} (hos : old.size = sLen * size) (hold : ∀ w', w'.heap = w.heap → (Builtin.firstCells size sLen (.slice base sLen sCap)).run P w' = .ok old w')
    {vs : List AV} (hv : VRs φ vs us) (hf : ∀ x, x ∈ vs → flat x = true) {blk' : AB} (g : Grown φ blk' sLen n size vs (old[·]?)) (k : HR φ h m w) {e : Nat} (he : e = size) {l : Nat} (hl : l = sLen + n) :
    ValS P φ h m w s (.sl m 0 l l e true) (setT (some blk') m h) m.succ := by
  subst he; subst hl
  obtain ⟨cs, cap, w', r1, r2, r3, ⟨more, rfl⟩, r5, r6⟩ := app.fresh hnot old hos hold
  have hus := app.len
  obtain ⟨q1, q2⟩ := k.newRow (blk := blk') (cs := old ++ us.toArray ++ more) et g.cells
    (by rw [r3]; exact Nat.le_trans g.sz (Nat.mul_le_mul_right _ r2))
    (fun i u hu => by
      rcases Nat.lt_or_ge i (sLen * e) with hi | hi
      · obtain ⟨hf', u', hu', hr'⟩ := g.old i u hi hu
        refine ⟨hf', u', ?_, hr'⟩
        rw [Array.getElem?_append_left (by simp; omega), Array.getElem?_append_left (by omega)]
        exact hu'
      · have hu' := g.new i u hi hu
        obtain ⟨c, hc, hr⟩ := hv.get hu'
        have hlt := (List.getElem?_eq_some_iff.1 hc).1
        refine ⟨hf u (List.mem_of_getElem? hu'), c, ?_, hr⟩
        rw [Array.getElem?_append_left (by simp; omega), Array.getElem?_append_right (by omega), hos]
        simpa using hc) r5 r6
  refine ⟨_, _, _, r1, ?_, q1, q2, Nx.new φ m _⟩
  simp only [VR]
  exact ⟨_, _, rfl, Nat.le_refl _, r2, fun hf => (by cases hf), fun _ => ⟨_, _, _, Emb.upd_same _ _ _, rfl, fun _ => (by rw [r3]; omega)⟩⟩

/-- append behind the known end, in place: memory -/
theorem grow_mem {s : Sem Value} {et size sLen sCap n : Nat} {c p : Nat} {us : List Value} (app : App P s w et size (some ⟨c, p, none⟩) sLen sCap n us) (hin : sLen + n ≤ sCap)
    {vs : List AV} (hv : VRs φ vs us) (hf : ∀ x, x ∈ vs → flat x = true) {blk : AB} {off sz : Nat} (hcr : CellsR φ blk.get blk.size true c off sz w) (hfit : p + sCap * size ≤ sz) :
    ∃ w' cs cs' el fz, s.run P w = .ok (.slice (some ⟨c, p, none⟩) (sLen + n) sCap) w' ∧ w.heap[c]? = some (.cells cs el fz) ∧ cs.size = sz ∧ w'.heap[c]? = some (.cells cs' el fz) ∧ cs'.size = sz ∧
      (∀ j, cs'[j]? = if p + sLen * size ≤ j ∧ j < p + sLen * size + n * size then us[j - (p + sLen * size)]? else cs[j]?) ∧
      (∀ r, r ≠ c → w'.heap[r]? = w.heap[r]?) ∧ Same w w' ∧ w'.heap.size = w.heap.size ∧ (∀ j, fz.1 ≤ j → j < fz.2 → sz ≤ j) := by
  obtain ⟨cs, el, fz, g1, g2, g3, g4, g5⟩ := hcr
  have hus := app.len
  have hmul : sLen * size + n * size ≤ sCap * size := by rw [← Nat.add_mul]; exact Nat.mul_le_mul_right _ hin
  obtain ⟨w', cs', r1, r2, r3, r4, r5, r6, r7⟩ := run_storeCells (P := P) (c := c) (p := p + sLen * size) us 0 w cs el fz g1 (by omega) (oneCells hv hf) (fun j a b => by rw [g2]; exact g5 rfl j a b)
  refine ⟨w', cs, cs', el, fz, ?_, g1, g2, r2, by omega, fun j => ?_, r5, r6, r7, g5 rfl⟩
  · rw [app.inPlace hin]
    simp only [add_zero_spot, r1, Result.andThen_ok]
  · rw [r4 j, hus]; rfl

theorem grown_cells {blk' : AB} {len n size sCap : Nat} {vs : List AV} {us : List Value} {cs cs' : Array Value} {p c sz : Nat} {el : TypeId} {fz : Nat × Nat} {w' : World} {ψ : Emb}
    (g : Grown φ blk' len n size vs (fun i => cs[p + i]?)) (hle : φ.le ψ) (hv : VRs φ vs us) (hf : ∀ x, x ∈ vs → flat x = true) (hus : us.length = n * size)
    (h1 : w'.heap[c]? = some (.cells cs' el fz)) (h2 : cs'.size = sz) (h3 : ∀ j, cs'[j]? = if p + len * size ≤ j ∧ j < p + len * size + n * size then us[j - (p + len * size)]? else cs[j]?)
    (hin : len + n ≤ sCap) (hfit : p + sCap * size ≤ sz) (hfz : ∀ j, fz.1 ≤ j → j < fz.2 → sz ≤ j) : CellsR ψ blk'.get blk'.size blk'.isOwn c p sz w' := by
  have hmul : (len + n) * size ≤ sCap * size := Nat.mul_le_mul_right _ hin
  have hsz := g.sz
  refine ⟨cs', el, fz, h1, h2, by omega, fun i v hi hg => ?_, fun _ => hfz⟩
  rw [Nat.add_mul] at hsz
  rcases Nat.lt_or_ge i (len * size) with hl | hl
  · obtain ⟨q1, u, q2, q3⟩ := g.old i v hl hg
    exact ⟨q1, u, by rw [h3, if_neg (by omega)]; exact q2, VR.mono hle _ _ q3⟩
  · have q1 := g.new i v hl hg
    obtain ⟨u, hu, hr⟩ := hv.get q1
    have hlt := (List.getElem?_eq_some_iff.1 hu).1
    refine ⟨hf v (List.mem_of_getElem? q1), u, ?_, VR.mono hle _ _ hr⟩
    rw [h3, if_pos (by omega), show p + i - (p + len * size) = i - len * size by omega]
    exact hu

/-- append: fork, or another row -/
theorem grow_fork {s : Sem Value} {et size len sCap n : Nat} {us : List Value} {b : Ps} {blk blk' : AB} {o c off sz : Nat}
    (app : App P s w et size (some ⟨c, off + o, none⟩) len sCap n us) (hb : getP h b = some blk) (hc : isCells blk) (ho : blk.isOwn = true) (hφ : φ b = some (c, off, sz))
    (hfit : off + o + sCap * size ≤ sz) (hend : o + len * size = blk.size) {vs : List AV} (hv : VRs φ vs us) (hf : ∀ x, x ∈ vs → flat x = true) (hanc : blk'.ancs = b :: blk.ancs) (hown : blk'.isOwn = true) (hszz : blk.size ≤ o + blk'.size)
    (g : ∀ cs el fz, w.heap[c]? = some (.cells cs el fz) → Grown φ blk' len n size vs (fun i => cs[off + o + i]?)) (k : HR φ h m w) {e l : Nat} (he : e = size) (hl : l = len + n)
    (hold : ∀ cs el fz, w.heap[c]? = some (.cells cs el fz) → ∃ old : Array Value, old.size = len * size ∧ (∀ i, i < len * size → old[i]? = cs[off + o + i]?) ∧
      ∀ w', w'.heap = w.heap → (Builtin.firstCells size len (.slice (some ⟨c, off + o, none⟩) len sCap)).run P w' = .ok old w') :
    ValS P φ h m w s (.sl m 0 l l e true) (setT (some blk') m (setT (some blk.shut) b h)) m.succ := by
  have hbb : CellsR φ blk.get blk.size blk.isOwn c off sz w := by
    obtain ⟨c1, off1, sz1, h1, h2⟩ := k.blocks b blk hb
    rw [hφ] at h1; cases h1
    exact hc.br.1 h2
  by_cases hin : len + n ≤ sCap
  · rw [ho] at hbb
    obtain ⟨w', cs, cs', el, fz, r1, r2, r3, r4, r5, r6, r7, r8, r9, r10⟩ := grow_mem app hin hv hf hbb hfit
    have hle := Emb.le_upd (k.fresh m (Nat.le_refl _)) (c, off + o, sz)
    have hcr := grown_cells (ψ := φ.upd m (c, off + o, sz)) (g cs el fz r2) hle hv hf app.len r4 r5 r6 hin hfit r10
    obtain ⟨q1, q2⟩ := k.fork hb ho hc hφ r8 r9 r7 ⟨cs, cs', el, fz, r2, r4, by omega, fun i hi => by rw [r6, if_neg (by omega)]⟩ hanc hown hszz ((g cs el fz r2).cells.br.2 hcr)
    refine ⟨_, _, _, r1, ?_, q1, q2, Nx.new φ m _⟩
    subst he; subst hl
    simp only [VR]
    exact ⟨_, _, rfl, Nat.le_refl _, hin, fun hf => (by cases hf), fun _ => ⟨_, _, _, Emb.upd_same _ _ _, rfl, fun _ => hfit⟩⟩
  · obtain ⟨cs, el, fz, g1, g2, g3, g4, g5⟩ := hbb
    obtain ⟨old, o1, o2, o3⟩ := hold cs el fz g1
    obtain ⟨k1, k2⟩ := k.shut hb hc
    have gg := g cs el fz g1
    exact ValS.of_kept k2 (Nx.refl _ _) (grow_fresh app hin o1 o3 hv hf ⟨gg.cells, gg.sz, fun i v hi hv' => by
      obtain ⟨a1, u, a2, a3⟩ := gg.old i v hi hv'
      exact ⟨a1, u, by rw [o2 i hi]; exact a2, a3⟩, gg.new⟩ k1 he hl)

/-- append: another block in its place, or another row -/
theorem grow_move {s : Sem Value} {et size len sCap n : Nat} {us : List Value} {b : Ps} {blk blk' : AB} {o c off sz : Nat}
    (app : App P s w et size (some ⟨c, off + o, none⟩) len sCap n us) (hb : getP h b = some blk) (hc : isCells blk) (ho : blk.isOwn = true) (hφ : φ b = some (c, off, sz))
    (hfit : off + o + sCap * size ≤ sz) {vs : List AV} (hv : VRs φ vs us) (hf : ∀ x, x ∈ vs → flat x = true)
    (g : ∀ cs el fz, w.heap[c]? = some (.cells cs el fz) → Grown φ blk' len n size vs (fun i => cs[off + o + i]?)) (k : HR φ h m w) {e l : Nat} (he : e = size) (hl : l = len + n)
    (hold : ∀ cs el fz, w.heap[c]? = some (.cells cs el fz) → ∃ old : Array Value, old.size = len * size ∧ (∀ i, i < len * size → old[i]? = cs[off + o + i]?) ∧
      ∀ w', w'.heap = w.heap → (Builtin.firstCells size len (.slice (some ⟨c, off + o, none⟩) len sCap)).run P w' = .ok old w') :
    ValS P φ h m w s (.sl m 0 l l e true) (setT (some blk') m (killT h (b :: blk.ancs))) m.succ := by
  have hbb : CellsR φ blk.get blk.size blk.isOwn c off sz w := by
    obtain ⟨c1, off1, sz1, h1, h2⟩ := k.blocks b blk hb
    rw [hφ] at h1; cases h1
    exact hc.br.1 h2
  by_cases hin : len + n ≤ sCap
  · rw [ho] at hbb
    obtain ⟨w', cs, cs', el, fz, r1, r2, r3, r4, r5, r6, r7, r8, r9, r10⟩ := grow_mem app hin hv hf hbb hfit
    have hle := Emb.le_upd (k.fresh m (Nat.le_refl _)) (c, off + o, sz)
    have hcr := grown_cells (ψ := φ.upd m (c, off + o, sz)) (g cs el fz r2) hle hv hf app.len r4 r5 r6 hin hfit r10
    obtain ⟨q1, q2⟩ := k.move hb ho hφ r8 r9 r7 ((g cs el fz r2).cells.br.2 hcr)
    refine ⟨_, _, _, r1, ?_, q1, q2, Nx.new φ m _⟩
    subst he; subst hl
    simp only [VR]
    exact ⟨_, _, rfl, Nat.le_refl _, hin, fun hf => (by cases hf), fun _ => ⟨_, _, _, Emb.upd_same _ _ _, rfl, fun _ => hfit⟩⟩
  · obtain ⟨cs, el, fz, g1, g2, g3, g4, g5⟩ := hbb
    obtain ⟨old, o1, o2, o3⟩ := hold cs el fz g1
    obtain ⟨k1, k2⟩ := k.killed (b :: blk.ancs)
    have gg := g cs el fz g1
    exact ValS.of_kept k2 (Nx.refl _ _) (grow_fresh app hin o1 o3 hv hf ⟨gg.cells, gg.sz, fun i v hi hv' => by
      obtain ⟨a1, u, a2, a3⟩ := gg.old i v hi hv'
      exact ⟨a1, u, by rw [o2 i hi]; exact a2, a3⟩, gg.new⟩ k1 he hl)
end

end Go.AM
namespace Go.AM
section
variable {P : Program} {T : Tab} {φ : Emb} {h : Heap} {m : Ps} {w : World} {v : AV} {h' : Heap} {m' : Ps}

theorem firstCells_at {c p len size cap : Nat} {us : List Value} {w' : World} (hl : us.length = len * size) (hu : ∀ j u, us[j]? = some u → w'.cell? ⟨c, p + j, none⟩ = some u) :
    (Builtin.firstCells size len (.slice (some ⟨c, p, none⟩) len cap)).run P w' = .ok us.toArray w' :=
  run_firstCells_some w' size len ⟨c, p, none⟩ len cap us hl fun j v hv => by rw [add_zero_spot]; exact hu j v hv

theorem cell_heap {w w' : World} (h : w'.heap = w.heap) (a : Addr) : w'.cell? a = w.cell? a := by simp only [World.cell?, h]

theorem hold_of {c p len size cap : Nat} {cs : Array Value} {el : TypeId} {fz : Nat × Nat} (hw : w.heap[c]? = some (.cells cs el fz)) (hle : p + len * size ≤ cs.size) :
    ∃ old : Array Value, old.size = len * size ∧ (∀ i, i < len * size → old[i]? = cs[p + i]?) ∧
      ∀ w' : World, w'.heap = w.heap → (Builtin.firstCells size len (.slice (some ⟨c, p, none⟩) len cap)).run P w' = .ok old w' := by
  refine ⟨((cs.toList.drop p).take (len * size)).toArray, by simp; omega, fun i hi => by simp [List.getElem?_take, hi], fun w' hw' => ?_⟩
  refine firstCells_at (by simp; omega) fun j u hu => ?_
  rw [List.getElem?_take] at hu
  split at hu
  · rename_i hj
    rw [cell?_of (by rw [hw']; exact hw)]
    simpa using hu
  · cases hu

theorem grown_ce {d : Trie AV} {base size : Nat} {pat : List AV} {ow ow' : Bool} {an an' : List Ps} {c off sz o len n e : Nat} {cs : Array Value} {el : TypeId} {fz : Nat × Nat} {vs : List AV}
    (hcr : CellsR φ (AB.ce d base size pat ow an).get size ow c off sz w) (hw : w.heap[c]? = some (.cells cs el fz)) (hle : o + len * e ≤ size) (hvs : vs.length = n * e) :
    Grown φ (.ce (setAllT d (base + o + len * e) vs) (base + o) ((len + n) * e) pat ow' an') len n e vs (fun i => cs[off + o + i]?) := by
  obtain ⟨cs', el', fz', g1, g2, g3, g4, g5⟩ := hcr
  rw [hw] at g1; cases g1
  have hget := fun i => ce_get d (base + o) ((len + n) * e) pat ow an (len * e) vs (by rw [hvs, Nat.add_mul]; exact Nat.le_refl _) ow' an' i
  refine ⟨.inl ⟨_, _, _, _, _, _, rfl⟩, Nat.le_refl _, fun i v hi hg => ?_, fun i v hi hg => ?_⟩
  · rw [hget, if_neg (by omega)] at hg
    have hg' : (AB.ce d base size pat ow an).get (o + i) = some v := by
      have h1 : Nat.blt i ((len + n) * e) = true := (blt_iff _ _).2 (AB.get_lt hg)
      have h2 : Nat.blt (o + i) size = true := (blt_iff _ _).2 (by omega)
      simp only [AB.get, h1, h2, bi_true] at hg ⊢
      rw [show Nat.add (base + o) i = Nat.add base (o + i) by show base + o + i = base + (o + i); omega] at hg
      exact hg
    obtain ⟨q1, u, q2, q3⟩ := g4 (o + i) v (by omega) hg'
    exact ⟨q1, u, by rw [show off + o + i = off + (o + i) by omega]; exact q2, q3⟩
  · have hlt := AB.get_lt hg
    have hlt' : i < (len + n) * e := hlt
    rw [Nat.add_mul] at hlt'
    rw [hget, if_pos (by omega)] at hg
    exact hg

theorem SlR.len (φ : Emb) {b : Ps} {o len cap e l : Nat} {op : Bool} {a : Addr} {ccap : Nat} (k : SlR φ b o len cap e op a ccap) (hl : l ≤ cap) : SlR φ b o l cap e op a ccap :=
  ⟨hl, k.2.1, k.2.2.1, k.2.2.2⟩

theorem app_nothing {s : Sem Value} {et size sLen sCap : Nat} {base : Option Addr} {us : List Value} (app : App P s w et size base sLen sCap 0 us) (hle : sLen ≤ sCap) : s.run P w = .ok (.slice base sLen sCap) w := by
  have hus : us = [] := List.eq_nil_of_length_eq_zero (by rw [app.len, Nat.zero_mul])
  rw [app.inPlace hle, hus]
  cases base <;> simp [Go.storeCells]

theorem HR.ceBlock (k : HR φ h m w) {b : Ps} {blk : AB} (hb : getP h b = some blk) (hc : isCells blk) {c off sz : Nat} (hφ : φ b = some (c, off, sz)) : CellsR φ blk.get blk.size blk.isOwn c off sz w := by
  obtain ⟨c1, off1, sz1, h1, h2⟩ := k.blocks b blk hb
  rw [hφ] at h1; cases h1
  exact hc.br.1 h2

theorem appendC_sound {s : Sem Value} {et e sLen sCap n : Nat} {base : Option Addr} {us : List Value} (app : App P s w et e base sLen sCap n us) {sv : AV} {vs : List AV}
    (ev : appendC h m e sv vs n = .val v h' m') (hs : VR φ sv (.slice base sLen sCap)) (hv : VRs φ vs us) (hf : ∀ x, x ∈ vs → flat x = true) (k : HR φ h m w) : ValS P φ h m w s v h' m' := by
  have hus := app.len
  have hvl : vs.length = n * e := by rw [← hv.length, hus]
  unfold appendC at ev
  split at ev
  · simp only [VR] at hs; cases hs
    cases hn : Nat.beq n 0 with
    | true =>
      rw [hn] at ev; simp only [bi_true] at ev; cases ev
      have hn := (beq_iff _ _).1 hn; subst hn
      exact .pure k (app_nothing app (Nat.le_refl _)) (by simp [VR])
    | false =>
      rw [hn] at ev; simp only [bi_false, newCells_eq] at ev; cases ev
      have hn0 : n ≠ 0 := fun h0 => by rw [h0] at hn; cases hn
      refine grow_fresh app (by omega) (old := #[]) (by simp) (fun w' _ => by simp [Builtin.firstCells]) hv hf ⟨.inl ⟨_, _, _, _, _, _, rfl⟩, ?_, fun i v hi _ => by omega, fun i v _ hg => ?_⟩ k rfl (by omega)
      · show vs.length ≤ _; rw [hvl, Nat.zero_add]; exact Nat.le_refl _
      · rw [Nat.zero_mul, Nat.sub_zero]; exact ceNew_get _ _ _ hg
  · rename_i b o len cap e' op
    have hs0 := hs
    simp only [VR] at hs
    obtain ⟨a, ccap, hsl, hs⟩ := hs
    cases hsl
    cases hn : Nat.beq n 0 with
    | true =>
      rw [hn] at ev; simp only [bi_true] at ev; cases ev
      have hn := (beq_iff _ _).1 hn; subst hn
      exact .pure k (app_nothing app (Nat.le_trans hs.1 hs.2.1)) hs0
    | false =>
      rw [hn] at ev; simp only [bi_false, forceNat_eq] at ev
      have hn0 : n ≠ 0 := fun h0 => by rw [h0] at hn; cases hn
      obtain ⟨he, ev2⟩ := bi_val ev
      clear ev
      have he := (beq_iff _ _).1 he; subst he
      have ev := ev2
      clear ev2
      cases hle : Nat.ble (Nat.add sLen n) cap with
      | true =>
        rw [hle] at ev; simp only [bi_true] at ev
        have hle : sLen + n ≤ cap := (ble_iff _ _).1 hle
        have hcc := hs.2.1
        obtain ⟨c, off, sz, hφ, rfl, hop⟩ := hs.2.2.2 (by omega)
        obtain ⟨h3, ev, hst⟩ := storeCells_sound ev
        cases ev
        obtain ⟨w', r1, r2, r3⟩ := hst P φ m w us c off sz k hv hf hφ
        refine ⟨.slice (some ⟨c, off + o, none⟩) (sLen + n) sCap, w', φ, ?_, ?_, r2, r3, Nx.refl _ _⟩
        · rw [app.inPlace (by omega)]
          simp only [add_zero_spot]
          rw [show off + o + sLen * e = off + Nat.add o (Nat.mul sLen e) by show off + o + sLen * e = off + (o + sLen * e); omega, r1]; rfl
        · simp only [VR]; exact ⟨_, _, rfl, hs.len φ hle⟩
      | false =>
        rw [hle] at ev; simp only [bi_false] at ev
        have hle : ¬ sLen + n ≤ cap := fun hh => by have h2 : Nat.ble (Nat.add sLen n) cap = true := (ble_iff _ _).2 hh; rw [h2] at hle; cases hle
        split at ev
        · rename_i d bs size pat own anc hb
          simp only [setAll_eq] at ev
          obtain ⟨hin, ev2⟩ := bi_val ev
          clear ev
          have ev := ev2
          clear ev2
          have hin : o + sLen * e ≤ size := (ble_iff _ _).1 hin
          have hc : isCells (.ce d bs size pat own anc) := .inl ⟨_, _, _, _, _, _, rfl⟩
          obtain ⟨c1, off1, sz1, hφ1, _⟩ := k.blocks b _ hb
          have hcr := k.ceBlock hb hc hφ1
          have hthere : ∃ cs el fz, w.heap[c1]? = some (.cells cs el fz) ∧ cs.size = sz1 ∧ off1 + size ≤ sz1 := by
            obtain ⟨cs, el, fz, q1, q2, q3, _⟩ := hcr; exact ⟨cs, el, fz, q1, q2, q3⟩
          obtain ⟨cs1, el1, fz1, t1, t2, t3⟩ := hthere
          have hgr : ∀ (ow' : Bool) (an' : List Ps) (cs : Array Value) (el : TypeId) (fz : Nat × Nat), w.heap[c1]? = some (.cells cs el fz) →
              Grown φ (.ce (setAllT d (bs + o + sLen * e) vs) (bs + o) ((sLen + n) * e) pat ow' an') sLen n e vs (fun i => cs[off1 + o + i]?) := fun ow' an' cs el fz hw => grown_ce hcr hw hin hvl
          have hold : ∀ cs el fz, w.heap[c1]? = some (.cells cs el fz) → ∃ old : Array Value, old.size = sLen * e ∧ (∀ i, i < sLen * e → old[i]? = cs[off1 + o + i]?) ∧
              ∀ w' : World, w'.heap = w.heap → (Builtin.firstCells e sLen (.slice (some ⟨c1, off1 + o, none⟩) sLen sCap)).run P w' = .ok old w' := fun cs el fz hw => by
            rw [t1] at hw; cases hw
            exact hold_of t1 (by omega)
          -- a row of its own
          have hfr : ∀ (h1 : Heap), HR φ h1 m w → Kept φ h w φ h1 w → ¬ sLen + n ≤ sCap → ∀ (ow' : Bool) (an' : List Ps),
              ValS P φ h m w s (.sl m 0 (sLen + n) (sLen + n) e true) (setT (some (.ce (setAllT d (bs + o + sLen * e) vs) (bs + o) ((sLen + n) * e) pat ow' an')) m h1) m.succ := fun h1 k1 k2 hnot ow' an' => by
            have gg := hgr ow' an' cs1 el1 fz1 t1
            by_cases hc0 : sCap = 0
            · have hl0 : sLen = 0 := by have := hs.1; have := hs.2.1; omega
              refine ValS.of_kept k2 (Nx.refl _ _) (grow_fresh app hnot (old := #[]) (by simp [hl0]) (fun w' _ => by rw [hl0]; simp [Builtin.firstCells, loadCells, loadCellsFrom]) hv hf ⟨gg.cells, gg.sz, fun i v hi _ => ?_, gg.new⟩ k1 rfl rfl)
              rw [hl0] at hi; omega
            · obtain ⟨c, off, sz, hφ, rfl, hop⟩ := hs.2.2.2 hc0
              rw [hφ1] at hφ; cases hφ
              obtain ⟨old, o1, o2, o3⟩ := hold cs1 el1 fz1 t1
              exact ValS.of_kept k2 (Nx.refl _ _) (grow_fresh app hnot o1 o3 hv hf ⟨gg.cells, gg.sz, fun i v hi hv' => by
                obtain ⟨a1, u, a2, a3⟩ := gg.old i v hi hv'
                exact ⟨a1, u, by rw [o2 i hi]; exact a2, a3⟩, gg.new⟩ k1 rfl rfl)
          cases op with
          | false =>
            simp only [bi_false, newBlock_eq, forceNat_eq] at ev; cases ev
            have := hs.2.2.1 rfl
            exact hfr h k (Kept.refl _ _ _) (by omega) _ _
          | true =>
            simp only [bi_true] at ev
            obtain ⟨hown, ev2⟩ := bi_val ev
            clear ev
            have ev := ev2
            clear ev2
            cases hend : Nat.beq (Nat.add o (Nat.mul sLen e)) size with
            | true =>
              rw [hend] at ev; simp only [bi_true, setK_eq, newBlock_eq, forceNat_eq] at ev; cases ev
              have hend : o + sLen * e = size := (beq_iff _ _).1 hend
              by_cases hc0 : sCap = 0
              · obtain ⟨k1, k2⟩ := k.shut hb hc
                exact hfr _ k1 k2 (by omega) _ _
              · obtain ⟨c, off, sz, hφ, rfl, hop⟩ := hs.2.2.2 hc0
                rw [hφ1] at hφ; cases hφ
                exact grow_fork (blk := .ce d bs size pat own anc) app hb hc hown hφ1 (hop rfl) hend hv hf rfl rfl (by show size ≤ o + (sLen + n) * e; rw [Nat.add_mul]; omega) (hgr _ _) k rfl rfl hold
            | false =>
              rw [hend] at ev; simp only [bi_false, kills_eq, newBlock_eq, forceNat_eq] at ev; cases ev
              by_cases hc0 : sCap = 0
              · obtain ⟨k1, k2⟩ := k.killed (b :: anc)
                exact hfr _ k1 k2 (by omega) _ _
              · obtain ⟨c, off, sz, hφ, rfl, hop⟩ := hs.2.2.2 hc0
                rw [hφ1] at hφ; cases hφ
                exact grow_move (blk := .ce d bs size pat own anc) app hb hc hown hφ1 (hop rfl) hv hf (hgr _ _) k rfl rfl hold
        · cases ev
  · cases ev
end

end Go.AM
namespace Go.AM

def avBytes (xs : List UInt8) : List AV := xs.map fun b => .it .u8 (.ofNat b.toNat)
theorem avBytes_R (φ : Emb) : ∀ xs : List UInt8, VRs φ (avBytes xs) (xs.map u8)
  | [] => VRs.nil_iff.2 rfl
  | x :: xs => VRs.cons (by simp [VR, u8]) (avBytes_R φ xs)
theorem avBytes_flat (xs : List UInt8) : ∀ x, x ∈ avBytes xs → flat x = true := fun x hx => by
  obtain ⟨b, _, rfl⟩ := List.mem_map.1 hx; rfl
theorem avBytes_get (xs : List UInt8) (i : Nat) : (avBytes xs)[i]? = (xs[i]?).map fun b => .it .u8 (.ofNat b.toNat) := by simp [avBytes]

section
variable {P : Program} {T : Tab} {φ : Emb} {h : Heap} {m : Ps} {w : World} {v : AV} {h' : Heap} {m' : Ps}

theorem grown_by {ys xs : List UInt8} {ow : Bool} {an : List Ps} {cs : Nat → Option Value} (hy : ∀ (j : Nat) (y : UInt8), ys[j]? = some y → cs j = some (u8 y)) :
    Grown φ (.by (encBytes (ys ++ xs)) (ys.length + xs.length) ow an) ys.length xs.length 1 (avBytes xs) cs := by
  refine ⟨.inr ⟨_, _, _, _, rfl⟩, by rw [Nat.mul_one]; exact Nat.le_refl _, fun i v hi hg => ?_, fun i v hi hg => ?_⟩
  · obtain ⟨b, hb, rfl⟩ := by_get_enc (by simp) hg
    rw [Nat.mul_one] at hi
    rw [List.getElem?_append_left hi] at hb
    exact ⟨rfl, u8 b, hy i b hb, by simp [VR, u8]⟩
  · obtain ⟨b, hb, rfl⟩ := by_get_enc (by simp) hg
    rw [Nat.mul_one] at hi ⊢
    rw [List.getElem?_append_right hi] at hb
    rw [avBytes_get, hb]; rfl

theorem appendU8_sound {s : Sem Value} {et sLen sCap n x : Nat} {base : Option Addr} {xs : List UInt8} (app : App P s w et 1 base sLen sCap n (xs.map u8)) (hx : encBytes xs = x) {sv : AV}
    (ev : appendU8 h m sv x n = .val v h' m') (hs : VR φ sv (.slice base sLen sCap)) (k : HR φ h m w) : ValS P φ h m w s v h' m' := by
  have hn : xs.length = n := by have := app.len; simpa using this
  subst hx; subst hn
  have hv := avBytes_R φ xs
  have hf := avBytes_flat xs
  have newG : ∀ (ow : Bool) (an : List Ps) (cs : Nat → Option Value), Grown φ (.by (encBytes xs) xs.length ow an) 0 xs.length 1 (avBytes xs) cs := fun ow an cs => by
    have := grown_by (φ := φ) (ys := []) (xs := xs) (ow := ow) (an := an) (cs := cs) (fun j y hj => by simp at hj)
    simpa using this
  unfold appendU8 at ev
  split at ev
  · simp only [VR] at hs; cases hs
    cases hn : Nat.beq xs.length 0 with
    | true =>
      rw [hn] at ev; simp only [bi_true] at ev; cases ev
      have hn := (beq_iff _ _).1 hn
      rw [hn] at app
      exact .pure k (app_nothing app (Nat.le_refl _)) (by simp [VR])
    | false =>
      rw [hn] at ev; simp only [bi_false, newBlock_eq] at ev; cases ev
      have hn0 : xs.length ≠ 0 := fun h0 => by rw [h0] at hn; cases hn
      exact grow_fresh app (by omega) (old := #[]) (by simp) (fun w' _ => by simp [Builtin.firstCells]) hv hf (newG _ _ _) k rfl (by omega)
  · rename_i b o len cap e' op
    have hs0 := hs
    simp only [VR] at hs
    obtain ⟨a, ccap, hsl, hs⟩ := hs
    cases hsl
    cases hn : Nat.beq xs.length 0 with
    | true =>
      rw [hn] at ev; simp only [bi_true] at ev; cases ev
      have hn := (beq_iff _ _).1 hn
      rw [hn] at app
      exact .pure k (app_nothing app (Nat.le_trans hs.1 hs.2.1)) hs0
    | false =>
      rw [hn] at ev; simp only [bi_false, forceNat_eq] at ev
      have hn0 : xs.length ≠ 0 := fun h0 => by rw [h0] at hn; cases hn
      obtain ⟨he, ev2⟩ := bi_val ev
      clear ev
      have he := (beq_iff _ _).1 he; subst he
      have ev := ev2
      clear ev2
      cases hle : Nat.ble (Nat.add sLen xs.length) cap with
      | true =>
        rw [hle] at ev; simp only [bi_true] at ev
        have hle : sLen + xs.length ≤ cap := (ble_iff _ _).1 hle
        have hcc := hs.2.1
        obtain ⟨c, off, sz, hφ, rfl, hop⟩ := hs.2.2.2 (by omega)
        split at ev
        · rename_i y size own anc hb
          obtain ⟨hown, ev2⟩ := bi_val ev
          obtain ⟨hin, ev3⟩ := bi_val ev2
          have hin : o + (sLen + xs.length) ≤ size := (ble_iff _ _).1 hin
          simp only [kills_eq, setK_eq] at ev3
          cases ev3
          obtain ⟨w', r1, r2, r3⟩ := bytesWrite_sound (P := P) (o := o + sLen) hb hown (by omega) k (bs := xs) rfl rfl hφ
          refine ⟨.slice (some ⟨c, off + o, none⟩) (sLen + xs.length) sCap, w', φ, ?_, ?_, r2, r3, Nx.refl _ _⟩
          · rw [app.inPlace (by omega)]
            simp only [add_zero_spot]
            rw [show off + o + sLen * 1 = off + (o + sLen) by omega, r1]; rfl
          · simp only [VR]; exact ⟨_, _, rfl, hs.len φ hle⟩
        · cases ev
      | false =>
        rw [hle] at ev; simp only [bi_false] at ev
        have hle : ¬ sLen + xs.length ≤ cap := fun hh => by have h2 : Nat.ble (Nat.add sLen xs.length) cap = true := (ble_iff _ _).2 hh; rw [h2] at hle; cases hle
        -- nothing old
        have fr0 : ∀ (h1 : Heap), HR φ h1 m w → Kept φ h w φ h1 w → sLen = 0 → ¬ sLen + xs.length ≤ sCap → ∀ (ow' : Bool) (an' : List Ps),
            ValS P φ h m w s (.sl m 0 xs.length xs.length 1 true) (setT (some (.by (encBytes xs) xs.length ow' an')) m h1) m.succ := fun h1 k1 k2 hl0 hnot ow' an' => by
          subst hl0
          refine ValS.of_kept k2 (Nx.refl _ _) (grow_fresh app hnot (old := #[]) (by simp) (fun w' _ => by simp [Builtin.firstCells, loadCells, loadCellsFrom]) hv hf (newG _ _ _) k1 rfl (by omega))
        cases hl : Nat.beq sLen 0 with
        | true =>
          rw [hl] at ev; simp only [bi_true] at ev
          have hl := (beq_iff _ _).1 hl
          cases op with
          | false =>
            simp only [bi_false, newBlock_eq] at ev; cases ev
            have := hs.2.2.1 rfl
            exact fr0 h k (Kept.refl _ _ _) hl (by omega) _ _
          | true =>
            simp only [bi_true] at ev
            split at ev
            · rename_i y size own anc hb
              obtain ⟨hown, ev2⟩ := bi_val ev
              simp only [kills_eq, newBlock_eq] at ev2; cases ev2
              obtain ⟨k1, k2⟩ := k.killed (b :: anc)
              by_cases hc0 : sCap = 0
              · exact fr0 _ k1 k2 hl (by omega) _ _
              · obtain ⟨c, off, sz, hφ, rfl, hop⟩ := hs.2.2.2 hc0
                subst hl
                exact grow_move (blk := .by y size own anc) app hb (.inr ⟨_, _, _, _, rfl⟩) hown hφ (hop rfl) hv hf (fun cs el fz hw => newG _ _ _) k rfl (by omega)
                  (fun cs el fz hw => ⟨#[], by simp, fun i hi => by omega, fun w' _ => by simp [Builtin.firstCells, loadCells, loadCellsFrom]⟩)
            · cases ev
        | false =>
          rw [hl] at ev; simp only [bi_false] at ev
          have hl0 : sLen ≠ 0 := fun h0 => by rw [h0] at hl; cases hl
          have hc0 : sCap ≠ 0 := by have := hs.1; have := hs.2.1; omega
          obtain ⟨c, off, sz, hφ, rfl, hop⟩ := hs.2.2.2 hc0
          split at ev
          · cases ev
          · rename_i y hy
            obtain ⟨ys, b1, b2, b3⟩ := k.bytes hy hφ
            subst b1
            have hcat : cat y ys.length (encBytes xs) = encBytes (ys ++ xs) := by rw [enc_append, b2]
            have gg : ∀ (ow : Bool) (an : List Ps) (cs : Array Value) (el : TypeId) (fz : Nat × Nat), w.heap[c]? = some (.cells cs el fz) →
                Grown φ (.by (encBytes (ys ++ xs)) (ys.length + xs.length) ow an) ys.length xs.length 1 (avBytes xs) (fun i => cs[off + o + i]?) := fun ow an cs el fz hw =>
              grown_by fun j y hj => by have := b3 j y hj; rwa [cell?_of hw] at this
            have hrun : ∀ w' : World, w'.heap = w.heap → (Builtin.firstCells 1 ys.length (.slice (some ⟨c, off + o, none⟩) ys.length sCap)).run P w' = .ok (ys.map u8).toArray w' := fun w' hw' =>
              firstCells_at (by simp) fun j u hu => by
                rw [List.getElem?_map] at hu
                cases hb : ys[j]? with
                | none => rw [hb] at hu; cases hu
                | some q => rw [hb] at hu; cases hu; rw [cell_heap hw']; exact b3 j q hb
            have hold : ∀ (cs : Array Value) (el : TypeId) (fz : Nat × Nat), w.heap[c]? = some (.cells cs el fz) → ∃ old : Array Value, old.size = ys.length * 1 ∧ (∀ i, i < ys.length * 1 → old[i]? = cs[off + o + i]?) ∧
                ∀ w' : World, w'.heap = w.heap → (Builtin.firstCells 1 ys.length (.slice (some ⟨c, off + o, none⟩) ys.length sCap)).run P w' = .ok old w' := fun cs el fz hw =>
              ⟨(ys.map u8).toArray, by simp, fun i hi => by
                rw [Nat.mul_one] at hi
                have h1 := b3 i ys[i] (List.getElem?_eq_getElem hi)
                rw [cell?_of hw] at h1
                rw [h1]; simp [hi], hrun⟩
            have hfr : ∀ (h1 : Heap), HR φ h1 m w → Kept φ h w φ h1 w → ¬ ys.length + xs.length ≤ sCap → ∀ (ow' : Bool) (an' : List Ps),
                ValS P φ h m w s (.sl m 0 (ys.length + xs.length) (ys.length + xs.length) 1 true) (setT (some (.by (encBytes (ys ++ xs)) (ys.length + xs.length) ow' an')) m h1) m.succ := fun h1 k1 k2 hnot ow' an' =>
              ValS.of_kept k2 (Nx.refl _ _) (grow_fresh app hnot (old := (ys.map u8).toArray) (by simp) hrun hv hf (grown_by fun j y hj => by simp [hj]) k1 rfl rfl)
            rw [hcat] at ev
            cases op with
            | false =>
              simp only [bi_false, newBlock_eq] at ev; cases ev
              have := hs.2.2.1 rfl
              exact hfr h k (Kept.refl _ _ _) (by omega) _ _
            | true =>
              simp only [bi_true] at ev
              split at ev
              · rename_i y' size own anc hb
                obtain ⟨hown, ev2⟩ := bi_val ev
                clear ev
                cases hend : Nat.beq (Nat.add o ys.length) size with
                | true =>
                  rw [hend] at ev2; simp only [bi_true, setK_eq, newBlock_eq] at ev2; cases ev2
                  have hend : o + ys.length = size := (beq_iff _ _).1 hend
                  exact grow_fork (blk := .by y' size own anc) app hb (.inr ⟨_, _, _, _, rfl⟩) hown hφ (hop rfl) (by rw [Nat.mul_one]; exact hend) hv hf rfl rfl (by show size ≤ o + (ys.length + xs.length); omega) (gg _ _) k rfl rfl hold
                | false =>
                  rw [hend] at ev2; simp only [bi_false, kills_eq, newBlock_eq] at ev2; cases ev2
                  exact grow_move (blk := .by y' size own anc) app hb (.inr ⟨_, _, _, _, rfl⟩) hown hφ (hop rfl) hv hf (gg _ _) k rfl rfl hold
              · cases ev
  · cases ev

theorem lenSl_sound {x : AV} {n : Nat} {cx : Value} (e : lenSl x = some n) (hx : VR φ x cx) (w : World) : (Builtin.lenOf cx).run P w = .ok n w := by
  unfold lenSl at e
  split at e
  · cases e; simp only [VR] at hx; subst hx; rfl
  · cases e; simp only [VR] at hx; obtain ⟨a, cc, rfl, _⟩ := hx; rfl
  · cases e; simp only [VR] at hx; obtain ⟨s, rfl, _, h2⟩ := hx; rw [← h2]; rfl
  · cases e

theorem lenSl_le {x : AV} {n : Nat} (e : lenSl x = some n) : True := trivial

/-- a slice's cells, or none of them -/
theorem readSl_sound {e n : Nat} {x : AV} {l : List AV} {cx : Value} (hl : readSl h e x = some l) (hn : lenSl x = some n) (hx : VR φ x cx) (k : HR φ h m w) :
    ∃ us, us.length = n * e ∧ VRs φ l us ∧ (∀ x, x ∈ l → flat x = true) ∧ ∀ (n' : Nat) (w' : World), n' ≤ n → w'.heap = w.heap → (Builtin.firstCells e n' cx).run P w' = .ok (us.take (n' * e)).toArray w' := by
  unfold readSl at hl
  split at hl
  · cases hl
    simp only [VR] at hx; subst hx
    cases hn
    exact ⟨[], by simp, VRs.nil_iff.2 rfl, fun x hx => by simp at hx, fun n' w' _ _ => by simp [Builtin.firstCells]⟩
  · rename_i b o len cap e' op
    cases hn
    obtain ⟨he, hl2⟩ := bi_some hl
    clear hl
    have he := (beq_iff _ _).1 he; subst he
    have hl := hl2
    clear hl2
    simp only [VR] at hx
    obtain ⟨a, cc, rfl, hs⟩ := hx
    cases h0 : Nat.beq n 0 with
    | true =>
      rw [h0] at hl; simp only [bi_true] at hl; cases hl
      have h0 := (beq_iff _ _).1 h0; subst h0
      exact ⟨[], by simp, VRs.nil_iff.2 rfl, fun x hx => by simp at hx, fun n' w' hn' _ => by (have : n' = 0 := by omega); subst this; simp [Builtin.firstCells, loadCells, loadCellsFrom]⟩
    | false =>
      rw [h0] at hl; simp only [bi_false] at hl
      have hn0 : n ≠ 0 := fun h => by rw [h] at h0; cases h0
      obtain ⟨c, off, sz, hφ, rfl, _⟩ := hs.2.2.2 (by have := hs.1; have := hs.2.1; omega)
      unfold readCells at hl
      split at hl
      · rename_i blk hb
        obtain ⟨us, u1, u2, u3, u4⟩ := k.cellsL hb hl hφ
        have hul : us.length = n * e := u1
        refine ⟨us, hul, u2, u3, fun n' w' hn' hw' => ?_⟩
        refine run_firstCells_some w' e n' ⟨c, off + o, none⟩ _ _ _ (by rw [List.length_take, hul]; exact Nat.min_eq_left (Nat.mul_le_mul_right _ hn')) fun j u hu => ?_
        rw [List.getElem?_take] at hu
        split at hu
        · rw [add_zero_spot, cell_heap hw']; exact u4 j u hu
        · cases hu
      · cases hl
  · cases hl

/-- a slice's or a string's bytes -/
theorem readSlB_sound {n y len : Nat} {x : AV} {cx : Value} (hl : readSlB h x = some (y, len)) (hn : lenSl x = some n) (hx : VR φ x cx) (k : HR φ h m w) :
    ∃ xs : List UInt8, xs.length = n ∧ encBytes xs = y ∧ ∀ (n' : Nat) (w' : World), n' ≤ n → w'.heap = w.heap → (Builtin.firstCells 1 n' cx).run P w' = .ok ((xs.take n').map u8).toArray w' := by
  unfold readSlB at hl
  split at hl
  · cases hl
    simp only [VR] at hx; subst hx
    cases hn
    exact ⟨[], rfl, rfl, fun n' w' _ _ => by simp [Builtin.firstCells]⟩
  · cases hl; cases hn
    simp only [VR] at hx
    obtain ⟨s, rfl, rfl, rfl⟩ := hx
    refine ⟨s.data.toList, rfl, rfl, fun n' w' hn' _ => ?_⟩
    simp only [Builtin.firstCells, Sem.run_pure]
    congr 1
    apply Array.ext'
    rw [Array.toList_map, ByteArray.data_extract]
    simp [List.extract_eq_take_drop]
    rfl
  · rename_i b o len' cap e' op
    cases hn
    obtain ⟨he, hl2⟩ := bi_some hl
    clear hl
    have he := (beq_iff _ _).1 he; subst he
    have hl := hl2
    clear hl2
    simp only [VR] at hx
    obtain ⟨a, cc, rfl, hs⟩ := hx
    cases h0 : Nat.beq n 0 with
    | true =>
      rw [h0] at hl; simp only [bi_true] at hl; cases hl
      have h0 := (beq_iff _ _).1 h0; subst h0
      refine ⟨[], rfl, rfl, fun n' w' hn' _ => ?_⟩
      have : n' = 0 := by omega
      subst this
      simp [Builtin.firstCells, loadCells, loadCellsFrom]
    | false =>
      rw [h0] at hl; simp only [bi_false] at hl
      have hn0 : n ≠ 0 := fun h => by rw [h] at h0; cases h0
      obtain ⟨c, off, sz, hφ, rfl, _⟩ := hs.2.2.2 (by have := hs.1; have := hs.2.1; omega)
      split at hl
      · rename_i y' hy
        cases hl
        obtain ⟨xs, b1, b2, b3⟩ := k.bytes hy hφ
        refine ⟨xs, b1, b2, fun n' w' hn' hw' => ?_⟩
        refine run_firstCells_some w' 1 n' ⟨c, off + o, none⟩ _ _ _ (by simp; omega) fun j u hu => ?_
        rw [List.getElem?_map, List.getElem?_take] at hu
        split at hu
        · cases hb : xs[j]? with
          | none => rw [hb] at hu; cases hu
          | some q => rw [hb] at hu; cases hu; rw [add_zero_spot, cell_heap hw']; exact b3 j q hb
        · cases hu
      · cases hl
  · cases hl

theorem append_sound (hT : TOk T P) {ats : List Nat} {tt : Nat} {args : List AV} {cargs : List Value} (e : appendOp T ats args h m = .val v h' m') (ha : VRs φ args cargs) (k : HR φ h m w) :
    ValS P φ h m w (Builtin.append_ ats.toArray tt cargs.toArray) v h' m' := by
  unfold appendOp at e
  split at e
  · cases e
  · rename_i st rest
    split at e
    · rename_i s x more
      simp only [VRs] at ha
      obtain ⟨cs, _, rfl, hs, cx, cmore, rfl, hx, _⟩ := ha
      split at e
      · cases e
      · rename_i et ti hel
        obtain ⟨hund, ok⟩ := elemOfSlice_sound hT hel
        split at e
        · cases e
        · rename_i z hz
          have hz := zerosOf_sound hT hz
          split at e
          · cases e
          · rename_i ls hls
            have hcs : ∃ base sCap, cs = .slice base ls sCap := by
              unfold lenSl at hls
              split at hls
              · cases hls; simp only [VR] at hs; exact ⟨_, _, hs⟩
              · cases hls; simp only [VR] at hs; obtain ⟨a, cc, rfl, _⟩ := hs; exact ⟨_, _, rfl⟩
              · rename_i n len
                exfalso
                revert e
                cases hls
                simp only [VR] at hs
                obtain ⟨ss, rfl, _⟩ := hs
                intro e
                split at e
                · cases e
                · rename_i n' hn'
                  obtain ⟨_, e2⟩ := bi_val e
                  cases z <;> cases hu8 : isU8 T et <;> simp only [hu8, bi_true, bi_false] at e2
                  · split at e2
                    · simp [appendC] at e2
                    · cases e2
                  · split at e2
                    · simp [appendU8] at e2
                    · cases e2
                  · simp [appendC] at e2
                  · obtain ⟨_, e3⟩ := bi_val e2
                    simp [appendU8] at e3
              · cases hls
            obtain ⟨base, sCap, rfl⟩ := hcs
            split at e
            · cases e
            · rename_i n hn
              obtain ⟨hroom, e2⟩ := bi_val e
              clear e
              obtain ⟨hzok, hroom⟩ := bi_and hroom
              cases z with
              | true =>
                simp only [bi_true] at hn e2
                obtain ⟨kx, rfl⟩ := asIdx_sound hn hx
                obtain ⟨zz, z1, z2⟩ := ok.run_zero' hzok
                have app := app_true (P := P) (w := w) (tt := tt) (base := base) (sLen := ls) (sCap := sCap) (kx := kx) (more := cmore) hund ok z1 z2 hz hroom
                cases hu8 : isU8 T et with
                | true =>
                  rw [hu8] at e2; simp only [bi_true] at e2
                  obtain ⟨h8, e3⟩ := bi_val e2
                  have hz8 := isZ8_eq h8
                  have hs1 := (isU8_sound hT hu8).2 _ ok
                  have hzc : z2.cells = z2.cells := rfl
                  have hcells : (Builtin.zeroCells zz.cells n).toList = (List.replicate n (0 : UInt8)).map u8 := by
                    have hc := z2.cells (fun _ => none)
                    rw [hz8] at hc
                    simp only [VRs, VR] at hc
                    obtain ⟨v0, l0, h1, rfl, rfl⟩ := hc
                    have hzz : zz.cells = #[.int .u8 0] := by rw [← Array.toList_inj, h1]
                    rw [hzz]
                    apply List.ext_getElem?
                    intro i
                    simp only [Builtin.zeroCells, Array.toList_map, List.getElem?_map]
                    simp [List.getElem?_range, Nat.mod_one]
                    by_cases hi : i < n
                    · simp [hi, List.getElem?_replicate, u8]
                    · simp [hi, List.getElem?_replicate]
                  rw [hs1, hcells] at app
                  exact appendU8_sound app (by
                    have : ∀ n, encBytes (List.replicate n (0 : UInt8)) = 0 := fun n => by
                      induction n with
                      | zero => rfl
                      | succ n ih => rw [List.replicate_succ]; show 0 + 256 * encBytes _ = 0; rw [ih]
                    exact this n) e3 hs k
                | false =>
                  rw [hu8] at e2; simp only [bi_false, forceL_eq] at e2
                  have hrep := VRs.repeat (z2.cells φ) n (n * zz.cells.size) (by rw [← Array.length_toList, (z2.cells φ).length])
                  exact appendC_sound app e2 hs (by exact hrep) (repeatL_flat z2.flats n) k
              | false =>
                simp only [bi_false] at hn e2
                have hlen := fun w : World => lenSl_sound (P := P) hn hx w
                cases hu8 : isU8 T et with
                | true =>
                  rw [hu8] at e2; simp only [bi_true] at e2
                  have hs1 := (isU8_sound hT hu8).2 _ ok
                  split at e2
                  · rename_i y ly hy
                    rw [forceNat_eq] at e2
                    obtain ⟨xs, x1, x2, x3⟩ := readSlB_sound (P := P) hy hn hx k
                    have app := app_false (P := P) (w := w) (tt := tt) (base := base) (sLen := ls) (sCap := sCap) (x := cx) (more := cmore) (us := xs.map u8) hund ok hzok hz hroom hlen (by rw [hs1]; simp [x1])
                      (fun w' hw' => by
                        rw [hs1]
                        have := x3 n w' (Nat.le_refl _) hw'
                        rwa [List.take_of_length_le (by omega)] at this)
                    rw [hs1] at app
                    exact appendU8_sound app x2 e2 hs k
                  · cases e2
                | false =>
                  rw [hu8] at e2; simp only [bi_false] at e2
                  split at e2
                  · rename_i vs hvs
                    obtain ⟨us, u1, u2, u3, u4⟩ := readSl_sound (P := P) hvs hn hx k
                    exact appendC_sound (app_false (P := P) (w := w) (tt := tt) (base := base) (sLen := ls) (sCap := sCap) (x := cx) (more := cmore) hund ok hzok hz hroom hlen u1 (fun w' hw' => by
                      have := u4 n w' (Nat.le_refl _) hw'
                      rwa [List.take_of_length_le (by omega)] at this)) e2 hs u2 u3 k
                  · cases e2
    · cases e
end

end Go.AM
namespace Go.AM
section
variable {P : Program} {T : Tab} {φ : Emb} {h : Heap} {m : Ps} {w : World} {v : AV} {h' : Heap} {m' : Ps}

theorem lenSl_slice {x : AV} {n : Nat} {cx : Value} (e : lenSl x = some n) (hx : VR φ x cx) : (∃ base cap, cx = .slice base n cap) ∨ (∃ s : ByteArray, cx = .string s ∧ s.size = n) := by
  unfold lenSl at e
  split at e
  · cases e; simp only [VR] at hx; exact .inl ⟨_, _, hx⟩
  · cases e; simp only [VR] at hx; obtain ⟨a, cc, rfl, _⟩ := hx; exact .inl ⟨_, _, rfl⟩
  · cases e; simp only [VR] at hx; obtain ⟨s, rfl, _, h2⟩ := hx; exact .inr ⟨s, rfl, h2⟩
  · cases e

theorem firstCells_zero {x : AV} {n : Nat} {cx : Value} (e : lenSl x = some n) (hx : VR φ x cx) (size : Nat) (w : World) : (Builtin.firstCells size 0 cx).run P w = .ok #[] w := by
  rcases lenSl_slice e hx with ⟨base, cap, rfl⟩ | ⟨s, rfl, _⟩
  · cases base <;> simp [Builtin.firstCells, loadCells, loadCellsFrom]
  · simp only [Builtin.firstCells, Sem.run_pure]
    congr 1
    apply Array.ext'
    rw [Array.toList_map, ByteArray.data_extract]
    simp

theorem copy_sound (hT : TOk T P) {ats : List Nat} {tt : Nat} {args : List AV} {cargs : List Value} (e : copyOp T ats args h m = .val v h' m') (ha : VRs φ args cargs) (k : HR φ h m w) :
    ValS P φ h m w (Builtin.copy_ ats.toArray tt cargs.toArray) v h' m' := by
  unfold copyOp at e
  split at e
  · cases e
  · rename_i st rest
    split at e
    · rename_i d s more
      simp only [VRs] at ha
      obtain ⟨cd, _, rfl, hd, cs, cmore, rfl, hs, _⟩ := ha
      split at e
      · cases e
      · rename_i et ti hel
        obtain ⟨hund, ok⟩ := elemOfSlice_sound hT hel
        split at e
        · cases e
        · rename_i ls hls
          have hlen := fun w : World => lenSl_sound (P := P) hls hs w
          have hrun : ∀ base ld cap, cd = .slice base ld cap → (Builtin.copy_ (st :: rest).toArray tt (cd :: cs :: cmore).toArray).run P w =
              ((Builtin.firstCells ti.size (Nat.min ls ld) cs).run P w).andThen fun cells w => ((match base with | some a => Go.storeCells a cells.toList | none => pure () : Sem Unit).run P w).andThen fun _ w => .ok (goInt (Nat.min ls ld)) w := fun base ld cap hcd => by
            subst hcd
            simp only [Builtin.copy_, List.getElem?_toArray, List.getElem?_cons_zero, List.getElem?_cons_succ, Sem.run_bind, run_underlying' hund, Result.andThen_ok, hlen, ok.run_size]
            congr 1
            funext cells w'
            cases base <;> simp
          split at e
          · cases e
            simp only [VR] at hd
            refine .pure k (cv := goInt 0) ?_ (VR.nat φ 0)
            rw [hrun _ _ _ hd]
            rw [show Nat.min ls 0 = 0 from Nat.min_zero ls, firstCells_zero hls hs]
            rfl
          · rename_i b o ld cap e' op
            simp only [VR] at hd
            obtain ⟨a, cc, rfl, hsl⟩ := hd
            have hmin : bi (Nat.ble ls ld) ls ld = Nat.min ls ld := by
              cases hb : Nat.ble ls ld with
              | true => have := (ble_iff _ _).1 hb; exact (Nat.min_eq_left this).symm
              | false =>
                have : ¬ ls ≤ ld := fun hh => by rw [(ble_iff _ _).2 hh] at hb; cases hb
                show ld = _
                exact (Nat.min_eq_right (by omega)).symm
            rw [forceNat_eq, hmin] at e
            have hr := hrun _ _ _ rfl
            have hle1 : Nat.min ls ld ≤ ls := Nat.min_le_left _ _
            have hle2 : Nat.min ls ld ≤ ld := Nat.min_le_right _ _
            generalize Nat.min ls ld = n at e hr hle1 hle2
            cases hn : Nat.beq n 0 with
            | true =>
              rw [hn] at e; simp only [bi_true] at e; cases e
              have hn := (beq_iff _ _).1 hn; subst hn
              refine .pure k (cv := goInt 0) ?_ (VR.nat φ 0)
              rw [hr, firstCells_zero hls hs]
              simp [Go.storeCells]
            | false =>
              rw [hn] at e; simp only [bi_false] at e
              have hn0 : n ≠ 0 := fun h0 => by rw [h0] at hn; cases hn
              obtain ⟨c, off, sz, hφ, rfl, _⟩ := hsl.2.2.2 (by have := hsl.1; have := hsl.2.1; omega)
              obtain ⟨he, e2⟩ := bi_val e
              clear e
              have he := (beq_iff _ _).1 he; subst he
              cases hu8 : isU8 T et with
              | true =>
                rw [hu8] at e2; simp only [bi_true] at e2
                have hs1 := (isU8_sound hT hu8).2 _ ok
                split at e2
                · rename_i y ly hy
                  rw [forceNat_eq] at e2
                  obtain ⟨xs, x1, x2, x3⟩ := readSlB_sound (P := P) hy hls hs k
                  split at e2
                  · rename_i z size own anc hb
                    obtain ⟨hown, e3⟩ := bi_val e2
                    obtain ⟨hin, e4⟩ := bi_val e3
                    have hin : o + n ≤ size := (ble_iff _ _).1 hin
                    simp only [kills_eq, forceNat_eq, setK_eq] at e4
                    cases e4
                    have hyx : encBytes (xs.take n) = ext y 0 n := by
                      have := enc_take_drop xs 0 n (by omega)
                      rw [Nat.zero_add, List.drop_zero, x2] at this
                      exact this.symm
                    obtain ⟨w', r1, r2, r3⟩ := bytesWrite_sound (P := P) (o := o) (n := n) hb hown hin k (bs := xs.take n) (by simp; omega) hyx hφ
                    refine ⟨goInt n, w', φ, ?_, VR.nat φ n, r2, r3, Nx.refl _ _⟩
                    rw [hr, hs1, x3 n w hle1 rfl]
                    simp only [Result.andThen_ok, r1]
                  · cases e2
                · cases e2
              | false =>
                rw [hu8] at e2; simp only [bi_false] at e2
                split at e2
                · rename_i vs hvs
                  rw [forceL_eq] at e2
                  obtain ⟨us, u1, u2, u3, u4⟩ := readSl_sound (P := P) hvs hls hs k
                  obtain ⟨h3, e3, hst⟩ := storeCells_sound e2
                  cases e3
                  obtain ⟨w', r1, r2, r3⟩ := hst P φ m w (us.take (n * ti.size)) c off sz k (u2.take _) (fun x hx => u3 x (List.mem_of_mem_take hx)) hφ
                  refine ⟨goInt n, w', φ, ?_, VR.nat φ n, r2, r3, Nx.refl _ _⟩
                  have hfc : (Builtin.firstCells ti.size n cs).run P w = .ok (us.take (n * ti.size)).toArray w := u4 n w hle1 rfl
                  rw [hr, hfc]
                  simp only [Result.andThen_ok, r1]
                · cases e2
          · cases e
    · cases e

theorem clear_sound (hT : TOk T P) {ats : List Nat} {tt : Nat} {args : List AV} {cargs : List Value} (e : clearOp T ats args h m = .val v h' m') (ha : VRs φ args cargs) (k : HR φ h m w) :
    ValS P φ h m w (Builtin.clear_ ats.toArray tt cargs.toArray) v h' m' := by
  have vr0 : ∀ φ, VR φ (.tu []) (.tuple #[]) := fun φ => by simp only [VR]; exact ⟨[], rfl, VRs.nil_iff.2 rfl⟩
  unfold clearOp at e
  split at e
  · cases e
  · rename_i t rest
    split at e
    · rename_i a more
      simp only [VRs] at ha
      obtain ⟨cx, cmore, rfl, hx, _⟩ := ha
      split at e
      · cases e
      · rename_i tt' hti
        have hu := (ty_ok hT hti).under
        split at e
        · cases e
          simp only [VR] at hx; subst hx
          refine .pure k (cv := .tuple #[]) ?_ (vr0 φ)
          simp only [Builtin.clear_, List.getElem?_toArray, List.getElem?_cons_zero, Sem.run_bind, run_underlying' hu, Result.andThen_ok]
          cases tt'.u <;> rfl
        · cases e
          simp only [VR] at hx; subst hx
          refine .pure k (cv := .tuple #[]) ?_ (vr0 φ)
          simp only [Builtin.clear_, List.getElem?_toArray, List.getElem?_cons_zero, Sem.run_bind, run_underlying' hu, Result.andThen_ok]
          cases tt'.u <;> rfl
        · rename_i r _
          simp only [VR] at hx
          obtain ⟨c, off, sz, hφ, rfl⟩ := hx
          split at e
          · rename_i es cl hb
            simp only [setK_eq] at e; cases e
            obtain ⟨ces, hw, he⟩ := k.map hb hφ
            obtain ⟨r1, r2, r3⟩ := k.mapWrite (P := P) (es' := []) (ces' := #[]) (c' := cl) hb hφ hw rfl
            refine ⟨.tuple #[], _, φ, ?_, vr0 φ, r2, r3, Nx.refl _ _⟩
            have : (Builtin.clear_ (t :: rest).toArray tt (.map (some c) :: cmore).toArray).run P w = ((setObj c (.map #[] cl)).run P w).andThen fun _ w => .ok (.tuple #[]) w := by
              simp only [Builtin.clear_, List.getElem?_toArray, List.getElem?_cons_zero, Sem.run_bind, run_underlying' hu, Result.andThen_ok]
              cases tt'.u <;> simp [run_getObj_map hw]
            rw [this, r1]; rfl
          · cases e
        · rename_i b o len cap e' op
          simp only [VR] at hx
          obtain ⟨a, cc, rfl, hsl⟩ := hx
          cases hn : Nat.beq len 0 with
          | true =>
            rw [hn] at e; simp only [bi_true] at e; cases e
            have hn := (beq_iff _ _).1 hn; subst hn
            refine .pure k (cv := .tuple #[]) ?_ (vr0 φ)
            simp only [Builtin.clear_, List.getElem?_toArray, List.getElem?_cons_zero, Sem.run_bind, run_underlying' hu, Result.andThen_ok]
            cases tt'.u <;> rfl
          | false =>
            rw [hn] at e; simp only [bi_false] at e
            have hn0 : len ≠ 0 := fun h0 => by rw [h0] at hn; cases hn
            obtain ⟨c, off, sz, hφ, rfl, _⟩ := hsl.2.2.2 (by have := hsl.1; have := hsl.2.1; omega)
            split at e
            · rename_i el hel
              rw [hel] at hu
              split at e
              · rename_i ti hte
                have ok := ty_ok hT hte
                obtain ⟨hz, e2⟩ := bi_val e
                obtain ⟨hzok, hsz⟩ := bi_and hz
                have hsz := (beq_iff _ _).1 hsz
                rw [forceL_eq] at e2
                obtain ⟨z, z1, z2⟩ := ok.run_zero' hzok
                have hrep := VRs.repeat (z2.cells φ) len (len * z.cells.size) (by rw [← Array.length_toList, (z2.cells φ).length])
                obtain ⟨h3, e3, hst⟩ := storeCells_sound e2
                cases e3
                obtain ⟨w', r1, r2, r3⟩ := hst P φ m w _ c off sz k hrep (repeatL_flat z2.flats len) hφ
                refine ⟨.tuple #[], w', φ, ?_, vr0 φ, r2, r3, Nx.refl _ _⟩
                obtain ⟨l1, rfl⟩ : ∃ l1, len = l1 + 1 := ⟨len - 1, by omega⟩
                simp only [Builtin.clear_, List.getElem?_toArray, List.getElem?_cons_zero, Sem.run_bind, run_underlying' hu, Result.andThen_ok, z1]
                rw [show (Builtin.zeroCells z.cells (l1 + 1)).toList = ((Array.range ((l1 + 1) * z.cells.size)).map fun i => z.cells[i % z.cells.size]!).toList from rfl, r1]
                rfl
              · cases e
            · cases e
        · cases e
    · cases e
end

end Go.AM
