/- Operations that look at their operands alone, or read; one step. -/
import Derived.Test.YtijaopmlldhbbaaDoorE12
namespace Go.Proofs.BoatE
open Go
set_option linter.unusedVariables false
set_option linter.unusedSimpArgs false
variable {P : Program} {L : Env} {w : World} {β : List Nat} {H : Heap}

/-! ### Values that stand for one value alone -/
theorem exactL_get : ∀ {cs : List AV}, exactL cs = true → ∀ (k : Nat) (a : AV), cs[k]? = some a → a.exact = true
  | [], h, k, a, hk => by simp at hk
  | v :: vs, h, k, a, hk => by
    simp only [exactL, Bool.and_eq_true] at h
    cases k with
    | zero => simp at hk; subst hk; exact h.1
    | succ k => exact exactL_get h.2 k a (by simpa using hk)

theorem lists_eq {cs : List AV} {us vs : List Value} (hu : cs.length = us.length) (hv : cs.length = vs.length) (h : ∀ (k : Nat) (a : AV) (u v : Value), cs[k]? = some a → us[k]? = some u → vs[k]? = some v → u = v) : us = vs := by
  apply List.ext_getElem?
  intro k
  rcases Nat.lt_or_ge k cs.length with hk | hk
  · have h1 : k < us.length := by omega
    have h2 : k < vs.length := by omega
    rw [List.getElem?_eq_getElem h1, List.getElem?_eq_getElem h2]
    rw [h k _ _ _ (List.getElem?_eq_getElem hk) (List.getElem?_eq_getElem h1) (List.getElem?_eq_getElem h2)]
  · rw [List.getElem?_eq_none (by omega), List.getElem?_eq_none (by omega)]

theorem exact_unique {v : AV} {u : Value} (h : Rep w L β v u) : ∀ {u' : Value}, v.exact = true → Rep w L β v u' → u = u' := by
  induction h with
  | undef => intro u' he h'; cases h'; rfl
  | bool b => intro u' he h'; cases h'; rfl
  | int k n => intro u' he h'; cases h'; rfl
  | str l => intro u' he h'; cases h'; rfl
  | nilp => intro u' he h'; cases h'; rfl
  | ptr i off b hb => intro u' he h'; cases h' with | ptr _ _ b' hb' => rw [hb] at hb'; cases hb'; rfl
  | ip cells bl off u hL hlt hc hr ih => intro u' he h'; simp [AV.exact] at he
  | snil => intro u' he h'; cases h'; rfl
  | e0 a ha => intro u' he h'; simp [AV.exact] at he
  | sl i off len sz cap b c e n hb hlen hcap hsh hroom hsz hfull =>
    intro u' he h'
    cases h' with
    | sl _ _ _ _ _ b' c' e' n' hb' hlen' hcap' hsh' hroom' hsz' hfull' =>
    rw [hb] at hb'; cases hb'
    rw [hsh] at hsh'; cases hsh'
    have : c = c' := by
      cases cap with
      | some k => rw [← hcap k rfl, ← hcap' k rfl]
      | none =>
        have h1 := hfull rfl
        have h2 := hfull' rfl
        have : c * sz = c' * sz := by omega
        exact Nat.eq_of_mul_eq_mul_right hsz this
    subst this; rfl
  | im rows sz a n c u hn hlen hrow hsome hspot hr ih => intro u' he h'; simp [AV.exact] at he
  | fn f caps vs hl h ih =>
    intro u' he h'
    cases h' with
    | fn _ _ vs' hl' hh' =>
    have := lists_eq hl hl' (fun k a u v h1 h2 h3 => ih k a u h1 h2 (exactL_get (by simpa [AV.exact] using he) k a h1) (hh' k a v h1 h3))
    rw [this]
  | nilf => intro u' he h'; cases h'; rfl
  | hid k t fs h => intro u' he h'; simp [AV.exact] at he
  | mapv i b hb => intro u' he h'; cases h' with | mapv _ b' hb' => rw [hb] at hb'; cases hb'; rfl
  | agg cs vs hl h ih =>
    intro u' he h'
    cases h' with
    | agg _ vs' hl' hh' =>
    have := lists_eq hl hl' (fun k a u v h1 h2 h3 => ih k a u h1 h2 (exactL_get (by simpa [AV.exact] using he) k a h1) (hh' k a v h1 h3))
    rw [this]
  | tup cs vs hl h ih =>
    intro u' he h'
    cases h' with
    | tup _ vs' hl' hh' =>
    have := lists_eq hl hl' (fun k a u v h1 h2 h3 => ih k a u h1 h2 (exactL_get (by simpa [AV.exact] using he) k a h1) (hh' k a v h1 h3))
    rw [this]

/-! ### Operations that look at their operands alone -/
theorem all0 {o : Oper} {a : Act} {v : AV} {u : Value} (h : ∀ w' : World, (execOp a.eval o).run P w' = .ok (.value u) w') (hr : Rep w L β v u) :
    H = H ∧ ∃ u, (∀ w' : World, (execOp a.eval o).run P w' = .ok (.value u) w') ∧ Rep w L β v u := ⟨rfl, u, h, hr⟩
theorem nextAll {s : Sem Value} {R : Value → Prop} (h : ∃ r, (∀ w' : World, s.run P w' = .ok r w') ∧ R r) : ∃ u, (∀ w' : World, (do let x ← s; pure (Next.value x) : Sem Next).run P w' = .ok (.value u) w') ∧ R u :=
  let ⟨r, h1, h2⟩ := h; ⟨r, fun w' => by simp [h1 w'], h2⟩
theorem next1 {s : Sem Value} {R : Value → Prop} (h : ∃ r, s.run P w = .ok r w ∧ R r) : ∃ u, (do let x ← s; pure (Next.value x) : Sem Next).run P w = .ok (.value u) w ∧ R u :=
  let ⟨r, h1, h2⟩ := h; ⟨r, by simp [h1], h2⟩

theorem op0 {fr : Fr} {a : Act} (hF : FrRep w L β fr a.tmps) (o : Oper) {v : AV} {H' : Heap} (hc : cls o.op = 0) (h : evalOp P fr H o.op = some (v, H')) :
    H' = H ∧ ∃ u, (∀ w' : World, (execOp a.eval o).run P w' = .ok (.value u) w') ∧ Rep w L β v u := by
  unfold evalOp at h
  split at h
  · rename_i x ho
    simp only [Option.map_eq_some_iff, Prod.mk.injEq] at h
    obtain ⟨av, h1, rfl, rfl⟩ := h
    exact all0 (fun w' => by simp [execOp, ho]) (opd_rep hF h1)
  · rename_i x ho
    simp only [Option.map_eq_some_iff, Prod.mk.injEq] at h
    obtain ⟨av, h1, rfl, rfl⟩ := h
    exact all0 (fun w' => by simp [execOp, ho]) (opd_rep hF h1)
  · rename_i c x y ho
    have hcc := fun av h => opd_rep (x := c) (av := av) hF h
    split at h
    · rename_i hcv
      simp only [Option.map_eq_some_iff, Prod.mk.injEq] at h
      obtain ⟨av, h1, rfl, rfl⟩ := h
      have hcr := hcc _ hcv
      generalize hg : a.eval c = vc at hcr
      cases hcr
      exact all0 (fun w' => by simp [execOp, ho, asBool, hg]) (opd_rep hF h1)
    · rename_i hcv
      simp only [Option.map_eq_some_iff, Prod.mk.injEq] at h
      obtain ⟨av, h1, rfl, rfl⟩ := h
      have hcr := hcc _ hcv
      generalize hg : a.eval c = vc at hcr
      cases hcr
      exact all0 (fun w' => by simp [execOp, ho, asBool, hg]) (opd_rep hF h1)
    · simp at h
  · rename_i e ho
    rw [ho] at hc; simp [cls] at hc
  · rename_i e x ho
    rw [ho] at hc; simp [cls] at hc
  · rename_i t ps ho
    split at h
    · rename_i l hl
      simp only [Option.map_eq_some_iff, Prod.mk.injEq] at h
      obtain ⟨av, h1, rfl, rfl⟩ := h
      have hp := partsA_reps hF hl
      have := buildA_ok (P := P) (m := ps.map fun (i, x) => (i, a.eval x)) h1 (by simpa using hp)
      refine ⟨rfl, ?_⟩
      simp only [execOp, ho]
      exact nextAll ((this))
    · simp at h
  · rename_i t len ps ho
    rw [ho] at hc; simp [cls] at hc
  · rename_i t x ho
    rw [ho] at hc; simp [cls] at hc
  · rename_i t x y ho
    rw [ho] at hc; simp [cls] at hc
  · rename_i x ho
    split at h
    · rename_i i off hx
      simp only [Option.some.injEq, Prod.mk.injEq] at h
      obtain ⟨rfl, rfl⟩ := h
      have hr := opd_rep hF hx
      generalize hg : a.eval x = vx at hr
      have hr' := hr
      cases hr with
      | ptr _ _ b hb => exact all0 (fun w' => by simp [execOp, ho, hg]) hr'
    · rename_i cells hx
      simp only [Option.some.injEq, Prod.mk.injEq] at h
      obtain ⟨rfl, rfl⟩ := h
      have hr := opd_rep hF hx
      generalize hg : a.eval x = vx at hr
      have hr' := hr
      cases hr with
      | ip _ bl off u hL hlt hc hr0 => exact all0 (fun w' => by simp [execOp, ho, hg]) hr'
    · rename_i f caps hx
      simp only [Option.some.injEq, Prod.mk.injEq] at h
      obtain ⟨rfl, rfl⟩ := h
      have hr := opd_rep hF hx
      generalize hg : a.eval x = vx at hr
      have hr' := hr
      cases hr with
      | fn _ _ vs hl hh => exact all0 (fun w' => by simp [execOp, ho, hg]) hr'
    · simp at h
  · rename_i op t x y p ho
    split at h
    · rename_i av bv hx hy
      simp only [Option.map_eq_some_iff, Prod.mk.injEq] at h
      obtain ⟨r, h1, rfl, rfl⟩ := h
      refine ⟨rfl, ?_⟩
      simp only [execOp, ho]
      exact nextAll (((binA_ok h1 (opd_rep hF hx) (opd_rep hF hy) x y)))
    · simp at h
  · rename_i op t x ho
    split at h
    · rename_i av hx
      simp only [Option.map_eq_some_iff, Prod.mk.injEq] at h
      obtain ⟨r, h1, rfl, rfl⟩ := h
      refine ⟨rfl, ?_⟩
      simp only [execOp, ho]
      exact nextAll (((unA_ok h1 (opd_rep hF hx))))
    · simp at h
  · rename_i s d x ho
    rw [ho] at hc; simp [cls] at hc
  · rename_i f first caps ho
    split at h
    · rename_i hfirst
      simp only [Option.map_eq_some_iff, Prod.mk.injEq] at h
      obtain ⟨l, h1, rfl, rfl⟩ := h
      have hr := opds_reps hF h1
      have hfi : first = #[] := by simpa using hfirst
      subst hfi
      refine all0 (u := .func (.func f) #[] (caps.map a.eval)) (fun w' => by simp [execOp, ho, Instr.makeFunc]) ?_
      have := Rep.fn (w := w) (L := L) (β := β) f l _ hr.1 hr.2
      have e : (caps.toList.map a.eval).toArray = caps.map a.eval := by apply Array.ext'; simp
      rw [e] at this; exact this
    · simp at h
  · rename_i t ho
    rw [ho] at hc; simp [cls] at hc
  · rename_i t l c ho
    rw [ho] at hc; simp [cls] at hc
  · rename_i t x lo hi mx ho
    split at h
    · rename_i av hx
      split at h
      · rename_i l h' m hl hh hm
        simp only [Option.map_eq_some_iff, Prod.mk.injEq] at h
        obtain ⟨r, h1, rfl, rfl⟩ := h
        refine ⟨rfl, ?_⟩
        simp only [execOp, ho]
        exact nextAll (((sliceA_ok h1 (opd_rep hF hx) (optB_rep hF hl) (optB_rep hF hh) (optB_rep hF hm))))
      · simp at h
    · simp at h
  · rename_i s x f ho
    split at h
    · rename_i av hx
      simp only [Option.map_eq_some_iff, Prod.mk.injEq] at h
      obtain ⟨r, h1, rfl, rfl⟩ := h
      refine ⟨rfl, ?_⟩
      simp only [execOp, ho]
      exact nextAll (((fieldAddrA_ok h1 (opd_rep hF hx))))
    · simp at h
  · rename_i s x f ho
    split at h
    · rename_i av hx
      simp only [Option.map_eq_some_iff, Prod.mk.injEq] at h
      obtain ⟨r, h1, rfl, rfl⟩ := h
      refine ⟨rfl, ?_⟩
      simp only [execOp, ho]
      exact nextAll (((fieldA_ok h1 (opd_rep hF hx))))
    · simp at h
  · rename_i t x y ho
    split at h
    · rename_i av bv hx hy
      simp only [Option.map_eq_some_iff, Prod.mk.injEq] at h
      obtain ⟨r, h1, rfl, rfl⟩ := h
      refine ⟨rfl, ?_⟩
      simp only [execOp, ho]
      exact nextAll (((indexAddrA_ok h1 (opd_rep hF hx) (opd_rep hF hy))))
    · simp at h
  · rename_i t x y ho
    split at h
    · rename_i av bv hx hy
      simp only [Option.map_eq_some_iff, Prod.mk.injEq] at h
      obtain ⟨r, h1, rfl, rfl⟩ := h
      refine ⟨rfl, ?_⟩
      simp only [execOp, ho]
      exact nextAll (((indexA_ok h1 (opd_rep hF hx) (opd_rep hF hy))))
    · simp at h
  · rename_i t x y ok ho
    rw [ho] at hc; simp [cls] at hc
  · rename_i t x y z ho
    rw [ho] at hc; simp [cls] at hc
  · rename_i x i ho
    split at h
    · rename_i vs hx
      simp only [Option.map_eq_some_iff, Prod.mk.injEq] at h
      obtain ⟨r, h1, rfl, rfl⟩ := h
      have hr := opd_rep hF hx
      refine ⟨rfl, ?_⟩
      simp only [execOp, ho]
      generalize a.eval x = vx at hr
      cases hr with
      | tup _ us hl hh =>
      obtain ⟨u, hu, hrep⟩ := Reps.at ⟨hl, hh⟩ h1
      exact nextAll (⟨u, fun w' => by simp [Instr.extract, hu], hrep⟩)
    · simp at h
  · rename_i b args ats ho
    rw [ho] at hc; cases ‹Builtin› <;> simp [cls] at hc
  · simp at h

/-! ### Reads -/
theorem op1 (hS : Sim L w β H) {fr : Fr} {a : Act} (hF : FrRep w L β fr a.tmps) (o : Oper) {v : AV} {H' : Heap} (hc : cls o.op = 1) (h : evalOp P fr H o.op = some (v, H')) :
    H' = H ∧ ∃ u, (execOp a.eval o).run P w = .ok (.value u) w ∧ Rep w L β v u := by
  unfold evalOp at h
  split at h
  · rename_i x ho
    rw [ho] at hc; simp [cls] at hc
  · rename_i x ho
    rw [ho] at hc; simp [cls] at hc
  · rename_i c x y ho
    rw [ho] at hc; simp [cls] at hc
  · rename_i e ho
    rw [ho] at hc; simp [cls] at hc
  · rename_i e x ho
    rw [ho] at hc; simp [cls] at hc
  · rename_i t ps ho
    rw [ho] at hc; simp [cls] at hc
  · rename_i t len ps ho
    rw [ho] at hc; simp [cls] at hc
  · rename_i t x ho
    split at h
    · rename_i i off hx
      split at h
      · rename_i cs hrow
        simp only [Option.map_eq_some_iff, Prod.mk.injEq] at h
        obtain ⟨av, h1, rfl, rfl⟩ := h
        have hr := opd_rep hF hx
        refine ⟨rfl, ?_⟩
        simp only [execOp, ho]
        generalize a.eval x = vx at hr
        cases hr with
        | ptr _ _ b hb =>
        have hca := (row_cells hS hrow hb).drop off
        rw [Nat.zero_add] at hca
        obtain ⟨u, hu, hrep⟩ := loadVar_run (P := P) hca h1
        exact next1 (⟨u, by simp [Instr.loadAt, Instr.sureAddr, hu], hrep⟩)
      · simp at h
    · rename_i cells hx
      simp only [Option.map_eq_some_iff, Prod.mk.injEq] at h
      obtain ⟨av, h1, rfl, rfl⟩ := h
      have hr := opd_rep hF hx
      refine ⟨rfl, ?_⟩
      simp only [execOp, ho]
      generalize a.eval x = vx at hr
      cases hr with
      | ip _ bl off u hL hlt hc hr0 =>
      have hca : CellsAt w L β bl off cells := fun k av hk => ⟨u k, hc k (List.getElem?_eq_some_iff.1 hk).1, (hr0 k av hk).mono (Step.refl _ _) (fun i b h => by simp at h)⟩
      obtain ⟨u, hu, hrep⟩ := loadVar_run (P := P) hca h1
      exact next1 (⟨u, by simp [Instr.loadAt, Instr.sureAddr, hu], hrep⟩)
    · simp at h
  · rename_i t x y ho
    rw [ho] at hc; simp [cls] at hc
  · rename_i x ho
    rw [ho] at hc; simp [cls] at hc
  · rename_i op t x y p ho
    rw [ho] at hc; simp [cls] at hc
  · rename_i op t x ho
    rw [ho] at hc; simp [cls] at hc
  · rename_i s d x ho
    rw [ho] at hc; simp [cls] at hc
  · rename_i f first caps ho
    rw [ho] at hc; simp [cls] at hc
  · rename_i t ho
    rw [ho] at hc; simp [cls] at hc
  · rename_i t l c ho
    rw [ho] at hc; simp [cls] at hc
  · rename_i t x lo hi mx ho
    rw [ho] at hc; simp [cls] at hc
  · rename_i s x f ho
    rw [ho] at hc; simp [cls] at hc
  · rename_i s x f ho
    rw [ho] at hc; simp [cls] at hc
  · rename_i t x y ho
    rw [ho] at hc; simp [cls] at hc
  · rename_i t x y ho
    rw [ho] at hc; simp [cls] at hc
  · rename_i t x y ok ho
    split at h
    · rename_i av bv hx hy
      simp only [Option.map_eq_some_iff, Prod.mk.injEq] at h
      obtain ⟨r, h1, rfl, rfl⟩ := h
      refine ⟨rfl, ?_⟩
      simp only [execOp, ho]
      exact next1 ((lookupA_ok hS h1 (opd_rep hF hx) (opd_rep hF hy)))
    · simp at h
  · rename_i t x y z ho
    rw [ho] at hc; simp [cls] at hc
  · rename_i x i ho
    rw [ho] at hc; simp [cls] at hc
  · rename_i b args ats ho
    rw [ho] at hc
    have hb : b = .len := by cases b <;> simp_all [cls]
    subst hb
    split at h
    · rename_i l hl
      have hr := opds_reps hF hl
      match l, h, hr with
      | [x], h, hr =>
        simp only [builtinA] at h
        split at h
        · rename_i t ht
          simp only [Option.map_eq_some_iff, Prod.mk.injEq] at h
          obtain ⟨r, h1, rfl, rfl⟩ := h
          refine ⟨rfl, ?_⟩
          obtain ⟨u, hu, hrx⟩ := arr1 (l := []) (xs := args.map a.eval) (by simpa using hr)
          simp only [execOp, ho, resolve, Sem.run_bind, Sem.run_pure, Result.andThen_ok, invoke, builtin, hu]
          have := lenA_ok (P := P) (ty := o.type) hS ht h1 hrx
          obtain ⟨q, h2, h3⟩ := this
          exact ⟨q, by simp [h2], h3⟩
        · simp at h
      | [], h, hr => simp [builtinA] at h
      | _ :: _ :: _, h, hr => simp [builtinA] at h
    · simp at h
  · simp at h

/-! ### One step -/
theorem step_ok {cf : CallF} (hcf : CallOK P (callSub cf)) (hS : Sim L w β H) {fr : Fr} {a : Act} (hF : FrRep w L β fr a.tmps) (o : Oper) {v : AV} {H' : Heap} (h : evalStep P cf fr H o.op = some (v, H'))
    {K : Act → World → Prop} {Q : Exit → Act → World → Prop}
    (hK : ∀ u w' βn, Sim L w' (β ++ βn) H' → Rep w' L (β ++ βn) v u → Step w (LiveAt β H) w' (LiveAt (β ++ βn) H') → K (a.put o.dst u) w') : o.wp P a w K Q := by
  unfold evalStep at h
  split at h
  · rename_i f args ats ho
    split at h
    · rename_i g caps l hf hl
      have hr := opd_rep hF hf
      have hrs := opds_reps hF hl
      generalize hg : a.eval f = vf at hr
      cases hr with
      | fn _ _ vs hlv hvs =>
      have hR : Reps w L β (l ++ caps) (args.toList.map a.eval ++ vs) := hrs.append ⟨hlv, hvs⟩
      obtain ⟨c1, c2⟩ := hcf _ _ _ _ _ h L w β _ hS hR
      have he : (args.toList.map a.eval ++ vs).toArray = args.map a.eval ++ vs.toArray := by apply Array.ext'; simp
      rw [he] at c1 c2
      unfold Oper.wp
      have hrun : (execOp a.eval o).run P w = .ok (.enter g (args.map a.eval ++ vs.toArray)) w := by
        simp only [execOp, ho, resolve, hg, Deferred.ofValue, Sem.run_bind, Sem.run_pure, Result.andThen_ok, invoke]
        rw [Array.empty_append]
        exact c1
      rw [hrun, Oper.upon_enter]
      refine c2.mono fun e w' => ?_
      rintro ⟨u, βn, rfl, s1, s2, s3⟩
      exact hK u w' βn s1 s2 s3
    · simp at h
  · obtain ⟨u, w', βn, h1, h2, h3, h4⟩ := op_sound (P := P) hS hF o h
    unfold Oper.wp
    rcases h1 with h1 | ⟨h1, rfl⟩
    · rw [h1]; exact hK u w' βn h2 h3 h4
    · rw [h1]; exact hK _ w' βn h2 h3 h4

end Go.Proofs.BoatE
