/- Operations that look at their operands alone, or read; one step. -/
import Derived.Test.YthfdbllpofiabaaDoorV12
namespace Go.Proofs.BoatV
open Go
set_option linter.unusedVariables false
set_option linter.unusedSimpArgs false
variable {P : Program} {L : Env} {w : World} {β : List Nat} {H : Heap}

/-! ### Values that stand for one value alone -/
theorem exactL_get : ∀ {cs : List AV}, exactL cs = true → ∀ (k : Nat) (a : AV), cs[k]? = some a → a.exact = true
  | [], h, k, a, hk => by simp at hk
  | v :: vs, h, k, a, hk => by
    simp only [exactL, Bool.and_eq_true] at h
    cases k with
    | zero => simp at hk; subst hk; exact h.1
    | succ k => exact exactL_get h.2 k a (by simpa using hk)

theorem lists_eq {cs : List AV} {us vs : List Value} (hu : cs.length = us.length) (hv : cs.length = vs.length) (h : ∀ (k : Nat) (a : AV) (u v : Value), cs[k]? = some a → us[k]? = some u → vs[k]? = some v → u = v) : us = vs := by
  apply List.ext_getElem?
  intro k
  rcases Nat.lt_or_ge k cs.length with hk | hk
  · have h1 : k < us.length := by omega
    have h2 : k < vs.length := by omega
    rw [List.getElem?_eq_getElem h1, List.getElem?_eq_getElem h2]
    rw [h k _ _ _ (List.getElem?_eq_getElem hk) (List.getElem?_eq_getElem h1) (List.getElem?_eq_getElem h2)]
  · rw [List.getElem?_eq_none (by omega), List.getElem?_eq_none (by omega)]

theorem exact_unique {v : AV} {u : Value} (h : Rep w L β v u) : ∀ {u' : Value}, v.exact = true → Rep w L β v u' → u = u' := by
  induction h with
  | undef => intro u' he h'; cases h'; rfl
  | bool b => intro u' he h'; cases h'; rfl
  | int k n => intro u' he h'; cases h'; rfl
  | str l => intro u' he h'; cases h'; rfl
  | nilp => intro u' he h'; cases h'; rfl
  | ptr i off b hb => intro u' he h'; cases h' with | ptr _ _ b' hb' => rw [hb] at hb'; cases hb'; rfl
  | ip cells bl off u hL hlt hc hr ih => intro u' he h'; simp [AV.exact] at he
  | snil => intro u' he h'; cases h'; rfl
  | e0 a ha => intro u' he h'; simp [AV.exact] at he
  | sl i off len sz cap b c e n hb hlen hcap hsh hroom hsz hfull =>
    intro u' he h'
    cases h' with
    | sl _ _ _ _ _ b' c' e' n' hb' hlen' hcap' hsh' hroom' hsz' hfull' =>
    rw [hb] at hb'; cases hb'
    rw [hsh] at hsh'; cases hsh'
    have : c = c' := by
      cases cap with
      | some k => rw [← hcap k rfl, ← hcap' k rfl]
      | none =>
        have h1 := hfull rfl
        have h2 := hfull' rfl
        have : c * sz = c' * sz := by omega
        exact Nat.eq_of_mul_eq_mul_right hsz this
    subst this; rfl
  | im rows sz a n c u hn hlen hrow hsome hspot hr ih => intro u' he h'; simp [AV.exact] at he
  | fn f caps vs hl h ih =>
    intro u' he h'
    cases h' with
    | fn _ _ vs' hl' hh' =>
    have := lists_eq hl hl' (fun k a u v h1 h2 h3 => ih k a u h1 h2 (exactL_get (by simpa [AV.exact] using he) k a h1) (hh' k a v h1 h3))
    rw [this]
  | nilf => intro u' he h'; cases h'; rfl
  | hid t sc ids a v ha ho hs h ih =>
    intro u' he h'
    cases h' with
    | hid _ _ _ a' _ ha' ho' hs' h'' =>
    rw [ha] at ha'; cases ha'
    have hsc := hs (by simpa [AV.exact] using he)
    refine ih ?_ h''
    cases a <;> simp_all [AV.exact, AV.scalar]
  | top v => intro u' he h'; simp [AV.exact] at he
  | mapv i b hb => intro u' he h'; cases h' with | mapv _ b' hb' => rw [hb] at hb'; cases hb'; rfl
  | chv i b hb => intro u' he h'; cases h' with | chv _ b' hb' => rw [hb] at hb'; cases hb'; rfl
  | agg cs vs hl h ih =>
    intro u' he h'
    cases h' with
    | agg _ vs' hl' hh' =>
    have := lists_eq hl hl' (fun k a u v h1 h2 h3 => ih k a u h1 h2 (exactL_get (by simpa [AV.exact] using he) k a h1) (hh' k a v h1 h3))
    rw [this]
  | tup cs vs hl h ih =>
    intro u' he h'
    cases h' with
    | tup _ vs' hl' hh' =>
    have := lists_eq hl hl' (fun k a u v h1 h2 h3 => ih k a u h1 h2 (exactL_get (by simpa [AV.exact] using he) k a h1) (hh' k a v h1 h3))
    rw [this]

/-! ### Operations that look at their operands alone -/
theorem all0 {o : Oper} {a : Act} {v : AV} {u : Value} (h : ∀ w' : World, (execOp a.eval o).run P w' = .ok (.value u) w') (hr : Rep w L β v u) :
    H = H ∧ ∃ u, (∀ w' : World, (execOp a.eval o).run P w' = .ok (.value u) w') ∧ Rep w L β v u := ⟨rfl, u, h, hr⟩
theorem nextAll {s : Sem Value} {R : Value → Prop} (h : ∃ r, (∀ w' : World, s.run P w' = .ok r w') ∧ R r) : ∃ u, (∀ w' : World, (do let x ← s; pure (Next.value x) : Sem Next).run P w' = .ok (.value u) w') ∧ R u :=
  let ⟨r, h1, h2⟩ := h; ⟨r, fun w' => by simp [h1 w'], h2⟩
theorem next1 {s : Sem Value} {R : Value → Prop} (h : ∃ r, s.run P w = .ok r w ∧ R r) : ∃ u, (do let x ← s; pure (Next.value x) : Sem Next).run P w = .ok (.value u) w ∧ R u :=
  let ⟨r, h1, h2⟩ := h; ⟨r, by simp [h1], h2⟩

theorem op0 {T : Tab} (hT : OpsOK L T) {fr : Fr} {a : Act} (hF : FrRep w L β fr a.tmps) (o : Oper) {v : AV} {H' : Heap} (hc : cls o.op = 0) (h : evalOp P T fr H o.op = some (v, H')) :
    H' = H ∧ ∃ u, (∀ w' : World, (execOp a.eval o).run P w' = .ok (.value u) w') ∧ Rep w L β v u := by
  unfold evalOp at h
  split at h
  · rename_i x ho
    simp only [Option.map_eq_some_iff, Prod.mk.injEq] at h
    obtain ⟨av, h1, rfl, rfl⟩ := h
    exact all0 (fun w' => by simp [execOp, ho]) (opd_rep hF h1)
  · rename_i x ho
    simp only [Option.map_eq_some_iff, Prod.mk.injEq] at h
    obtain ⟨av, h1, rfl, rfl⟩ := h
    exact all0 (fun w' => by simp [execOp, ho]) (opd_rep hF h1)
  · rename_i c x y ho
    split at h
    · rename_i hcv
      simp only [Option.map_eq_some_iff, Prod.mk.injEq] at h
      obtain ⟨av, h1, rfl, rfl⟩ := h
      have hg : a.eval c = .bool true := truthT_ok (w := w) (β := β) hT hcv (fun av hav => opd_rep hF hav)
      exact all0 (fun w' => by simp [execOp, ho, asBool, hg]) (opd_rep hF h1)
    · rename_i hcv
      simp only [Option.map_eq_some_iff, Prod.mk.injEq] at h
      obtain ⟨av, h1, rfl, rfl⟩ := h
      have hg : a.eval c = .bool false := truthT_ok (w := w) (β := β) hT hcv (fun av hav => opd_rep hF hav)
      exact all0 (fun w' => by simp [execOp, ho, asBool, hg]) (opd_rep hF h1)
    · simp at h
  · rename_i e ho
    rw [ho] at hc; simp [cls] at hc
  · rename_i e x ho
    rw [ho] at hc; simp [cls] at hc
  · rename_i t ps ho
    split at h
    · rename_i l hl
      simp only [Option.map_eq_some_iff, Prod.mk.injEq] at h
      obtain ⟨av, h1, rfl, rfl⟩ := h
      have hp := partsA_reps hF hl
      have := buildA_ok (P := P) (m := ps.map fun (i, x) => (i, a.eval x)) h1 (by simpa using hp)
      refine ⟨rfl, ?_⟩
      simp only [execOp, ho]
      exact nextAll ((this))
    · simp at h
  · rename_i t len ps ho
    rw [ho] at hc; simp [cls] at hc
  · rename_i t x ho
    rw [ho] at hc; simp [cls] at hc
  · rename_i t x y ho
    rw [ho] at hc; simp [cls] at hc
  · rename_i x ho
    split at h
    · rename_i i off hx
      simp only [Option.some.injEq, Prod.mk.injEq] at h
      obtain ⟨rfl, rfl⟩ := h
      have hr := opd_rep hF hx
      generalize hg : a.eval x = vx at hr
      have hr' := hr
      cases hr with
      | ptr _ _ b hb => exact all0 (fun w' => by simp [execOp, ho, hg]) hr'
    · rename_i cells hx
      simp only [Option.some.injEq, Prod.mk.injEq] at h
      obtain ⟨rfl, rfl⟩ := h
      have hr := opd_rep hF hx
      generalize hg : a.eval x = vx at hr
      have hr' := hr
      cases hr with
      | ip _ bl off u hL hlt hc hr0 => exact all0 (fun w' => by simp [execOp, ho, hg]) hr'
    · rename_i f caps hx
      simp only [Option.some.injEq, Prod.mk.injEq] at h
      obtain ⟨rfl, rfl⟩ := h
      have hr := opd_rep hF hx
      generalize hg : a.eval x = vx at hr
      have hr' := hr
      cases hr with
      | fn _ _ vs hl hh => exact all0 (fun w' => by simp [execOp, ho, hg]) hr'
    · simp at h
  · rename_i op t x y p ho
    split at h
    · rename_i av bv hx hy
      simp only [Option.map_eq_some_iff, Prod.mk.injEq] at h
      obtain ⟨r, h1, rfl, rfl⟩ := h
      refine ⟨rfl, ?_⟩
      simp only [execOp, ho]
      exact nextAll (((binA_ok hT h1 (opd_rep hF hx) (opd_rep hF hy) x y)))
    · simp at h
  · rename_i op t x ho
    split at h
    · rename_i av hx
      simp only [Option.map_eq_some_iff, Prod.mk.injEq] at h
      obtain ⟨r, h1, rfl, rfl⟩ := h
      refine ⟨rfl, ?_⟩
      simp only [execOp, ho]
      exact nextAll (((unA_ok hT h1 (opd_rep hF hx))))
    · simp at h
  · rename_i s d x ho
    rw [ho] at hc; simp [cls] at hc
  · rename_i f first caps ho
    split at h
    · rename_i hfirst
      simp only [Option.map_eq_some_iff, Prod.mk.injEq] at h
      obtain ⟨l, h1, rfl, rfl⟩ := h
      have hr := opds_reps hF h1
      have hfi : first = #[] := by simpa using hfirst
      subst hfi
      refine all0 (u := .func (.func f) #[] (caps.map a.eval)) (fun w' => by simp [execOp, ho, Instr.makeFunc]) ?_
      have := Rep.fn (w := w) (L := L) (β := β) f l _ hr.1 hr.2
      have e : (caps.toList.map a.eval).toArray = caps.map a.eval := by apply Array.ext'; simp
      rw [e] at this; exact this
    · simp at h
  · rename_i t ho
    rw [ho] at hc; simp [cls] at hc
  · rename_i t sz ho
    rw [ho] at hc; simp [cls] at hc
  · rename_i t l c ho
    rw [ho] at hc; simp [cls] at hc
  · rename_i t x lo hi mx ho
    split at h
    · rename_i av hx
      split at h
      · rename_i l h' m hl hh hm
        simp only [Option.map_eq_some_iff, Prod.mk.injEq] at h
        obtain ⟨r, h1, rfl, rfl⟩ := h
        refine ⟨rfl, ?_⟩
        simp only [execOp, ho]
        exact nextAll (((sliceT_ok hT h1 (opd_rep hF hx) (optB_rep hF hl) (optB_rep hF hh) (optB_rep hF hm))))
      · simp at h
    · simp at h
  · rename_i s x f ho
    split at h
    · rename_i av hx
      simp only [Option.map_eq_some_iff, Prod.mk.injEq] at h
      obtain ⟨r, h1, rfl, rfl⟩ := h
      refine ⟨rfl, ?_⟩
      simp only [execOp, ho]
      exact nextAll (((fieldAddrT_ok hT h1 (opd_rep hF hx))))
    · simp at h
  · rename_i s x f ho
    split at h
    · rename_i av hx
      simp only [Option.map_eq_some_iff, Prod.mk.injEq] at h
      obtain ⟨r, h1, rfl, rfl⟩ := h
      refine ⟨rfl, ?_⟩
      simp only [execOp, ho]
      exact nextAll (((fieldA_ok h1 (opd_rep hF hx))))
    · simp at h
  · rename_i t x y ho
    split at h
    · rename_i av bv hx hy
      simp only [Option.map_eq_some_iff, Prod.mk.injEq] at h
      obtain ⟨r, h1, rfl, rfl⟩ := h
      refine ⟨rfl, ?_⟩
      simp only [execOp, ho]
      exact nextAll (((indexAddrT_ok hT h1 (opd_rep hF hx) (opd_rep hF hy))))
    · simp at h
  · rename_i t x y ho
    split at h
    · rename_i av bv hx hy
      simp only [Option.map_eq_some_iff, Prod.mk.injEq] at h
      obtain ⟨r, h1, rfl, rfl⟩ := h
      refine ⟨rfl, ?_⟩
      simp only [execOp, ho]
      exact nextAll (((indexT_ok hT h1 (opd_rep hF hx) (opd_rep hF hy))))
    · simp at h
  · rename_i t x y ok ho
    rw [ho] at hc; simp [cls] at hc
  · rename_i t x y z ho
    rw [ho] at hc; simp [cls] at hc
  · rename_i x i ho
    split at h
    · rename_i vs hx
      simp only [Option.map_eq_some_iff, Prod.mk.injEq] at h
      obtain ⟨r, h1, rfl, rfl⟩ := h
      have hr := opd_rep hF hx
      refine ⟨rfl, ?_⟩
      simp only [execOp, ho]
      generalize a.eval x = vx at hr
      cases hr with
      | tup _ us hl hh =>
      obtain ⟨u, hu, hrep⟩ := Reps.at ⟨hl, hh⟩ h1
      exact nextAll (⟨u, fun w' => by simp [Instr.extract, hu], hrep⟩)
    · simp at h
  · rename_i b args ats ho
    rw [ho] at hc; cases ‹Builtin› <;> simp [cls] at hc
  · simp at h

/-! ### Reads -/
theorem op1 {T : Tab} (hT : OpsOK L T) (hS : Sim L w β H) {fr : Fr} {a : Act} (hF : FrRep w L β fr a.tmps) (o : Oper) {v : AV} {H' : Heap} (hc : cls o.op = 1) (h : evalOp P T fr H o.op = some (v, H')) :
    H' = H ∧ ∃ u, (execOp a.eval o).run P w = .ok (.value u) w ∧ Rep w L β v u := by
  unfold evalOp at h
  split at h
  · rename_i x ho
    rw [ho] at hc; simp [cls] at hc
  · rename_i x ho
    rw [ho] at hc; simp [cls] at hc
  · rename_i c x y ho
    rw [ho] at hc; simp [cls] at hc
  · rename_i e ho
    rw [ho] at hc; simp [cls] at hc
  · rename_i e x ho
    rw [ho] at hc; simp [cls] at hc
  · rename_i t ps ho
    rw [ho] at hc; simp [cls] at hc
  · rename_i t len ps ho
    rw [ho] at hc; simp [cls] at hc
  · rename_i t x ho
    split at h
    · rename_i i off hx
      split at h
      · rename_i cs hrow
        simp only [Option.map_eq_some_iff, Prod.mk.injEq] at h
        obtain ⟨av, h1, rfl, rfl⟩ := h
        have hr := opd_rep hF hx
        refine ⟨rfl, ?_⟩
        simp only [execOp, ho]
        generalize a.eval x = vx at hr
        cases hr with
        | ptr _ _ b hb =>
        have hca := (row_cells hS hrow hb).drop off
        rw [Nat.zero_add] at hca
        obtain ⟨u, hu, hrep⟩ := loadVar_run (P := P) hca h1
        exact next1 (⟨u, by simp [Instr.loadAt, Instr.sureAddr, hu], hrep⟩)
      · simp at h
    · rename_i cells hx
      simp only [Option.map_eq_some_iff, Prod.mk.injEq] at h
      obtain ⟨av, h1, rfl, rfl⟩ := h
      have hr := opd_rep hF hx
      refine ⟨rfl, ?_⟩
      simp only [execOp, ho]
      generalize a.eval x = vx at hr
      cases hr with
      | ip _ bl off u hL hlt hc hr0 =>
      have hca : CellsAt w L β bl off cells := fun k av hk => ⟨u k, hc k (List.getElem?_eq_some_iff.1 hk).1, (hr0 k av hk).mono (Step.refl _ _) (fun i b h => by simp at h)⟩
      obtain ⟨u, hu, hrep⟩ := loadVar_run (P := P) hca h1
      exact next1 (⟨u, by simp [Instr.loadAt, Instr.sureAddr, hu], hrep⟩)
    · simp at h
  · rename_i t x y ho
    rw [ho] at hc; simp [cls] at hc
  · rename_i x ho
    rw [ho] at hc; simp [cls] at hc
  · rename_i op t x y p ho
    rw [ho] at hc; simp [cls] at hc
  · rename_i op t x ho
    rw [ho] at hc; simp [cls] at hc
  · rename_i s d x ho
    rw [ho] at hc; simp [cls] at hc
  · rename_i f first caps ho
    rw [ho] at hc; simp [cls] at hc
  · rename_i t ho
    rw [ho] at hc; simp [cls] at hc
  · rename_i t sz ho
    rw [ho] at hc; simp [cls] at hc
  · rename_i t l c ho
    rw [ho] at hc; simp [cls] at hc
  · rename_i t x lo hi mx ho
    rw [ho] at hc; simp [cls] at hc
  · rename_i s x f ho
    rw [ho] at hc; simp [cls] at hc
  · rename_i s x f ho
    rw [ho] at hc; simp [cls] at hc
  · rename_i t x y ho
    rw [ho] at hc; simp [cls] at hc
  · rename_i t x y ho
    rw [ho] at hc; simp [cls] at hc
  · rename_i t x y ok ho
    split at h
    · rename_i av bv hx hy
      simp only [Option.map_eq_some_iff, Prod.mk.injEq] at h
      obtain ⟨r, h1, rfl, rfl⟩ := h
      refine ⟨rfl, ?_⟩
      simp only [execOp, ho]
      exact next1 ((lookupA_ok hS h1 (opd_rep hF hx) (opd_rep hF hy)))
    · simp at h
  · rename_i t x y z ho
    rw [ho] at hc; simp [cls] at hc
  · rename_i x i ho
    rw [ho] at hc; simp [cls] at hc
  · rename_i b args ats ho
    rw [ho] at hc
    have hb : b = .len := by cases b <;> simp_all [cls]
    subst hb
    split at h
    · rename_i l hl
      have hr := opds_reps hF hl
      match l, h, hr with
      | [x], h, hr =>
        simp only [builtinA] at h
        split at h
        · rename_i t ht
          simp only [Option.map_eq_some_iff, Prod.mk.injEq] at h
          obtain ⟨r, h1, rfl, rfl⟩ := h
          refine ⟨rfl, ?_⟩
          obtain ⟨u, hu, hrx⟩ := arr1 (l := []) (xs := args.map a.eval) (by simpa using hr)
          simp only [execOp, ho, resolve, Sem.run_bind, Sem.run_pure, Result.andThen_ok, invoke, builtin, hu]
          have := lenT_ok (P := P) hT (ty := o.type) hS ht h1 hrx
          obtain ⟨q, h2, h3⟩ := this
          exact ⟨q, by simp [h2], h3⟩
        · simp at h
      | [], h, hr => simp [builtinA] at h
      | _ :: _ :: _, h, hr => simp [builtinA] at h
    · simp at h
  · simp at h

/-! ### Operations that look at named memory -/
theorem kindB_fits {kt : TypeId} {s : Bool} {k : AV} (h : kindB P kt = some s) (hf : fitsB s k = true) : keyFits P kt k = true := by
  unfold kindB at h
  unfold keyFits
  split at h
  · rename_i hu; simp at h; subst h
    cases k <;> simp [fitsB] at hf
    simp [hu]
  · rename_i n hu; simp at h; subst h
    cases k <;> simp [fitsB] at hf
    simp [hu]
  · simp at h
theorem look_eq {t kt et : TypeId} {s ok : Bool} {z x k : AV} {r : AV × Heap} (hu : P.underlying t = some (.map kt et)) (hk : kindB P kt = some s) (hz : zeroOf P et = some z) (h : opH (.look s z ok) [x, k] H = some r) : lookupA P H t ok x k = some r.1 ∧ r.2 = H := by
  cases x <;> simp only [opH] at h <;> try (cases h; done)
  rename_i i
  split at h
  · rename_i es hm
    split at h
    · rename_i hf
      split at h
      · rename_i j v hfa
        simp at h; subst h
        refine ⟨?_, rfl⟩
        simp only [lookupA, hu, hm, kindB_fits hk hf, if_true, hfa]
      · rename_i hfa
        simp at h; subst h
        refine ⟨?_, rfl⟩
        simp only [lookupA, hu, hm, kindB_fits hk hf, if_true, hfa, hz, Option.map_some]
      · simp at h
    · simp at h
  · simp at h
theorem upd_eq {t kt et : TypeId} {s : Bool} {x k v : AV} {r : AV × Heap} (hu : P.underlying t = some (.map kt et)) (hk : kindB P kt = some s) (h : opH (.upd s) [x, k, v] H = some r) : mapUpdateA P H t x k v = some r.2 ∧ r.1 = .undef := by
  cases x <;> simp only [opH] at h <;> try (cases h; done)
  rename_i i
  split at h
  · rename_i es hm
    split at h
    · rename_i hf
      split at h
      · rename_i j v' hfa
        simp at h; subst h
        refine ⟨?_, rfl⟩
        simp only [mapUpdateA, hu, hm, kindB_fits hk hf, if_true, hfa]
      · rename_i hfa
        simp at h; subst h
        refine ⟨?_, rfl⟩
        simp only [mapUpdateA, hu, hm, kindB_fits hk hf, if_true, hfa]
      · simp at h
    · simp at h
  · simp at h
theorem del_eq {t kt et : TypeId} {s : Bool} {x k : AV} {r : AV × Heap} (hu : P.underlying t = some (.map kt et)) (hk : kindB P kt = some s) (h : opH (.del s) [x, k] H = some r) : deleteA P H t x k = some r.2 ∧ r.1 = .tup [] := by
  cases x <;> simp only [opH] at h <;> try (cases h; done)
  rename_i i
  split at h
  · rename_i es hm
    split at h
    · rename_i hf
      split at h
      · rename_i j v' hfa
        simp at h; subst h
        refine ⟨?_, rfl⟩
        simp only [deleteA, hu, hm, kindB_fits hk hf, if_true, hfa]
      · rename_i hfa
        simp at h; subst h
        refine ⟨?_, rfl⟩
        simp only [deleteA, hu, hm, kindB_fits hk hf, if_true, hfa]
      · simp at h
    · simp at h
  · simp at h
theorem app_eq {t e : TypeId} {i : TypeInfo} {z s x : AV} {r : AV × Heap} (hu : P.underlying t = some (.slice e)) (hi : P.info? e = some i) (hz : zeroOf P e = some z) (h0 : 0 < i.size) (h1 : 0 < i.bytes) (h2 : z.cells.length = i.size) (h : opH (.app i.size i.bytes) [s, x] H = some r) : appendA P H t s x = some r := by
  simp only [opH] at h
  rw [srcK_eq P] at h
  split at h
  · rename_i new n hs
    split at h
    · rename_i hone
      simp only [appendA, hu, hi, hz, hs, h0, h1, hone, h2, true_and, and_self, if_true]
      cases s <;> simp only at h ⊢ <;> try (cases h; done)
      · exact h
      · exact h
      · rename_i j off len s' cap
        cases cap with
        | some c =>
          by_cases e : s' = i.size
          · subst e; simp only [if_true] at h ⊢; exact h
          · simp [e] at h
        | none =>
          by_cases e : s' = i.size
          · subst e; simp only [if_true] at h ⊢; exact h
          · simp [e] at h
    · simp at h
  · simp at h

theorem load_some {n : Nat} {l : List AV} {v : AV} {H' : Heap} (h : opH (.load (some n)) l H = some (v, H')) : ∃ i off cs, l = [.ptr i off] ∧ rowAt H i = some cs ∧ n ≤ (cs.drop off).length ∧ v = .agg ((cs.drop off).take n) ∧ H' = H := by
  cases l with
  | nil => simp [opH] at h
  | cons x r =>
    cases r with
    | cons y r => cases x <;> simp [opH] at h
    | nil =>
      cases x <;> simp only [opH] at h <;> try (cases h; done)
      rename_i i off
      split at h
      · rename_i cs hrow
        split at h
        · rename_i hle
          simp only [Option.some.injEq, Prod.mk.injEq] at h
          exact ⟨i, off, cs, rfl, hrow, hle, h.1.symm, h.2.symm⟩
        · simp at h
      · simp at h
theorem load_none {l : List AV} {v : AV} {H' : Heap} (h : opH (.load none) l H = some (v, H')) : ∃ i off cs, l = [.ptr i off] ∧ rowAt H i = some cs ∧ (cs.drop off).head? = some v ∧ H' = H := by
  cases l with
  | nil => simp [opH] at h
  | cons x r =>
    cases r with
    | cons y r => cases x <;> simp [opH] at h
    | nil =>
      cases x <;> simp only [opH] at h <;> try (cases h; done)
      rename_i i off
      split at h
      · rename_i cs hrow
        simp only [Option.map_eq_some_iff, Prod.mk.injEq] at h
        obtain ⟨a, h1, rfl, rfl⟩ := h
        exact ⟨i, off, cs, rfl, hrow, h1, rfl⟩
      · simp at h

theorem stor_args {n : Nat} {l : List AV} {v : AV} {H' : Heap} (h : opH (.stor n) l H = some (v, H')) : ∃ i off x H1, l = [.ptr i off, x] ∧ x.cells.length = n ∧ storeAt H i off x.cells = some H1 ∧ v = .undef ∧ H' = H1 := by
  unfold opH at h
  split at h <;> try (rename_i e1 e2 e3; cases e1; done)
  all_goals (try (cases ‹HKey.stor _ = _›))
  · split at h
    · rename_i hc
      simp only [Option.map_eq_some_iff, Prod.mk.injEq] at h
      obtain ⟨H1, h1, rfl, rfl⟩ := h
      exact ⟨_, _, _, _, rfl, hc, h1, rfl, rfl⟩
    · cases h
  · cases h
theorem toS_args {l : List AV} {v : AV} {H' : Heap} (h : opH .toS l H = some (v, H')) : ∃ i off len sz cap cs b, l = [.sl i off len sz cap] ∧ rowAt H i = some cs ∧ (sz = 1 ∧ len ≤ (cs.drop off).length) ∧ bytesOfCells ((cs.drop off).take len) = some b ∧ v = .str b ∧ H' = H := by
  unfold opH at h
  split at h <;> try (rename_i e1 e2 e3; cases e1; done)
  all_goals (try (cases ‹HKey.toS = _›))
  · split at h
    · rename_i cs hrow
      split at h
      · rename_i hc
        simp only [Option.map_eq_some_iff, Prod.mk.injEq] at h
        obtain ⟨b, h1, rfl, rfl⟩ := h
        exact ⟨_, _, _, _, _, cs, b, rfl, hrow, hc, h1, rfl, rfl⟩
      · cases h
    · cases h
  · cases h

theorem mk_eq {t e : TypeId} {i : TypeInfo} {z x y : AV} {r : AV × Heap} (hu : P.underlying t = some (.slice e)) (hi : P.info? e = some i) (hz : zeroOf P e = some z) (h1 : z.cells.length = i.size) (h2 : 0 < i.size) (h : opH (.mk i.bytes z.cells) [x, y] H = some r) : makeSliceA P H t x y = some r := by
  cases x <;> simp only [opH] at h <;> try (cases h; done)
  cases y <;> simp only [opH] at h <;> try (cases h; done)
  split at h
  · rename_i hc
    simp only [makeSliceA, hu, hi, hz]
    rw [if_pos ⟨hc.1, hc.2.1, hc.2.2.1, hc.2.2.2, h1, h2⟩, ← h1]
    exact h
  · cases h
theorem opH_good (hS : Sim L w β H) {a : Act} (o : Oper) {key : HKey} {xs : List Operand} {l : List AV} {v : AV} {H' : Heap} (hk : hkeyOf P o.op = some (key, xs)) (h : opH key l H = some (v, H')) (hR : Reps w L β l (xs.map a.eval)) :
    Good L w β H ((execOp a.eval o).run P w) v H' := by
  unfold hkeyOf at hk
  split at hk
  · rename_i t x k ok ho
    split at hk
    · rename_i kt et hu
      split at hk
      · rename_i s z hkd hz
        simp at hk; obtain ⟨rfl, rfl⟩ := hk
        obtain ⟨xa, as, rfl, r1, hR⟩ := hR.uncons
        obtain ⟨ka, as, rfl, r2, hR⟩ := hR.uncons
        obtain rfl := hR.unnil
        obtain ⟨h1, h2⟩ := look_eq hu hkd hz h
        simp only at h1 h2; subst h2
        simp only [execOp, ho]
        exact GoodV.next (GoodV.same hS (lookupA_ok hS h1 r1 r2))
      · simp at hk
    · simp at hk
  · rename_i t m k vv ho
    split at hk
    · rename_i kt et hu
      split at hk
      · rename_i s hkd
        simp at hk; obtain ⟨rfl, rfl⟩ := hk
        obtain ⟨xa, as, rfl, r1, hR⟩ := hR.uncons
        obtain ⟨ka, as, rfl, r2, hR⟩ := hR.uncons
        obtain ⟨va, as, rfl, r3, hR⟩ := hR.uncons
        obtain rfl := hR.unnil
        obtain ⟨h1, h2⟩ := upd_eq hu hkd h
        simp only at h1 h2; subst h2
        obtain ⟨w', q1, q2, q3⟩ := mapUpdateA_ok (P := P) hS h1 r1 r2 r3
        exact ⟨Go.undef, w', [], .inr ⟨by simp [execOp, ho, q1], rfl⟩, by simpa using q2, .undef, by simpa using q3⟩
      · simp at hk
    · simp at hk
  · rename_i t x ho
    have main : ∀ (key : HKey), opH key l H = some (v, H') → (∃ i off cs, l = [.ptr i off] ∧ rowAt H i = some cs ∧ loadA P t (cs.drop off) = some v ∧ H' = H) → xs = [x] → Good L w β H ((execOp a.eval o).run P w) v H' := by
      rintro key h ⟨i, off, cs, rfl, hrow, hl, rfl⟩ rfl
      have r1 := hR.head
      simp only [execOp, ho]
      generalize a.eval x = vx at r1
      cases r1 with
      | ptr _ _ b hb =>
      have hca := (row_cells hS hrow hb).drop off
      rw [Nat.zero_add] at hca
      obtain ⟨u, hu, hrep⟩ := loadVar_run (P := P) hca hl
      exact GoodV.next (GoodV.same hS ⟨u, by simp [Instr.loadAt, Instr.sureAddr, hu], hrep⟩)
    split at hk
    · rename_i n ha hn
      simp at hk; obtain ⟨rfl, rfl⟩ := hk
      refine main _ h ?_ rfl
      obtain ⟨i, off, cs, h1, h2, h3, h4, h5⟩ := load_some h
      exact ⟨i, off, cs, h1, h2, by rw [h4]; simp only [loadA, ha, hn]; rw [if_pos h3], h5⟩
    · rename_i n ha hn
      simp at hk; obtain ⟨rfl, rfl⟩ := hk
      refine main _ h ?_ rfl
      obtain ⟨i, off, cs, h1, h2, h3, h5⟩ := load_none h
      exact ⟨i, off, cs, h1, h2, by simp only [loadA, ha]; exact h3, h5⟩
    · simp at hk
  · rename_i t x y ho
    split at hk
    · rename_i n hn
      simp at hk; obtain ⟨rfl, rfl⟩ := hk
      obtain ⟨i, off, av, H1, rfl, hl0, hs, rfl, rfl⟩ := stor_args h
      obtain ⟨xa, as, e, r1, hR⟩ := hR.uncons
      simp at e; obtain ⟨rfl, rfl⟩ := e
      obtain ⟨ka, as, e, r2, hR⟩ := hR.uncons
      simp at e; obtain ⟨rfl, rfl⟩ := e
      simp only [execOp, ho]
      generalize a.eval x = vx at r1
      generalize a.eval y = vy at r2
      cases r1 with
      | ptr _ _ b hb =>
      have hne : av ≠ .top := by
        rintro rfl
        simp [storeAt, AV.cells, allOne, AV.one] at hs
        split at hs <;> cases hs
      have hcs := cells_reps r2 hne
      obtain ⟨w', q1, q2, q3⟩ := store_row (P := P) hS hb hcs hs
      have hl : vy.cells.size = av.cells.length := by rw [hcs.1]; simp
      refine ⟨Go.undef, w', [], .inr ⟨?_, rfl⟩, by simpa using q2, .undef, by simpa using q3⟩
      simp [Instr.storeAt, Instr.sureAddr, storeVar, sizeOf_run (hl0 ▸ hn), hl, q1]
    · simp at hk
  · rename_i t lo co ho
    split at hk
    · rename_i e hu
      split at hk
      · rename_i i z hi hz
        split at hk
        · rename_i hc
          simp at hk; obtain ⟨rfl, rfl⟩ := hk
          obtain ⟨xa, as, rfl, r1, hR⟩ := hR.uncons
          obtain ⟨ka, as, rfl, r2, hR⟩ := hR.uncons
          obtain rfl := hR.unnil
          have h1 := mk_eq hu hi hz hc.1 hc.2 h
          obtain ⟨r, w', βn, q1, q2⟩ := makeSliceA_ok (P := P) hS h1 r1 r2
          simp only [execOp, ho]
          exact GoodV.next ⟨r, w', βn, q1, q2⟩
        · simp at hk
      · simp at hk
    · simp at hk
  · rename_i s d x ho
    split at hk
    · rename_i e hsrc hdst
      split at hk
      · rename_i hel
        simp at hk; obtain ⟨rfl, rfl⟩ := hk
        obtain ⟨i, off, len, sz, cap, cs, b, rfl, hrow, hc, hb, rfl, rfl⟩ := toS_args h
        have r1 := hR.head
        have hcv : convA P ⟨[], [], []⟩ H' s d (.sl i off len sz cap) = some (.str b, H') := by
          simp only [convA, hsrc, hdst, hel, hrow]
          rw [if_pos hc, hb]; rfl
        obtain ⟨_, q⟩ := convA_ok (P := P) (T := ⟨[], [], []⟩) (L := L) (fun e he => by simp at he) hS hcv r1
        simp only [execOp, ho]
        exact GoodV.next (GoodV.same hS q)
      · simp at hk
    · simp at hk
  · rename_i args ats ho
    split at hk
    · rename_i m k t hargs ht
      split at hk
      · rename_i kt et hu
        split at hk
        · rename_i s hkd
          simp at hk; obtain ⟨rfl, rfl⟩ := hk
          obtain ⟨xa, as, rfl, r1, hR⟩ := hR.uncons
          obtain ⟨ka, as, rfl, r2, hR⟩ := hR.uncons
          obtain rfl := hR.unnil
          obtain ⟨h1, h2⟩ := del_eq hu hkd h
          simp only at h1 h2; subst h2
          have hb := builtin_ok (P := P) (T := ⟨[], [], []⟩) (L := L) (fun e he => by simp at he) hS (b := .delete) (ts := ats) (l := [xa, ka]) (xs := args.map a.eval) (v := .tup []) (H' := H') (by simp [builtinA, ht, h1]) (by
            rw [Array.toList_map, hargs]; exact Reps.cons r1 (Reps.cons r2 Reps.nil)) o.type
          simp only [execOp, ho, resolve, Sem.run_bind, Sem.run_pure, Result.andThen_ok, invoke]
          exact hb _
        · simp at hk
      · simp at hk
    · simp at hk
  · rename_i args ats ho
    split at hk
    · rename_i m t hargs ht
      split at hk
      · rename_i kt et hu
        simp at hk; obtain ⟨rfl, rfl⟩ := hk
        obtain ⟨xa, as, rfl, r1, hR⟩ := hR.uncons
        obtain rfl := hR.unnil
        have hl : lenT P ⟨[], [], []⟩ t H xa = some v ∧ H' = H := by
          cases xa <;> simp only [opH, Option.map_eq_some_iff, Prod.mk.injEq] at h <;> try (cases h; done)
          obtain ⟨es, h1, rfl, rfl⟩ := h
          simp [lenT, lenA, hu, h1]
        obtain ⟨hl, rfl⟩ := hl
        have hb := builtin_ok (P := P) (T := ⟨[], [], []⟩) (L := L) (fun e he => by simp at he) hS (b := .len) (ts := ats) (l := [xa]) (xs := args.map a.eval) (v := v) (H' := H') (by simp [builtinA, ht, hl]) (by
          rw [Array.toList_map, hargs]; exact Reps.cons r1 Reps.nil) o.type
        simp only [execOp, ho, resolve, Sem.run_bind, Sem.run_pure, Result.andThen_ok, invoke]
        exact hb _
      · simp at hk
    · simp at hk
  · rename_i args ats ho
    split at hk
    · rename_i s x t u hargs ht hu
      split at hk
      · simp at hk
      · rename_i d e hd hdu hte
        split at hk
        · rename_i i z hi hz
          split at hk
          · rename_i hc
            simp at hk; obtain ⟨rfl, rfl⟩ := hk
            obtain ⟨xa, as, rfl, r1, hR⟩ := hR.uncons
            obtain ⟨ka, as, rfl, r2, hR⟩ := hR.uncons
            obtain rfl := hR.unnil
            have h1 := app_eq hte hi hz hc.1 hc.2.1 hc.2.2 h
            have hb := builtin_ok (P := P) (T := ⟨[], [], []⟩) (L := L) (fun e he => by simp at he) hS (b := .append) (ts := ats) (l := [xa, ka]) (xs := args.map a.eval) (v := v) (H' := H') (by
              simp only [builtinA, ht, hu, hdu]
              exact h1) (by
              rw [Array.toList_map, hargs]; exact Reps.cons r1 (Reps.cons r2 Reps.nil)) o.type
            simp only [execOp, ho, resolve, Sem.run_bind, Sem.run_pure, Result.andThen_ok, invoke]
            exact hb _
          · simp at hk
        · simp at hk
      · simp at hk
    · simp at hk
  · simp at hk

theorem hop_sound {T : Tab} (hT : HopsOK L T) (hS : Sim L w β H) {fr : Fr} {a : Act} (hF : FrRep w L β fr a.tmps) (o : Oper) {key : HKey} {xs : List Operand} {l : List AV} {v : AV} {H' : Heap} (hk : hkeyOf P o.op = some (key, xs)) (hl : opds fr xs = some l) (h : subH T key l H = some (v, H')) :
    Good L w β H ((execOp a.eval o).run P w) v H' := by
  have hR := opds_reps hF hl
  unfold subH at h
  simp only at h
  generalize reach H 100000 (idsL l []) [] = ord at h
  split at h
  · rename_i hn
    split at h
    · rename_i args' H1 ha hH1
      split at h
      · rename_i r0 H2 hc
        split at h
        · rename_i hle
          split at h
          · rename_i r' H2' hr' hH2
            simp at h; obtain ⟨rfl, rfl⟩ := h
            obtain ⟨a1, a2, a3⟩ := restrict_ok hS hn hH1
            have hR1 : Reps w L (pick β ord) args' (xs.map a.eval) := hR.ren a3 ha
            obtain ⟨e, he, rfl, rfl, rfl, h0⟩ := findH_mem hc
            simp only [Prod.mk.injEq] at h0
            obtain ⟨rfl, rfl⟩ := h0
            obtain ⟨A, H0, R, H3, k1, k2, k3, k4, k5⟩ := hT e he
            obtain ⟨A', k6, k7⟩ := hR1.inst
            rw [k1] at k6; cases k6
            obtain ⟨u, w', βn, g1, g2, g3, g4⟩ := opH_good (P := P) ((Sim.iff_inst k2).1 a1) o hk k5 k7
            have s1 := (Sim.iff_inst k4).2 g2
            have s2 : Rep w' L (pick β ord ++ βn) e.res u := Rep.name k3 g3
            have s3 : Step w (LiveAt (pick β ord) e.H) w' (LiveAt (pick β ord ++ βn) e.H') :=
              ⟨g4.os, g4.tape, g4.output, g4.size, fun b hb hL => g4.kept b hb (fun hl => hL ((live_inst k2 b).2 hl)), fun b hb hL hl => g4.dead b hb (fun hl' => hL ((live_inst k2 b).2 hl')) ((live_inst k4 b).1 hl), g4.shape⟩
            obtain ⟨p1, p2, p3, _⟩ := putBack_ok hS hn hH1 hle hr' hH2 a2 s1 s2 s3 (Cut.refl _ _ _)
            exact ⟨u, w', βn, g1, p1, p2, p3⟩
          · simp at h
        · simp at h
      · simp at h
    · simp at h
  · simp at h

theorem hkey_cls {o : Op} (h : cls o = 0) : hkeyOf P o = none := by
  unfold hkeyOf
  split <;> simp_all [cls]

/-! ### One step -/
/-- An operation has a value, or calls a function that has one. -/
def Did (P : Program) (o : Oper) (a : Act) (w : World) (R : Value → World → Prop) : Prop :=
  (∃ u w', ((execOp a.eval o).run P w = .ok (.value u) w' ∨ ((execOp a.eval o).run P w = .ok .skip w' ∧ u = Go.undef)) ∧ R u w') ∨
  (∃ g args, (execOp a.eval o).run P w = .ok (.enter g args) w ∧ Calls P g args w fun e w' => ∃ u, e = .returned u ∧ R u w')
theorem Did.wp {o : Oper} {a : Act} {R : Value → World → Prop} (h : Did P o a w R) {K : Act → World → Prop} {Q : Exit → Act → World → Prop} (hK : ∀ u w', R u w' → K (a.put o.dst u) w') : o.wp P a w K Q := by
  unfold Oper.wp
  rcases h with ⟨u, w', h1, h2⟩ | ⟨g, args, h1, h2⟩
  · rcases h1 with h1 | ⟨h1, rfl⟩
    · rw [h1]; exact hK _ _ h2
    · rw [h1]; exact hK _ _ h2
  · rw [h1, Oper.upon_enter]
    refine h2.mono fun e w' => ?_
    rintro ⟨u, rfl, hR⟩
    exact hK _ _ hR
theorem step_did {T : Tab} (hT : OpsOK L T ∧ HopsOK L T) {cf : CallF} (hcf : CallOK P L (callSub cf)) (hS : Sim L w β H) {fr : Fr} {a : Act} (hF : FrRep w L β fr a.tmps) (o : Oper) {v : AV} {H' : Heap} (h : evalStep P T cf fr H o.op = some (v, H')) :
    Did P o a w fun u w' => ∃ βn D, Sim D w' (β ++ βn) H' ∧ Rep w' D (β ++ βn) v u ∧ Step w (LiveAt β H) w' (LiveAt (β ++ βn) H') ∧ Cut L w (LiveAt β H) D := by
  unfold evalStep at h
  split at h
  · rename_i f args ats ho
    split at h
    · rename_i g caps l hf hl
      have hr := opd_rep hF hf
      have hrs := opds_reps hF hl
      generalize hg : a.eval f = vf at hr
      cases hr with
      | fn _ _ vs hlv hvs =>
      have hR : Reps w L β (l ++ caps) (args.toList.map a.eval ++ vs) := hrs.append ⟨hlv, hvs⟩
      obtain ⟨c1, c2⟩ := hcf _ _ _ _ _ h w β _ hS hR
      have he : (args.toList.map a.eval ++ vs).toArray = args.map a.eval ++ vs.toArray := by apply Array.ext'; simp
      rw [he] at c1 c2
      have hrun : (execOp a.eval o).run P w = .ok (.enter g (args.map a.eval ++ vs.toArray)) w := by
        simp only [execOp, ho, resolve, hg, Deferred.ofValue, Sem.run_bind, Sem.run_pure, Result.andThen_ok, invoke]
        rw [Array.empty_append]
        exact c1
      refine .inr ⟨_, _, hrun, c2.mono fun e w' => ?_⟩
      rintro ⟨u, βn, D, rfl, s1, s2, s3, s4⟩
      exact ⟨u, rfl, βn, D, s1, s2, s3, s4⟩
    · simp at h
  · have hg : Good L w β H ((execOp a.eval o).run P w) v H' := by
      split at h
      · rename_i r hr
        simp at h; subst h
        exact op_sound (P := P) hT.1 hS hF o hr
      · split at h
        · rename_i k xs hk
          split at h
          · rename_i l hl
            exact hop_sound hT.2 hS hF o hk hl h
          · simp at h
        · simp at h
    obtain ⟨u, w', βn, h1, h2, h3, h4⟩ := hg
    exact .inl ⟨u, w', h1, βn, L, h2, h3, h4, Cut.refl _ _ _⟩
theorem step_ok {T : Tab} (hT : OpsOK L T ∧ HopsOK L T) {cf : CallF} (hcf : CallOK P L (callSub cf)) (hS : Sim L w β H) {fr : Fr} {a : Act} (hF : FrRep w L β fr a.tmps) (o : Oper) {v : AV} {H' : Heap} (h : evalStep P T cf fr H o.op = some (v, H'))
    {K : Act → World → Prop} {Q : Exit → Act → World → Prop}
    (hK : ∀ u w' βn D, Sim D w' (β ++ βn) H' → Rep w' D (β ++ βn) v u → Step w (LiveAt β H) w' (LiveAt (β ++ βn) H') → Cut L w (LiveAt β H) D → K (a.put o.dst u) w') : o.wp P a w K Q :=
  (step_did hT hcf hS hF o h).wp fun u w' ⟨βn, D, h1, h2, h3, h4⟩ => hK u w' βn D h1 h2 h3 h4

end Go.Proofs.BoatV
