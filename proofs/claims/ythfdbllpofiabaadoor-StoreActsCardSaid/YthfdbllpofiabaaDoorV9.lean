/- The evaluator is right: every operation that is no call of a function. -/
import Derived.Test.YthfdbllpofiabaaDoorV8
namespace Go.Proofs.BoatV
open Go
set_option linter.unusedVariables false
set_option linter.unusedSimpArgs false
variable {P : Program} {L : Env} {w : World} {β : List Nat} {H : Heap}

theorem optB_rep {fr : Fr} {a : Act} {L : Env} (hF : FrRep w L β fr a.tmps) {o : Option Operand} {r : Option AV} (h : o.elim (some none) (fun o => (opd fr o).map some) = some r) : ORep w L β r (o.map a.eval) := by
  cases o with
  | none => simp at h; subst h; exact .none
  | some x =>
    simp only [Option.elim_some, Option.map_eq_some_iff] at h
    obtain ⟨v, h1, rfl⟩ := h
    exact .some (opd_rep hF h1)

theorem arr1 {xs : Array Value} {l : List AV} {x : AV} {L : Env} (h : Reps w L β [x] xs.toList) : ∃ u, xs = #[u] ∧ Rep w L β x u := by
  obtain ⟨u, hu, hr⟩ := h.at (k := 0) rfl
  have hl := h.1
  obtain ⟨ys⟩ := xs
  match ys, hl, hu with
  | [y], _, hu => simp at hu; subst hu; exact ⟨_, rfl, hr⟩

theorem arr2 {xs : Array Value} {x y : AV} {L : Env} (h : Reps w L β [x, y] xs.toList) : ∃ u v, xs = #[u, v] ∧ Rep w L β x u ∧ Rep w L β y v := by
  obtain ⟨u, hu, hr⟩ := h.at (k := 0) rfl
  obtain ⟨v, hv, hr'⟩ := h.at (k := 1) rfl
  have hl := h.1
  obtain ⟨ys⟩ := xs
  match ys, hl, hu, hv with
  | [y, z], _, hu, hv => simp at hu hv; subst hu; subst hv; exact ⟨_, _, rfl, hr, hr'⟩

/-- What a value's step comes to, as a step of the machine. -/
def GoodV (L : Env) (w : World) (β : List Nat) (H : Heap) (res : Result Value) (v : AV) (H' : Heap) : Prop :=
  ∃ u w' βn, res = .ok u w' ∧ Sim L w' (β ++ βn) H' ∧ Rep w' L (β ++ βn) v u ∧ Step w (LiveAt β H) w' (LiveAt (β ++ βn) H')

theorem GoodV.same (hS : Sim L w β H) {res : Result Value} {v : AV} (h : ∃ r, res = .ok r w ∧ Rep w L β v r) : GoodV L w β H res v H := by
  obtain ⟨r, h1, h2⟩ := h
  exact ⟨r, w, [], h1, by simpa using hS, by simpa using h2, by simpa using Step.refl _ _⟩

theorem all1 {s : Sem Value} {R : Value → Prop} (h : ∃ r, (∀ w' : World, s.run P w' = .ok r w') ∧ R r) : ∃ r, s.run P w = .ok r w ∧ R r := let ⟨r, h1, h2⟩ := h; ⟨r, h1 w, h2⟩

theorem GoodV.next {s : Sem Value} {v : AV} {H' : Heap} (h : GoodV L w β H (s.run P w) v H') : Good L w β H ((do let x ← s; pure (Next.value x) : Sem Next).run P w) v H' := by
  obtain ⟨u, w', βn, h1, h2, h3, h4⟩ := h
  exact ⟨u, w', βn, .inl (by simp [h1]), h2, h3, h4⟩

theorem builtin_ok {T : Tab} (hT : OpsOK L T) (hS : Sim L w β H) {b : Builtin} {ts : Array TypeId} {l : List AV} {xs : Array Value} {v : AV} {H' : Heap} (h : builtinA P T H b ts l = some (v, H')) (hx : Reps w L β l xs.toList) (ty : TypeId) (cs : Array Bool) :
    Good L w β H ((builtin b ts ty cs xs).run P w) v H' := by
  unfold builtinA at h
  split at h
  · rename_i x
    split at h
    · rename_i t ht
      simp only [Option.map_eq_some_iff, Prod.mk.injEq] at h
      obtain ⟨a, h1, rfl, rfl⟩ := h
      obtain ⟨u, rfl, hr⟩ := arr1 (l := []) hx
      exact GoodV.next (GoodV.same hS (lenT_ok hT hS ht h1 hr))
    · simp at h
  · rename_i s x
    split at h
    · rename_i t u ht hu
      split at h
      · simp at h
      · rename_i d hd hdu
        obtain ⟨vs, vx, rfl, hr1, hr2⟩ := arr2 hx
        exact GoodV.next (appendA_ok hS ht hu hdu (fun k e => hd k (by rw [← e])) h hr1 hr2)
      · simp at h
    · simp at h
  · rename_i d x
    split at h
    · rename_i t ht
      obtain ⟨vs, vx, rfl, hr1, hr2⟩ := arr2 hx
      obtain ⟨r, w', h1, h2, h3, h4⟩ := copyA_ok (P := P) (ty := ty) hS ht h hr1 hr2
      exact GoodV.next ⟨r, w', [], h1, by simpa using h2, by simpa using h3, by simpa using h4⟩
    · simp at h
  · rename_i m k
    split at h
    · rename_i t ht
      simp only [Option.map_eq_some_iff, Prod.mk.injEq] at h
      obtain ⟨H1, h1, rfl, rfl⟩ := h
      obtain ⟨vs, vx, rfl, hr1, hr2⟩ := arr2 hx
      obtain ⟨w', r1, r2, r3⟩ := deleteA_ok (P := P) (ty := ty) hS ht h1 hr1 hr2
      exact GoodV.next ⟨.tuple #[], w', [], r1, by simpa using r2, .tup [] [] rfl (fun k av v h => by simp at h), by simpa using r3⟩
    · simp at h
  · rename_i x y
    simp only [Option.map_eq_some_iff, Prod.mk.injEq] at h
    obtain ⟨r, h1, rfl, rfl⟩ := h
    obtain ⟨u, v, rfl, hr1, hr2⟩ := arr2 hx
    exact GoodV.next (GoodV.same hS (all1 (maxT_ok hT ts ty h1 hr1 hr2)))
  · simp at h

theorem undef_rep {L : Env} : Rep w L β .undef Go.undef := .undef

theorem op_sound {T : Tab} (hT : OpsOK L T) (hS : Sim L w β H) {fr : Fr} {a : Act} (hF : FrRep w L β fr a.tmps) (o : Oper) {v : AV} {H' : Heap} (h : evalOp P T fr H o.op = some (v, H')) : Good L w β H ((execOp a.eval o).run P w) v H' := by
  unfold evalOp at h
  split at h
  · rename_i x ho
    simp only [Option.map_eq_some_iff, Prod.mk.injEq] at h
    obtain ⟨av, h1, rfl, rfl⟩ := h
    exact Good.pure hS (by simp [execOp, ho]) (opd_rep hF h1)
  · rename_i x ho
    simp only [Option.map_eq_some_iff, Prod.mk.injEq] at h
    obtain ⟨av, h1, rfl, rfl⟩ := h
    exact Good.pure hS (by simp [execOp, ho]) (opd_rep hF h1)
  · rename_i c x y ho
    split at h
    · rename_i hcv
      simp only [Option.map_eq_some_iff, Prod.mk.injEq] at h
      obtain ⟨av, h1, rfl, rfl⟩ := h
      have hg : a.eval c = .bool true := truthT_ok (w := w) (β := β) hT hcv (fun av hav => opd_rep hF hav)
      exact Good.pure hS (by simp [execOp, ho, asBool, hg]) (opd_rep hF h1)
    · rename_i hcv
      simp only [Option.map_eq_some_iff, Prod.mk.injEq] at h
      obtain ⟨av, h1, rfl, rfl⟩ := h
      have hg : a.eval c = .bool false := truthT_ok (w := w) (β := β) hT hcv (fun av hav => opd_rep hF hav)
      exact Good.pure hS (by simp [execOp, ho, asBool, hg]) (opd_rep hF h1)
    · simp at h
  · rename_i e ho
    split at h
    · rename_i z hz
      simp only [addRow, Option.some.injEq, Prod.mk.injEq] at h
      obtain ⟨rfl, rfl⟩ := h
      obtain ⟨zv, hzr, hzo⟩ := zeroOf_run (P := P) (w := w) hz
      obtain ⟨w', h1, h2, h3⟩ := newVar_ok (P := P) hS (e := e) (ofV_rep (w := w) (L := L) (β := β) hzo) (ofV_ne hzo)
      exact ⟨.pointer (some ⟨w.heap.size, 0, none⟩), w', [w.heap.size], .inl (by simp [execOp, ho, Instr.alloc, hzr, h1]), h2, .ptr _ _ _ (new_at hS _), h3⟩
    · simp at h
  · rename_i e x ho
    split at h
    · rename_i av hx
      simp only [addRow, Option.some.injEq, Prod.mk.injEq] at h
      obtain ⟨rfl, rfl⟩ := h
      obtain ⟨w', h1, h2, h3⟩ := newVar_ok (P := P) hS (e := e) (opd_rep hF hx) (opd_ne hx)
      exact ⟨.pointer (some ⟨w.heap.size, 0, none⟩), w', [w.heap.size], .inl (by simp [execOp, ho, Instr.box, h1]), h2, .ptr _ _ _ (new_at hS _), h3⟩
    · simp at h
  · rename_i t ps ho
    split at h
    · rename_i l hl
      simp only [Option.map_eq_some_iff, Prod.mk.injEq] at h
      obtain ⟨av, h1, rfl, rfl⟩ := h
      have hp := partsA_reps hF hl
      have := buildA_ok (P := P) (m := ps.map fun (i, x) => (i, a.eval x)) h1 (by simpa using hp)
      simp only [execOp, ho]
      exact GoodV.next (GoodV.same hS (all1 this))
    · simp at h
  · rename_i t len ps ho
    split at h
    · rename_i l hl
      have hp := partsA_reps hF hl
      have := buildSliceA_ok (P := P) (m := ps.map fun (i, x) => (i, a.eval x)) hS h (by simpa using hp)
      obtain ⟨r, w', βn, h1, h2⟩ := this
      simp only [execOp, ho]
      exact GoodV.next ⟨r, w', βn, h1, h2⟩
    · simp at h
  · rename_i t x ho
    split at h
    · rename_i i off hx
      split at h
      · rename_i cs hrow
        simp only [Option.map_eq_some_iff, Prod.mk.injEq] at h
        obtain ⟨av, h1, rfl, rfl⟩ := h
        have hr := opd_rep hF hx
        simp only [execOp, ho]
        generalize a.eval x = vx at hr
        cases hr with
        | ptr _ _ b hb =>
        have hca := (row_cells hS hrow hb).drop off
        rw [Nat.zero_add] at hca
        obtain ⟨u, hu, hrep⟩ := loadVar_run (P := P) hca h1
        exact GoodV.next (GoodV.same hS ⟨u, by simp [Instr.loadAt, Instr.sureAddr, hu], hrep⟩)
      · simp at h
    · rename_i cells hx
      simp only [Option.map_eq_some_iff, Prod.mk.injEq] at h
      obtain ⟨av, h1, rfl, rfl⟩ := h
      have hr := opd_rep hF hx
      simp only [execOp, ho]
      generalize a.eval x = vx at hr
      cases hr with
      | ip _ bl off u hL hlt hc hr0 =>
      have hca : CellsAt w L β bl off cells := fun k av hk => ⟨u k, hc k (List.getElem?_eq_some_iff.1 hk).1, (hr0 k av hk).mono (Step.refl _ _) (fun i b h => by simp at h)⟩
      obtain ⟨u, hu, hrep⟩ := loadVar_run (P := P) hca h1
      exact GoodV.next (GoodV.same hS ⟨u, by simp [Instr.loadAt, Instr.sureAddr, hu], hrep⟩)
    · simp at h
  · rename_i t x y ho
    split at h
    · rename_i i off av hx hy
      split at h
      · rename_i hsz
        simp only [Option.map_eq_some_iff, Prod.mk.injEq] at h
        obtain ⟨H1, h1, rfl, rfl⟩ := h
        have hr := opd_rep hF hx
        have hry := opd_rep hF hy
        simp only [execOp, ho]
        generalize a.eval x = vx at hr
        generalize a.eval y = vy at hry
        cases hr with
        | ptr _ _ b hb =>
        have hcs := cells_reps hry (opd_ne hy)
        obtain ⟨w', r1, r2, r3⟩ := store_row (P := P) hS hb hcs h1
        have hl : vy.cells.size = av.cells.length := by rw [hcs.1]; simp
        refine ⟨Go.undef, w', [], .inr ⟨?_, rfl⟩, by simpa using r2, .undef, by simpa using r3⟩
        simp [Instr.storeAt, Instr.sureAddr, storeVar, sizeOf_run hsz, hl, r1]
      · simp at h
    · simp at h
  · rename_i x ho
    split at h
    · rename_i i off hx
      simp only [Option.some.injEq, Prod.mk.injEq] at h
      obtain ⟨rfl, rfl⟩ := h
      have hr := opd_rep hF hx
      generalize hg : a.eval x = vx at hr
      have hr' := hr
      cases hr with
      | ptr _ _ b hb => exact Good.pure hS (by simp [execOp, ho, hg]) hr'
    · rename_i cells hx
      simp only [Option.some.injEq, Prod.mk.injEq] at h
      obtain ⟨rfl, rfl⟩ := h
      have hr := opd_rep hF hx
      generalize hg : a.eval x = vx at hr
      have hr' := hr
      cases hr with
      | ip _ bl off u hL hlt hc hr0 => exact Good.pure hS (by simp [execOp, ho, hg]) hr'
    · rename_i f caps hx
      simp only [Option.some.injEq, Prod.mk.injEq] at h
      obtain ⟨rfl, rfl⟩ := h
      have hr := opd_rep hF hx
      generalize hg : a.eval x = vx at hr
      have hr' := hr
      cases hr with
      | fn _ _ vs hl hh => exact Good.pure hS (by simp [execOp, ho, hg]) hr'
    · simp at h
  · rename_i op t x y p ho
    split at h
    · rename_i av bv hx hy
      simp only [Option.map_eq_some_iff, Prod.mk.injEq] at h
      obtain ⟨r, h1, rfl, rfl⟩ := h
      simp only [execOp, ho]
      exact GoodV.next (GoodV.same hS (all1 (binA_ok hT h1 (opd_rep hF hx) (opd_rep hF hy) x y)))
    · simp at h
  · rename_i op t x ho
    split at h
    · rename_i av hx
      simp only [Option.map_eq_some_iff, Prod.mk.injEq] at h
      obtain ⟨r, h1, rfl, rfl⟩ := h
      simp only [execOp, ho]
      exact GoodV.next (GoodV.same hS (all1 (unA_ok hT h1 (opd_rep hF hx))))
    · simp at h
  · rename_i s d x ho
    split at h
    · rename_i av hx
      obtain ⟨rfl, hc⟩ := convA_ok hT hS h (opd_rep hF hx)
      simp only [execOp, ho]
      exact GoodV.next (GoodV.same hS hc)
    · simp at h
  · rename_i f first caps ho
    split at h
    · rename_i hfirst
      simp only [Option.map_eq_some_iff, Prod.mk.injEq] at h
      obtain ⟨l, h1, rfl, rfl⟩ := h
      have hr := opds_reps hF h1
      have hfi : first = #[] := by simpa using hfirst
      subst hfi
      refine Good.pure hS (u := .func (.func f) #[] (caps.map a.eval)) (by simp [execOp, ho, Instr.makeFunc]) ?_
      have := Rep.fn (w := w) (L := L) (β := β) f l _ hr.1 hr.2
      have e : (caps.toList.map a.eval).toArray = caps.map a.eval := by apply Array.ext'; simp
      rw [e] at this; exact this
    · simp at h
  · rename_i t ho
    simp only [Option.some.injEq, Prod.mk.injEq] at h
    obtain ⟨rfl, rfl⟩ := h
    have hn := Sim.new hS (o := .map []) (w' := w.alloc (.map #[] 0)) (x := .map #[] 0) (by simp) rfl rfl rfl rfl (fun hst => .map [] #[] 0 (MapKept.stamped_empty 0) ⟨rfl, fun k e m h => by simp at h⟩)
    exact ⟨.map (some w.heap.size), _, [w.heap.size], .inl (by simp [execOp, ho, Instr.makeMap]), hn.1, .mapv _ _ (new_at hS _), hn.2⟩
  · rename_i t sz ho
    split at h
    · rename_i kd n dir e hsz ht
      split at h
      · rename_i ti hi
        split at h
        · rename_i hc
          simp only [Option.some.injEq, Prod.mk.injEq] at h
          obtain ⟨rfl, rfl⟩ := h
          have hr := opd_rep hF hsz
          generalize hg : a.eval sz = vs at hr
          cases hr with
          | int _ _ =>
          have hn := Sim.new hS (o := .chan n.toNat []) (w' := w.alloc (.chan n.toNat #[] false 0 0 false)) (x := .chan n.toNat #[] false 0 0 false) (by simp) rfl rfl rfl rfl (fun hst => .chan _ [] #[] 0 0 false Reps.nil)
          have h1 : ¬ (n < 0 ∨ n > IntKind.i64.max ∨ (ti.bytes : Int) * n > 2 ^ 48 - 112) := by
            have hm : IntKind.i64.max = 9223372036854775807 := rfl
            rw [hm]; omega
          refine ⟨.chan (some w.heap.size), _, [w.heap.size], .inl ?_, hn.1, .chv _ _ (new_at hS _), hn.2⟩
          simp only [execOp, ho, hg, Instr.makeChan, asInt, asIntOf, Sem.run_bind, Sem.run_pure, Result.andThen_ok, underlying_run ht, typeInfo_run hi, map_eq_pure_bind]
          rw [if_neg h1]
          simp
        · simp at h
      · simp at h
    · simp at h
  · rename_i t l c ho
    split at h
    · rename_i av bv hx hy
      obtain ⟨r, w', βn, h1, h2⟩ := makeSliceA_ok (P := P) hS h (opd_rep hF hx) (opd_rep hF hy)
      simp only [execOp, ho]
      exact GoodV.next ⟨r, w', βn, h1, h2⟩
    · simp at h
  · rename_i t x lo hi mx ho
    split at h
    · rename_i av hx
      split at h
      · rename_i l h' m hl hh hm
        simp only [Option.map_eq_some_iff, Prod.mk.injEq] at h
        obtain ⟨r, h1, rfl, rfl⟩ := h
        simp only [execOp, ho]
        exact GoodV.next (GoodV.same hS (all1 (sliceT_ok hT h1 (opd_rep hF hx) (optB_rep hF hl) (optB_rep hF hh) (optB_rep hF hm))))
      · simp at h
    · simp at h
  · rename_i s x f ho
    split at h
    · rename_i av hx
      simp only [Option.map_eq_some_iff, Prod.mk.injEq] at h
      obtain ⟨r, h1, rfl, rfl⟩ := h
      simp only [execOp, ho]
      exact GoodV.next (GoodV.same hS (all1 (fieldAddrT_ok hT h1 (opd_rep hF hx))))
    · simp at h
  · rename_i s x f ho
    split at h
    · rename_i av hx
      simp only [Option.map_eq_some_iff, Prod.mk.injEq] at h
      obtain ⟨r, h1, rfl, rfl⟩ := h
      simp only [execOp, ho]
      exact GoodV.next (GoodV.same hS (all1 (fieldA_ok h1 (opd_rep hF hx))))
    · simp at h
  · rename_i t x y ho
    split at h
    · rename_i av bv hx hy
      simp only [Option.map_eq_some_iff, Prod.mk.injEq] at h
      obtain ⟨r, h1, rfl, rfl⟩ := h
      simp only [execOp, ho]
      exact GoodV.next (GoodV.same hS (all1 (indexAddrT_ok hT h1 (opd_rep hF hx) (opd_rep hF hy))))
    · simp at h
  · rename_i t x y ho
    split at h
    · rename_i av bv hx hy
      simp only [Option.map_eq_some_iff, Prod.mk.injEq] at h
      obtain ⟨r, h1, rfl, rfl⟩ := h
      simp only [execOp, ho]
      exact GoodV.next (GoodV.same hS (all1 (indexT_ok hT h1 (opd_rep hF hx) (opd_rep hF hy))))
    · simp at h
  · rename_i t x y ok ho
    split at h
    · rename_i av bv hx hy
      simp only [Option.map_eq_some_iff, Prod.mk.injEq] at h
      obtain ⟨r, h1, rfl, rfl⟩ := h
      simp only [execOp, ho]
      exact GoodV.next (GoodV.same hS (lookupA_ok hS h1 (opd_rep hF hx) (opd_rep hF hy)))
    · simp at h
  · rename_i t x y z ho
    split at h
    · rename_i av bv cv hx hy hz
      simp only [Option.map_eq_some_iff, Prod.mk.injEq] at h
      obtain ⟨H1, h1, rfl, rfl⟩ := h
      obtain ⟨w', r1, r2, r3⟩ := mapUpdateA_ok (P := P) hS h1 (opd_rep hF hx) (opd_rep hF hy) (opd_rep hF hz)
      exact ⟨Go.undef, w', [], .inr ⟨by simp [execOp, ho, r1], rfl⟩, by simpa using r2, .undef, by simpa using r3⟩
    · simp at h
  · rename_i x i ho
    split at h
    · rename_i vs hx
      simp only [Option.map_eq_some_iff, Prod.mk.injEq] at h
      obtain ⟨r, h1, rfl, rfl⟩ := h
      have hr := opd_rep hF hx
      simp only [execOp, ho]
      generalize a.eval x = vx at hr
      cases hr with
      | tup _ us hl hh =>
      obtain ⟨u, hu, hrep⟩ := Reps.at ⟨hl, hh⟩ h1
      exact GoodV.next (GoodV.same hS ⟨u, by simp [Instr.extract, hu], hrep⟩)
    · simp at h
  · rename_i b args ats ho
    split at h
    · rename_i l hl
      have hr := opds_reps hF hl
      have hb := builtin_ok (P := P) hT hS h (xs := args.map a.eval) (by simpa using hr) o.type
      simp only [execOp, ho, resolve, Sem.run_bind, Sem.run_pure, Result.andThen_ok, invoke]
      exact hb _
    · simp at h
  · simp at h

end Go.Proofs.BoatV
