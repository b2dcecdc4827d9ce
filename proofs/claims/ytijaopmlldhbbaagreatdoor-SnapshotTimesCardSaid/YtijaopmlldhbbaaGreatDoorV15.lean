/- The evaluator is right: code, bodies, calls. -/
import Derived.Test.YtijaopmlldhbbaaGreatDoorV14
import Derived.LoopN
import Derived.Laws.Sem
namespace Go.Proofs.BoatV
open Go
set_option linter.unusedVariables false
set_option linter.unusedSimpArgs false
variable {P : Program} {C : Env} {T : Tab}

theorem evalOps_ok (hT : OpsOK C T ∧ HopsOK C T) {cf : CallF} (hcf : CallOK P C (callSub cf)) {ops : Array Oper} {w0 : World} {L0 : Nat → Prop} {β0 : List Nat} {m : Nat} {d : List Deferred} (hm0 : m ≤ β0.length) {frF : Fr} {HF : Heap} :
    ∀ (l : List Oper) (fr : Fr) (H : Heap), evalOps P T cf ops.toList l fr H = some (frF, HF) → ∀ (a : Act) (w : World), Fin C w0 L0 β0 m d fr H a w → wpList P ops (Qn C w0 L0 β0 m d frF HF) l a w
  | [], fr, H, h, a, w, hf => by
    simp only [evalOps, Option.some.injEq, Prod.mk.injEq] at h
    obtain ⟨rfl, rfl⟩ := h
    exact ⟨rfl, hf⟩
  | o :: r, fr, H, h, a, w, ⟨β, hS, hF, hst, hm, hd⟩ => by
    unfold wpList
    simp only [evalOps] at h
    split at h
    · rename_i hw
      have hwe := wanted_eq hT.1 hF ops o (guard_known hw)
      rw [hw] at hwe
      rw [← hwe]
      split at h
      · rename_i v H' hstep
        simp only [fV_eq, fput_eq, fH_eq] at h
        have h' : evalOps P T cf ops.toList r (putF fr o.dst v) H' = some (frF, HF) := by split at h <;> exact h
        simp only [if_true]
        refine .inl (step_ok hT hcf hS hF o hstep (fun u w' βn s1 s2 s3 => ?_))
        refine evalOps_ok hT hcf hm0 r _ H' h' _ w' ⟨β ++ βn, s1, (hF.mono (hS.wide s3) (fun _ _ h => get_append_left h)).put _ s2, hst.trans s3, fun i hi => ?_, by rw [put_defers]; exact hd⟩
        have h1 := hm i hi
        have h2 : β0[i]? = some β0[i] := List.getElem?_eq_getElem (by omega)
        rw [h2] at h1 ⊢
        exact get_append_left h1
      · simp at h
    · rename_i hw
      split at h
      · simp at h
      · rename_i hng
        have hwe := wanted_eq hT.1 hF ops o hng
        rw [hw] at hwe
        rw [← hwe]
        simp only [fput_eq] at h
        simp only [Bool.false_eq_true, if_false]
        exact evalOps_ok hT hcf hm0 r _ H h _ w ⟨β, hS, hF.put _ .undef, hst, hm, by rw [put_defers]; exact hd⟩

def exitOf : Ex → Exit
  | .norm => .normal
  | .exit id => .exit id
  | .ret => .ret

def Qx (C : Env) (w0 : World) (L0 : Nat → Prop) (β0 : List Nat) (m : Nat) (d : List Deferred) (ex : Ex) (frF : Fr) (HF : Heap) : Exit → Act → World → Prop := fun e a w => e = exitOf ex ∧ Fin C w0 L0 β0 m d frF HF a w

theorem iter_ok {c : Code} {f : Fr → Heap → Option (Ex × Fr × Heap)} {w0 : World} {L0 : Nat → Prop} {β0 : List Nat} {m : Nat} {d : List Deferred}
    (hf : ∀ fr H ex frF HF, f fr H = some (ex, frF, HF) → ∀ a w, Fin C w0 L0 β0 m d fr H a w → c.wp P (Qx C w0 L0 β0 m d ex frF HF) a w) :
    ∀ (n : Nat) fr H ex frF HF, iter f n fr H = some (ex, frF, HF) → ∀ a w, Fin C w0 L0 β0 m d fr H a w → Code.rounds P c (Qx C w0 L0 β0 m d ex frF HF) n a w
  | 0, fr, H, ex, frF, HF, h, a, w, hF => by simp [iter] at h
  | n + 1, fr, H, ex, frF, HF, h, a, w, hF => by
    rw [rounds_succ]
    simp only [iter] at h
    split at h
    · rename_i fr' H' h1
      refine Code.wp_mono (fun e a' w' hq => ?_) (hf _ _ _ _ _ h1 a w hF)
      obtain ⟨rfl, hq⟩ := hq
      exact iter_ok hf n _ _ _ _ _ h a' w' hq
    · rename_i hne
      refine Code.wp_mono (fun e a' w' hq => ?_) (hf _ _ _ _ _ h a w hF)
      obtain ⟨rfl, hq⟩ := hq
      cases ex with
      | norm => exact absurd h (hne _ _)
      | exit id => exact ⟨rfl, hq⟩
      | ret => exact ⟨rfl, hq⟩

theorem evalCode_ok (hT : OpsOK C T ∧ HopsOK C T) {cf : CallF} (hcf : CallOK P C (callSub cf)) (hmix : P.follows .mixedOrders = true) {N m : Nat} {w0 : World} {L0 : Nat → Prop} {β0 : List Nat} {d : List Deferred} (hm0 : m ≤ β0.length) :
    ∀ (c : Code) fr H ex frF HF, evalCode P T cf N m c fr H = some (ex, frF, HF) → ∀ a w, Fin C w0 L0 β0 m d fr H a w → c.wp P (Qx C w0 L0 β0 m d ex frF HF) a w
  | .skip, fr, H, ex, frF, HF, h, a, w, hF => by
    simp only [evalCode, Option.some.injEq, Prod.mk.injEq] at h
    obtain ⟨rfl, rfl, rfl⟩ := h
    exact wp_skip ⟨rfl, hF⟩
  | .label l, fr, H, ex, frF, HF, h, a, w, hF => by
    simp only [evalCode, Option.some.injEq, Prod.mk.injEq] at h
    obtain ⟨rfl, rfl, rfl⟩ := h
    exact wp_label ⟨rfl, hF⟩
  | .region id ops dr, fr, H, ex, frF, HF, h, a, w, hF => by
    simp only [evalCode] at h
    split at h
    · split at h
      · rename_i fr' H' h1
        simp only [Option.some.injEq, Prod.mk.injEq] at h
        obtain ⟨rfl, rfl, rfl⟩ := h
        exact Code.wp_mono (fun e a' w' hq => hq) (wp_region_list (evalOps_ok hT hcf hm0 _ _ _ h1 a w hF))
      · simp at h
    · split at h
      · rename_i hs
        simp only [fSums_eq] at h
        split at h
        · rename_i fr' H' h1
          simp only [fF_eq, fH_eq, Option.some.injEq, Prod.mk.injEq] at h
          obtain ⟨rfl, rfl, rfl⟩ := h
          obtain ⟨β, hS, hFr, hst, hm, hd⟩ := hF
          obtain ⟨s1, s2⟩ := hS.same (w' := { w with drawn := w.drawn + 1 }) rfl rfl rfl rfl
          refine Code.wp_mono (fun e a' w' hq => hq) (wp_region_any hmix (wpI_any _ _ _ _ (evalAny_ok hT hcf hs hm0 _ _ _ _ _ _ h1 _ a _ β [] (LRel.zero ops) (fun j k hj => ?_) s1 (hFr.mono (hS.wide s2) (fun _ _ h => h)) (hst.trans s2) hm hd (fun e he => by simp at he))))
          rw [(LRel.zero ops).2 j, bitIn_zero] at hj; cases hj
        · simp at h
      · simp at h
  | .seq x y, fr, H, ex, frF, HF, h, a, w, hF => by
    simp only [evalCode] at h
    split at h
    · rename_i fr' H' h1
      refine wp_seq (Code.wp_mono (fun e a' w' hq => ?_) (evalCode_ok hT hcf hmix hm0 x _ _ _ _ _ h1 a w hF))
      obtain ⟨rfl, hq⟩ := hq
      exact evalCode_ok hT hcf hmix hm0 y _ _ _ _ _ h a' w' hq
    · rename_i hne
      refine wp_seq (Code.wp_mono (fun e a' w' hq => ?_) (evalCode_ok hT hcf hmix hm0 x _ _ _ _ _ h a w hF))
      obtain ⟨rfl, hq⟩ := hq
      cases ex with
      | norm => exact absurd h (hne _ _)
      | exit id => exact ⟨rfl, hq⟩
      | ret => exact ⟨rfl, hq⟩
  | .cond c x y, fr, H, ex, frF, HF, h, a, w, hF => by
    simp only [evalCode] at h
    have hev : ∀ b, truthT T (opd fr c) = some b → a.eval c = .bool b := fun b hb => by
      obtain ⟨β, hS, hFr, _⟩ := hF
      exact truthT_ok (w := w) (β := β) hT.1 hb (fun av hav => opd_rep hFr hav)
    split at h
    · rename_i hc; exact wp_cond_true (hev _ hc) (evalCode_ok hT hcf hmix hm0 x _ _ _ _ _ h a w hF)
    · rename_i hc; exact wp_cond_false (hev _ hc) (evalCode_ok hT hcf hmix hm0 y _ _ _ _ _ h a w hF)
    · simp at h
  | .block id c, fr, H, ex, frF, HF, h, a, w, hF => by
    simp only [evalCode] at h
    split at h
    · rename_i i fr' H' h1
      refine wp_block (Code.wp_mono (fun e a' w' hq => ?_) (evalCode_ok hT hcf hmix hm0 c _ _ _ _ _ h1 a w hF))
      obtain ⟨rfl, hq⟩ := hq
      split at h
      · rename_i hi
        simp only [Option.some.injEq, Prod.mk.injEq] at h
        obtain ⟨rfl, rfl, rfl⟩ := h
        simp only [exitOf, Exit.inBlock, hi, if_true]
        exact ⟨rfl, hq⟩
      · rename_i hi
        simp only [Option.some.injEq, Prod.mk.injEq] at h
        obtain ⟨rfl, rfl, rfl⟩ := h
        simp only [exitOf, Exit.inBlock, hi, if_false]
        exact ⟨rfl, hq⟩
    · rename_i hne
      refine wp_block (Code.wp_mono (fun e a' w' hq => ?_) (evalCode_ok hT hcf hmix hm0 c _ _ _ _ _ h a w hF))
      obtain ⟨rfl, hq⟩ := hq
      cases ex with
      | norm => exact ⟨rfl, hq⟩
      | exit id' => exact absurd h (hne _ _ _)
      | ret => exact ⟨rfl, hq⟩
  | .loop c, fr, H, ex, frF, HF, h, a, w, hF => by
    simp only [evalCode] at h
    exact wp_loop_rounds N (iter_ok (fun fr H ex frF HF h a w hF => evalCode_ok hT hcf hmix hm0 c fr H ex frF HF h a w hF) N _ _ _ _ _ h a w hF)
  | .exit id, fr, H, ex, frF, HF, h, a, w, hF => by
    simp only [evalCode, Option.some.injEq, Prod.mk.injEq] at h
    obtain ⟨rfl, rfl, rfl⟩ := h
    exact wp_exit ⟨rfl, hF⟩
  | .ret, fr, H, ex, frF, HF, h, a, w, hF => by
    simp only [evalCode, Option.some.injEq, Prod.mk.injEq] at h
    obtain ⟨rfl, rfl, rfl⟩ := h
    exact wp_ret ⟨rfl, hF⟩
  | .rangeFunc _ _ _ _, fr, H, ex, frF, HF, h, a, w, hF => by simp [evalCode] at h
  | .scope _, fr, H, ex, frF, HF, h, a, w, hF => by simp [evalCode] at h
  | .goto _, fr, H, ex, frF, HF, h, a, w, hF => by simp [evalCode] at h
  | .refuse _, fr, H, ex, frF, HF, h, a, w, hF => by simp [evalCode] at h

/-! ### Results -/
theorem resultA_ok {w : World} {β : List Nat} {H : Heap} (hS : Sim C w β H) {fr : Fr} {tmps : Array Value} (hF : FrRep w C β fr tmps) {x : ResultVar} {r : AV} (h : resultA P fr H x = some r) :
    ∃ v, (match x with | .tmp t => pure (tmps.getD t undef) | .cell a t => do loadVar t (← asAddr (tmps.getD a undef)) : Sem Value).run P w = .ok v w ∧ Rep w C β r v := by
  cases x with
  | tmp t =>
    simp only [resultA, Option.some.injEq] at h
    subst h
    exact ⟨_, rfl, hF.val t⟩
  | cell a t =>
    simp only [resultA] at h
    split at h
    · rename_i i off hx
      split at h
      · rename_i cs hrow
        have hr := hF.val a
        rw [hx] at hr
        generalize hg : tmps.getD a undef = va at hr
        cases hr with
        | ptr _ _ b hb =>
        have hca := (row_cells hS hrow hb).drop off
        rw [Nat.zero_add] at hca
        obtain ⟨u, hu, hrep⟩ := loadVar_run (P := P) hca h
        exact ⟨u, by simp only [hg, asAddr, Sem.run_bind, Sem.run_pure, Result.andThen_ok, hu], hrep⟩
      · simp at h
    · simp at h

theorem resultsL_ok {w : World} {β : List Nat} {H : Heap} (hS : Sim C w β H) {fr : Fr} {tmps : Array Value} (hF : FrRep w C β fr tmps) : ∀ {xs : List ResultVar} {rs : List AV}, resultsL P fr H xs = some rs →
    ∃ vs, (xs.mapM (fun (x : ResultVar) => (match x with | .tmp t => pure (tmps.getD t undef) | .cell a t => do loadVar t (← asAddr (tmps.getD a undef)) : Sem Value))).run P w = .ok vs w ∧ Reps w C β rs vs
  | [], rs, h => by simp [resultsL] at h; subst h; exact ⟨[], by simp, Reps.nil⟩
  | x :: xs, rs, h => by
    simp only [resultsL] at h
    split at h
    · rename_i r l h1 h2
      simp only [Option.some.injEq] at h
      subst h
      obtain ⟨v, g1, g2⟩ := resultA_ok (P := P) hS hF h1
      obtain ⟨vs, g3, g4⟩ := resultsL_ok hS hF h2
      exact ⟨v :: vs, by simp only [List.mapM_cons, Sem.run_bind, g1, Result.andThen_ok, g3, Sem.run_pure], Reps.cons g2 g4⟩
    · simp at h

theorem resultsA_ok {w : World} {β : List Nat} {H : Heap} (hS : Sim C w β H) {fr : Fr} {tmps : Array Value} (hF : FrRep w C β fr tmps) {fn : Func} {r : AV} (h : resultsA P fr H fn.results.toList = some r) :
    ∃ v, (results fn tmps).run P w = .ok v w ∧ Rep w C β r v := by
  unfold resultsA at h
  split at h
  · rename_i av h1
    simp only [Option.some.injEq] at h
    subst h
    obtain ⟨vs, g1, g2⟩ := resultsL_ok (P := P) hS hF h1
    match vs, g2 with
    | [v], g2 =>
      refine ⟨v, ?_, g2.head⟩
      unfold results
      rw [Array.mapM_eq_mapM_toList]
      simp only [Sem.run_bind, map_eq_pure_bind, bind_assoc, pure_bind]
      erw [g1]
      simp
    | [], g2 => have := g2.1; simp at this
    | _ :: _ :: _, g2 => have := g2.1; simp at this
  · rename_i l hne h1
    simp only [Option.some.injEq] at h
    subst h
    obtain ⟨vs, g1, g2⟩ := resultsL_ok (P := P) hS hF h1
    refine ⟨.tuple vs.toArray, ?_, .tup _ _ g2.1 g2.2⟩
    have hl : vs.length ≠ 1 := fun e => by
      have := g2.1
      rw [e] at this
      match l, this with
      | [x], _ => exact hne x rfl
    unfold results
    rw [Array.mapM_eq_mapM_toList]
    simp only [Sem.run_bind, map_eq_pure_bind, bind_assoc, pure_bind]
    erw [g1]
    simp [hl]
  · simp at h

/-! ### Bodies -/
theorem chunks_small (l : List AV) (t : Nat) (hl : l.length < 8) (hc : chunks l = [l]) : fget (chunks l) t = l.getD t .undef ∧ (inb (chunks l) t ↔ t < l.length) := by
  have ed : ∀ n, Nat.div n 8 = n / 8 := fun _ => rfl
  have em : ∀ n, Nat.mod n 8 = n % 8 := fun _ => rfl
  rw [hc]
  simp only [fget, inb, ed, em]
  rcases Nat.lt_or_ge t 8 with hlt | hge
  · have h0 : t / 8 = 0 := by omega
    have h1 : t % 8 = t := by omega
    rw [h0, h1]; simp
  · have h0 : t / 8 = ((t / 8) - 1) + 1 := by omega
    rw [h0]
    simp only [List.getD_cons_succ, List.getD_nil, List.length_nil]
    refine ⟨?_, by omega⟩
    simp [List.getD_eq_getElem?_getD, List.getElem?_eq_none (show l.length ≤ t by omega)]

theorem chunks_get : ∀ (l : List AV) (t : Nat), fget (chunks l) t = l.getD t .undef ∧ (inb (chunks l) t ↔ t < l.length)
  | a :: b :: c :: d :: e :: f :: g :: h :: r, t => by
    obtain ⟨ih1, ih2⟩ := chunks_get r (t - 8)
    have ed : ∀ n, Nat.div n 8 = n / 8 := fun _ => rfl
    have em : ∀ n, Nat.mod n 8 = n % 8 := fun _ => rfl
    simp only [fget, inb, ed, em, chunks] at ih1 ih2 ⊢
    rcases Nat.lt_or_ge t 8 with hlt | hge
    · have h0 : t / 8 = 0 := by omega
      have h1 : t % 8 = t := by omega
      rw [h0, h1]
      refine ⟨?_, by simp; omega⟩
      simp only [List.getD_cons_zero]
      simp only [List.getD_eq_getElem?_getD]
      have hsplit : (a :: b :: c :: d :: e :: f :: g :: h :: r) = [a, b, c, d, e, f, g, h] ++ r := rfl
      rw [hsplit, List.getElem?_append_left (by simpa using hlt)]
    · have h0 : t / 8 = (t - 8) / 8 + 1 := by omega
      have h1 : t % 8 = (t - 8) % 8 := by omega
      rw [h0, h1]
      simp only [List.getD_cons_succ]
      refine ⟨?_, ?_⟩
      · rw [ih1]
        simp only [List.getD_eq_getElem?_getD]
        have hsplit : (a :: b :: c :: d :: e :: f :: g :: h :: r) = [a, b, c, d, e, f, g, h] ++ r := rfl
        rw [hsplit, List.getElem?_append_right (by simpa using hge)]; rfl
      · rw [ih2]; simp; omega
  | [], t => by simp [chunks, fget, inb]
  | [a], t => chunks_small [a] t (by simp) rfl
  | [a, b], t => chunks_small [a, b] t (by simp) rfl
  | [a, b, c], t => chunks_small [a, b, c] t (by simp) rfl
  | [a, b, c, d], t => chunks_small [a, b, c, d] t (by simp) rfl
  | [a, b, c, d, e], t => chunks_small [a, b, c, d, e] t (by simp) rfl
  | [a, b, c, d, e, f], t => chunks_small [a, b, c, d, e, f] t (by simp) rfl
  | [a, b, c, d, e, f, g], t => chunks_small [a, b, c, d, e, f, g] t (by simp) rfl
theorem entry_rep {w : World} {β : List Nat} {args : List AV} {vs : List Value} (h : Reps w C β args vs) (n : Nat) :
    FrRep w C β (chunks (args ++ List.replicate (n - args.length) .undef)) (vs.toArray ++ Array.replicate (n - vs.toArray.size) undef) := by
  have hl := h.1
  refine ⟨fun t => ?_, fun t => ?_⟩
  · rw [(chunks_get _ t).1]
    rcases Nat.lt_or_ge t args.length with hlt | hge
    · have e1 : (args ++ List.replicate (n - args.length) AV.undef).getD t .undef = args[t] := by simp [List.getD_eq_getElem?_getD, List.getElem?_append_left hlt, hlt]
      have hlt' : t < vs.length := by omega
      have e2 : (vs.toArray ++ Array.replicate (n - vs.toArray.size) undef).getD t undef = vs[t] := by
        rw [Array.getD_eq_getD_getElem?, Array.getElem?_append_left (by simpa using hlt')]; simp [hlt']
      rw [e1, e2]
      exact h.2 t _ _ (List.getElem?_eq_getElem hlt) (List.getElem?_eq_getElem hlt')
    · have e1 : (args ++ List.replicate (n - args.length) AV.undef).getD t .undef = .undef := by
        rw [List.getD_eq_getElem?_getD, List.getElem?_append_right hge, List.getElem?_replicate]
        split <;> rfl
      have e2 : (vs.toArray ++ Array.replicate (n - vs.toArray.size) undef).getD t undef = undef := by
        rw [Array.getD_eq_getD_getElem?, Array.getElem?_append_right (by simp; omega), Array.getElem?_replicate]
        split <;> rfl
      rw [e1, e2]; exact .undef
  · rw [(chunks_get _ t).2]
    simp [hl]

theorem prefix_eq {β β' : List Nat} {m : Nat} (hm : β.length = m) (h : ∀ i, i < m → β'[i]? = β[i]?) : β' = β ++ β'.drop m := by
  apply List.ext_getElem?
  intro i
  rcases Nat.lt_or_ge i m with hi | hi
  · rw [List.getElem?_append_left (by omega)]; exact h i hi
  · rw [List.getElem?_append_right (by omega), List.getElem?_drop]; congr 1; omega

theorem runBody_ok (hT : OpsOK C T ∧ HopsOK C T) {cf : CallF} (hcf : CallOK P C (callSub cf)) (hmix : P.follows .mixedOrders = true) {N : Nat} {f : FuncId} {fn : Func} (hf : P.funcs[f]? = some fn) {args : List AV} {H : Heap} {r : AV} {H' : Heap} (h : runBody P T cf N fn args H = some (r, H'))
    {w : World} {β : List Nat} {vs : List Value} (hS : Sim C w β H) (hR : Reps w C β args vs) :
    Calls P f vs.toArray w fun e w' => ∃ v βn, e = .returned v ∧ Sim C w' (β ++ βn) H' ∧ Rep w' C (β ++ βn) r v ∧ Step w (LiveAt β H) w' (LiveAt (β ++ βn) H') := by
  unfold runBody at h
  split at h
  · rename_i c hb
    simp only [fF_eq, fH_eq] at h
    have hfin : Fin C w (LiveAt β H) β H.length [] (chunks (args ++ List.replicate (fn.ntmps - args.length) .undef)) H { tmps := vs.toArray ++ Array.replicate (fn.ntmps - vs.toArray.size) undef, defers := [] } w :=
      ⟨β, hS, entry_rep hR fn.ntmps, Step.refl _ _, fun _ _ => rfl, rfl⟩
    have main : ∀ (ex : Ex) (frF : Fr) (HF : Heap), (ex = .norm ∨ ex = .ret) → evalCode P T cf N H.length c (chunks (args ++ List.replicate (fn.ntmps - args.length) .undef)) H = some (ex, frF, HF) →
        (match resultsA P frF HF fn.results.toList with | some r => fV r fun r => gcRet H.length r HF | none => none) = some (r, H') →
        Calls P f vs.toArray w fun e w' => ∃ v βn, e = .returned v ∧ Sim C w' (β ++ βn) H' ∧ Rep w' C (β ++ βn) r v ∧ Step w (LiveAt β H) w' (LiveAt (β ++ βn) H') := by
      intro ex frF HF hex hc hr
      split at hr
      · rename_i r0 hr0
        simp only [fV_eq] at hr
        refine calls_of_wp hf hb (Code.wp_mono (fun e a' w' hq => ?_) (evalCode_ok hT hcf hmix (by rw [hS.len]; exact Nat.le_refl _) c _ _ _ _ _ hc _ w hfin))
        obtain ⟨rfl, β1, s1, s2, s3, s4, s5⟩ := hq
        obtain ⟨v, g1, g2⟩ := resultsA_ok (P := P) s1 s2 hr0
        obtain ⟨β', t1, t2, t3, t4⟩ := gcRet_ok s1 g2 hr
        have he := prefix_eq (β := β) (β' := β') hS.len (fun i hi => (t4 i hi).trans (s4 i hi))
        have hpost : a'.defers = [] ∧ ∃ v, (results fn a'.tmps).run P w' = .ok v w' ∧ ∃ v' βn, Ending.returned v = .returned v' ∧ Sim C w' (β ++ βn) H' ∧ Rep w' C (β ++ βn) r v' ∧ Step w (LiveAt β H) w' (LiveAt (β ++ βn) H') :=
          ⟨s5, v, g1, v, β'.drop H.length, rfl, by rw [← he]; exact t1, by rw [← he]; exact t2, by rw [← he]; exact s3.trans t3⟩
        rcases hex with rfl | rfl <;> exact hpost
      · simp at hr
    split at h
    · rename_i frF HF hc; exact main .norm frF HF (.inl rfl) hc h
    · rename_i frF HF hc; exact main .ret frF HF (.inr rfl) hc h
    · simp at h
  · simp at h

theorem full_ok (hmix : P.follows .mixedOrders = true) (hT : TabOK P C T) {ok : FuncId → Bool} {ext : FuncId → Option (List AV → Heap → Option (AV × Heap))} (hext : ∀ f s, ext f = some s → SpecOK P f s)
    (hok : ∀ f, ok f = true → ∀ (args : Array Value) (w : World), (callFunc f args).run P w = .ok (.enter f args) w) : ∀ n, CallOK P C (full P T ok ext n)
  | 0 => by intro f args H r H' h; simp [full] at h
  | n + 1 => by
    intro f args H r H' h w β vs hS hR
    simp only [full] at h
    split at h
    · rename_i s hs
      exact hext f s hs args H r H' h C w β vs hS hR
    · split at h
      · rename_i hokf
        split at h
        · rename_i fn hf
          exact ⟨hok f hokf _ w, runBody_ok hT.1 (callSub_ok (tabCall_ok hT (full_ok hmix hT hext hok n))) hmix hf h hS hR⟩
        · simp at h
      · simp at h

end Go.Proofs.BoatV
