/- The evaluator is right: code, bodies, calls. -/
import Derived.Test.YthfdbllpofiabaaDoorV14
import Derived.LoopN
import Derived.Laws.Sem
import Derived.Conc.LoneSelect
namespace Go.Proofs.BoatV
open Go
set_option linter.unusedVariables false
set_option linter.unusedSimpArgs false
variable {P : Program} {C : Env} {T : Tab}

/-! ### A region in its text's order, a step at a time -/
def RegW (P : Program) (ops : Array Oper) (Q : Exit → Act → World → Prop) (l : List Nat) (a : Act) (w : World) : Prop :=
  ∀ (b : Frame) (k : List Item) (cs : List Frame), ∃ e a' w', Q e a' w' ∧ Arrives P (lone (b.at a (.inRegion ops l :: k)) cs w) b k cs e a' w'
section
variable {ops : Array Oper} {Q : Exit → Act → World → Prop} {a : Act} {w : World} {i : Nat} {rest : List Nat} {o : Oper}
theorem reg_nil (h : Q .normal a w) : RegW P ops Q [] a w := fun b k cs => ⟨.normal, a, w, h, Steps.one step_region_end⟩
theorem reg_skip (ho : ops[i]? = some o) (hw : Region.wanted o (yielded ops a.tmps) = false) (h : RegW P ops Q rest (a.put o.dst undef) w) : RegW P ops Q (i :: rest) a w := fun b k cs => by
  obtain ⟨e, a', w', hq, harr⟩ := h b k cs
  have hs := step_op_skip (P := P) (b := b) (a := a) (k := k) (cs := cs) (w := w) (ops := ops) (i := i) (rest := rest) (by simp [ho, hw])
  have e1 : (ops[i]?).bind (·.dst) = o.dst := by rw [ho]; rfl
  rw [e1] at hs
  exact ⟨e, a', w', hq, .of_steps (Steps.one hs) harr⟩
theorem reg_did {R : Value → World → Prop} (ho : ops[i]? = some o) (hw : Region.wanted o (yielded ops a.tmps) = true) (hD : Did P o a w R) (hK : ∀ u w', R u w' → RegW P ops Q rest (a.put o.dst u) w') : RegW P ops Q (i :: rest) a w := fun b k cs => by
  have hg := stepG_op (P := P) (b := b) (k := k) (cs := cs) (w := w) (rest := rest) ho hw
  have hfin : ∀ v, (b.at a (.inRegion ops (i :: rest) :: k)).finish v = b.at (a.put o.dst v) (.inRegion ops rest :: k) := by
    intro v; rw [Frame.finish_at, ho]; rfl
  rcases hD with ⟨u, w', h1, h2⟩ | ⟨g, args, h1, h2⟩
  · obtain ⟨e, a', w'', hq, harr⟩ := hK _ _ h2 b k cs
    refine ⟨e, a', w'', hq, .of_steps (Steps.one (step_lone_go ?_)) harr⟩
    rcases h1 with h1 | ⟨h1, rfl⟩
    · rw [hg, ← hfin]; simp [stepG.apply, h1]
    · rw [hg, ← hfin]; simp [stepG.apply, h1]
  · obtain ⟨e, w'', fr, ⟨u, rfl, hR⟩, hsteps, _, hleave⟩ := h2 (b.at a (.inRegion ops (i :: rest) :: k) :: cs)
    obtain ⟨e, a', w3, hq, harr⟩ := hK _ _ hR b k cs
    have henter : step P (lone (b.at a (.inRegion ops (i :: rest) :: k)) cs w) = .next (lone (Frame.enter P g args .normal) (b.at a (.inRegion ops (i :: rest) :: k) :: cs) w) :=
      step_lone_go (by rw [hg]; simp [stepG.apply, h1, Frame.at])
    refine ⟨e, a', w3, hq, .of_steps (Steps.head henter (Steps.trans hsteps (Steps.one ?_))) harr⟩
    rw [← hfin]; exact step_leave_returned hleave
/-- A communication that is served at once. -/
def CommDid (P : Program) (o : Oper) (a : Act) (w : World) (R : Value → World → Prop) : Prop :=
  ∃ cases blocking shape, (execOp a.eval o).run P w = .ok (.comm cases blocking shape) w ∧ ∃ u w', R u w' ∧
    ∀ fr cs es, stepG P true (Conc.G fr cs) w = .comm (Conc.G fr cs) cases blocking shape w es → step P (Conc.solo (Conc.G fr cs) w) = .next (Conc.solo (Conc.G (fr.finish u) cs) w')
theorem reg_comm {R : Value → World → Prop} (ho : ops[i]? = some o) (hw : Region.wanted o (yielded ops a.tmps) = true) (hD : CommDid P o a w R) (hK : ∀ u w', R u w' → RegW P ops Q rest (a.put o.dst u) w') : RegW P ops Q (i :: rest) a w := fun b k cs => by
  have hg := stepG_op (P := P) (b := b) (k := k) (cs := cs) (w := w) (rest := rest) ho hw
  have hfin : ∀ v, (b.at a (.inRegion ops (i :: rest) :: k)).finish v = b.at (a.put o.dst v) (.inRegion ops rest :: k) := by
    intro v; rw [Frame.finish_at, ho]; rfl
  obtain ⟨cases, blocking, shape, h1, u, w', hR, hstep⟩ := hD
  obtain ⟨e, a', w'', hq, harr⟩ := hK _ _ hR b k cs
  have hes : ∃ es, stepG P true (Conc.G (b.at a (.inRegion ops (i :: rest) :: k)) cs) w = .comm (Conc.G (b.at a (.inRegion ops (i :: rest) :: k)) cs) cases blocking shape w es := by
    have hg' : stepG P true (Conc.G (b.at a (.inRegion ops (i :: rest) :: k)) cs) w = _ := hg
    rw [hg']
    simp only [stepG.apply, Sem.runT_eq, h1]
    exact ⟨_, rfl⟩
  obtain ⟨es, hes⟩ := hes
  have := hstep _ _ _ hes
  rw [hfin] at this
  exact ⟨e, a', w'', hq, .of_steps (Steps.one this) harr⟩
theorem wp_region_reg {id : Nat} (h : RegW P ops Q (List.range ops.size) a w) : (Code.region id ops false).wp P Q a w := fun b k cs => by
  obtain ⟨e, a', w', hq, harr⟩ := h b k cs
  exact ⟨e, a', w', hq, .of_steps (Steps.one step_region) harr⟩
end

theorem chanAt_eq {H : Heap} {i cap : Nat} {buf : List AV} (h : chanAt H i = some (cap, buf)) : H[i]? = some (.chan cap buf) := by
  unfold chanAt at h
  split at h
  · rename_i c l e; simp only [Option.some.injEq, Prod.mk.injEq] at h; obtain ⟨rfl, rfl⟩ := h; exact e
  · simp at h
theorem setChan_ok {L : Env} {w : World} {β : List Nat} {H : Heap} (hS : Sim L w β H) {i b cap : Nat} {buf buf' : List AV} {vs vs' : Array Value} {s r s' r' : Nat} {tm : Bool} (hm : chanAt H i = some (cap, buf)) (hb : β[i]? = some b) (hx : w.heap[b]? = some (.chan cap vs false s r tm)) (hE : Reps w L β buf' vs'.toList) :
    Sim L (w.setChan b cap vs' false s' r' tm) β (H.set i (.chan cap buf')) ∧ Step w (LiveAt β H) (w.setChan b cap vs' false s' r' tm) (LiveAt β (H.set i (.chan cap buf'))) := by
  have hlt : b < w.heap.size := hS.lt i b hb
  refine Sim.update hS (chanAt_eq hm) (by simp) (by simp) hb rfl rfl rfl (by simp [World.setChan]) (fun k hk => by simp [World.setChan, Array.getElem?_setIfInBounds_ne (Ne.symm hk)]) (fun s hs => by simp [World.shape?, hx] at hs) (fun hst => ⟨.chan cap vs' false s' r' tm, by simp [World.setChan, hlt], ?_⟩)
  exact .chan _ _ _ _ _ _ (hE.mono hst (fun _ _ h => h))
theorem chan_obj {L : Env} {w : World} {β : List Nat} {H : Heap} (hS : Sim L w β H) {i b cap : Nat} {buf : List AV} (hm : chanAt H i = some (cap, buf)) (hb : β[i]? = some b) : ∃ vs s r tm, w.heap[b]? = some (.chan cap vs false s r tm) ∧ Reps w L β buf vs.toList := by
  obtain ⟨x, hx, hR⟩ := hS.obj i _ b (chanAt_eq hm) (by simp) hb
  cases hR with
  | chan _ _ vs s r tm h => exact ⟨vs, s, r, tm, hx, h⟩
theorem commA_did {L : Env} {w : World} {β : List Nat} {H : Heap} (hS : Sim L w β H) {fr : Fr} {a : Act} (hF : FrRep w L β fr a.tmps) (o : Oper) {v : AV} {H' : Heap} (h : commA P fr H o.op = some (v, H')) :
    CommDid P o a w fun u w' => ∃ βn D, Sim D w' (β ++ βn) H' ∧ Rep w' D (β ++ βn) v u ∧ Step w (LiveAt β H) w' (LiveAt (β ++ βn) H') ∧ Cut L w (LiveAt β H) D := by
  unfold commA at h
  split at h
  · rename_i ch x ho
    split at h
    · rename_i i v0 hch hx
      split at h
      · rename_i cap buf hc
        split at h
        · rename_i hroom
          simp only [Option.some.injEq, Prod.mk.injEq] at h
          obtain ⟨rfl, rfl⟩ := h
          have hr := opd_rep hF hch
          have hrx := opd_rep hF hx
          generalize hg : a.eval ch = vc at hr
          cases hr with
          | chv _ b hb =>
          obtain ⟨vs, s, r, tm, hobj, hR⟩ := chan_obj hS hc hb
          have hlen : vs.size < cap := by have := hR.1; simp at this; omega
          have hE : Reps w L β (buf ++ [v0]) (vs.push (a.eval x)).toList := by
            rw [Array.toList_push]; exact hR.append (Reps.cons hrx Reps.nil)
          obtain ⟨s1, s2⟩ := setChan_ok hS (s' := s + 1) (r' := r) hc hb hobj hE
          refine ⟨#[Conc.scase b (a.eval x) (.tuple #[])], true, .send, by simp [execOp, ho, hg, Conc.scase], undef, _, ⟨[], L, by simpa using s1, .undef, by simpa using s2, Cut.refl _ _ _⟩, fun fr cs es he => ?_⟩
          exact Conc.step_lone_send_room he hobj hlen
        · simp at h
      · simp at h
    · simp at h
  · rename_i cases ho
    split at h
    · rename_i c hcs
      split at h
      · rename_i hsend
        split at h
        · rename_i i z hch hz
          have hcs' : cases = #[c] := by
            have : cases.toList.toArray = [c].toArray := by rw [hcs]
            simpa using this
          subst hcs'
          have hr := opd_rep hF hch
          generalize hg : a.eval c.chan = vc at hr
          obtain ⟨zv, hzr, hzo⟩ := zeroOf_run (P := P) (w := w) hz
          cases hr with
          | chv _ b hb =>
          have hrun : (execOp a.eval o).run P w = .ok (.comm #[Conc.rcase b zv] false .select) w := by
            simp [execOp, ho, hg, hsend, hzr, Conc.rcase]
          split at h
          · rename_i cap v0 r0 hc
            simp only [Option.some.injEq, Prod.mk.injEq] at h
            obtain ⟨rfl, rfl⟩ := h
            obtain ⟨vs, s, r, tm, hobj, hR⟩ := chan_obj hS hc hb
            have hvs : ∃ u us, vs = (u :: us).toArray := by
              have := hR.1
              match hl : vs.toList with
              | [] => rw [hl] at this; simp at this
              | u :: us => exact ⟨u, us, by rw [← hl]⟩
            obtain ⟨u, us, rfl⟩ := hvs
            have hE : Reps w L β r0 ((u :: us).toArray.extract 1 (u :: us).toArray.size).toList := by
              have e : ((u :: us).toArray.extract 1 (u :: us).toArray.size).toList = us := by simp
              rw [e]; exact hR.tail
            obtain ⟨s1, s2⟩ := setChan_ok hS (s' := s) (r' := r + 1) hc hb hobj hE
            refine ⟨_, _, _, hrun, .tuple #[goInt 0, .bool true, u], _, ⟨[], L, by simpa using s1, ?_, by simpa using s2, Cut.refl _ _ _⟩, fun fr cs es he => ?_⟩
            · have h0 := hR.head.mono (hS.wide s2) (fun _ _ h => h)
              have := Reps.cons (Rep.int (w := w.setChan b cap ((u :: us).toArray.extract 1 (u :: us).toArray.size) false s (r + 1) tm) (L := L) (β := β) .i64 0) (Reps.cons (Rep.bool true) (Reps.cons h0 Reps.nil))
              simpa [goInt] using Rep.tup _ _ this.1 this.2
            · have := Conc.step_lone_select_recv_buf he hobj (by simp)
              simpa using this
          · rename_i cap hc
            simp only [Option.some.injEq, Prod.mk.injEq] at h
            obtain ⟨rfl, rfl⟩ := h
            obtain ⟨vs, s, r, tm, hobj, hR⟩ := chan_obj hS hc hb
            have hvs : vs = #[] := by have := hR.1; simpa using this.symm
            subst hvs
            refine ⟨_, _, _, hrun, .tuple #[goInt (-1), .bool false, zv], w, ⟨[], L, by simpa using hS, ?_, by simpa using Step.refl _ _, Cut.refl _ _ _⟩, fun fr cs es he => ?_⟩
            · have := Reps.cons (Rep.int (w := w) (L := L) (β := β) .i64 (-1)) (Reps.cons (Rep.bool false) (Reps.cons (ofV_rep (w := w) (L := L) (β := β) hzo) Reps.nil))
              simpa [goInt] using Rep.tup _ _ this.1 this.2
            · exact Conc.step_lone_select_default he hobj
          · simp at h
        · simp at h
      · simp at h
    · simp at h
  · simp at h

theorem range_drop {n m : Nat} (h : n < m) : (List.range m).drop n = n :: (List.range m).drop (n + 1) := by
  rw [List.drop_eq_getElem_cons (by simpa using h)]; simp
theorem evalOps_ok (hT : OpsOK C T ∧ HopsOK C T) {cf : CallF} (hcf : CallOKs P C (callSub cf)) {ops : Array Oper} {w0 : World} {L0 : Nat → Prop} {β0 : List Nat} {m : Nat} {d : List Deferred} (hm0 : m ≤ β0.length) {frF : Fr} {HF : Heap} :
    ∀ (l : List Oper) (n : Nat), ops.toList.drop n = l → ∀ (fr : Fr) (H : Heap), evalOps P T cf ops.toList l fr H = some (frF, HF) → ∀ (a : Act) (w : World), Fin C w0 L0 β0 m d fr H a w → RegW P ops (Qn C w0 L0 β0 m d frF HF) ((List.range ops.size).drop n) a w
  | [], n, hl, fr, H, h, a, w, hf => by
    simp only [evalOps, Option.some.injEq, Prod.mk.injEq] at h
    obtain ⟨rfl, rfl⟩ := h
    have hn : ops.size ≤ n := by simpa using hl
    rw [List.drop_eq_nil_of_le (by simpa using hn)]
    exact reg_nil ⟨rfl, hf⟩
  | o :: r, n, hl, fr, H, h, a, w, hf => by
    have hn : n < ops.size := by
      rcases Nat.lt_or_ge n ops.size with h | h
      · exact h
      · rw [List.drop_eq_nil_of_le (by simpa using h)] at hl; simp at hl
    have ho : ops[n]? = some o := by
      have : (ops.toList.drop n)[0]? = some o := by rw [hl]; rfl
      simpa using this
    have hl' : ops.toList.drop (n + 1) = r := by
      have : (ops.toList.drop n).drop 1 = r := by rw [hl]; rfl
      simpa [List.drop_drop] using this
    rw [range_drop hn]
    have hf0 := hf
    obtain ⟨β, D, hcut, hS, hF, hst, hm, hd⟩ := hf
    have hT' := OpsOK.cut hT hcut
    have go : ∀ (v : AV) (H' : Heap), evalOps P T cf ops.toList r (putF fr o.dst v) H' = some (frF, HF) → ∀ (u : Value) (w' : World), (∃ βn D', Sim D' w' (β ++ βn) H' ∧ Rep w' D' (β ++ βn) v u ∧ Step w (LiveAt β H) w' (LiveAt (β ++ βn) H') ∧ Cut D w (LiveAt β H) D') →
        RegW P ops (Qn C w0 L0 β0 m d frF HF) ((List.range ops.size).drop (n + 1)) (a.put o.dst u) w' := by
      rintro v H' h' u w' ⟨βn, D', s1, s2, s3, s4⟩
      refine evalOps_ok hT hcf hm0 r (n + 1) hl' _ H' h' _ w' ⟨β ++ βn, D', hcut.trans hst s4, s1, ((hF.mono (hS.wide s3) (fun _ _ h => get_append_left h)).cut s4.hv s4.on).put _ s2, hst.trans s3, fun i hi => ?_, by rw [put_defers]; exact hd⟩
      have h1 := hm i hi
      have h2 : β0[i]? = some β0[i] := List.getElem?_eq_getElem (by omega)
      rw [h2] at h1 ⊢
      exact get_append_left h1
    simp only [evalOps] at h
    split at h
    · rename_i hw
      have hwe := wanted_eq hT'.1 hF ops o (guard_known hw)
      rw [hw] at hwe
      split at h
      · rename_i v H' hstep
        simp only [fV_eq, fput_eq, fH_eq] at h
        have h' : evalOps P T cf ops.toList r (putF fr o.dst v) H' = some (frF, HF) := by split at h <;> exact h
        unfold evalStepC at hstep
        split at hstep
        · rename_i x hx
          simp only [Option.some.injEq] at hstep; subst hstep
          exact reg_did ho hwe.symm (step_did hT' (hcf.cut hcut) hS hF o hx) (go v H' h')
        · exact reg_comm ho hwe.symm (commA_did hS hF o hstep) (go v H' h')
      · simp at h
    · rename_i hw
      split at h
      · simp at h
      · rename_i hng
        have hwe := wanted_eq hT'.1 hF ops o hng
        rw [hw] at hwe
        simp only [fput_eq] at h
        refine reg_skip ho hwe.symm (evalOps_ok hT hcf hm0 r (n + 1) hl' _ H h _ w ⟨β, D, hcut, hS, hF.put _ .undef, hst, hm, by rw [put_defers]; exact hd⟩)

def exitOf : Ex → Exit
  | .norm => .normal
  | .exit id => .exit id
  | .ret => .ret

def Qx (C : Env) (w0 : World) (L0 : Nat → Prop) (β0 : List Nat) (m : Nat) (d : List Deferred) (ex : Ex) (frF : Fr) (HF : Heap) : Exit → Act → World → Prop := fun e a w => e = exitOf ex ∧ Fin C w0 L0 β0 m d frF HF a w

theorem iter_ok {c : Code} {f : Fr → Heap → Option (Ex × Fr × Heap)} {w0 : World} {L0 : Nat → Prop} {β0 : List Nat} {m : Nat} {d : List Deferred}
    (hf : ∀ fr H ex frF HF, f fr H = some (ex, frF, HF) → ∀ a w, Fin C w0 L0 β0 m d fr H a w → c.wp P (Qx C w0 L0 β0 m d ex frF HF) a w) :
    ∀ (n : Nat) fr H ex frF HF, iter f n fr H = some (ex, frF, HF) → ∀ a w, Fin C w0 L0 β0 m d fr H a w → Code.rounds P c (Qx C w0 L0 β0 m d ex frF HF) n a w
  | 0, fr, H, ex, frF, HF, h, a, w, hF => by simp [iter] at h
  | n + 1, fr, H, ex, frF, HF, h, a, w, hF => by
    rw [rounds_succ]
    simp only [iter] at h
    split at h
    · rename_i fr' H' h1
      refine Code.wp_mono (fun e a' w' hq => ?_) (hf _ _ _ _ _ h1 a w hF)
      obtain ⟨rfl, hq⟩ := hq
      exact iter_ok hf n _ _ _ _ _ h a' w' hq
    · rename_i hne
      refine Code.wp_mono (fun e a' w' hq => ?_) (hf _ _ _ _ _ h a w hF)
      obtain ⟨rfl, hq⟩ := hq
      cases ex with
      | norm => exact absurd h (hne _ _)
      | exit id => exact ⟨rfl, hq⟩
      | ret => exact ⟨rfl, hq⟩

theorem evalCode_ok (hT : OpsOK C T ∧ HopsOK C T) {cf : CallF} (hcf : CallOKs P C (callSub cf)) (hmix : P.follows .mixedOrders = true) {N m : Nat} {w0 : World} {L0 : Nat → Prop} {β0 : List Nat} {d : List Deferred} (hm0 : m ≤ β0.length) :
    ∀ (c : Code) fr H ex frF HF, evalCode P T cf N m c fr H = some (ex, frF, HF) → ∀ a w, Fin C w0 L0 β0 m d fr H a w → c.wp P (Qx C w0 L0 β0 m d ex frF HF) a w
  | .skip, fr, H, ex, frF, HF, h, a, w, hF => by
    simp only [evalCode, Option.some.injEq, Prod.mk.injEq] at h
    obtain ⟨rfl, rfl, rfl⟩ := h
    exact wp_skip ⟨rfl, hF⟩
  | .label l, fr, H, ex, frF, HF, h, a, w, hF => by
    simp only [evalCode, Option.some.injEq, Prod.mk.injEq] at h
    obtain ⟨rfl, rfl, rfl⟩ := h
    exact wp_label ⟨rfl, hF⟩
  | .region id ops dr, fr, H, ex, frF, HF, h, a, w, hF => by
    simp only [evalCode] at h
    split at h
    · split at h
      · rename_i fr' H' h1
        simp only [Option.some.injEq, Prod.mk.injEq] at h
        obtain ⟨rfl, rfl, rfl⟩ := h
        exact Code.wp_mono (fun e a' w' hq => hq) (wp_region_reg (evalOps_ok hT hcf hm0 _ 0 rfl _ _ h1 a w hF))
      · simp at h
    · split at h
      · rename_i hs
        simp only [fSums_eq] at h
        split at h
        · rename_i fr' H' h1
          simp only [fF_eq, fH_eq, Option.some.injEq, Prod.mk.injEq] at h
          obtain ⟨rfl, rfl, rfl⟩ := h
          obtain ⟨β, D, hcut, hS, hFr, hst, hm, hd⟩ := hF
          obtain ⟨s1, s2⟩ := hS.same (w' := { w with drawn := w.drawn + 1 }) rfl rfl rfl rfl
          refine Code.wp_mono (fun e a' w' hq => hq) (wp_region_any hmix (wpI_any _ _ _ _ (evalAny_ok hT hcf hs hm0 _ _ _ _ _ _ h1 D _ a _ β [] hcut (LRel.zero ops) (fun j k hj => ?_) s1 (hFr.mono (hS.wide s2) (fun _ _ h => h)) (hst.trans s2) hm hd (fun e he => by simp at he))))
          rw [(LRel.zero ops).2 j, bitIn_zero] at hj; cases hj
        · simp at h
      · simp at h
  | .seq x y, fr, H, ex, frF, HF, h, a, w, hF => by
    simp only [evalCode] at h
    split at h
    · rename_i fr' H' h1
      refine wp_seq (Code.wp_mono (fun e a' w' hq => ?_) (evalCode_ok hT hcf hmix hm0 x _ _ _ _ _ h1 a w hF))
      obtain ⟨rfl, hq⟩ := hq
      exact evalCode_ok hT hcf hmix hm0 y _ _ _ _ _ h a' w' hq
    · rename_i hne
      refine wp_seq (Code.wp_mono (fun e a' w' hq => ?_) (evalCode_ok hT hcf hmix hm0 x _ _ _ _ _ h a w hF))
      obtain ⟨rfl, hq⟩ := hq
      cases ex with
      | norm => exact absurd h (hne _ _)
      | exit id => exact ⟨rfl, hq⟩
      | ret => exact ⟨rfl, hq⟩
  | .cond c x y, fr, H, ex, frF, HF, h, a, w, hF => by
    simp only [evalCode] at h
    have hev : ∀ b, truthT T (opd fr c) = some b → a.eval c = .bool b := fun b hb => by
      obtain ⟨β, D, hcut, hS, hFr, _⟩ := hF
      exact truthT_ok (w := w) (β := β) (OpsOK.cut hT hcut).1 hb (fun av hav => opd_rep hFr hav)
    split at h
    · rename_i hc; exact wp_cond_true (hev _ hc) (evalCode_ok hT hcf hmix hm0 x _ _ _ _ _ h a w hF)
    · rename_i hc; exact wp_cond_false (hev _ hc) (evalCode_ok hT hcf hmix hm0 y _ _ _ _ _ h a w hF)
    · simp at h
  | .block id c, fr, H, ex, frF, HF, h, a, w, hF => by
    simp only [evalCode] at h
    split at h
    · rename_i i fr' H' h1
      refine wp_block (Code.wp_mono (fun e a' w' hq => ?_) (evalCode_ok hT hcf hmix hm0 c _ _ _ _ _ h1 a w hF))
      obtain ⟨rfl, hq⟩ := hq
      split at h
      · rename_i hi
        simp only [Option.some.injEq, Prod.mk.injEq] at h
        obtain ⟨rfl, rfl, rfl⟩ := h
        simp only [exitOf, Exit.inBlock, hi, if_true]
        exact ⟨rfl, hq⟩
      · rename_i hi
        simp only [Option.some.injEq, Prod.mk.injEq] at h
        obtain ⟨rfl, rfl, rfl⟩ := h
        simp only [exitOf, Exit.inBlock, hi, if_false]
        exact ⟨rfl, hq⟩
    · rename_i hne
      refine wp_block (Code.wp_mono (fun e a' w' hq => ?_) (evalCode_ok hT hcf hmix hm0 c _ _ _ _ _ h a w hF))
      obtain ⟨rfl, hq⟩ := hq
      cases ex with
      | norm => exact ⟨rfl, hq⟩
      | exit id' => exact absurd h (hne _ _ _)
      | ret => exact ⟨rfl, hq⟩
  | .loop c, fr, H, ex, frF, HF, h, a, w, hF => by
    simp only [evalCode] at h
    exact wp_loop_rounds N (iter_ok (fun fr H ex frF HF h a w hF => evalCode_ok hT hcf hmix hm0 c fr H ex frF HF h a w hF) N _ _ _ _ _ h a w hF)
  | .exit id, fr, H, ex, frF, HF, h, a, w, hF => by
    simp only [evalCode, Option.some.injEq, Prod.mk.injEq] at h
    obtain ⟨rfl, rfl, rfl⟩ := h
    exact wp_exit ⟨rfl, hF⟩
  | .ret, fr, H, ex, frF, HF, h, a, w, hF => by
    simp only [evalCode, Option.some.injEq, Prod.mk.injEq] at h
    obtain ⟨rfl, rfl, rfl⟩ := h
    exact wp_ret ⟨rfl, hF⟩
  | .rangeFunc _ _ _ _, fr, H, ex, frF, HF, h, a, w, hF => by simp [evalCode] at h
  | .scope _, fr, H, ex, frF, HF, h, a, w, hF => by simp [evalCode] at h
  | .goto _, fr, H, ex, frF, HF, h, a, w, hF => by simp [evalCode] at h
  | .refuse _, fr, H, ex, frF, HF, h, a, w, hF => by simp [evalCode] at h

/-! ### Results -/
theorem resultA_ok {w : World} {β : List Nat} {H : Heap} (hS : Sim C w β H) {fr : Fr} {tmps : Array Value} (hF : FrRep w C β fr tmps) {x : ResultVar} {r : AV} (h : resultA P fr H x = some r) :
    ∃ v, (match x with | .tmp t => pure (tmps.getD t undef) | .cell a t => do loadVar t (← asAddr (tmps.getD a undef)) : Sem Value).run P w = .ok v w ∧ Rep w C β r v := by
  cases x with
  | tmp t =>
    simp only [resultA, Option.some.injEq] at h
    subst h
    exact ⟨_, rfl, hF.val t⟩
  | cell a t =>
    simp only [resultA] at h
    split at h
    · rename_i i off hx
      split at h
      · rename_i cs hrow
        have hr := hF.val a
        rw [hx] at hr
        generalize hg : tmps.getD a undef = va at hr
        cases hr with
        | ptr _ _ b hb =>
        have hca := (row_cells hS hrow hb).drop off
        rw [Nat.zero_add] at hca
        obtain ⟨u, hu, hrep⟩ := loadVar_run (P := P) hca h
        exact ⟨u, by simp only [hg, asAddr, Sem.run_bind, Sem.run_pure, Result.andThen_ok, hu], hrep⟩
      · simp at h
    · simp at h

theorem resultsL_ok {w : World} {β : List Nat} {H : Heap} (hS : Sim C w β H) {fr : Fr} {tmps : Array Value} (hF : FrRep w C β fr tmps) : ∀ {xs : List ResultVar} {rs : List AV}, resultsL P fr H xs = some rs →
    ∃ vs, (xs.mapM (fun (x : ResultVar) => (match x with | .tmp t => pure (tmps.getD t undef) | .cell a t => do loadVar t (← asAddr (tmps.getD a undef)) : Sem Value))).run P w = .ok vs w ∧ Reps w C β rs vs
  | [], rs, h => by simp [resultsL] at h; subst h; exact ⟨[], by simp, Reps.nil⟩
  | x :: xs, rs, h => by
    simp only [resultsL] at h
    split at h
    · rename_i r l h1 h2
      simp only [Option.some.injEq] at h
      subst h
      obtain ⟨v, g1, g2⟩ := resultA_ok (P := P) hS hF h1
      obtain ⟨vs, g3, g4⟩ := resultsL_ok hS hF h2
      exact ⟨v :: vs, by simp only [List.mapM_cons, Sem.run_bind, g1, Result.andThen_ok, g3, Sem.run_pure], Reps.cons g2 g4⟩
    · simp at h

theorem resultsA_ok {w : World} {β : List Nat} {H : Heap} (hS : Sim C w β H) {fr : Fr} {tmps : Array Value} (hF : FrRep w C β fr tmps) {fn : Func} {r : AV} (h : resultsA P fr H fn.results.toList = some r) :
    ∃ v, (results fn tmps).run P w = .ok v w ∧ Rep w C β r v := by
  unfold resultsA at h
  split at h
  · rename_i av h1
    simp only [Option.some.injEq] at h
    subst h
    obtain ⟨vs, g1, g2⟩ := resultsL_ok (P := P) hS hF h1
    match vs, g2 with
    | [v], g2 =>
      refine ⟨v, ?_, g2.head⟩
      unfold results
      rw [Array.mapM_eq_mapM_toList]
      simp only [Sem.run_bind, map_eq_pure_bind, bind_assoc, pure_bind]
      erw [g1]
      simp
    | [], g2 => have := g2.1; simp at this
    | _ :: _ :: _, g2 => have := g2.1; simp at this
  · rename_i l hne h1
    simp only [Option.some.injEq] at h
    subst h
    obtain ⟨vs, g1, g2⟩ := resultsL_ok (P := P) hS hF h1
    refine ⟨.tuple vs.toArray, ?_, .tup _ _ g2.1 g2.2⟩
    have hl : vs.length ≠ 1 := fun e => by
      have := g2.1
      rw [e] at this
      match l, this with
      | [x], _ => exact hne x rfl
    unfold results
    rw [Array.mapM_eq_mapM_toList]
    simp only [Sem.run_bind, map_eq_pure_bind, bind_assoc, pure_bind]
    erw [g1]
    simp [hl]
  · simp at h

/-! ### Bodies -/
theorem chunks_small (l : List AV) (t : Nat) (hl : l.length < 8) (hc : chunks l = [l]) : fget (chunks l) t = l.getD t .undef ∧ (inb (chunks l) t ↔ t < l.length) := by
  have ed : ∀ n, Nat.div n 8 = n / 8 := fun _ => rfl
  have em : ∀ n, Nat.mod n 8 = n % 8 := fun _ => rfl
  rw [hc]
  simp only [fget, inb, ed, em]
  rcases Nat.lt_or_ge t 8 with hlt | hge
  · have h0 : t / 8 = 0 := by omega
    have h1 : t % 8 = t := by omega
    rw [h0, h1]; simp
  · have h0 : t / 8 = ((t / 8) - 1) + 1 := by omega
    rw [h0]
    simp only [List.getD_cons_succ, List.getD_nil, List.length_nil]
    refine ⟨?_, by omega⟩
    simp [List.getD_eq_getElem?_getD, List.getElem?_eq_none (show l.length ≤ t by omega)]

theorem chunks_get : ∀ (l : List AV) (t : Nat), fget (chunks l) t = l.getD t .undef ∧ (inb (chunks l) t ↔ t < l.length)
  | a :: b :: c :: d :: e :: f :: g :: h :: r, t => by
    obtain ⟨ih1, ih2⟩ := chunks_get r (t - 8)
    have ed : ∀ n, Nat.div n 8 = n / 8 := fun _ => rfl
    have em : ∀ n, Nat.mod n 8 = n % 8 := fun _ => rfl
    simp only [fget, inb, ed, em, chunks] at ih1 ih2 ⊢
    rcases Nat.lt_or_ge t 8 with hlt | hge
    · have h0 : t / 8 = 0 := by omega
      have h1 : t % 8 = t := by omega
      rw [h0, h1]
      refine ⟨?_, by simp; omega⟩
      simp only [List.getD_cons_zero]
      simp only [List.getD_eq_getElem?_getD]
      have hsplit : (a :: b :: c :: d :: e :: f :: g :: h :: r) = [a, b, c, d, e, f, g, h] ++ r := rfl
      rw [hsplit, List.getElem?_append_left (by simpa using hlt)]
    · have h0 : t / 8 = (t - 8) / 8 + 1 := by omega
      have h1 : t % 8 = (t - 8) % 8 := by omega
      rw [h0, h1]
      simp only [List.getD_cons_succ]
      refine ⟨?_, ?_⟩
      · rw [ih1]
        simp only [List.getD_eq_getElem?_getD]
        have hsplit : (a :: b :: c :: d :: e :: f :: g :: h :: r) = [a, b, c, d, e, f, g, h] ++ r := rfl
        rw [hsplit, List.getElem?_append_right (by simpa using hge)]; rfl
      · rw [ih2]; simp; omega
  | [], t => by simp [chunks, fget, inb]
  | [a], t => chunks_small [a] t (by simp) rfl
  | [a, b], t => chunks_small [a, b] t (by simp) rfl
  | [a, b, c], t => chunks_small [a, b, c] t (by simp) rfl
  | [a, b, c, d], t => chunks_small [a, b, c, d] t (by simp) rfl
  | [a, b, c, d, e], t => chunks_small [a, b, c, d, e] t (by simp) rfl
  | [a, b, c, d, e, f], t => chunks_small [a, b, c, d, e, f] t (by simp) rfl
  | [a, b, c, d, e, f, g], t => chunks_small [a, b, c, d, e, f, g] t (by simp) rfl
theorem entry_rep {w : World} {β : List Nat} {args : List AV} {vs : List Value} (h : Reps w C β args vs) (n : Nat) :
    FrRep w C β (chunks (args ++ List.replicate (n - args.length) .undef)) (vs.toArray ++ Array.replicate (n - vs.toArray.size) undef) := by
  have hl := h.1
  refine ⟨fun t => ?_, fun t => ?_⟩
  · rw [(chunks_get _ t).1]
    rcases Nat.lt_or_ge t args.length with hlt | hge
    · have e1 : (args ++ List.replicate (n - args.length) AV.undef).getD t .undef = args[t] := by simp [List.getD_eq_getElem?_getD, List.getElem?_append_left hlt, hlt]
      have hlt' : t < vs.length := by omega
      have e2 : (vs.toArray ++ Array.replicate (n - vs.toArray.size) undef).getD t undef = vs[t] := by
        rw [Array.getD_eq_getD_getElem?, Array.getElem?_append_left (by simpa using hlt')]; simp [hlt']
      rw [e1, e2]
      exact h.2 t _ _ (List.getElem?_eq_getElem hlt) (List.getElem?_eq_getElem hlt')
    · have e1 : (args ++ List.replicate (n - args.length) AV.undef).getD t .undef = .undef := by
        rw [List.getD_eq_getElem?_getD, List.getElem?_append_right hge, List.getElem?_replicate]
        split <;> rfl
      have e2 : (vs.toArray ++ Array.replicate (n - vs.toArray.size) undef).getD t undef = undef := by
        rw [Array.getD_eq_getD_getElem?, Array.getElem?_append_right (by simp; omega), Array.getElem?_replicate]
        split <;> rfl
      rw [e1, e2]; exact .undef
  · rw [(chunks_get _ t).2]
    simp [hl]

theorem prefix_eq {β β' : List Nat} {m : Nat} (hm : β.length = m) (h : ∀ i, i < m → β'[i]? = β[i]?) : β' = β ++ β'.drop m := by
  apply List.ext_getElem?
  intro i
  rcases Nat.lt_or_ge i m with hi | hi
  · rw [List.getElem?_append_left (by omega)]; exact h i hi
  · rw [List.getElem?_append_right (by omega), List.getElem?_drop]; congr 1; omega

theorem runBody_ok (hT : OpsOK C T ∧ HopsOK C T) {cf : CallF} (hcf : CallOKs P C (callSub cf)) (hmix : P.follows .mixedOrders = true) {N : Nat} {f : FuncId} {fn : Func} (hf : P.funcs[f]? = some fn) {args : List AV} {H : Heap} {r : AV} {H' : Heap} (h : runBody P T cf N fn args H = some (r, H'))
    {w : World} {β : List Nat} {vs : List Value} (hS : Sim C w β H) (hR : Reps w C β args vs) :
    Calls P f vs.toArray w fun e w' => ∃ v βn D, e = .returned v ∧ Sim D w' (β ++ βn) H' ∧ Rep w' D (β ++ βn) r v ∧ Step w (LiveAt β H) w' (LiveAt (β ++ βn) H') ∧ Cut C w (LiveAt β H) D := by
  unfold runBody at h
  split at h
  · rename_i c hb
    simp only [fF_eq, fH_eq] at h
    have hfin : Fin C w (LiveAt β H) β H.length [] (chunks (args ++ List.replicate (fn.ntmps - args.length) .undef)) H { tmps := vs.toArray ++ Array.replicate (fn.ntmps - vs.toArray.size) undef, defers := [] } w :=
      ⟨β, C, Cut.refl _ _ _, hS, entry_rep hR fn.ntmps, Step.refl _ _, fun _ _ => rfl, rfl⟩
    have main : ∀ (ex : Ex) (frF : Fr) (HF : Heap), (ex = .norm ∨ ex = .ret) → evalCode P T cf N H.length c (chunks (args ++ List.replicate (fn.ntmps - args.length) .undef)) H = some (ex, frF, HF) →
        (match resultsA P frF HF fn.results.toList with | some r => fV r fun r => gcRet H.length r HF | none => none) = some (r, H') →
        Calls P f vs.toArray w fun e w' => ∃ v βn D, e = .returned v ∧ Sim D w' (β ++ βn) H' ∧ Rep w' D (β ++ βn) r v ∧ Step w (LiveAt β H) w' (LiveAt (β ++ βn) H') ∧ Cut C w (LiveAt β H) D := by
      intro ex frF HF hex hc hr
      split at hr
      · rename_i r0 hr0
        simp only [fV_eq] at hr
        refine calls_of_wp hf hb (Code.wp_mono (fun e a' w' hq => ?_) (evalCode_ok hT hcf hmix (by rw [hS.len]; exact Nat.le_refl _) c _ _ _ _ _ hc _ w hfin))
        obtain ⟨rfl, β1, D, s0, s1, s2, s3, s4, s5⟩ := hq
        obtain ⟨v, g1, g2⟩ := resultsA_ok (P := P) s1 s2 hr0
        obtain ⟨β', t1, t2, t3, t4⟩ := gcRet_ok s1 g2 hr
        have he := prefix_eq (β := β) (β' := β') hS.len (fun i hi => (t4 i hi).trans (s4 i hi))
        have hpost : a'.defers = [] ∧ ∃ v, (results fn a'.tmps).run P w' = .ok v w' ∧ ∃ v' βn D, Ending.returned v = .returned v' ∧ Sim D w' (β ++ βn) H' ∧ Rep w' D (β ++ βn) r v' ∧ Step w (LiveAt β H) w' (LiveAt (β ++ βn) H') ∧ Cut C w (LiveAt β H) D :=
          ⟨s5, v, g1, v, β'.drop H.length, D, rfl, by rw [← he]; exact t1, by rw [← he]; exact t2, by rw [← he]; exact s3.trans t3, s0⟩
        rcases hex with rfl | rfl <;> exact hpost
      · simp at hr
    split at h
    · rename_i frF HF hc; exact main .norm frF HF (.inl rfl) hc h
    · rename_i frF HF hc; exact main .ret frF HF (.inr rfl) hc h
    · simp at h
  · simp at h

theorem full_ok' (hmix : P.follows .mixedOrders = true) {ok : FuncId → Bool} {ext : FuncId → Option (List AV → Heap → Option (AV × Heap))} (hext : ∀ f s, ext f = some s → SpecOK P f s)
    (hok : ∀ f, ok f = true → ∀ (args : Array Value) (w : World), (callFunc f args).run P w = .ok (.enter f args) w) : ∀ n (C : Env), TabOK P C T → CallOK P C (full P T ok ext n)
  | 0, C, hT => by intro f args H r H' h; simp [full] at h
  | n + 1, C, hT => by
    intro f args H r H' h w β vs hS hR
    simp only [full] at h
    split at h
    · rename_i s hs
      exact hext f s hs args H r H' h C w β vs hS hR
    · split at h
      · rename_i hokf
        split at h
        · rename_i fn hf
          exact ⟨hok f hokf _ w, runBody_ok hT.1 (fun on => callSub_ok (tabCall_ok (hT.on (D := ⟨on, C.hv, C.ho⟩) rfl rfl) (full_ok' hmix hext hok n _ (hT.on rfl rfl)))) hmix hf h hS hR⟩
        · simp at h
      · simp at h
theorem full_ok (hmix : P.follows .mixedOrders = true) (hT : TabOK P C T) {ok : FuncId → Bool} {ext : FuncId → Option (List AV → Heap → Option (AV × Heap))} (hext : ∀ f s, ext f = some s → SpecOK P f s)
    (hok : ∀ f, ok f = true → ∀ (args : Array Value) (w : World), (callFunc f args).run P w = .ok (.enter f args) w) (n : Nat) : CallOK P C (full P T ok ext n) := full_ok' hmix hext hok n C hT

end Go.Proofs.BoatV
