/- Code run from one loop's head to the next: where it stands, what is still to do. -/
import Derived.Test.YthfdbllpofiabaaDoorV16
namespace Go.Proofs.BoatV
open Go
set_option linter.unusedVariables false
set_option linter.unusedSimpArgs false
variable {P : Program}

/-! ### At a loop's head -/
def loopW (P : Program) (c : Code) (Q : Exit → Act → World → Prop) (a : Act) (w : World) : Prop :=
  ∀ (b : Frame) (k : List Item) (cs : List Frame), ∃ e a' w', Q e a' w' ∧ Arrives P (lone (b.at a (.code c :: .inLoop c :: k)) cs w) b k cs e a' w'

theorem loopW_round {c : Code} {Q : Exit → Act → World → Prop} {a : Act} {w : World} (h : c.wp P (Exit.then (loopW P c Q) Q) a w) : loopW P c Q a w := by
  intro b k cs
  obtain ⟨e, a₁, w₁, hq, harr⟩ := h b (.inLoop c :: k) cs
  cases e with
  | normal =>
    obtain ⟨e₂, a₂, w₂, hq₂, harr₂⟩ := hq b k cs
    exact ⟨e₂, a₂, w₂, hq₂, .of_steps (Steps.trans harr (.one step_inLoop)) harr₂⟩
  | exit id => exact ⟨_, a₁, w₁, hq, .pass (x := .inLoop c) rfl (fun _ _ => .inl (by simp)) harr⟩
  | goto l => exact ⟨_, a₁, w₁, hq, .pass (x := .inLoop c) rfl (fun _ _ => .inl (by simp)) harr⟩
  | ret => exact ⟨_, a₁, w₁, hq, .pass (x := .inLoop c) rfl (fun _ _ => .inl (by simp)) harr⟩
  | panic ch => exact ⟨_, a₁, w₁, hq, .pass (x := .inLoop c) rfl (fun _ _ => .inl (by simp)) harr⟩
  | outgrown => exact ⟨_, a₁, w₁, hq, .pass (x := .inLoop c) rfl (fun _ _ => .inl (by simp)) harr⟩
theorem wp_loopW {c : Code} {Q : Exit → Act → World → Prop} {a : Act} {w : World} (h : loopW P c Q a w) : (Code.loop c).wp P Q a w := by
  intro b k cs
  obtain ⟨e, a', w', hq, harr⟩ := h b k cs
  exact ⟨e, a', w', hq, .of_steps (.one step_loop) harr⟩

/-! ### Places in a body -/
abbrev Path := List Nat
inductive Ctx where
  | seqK (b : Code) (p : Path)
  | blockK (id : Nat)
  | loopK (c : Code) (p : Path)

def ctxQ (P : Program) : List Ctx → (Exit → Act → World → Prop) → Exit → Act → World → Prop
  | [], Q => Q
  | .seqK b _ :: K, Q => Exit.then (b.wp P (ctxQ P K Q)) (ctxQ P K Q)
  | .blockK id :: K, Q => Exit.inBlock id (ctxQ P K Q)
  | .loopK c _ :: K, Q => Exit.then (loopW P c (ctxQ P K Q)) (ctxQ P K Q)

/-- The code at a place (the newest step first), and what comes behind it. -/
def codeAt (body : Code) : Path → Option (Code × List Ctx)
  | [] => some (body, [])
  | d :: p => match codeAt body p with
    | some (.seq a b, K) => if d = 0 then some (a, .seqK b (1 :: p) :: K) else some (b, K)
    | some (.block id c, K) => some (c, .blockK id :: K)
    | some (.loop c, K) => some (c, .loopK c p :: K)
    | some (.cond _ a b, K) => if d = 0 then some (a, K) else some (b, K)
    | _ => none

def CtxOK (body : Code) : List Ctx → Prop
  | [] => True
  | .seqK b p :: K => (∃ d q, p = d :: q ∧ d ≠ 0 ∧ ∃ a, codeAt body q = some (.seq a b, K)) ∧ CtxOK body K
  | .blockK _ :: K => CtxOK body K
  | .loopK c p :: K => codeAt body p = some (.loop c, K) ∧ CtxOK body K

theorem codeAt_ctx {body : Code} : ∀ {p : Path} {c : Code} {K : List Ctx}, codeAt body p = some (c, K) → CtxOK body K
  | [], c, K, h => by simp [codeAt] at h; obtain ⟨rfl, rfl⟩ := h; trivial
  | d :: p, c, K, h => by
    simp only [codeAt] at h
    split at h
    · rename_i a b K' hp
      have ih := codeAt_ctx hp
      split at h
      · simp at h; obtain ⟨rfl, rfl⟩ := h; exact ⟨⟨1, p, rfl, by simp, _, hp⟩, ih⟩
      · simp at h; obtain ⟨rfl, rfl⟩ := h; exact ih
    · rename_i id c' K' hp
      simp at h; obtain ⟨rfl, rfl⟩ := h; exact (show CtxOK body K' from codeAt_ctx hp)
    · rename_i c' K' hp
      simp at h; obtain ⟨rfl, rfl⟩ := h; exact ⟨hp, codeAt_ctx hp⟩
    · rename_i v a b K' hp
      have ih := codeAt_ctx hp
      split at h <;> (simp at h; obtain ⟨rfl, rfl⟩ := h; exact ih)
    · simp at h
theorem CtxOK.seq {body b : Code} {p : Path} {K : List Ctx} (h : CtxOK body (.seqK b p :: K)) : codeAt body p = some (b, K) := by
  obtain ⟨⟨d, q, rfl, hd, a, hq⟩, _⟩ := h
  simp [codeAt, hq, hd]

/-! ### The run -/
inductive Out where
  | head (p : Path) (fr : Fr) (H : Heap)
  | done (ex : Ex) (fr : Fr) (H : Heap)

def beqP : Path → Path → Bool
  | [], [] => true
  | a :: r, b :: s => Nat.beq a b && beqP r s
  | _, _ => false
theorem beqP_eq : ∀ {a b : Path}, beqP a b = true → a = b
  | [], [], _ => rfl
  | [], _ :: _, h => by simp [beqP] at h
  | _ :: _, [], h => by simp [beqP] at h
  | a :: r, b :: s, h => by
    simp only [beqP, Bool.and_eq_true] at h
    rw [Nat.eq_of_beq_eq_true h.1, beqP_eq h.2]
def cutAt (p : Path) : List Path → Bool
  | [] => false
  | q :: r => match beqP p q with
    | true => true
    | false => cutAt p r

def run (P : Program) (T : Tab) (cf : CallF) (N m : Nat) (cuts : List Path) : Nat → Option (Code × Path) → Ex → List Ctx → Fr → Heap → Option Out
  | 0, _, _, _, _, _ => none
  | n + 1, some (c, p), ex, K, fr, H => match c with
    | .seq a b => run P T cf N m cuts n (some (a, 0 :: p)) .norm (.seqK b (1 :: p) :: K) fr H
    | .block id c => run P T cf N m cuts n (some (c, 0 :: p)) .norm (.blockK id :: K) fr H
    | .cond v a b => match truthT T (opd fr v) with
      | some true => run P T cf N m cuts n (some (a, 0 :: p)) .norm K fr H
      | some false => run P T cf N m cuts n (some (b, 1 :: p)) .norm K fr H
      | none => none
    | .loop c => match cutAt p cuts with
      | true => some (.head p fr H)
      | false => match evalCode P T cf N m (.loop c) fr H with
        | some (ex, fr', H') => run P T cf N m cuts n none ex K fr' H'
        | none => none
    | c => match evalCode P T cf N m c fr H with
      | some (ex, fr', H') => run P T cf N m cuts n none ex K fr' H'
      | none => none
  | n + 1, none, ex, K, fr, H => match K with
    | [] => some (.done ex fr H)
    | .seqK b p :: K => match ex with
      | .norm => run P T cf N m cuts n (some (b, p)) .norm K fr H
      | ex => run P T cf N m cuts n none ex K fr H
    | .blockK id :: K => match ex with
      | .exit i => if i = id then run P T cf N m cuts n none .norm K fr H else run P T cf N m cuts n none (.exit i) K fr H
      | ex => run P T cf N m cuts n none ex K fr H
    | .loopK c p :: K => match ex with
      | .norm => some (.head p fr H)
      | ex => run P T cf N m cuts n none ex K fr H

def HeadW (P : Program) (body : Code) (Q : Exit → Act → World → Prop) (p : Path) (a : Act) (w : World) : Prop :=
  ∀ c K, codeAt body p = some (.loop c, K) → loopW P c (ctxQ P K Q) a w

section ok
variable {C : Env} {T : Tab}
def OutOK (P : Program) (C : Env) (w0 : World) (L0 : Nat → Prop) (β0 : List Nat) (m : Nat) (d : List Deferred) (body : Code) (Q : Exit → Act → World → Prop) : Out → Prop
  | .head p fr H => ∀ a w, Fin C w0 L0 β0 m d fr H a w → HeadW P body Q p a w
  | .done ex fr H => ∀ a w, Fin C w0 L0 β0 m d fr H a w → Q (exitOf ex) a w

theorem run_ok (hT : OpsOK C T ∧ HopsOK C T) {cf : CallF} (hcf : CallOKs P C (callSub cf)) (hmix : P.follows .mixedOrders = true) {N m : Nat} {w0 : World} {L0 : Nat → Prop} {β0 : List Nat} {d : List Deferred} (hm0 : m ≤ β0.length)
    {cuts : List Path} {body : Code} {Q : Exit → Act → World → Prop} {o : Out} (ho : OutOK P C w0 L0 β0 m d body Q o) :
    ∀ (n : Nat), (∀ (c : Code) (p : Path) (ex : Ex) (K : List Ctx) (fr : Fr) (H : Heap), run P T cf N m cuts n (some (c, p)) ex K fr H = some o → codeAt body p = some (c, K) → ∀ a w, Fin C w0 L0 β0 m d fr H a w → c.wp P (ctxQ P K Q) a w) ∧
      (∀ (ex : Ex) (K : List Ctx) (fr : Fr) (H : Heap), run P T cf N m cuts n none ex K fr H = some o → CtxOK body K → ∀ a w, Fin C w0 L0 β0 m d fr H a w → ctxQ P K Q (exitOf ex) a w) := by
  intro n
  induction n with
  | zero => exact ⟨fun c p ex K fr H h => by simp [run] at h, fun ex K fr H h => by simp [run] at h⟩
  | succ n ih =>
    obtain ⟨ih1, ih2⟩ := ih
    have atom : ∀ (c : Code) (p : Path) (K : List Ctx) (fr : Fr) (H : Heap) (ex' : Ex) (fr' : Fr) (H' : Heap), evalCode P T cf N m c fr H = some (ex', fr', H') → run P T cf N m cuts n none ex' K fr' H' = some o →
        codeAt body p = some (c, K) → ∀ a w, Fin C w0 L0 β0 m d fr H a w → c.wp P (ctxQ P K Q) a w := by
      intro c p K fr H ex' fr' H' he hr hp a w hF
      refine Code.wp_mono (fun e a' w' hq => ?_) (evalCode_ok hT hcf hmix hm0 c _ _ _ _ _ he a w hF)
      obtain ⟨rfl, hq⟩ := hq
      exact ih2 _ _ _ _ hr (codeAt_ctx hp) a' w' hq
    refine ⟨fun c p ex K fr H h hp a w hF => ?_, fun ex K fr H h hK a w hF => ?_⟩
    · cases c with
      | seq x y =>
        simp only [run] at h
        exact wp_seq (ih1 _ _ _ _ _ _ h (by simp [codeAt, hp]) a w hF)
      | block id x =>
        simp only [run] at h
        exact wp_block (ih1 _ _ _ _ _ _ h (by simp [codeAt, hp]) a w hF)
      | cond v x y =>
        simp only [run] at h
        have hev : ∀ b, truthT T (opd fr v) = some b → a.eval v = .bool b := fun b hb => by
          obtain ⟨β, D, hcut, hS, hFr, _⟩ := hF
          exact truthT_ok (w := w) (β := β) (OpsOK.cut hT hcut).1 hb (fun av hav => opd_rep hFr hav)
        split at h
        · rename_i hc; exact wp_cond_true (hev _ hc) (ih1 _ _ _ _ _ _ h (by simp [codeAt, hp]) a w hF)
        · rename_i hc; exact wp_cond_false (hev _ hc) (ih1 _ _ _ _ _ _ h (by simp [codeAt, hp]) a w hF)
        · simp at h
      | loop x =>
        simp only [run] at h
        split at h
        · simp at h; subst h
          exact wp_loopW (ho a w hF _ _ hp)
        · split at h
          · rename_i ex' fr' H' he; exact atom _ p K fr H _ _ _ he h hp a w hF
          · simp at h
      | _ =>
        simp only [run] at h
        split at h
        · rename_i ex' fr' H' he; exact atom _ p K fr H _ _ _ he h hp a w hF
        · simp at h
    · cases K with
      | nil =>
        simp only [run, Option.some.injEq] at h; subst h
        exact ho a w hF
      | cons k K =>
        cases k with
        | seqK b p =>
          have hc := hK.seq
          cases ex with
          | norm =>
            simp only [run] at h
            exact ih1 _ _ _ _ _ _ h hc a w hF
          | exit id => simp only [run] at h; exact ih2 _ _ _ _ h hK.2 a w hF
          | ret => simp only [run] at h; exact ih2 _ _ _ _ h hK.2 a w hF
        | blockK id =>
          cases ex with
          | norm => simp only [run] at h; exact ih2 _ _ _ _ h hK a w hF
          | exit i =>
            simp only [run] at h
            split at h
            · rename_i hi
              have := ih2 _ _ _ _ h hK a w hF
              simp only [ctxQ, exitOf, Exit.inBlock, hi, if_true]; exact this
            · rename_i hi
              have := ih2 _ _ _ _ h hK a w hF
              simp only [ctxQ, exitOf, Exit.inBlock, hi, if_false]; exact this
          | ret => simp only [run] at h; exact ih2 _ _ _ _ h hK a w hF
        | loopK c p =>
          cases ex with
          | norm =>
            simp only [run, Option.some.injEq] at h; subst h
            exact ho a w hF c K hK.1
          | exit id => simp only [run] at h; exact ih2 _ _ _ _ h hK.2 a w hF
          | ret => simp only [run] at h; exact ih2 _ _ _ _ h hK.2 a w hF
end ok

end Go.Proofs.BoatV
