/- A region that draws its order. -/
import Derived.Test.YthfdbllpofiabaaDoorV13
namespace Go.Proofs.BoatV
open Go
set_option linter.unusedVariables false
set_option linter.unusedSimpArgs false
variable {P : Program} {C : Env} {ops : Array Oper} {T : Tab}

/-- What the evaluator's state stands for, from a start 'w0' on. -/
def Fin (C : Env) (w0 : World) (L0 : Nat → Prop) (β0 : List Nat) (m : Nat) (d : List Deferred) (fr : Fr) (H : Heap) (a : Act) (w : World) : Prop :=
  ∃ β D, Cut C w0 L0 D ∧ Sim D w β H ∧ FrRep w D β fr a.tmps ∧ Step w0 L0 w (LiveAt β H) ∧ (∀ i, i < m → β[i]? = β0[i]?) ∧ a.defers = d

def WRel (P : Program) (C : Env) (ops : Array Oper) (w : World) (β : List Nat) (a : Act) (Lm : Nat) (x : WE) (e : Ent) : Prop :=
  ∃ o u, ops[x.k]? = some o ∧ cls o.op = 1 ∧ x.v.exact = true ∧ Rep w C β x.v u ∧ x.lk = (sumOf ops.toList o).looks ∧ (∀ k, e.M k ↔ bitIn x.mask k = true) ∧
    (∀ k, bitIn x.mask k = true → bitIn Lm k = true) ∧ (∀ w', e.S w' ↔ (execOp a.eval o).run P w' = .ok (.value u) w') ∧ e.S w

theorem apartW_spec {dst : Nat} : ∀ {W : List WE}, apartW dst W = true → ∀ x ∈ W, meet dst x.lk = false
  | [], _, x, hx => by simp at hx
  | e :: W, h, x, hx => by
    simp only [apartW, Bool.and_eq_true, Bool.not_eq_true'] at h
    rcases List.mem_cons.1 hx with rfl | hx
    · exact h.1
    · exact apartW_spec h.2 x hx

theorem aheadW_mem {s : Sum} {j : Nat} : ∀ {W : List WE} {x : WE}, x ∈ W → (⟨x.k, x.v, if meet s.deps x.mask then addBit x.mask j else x.mask, x.lk⟩ : WE) ∈ aheadW s j W
  | [], x, h => by simp at h
  | ⟨k, v, m, lk⟩ :: W, x, h => by
    simp only [aheadW]
    rcases List.mem_cons.1 h with rfl | h
    · exact List.mem_cons_self
    · exact List.mem_cons_of_mem _ (aheadW_mem h)

theorem keepW_mem {s : Sum} : ∀ {W : List WE} {x : WE}, x ∈ W → meet s.deps x.mask = false → x ∈ keepW s W
  | [], x, h, _ => by simp at h
  | e :: W, x, h, hm => by
    simp only [keepW]
    rcases List.mem_cons.1 h with rfl | h
    · rw [if_neg (by simp [hm])]; exact List.mem_cons_self
    · split
      · exact keepW_mem h hm
      · exact List.mem_cons_of_mem _ (keepW_mem h hm)

theorem holdW_spec {l : List Oper} {dst : Nat} {fr : Fr} {H : Heap} : ∀ {W : List WE}, holdW P T l dst fr H W = true → ∀ x ∈ W, meet dst x.lk = false ∧ ∃ o H', l[x.k]? = some o ∧ evalOp P T fr H o.op = some (x.v, H')
  | [], _, x, hx => by simp at hx
  | ⟨k, v, m, lk⟩ :: W, h, x, hx => by
    simp only [holdW, Bool.and_eq_true, Bool.not_eq_true'] at h
    rcases List.mem_cons.1 hx with rfl | hx
    · refine ⟨h.1.1, ?_⟩
      have h2 := h.1.2
      split at h2
      · rename_i o ho
        split at h2
        · rename_i u H' he
          have := AV.beq_eq _ _ h2
          subst this
          exact ⟨o, H', ho, he⟩
        · simp at h2
      · simp at h2
    · exact holdW_spec h.2 x hx

theorem exec_put {o ok : Oper} (hs : Region.noSelect ops = true) {k : Nat} (hk : ops[k]? = some ok) {lk : Nat} (hlk : lk = (sumOf ops.toList ok).looks) (hm : meet (sumOf ops.toList o).dst lk = false) (a : Act) (u : Value) :
    execOp (a.put o.dst u).eval ok = execOp a.eval ok :=
  execOp_put (ops := ops) ok (fun cs b => Region.noSelect_spec hs k ok cs b hk) a o.dst u (fun d hd hmem => by
    have := meet_dst hm hd
    rw [hlk, looks_mem.2 hmem] at this; cases this)

theorem beqF_eq {f g : Fr} (h : beqLL f g = true) : f = g := beqLL_eq _ _ h

theorem sameSt_eq {x : Option (Fr × Heap)} {f : Fr} {h : Heap} (hs : sameSt x (some (f, h)) = true) : x = some (f, h) := by
  unfold sameSt at hs
  split at hs
  · rename_i f' h' g' k' e
    simp only [Option.some.injEq, Prod.mk.injEq] at e
    obtain ⟨rfl, rfl⟩ := e
    simp only [Bool.and_eq_true] at hs
    rw [beqLL_eq _ _ hs.1, beqH_eq _ _ hs.2]
  · simp at hs

theorem fin_of {w0 : World} {L0 : Nat → Prop} {β0 : List Nat} {m : Nat} {d : List Deferred} {br : Bool} {fr frF : Fr} {H HF : Heap} {a : Act} {w : World} {β : List Nat} (h : (if br then canon m fr H else some (fr, H)) = some (frF, HF))
    {D : Env} (hcut : Cut C w0 L0 D) (hS : Sim D w β H) (hF : FrRep w D β fr a.tmps) (hst : Step w0 L0 w (LiveAt β H)) (hm : ∀ i, i < m → β[i]? = β0[i]?) (hd : a.defers = d) : Fin C w0 L0 β0 m d frF HF a w := by
  cases br with
  | false =>
    simp at h; obtain ⟨rfl, rfl⟩ := h
    exact ⟨β, D, hcut, hS, hF, hst, hm, hd⟩
  | true =>
    simp at h
    obtain ⟨β', h1, h2, h3, h4⟩ := canon_ok hS hF h
    exact ⟨β', D, hcut, h1, h2, hst.trans h3, fun i hi => (h4 i hi).trans (hm i hi), hd⟩

theorem put_defers (a : Act) (dst : Option Tmp) (u : Value) : (a.put dst u).defers = a.defers := by cases dst <;> rfl

def Qn (C : Env) (w0 : World) (L0 : Nat → Prop) (β0 : List Nat) (m : Nat) (d : List Deferred) (frF : Fr) (HF : Heap) : Exit → Act → World → Prop := fun e a w => e = .normal ∧ Fin C w0 L0 β0 m d frF HF a w

theorem evalAny_ok (hTT0 : OpsOK C T ∧ HopsOK C T) {cf : CallF} (hcf0 : CallOKs P C (callSub cf)) (hs : Region.noSelect ops = true) {w0 : World} {L0 : Nat → Prop} {β0 : List Nat} {m : Nat} {d : List Deferred} (hm0 : m ≤ β0.length) {frF : Fr} {HF : Heap} :
    ∀ (n : Nat) (br : Bool) (Lm : Nat) (fr : Fr) (H : Heap) (W : List WE), evalAny P T cf ops.toList (ops.toList.map (sumOf ops.toList)) m n br Lm fr H W = some (frF, HF) →
    ∀ (D : Env) (l : Array Bool) (a : Act) (w : World) (β : List Nat) (Es : List Ent), Cut C w0 L0 D → LRel ops Lm l → Closed ops l → Sim D w β H → FrRep w D β fr a.tmps → Step w0 L0 w (LiveAt β H) → (∀ i, i < m → β[i]? = β0[i]?) → a.defers = d →
      (∀ e ∈ Es, ∃ x ∈ W, WRel P D ops w β a Lm x e) → wpI P ops (Qn C w0 L0 β0 m d frF HF) Es n l a w := by
  have hQ : ∀ (dst : Option Tmp) (u : Value) c a w, Qn C w0 L0 β0 m d frF HF (.panic c) (a.put dst u) w → Qn C w0 L0 β0 m d frF HF (.panic c) a w := fun _ _ c a w h => by cases h.1
  have hnil : ∀ {Lm : Nat} {l : Array Bool}, LRel ops Lm l → readyM Lm 0 (ops.toList.map (sumOf ops.toList)) = [] → Region.ready .any ops l = [] := fun hl hr => by
    rw [List.eq_nil_iff_forall_not_mem]
    intro j hj
    rw [← ready_iff hl, hr] at hj
    simp at hj
  have hsums : ∀ {j : Nat} {o : Oper} {s : Sum}, ops.toList[j]? = some o → (ops.toList.map (sumOf ops.toList))[j]? = some s → ops[j]? = some o ∧ s = sumOf ops.toList o := fun {j o s} h1 h2 => by
    have h1' : ops[j]? = some o := by rw [← Array.getElem?_toList]; exact h1
    rw [sums_get, h1'] at h2
    simp at h2
    exact ⟨h1', h2.symm⟩
  have hβn : ∀ (β βn : List Nat), (∀ i, i < m → β[i]? = β0[i]?) → ∀ i, i < m → (β ++ βn)[i]? = β0[i]? := fun β βn h i hi => by
    have h1 := h i hi
    have h2 : β0[i]? = some β0[i] := List.getElem?_eq_getElem (by omega)
    rw [h2] at h1 ⊢
    exact get_append_left h1
  intro n
  induction n with
  | zero =>
    intro br Lm fr H W h D l a w β Es hcut hl hc hS hF hst hm hd hW
    simp only [evalAny] at h
    split at h
    · rename_i hr
      exact ⟨fun e he _ => by obtain ⟨x, _, hx⟩ := hW e he; obtain ⟨o, u, _, _, _, _, _, _, _, _, hSw⟩ := hx; exact hSw, hnil hl hr, rfl, fin_of h hcut hS hF hst hm hd⟩
    · simp at h
  | succ n ih =>
    intro br Lm fr H W h D l a w β Es hcut hl hc hS hF hst hm hd hW
    have hTT := OpsOK.cut hTT0 hcut
    have hcf := hcf0.cut hcut
    have hT := hTT.1
    have hinv : Inv ops Es l w := fun e he _ => by obtain ⟨x, _, hx⟩ := hW e he; obtain ⟨o, u, _, _, _, _, _, _, _, _, hSw⟩ := hx; exact hSw
    simp only [evalAny] at h
    split at h
    · rename_i hr
      refine ⟨hinv, fun _ => ⟨rfl, fin_of h hcut hS hF hst hm hd⟩, fun i hi => ?_⟩
      rw [hnil hl hr] at hi; simp at hi
    · rename_i i rs hr
      have hready : ∀ j, j ∈ Region.ready .any ops l ↔ j ∈ i :: rs := fun j => by rw [← ready_iff hl, hr]
      split at h
      · -- taken ahead
        rename_i j hfind
        have hpick := List.find?_some hfind
        have hj : j ∈ Region.ready .any ops l := (hready j).2 (List.mem_of_find?_eq_some hfind)
        split at h
        · rename_i o s ho0 hs0
          obtain ⟨ho, rfl⟩ := hsums ho0 hs0
          simp only [pickB, ho0, hs0, Bool.and_eq_true] at hpick
          obtain ⟨⟨hp1, hp2⟩, hp3⟩ := hpick
          have hfree := free_of hl hp3 ho
          have hjlt : j < ops.size := (Array.getElem?_eq_some_iff.1 ho).1
          have hap := apartW_spec hp2
          have hsel := fun (j : Nat) (o : Oper) cs b ho => Region.noSelect_spec hs j o cs b ho
          -- the entries go on
          have hEs : ∀ (u : Value) (a' : Act), a' = a.put o.dst u → ∀ W0, ∀ e' ∈ Es.map (Ent.ext ops j), ∃ x' ∈ W0 ++ aheadW (sumOf ops.toList o) j W, WRel P D ops w β a' (addBit Lm j) x' e' := by
            rintro u a' rfl W0 e' he'
            obtain ⟨e, he, rfl⟩ := List.mem_map.1 he'
            obtain ⟨x, hx, ok, uk, w1, w2, w3, w4, w5, w6, w7, w8, w9⟩ := hW e he
            have hex := exec_put hs w1 w5 (hap x hx) a u
            refine ⟨_, List.mem_append_right _ (aheadW_mem hx), ok, uk, w1, w2, w3, w4, w5, fun k => ?_, fun k hk => ?_, fun w' => by rw [hex]; exact w8 w', w9⟩
            · show (e.M k ∨ (k = j ∧ ∃ m, e.M m ∧ dep ops j m)) ↔ _
              have hdm : meet (sumOf ops.toList o).deps x.mask = true ↔ ∃ m, e.M m ∧ dep ops j m := by
                rw [meet_iff]
                constructor
                · rintro ⟨q, h1, h2⟩; exact ⟨q, (w6 q).2 h2, (deps_iff ops o j q ho).1 h1⟩
                · rintro ⟨q, h1, h2⟩; exact ⟨q, (deps_iff ops o j q ho).2 h2, (w6 q).1 h1⟩
              by_cases hmt : meet (sumOf ops.toList o).deps x.mask = true
              · simp only [hmt, if_true, bitIn_add, Bool.or_eq_true, decide_eq_true_eq, w6 k]
                constructor
                · rintro (h1 | ⟨h1, _⟩)
                  · exact .inl h1
                  · exact .inr h1
                · rintro (h1 | h1)
                  · exact .inl h1
                  · exact .inr ⟨h1, hdm.1 hmt⟩
              · simp only [hmt, if_false, w6 k]
                constructor
                · rintro (h1 | ⟨_, h1⟩)
                  · exact h1
                  · exact absurd (hdm.2 h1) hmt
                · exact .inl
            · rw [bitIn_add, Bool.or_eq_true, decide_eq_true_eq]
              have hk' : bitIn (if meet (sumOf ops.toList o).deps x.mask then addBit x.mask j else x.mask) k = true := hk
              split at hk'
              · rw [bitIn_add, Bool.or_eq_true, decide_eq_true_eq] at hk'
                exact hk'.imp (w7 k) id
              · exact .inl (w7 k hk')
          split at h
          · rename_i v Hs hstep
            simp only [fV_eq, fput_eq, fNat_eq, fW_eq] at h
            cases hw : wantedA T ops.toList fr o with
            | false =>
              simp only [stepA, hw] at hstep
              have hng : topGuard T ops.toList fr o = false := by
                cases hg : topGuard T ops.toList fr o with
                | false => rfl
                | true => simp [hg] at hstep
              have hwe := wanted_eq hT hF ops o hng
              rw [hw] at hwe
              simp only [hng, Option.some.injEq, Prod.mk.injEq] at hstep
              obtain ⟨rfl, rfl⟩ := hstep
              have hy : YieldsIf P ops (fun _ => True) o Go.undef a := .inr ⟨hwe.symm, rfl⟩
              refine wpI_first ho hsel (hQ _ _) n l a w hfree hj hc hy (wpI_true ?_)
              refine ih br _ _ H _ h D _ _ w β _ hcut (hl.set hjlt) (hc.set hj) hS (hF.put _ .undef) hst hm (by rw [put_defers]; exact hd) (hEs _ _ rfl _)
            | true =>
              have hwe := wanted_eq hT hF ops o (guard_known hw)
              rw [hw] at hwe hp1
              simp only [stepA, hw] at hstep
              split at hp1
              · rename_i e; cases e
              rename_i e; clear e
              split at hp1
              · rename_i hcl
                have hev : evalOp P T fr H o.op = some (v, Hs) := by
                  unfold evalStep at hstep
                  split at hstep
                  · rename_i heq; rw [heq] at hcl; simp [cls] at hcl
                  · rw [hkey_cls hcl] at hstep
                    split at hstep
                    · rename_i r hr; simp at hstep; subst hstep; exact hr
                    · simp at hstep
                obtain ⟨_, u, hu, hrep⟩ := op0 (P := P) hT hF o hcl hev
                have hy : YieldsIf P ops (fun _ => True) o u a := .inl ⟨hwe.symm, fun w' _ => hu w'⟩
                refine wpI_first ho hsel (hQ _ _) n l a w hfree hj hc hy (wpI_true ?_)
                refine ih br _ _ H _ h D _ _ w β _ hcut (hl.set hjlt) (hc.set hj) hS (hF.put _ hrep) hst hm (by rw [put_defers]; exact hd) (hEs _ _ rfl _)
              · rename_i hcl
                have hev : evalOp P T fr H o.op = some (v, Hs) := by
                  unfold evalStep at hstep
                  split at hstep
                  · rename_i heq; rw [heq] at hcl; simp [cls] at hcl
                  · split at hstep
                    · rename_i r hr; simp at hstep; subst hstep; exact hr
                    · rename_i hnone; simp [hnone] at hp1
                simp only [hev, Bool.and_eq_true, Bool.not_eq_true'] at hp1
                obtain ⟨hself, hexact⟩ := hp1
                obtain ⟨_, u, hu, hrep⟩ := op1 (P := P) hT hS hF o hcl hev
                have hy : YieldsIf P ops (fun w' => (execOp a.eval o).run P w' = .ok (.value u) w') o u a := .inl ⟨hwe.symm, fun w' h => h⟩
                refine wpI_first ho hsel (hQ _ _) n l a w hfree hj hc hy ?_
                refine ih br _ _ H _ h D _ _ w β _ hcut (hl.set hjlt) (hc.set hj) hS (hF.put _ hrep) hst hm (by rw [put_defers]; exact hd) (fun e' he' => ?_)
                rcases List.mem_append.1 he' with he' | he'
                · exact hEs _ _ rfl _ e' he'
                · simp only [List.mem_singleton] at he'
                  subst he'
                  refine ⟨⟨j, v, maskOf [j], (sumOf ops.toList o).looks⟩, List.mem_append_left _ ?_, o, u, ho, hcl, hexact, hrep, rfl, fun k => by simp [bitIn_mask], fun k hk => ?_, fun w' => ?_, hu⟩
                  · simp only [newW, hcl, hw]; simp
                  · have : k = j := by simpa [bitIn_mask] using hk
                    subst this; rw [bitIn_add]; simp
                  · rw [exec_put hs ho rfl hself a u]
              · simp at hp1
          · simp at h
        · simp at h
      · -- whichever comes up
        rename_i hfind
        have one : ∀ (b : Bool) (j : Nat), j ∈ Region.ready .any ops l → (match ops.toList[j]?, (ops.toList.map (sumOf ops.toList))[j]? with
            | some o, some s => match stepA P T cf ops.toList o fr H with
              | some (v, H') => fV v fun v => fput fr o.dst v fun fr' => fH H' fun H' => fNat (addBit Lm j) fun L' => fW (keepW s W) fun W' =>
                match holdW P T ops.toList s.dst fr' H' W' with
                | true => evalAny P T cf ops.toList (ops.toList.map (sumOf ops.toList)) m n b L' fr' H' W'
                | false => none
              | none => none
            | _, _ => none) = some (frF, HF) → wpOp P ops (Qn C w0 L0 β0 m d frF HF) j (wpI P ops (Qn C w0 L0 β0 m d frF HF) Es n (l.setIfInBounds j true)) a w := by
          intro b j hj h
          split at h
          · rename_i o s ho0 hs0
            obtain ⟨ho, rfl⟩ := hsums ho0 hs0
            have hjlt : j < ops.size := (Array.getElem?_eq_some_iff.1 ho).1
            have hjun : bitIn Lm j = false := by rw [← hl.2 j]; exact listed_of_getD (mem_ready.1 hj).1
            split at h
            · rename_i v H' hstep
              simp only [fV_eq, fput_eq, fNat_eq, fW_eq, fH_eq] at h
              split at h
              · rename_i hhold
                have hh := holdW_spec hhold
                -- behind the step
                have go : ∀ (u : Value) (w' : World) (βn : List Nat) (D' : Env), Sim D' w' (β ++ βn) H' → Rep w' D' (β ++ βn) v u → Step w (LiveAt β H) w' (LiveAt (β ++ βn) H') → Cut D w (LiveAt β H) D' →
                    wpI P ops (Qn C w0 L0 β0 m d frF HF) Es n (l.setIfInBounds j true) (a.put o.dst u) w' := by
                  intro u w' βn D' s1 s2 s3 s4
                  have hT' := (OpsOK.cut hTT s4).1
                  have hF' : FrRep w' D' (β ++ βn) (putF fr o.dst v) (a.put o.dst u).tmps := ((hF.mono (hS.wide s3) (fun _ _ h => get_append_left h)).cut s4.hv s4.on).put _ s2
                  open Classical in
                  have hkeep := ih b _ _ H' _ h D' (l.setIfInBounds j true) (a.put o.dst u) w' (β ++ βn) (Es.filter fun e => decide (¬ ∃ k, e.M k ∧ dep ops j k)) (hcut.trans hst s4) (hl.set hjlt) (hc.set hj) s1 hF' (hst.trans s3) (hβn _ _ hm) (by rw [put_defers]; exact hd)
                    (fun e he => by
                      obtain ⟨he1, he2⟩ := List.mem_filter.1 he
                      have he3 : ¬ ∃ k, e.M k ∧ dep ops j k := by simpa using he2
                      obtain ⟨x, hx, ok, uk, w1, w2, w3, w4, w5, w6, w7, w8, w9⟩ := hW e he1
                      have hmt : meet (sumOf ops.toList o).deps x.mask = false := by
                        cases hmt : meet (sumOf ops.toList o).deps x.mask with
                        | false => rfl
                        | true =>
                          obtain ⟨q, h1, h2⟩ := (meet_iff _ _).1 hmt
                          exact absurd ⟨q, (w6 q).2 h2, (deps_iff ops o j q ho).1 h1⟩ he3
                      have hxk := keepW_mem hx hmt
                      obtain ⟨hmd, ok', Hk, ho', hev⟩ := hh x hxk
                      have ho'' : ops[x.k]? = some ok' := by rw [← Array.getElem?_toList]; exact ho'
                      rw [w1] at ho''; cases ho''
                      have hex := exec_put hs w1 w5 hmd a u
                      obtain ⟨_, u2, hu2, hrep2⟩ := op1 (P := P) hT' s1 hF' ok w2 hev
                      have hrep1 : Rep w' D' (β ++ βn) x.v uk := (w4.mono (hS.wide s3) (fun _ _ h => get_append_left h)).cut s4.hv s4.on
                      have huu := exact_unique hrep2 w3 hrep1
                      subst huu
                      refine ⟨x, hxk, ok, u2, w1, w2, w3, hrep1, w5, w6, fun k hk => by rw [bitIn_add, w7 k hk]; rfl, fun w'' => by rw [hex]; exact w8 w'', ?_⟩
                      rw [w8 w', ← hex]; exact hu2)
                  refine wpI_weaken n _ _ _ hkeep (fun l' hl' w'' hI e he hnd => ?_)
                  by_cases hdj : ∃ k, e.M k ∧ dep ops j k
                  · exfalso
                    obtain ⟨k, hk, hdk⟩ := hdj
                    obtain ⟨x, hx, ok, uk, w1, w2, w3, w4, w5, w6, w7, w8, w9⟩ := hW e he
                    refine hnd ⟨j, hl' j (by rw [(hl.set hjlt).2 j, bitIn_add]; simp), fun hMj => ?_, k, hk, hdk⟩
                    have := w7 j ((w6 j).1 hMj)
                    rw [hjun] at this; cases this
                  · exact hI e (by rw [List.mem_filter]; exact ⟨he, by simpa using hdj⟩) hnd
                unfold Go.wpOp
                simp only [ho]
                cases hw : wantedA T ops.toList fr o with
                | false =>
                  simp only [stepA, hw] at hstep
                  have hng : topGuard T ops.toList fr o = false := by
                    cases hg : topGuard T ops.toList fr o with
                    | false => rfl
                    | true => simp [hg] at hstep
                  have hwe := wanted_eq hT hF ops o hng
                  rw [hw] at hwe
                  rw [← hwe]
                  simp only [hng, Option.some.injEq, Prod.mk.injEq] at hstep
                  obtain ⟨rfl, rfl⟩ := hstep
                  simp only [Bool.false_eq_true, if_false]
                  exact go _ w [] D (by simpa using hS) .undef (by simpa using Step.refl _ _) (Cut.refl _ _ _)
                | true =>
                  have hwe := wanted_eq hT hF ops o (guard_known hw)
                  rw [hw] at hwe
                  rw [← hwe]
                  simp only [stepA, hw] at hstep
                  simp only [if_true]
                  exact .inl (step_ok hTT hcf hS hF o hstep go)
              · simp at h
            · simp at h
          · simp at h
        refine ⟨hinv, fun hn => ?_, fun j hj => ?_⟩
        · have := (hready i).2 (by simp); rw [hn] at this; simp at this
        · split at h
          · have hji : j = i := by simpa using (hready j).1 hj
            subst hji
            exact one br j hj h
          · split at h
            · rename_i st hst1
              split at h
              · rename_i hall
                simp only [Option.some.injEq] at h
                subst h
                rcases List.mem_cons.1 ((hready j).1 hj) with rfl | hjr
                · exact one true j hj hst1
                · rw [List.all_eq_true] at hall
                  exact one true j hj (sameSt_eq (hall j hjr))
              · simp at h
            · simp at h

end Go.Proofs.BoatV
