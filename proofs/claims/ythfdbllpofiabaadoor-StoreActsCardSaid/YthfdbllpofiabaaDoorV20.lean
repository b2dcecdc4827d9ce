/- That the trees tell what a function answers. -/
import Derived.Test.YthfdbllpofiabaaDoorV19
namespace Go.Proofs.BoatV
open Go
set_option linter.unusedVariables false
set_option linter.unusedSimpArgs false
variable {P : Program} {w : World}

/-! ### Frames -/
theorem forgetL_get : ∀ (ps vs : List AV) (k : Nat), (forgetL ps vs)[k]? = vs[k]? ∨ ((forgetL ps vs)[k]? = some .top ∧ k < vs.length)
  | [], vs, k => by simp [forgetL]
  | p :: ps, [], k => by cases p <;> simp [forgetL]
  | p :: ps, v :: vs, k => by
    have ih := fun k => forgetL_get ps vs k
    cases p <;> (cases k with
      | zero => simp [forgetL]
      | succ k => simpa [forgetL] using ih k)
theorem forgetL_length : ∀ (ps vs : List AV), (forgetL ps vs).length = vs.length
  | [], vs => by simp [forgetL]
  | p :: ps, [] => by cases p <;> simp [forgetL]
  | p :: ps, v :: vs => by cases p <;> simp [forgetL, forgetL_length ps vs]
theorem forgetF_get : ∀ (ps vs : Fr) (k : Nat), (forgetF ps vs)[k]? = vs[k]? ∨ ∃ p v, vs[k]? = some v ∧ (forgetF ps vs)[k]? = some (forgetL p v)
  | [], vs, k => by simp [forgetF]
  | p :: ps, [], k => by simp [forgetF]
  | p :: ps, v :: vs, k => by
    cases k with
    | zero => right; exact ⟨p, v, by simp, by simp [forgetF]⟩
    | succ k => simpa [forgetF] using forgetF_get ps vs k
theorem fget_eq (fr : Fr) (t : Nat) : fget fr t = (fr.getD (t / 8) []).getD (t % 8) .undef := rfl
theorem FrRep.forget {C : Env} {β : List Nat} {fr : Fr} {tmps : Array Value} (h : FrRep w C β fr tmps) (p : Fr) : FrRep w C β (forgetF p fr) tmps := by
  refine ⟨fun t => ?_, fun t => ?_⟩
  · have hv := h.val t
    rw [fget_eq] at hv ⊢
    rcases forgetF_get p fr (t / 8) with e | ⟨q, v, e1, e2⟩
    · simp only [List.getD_eq_getElem?_getD, e] at hv ⊢; exact hv
    · simp only [List.getD_eq_getElem?_getD, e1, e2, Option.getD_some] at hv ⊢
      rcases forgetL_get q v (t % 8) with e | ⟨e, _⟩
      · rw [e]; exact hv
      · rw [e]; exact .top _
  · rw [← h.bnd t]
    unfold inb
    rcases forgetF_get p fr (t / 8) with e | ⟨q, v, e1, e2⟩
    · simp only [List.getD_eq_getElem?_getD, e]
    · simp only [List.getD_eq_getElem?_getD, e1, e2, Option.getD_some, forgetL_length]

theorem instF_get {L : Env} : ∀ {l l' : Fr}, instF L l = some l' → l'.length = l.length ∧ ∀ (k : Nat) (a : List AV), l[k]? = some a → ∃ a', l'[k]? = some a' ∧ instL L a = some a'
  | [], l', h => by simp [instF] at h; subst h; exact ⟨rfl, fun k a hk => by simp at hk⟩
  | v :: vs, l', h => by
    simp only [instF] at h
    split at h
    · rename_i b r h1 h2
      simp at h; subst h
      obtain ⟨g1, g2⟩ := instF_get h2
      refine ⟨by simp [g1], fun k a hk => ?_⟩
      cases k with
      | zero => simp at hk; subst hk; exact ⟨b, rfl, h1⟩
      | succ k => simpa using g2 k a (by simpa using hk)
    · simp at h

theorem inst_nm {on : Nat → Prop} {ρ : List AV} {ω : List AO} (v : AV) : v.inst (names on ρ ω) = v.inst (nm ρ ω) := inst_on (L := names on ρ ω) (L' := nm ρ ω) rfl v
theorem instL_nm {on : Nat → Prop} {ρ : List AV} {ω : List AO} (v : List AV) : instL (names on ρ ω) v = instL (nm ρ ω) v := instL_on (L := names on ρ ω) (L' := nm ρ ω) rfl v
theorem instH_nm {on : Nat → Prop} {ρ : List AV} {ω : List AO} (v : Heap) : instH (names on ρ ω) v = instH (nm ρ ω) v := instH_on (L := names on ρ ω) (L' := nm ρ ω) rfl rfl v
theorem instO_nm {on : Nat → Prop} {ρ : List AV} {ω : List AO} (v : AO) : v.inst (names on ρ ω) = v.inst (nm ρ ω) := instO_on (L := names on ρ ω) (L' := nm ρ ω) rfl rfl v

theorem Rep.rename {on : Nat → Prop} {ρ ρ2 vals : List AV} {ω ω2 objs : List AO} (hv : instL (nm ρ ω) vals = some ρ2) {β : List Nat} {av b : AV} {v : Value} (h : av.inst (nm vals objs) = some b) (hr : Rep w (names on ρ ω) β b v) :
    Rep w (names on ρ2 ω2) β av v := by
  obtain ⟨b', h1, h2⟩ := hr.inst
  rw [inst_nm] at h1
  have h3 := inst_inst (ω := ω2) hv h h1
  exact Rep.name (by rw [inst_nm]; exact h3) h2
theorem RepO.rename {on : Nat → Prop} {ρ ρ2 vals : List AV} {ω ω2 objs : List AO} (hv : instL (nm ρ ω) vals = some ρ2) (ho : instH (nm ρ ω) objs = some ω2) {β : List Nat} {o b : AO} {x : Obj} (h : o.inst (nm vals objs) = some b) (hr : RepO w (names on ρ ω) β b x) :
    RepO w (names on ρ2 ω2) β o x := by
  obtain ⟨b', h1, _, h2⟩ := hr.inst
  rw [instO_nm] at h1
  have h3 := instO_inst hv ho h h1
  exact RepO.name (by rw [instO_nm]; exact h3) h2
theorem FrRep.rename {on : Nat → Prop} {ρ ρ2 vals : List AV} {ω ω2 objs : List AO} (hv : instL (nm ρ ω) vals = some ρ2) {β : List Nat} {fr f : Fr} {tmps : Array Value} (h : instF (nm vals objs) fr = some f) (hr : FrRep w (names on ρ ω) β f tmps) :
    FrRep w (names on ρ2 ω2) β fr tmps := by
  obtain ⟨g1, g2⟩ := instF_get h
  refine ⟨fun t => ?_, fun t => ?_⟩
  · have hv' := hr.val t
    rw [fget_eq] at hv' ⊢
    rcases Nat.lt_or_ge (t / 8) fr.length with hlt | hge
    · obtain ⟨a', h1, h2⟩ := g2 _ _ (List.getElem?_eq_getElem hlt)
      simp only [List.getD_eq_getElem?_getD, h1, List.getElem?_eq_getElem hlt, Option.getD_some] at hv' ⊢
      rcases Nat.lt_or_ge (t % 8) (fr[t / 8]).length with hl2 | hg2
      · obtain ⟨x, h3, h4⟩ := instL_get h2 _ _ (List.getElem?_eq_getElem hl2)
        rw [h3] at hv'
        rw [List.getElem?_eq_getElem hl2]
        exact Rep.rename hv h4 hv'
      · have : a'.length ≤ t % 8 := by rw [instL_length h2]; exact hg2
        rw [List.getElem?_eq_none this] at hv'
        rw [List.getElem?_eq_none hg2]
        exact Rep.rename (b := .undef) (objs := objs) (av := .undef) hv rfl hv'
    · have : f.length ≤ t / 8 := by rw [g1]; exact hge
      simp only [List.getD_eq_getElem?_getD, List.getElem?_eq_none this, List.getElem?_eq_none hge, Option.getD_none, List.getElem?_nil] at hv' ⊢
      exact Rep.rename (b := .undef) (objs := objs) (av := .undef) hv rfl hv'
  · rw [← hr.bnd t]
    unfold inb
    rcases Nat.lt_or_ge (t / 8) fr.length with hlt | hge
    · obtain ⟨a', h1, h2⟩ := g2 _ _ (List.getElem?_eq_getElem hlt)
      simp only [List.getD_eq_getElem?_getD, h1, List.getElem?_eq_getElem hlt, Option.getD_some, instL_length h2]
    · have : f.length ≤ t / 8 := by rw [g1]; exact hge
      simp only [List.getD_eq_getElem?_getD, List.getElem?_eq_none this, List.getElem?_eq_none hge, Option.getD_none]
theorem Sim.rename {on : Nat → Prop} {ρ ρ2 vals : List AV} {ω ω2 objs : List AO} (hv : instL (nm ρ ω) vals = some ρ2) (ho : instH (nm ρ ω) objs = some ω2) {β : List Nat} {H h : Heap} (hi : instH (nm vals objs) H = some h) (hS : Sim (names on ρ ω) w β h) :
    Sim (names on ρ2 ω2) w β H := by
  have hlive : ∀ b, LiveAt β H b ↔ LiveAt β h b := live_inst hi
  refine ⟨by rw [← instH_length hi]; exact hS.len, hS.lt, fun i j o o' b h1 h2 h3 h4 h5 h6 => ?_, fun i o b h1 h2 h3 => ?_, fun b hb => hS.dis b ((hlive b).1 hb), hS.big⟩
  · obtain ⟨p, h7, h8⟩ := instH_get hi i o h1
    obtain ⟨q, h9, h10⟩ := instH_get hi j o' h3
    exact hS.inj i j p q b h7 (fun e => h2 ((inst_dead h8).1 e)) h9 (fun e => h4 ((inst_dead h10).1 e)) h5 h6
  · obtain ⟨p, h7, h8⟩ := instH_get hi i o h1
    obtain ⟨x, hx, hr⟩ := hS.obj i p b h7 (fun e => h2 ((inst_dead h8).1 e)) h3
    exact ⟨x, hx, RepO.rename hv ho h8 hr⟩

theorem Fin.goto {on : Nat → Prop} {ρ ρ2 vals : List AV} {ω ω2 objs : List AO} {w0 : World} {L0 : Nat → Prop} {β0 : List Nat} {m : Nat} {d : List Deferred} {fr fr2 pf : Fr} {H H2 pH : Heap} {a : Act}
    (hv : instL (nm ρ ω) vals = some ρ2) (ho : instH (nm ρ ω) objs = some ω2) (hc : canon m (forgetF pf fr) H = some (fr2, H2)) (hf : instF (nm vals objs) pf = some fr2) (hH : instH (nm vals objs) pH = some H2)
    (hF : Fin (names on ρ ω) w0 L0 β0 m d fr H a w) : Fin (names on ρ2 ω2) w0 L0 β0 m d pf pH a w := by
  obtain ⟨β, D, h0, h1, h2, h3, h4, h5⟩ := hF
  have eD : D = names D.on ρ ω := by
    obtain ⟨on', hv', ho'⟩ := D
    have e1 := h0.hv; have e2 := h0.ho
    simp only [names] at e1 e2 ⊢
    rw [e1, e2]
  rw [eD] at h1 h2
  obtain ⟨β', g1, g2, g3, g4⟩ := canon_ok h1 (h2.forget pf) hc
  have hlive : ∀ b, LiveAt β' pH b ↔ LiveAt β' H2 b := live_inst hH
  refine ⟨β', names D.on ρ2 ω2, ⟨rfl, rfl, h0.on, h0.keep⟩, Sim.rename hv ho hH g1, FrRep.rename hv hf g2, ?_, fun i hi => (g4 i hi).trans (h4 i hi), h5⟩
  have := h3.trans g3
  exact ⟨this.os, this.tape, this.output, this.size, this.kept, fun b hb hL hl => this.dead b hb hL ((hlive b).1 hl), this.shape⟩

/-! ### The answer -/
def QF (P : Program) (fn : Func) (on : Nat → Prop) (w0 : World) (L0 : Nat → Prop) (β0 : List Nat) (r : AV) (h : Heap) : Exit → Act → World → Prop := fun e a w =>
  (e = .normal ∨ e = .ret) ∧ a.defers = [] ∧ ∃ v βn D, (results fn a.tmps).run P w = .ok v w ∧ Sim D w (β0 ++ βn) h ∧ Rep w D (β0 ++ βn) r v ∧ Step w0 L0 w (LiveAt (β0 ++ βn) h) ∧ Cut (bareE on) w0 L0 D

def Tr.leaf : Tr → Bool
  | .ret _ _ | .goto _ _ _ => true
  | _ => false

section
variable {on : Nat → Prop} {fn : Func} {m : Nat} {nodes : List (Node × Tr)} {sp : Sps} {next : Nat → List AV → List AO → Option (AV × Heap)}

theorem tr_ok (hsp : sp.ok P) {start : Tab → Option Out} {r : AV} {h : Heap} : ∀ (tr : Tr) (T : Tab) (ρ : List AV) (ω : List AO), checkTr P fn m nodes start tr T = true → TabOK P (names on ρ ω) T → tr.eval sp next ρ ω = some (r, h) →
    ∃ T' ρ' ω' lf, TabOK P (names on ρ' ω') T' ∧ (names on ρ ω).le (names on ρ' ω') ∧ lf.leaf = true ∧ matchOut P fn m nodes lf (start T') = true ∧ lf.eval sp next ρ' ω' = some (r, h)
  | .ret r0 H0, T, ρ, ω, hc, hT, he => ⟨T, ρ, ω, .ret r0 H0, hT, .refl _, rfl, hc, he⟩
  | .goto k vals objs, T, ρ, ω, hc, hT, he => ⟨T, ρ, ω, .goto k vals objs, hT, .refl _, rfl, hc, he⟩
  | .fail, T, ρ, ω, hc, hT, he => by simp [Tr.eval] at he
  | .ask key args res y n, T, ρ, ω, hc, hT, he => by
    simp only [checkTr, Bool.and_eq_true] at hc
    simp only [Tr.eval] at he
    split at he
    · rename_i l hl
      split at he
      · rename_i v hv
        split at he
        · rename_i ρ' hb
          obtain ⟨⟨x, rfl⟩, hi⟩ := bindV_ok hb
          have hle : (names on ρ ω).le (names on (ρ ++ x) ω) := by have := names_le on ρ x ω []; rwa [List.append_nil] at this
          have hT' : TabOK P (names on (ρ ++ x) ω) ⟨⟨key, args, res⟩ :: T.ops, T.calls, T.hops⟩ := by
            have h0 := hT.le hle
            refine ⟨⟨fun e he => ?_, h0.1.2⟩, h0.2⟩
            rcases List.mem_cons.1 he with rfl | he
            · exact ⟨l, v, by rw [instL_nm]; exact instL_le (nm_le1 ρ x ω) hl, by rw [inst_nm]; exact hi ω, hv⟩
            · exact h0.1.1 e he
          obtain ⟨T', ρ', ω', lf, g1, g2, g3, g4, g5⟩ := tr_ok hsp y _ _ _ hc.1 hT' he
          exact ⟨T', ρ', ω', lf, g1, hle.trans g2, g3, g4, g5⟩
        · exact tr_ok hsp n _ _ _ hc.2 hT he
      · simp at he
    · simp at he
  | .call f args H res H' y n, T, ρ, ω, hc, hT, he => by
    simp only [checkTr, Bool.and_eq_true] at hc
    simp only [Tr.eval] at he
    split at he
    · rename_i l h0 hl hh
      split at he
      · rename_i v h' hv
        split at he
        · rename_i ρ' hb
          split at he
          · rename_i ρ'' ω' hb2
            obtain ⟨⟨x, rfl⟩, hi⟩ := bindV_ok hb
            obtain ⟨⟨x', rfl⟩, ⟨y', rfl⟩, hi2⟩ := bindH_ok hb2
            have hle : (names on ρ ω).le (names on (ρ ++ x ++ x') (ω ++ y')) := by have := names_le on ρ (x ++ x') ω y'; rwa [← List.append_assoc] at this
            have hle0 : (nm ρ ω).le (nm (ρ ++ x ++ x') (ω ++ y')) := by have := nm_le ρ (x ++ x') ω y'; rwa [← List.append_assoc] at this
            have hT' : TabOK P (names on (ρ ++ x ++ x') (ω ++ y')) ⟨T.ops, ⟨f, args, H, res, H'⟩ :: T.calls, T.hops⟩ := by
              have h1 := hT.le hle
              refine ⟨h1.1, fun e he => ?_⟩
              rcases List.mem_cons.1 he with rfl | he
              · exact ⟨sp.sp f, l, h0, v, h', hsp.1 f, by rw [instL_nm]; exact instL_le hle0 hl, by rw [instH_nm]; exact instH_le hle0 hh, by rw [inst_nm]; exact inst_le (nm_le _ x' _ y') (hi ω), by rw [instH_nm]; exact hi2, hv⟩
              · exact h1.2 e he
            obtain ⟨T', ρ', ω', lf, g1, g2, g3, g4, g5⟩ := tr_ok hsp y _ _ _ hc.1 hT' he
            exact ⟨T', ρ', ω', lf, g1, hle.trans g2, g3, g4, g5⟩
          · exact tr_ok hsp n _ _ _ hc.2 hT he
        · exact tr_ok hsp n _ _ _ hc.2 hT he
      · simp at he
    · simp at he
  | .pcall f args H res y n, T, ρ, ω, hc, hT, he => by
    simp only [checkTr, Bool.and_eq_true] at hc
    simp only [Tr.eval] at he
    split at he
    · rename_i l h0 hl hh
      split at he
      · rename_i v hv
        split at he
        · rename_i ρ' hb
          obtain ⟨⟨x, rfl⟩, hi⟩ := bindV_ok hb
          have hle : (names on ρ ω).le (names on (ρ ++ x) ω) := by have := names_le on ρ x ω []; rwa [List.append_nil] at this
          have hT' : TabOK P (names on (ρ ++ x) ω) ⟨T.ops, ⟨f, args, H, res, H⟩ :: T.calls, T.hops⟩ := by
            have h1 := hT.le hle
            refine ⟨h1.1, fun e he => ?_⟩
            rcases List.mem_cons.1 he with rfl | he
            · exact ⟨pure1 (sp.pf f), l, h0, v, h0, hsp.2 f, by rw [instL_nm]; exact instL_le (nm_le1 ρ x ω) hl, by rw [instH_nm]; exact instH_le (nm_le1 ρ x ω) hh, by rw [inst_nm]; exact hi ω, by rw [instH_nm]; exact instH_le (nm_le1 ρ x ω) hh, by simp [pure1, hv]⟩
            · exact h1.2 e he
          obtain ⟨T', ρ', ω', lf, g1, g2, g3, g4, g5⟩ := tr_ok hsp y _ _ _ hc.1 hT' he
          exact ⟨T', ρ', ω', lf, g1, hle.trans g2, g3, g4, g5⟩
        · exact tr_ok hsp n _ _ _ hc.2 hT he
      · simp at he
    · simp at he
  | .hop key args H res H' y n, T, ρ, ω, hc, hT, he => by
    simp only [checkTr, Bool.and_eq_true] at hc
    simp only [Tr.eval] at he
    split at he
    · rename_i l h0 hl hh
      split at he
      · rename_i v h' hv
        split at he
        · rename_i ρ' hb
          split at he
          · rename_i ρ'' ω' hb2
            obtain ⟨⟨x, rfl⟩, hi⟩ := bindV_ok hb
            obtain ⟨⟨x', rfl⟩, ⟨y', rfl⟩, hi2⟩ := bindH_ok hb2
            have hle : (names on ρ ω).le (names on (ρ ++ x ++ x') (ω ++ y')) := by have := names_le on ρ (x ++ x') ω y'; rwa [← List.append_assoc] at this
            have hle0 : (nm ρ ω).le (nm (ρ ++ x ++ x') (ω ++ y')) := by have := nm_le ρ (x ++ x') ω y'; rwa [← List.append_assoc] at this
            have hT' : TabOK P (names on (ρ ++ x ++ x') (ω ++ y')) ⟨T.ops, T.calls, ⟨key, args, H, res, H'⟩ :: T.hops⟩ := by
              have h1 := hT.le hle
              refine ⟨⟨h1.1.1, fun e he => ?_⟩, h1.2⟩
              rcases List.mem_cons.1 he with rfl | he
              · exact ⟨l, h0, v, h', by rw [instL_nm]; exact instL_le hle0 hl, by rw [instH_nm]; exact instH_le hle0 hh, by rw [inst_nm]; exact inst_le (nm_le _ x' _ y') (hi ω), by rw [instH_nm]; exact hi2, hv⟩
              · exact h1.1.2 e he
            obtain ⟨T', ρ', ω', lf, g1, g2, g3, g4, g5⟩ := tr_ok hsp y _ _ _ hc.1 hT' he
            exact ⟨T', ρ', ω', lf, g1, hle.trans g2, g3, g4, g5⟩
          · exact tr_ok hsp n _ _ _ hc.2 hT he
        · exact tr_ok hsp n _ _ _ hc.2 hT he
      · simp at he
    · simp at he
  | .phop key args H res y n, T, ρ, ω, hc, hT, he => by
    simp only [checkTr, Bool.and_eq_true] at hc
    simp only [Tr.eval] at he
    split at he
    · rename_i l h0 hl hh
      split at he
      · rename_i v hv
        split at he
        · rename_i ρ' hb
          obtain ⟨⟨x, rfl⟩, hi⟩ := bindV_ok hb
          have hle : (names on ρ ω).le (names on (ρ ++ x) ω) := by have := names_le on ρ x ω []; rwa [List.append_nil] at this
          have hT' : TabOK P (names on (ρ ++ x) ω) ⟨T.ops, T.calls, ⟨key, args, H, res, H⟩ :: T.hops⟩ := by
            have h1 := hT.le hle
            refine ⟨⟨h1.1.1, fun e he => ?_⟩, h1.2⟩
            rcases List.mem_cons.1 he with rfl | he
            · exact ⟨l, h0, v, h0, by rw [instL_nm]; exact instL_le (nm_le1 ρ x ω) hl, by rw [instH_nm]; exact instH_le (nm_le1 ρ x ω) hh, by rw [inst_nm]; exact hi ω, by rw [instH_nm]; exact instH_le (nm_le1 ρ x ω) hh, opP_spec hv⟩
            · exact h1.1.2 e he
          obtain ⟨T', ρ', ω', lf, g1, g2, g3, g4, g5⟩ := tr_ok hsp y _ _ _ hc.1 hT' he
          exact ⟨T', ρ', ω', lf, g1, hle.trans g2, g3, g4, g5⟩
        · exact tr_ok hsp n _ _ _ hc.2 hT he
      · simp at he
    · simp at he

theorem leaf_ok {body : Code} {w0 : World} {L0 : Nat → Prop} {β0 : List Nat} (hm : β0.length = m) {r : AV} {h : Heap}
    (hnext : ∀ k ρ2 ω2, next k ρ2 ω2 = some (r, h) → ∀ nd, nodes[k]? = some nd → ∀ a w, Fin (names on ρ2 ω2) w0 L0 β0 m [] nd.1.fr nd.1.H a w → HeadW P body (QF P fn on w0 L0 β0 r h) nd.1.p a w)
    {lf : Tr} {ρ : List AV} {ω : List AO} {o : Option Out} (hl : lf.leaf = true) (hmo : matchOut P fn m nodes lf o = true) (he : lf.eval sp next ρ ω = some (r, h)) :
    ∃ x, o = some x ∧ OutOK P (names on ρ ω) w0 L0 β0 m [] body (QF P fn on w0 L0 β0 r h) x := by
  unfold matchOut at hmo
  split at hmo
  · rename_i r0 H0 ex fr H'
    simp only [Bool.and_eq_true] at hmo
    obtain ⟨hex, hmo⟩ := hmo
    refine ⟨_, rfl, fun a w hF => ?_⟩
    split at hmo
    · rename_i v0 hv0
      simp only [fV_eq] at hmo
      split at hmo
      · rename_i v' h' hg
        simp only [Bool.and_eq_true] at hmo
        have e1 := AV.beq_eq _ _ hmo.1
        have e2 := beqH_eq _ _ hmo.2
        subst e1; subst e2
        simp only [Tr.eval] at he
        split at he
        · rename_i b hb hi1 hi2
          simp only [Option.some.injEq, Prod.mk.injEq] at he
          obtain ⟨rfl, rfl⟩ := he
          obtain ⟨β, D, s0, s1, s2, s3, s4, s5⟩ := hF
          obtain ⟨v, g1, g2⟩ := resultsA_ok (P := P) s1 s2 hv0
          obtain ⟨β', t1, t2, t3, t4⟩ := gcRet_ok s1 g2 hg
          have hpre := prefix_eq (β := β0) (β' := β') hm (fun i hi => (t4 i hi).trans (s4 i hi))
          obtain ⟨b', k1, k2⟩ := t2.inst
          have eh : D.hv = (nm ρ ω).hv := s0.hv
          have eo : D.ho = (nm ρ ω).ho := s0.ho
          rw [inst_on eh, hi1] at k1; cases k1
          have k3 := (Sim.iff_inst (by rw [instH_on eh eo]; exact hi2)).1 t1
          have hlive : ∀ b, LiveAt β' h' b ↔ LiveAt β' _ b := live_inst (by exact hi2)
          have hst := s3.trans t3
          refine ⟨(match ex, hex with | .norm, _ => .inl rfl | .ret, _ => .inr rfl), s5, v, β'.drop m, D.bare, g1, by rw [← hpre]; exact k3, by rw [← hpre]; exact k2, ?_, rfl, rfl, s0.on, s0.keep⟩
          rw [← hpre]
          exact ⟨hst.os, hst.tape, hst.output, hst.size, hst.kept, fun b hb hL hl => hst.dead b hb hL ((hlive b).2 hl), hst.shape⟩
        · simp at he
      · simp at hmo
    · simp at hmo
  · rename_i k vals objs p fr H'
    refine ⟨_, rfl, fun a w hF => ?_⟩
    split at hmo
    · rename_i nd hnd
      simp only [Bool.and_eq_true] at hmo
      obtain ⟨hp, hmo⟩ := hmo
      have := beqP_eq hp
      subst this
      split at hmo
      · rename_i fr2 H2 hc
        split at hmo
        · rename_i f h' hf hh
          simp only [Bool.and_eq_true] at hmo
          have e1 := beqLL_eq _ _ hmo.1
          have e2 := beqH_eq _ _ hmo.2
          subst e1; subst e2
          simp only [Tr.eval] at he
          split at he
          · rename_i l ol hl1 hl2
            exact hnext k l ol he nd hnd a w (Fin.goto hl1 hl2 hc hf hh hF)
          · simp at he
        · simp at hmo
      · simp at hmo
    · simp at hmo
  · simp [Tr.leaf] at hl
  · simp at hmo
end

theorem Reps.name {L : Env} {β : List Nat} {avs l : List AV} {vs : List Value} (h : instL L avs = some l) (hr : Reps w L.bare β l vs) : Reps w L β avs vs :=
  ⟨by rw [← instL_length h]; exact hr.1, fun k av v hk hv => by
    obtain ⟨a', h1, h2⟩ := instL_get h k av hk
    exact Rep.name h2 (hr.2 k a' v h1 hv)⟩

theorem flow_ok (hmix : P.follows .mixedOrders = true) {ok : FuncId → Bool} {ext : FuncId → Option Spec} (hext : ∀ f s, ext f = some s → SpecOK P f s)
    (hok : ∀ f, ok f = true → ∀ (args : Array Value) (w : World), (callFunc f args).run P w = .ok (.enter f args) w) {sp : Sps} (hsp : sp.ok P) {N : Nat} {F : Flow} (hc : F.check P ok ext N = true) (hf : ok F.f = true) (n : Nat) : SpecB P F.f (F.spec sp n) := by
  intro args H r H' hs on w β vs hS hR
  refine ⟨hok F.f hf _ w, ?_⟩
  unfold Flow.check at hc
  split at hc
  · rename_i fn hfn
    split at hc
    · rename_i body hb
      simp only [Bool.and_eq_true] at hc
      obtain ⟨hc1, hc2⟩ := hc
      have hcf : ∀ (C : Env) (T : Tab), TabOK P C T → CallOKs P C (callSub (tabCall T (full P T ok ext N))) := fun C T hT on => callSub_ok (tabCall_ok (hT.on (D := ⟨on, C.hv, C.ho⟩) rfl rfl) (full_ok hmix (hT.on (D := ⟨on, C.hv, C.ho⟩) rfl rfl) hext hok N))
      unfold Flow.spec at hs
      split at hs
      · rename_i ρ hb1
        split at hs
        · rename_i ρ2 ω2 hb2
          obtain ⟨_, hi1⟩ := bindL_ok hb1
          obtain ⟨⟨x', hx'⟩, ⟨y', hy'⟩, hi2⟩ := bindH_ok hb2
          have hia : instL (names on ρ2 ω2) F.args = some args := by
            rw [instL_nm, hx', hy']; exact instL_le (nm_le _ x' _ y') (hi1 [])
          have hih : instH (names on ρ2 ω2) F.H = some H := by rw [instH_nm]; exact hi2
          have hR' : Reps w (names on ρ2 ω2) β F.args vs := Reps.name hia hR
          have hS' : Sim (names on ρ2 ω2) w β F.H := (Sim.iff_inst hih).2 hS
          have hlive : ∀ b, LiveAt β F.H b ↔ LiveAt β H b := live_inst hih
          have hm : β.length = F.H.length := hS'.len
          -- the loops' heads
          have hnodes : ∀ (k : Nat) (nd : Node × Tr), F.nodes[k]? = some nd → checkTr P fn F.H.length F.nodes (startN P ok ext N F body nd.1) nd.2 ⟨[], [], []⟩ = true := by
            have : ∀ (l : List (Node × Tr)), checkNodes P ok ext N F fn body l = true → ∀ nd ∈ l, checkTr P fn F.H.length F.nodes (startN P ok ext N F body nd.1) nd.2 ⟨[], [], []⟩ = true := by
              intro l
              induction l with
              | nil => intro _ nd h; simp at h
              | cons a l ih =>
                intro h nd hnd
                simp only [checkNodes, Bool.and_eq_true] at h
                rcases List.mem_cons.1 hnd with rfl | hnd
                · exact h.1
                · exact ih h.2 nd hnd
            intro k nd hk
            exact this _ hc2 nd (List.mem_of_getElem? hk)
          have hheads : ∀ (j k : Nat) (ρ2 : List AV) (ω2 : List AO), F.next sp j k ρ2 ω2 = some (r, H') → ∀ nd, F.nodes[k]? = some nd → ∀ a w', Fin (names on ρ2 ω2) w (LiveAt β H) β F.H.length [] nd.1.fr nd.1.H a w' →
              HeadW P body (QF P fn on w (LiveAt β H) β r H') nd.1.p a w' := by
            intro j
            induction j with
            | zero => intro k ρ2 ω2 h; simp [Flow.next] at h
            | succ j ih =>
              intro k ρ2 ω2 h nd hnd a w' hF c K hcK
              simp only [Flow.next, hnd] at h
              have hemp : TabOK P (names on ρ2 ω2) ⟨[], [], []⟩ := ⟨⟨fun e he => by simp at he, fun e he => by simp at he⟩, fun e he => by simp at he⟩
              obtain ⟨T', ρ', ω', lf, g1, g2, g3, g4, g5⟩ := tr_ok (on := on) hsp _ _ _ _ (hnodes k nd hnd) hemp h
              obtain ⟨o, ho, hO⟩ := leaf_ok (on := on) (w0 := w) (L0 := LiveAt β H) (body := body) hm (fun k ρ2 ω2 hn nd hnd a w hF => ih k ρ2 ω2 hn nd hnd a w hF) g3 g4 g5
              simp only [startN, hcK] at ho
              refine loopW_round ?_
              exact (run_ok g1.1 (hcf _ _ g1) hmix (by rw [hm]; exact Nat.le_refl _) hO 100000).1 _ _ _ _ _ _ ho (by simp [codeAt, hcK]) a w' (hF.le g2)
          have hemp : TabOK P (names on ρ2 ω2) ⟨[], [], []⟩ := ⟨⟨fun e he => by simp at he, fun e he => by simp at he⟩, fun e he => by simp at he⟩
          obtain ⟨T', ρ', ω', lf, g1, g2, g3, g4, g5⟩ := tr_ok (on := on) hsp _ _ _ _ hc1 hemp hs
          obtain ⟨o, ho, hO⟩ := leaf_ok (on := on) (w0 := w) (L0 := LiveAt β H) (body := body) hm (fun k ρ2 ω2 hn nd hnd a w hF => hheads n k ρ2 ω2 hn nd hnd a w hF) g3 g4 g5
          simp only [startF, fF_eq, fH_eq] at ho
          have hfin : Fin (names on ρ2 ω2) w (LiveAt β H) β F.H.length [] (chunks (F.args ++ List.replicate (fn.ntmps - F.args.length) .undef)) F.H { tmps := vs.toArray ++ Array.replicate (fn.ntmps - vs.toArray.size) undef, defers := [] } w := by
            have st := Step.refl w (LiveAt β H)
            exact ⟨β, names on ρ2 ω2, ⟨rfl, rfl, fun _ h => h, fun b hb hc _ => hc⟩, hS', entry_rep hR' fn.ntmps, ⟨st.os, st.tape, st.output, st.size, st.kept, fun b hb hL hl => hL ((hlive b).1 hl), st.shape⟩, fun _ _ => rfl, rfl⟩
          have hrun := (run_ok g1.1 (hcf _ _ g1) hmix (by rw [hm]; exact Nat.le_refl _) hO 100000).1 _ _ _ _ _ _ ho (by simp [codeAt]) _ w (hfin.le g2)
          refine calls_of_wp hfn hb (Code.wp_mono (fun e a' w' hq => ?_) hrun)
          obtain ⟨hx, hd, v, βn, D, q1, q2, q3, q4, q5⟩ := hq
          have hpost : a'.defers = [] ∧ ∃ v, (results fn a'.tmps).run P w' = .ok v w' ∧ ∃ v' βn D, Ending.returned v = .returned v' ∧ Sim D w' (β ++ βn) H' ∧ Rep w' D (β ++ βn) r v' ∧ Step w (LiveAt β H) w' (LiveAt (β ++ βn) H') ∧ Cut (bareE on) w (LiveAt β H) D :=
            ⟨hd, v, q1, v, βn, D, rfl, q2, q3, q4, q5⟩
          rcases hx with rfl | rfl <;> exact hpost
        · simp at hs
      · simp at hs
    · simp at hc
  · simp at hc

end Go.Proofs.BoatV
