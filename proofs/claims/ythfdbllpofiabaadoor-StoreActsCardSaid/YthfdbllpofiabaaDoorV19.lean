/- A function's text as trees: from its entry, and from each cut loop's head, to the next head or to its answer; that the trees tell what it answers. -/
import Derived.Test.YthfdbllpofiabaaDoorV18
namespace Go.Proofs.BoatV
open Go
set_option linter.unusedVariables false
set_option linter.unusedSimpArgs false
variable {P : Program} {w : World}

/-! ### Trees -/
inductive Tr where
  | ret (r : AV) (H : Heap)
  | goto (k : Nat) (vals : List AV) (objs : List AO)
  | ask (key : Key) (args : List AV) (res : AV) (yes no : Tr)
  | call (f : FuncId) (args : List AV) (H : Heap) (res : AV) (H' : Heap) (yes no : Tr)
  | pcall (f : FuncId) (args : List AV) (H : Heap) (res : AV) (yes no : Tr)
  | hop (key : HKey) (args : List AV) (H : Heap) (res : AV) (H' : Heap) (yes no : Tr)
  | phop (key : HKey) (args : List AV) (H : Heap) (res : AV) (yes no : Tr)
  | fail

abbrev Spec := List AV → Heap → Option (AV × Heap)
/-- What is said of the functions called: with what they do to memory; of those that leave it as it was. -/
structure Sps where
  sp : FuncId → Spec
  pf : FuncId → List AV → Heap → Option AV
def pure1 (g : List AV → Heap → Option AV) : Spec := fun a h => match g a h with
  | some v => some (v, h)
  | none => none
def Sps.ok (P : Program) (S : Sps) : Prop := (∀ f, SpecB P f (S.sp f)) ∧ ∀ f, SpecB P f (pure1 (S.pf f))
/-- One way or the other. -/
def Tr.ite (k : Key) (args : List AV) (y n : Tr) : Tr := .ask k args (.bool true) y (.ask k args (.bool false) n .fail)
def Tr.pite (f : FuncId) (args : List AV) (H : Heap) (y n : Tr) : Tr := .pcall f args H (.bool true) y (.pcall f args H (.bool false) n .fail)

/-- Does it leave the memory as it is? -/
def HKey.quiet : HKey → Bool
  | .look _ _ _ | .mlen | .load _ | .toS => true
  | _ => false
def opP (k : HKey) (l : List AV) (h : Heap) : Option AV := if k.quiet then (opH k l h).map (·.1) else none
theorem opP_spec {k : HKey} {l : List AV} {h : Heap} {v : AV} (he : opP k l h = some v) : opH k l h = some (v, h) := by
  unfold opP at he
  split at he
  · rename_i hq
    simp only [Option.map_eq_some_iff] at he
    obtain ⟨⟨v', h'⟩, h1, rfl⟩ := he
    have : h' = h := by
      cases k <;> simp [HKey.quiet] at hq
      · unfold opH at h1
        split at h1 <;> try (rename_i e _; cases e; done)
        all_goals (try (cases ‹HKey.look _ _ _ = _›))
        · split at h1
          · split at h1
            · split at h1 <;> simp_all
            · simp at h1
          · simp at h1
        all_goals simp_all
      · unfold opH at h1
        split at h1 <;> simp_all
        obtain ⟨_, _, _, e⟩ := h1; exact e.symm
      · rename_i n
        cases n with
        | none => obtain ⟨_, _, _, _, _, _, e⟩ := load_none h1; exact e
        | some n => obtain ⟨_, _, _, _, _, _, _, e⟩ := load_some h1; exact e
      · obtain ⟨_, _, _, _, _, _, _, _, _, _, _, _, e⟩ := toS_args h1; exact e
    rw [h1, this]
  · simp at he
def Tr.eval (sp : Sps) (next : Nat → List AV → List AO → Option (AV × Heap)) : Tr → List AV → List AO → Option (AV × Heap)
  | .ret r H, ρ, ω => match r.inst (nm ρ ω), instH (nm ρ ω) H with
    | some a, some h => some (a, h)
    | _, _ => none
  | .goto k vals objs, ρ, ω => match instL (nm ρ ω) vals, instH (nm ρ ω) objs with
    | some l, some o => next k l o
    | _, _ => none
  | .ask key args res y n, ρ, ω => match instL (nm ρ ω) args with
    | some l => match opK key l with
      | some v => match bindV res v ρ with
        | some ρ' => y.eval sp next ρ' ω
        | none => n.eval sp next ρ ω
      | none => none
    | none => none
  | .call f args H res H' y n, ρ, ω => match instL (nm ρ ω) args, instH (nm ρ ω) H with
    | some l, some h => match sp.sp f l h with
      | some (v, h') => match bindV res v ρ with
        | some ρ' => match bindH H' h' ρ' ω with
          | some (ρ'', ω') => y.eval sp next ρ'' ω'
          | none => n.eval sp next ρ ω
        | none => n.eval sp next ρ ω
      | none => none
    | _, _ => none
  | .pcall f args H res y n, ρ, ω => match instL (nm ρ ω) args, instH (nm ρ ω) H with
    | some l, some h => match sp.pf f l h with
      | some v => match bindV res v ρ with
        | some ρ' => y.eval sp next ρ' ω
        | none => n.eval sp next ρ ω
      | none => none
    | _, _ => none
  | .hop key args H res H' y n, ρ, ω => match instL (nm ρ ω) args, instH (nm ρ ω) H with
    | some l, some h => match opH key l h with
      | some (v, h') => match bindV res v ρ with
        | some ρ' => match bindH H' h' ρ' ω with
          | some (ρ'', ω') => y.eval sp next ρ'' ω'
          | none => n.eval sp next ρ ω
        | none => n.eval sp next ρ ω
      | none => none
    | _, _ => none
  | .phop key args H res y n, ρ, ω => match instL (nm ρ ω) args, instH (nm ρ ω) H with
    | some l, some h => match opP key l h with
      | some v => match bindV res v ρ with
        | some ρ' => y.eval sp next ρ' ω
        | none => n.eval sp next ρ ω
      | none => none
    | _, _ => none
  | .fail, _, _ => none

structure Node where
  p : Path
  fr : Fr
  H : Heap
structure Flow where
  f : FuncId
  args : List AV
  H : Heap
  tr : Tr
  nodes : List (Node × Tr)

def Flow.next (sp : Sps) (F : Flow) : Nat → Nat → List AV → List AO → Option (AV × Heap)
  | 0, _, _, _ => none
  | n + 1, k, ρ, ω => match F.nodes[k]? with
    | some nd => nd.2.eval sp (F.next sp n) ρ ω
    | none => none
def Flow.spec (sp : Sps) (F : Flow) (n : Nat) : Spec := fun args H => match bindL F.args args [] with
  | some ρ => match bindH F.H H ρ [] with
    | some (ρ, ω) => F.tr.eval sp (F.next sp n) ρ ω
    | none => none
  | none => none

/-! ### Does a tree tell what the text does? -/
def forgetL : List AV → List AV → List AV
  | .top :: ps, _ :: vs => .top :: forgetL ps vs
  | _ :: ps, v :: vs => v :: forgetL ps vs
  | [], vs => vs
  | _, [] => []
def forgetF : Fr → Fr → Fr
  | p :: ps, v :: vs => forgetL p v :: forgetF ps vs
  | [], vs => vs
  | _, [] => []
def instF (L : Env) : Fr → Option Fr
  | [] => some []
  | c :: cs => match instL L c, instF L cs with
    | some a, some l => some (a :: l)
    | _, _ => none

def matchOut (P : Program) (fn : Func) (m : Nat) (nodes : List (Node × Tr)) (leaf : Tr) (o : Option Out) : Bool := match leaf, o with
  | .ret r H, some (.done ex fr H') => (match ex with | .exit _ => false | _ => true) && (match resultsA P fr H' fn.results.toList with
    | some v => match fV v fun v => gcRet m v H' with
      | some (v', h') => v'.beq r && beqH h' H
      | none => false
    | none => false)
  | .goto k vals objs, some (.head p fr H') => (match nodes[k]? with
    | some nd => beqP p nd.1.p && (match canon m (forgetF nd.1.fr fr) H' with
      | some (fr2, H2) => match instF (nm vals objs) nd.1.fr, instH (nm vals objs) nd.1.H with
        | some f, some h => beqLL f fr2 && beqH h H2
        | _, _ => false
      | none => false)
    | none => false)
  | .fail, _ => true
  | _, _ => false

def checkTr (P : Program) (fn : Func) (m : Nat) (nodes : List (Node × Tr)) (start : Tab → Option Out) : Tr → Tab → Bool
  | .ask key args res y n, T => checkTr P fn m nodes start y ⟨⟨key, args, res⟩ :: T.ops, T.calls, T.hops⟩ && checkTr P fn m nodes start n T
  | .call f args H res H' y n, T => checkTr P fn m nodes start y ⟨T.ops, ⟨f, args, H, res, H'⟩ :: T.calls, T.hops⟩ && checkTr P fn m nodes start n T
  | .pcall f args H res y n, T => checkTr P fn m nodes start y ⟨T.ops, ⟨f, args, H, res, H⟩ :: T.calls, T.hops⟩ && checkTr P fn m nodes start n T
  | .hop key args H res H' y n, T => checkTr P fn m nodes start y ⟨T.ops, T.calls, ⟨key, args, H, res, H'⟩ :: T.hops⟩ && checkTr P fn m nodes start n T
  | .phop key args H res y n, T => checkTr P fn m nodes start y ⟨T.ops, T.calls, ⟨key, args, H, res, H⟩ :: T.hops⟩ && checkTr P fn m nodes start n T
  | leaf, T => matchOut P fn m nodes leaf (start T)

def startF (P : Program) (ok : FuncId → Bool) (ext : FuncId → Option Spec) (n : Nat) (F : Flow) (fn : Func) (body : Code) (T : Tab) : Option Out :=
  fF (chunks (F.args ++ List.replicate (fn.ntmps - F.args.length) .undef)) fun fr0 => fH F.H fun H0 => run P T (tabCall T (full P T ok ext n)) n F.H.length (F.nodes.map (·.1.p)) 100000 (some (body, [])) .norm [] fr0 H0
def startN (P : Program) (ok : FuncId → Bool) (ext : FuncId → Option Spec) (n : Nat) (F : Flow) (body : Code) (nd : Node) (T : Tab) : Option Out := match codeAt body nd.p with
  | some (.loop c, K) => run P T (tabCall T (full P T ok ext n)) n F.H.length (F.nodes.map (·.1.p)) 100000 (some (c, 0 :: nd.p)) .norm (.loopK c nd.p :: K) nd.fr nd.H
  | _ => none
def checkNodes (P : Program) (ok : FuncId → Bool) (ext : FuncId → Option Spec) (n : Nat) (F : Flow) (fn : Func) (body : Code) : List (Node × Tr) → Bool
  | [] => true
  | nd :: r => checkTr P fn F.H.length F.nodes (startN P ok ext n F body nd.1) nd.2 ⟨[], [], []⟩ && checkNodes P ok ext n F fn body r
/-- Do all trees tell what the function's text does? -/
def Flow.check (P : Program) (ok : FuncId → Bool) (ext : FuncId → Option Spec) (n : Nat) (F : Flow) : Bool := match P.funcs[F.f]? with
  | some fn => match fn.body with
    | some body => checkTr P fn F.H.length F.nodes (startF P ok ext n F fn body) F.tr ⟨[], [], []⟩ && checkNodes P ok ext n F fn body F.nodes
    | none => false
  | none => false

/-! ### From names over names to names over values -/
theorem one_inst {L : Env} {b b' : AV} (h : b.inst L = some b') (h1 : b.one = true) : b'.one = true := by
  cases b with
  | hid t sc ids =>
    simp only [AV.inst] at h
    split at h
    · split at h
      · rename_i hc; simp at h; subst h; simp only [Bool.and_eq_true] at hc; exact hc.1
      · simp at h
    · simp at h
  | fn f caps => simp only [AV.inst, Option.map_eq_some_iff] at h; obtain ⟨l, _, rfl⟩ := h; rfl
  | agg cs => simp [AV.one] at h1
  | tup cs => simp [AV.one] at h1
  | ip cs => simp only [AV.inst, Option.map_eq_some_iff] at h; obtain ⟨l, _, rfl⟩ := h; rfl
  | im rows sz => simp only [AV.inst, Option.map_eq_some_iff] at h; obtain ⟨l, _, rfl⟩ := h; rfl
  | _ => simp only [AV.inst, Option.some.injEq] at h; subst h; exact h1
theorem scalar_inst {L : Env} {b b' : AV} (h : b.inst L = some b') (h1 : b.scalar = true) : b'.scalar = true := by
  cases b with
  | hid t sc ids =>
    simp only [AV.scalar] at h1; subst h1
    simp only [AV.inst] at h
    split at h
    · split at h
      · rename_i hc; simp at h; subst h; simp only [Bool.and_eq_true, Bool.not_true, Bool.false_or] at hc; exact hc.2
      · simp at h
    · simp at h
  | fn f caps => simp [AV.scalar] at h1
  | agg cs => simp [AV.scalar] at h1
  | tup cs => simp [AV.scalar] at h1
  | ip cs => simp [AV.scalar] at h1
  | im rows sz => simp [AV.scalar] at h1
  | _ => simp only [AV.inst, Option.some.injEq] at h; subst h; exact h1

mutual
/-- Renaming, then standing in for names: the other way round. -/
theorem inst_ren {L : Env} {σ : Nat → Option Nat} : ∀ {v b a : AV}, v.ren σ = some b → v.inst L = some a → ∃ b', b.inst L = some b' ∧ a.ren σ = some b'
  | .hid t sc ids, b, a, h, hi => by
    simp only [AV.ren, Option.map_eq_some_iff] at h
    obtain ⟨ids', h1, rfl⟩ := h
    simp only [AV.inst] at hi
    split at hi
    · rename_i a0 ha
      split at hi
      · rename_i hc
        simp at hi; subst hi
        obtain ⟨b', h2, h3⟩ := AV.ren_comp (over_comp h1) ha
        refine ⟨b', ?_, h3⟩
        simp only [AV.inst, h2]
        rw [AV.one_ren h3, AV.scalar_ren h3, if_pos hc]
      · simp at hi
    · simp at hi
  | .fn f caps, b, a, h, hi => by
    simp only [AV.ren, Option.map_eq_some_iff] at h
    simp only [AV.inst, Option.map_eq_some_iff] at hi
    obtain ⟨l, h1, rfl⟩ := h; obtain ⟨l2, h2, rfl⟩ := hi
    obtain ⟨l3, h3, h4⟩ := instL_ren h1 h2
    exact ⟨_, by simp only [AV.inst, h3, Option.map_some]; rfl, by simp only [AV.ren, h4, Option.map_some]⟩
  | .agg caps, b, a, h, hi => by
    simp only [AV.ren, Option.map_eq_some_iff] at h
    simp only [AV.inst, Option.map_eq_some_iff] at hi
    obtain ⟨l, h1, rfl⟩ := h; obtain ⟨l2, h2, rfl⟩ := hi
    obtain ⟨l3, h3, h4⟩ := instL_ren h1 h2
    exact ⟨_, by simp only [AV.inst, h3, Option.map_some]; rfl, by simp only [AV.ren, h4, Option.map_some]⟩
  | .tup caps, b, a, h, hi => by
    simp only [AV.ren, Option.map_eq_some_iff] at h
    simp only [AV.inst, Option.map_eq_some_iff] at hi
    obtain ⟨l, h1, rfl⟩ := h; obtain ⟨l2, h2, rfl⟩ := hi
    obtain ⟨l3, h3, h4⟩ := instL_ren h1 h2
    exact ⟨_, by simp only [AV.inst, h3, Option.map_some]; rfl, by simp only [AV.ren, h4, Option.map_some]⟩
  | .ip cs, b, a, h, hi => by
    simp only [AV.ren, Option.some.injEq] at h; subst h
    refine ⟨a, hi, ?_⟩
    simp only [AV.inst, Option.map_eq_some_iff] at hi; obtain ⟨l, _, rfl⟩ := hi; rfl
  | .im rows sz, b, a, h, hi => by
    simp only [AV.ren, Option.some.injEq] at h; subst h
    refine ⟨a, hi, ?_⟩
    simp only [AV.inst, Option.map_eq_some_iff] at hi; obtain ⟨l, _, rfl⟩ := hi; rfl
  | .ptr i off, b, a, h, hi => by
    simp only [AV.inst, Option.some.injEq] at hi; subst hi
    have h0 := h
    simp only [AV.ren, Option.map_eq_some_iff] at h
    obtain ⟨j, _, rfl⟩ := h; exact ⟨_, rfl, h0⟩
  | .sl i off len sz cap, b, a, h, hi => by
    simp only [AV.inst, Option.some.injEq] at hi; subst hi
    have h0 := h
    simp only [AV.ren, Option.map_eq_some_iff] at h
    obtain ⟨j, _, rfl⟩ := h; exact ⟨_, rfl, h0⟩
  | .mapv i, b, a, h, hi => by
    simp only [AV.inst, Option.some.injEq] at hi; subst hi
    have h0 := h
    simp only [AV.ren, Option.map_eq_some_iff] at h
    obtain ⟨j, _, rfl⟩ := h; exact ⟨_, rfl, h0⟩
  | .chv i, b, a, h, hi => by
    simp only [AV.inst, Option.some.injEq] at hi; subst hi
    have h0 := h
    simp only [AV.ren, Option.map_eq_some_iff] at h
    obtain ⟨j, _, rfl⟩ := h; exact ⟨_, rfl, h0⟩
  | .undef, b, a, h, hi => by simp only [AV.inst, Option.some.injEq] at hi; subst hi; have h0 := h; simp only [AV.ren, Option.some.injEq] at h; subst h; exact ⟨_, rfl, h0⟩
  | .bool _, b, a, h, hi => by simp only [AV.inst, Option.some.injEq] at hi; subst hi; have h0 := h; simp only [AV.ren, Option.some.injEq] at h; subst h; exact ⟨_, rfl, h0⟩
  | .int _ _, b, a, h, hi => by simp only [AV.inst, Option.some.injEq] at hi; subst hi; have h0 := h; simp only [AV.ren, Option.some.injEq] at h; subst h; exact ⟨_, rfl, h0⟩
  | .str _, b, a, h, hi => by simp only [AV.inst, Option.some.injEq] at hi; subst hi; have h0 := h; simp only [AV.ren, Option.some.injEq] at h; subst h; exact ⟨_, rfl, h0⟩
  | .nilp, b, a, h, hi => by simp only [AV.inst, Option.some.injEq] at hi; subst hi; have h0 := h; simp only [AV.ren, Option.some.injEq] at h; subst h; exact ⟨_, rfl, h0⟩
  | .snil, b, a, h, hi => by simp only [AV.inst, Option.some.injEq] at hi; subst hi; have h0 := h; simp only [AV.ren, Option.some.injEq] at h; subst h; exact ⟨_, rfl, h0⟩
  | .e0, b, a, h, hi => by simp only [AV.inst, Option.some.injEq] at hi; subst hi; have h0 := h; simp only [AV.ren, Option.some.injEq] at h; subst h; exact ⟨_, rfl, h0⟩
  | .nilf, b, a, h, hi => by simp only [AV.inst, Option.some.injEq] at hi; subst hi; have h0 := h; simp only [AV.ren, Option.some.injEq] at h; subst h; exact ⟨_, rfl, h0⟩
  | .top, b, a, h, hi => by simp only [AV.inst, Option.some.injEq] at hi; subst hi; have h0 := h; simp only [AV.ren, Option.some.injEq] at h; subst h; exact ⟨_, rfl, h0⟩
theorem instL_ren {L : Env} {σ : Nat → Option Nat} : ∀ {v b a : List AV}, renL σ v = some b → instL L v = some a → ∃ b', instL L b = some b' ∧ renL σ a = some b'
  | [], b, a, h, hi => by simp [renL] at h; simp [instL] at hi; subst h; subst hi; exact ⟨[], rfl, rfl⟩
  | v :: vs, b, a, h, hi => by
    simp only [renL] at h
    simp only [instL] at hi
    split at h
    · rename_i v1 l1 h1 h2
      split at hi
      · rename_i v2 l2 h3 h4
        simp at h hi; subst h; subst hi
        obtain ⟨x, h5, h6⟩ := inst_ren h1 h3
        obtain ⟨y, h7, h8⟩ := instL_ren h2 h4
        exact ⟨x :: y, by simp [instL, h5, h7], by simp [renL, h6, h8]⟩
      · simp at hi
    · simp at h
end
theorem instE_ren {L : Env} {σ : Nat → Option Nat} : ∀ {v b a : List (AV × AV)}, renE σ v = some b → instE L v = some a → ∃ b', instE L b = some b' ∧ renE σ a = some b'
  | [], b, a, h, hi => by simp [renE] at h; simp [instE] at hi; subst h; subst hi; exact ⟨[], rfl, rfl⟩
  | (k, v) :: vs, b, a, h, hi => by
    simp only [renE] at h
    simp only [instE] at hi
    split at h
    · rename_i k1 v1 l1 h0 h1 h2
      split at hi
      · rename_i k2 v2 l2 h30 h3 h4
        simp at h hi; subst h; subst hi
        obtain ⟨z, h9, h10⟩ := inst_ren h0 h30
        obtain ⟨x, h5, h6⟩ := inst_ren h1 h3
        obtain ⟨y, h7, h8⟩ := instE_ren h2 h4
        exact ⟨(z, x) :: y, by simp [instE, h5, h7, h9], by simp [renE, h6, h8, h10]⟩
      · simp at hi
    · simp at h
theorem instO_ren {L : Env} {σ : Nat → Option Nat} {v b a : AO} (h : v.ren σ = some b) (hi : v.inst L = some a) : ∃ b', b.inst L = some b' ∧ a.ren σ = some b' := by
  cases v with
  | dead => simp only [AO.inst, Option.some.injEq] at hi; subst hi; have h0 := h; simp only [AO.ren, Option.some.injEq] at h; subst h; exact ⟨_, rfl, h0⟩
  | row cs =>
    simp only [AO.ren, Option.map_eq_some_iff] at h
    simp only [AO.inst, Option.map_eq_some_iff] at hi
    obtain ⟨l, h1, rfl⟩ := h; obtain ⟨l2, h2, rfl⟩ := hi
    obtain ⟨l3, h3, h4⟩ := instL_ren h1 h2
    exact ⟨_, by simp only [AO.inst, h3, Option.map_some]; rfl, by simp only [AO.ren, h4, Option.map_some]⟩
  | chan cap buf =>
    simp only [AO.ren, Option.map_eq_some_iff] at h
    simp only [AO.inst, Option.map_eq_some_iff] at hi
    obtain ⟨l, h1, rfl⟩ := h; obtain ⟨l2, h2, rfl⟩ := hi
    obtain ⟨l3, h3, h4⟩ := instL_ren h1 h2
    exact ⟨_, by simp only [AO.inst, h3, Option.map_some]; rfl, by simp only [AO.ren, h4, Option.map_some]⟩
  | map es =>
    simp only [AO.ren, Option.map_eq_some_iff] at h
    simp only [AO.inst, Option.map_eq_some_iff] at hi
    obtain ⟨l, h1, rfl⟩ := h; obtain ⟨l2, h2, rfl⟩ := hi
    obtain ⟨l3, h3, h4⟩ := instE_ren h1 h2
    exact ⟨_, by simp only [AO.inst, h3, Option.map_some]; rfl, by simp only [AO.ren, h4, Option.map_some]⟩
  | hid t ids =>
    simp only [AO.ren, Option.map_eq_some_iff] at h
    obtain ⟨ids', h1, rfl⟩ := h
    simp only [AO.inst] at hi
    split at hi
    · cases hi
    · rename_i hne
      obtain ⟨b', h2, h3⟩ := AO.ren_comp (over_comp h1) hi
      refine ⟨b', ?_, h3⟩
      simp only [AO.inst, h2]
      have hb : b' ≠ .dead := fun e => by
        subst e
        have := (ren_dead h3).1 rfl
        subst this
        exact hne hi
      split
      · rename_i e; simp at e; exact absurd e hb
      · rfl

theorem nm_hv {ρ : List AV} {ω : List AO} {t : Nat} (h : (nm ρ ω).hv t ≠ .undef) : ρ[t]? = some ((nm ρ ω).hv t) := by
  simp only [nm, names, List.getD_eq_getElem?_getD] at h ⊢
  cases hg : ρ[t]? with
  | none => simp [hg] at h
  | some a => simp
theorem nm_ho {ρ : List AV} {ω : List AO} {t : Nat} (h : (nm ρ ω).ho t ≠ .dead) : ω[t]? = some ((nm ρ ω).ho t) := by
  simp only [nm, names, List.getD_eq_getElem?_getD] at h ⊢
  cases hg : ω[t]? with
  | none => simp [hg] at h
  | some a => simp

mutual
/-- Names that stand for named values: stood in for at once. -/
theorem inst_inst {L : Env} {vals ρ : List AV} {objs ω : List AO} (hv : instL L vals = some ρ) : ∀ {av b b' : AV}, av.inst (nm vals objs) = some b → b.inst L = some b' → av.inst (nm ρ ω) = some b'
  | .hid t sc ids, b, b', h, hb => by
    simp only [AV.inst] at h
    split at h
    · rename_i a0 ha
      split at h
      · rename_i hc
        simp at h; subst h
        simp only [Bool.and_eq_true] at hc
        have hu : (nm vals objs).hv t ≠ .undef := ren_undef ha hc.1
        obtain ⟨x, h1, h2⟩ := instL_get hv t _ (nm_hv hu)
        obtain ⟨y, h3, h4⟩ := inst_ren ha h2
        rw [hb] at h3; cases h3
        have e : (nm ρ ω).hv t = x := by simp [nm, names, List.getD_eq_getElem?_getD, h1]
        have hc' : (b'.one && (!sc || b'.scalar)) = true := by
          simp only [Bool.and_eq_true]
          refine ⟨one_inst hb hc.1, ?_⟩
          cases sc with
          | false => rfl
          | true => simp only [Bool.not_true, Bool.false_or] at hc ⊢; exact scalar_inst hb hc.2
        simp only [AV.inst, e, h4, hc', if_true]
      · simp at h
    · simp at h
  | .fn f caps, b, b', h, hb => by
    simp only [AV.inst, Option.map_eq_some_iff] at h; obtain ⟨l, h1, rfl⟩ := h
    simp only [AV.inst, Option.map_eq_some_iff] at hb ⊢; obtain ⟨l2, h2, rfl⟩ := hb
    exact ⟨l2, instL_inst hv h1 h2, rfl⟩
  | .agg caps, b, b', h, hb => by
    simp only [AV.inst, Option.map_eq_some_iff] at h; obtain ⟨l, h1, rfl⟩ := h
    simp only [AV.inst, Option.map_eq_some_iff] at hb ⊢; obtain ⟨l2, h2, rfl⟩ := hb
    exact ⟨l2, instL_inst hv h1 h2, rfl⟩
  | .tup caps, b, b', h, hb => by
    simp only [AV.inst, Option.map_eq_some_iff] at h; obtain ⟨l, h1, rfl⟩ := h
    simp only [AV.inst, Option.map_eq_some_iff] at hb ⊢; obtain ⟨l2, h2, rfl⟩ := hb
    exact ⟨l2, instL_inst hv h1 h2, rfl⟩
  | .ip caps, b, b', h, hb => by
    simp only [AV.inst, Option.map_eq_some_iff] at h; obtain ⟨l, h1, rfl⟩ := h
    simp only [AV.inst, Option.map_eq_some_iff] at hb ⊢; obtain ⟨l2, h2, rfl⟩ := hb
    exact ⟨l2, instL_inst hv h1 h2, rfl⟩
  | .im rows sz, b, b', h, hb => by
    simp only [AV.inst, Option.map_eq_some_iff] at h; obtain ⟨l, h1, rfl⟩ := h
    simp only [AV.inst, Option.map_eq_some_iff] at hb ⊢; obtain ⟨l2, h2, rfl⟩ := hb
    exact ⟨l2, instLL_inst hv h1 h2, rfl⟩
  | .undef, b, b', h, hb => by simp only [AV.inst, Option.some.injEq] at h; subst h; exact hb
  | .bool _, b, b', h, hb => by simp only [AV.inst, Option.some.injEq] at h; subst h; exact hb
  | .int _ _, b, b', h, hb => by simp only [AV.inst, Option.some.injEq] at h; subst h; exact hb
  | .str _, b, b', h, hb => by simp only [AV.inst, Option.some.injEq] at h; subst h; exact hb
  | .nilp, b, b', h, hb => by simp only [AV.inst, Option.some.injEq] at h; subst h; exact hb
  | .ptr _ _, b, b', h, hb => by simp only [AV.inst, Option.some.injEq] at h; subst h; exact hb
  | .snil, b, b', h, hb => by simp only [AV.inst, Option.some.injEq] at h; subst h; exact hb
  | .e0, b, b', h, hb => by simp only [AV.inst, Option.some.injEq] at h; subst h; exact hb
  | .sl _ _ _ _ _, b, b', h, hb => by simp only [AV.inst, Option.some.injEq] at h; subst h; exact hb
  | .nilf, b, b', h, hb => by simp only [AV.inst, Option.some.injEq] at h; subst h; exact hb
  | .mapv _, b, b', h, hb => by simp only [AV.inst, Option.some.injEq] at h; subst h; exact hb
  | .chv _, b, b', h, hb => by simp only [AV.inst, Option.some.injEq] at h; subst h; exact hb
  | .top, b, b', h, hb => by simp only [AV.inst, Option.some.injEq] at h; subst h; exact hb
theorem instL_inst {L : Env} {vals ρ : List AV} {objs ω : List AO} (hv : instL L vals = some ρ) : ∀ {av b b' : List AV}, instL (nm vals objs) av = some b → instL L b = some b' → instL (nm ρ ω) av = some b'
  | [], b, b', h, hb => by simp [instL] at h; subst h; exact hb
  | v :: vs, b, b', h, hb => by
    simp only [instL] at h
    split at h
    · rename_i x r h1 h2
      simp at h; subst h
      simp only [instL] at hb ⊢
      split at hb
      · rename_i y s h3 h4
        rw [inst_inst hv h1 h3, instL_inst hv h2 h4]; exact hb
      · simp at hb
    · simp at h
theorem instLL_inst {L : Env} {vals ρ : List AV} {objs ω : List AO} (hv : instL L vals = some ρ) : ∀ {av b b' : List (List AV)}, instLL (nm vals objs) av = some b → instLL L b = some b' → instLL (nm ρ ω) av = some b'
  | [], b, b', h, hb => by simp [instLL] at h; subst h; exact hb
  | v :: vs, b, b', h, hb => by
    simp only [instLL] at h
    split at h
    · rename_i x r h1 h2
      simp at h; subst h
      simp only [instLL] at hb ⊢
      split at hb
      · rename_i y s h3 h4
        rw [instL_inst hv h1 h3, instLL_inst hv h2 h4]; exact hb
      · simp at hb
    · simp at h
end
theorem instE_inst {L : Env} {vals ρ : List AV} {objs ω : List AO} (hv : instL L vals = some ρ) : ∀ {av b b' : List (AV × AV)}, instE (nm vals objs) av = some b → instE L b = some b' → instE (nm ρ ω) av = some b'
  | [], b, b', h, hb => by simp [instE] at h; subst h; exact hb
  | (k, v) :: vs, b, b', h, hb => by
    simp only [instE] at h
    split at h
    · rename_i z x r h0 h1 h2
      simp at h; subst h
      simp only [instE] at hb ⊢
      split at hb
      · rename_i y0 y s h30 h3 h4
        rw [inst_inst hv h0 h30, inst_inst hv h1 h3, instE_inst hv h2 h4]; exact hb
      · simp at hb
    · simp at h
theorem instO_inst {L : Env} {vals ρ : List AV} {objs ω : List AO} (hv : instL L vals = some ρ) (ho : instH L objs = some ω) {o b b' : AO} (h : o.inst (nm vals objs) = some b) (hb : b.inst L = some b') : o.inst (nm ρ ω) = some b' := by
  cases o with
  | dead => simp only [AO.inst, Option.some.injEq] at h; subst h; exact hb
  | row cs =>
    simp only [AO.inst, Option.map_eq_some_iff] at h; obtain ⟨l, h1, rfl⟩ := h
    simp only [AO.inst, Option.map_eq_some_iff] at hb ⊢; obtain ⟨l2, h2, rfl⟩ := hb
    exact ⟨l2, instL_inst hv h1 h2, rfl⟩
  | chan cap buf =>
    simp only [AO.inst, Option.map_eq_some_iff] at h; obtain ⟨l, h1, rfl⟩ := h
    simp only [AO.inst, Option.map_eq_some_iff] at hb ⊢; obtain ⟨l2, h2, rfl⟩ := hb
    exact ⟨l2, instL_inst hv h1 h2, rfl⟩
  | map cs =>
    simp only [AO.inst, Option.map_eq_some_iff] at h; obtain ⟨l, h1, rfl⟩ := h
    simp only [AO.inst, Option.map_eq_some_iff] at hb ⊢; obtain ⟨l2, h2, rfl⟩ := hb
    exact ⟨l2, instE_inst hv h1 h2, rfl⟩
  | hid t ids =>
    simp only [AO.inst] at h
    split at h
    · cases h
    · rename_i hne
      have hu : (nm vals objs).ho t ≠ .dead := fun e => by rw [renO_dead e] at hne h; exact hne rfl
      obtain ⟨x, h1, h2⟩ := instH_get ho t _ (nm_ho hu)
      obtain ⟨y, h3, h4⟩ := instO_ren h h2
      rw [hb] at h3; cases h3
      have e : (nm ρ ω).ho t = x := by simp [nm, names, List.getD_eq_getElem?_getD, h1]
      simp only [AO.inst, e, h4]
      have hb' : b' ≠ .dead := fun e => by
        subst e
        have hbd := (inst_dead hb).1 rfl
        subst hbd
        exact hne h
      split
      · rename_i e; simp at e; exact absurd e hb'
      · rfl

end Go.Proofs.BoatV
