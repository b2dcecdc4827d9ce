/- Parts of a memory, named anew; calls. -/
import Derived.Test.YthfdbllpofiabaaDoorV11
namespace Go.Proofs.BoatV
open Go
set_option linter.unusedVariables false
set_option linter.unusedSimpArgs false
variable {P : Program} {L : Env} {w : World} {β : List Nat} {H : Heap}

/-! ### Lists of numbers -/
theorem nodupB_get : ∀ {l : List Nat}, nodupB l = true → ∀ {i j : Nat} {a : Nat}, l[i]? = some a → l[j]? = some a → i = j
  | [], _, i, j, a, h1, h2 => by simp at h1
  | x :: r, h, i, j, a, h1, h2 => by
    simp only [nodupB, Bool.and_eq_true, Bool.not_eq_true'] at h
    have hx : x ∉ r := by
      intro hm; have : r.elem x = true := by simpa using hm
      rw [this] at h; cases h.1
    cases i with
    | zero =>
      cases j with
      | zero => rfl
      | succ j =>
        simp at h1 h2; subst h1
        exact absurd (List.mem_of_getElem? h2) hx
    | succ i =>
      cases j with
      | zero =>
        simp at h1 h2; subst h2
        exact absurd (List.mem_of_getElem? h1) hx
      | succ j =>
        have := nodupB_get h.2 (i := i) (j := j) (by simpa using h1) (by simpa using h2)
        omega

theorem idxOf_spec : ∀ {l : List Nat} {i j : Nat}, idxOf i l = some j → l[j]? = some i
  | [], i, j, h => by simp [idxOf] at h
  | x :: r, i, j, h => by
    simp only [idxOf] at h
    split at h
    · rename_i he
      simp at h he; subst h; subst he; rfl
    · simp only [Option.map_eq_some_iff] at h
      obtain ⟨k, hk, rfl⟩ := h
      simpa using idxOf_spec hk

theorem renE_spec {σ : Nat → Option Nat} : ∀ {es es' : List (AV × AV)}, renE σ es = some es' → es'.length = es.length ∧ ∀ (k : Nat) (e' : AV × AV), es'[k]? = some e' → ∃ e, es[k]? = some e ∧ e.1.ren σ = some e'.1 ∧ e.2.ren σ = some e'.2
  | [], es', h => by simp [renE] at h; subst h; exact ⟨rfl, fun k e' h => by simp at h⟩
  | (k, v) :: es, es', h => by
    simp only [renE] at h
    split at h
    · rename_i k' v' l hk hv hl
      simp at h; subst h
      obtain ⟨h1, h2⟩ := renE_spec hl
      refine ⟨by simp [h1], fun q e' hq => ?_⟩
      cases q with
      | zero => simp at hq; subst hq; exact ⟨_, rfl, hk, hv⟩
      | succ q => simpa using h2 q e' (by simpa using hq)
    · simp at h

theorem AO.ren_comp {ρ σ ρ' : Nat → Option Nat} (hσ : ∀ k i, ρ k = some i → ∃ j, σ i = some j ∧ ρ' k = some j) {v a : AO} (h : v.ren ρ = some a) : ∃ a', v.ren ρ' = some a' ∧ a.ren σ = some a' := by
  have hE : ∀ {l a : List (AV × AV)}, renE ρ l = some a → ∃ a', renE ρ' l = some a' ∧ renE σ a = some a' := by
    intro l
    induction l with
    | nil => intro a h; simp [renE] at h; subst h; exact ⟨[], rfl, rfl⟩
    | cons e es ih =>
      intro a h
      obtain ⟨k, v⟩ := e
      simp only [renE] at h
      split at h
      · rename_i k' v' l hk hv hl
        simp at h; subst h
        obtain ⟨k1, h1, h2⟩ := AV.ren_comp hσ hk
        obtain ⟨v1, h3, h4⟩ := AV.ren_comp hσ hv
        obtain ⟨l1, h5, h6⟩ := ih hl
        exact ⟨(k1, v1) :: l1, by simp [renE, h1, h3, h5], by simp [renE, h2, h4, h6]⟩
      · simp at h
  cases v with
  | dead => simp only [AO.ren, Option.some.injEq] at h; subst h; exact ⟨_, rfl, rfl⟩
  | row cs =>
    simp only [AO.ren, Option.map_eq_some_iff] at h
    obtain ⟨l, hl, rfl⟩ := h
    obtain ⟨l', h1, h2⟩ := renL_comp hσ hl
    exact ⟨_, by simp only [AO.ren, h1, Option.map_some]; rfl, by simp only [AO.ren, h2, Option.map_some]⟩
  | chan cap buf =>
    simp only [AO.ren, Option.map_eq_some_iff] at h
    obtain ⟨l, hl, rfl⟩ := h
    obtain ⟨l', h1, h2⟩ := renL_comp hσ hl
    exact ⟨_, by simp only [AO.ren, h1, Option.map_some]; rfl, by simp only [AO.ren, h2, Option.map_some]⟩
  | map es =>
    simp only [AO.ren, Option.map_eq_some_iff] at h
    obtain ⟨l, hl, rfl⟩ := h
    obtain ⟨l', h1, h2⟩ := hE hl
    exact ⟨_, by simp only [AO.ren, h1, Option.map_some]; rfl, by simp only [AO.ren, h2, Option.map_some]⟩
  | hid t ids =>
    simp only [AO.ren, Option.map_eq_some_iff] at h
    obtain ⟨l, hl, rfl⟩ := h
    obtain ⟨l', h1, h2⟩ := renI_comp hσ hl
    exact ⟨_, by simp only [AO.ren, h1, Option.map_some]; rfl, by simp only [AO.ren, h2, Option.map_some]⟩

theorem RepO.ren {L : Env} {β : List Nat} {o : AO} {x : Obj} (h : RepO w L β o x) : ∀ {β' : List Nat} {o' : AO} {σ : Nat → Option Nat}, (∀ (i j b : Nat), σ i = some j → β[i]? = some b → β'[j]? = some b) → o.ren σ = some o' → RepO w L β' o' x := by
  induction h with
  | row cs vs e fr hlen hfr h =>
    intro β' o' σ hσ hr
    simp only [AO.ren, Option.map_eq_some_iff] at hr
    obtain ⟨cs', hc, rfl⟩ := hr
    refine .row cs' vs e fr (by rw [renL_length hc]; exact hlen) hfr (fun k av hk => ?_)
    obtain ⟨a0, h3, h4⟩ := renL_get hc k av hk
    obtain ⟨v, hv, hrep⟩ := h k a0 h3
    exact ⟨v, hv, hrep.ren hσ h4⟩
  | map es ms clock hst hE =>
    intro β' o' σ hσ hr
    simp only [AO.ren, Option.map_eq_some_iff] at hr
    obtain ⟨es', hc, rfl⟩ := hr
    obtain ⟨h1, h2⟩ := renE_spec hc
    refine .map es' ms clock hst ⟨by rw [h1]; exact hE.1, fun k e m hk hm => ?_⟩
    obtain ⟨e0, h3, h4, h5⟩ := h2 k e hk
    exact ⟨(hE.2 k e0 m h3 hm).1.ren hσ h4, (hE.2 k e0 m h3 hm).2.ren hσ h5⟩
  | chan cap buf vs s r tm hR =>
    intro β' o' σ hσ hr
    simp only [AO.ren, Option.map_eq_some_iff] at hr
    obtain ⟨buf', hc, rfl⟩ := hr
    exact .chan cap buf' vs s r tm (hR.ren hσ hc)
  | hid t ids o x ha h ih =>
    intro β' o' σ hσ hr
    simp only [AO.ren, Option.map_eq_some_iff] at hr
    obtain ⟨ids', hi, rfl⟩ := hr
    obtain ⟨a', h1, h2⟩ := AO.ren_comp (over_comp hi) ha
    exact .hid t ids' a' x h1 (ih hσ h2)

theorem ren_dead {σ : Nat → Option Nat} {o o' : AO} (h : o.ren σ = some o') : o' = .dead ↔ o = .dead := by
  cases o with
  | dead => simp [AO.ren] at h; subst h; simp
  | row cs => simp only [AO.ren, Option.map_eq_some_iff] at h; obtain ⟨c, _, rfl⟩ := h; simp
  | map es => simp only [AO.ren, Option.map_eq_some_iff] at h; obtain ⟨c, _, rfl⟩ := h; simp
  | chan cap buf => simp only [AO.ren, Option.map_eq_some_iff] at h; obtain ⟨c, _, rfl⟩ := h; simp
  | hid t ids => simp only [AO.ren, Option.map_eq_some_iff] at h; obtain ⟨c, _, rfl⟩ := h; simp

theorem restrict_spec {σ : Nat → Option Nat} {H : Heap} : ∀ {ord : List Nat} {H1 : Heap}, restrict σ H ord = some H1 → H1.length = ord.length ∧ ∀ (k : Nat) (o' : AO), H1[k]? = some o' → ∃ i o, ord[k]? = some i ∧ H[i]? = some o ∧ o.ren σ = some o'
  | [], H1, h => by simp [restrict] at h; subst h; exact ⟨rfl, fun k o' h => by simp at h⟩
  | i :: r, H1, h => by
    simp only [restrict] at h
    split at h
    · rename_i o l h1 h2
      simp at h; subst h
      simp only [Option.bind_eq_some_iff] at h1
      obtain ⟨o0, h3, h4⟩ := h1
      obtain ⟨h5, h6⟩ := restrict_spec h2
      refine ⟨by simp [h5], fun k o' hk => ?_⟩
      cases k with
      | zero => simp at hk; subst hk; exact ⟨i, o0, rfl, h3, h4⟩
      | succ k => simpa using h6 k o' (by simpa using hk)
    · simp at h

def pick (β ord : List Nat) : List Nat := ord.map fun i => β.getD i 0

theorem pick_get {β ord : List Nat} {k i b : Nat} (h : ord[k]? = some i) (hb : β[i]? = some b) : (pick β ord)[k]? = some b := by
  simp [pick, h, List.getD_eq_getElem?_getD, hb]

/-- A part of the memory, by new numbers. -/
theorem restrict_ok (hS : Sim L w β H) {ord : List Nat} (hn : nodupB ord = true) {H1 : Heap} (h : restrict (idxOf · ord) H ord = some H1) :
    Sim L w (pick β ord) H1 ∧ Step w (LiveAt β H) w (LiveAt (pick β ord) H1) ∧ (∀ (i j b : Nat), idxOf i ord = some j → β[i]? = some b → (pick β ord)[j]? = some b) := by
  obtain ⟨hl, hg⟩ := restrict_spec h
  have hβ : ∀ (k : Nat) (o' : AO) (b : Nat), H1[k]? = some o' → (pick β ord)[k]? = some b → ∃ i o, ord[k]? = some i ∧ H[i]? = some o ∧ o.ren (idxOf · ord) = some o' ∧ β[i]? = some b := by
    intro k o' b hk hb
    obtain ⟨i, o, h1, h2, h3⟩ := hg k o' hk
    have hlt : i < β.length := by rw [hS.len]; exact (List.getElem?_eq_some_iff.1 h2).1
    have := pick_get h1 (List.getElem?_eq_getElem hlt)
    rw [this] at hb; cases hb
    exact ⟨i, o, h1, h2, h3, List.getElem?_eq_getElem hlt⟩
  have hσ : ∀ (i j b : Nat), idxOf i ord = some j → β[i]? = some b → (pick β ord)[j]? = some b := fun i j b hi hb => pick_get (idxOf_spec hi) hb
  have hlv : ∀ b, LiveAt (pick β ord) H1 b → LiveAt β H b := fun b ⟨k, o', h1, h2, h3⟩ => by
    obtain ⟨i, o, h4, h5, h6, h7⟩ := hβ k o' b h1 h3
    exact ⟨i, o, h5, fun e => h2 ((ren_dead h6).2 e), h7⟩
  have hst : Step w (LiveAt β H) w (LiveAt (pick β ord) H1) := Step.less hlv
  refine ⟨⟨by simp [pick, hl], fun k b hb => ?_, fun k k' o o' b h1 h2 h3 h4 h5 h6 => ?_, fun k o b h1 h2 h3 => ?_, fun b hb => hS.dis b (hlv b hb), hS.big⟩, hst, hσ⟩
  · have hk : k < H1.length := by rw [hl]; have := (List.getElem?_eq_some_iff.1 hb).1; simpa [pick] using this
    obtain ⟨i, o, _, _, _, h7⟩ := hβ k _ b (List.getElem?_eq_getElem hk) hb
    exact hS.lt i b h7
  · obtain ⟨i, x, a1, a2, a3, a4⟩ := hβ k o b h1 h5
    obtain ⟨i', x', b1, b2, b3, b4⟩ := hβ k' o' b h3 h6
    have := hS.inj i i' x x' b a2 (fun e => h2 ((ren_dead a3).2 e)) b2 (fun e => h4 ((ren_dead b3).2 e)) a4 b4
    subst this
    exact nodupB_get hn a1 b1
  · obtain ⟨i, x, a1, a2, a3, a4⟩ := hβ k o b h1 h3
    obtain ⟨z, hz, hr⟩ := hS.obj i x b a2 (fun e => h2 ((ren_dead a3).2 e)) a4
    exact ⟨z, hz, hr.ren hσ a3⟩

/-! ### Frames -/
theorem renF_spec {σ : Nat → Option Nat} : ∀ {fr fr' : Fr}, renF σ fr = some fr' → fr'.length = fr.length ∧ ∀ (k : Nat) (c' : List AV), fr'[k]? = some c' → ∃ c, fr[k]? = some c ∧ renL σ c = some c'
  | [], fr', h => by simp [renF] at h; subst h; exact ⟨rfl, fun k c h => by simp at h⟩
  | c :: cs, fr', h => by
    simp only [renF] at h
    split at h
    · rename_i c' cs' h1 h2
      simp at h; subst h
      obtain ⟨h3, h4⟩ := renF_spec h2
      refine ⟨by simp [h3], fun k d hk => ?_⟩
      cases k with
      | zero => simp at hk; subst hk; exact ⟨c, rfl, h1⟩
      | succ k => simpa using h4 k d (by simpa using hk)
    · simp at h

theorem FrRep.ren {L : Env} {β' : List Nat} {fr fr' : Fr} {tmps : Array Value} (h : FrRep w L β fr tmps) {σ : Nat → Option Nat} (hσ : ∀ (i j b : Nat), σ i = some j → β[i]? = some b → β'[j]? = some b) (hr : renF σ fr = some fr') : FrRep w L β' fr' tmps := by
  obtain ⟨hl, hg⟩ := renF_spec hr
  have hrow : ∀ k, (∃ c c', fr[k]? = some c ∧ fr'[k]? = some c' ∧ renL σ c = some c') ∨ (fr[k]? = none ∧ fr'[k]? = none) := fun k => by
    rcases Nat.lt_or_ge k fr'.length with h | h
    · obtain ⟨c, h1, h2⟩ := hg k _ (List.getElem?_eq_getElem h)
      exact .inl ⟨c, _, h1, List.getElem?_eq_getElem h, h2⟩
    · exact .inr ⟨List.getElem?_eq_none (by omega), List.getElem?_eq_none (by omega)⟩
  refine ⟨fun t => ?_, fun t => ?_⟩
  · have hv := h.val t
    have ed : ∀ n, Nat.div n 8 = n / 8 := fun _ => rfl
    have em : ∀ n, Nat.mod n 8 = n % 8 := fun _ => rfl
    simp only [fget, ed, em] at hv ⊢
    rcases hrow (t / 8) with ⟨c, c', h1, h2, h3⟩ | ⟨h1, h2⟩
    · simp only [List.getD_eq_getElem?_getD, h1, h2, Option.getD_some] at hv ⊢
      rcases Nat.lt_or_ge (t % 8) c'.length with hlt | hge
      · obtain ⟨a, h4, h5⟩ := renL_get h3 _ _ (List.getElem?_eq_getElem hlt)
        rw [h4] at hv
        rw [List.getElem?_eq_getElem hlt]
        exact hv.ren hσ h5
      · have hge' : c.length ≤ t % 8 := by rw [← renL_length h3]; exact hge
        rw [List.getElem?_eq_none hge'] at hv
        rw [List.getElem?_eq_none hge]
        exact hv.ren hσ (by simp [AV.ren])
    · simp only [List.getD_eq_getElem?_getD, h1, h2, Option.getD_none, List.getElem?_nil] at hv ⊢
      exact hv.ren hσ (by simp [AV.ren])
  · rw [← h.bnd t]
    unfold inb
    rcases hrow (t / 8) with ⟨c, c', h1, h2, h3⟩ | ⟨h1, h2⟩
    · simp only [List.getD_eq_getElem?_getD, h1, h2, Option.getD_some, renL_length h3]
    · simp only [List.getD_eq_getElem?_getD, h1, h2]

theorem take_range {ord : List Nat} {m : Nat} (h : (ord.take m == List.range m) = true) {i : Nat} (hi : i < m) : ord[i]? = some i := by
  have e : ord.take m = List.range m := by simpa using h
  have h1 : (ord.take m)[i]? = some i := by rw [e]; simp [hi]
  rw [List.getElem?_take, if_pos hi] at h1
  exact h1

theorem canon_ok (hS : Sim L w β H) {m : Nat} {fr fr' : Fr} {H' : Heap} {tmps : Array Value} (hF : FrRep w L β fr tmps) (h : canon m fr H = some (fr', H')) :
    ∃ β', Sim L w β' H' ∧ FrRep w L β' fr' tmps ∧ Step w (LiveAt β H) w (LiveAt β' H') ∧ ∀ i, i < m → β'[i]? = β[i]? := by
  unfold canon at h
  simp only at h
  generalize reach H 100000 (List.range m ++ idsF fr []) [] = ord at h
  split at h
  · rename_i hc
    simp only [Bool.and_eq_true] at hc
    split at h
    · rename_i f1 H1 h1 h2
      simp at h; obtain ⟨rfl, rfl⟩ := h
      obtain ⟨a1, a2, a3⟩ := restrict_ok hS hc.2 h2
      refine ⟨pick β ord, a1, hF.ren a3 h1, a2, fun i hi => ?_⟩
      have hr := take_range hc.1 hi
      have hlt : i < H1.length := by rw [(restrict_spec h2).1]; exact (List.getElem?_eq_some_iff.1 hr).1
      obtain ⟨i', o, h3, h4, _⟩ := (restrict_spec h2).2 i _ (List.getElem?_eq_getElem hlt)
      rw [hr] at h3; cases h3
      have hb : i < β.length := by rw [hS.len]; exact (List.getElem?_eq_some_iff.1 h4).1
      rw [pick_get hr (List.getElem?_eq_getElem hb), List.getElem?_eq_getElem hb]
    · simp at h
  · simp at h

theorem gcRet_ok (hS : Sim L w β H) {m : Nat} {r r' : AV} {H' : Heap} {v : Value} (hr : Rep w L β r v) (h : gcRet m r H = some (r', H')) :
    ∃ β', Sim L w β' H' ∧ Rep w L β' r' v ∧ Step w (LiveAt β H) w (LiveAt β' H') ∧ ∀ i, i < m → β'[i]? = β[i]? := by
  unfold gcRet at h
  simp only at h
  generalize reach H 100000 (List.range m ++ r.ids []) [] = ord at h
  split at h
  · rename_i hc
    simp only [Bool.and_eq_true] at hc
    split at h
    · rename_i f1 H1 h1 h2
      simp at h; obtain ⟨rfl, rfl⟩ := h
      obtain ⟨a1, a2, a3⟩ := restrict_ok hS hc.2 h2
      refine ⟨pick β ord, a1, hr.ren a3 h1, a2, fun i hi => ?_⟩
      have hr := take_range hc.1 hi
      have hlt : i < H1.length := by rw [(restrict_spec h2).1]; exact (List.getElem?_eq_some_iff.1 hr).1
      obtain ⟨i', o, h3, h4, _⟩ := (restrict_spec h2).2 i _ (List.getElem?_eq_getElem hlt)
      rw [hr] at h3; cases h3
      have hb : i < β.length := by rw [hS.len]; exact (List.getElem?_eq_some_iff.1 h4).1
      rw [pick_get hr (List.getElem?_eq_getElem hb), List.getElem?_eq_getElem hb]
    · simp at h
  · simp at h

/-! ### Calls -/
/-- What 'f' answers with 'args' in 'w', as the evaluator says. -/
def CallsTo (P : Program) (L : Env) (f : FuncId) (vs : List Value) (w : World) (β : List Nat) (H : Heap) (r : AV) (H' : Heap) : Prop :=
  (callFunc f vs.toArray).run P w = .ok (.enter f vs.toArray) w ∧
  Calls P f vs.toArray w fun e w' => ∃ v βn D, e = .returned v ∧ Sim D w' (β ++ βn) H' ∧ Rep w' D (β ++ βn) r v ∧ Step w (LiveAt β H) w' (LiveAt (β ++ βn) H') ∧ Cut L w (LiveAt β H) D

def CallOK (P : Program) (L : Env) (cf : CallF) : Prop := ∀ f args H r H', cf f args H = some (r, H') → ∀ w β vs, Sim L w β H → Reps w L β args vs → CallsTo P L f vs w β H r H'

/-- What is said of a function in place of its body. -/
def SpecOK (P : Program) (f : FuncId) (s : List AV → Heap → Option (AV × Heap)) : Prop :=
  ∀ args H r H', s args H = some (r, H') → ∀ (L : Env) w β vs, Sim L w β H → Reps w L β args vs → CallsTo P L f vs w β H r H'

/-- The same, of arguments that bear no names. -/
def SpecB (P : Program) (f : FuncId) (s : List AV → Heap → Option (AV × Heap)) : Prop :=
  ∀ args H r H', s args H = some (r, H') → ∀ (on : Nat → Prop) w β vs, Sim (bareE on) w β H → Reps w (bareE on) β args vs → CallsTo P (bareE on) f vs w β H r H'
theorem SpecOK.bare {f : FuncId} {s : List AV → Heap → Option (AV × Heap)} (h : SpecOK P f s) : SpecB P f s := fun args H r H' hs on w β vs hS hR => h args H r H' hs (bareE on) w β vs hS hR

/-! ### Names stood in for, in a memory -/
def instE (L : Env) : List (AV × AV) → Option (List (AV × AV))
  | [] => some []
  | (k, v) :: es => match k.inst L, v.inst L, instE L es with
    | some k', some v', some es' => some ((k', v') :: es')
    | _, _, _ => none
def AO.inst (L : Env) : AO → Option AO
  | .dead => some .dead
  | .row cs => (instL L cs).map .row
  | .map es => (instE L es).map .map
  | .chan cap buf => (instL L buf).map (.chan cap)
  | .hid t ids => match (L.ho t).ren (over ids) with
    | some .dead => none
    | r => r
def instH (L : Env) : Heap → Option Heap
  | [] => some []
  | o :: l => match o.inst L, instH L l with
    | some o', some l' => some (o' :: l')
    | _, _ => none

theorem instE_on {L L' : Env} (h : L.hv = L'.hv) : ∀ l : List (AV × AV), instE L l = instE L' l
  | [] => rfl
  | (k, v) :: es => by simp only [instE, inst_on h k, inst_on h v, instE_on h es]
theorem instO_on {L L' : Env} (h : L.hv = L'.hv) (ho : L.ho = L'.ho) (o : AO) : o.inst L = o.inst L' := by
  cases o <;> simp only [AO.inst, instL_on h, instE_on h, ho]
theorem instH_on {L L' : Env} (h : L.hv = L'.hv) (ho : L.ho = L'.ho) : ∀ l : Heap, instH L l = instH L' l
  | [] => rfl
  | o :: r => by simp only [instH, instO_on h ho o, instH_on h ho r]

theorem instH_length : ∀ {H H' : Heap}, instH L H = some H' → H'.length = H.length
  | [], H', h => by simp [instH] at h; subst h; rfl
  | o :: l, H', h => by
    simp only [instH] at h
    split at h
    · rename_i a r h1 h2; simp at h; subst h; simp [instH_length h2]
    · simp at h
theorem instH_get : ∀ {H H' : Heap}, instH L H = some H' → ∀ (k : Nat) (o : AO), H[k]? = some o → ∃ o', H'[k]? = some o' ∧ o.inst L = some o'
  | [], H', h, k, a, hk => by simp at hk
  | v :: vs, l', h, k, a, hk => by
    simp only [instH] at h
    split at h
    · rename_i b r h1 h2
      simp at h; subst h
      cases k with
      | zero => simp at hk; subst hk; exact ⟨b, rfl, h1⟩
      | succ k => simpa using instH_get h2 k a (by simpa using hk)
    · simp at h
theorem instH_mk {R : Nat → AO → Prop} : ∀ {l : Heap}, (∀ (k : Nat) (a : AO), l[k]? = some a → ∃ a', a.inst L = some a' ∧ R k a') → ∃ l', instH L l = some l' ∧ ∀ (k : Nat) (a' : AO), l'[k]? = some a' → R k a'
  | [], h => ⟨[], rfl, fun k a h => by simp at h⟩
  | v :: vs, h => by
    obtain ⟨a, h1, h2⟩ := h 0 v rfl
    obtain ⟨l, h3, h4⟩ := instH_mk (R := fun k => R (k + 1)) (l := vs) (fun k b hk => h (k + 1) b (by simpa using hk))
    refine ⟨a :: l, by simp [instH, h1, h3], fun k b hk => ?_⟩
    cases k with
    | zero => simp at hk; subst hk; exact h2
    | succ k => exact h4 k b (by simpa using hk)
theorem instE_mk {R : Nat → AV × AV → Prop} : ∀ {l : List (AV × AV)}, (∀ (k : Nat) (a : AV × AV), l[k]? = some a → ∃ a1 a2, a.1.inst L = some a1 ∧ a.2.inst L = some a2 ∧ R k (a1, a2)) → ∃ l', instE L l = some l' ∧ l'.length = l.length ∧ ∀ (k : Nat) (a' : AV × AV), l'[k]? = some a' → R k a'
  | [], h => ⟨[], rfl, rfl, fun k a h => by simp at h⟩
  | (u, v) :: vs, h => by
    obtain ⟨a1, a2, h1, h2, h0⟩ := h 0 (u, v) rfl
    obtain ⟨l, h3, h5, h4⟩ := instE_mk (R := fun k => R (k + 1)) (l := vs) (fun k b hk => h (k + 1) b (by simpa using hk))
    refine ⟨(a1, a2) :: l, by simp [instE, h1, h2, h3], by simp [h5], fun k b hk => ?_⟩
    cases k with
    | zero => simp at hk; subst hk; exact h0
    | succ k => exact h4 k b (by simpa using hk)
theorem instE_get : ∀ {l l' : List (AV × AV)}, instE L l = some l' → l'.length = l.length ∧ ∀ (k : Nat) (a : AV × AV), l[k]? = some a → ∃ a', l'[k]? = some a' ∧ a.1.inst L = some a'.1 ∧ a.2.inst L = some a'.2
  | [], l', h => by simp [instE] at h; subst h; exact ⟨rfl, fun k a hk => by simp at hk⟩
  | (u, v) :: vs, l', h => by
    simp only [instE] at h
    split at h
    · rename_i b1 b2 r h1 h2 h3
      simp at h; subst h
      obtain ⟨g1, g2⟩ := instE_get h3
      refine ⟨by simp [g1], fun k a hk => ?_⟩
      cases k with
      | zero => simp at hk; subst hk; exact ⟨(b1, b2), rfl, h1, h2⟩
      | succ k => simpa using g2 k a (by simpa using hk)
    · simp at h

theorem RepO.inst {L : Env} {β : List Nat} {o : AO} {x : Obj} (h : RepO w L β o x) : ∃ o', o.inst L = some o' ∧ o' ≠ .dead ∧ RepO w L.bare β o' x := by
  cases h with
  | row cs vs e fr hlen hfr h =>
    obtain ⟨l, h1, h2⟩ := instL_mk (L := L) (R := fun k a => ∃ v, vs[k]? = some v ∧ Rep w L.bare β a v) (l := cs) (fun k a hk => by
      obtain ⟨v, hv, hr⟩ := h k a hk
      obtain ⟨a', h3, h4⟩ := hr.inst
      exact ⟨a', h3, v, hv, h4⟩)
    exact ⟨.row l, by simp only [AO.inst, h1, Option.map_some], by simp, .row l vs e fr (by rw [instL_length h1]; exact hlen) hfr h2⟩
  | map es ms clock hst hE =>
    obtain ⟨l, h1, h3, h2⟩ := instE_mk (L := L) (R := fun k a => ∀ m, ms.toList[k]? = some m → Rep w L.bare β a.1 m.key ∧ Rep w L.bare β a.2 m.val) (l := es) (fun k a hk => by
      have hlt : k < ms.toList.length := by rw [← hE.1]; exact (List.getElem?_eq_some_iff.1 hk).1
      obtain ⟨r1, r2⟩ := hE.2 k a _ hk (List.getElem?_eq_getElem hlt)
      obtain ⟨a1, h3, h4⟩ := r1.inst
      obtain ⟨a2, h5, h6⟩ := r2.inst
      exact ⟨a1, a2, h3, h5, fun m hm => by rw [List.getElem?_eq_getElem hlt] at hm; cases hm; exact ⟨h4, h6⟩⟩)
    exact ⟨.map l, by simp only [AO.inst, h1, Option.map_some], by simp, .map l ms clock hst ⟨h3.trans hE.1, fun k e m hk hm => h2 k e hk m hm⟩⟩
  | chan cap buf vs s r tm hR =>
    obtain ⟨l, h1, h2⟩ := hR.inst
    exact ⟨.chan cap l, by simp only [AO.inst, h1, Option.map_some], by simp, .chan cap l vs s r tm h2⟩
  | hid t ids o x ha h =>
    have hd : o ≠ .dead := by rintro rfl; cases h
    refine ⟨o, ?_, hd, h⟩
    simp only [AO.inst, ha]
    split
    · rename_i e; cases e; exact absurd rfl hd
    · rfl
theorem RepO.name {o o' : AO} {x : Obj} (hi : o.inst L = some o') (h : RepO w L.bare β o' x) : RepO w L β o x := by
  cases o with
  | dead => simp only [AO.inst, Option.some.injEq] at hi; subst hi; cases h
  | row cs =>
    simp only [AO.inst, Option.map_eq_some_iff] at hi
    obtain ⟨l, hl, rfl⟩ := hi
    cases h with
    | row _ vs e fr hlen hfr h => exact .row cs vs e fr (by rw [← instL_length hl]; exact hlen) hfr (fun k av hk => by
      obtain ⟨a', h1, h2⟩ := instL_get hl k av hk
      obtain ⟨v, hv, hr⟩ := h k a' h1
      exact ⟨v, hv, Rep.name h2 hr⟩)
  | map es =>
    simp only [AO.inst, Option.map_eq_some_iff] at hi
    obtain ⟨l, hl, rfl⟩ := hi
    cases h with
    | map _ ms clock hst hE =>
      obtain ⟨g1, g2⟩ := instE_get hl
      exact .map es ms clock hst ⟨g1.symm.trans hE.1, fun k e m hk hm => by
        obtain ⟨a', h1, h2, h3⟩ := g2 k e hk
        obtain ⟨r1, r2⟩ := hE.2 k a' m h1 hm
        exact ⟨Rep.name h2 r1, Rep.name h3 r2⟩⟩
  | chan cap buf =>
    simp only [AO.inst, Option.map_eq_some_iff] at hi
    obtain ⟨l, hl, rfl⟩ := hi
    cases h with
    | chan _ _ vs s r tm hR => exact .chan cap buf vs s r tm ⟨by rw [← instL_length hl]; exact hR.1, fun k av v hk hv => by
      obtain ⟨a', h1, h2⟩ := instL_get hl k av hk
      exact Rep.name h2 (hR.2 k a' v h1 hv)⟩
  | hid t ids =>
    simp only [AO.inst] at hi
    split at hi
    · cases hi
    · exact .hid t ids o' x hi h

theorem inst_dead {o o' : AO} (h : o.inst L = some o') : o' = .dead ↔ o = .dead := by
  cases o with
  | dead => simp [AO.inst] at h; subst h; simp
  | row cs => simp only [AO.inst, Option.map_eq_some_iff] at h; obtain ⟨c, _, rfl⟩ := h; simp
  | map es => simp only [AO.inst, Option.map_eq_some_iff] at h; obtain ⟨c, _, rfl⟩ := h; simp
  | chan cap buf => simp only [AO.inst, Option.map_eq_some_iff] at h; obtain ⟨c, _, rfl⟩ := h; simp
  | hid t ids =>
    simp only [AO.inst] at h
    split at h
    · cases h
    · rename_i hn
      constructor
      · rintro rfl; exact absurd h hn
      · intro e; cases e

theorem instH_back {H H' : Heap} (h : instH L H = some H') {k : Nat} {o' : AO} (hk : H'[k]? = some o') : ∃ o, H[k]? = some o ∧ o.inst L = some o' := by
  have hlt : k < H.length := by rw [← instH_length h]; exact (List.getElem?_eq_some_iff.1 hk).1
  obtain ⟨o1, h1, h2⟩ := instH_get h k _ (List.getElem?_eq_getElem hlt)
  rw [hk] at h1; cases h1
  exact ⟨_, List.getElem?_eq_getElem hlt, h2⟩
theorem live_inst {H H' : Heap} (h : instH L H = some H') (b : Nat) : LiveAt β H b ↔ LiveAt β H' b := by
  constructor
  · rintro ⟨i, o, h1, h2, h3⟩
    obtain ⟨o', h4, h5⟩ := instH_get h i o h1
    exact ⟨i, o', h4, fun e => h2 ((inst_dead h5).1 e), h3⟩
  · rintro ⟨i, o, h1, h2, h3⟩
    obtain ⟨o', h4, h5⟩ := instH_back h h1
    exact ⟨i, o', h4, fun e => h2 ((inst_dead h5).2 e), h3⟩
theorem Sim.same_inst {H H' : Heap} (h : instH L H = some H') (hi : ∀ (i : Nat) (o o' : AO) (x : Obj), o.inst L = some o' → (RepO w L β o x ↔ RepO w L.bare β o' x)) : Sim L w β H ↔ Sim L.bare w β H' := by
  constructor
  · intro hS
    refine ⟨by rw [instH_length h]; exact hS.len, hS.lt, fun i j o o' b h1 h2 h3 h4 h5 h6 => ?_, fun i o b h1 h2 h3 => ?_, fun b hb => hS.dis b ((live_inst h b).2 hb), hS.big⟩
    · obtain ⟨p, h7, h8⟩ := instH_back h h1
      obtain ⟨q, h9, h10⟩ := instH_back h h3
      exact hS.inj i j p q b h7 (fun e => h2 ((inst_dead h8).2 e)) h9 (fun e => h4 ((inst_dead h10).2 e)) h5 h6
    · obtain ⟨p, h7, h8⟩ := instH_back h h1
      obtain ⟨x, hx, hr⟩ := hS.obj i p b h7 (fun e => h2 ((inst_dead h8).2 e)) h3
      exact ⟨x, hx, (hi i p o x h8).1 hr⟩
  · intro hS
    refine ⟨by rw [← instH_length h]; exact hS.len, hS.lt, fun i j o o' b h1 h2 h3 h4 h5 h6 => ?_, fun i o b h1 h2 h3 => ?_, fun b hb => hS.dis b ((live_inst h b).1 hb), hS.big⟩
    · obtain ⟨p, h7, h8⟩ := instH_get h i o h1
      obtain ⟨q, h9, h10⟩ := instH_get h j o' h3
      exact hS.inj i j p q b h7 (fun e => h2 ((inst_dead h8).1 e)) h9 (fun e => h4 ((inst_dead h10).1 e)) h5 h6
    · obtain ⟨p, h7, h8⟩ := instH_get h i o h1
      obtain ⟨x, hx, hr⟩ := hS.obj i p b h7 (fun e => h2 ((inst_dead h8).1 e)) h3
      exact ⟨x, hx, (hi i o p x h8).2 hr⟩
theorem RepO.iff_inst {o o' : AO} {x : Obj} (h : o.inst L = some o') : RepO w L β o x ↔ RepO w L.bare β o' x := by
  constructor
  · intro hr
    obtain ⟨o1, h1, _, h2⟩ := hr.inst
    rw [h] at h1; cases h1; exact h2
  · exact fun hr => hr.name h
theorem Sim.iff_inst {H H' : Heap} (h : instH L H = some H') : Sim L w β H ↔ Sim L.bare w β H' := Sim.same_inst h (fun _ _ _ _ hi => RepO.iff_inst hi)

/-! ### Calls whose answers are known -/
def CE.ok (P : Program) (L : Env) (e : CE) : Prop := ∃ s args H0 r H1, SpecB P e.f s ∧ instL L e.args = some args ∧ instH L e.H = some H0 ∧ e.res.inst L = some r ∧ instH L e.H' = some H1 ∧ s args H0 = some (r, H1)
def HE.ok (L : Env) (e : HE) : Prop := ∃ args H0 r H1, instL L e.args = some args ∧ instH L e.H = some H0 ∧ e.res.inst L = some r ∧ instH L e.H' = some H1 ∧ opH e.key args H0 = some (r, H1)
def HopsOK (L : Env) (T : Tab) : Prop := ∀ e ∈ T.hops, e.ok L
theorem HE.ok_on {L D : Env} (h : D.hv = L.hv) (ho : D.ho = L.ho) {e : HE} (he : e.ok L) : e.ok D := by
  obtain ⟨a, H0, r, H1, h1, h2, h3, h4, h5⟩ := he
  exact ⟨a, H0, r, H1, by rw [instL_on h]; exact h1, by rw [instH_on h ho]; exact h2, by rw [inst_on h]; exact h3, by rw [instH_on h ho]; exact h4, h5⟩
theorem CE.ok_on {L D : Env} (h : D.hv = L.hv) (ho : D.ho = L.ho) {e : CE} (he : e.ok P L) : e.ok P D := by
  obtain ⟨s, a, H0, r, H1, h0, h1, h2, h3, h4, h5⟩ := he
  exact ⟨s, a, H0, r, H1, h0, by rw [instL_on h]; exact h1, by rw [instH_on h ho]; exact h2, by rw [inst_on h]; exact h3, by rw [instH_on h ho]; exact h4, h5⟩
def TabOK (P : Program) (L : Env) (T : Tab) : Prop := (OpsOK L T ∧ HopsOK L T) ∧ ∀ e ∈ T.calls, e.ok P L
theorem OpsOK.cut {L D : Env} {w0 : World} {L0 : Nat → Prop} {T : Tab} (h : OpsOK L T ∧ HopsOK L T) (c : Cut L w0 L0 D) : OpsOK D T ∧ HopsOK D T := ⟨fun e he => TE.ok_on c.hv (h.1 e he), fun e he => HE.ok_on c.hv c.ho (h.2 e he)⟩
theorem TabOK.on {L D : Env} {T : Tab} (h : TabOK P L T) (h1 : D.hv = L.hv) (h2 : D.ho = L.ho) : TabOK P D T := ⟨⟨fun e he => TE.ok_on h1 (h.1.1 e he), fun e he => HE.ok_on h1 h2 (h.1.2 e he)⟩, fun e he => CE.ok_on h1 h2 (h.2 e he)⟩
/-- Whatever may be written. -/
def CallOKs (P : Program) (L : Env) (cf : CallF) : Prop := ∀ on : Nat → Prop, CallOK P ⟨on, L.hv, L.ho⟩ cf
theorem CallOKs.cut {L D : Env} {w0 : World} {L0 : Nat → Prop} {cf : CallF} (h : CallOKs P L cf) (c : Cut L w0 L0 D) : CallOK P D cf := by
  have := h D.on
  rw [← c.hv, ← c.ho] at this
  exact this
theorem CallOKs.same {L D : Env} {w0 : World} {L0 : Nat → Prop} {cf : CallF} (h : CallOKs P L cf) (c : Cut L w0 L0 D) : CallOKs P D cf := fun on => by
  have := h on
  rw [← c.hv, ← c.ho] at this
  exact this
theorem findH_mem {k : HKey} {args : List AV} {H : Heap} {r : AV × Heap} : ∀ {l : List HE}, findH k args H l = some r → ∃ e ∈ l, e.key = k ∧ e.args = args ∧ e.H = H ∧ (e.res, e.H') = r
  | [], h => by simp [findH] at h
  | e :: l, h => by
    simp only [findH] at h
    split at h
    · rename_i hb
      simp only [Bool.and_eq_true] at hb
      simp at h
      exact ⟨e, by simp, (HKey.beq_eq _ _ hb.1.1).symm, (beqL_eq _ _ hb.1.2).symm, (beqH_eq _ _ hb.2).symm, h⟩
    · obtain ⟨e', h1, h2⟩ := findH_mem h; exact ⟨e', by simp [h1], h2⟩

theorem findC_mem {f : FuncId} {args : List AV} {H : Heap} {r : AV × Heap} : ∀ {l : List CE}, findC f args H l = some r → ∃ e ∈ l, e.f = f ∧ e.args = args ∧ e.H = H ∧ (e.res, e.H') = r
  | [], h => by simp [findC] at h
  | e :: l, h => by
    simp only [findC] at h
    split at h
    · rename_i hb
      simp only [Bool.and_eq_true] at hb
      simp at h
      exact ⟨e, by simp, (Nat.eq_of_beq_eq_true hb.1.1).symm, (beqL_eq _ _ hb.1.2).symm, (beqH_eq _ _ hb.2).symm, h⟩
    · obtain ⟨e', h1, h2⟩ := findC_mem h; exact ⟨e', by simp [h1], h2⟩

theorem tabCall_ok {T : Tab} (hT : TabOK P L T) {cf : CallF} (hcf : CallOK P L cf) : CallOK P L (tabCall T cf) := by
  intro f args H r H' h w β vs hS hR
  unfold tabCall at h
  split at h
  · rename_i x hx
    simp only [Option.some.injEq] at h; subst h
    obtain ⟨e, he, rfl, rfl, rfl, h0⟩ := findC_mem hx
    simp only [Prod.mk.injEq] at h0
    obtain ⟨rfl, rfl⟩ := h0
    obtain ⟨s, a', H0, r', H1, h1, h2, h3, h4, h5, h6⟩ := hT.2 e he
    obtain ⟨l, h7, h8⟩ := hR.inst
    rw [h2] at h7; cases h7
    obtain ⟨c1, c2⟩ := h1 a' H0 r' H1 h6 L.on w β vs ((Sim.iff_inst h3).1 hS) h8
    refine ⟨c1, c2.mono fun e' w' => ?_⟩
    rintro ⟨v, βn, D, rfl, s1, s2, s3, s4⟩
    have eD : D = (⟨D.on, L.hv, L.ho⟩ : Env).bare := by
      obtain ⟨on, hv, ho⟩ := D
      have e1 : hv = fun _ => AV.undef := s4.hv
      have e2 : ho = fun _ => AO.dead := s4.ho
      subst e1; subst e2; rfl
    have i4 : e.res.inst ⟨D.on, L.hv, L.ho⟩ = some r' := (inst_on (L := ⟨D.on, L.hv, L.ho⟩) (L' := L) rfl _).trans h4
    have i5 : instH ⟨D.on, L.hv, L.ho⟩ e.H' = some H1 := (instH_on (L := ⟨D.on, L.hv, L.ho⟩) (L' := L) rfl rfl _).trans h5
    refine ⟨v, βn, ⟨D.on, L.hv, L.ho⟩, rfl, (Sim.iff_inst i5).2 (eD ▸ s1), Rep.name i4 (eD ▸ s2), ⟨s3.os, s3.tape, s3.output, s3.size, fun b hb hL => s3.kept b hb (fun hl => hL ((live_inst h3 b).2 hl)), fun b hb hL hl => s3.dead b hb (fun hl' => hL ((live_inst h3 b).2 hl')) ((live_inst h5 b).1 hl), s3.shape⟩, rfl, rfl, s4.on, fun b hb hc hl => s4.keep b hb hc (fun hl' => hl ((live_inst h3 b).2 hl'))⟩
  · exact hcf f args H r H' h w β vs hS hR

theorem renH_spec {τ : Nat → Option Nat} : ∀ {H H' : Heap}, renH τ H = some H' → H'.length = H.length ∧ ∀ (k : Nat) (o' : AO), H'[k]? = some o' → ∃ o, H[k]? = some o ∧ o.ren τ = some o'
  | [], H', h => by simp [renH] at h; subst h; exact ⟨rfl, fun k o h => by simp at h⟩
  | o :: l, H', h => by
    simp only [renH] at h
    split at h
    · rename_i o' l' h1 h2
      simp at h; subst h
      obtain ⟨h3, h4⟩ := renH_spec h2
      refine ⟨by simp [h3], fun k d hk => ?_⟩
      cases k with
      | zero => simp at hk; subst hk; exact ⟨o, rfl, h1⟩
      | succ k => simpa using h4 k d (by simpa using hk)
    · simp at h

/-- What stands where, after an answer is put back. -/
theorem putBack_spec : ∀ (ord : List Nat) (H l : Heap), nodupB ord = true → ord.length ≤ l.length → (∀ i ∈ ord, i < H.length) →
    (putBack H ord l).length = H.length + (l.length - ord.length) ∧
    (∀ (i : Nat), i < H.length → i ∉ ord → (putBack H ord l)[i]? = H[i]?) ∧
    (∀ (k i : Nat), ord[k]? = some i → (putBack H ord l)[i]? = l[k]?) ∧
    (∀ (k : Nat), ord.length ≤ k → (putBack H ord l)[H.length + (k - ord.length)]? = l[k]?)
  | [], H, l, hn, hl, hb => by
    have e : putBack H [] l = H ++ l := by cases l <;> simp [putBack]
    rw [e]
    refine ⟨by simp, fun i hi _ => by rw [List.getElem?_append_left hi], fun k i h => by simp at h, fun k _ => ?_⟩
    rw [List.getElem?_append_right (by simp)]; simp
  | i :: r, H, [], hn, hl, hb => by simp at hl
  | i :: r, H, o :: l, hn, hl, hb => by
    simp only [nodupB, Bool.and_eq_true, Bool.not_eq_true'] at hn
    have hir : i ∉ r := fun hm => by have : r.elem i = true := by simpa using hm
                                     rw [this] at hn; cases hn.1
    have hi : i < H.length := hb i (by simp)
    obtain ⟨h1, h2, h3, h4⟩ := putBack_spec r (H.set i o) l hn.2 (by simpa using hl) (fun j hj => by simpa using hb j (by simp [hj]))
    simp only [putBack]
    refine ⟨by rw [h1]; simp, fun j hj hnj => ?_, fun k j hk => ?_, fun k hk => ?_⟩
    · simp at hnj
      rw [h2 j (by simpa using hj) hnj.2, List.getElem?_set_ne (fun e => hnj.1 e.symm)]
    · cases k with
      | zero =>
        simp at hk; subst hk
        rw [h2 i (by simpa using hi) hir]; simp [hi]
      | succ k => simpa using h3 k j (by simpa using hk)
    · cases k with
      | zero => simp at hk
      | succ k =>
        have := h4 k (by simpa using hk)
        simp only [List.length_set] at this
        rw [show H.length + (k + 1 - (i :: r).length) = H.length + (k - r.length) by simp]
        simpa using this

theorem putBack_ok (hS : Sim L w β H) {ord : List Nat} (hn : nodupB ord = true) {H1 H2 H2' : Heap} (hH1 : restrict (idxOf · ord) H ord = some H1) (hle : ord.length ≤ H2.length) {r0 r' : AV} (hr' : r0.ren (back ord H.length) = some r') (hH2 : renH (back ord H.length) H2 = some H2')
    {w' : World} {βn : List Nat} {v : Value} (a2 : Step w (LiveAt β H) w (LiveAt (pick β ord) H1)) {D : Env} (s1 : Sim D w' (pick β ord ++ βn) H2) (s2 : Rep w' D (pick β ord ++ βn) r0 v) (s3 : Step w (LiveAt (pick β ord) H1) w' (LiveAt (pick β ord ++ βn) H2)) (cut : Cut L w (LiveAt (pick β ord) H1) D) :
    Sim D w' (β ++ βn) (putBack H ord H2') ∧ Rep w' D (β ++ βn) r' v ∧ Step w (LiveAt β H) w' (LiveAt (β ++ βn) (putBack H ord H2')) ∧ Cut L w (LiveAt β H) D := by
  have hord : ∀ k i, ord[k]? = some i → ∃ o b, H[i]? = some o ∧ β[i]? = some b ∧ (pick β ord)[k]? = some b := fun k i hk => by
    have hlt : k < H1.length := by rw [(restrict_spec hH1).1]; exact (List.getElem?_eq_some_iff.1 hk).1
    obtain ⟨i', o, h3, h4, _⟩ := (restrict_spec hH1).2 k _ (List.getElem?_eq_getElem hlt)
    rw [hk] at h3; cases h3
    have hb : i < β.length := by rw [hS.len]; exact (List.getElem?_eq_some_iff.1 h4).1
    exact ⟨o, _, h4, List.getElem?_eq_getElem hb, pick_get hk (List.getElem?_eq_getElem hb)⟩
  have hol : (pick β ord).length = ord.length := by simp [pick]
  have hlenn : ord.length + βn.length = H2.length := by have := s1.len; rw [List.length_append, hol] at this; exact this
  obtain ⟨p1, p2⟩ := renH_spec hH2
  obtain ⟨q1, q2, q3, q4⟩ := putBack_spec ord H H2' hn (by rw [p1]; exact hle) (fun i hi => by
    obtain ⟨k, hk⟩ := List.getElem?_of_mem hi
    obtain ⟨o, b, h1, _⟩ := hord k i hk
    exact (List.getElem?_eq_some_iff.1 h1).1)
  -- the blocks, by the new numbers
  have hτ : ∀ (j i b : Nat), back ord H.length j = some i → (pick β ord ++ βn)[j]? = some b → (β ++ βn)[i]? = some b := by
    intro j i b hj hb
    unfold back at hj
    split at hj
    · rename_i hlt
      obtain ⟨o, b', h1, h2, h3⟩ := hord j i hj
      rw [List.getElem?_append_left (by rw [hol]; exact hlt), h3] at hb
      rw [get_append_left h2]; exact hb
    · rename_i hge
      simp at hj; subst hj
      rw [List.getElem?_append_right (by rw [hol]; omega), hol] at hb
      rw [← hS.len, List.getElem?_append_right (by omega), show β.length + (j - ord.length) - β.length = j - ord.length by omega]
      exact hb
  -- each object of the new memory: an old one that was not handed over, or one of the answer's
  have hcase : ∀ (i : Nat) (o : AO) (b : Nat), (putBack H ord H2')[i]? = some o → (β ++ βn)[i]? = some b →
      (i < H.length ∧ i ∉ ord ∧ H[i]? = some o ∧ β[i]? = some b) ∨ (∃ j o2, H2[j]? = some o2 ∧ o2.ren (back ord H.length) = some o ∧ (pick β ord ++ βn)[j]? = some b ∧ back ord H.length j = some i) := by
    intro i o b hi hb
    rcases Nat.lt_or_ge i H.length with hlt | hge
    · by_cases hm : i ∈ ord
      · right
        obtain ⟨k, hk⟩ := List.getElem?_of_mem hm
        have hkl : k < ord.length := (List.getElem?_eq_some_iff.1 hk).1
        rw [q3 k i hk] at hi
        obtain ⟨o2, h1, h2⟩ := p2 k o hi
        obtain ⟨x, b', h3, h4, h5⟩ := hord k i hk
        rw [get_append_left h4] at hb; cases hb
        exact ⟨k, o2, h1, h2, get_append_left h5, by simp only [back, hkl, if_true]; exact hk⟩
      · left
        rw [q2 i hlt hm] at hi
        rw [List.getElem?_append_left (by rw [hS.len]; exact hlt)] at hb
        exact ⟨hlt, hm, hi, hb⟩
    · right
      have hlen : i < H.length + (H2'.length - ord.length) := by rw [← q1]; exact (List.getElem?_eq_some_iff.1 hi).1
      have he : i = H.length + ((ord.length + (i - H.length)) - ord.length) := by omega
      rw [he, q4 (ord.length + (i - H.length)) (by omega)] at hi
      obtain ⟨o2, h1, h2⟩ := p2 _ o hi
      refine ⟨_, o2, h1, h2, ?_, ?_⟩
      · rw [List.getElem?_append_right (by rw [hol]; omega), hol]
        rw [List.getElem?_append_right (by rw [hS.len]; omega), hS.len] at hb
        rw [← hb]; congr 1; omega
      · have : ¬ ord.length + (i - H.length) < ord.length := by omega
        simp only [back, this, if_false]; congr 1; omega
  have hlive : ∀ b, LiveAt (β ++ βn) (putBack H ord H2') b → LiveAt β H b ∨ LiveAt (pick β ord ++ βn) H2 b := by
    rintro b ⟨i, o, h1, h2, h3⟩
    rcases hcase i o b h1 h3 with ⟨_, _, h4, h5⟩ | ⟨j, o2, h4, h5, h6, _⟩
    · exact .inl ⟨i, o, h4, h2, h5⟩
    · exact .inr ⟨j, o2, h4, fun e => h2 ((ren_dead h5).2 e), h6⟩
  have hstep : Step w (LiveAt β H) w' (LiveAt (β ++ βn) (putBack H ord H2')) := by
    have s4 := a2.trans s3
    refine ⟨s4.os, s4.tape, s4.output, s4.size, s4.kept, fun b hb hL hL' => ?_, s4.shape⟩
    rcases hlive b hL' with h | h
    · exact hL h
    · exact s4.dead b hb hL h
  -- a live old object that was not handed over keeps its block
  have hout : ∀ (i : Nat) (o : AO) (b : Nat), i ∉ ord → H[i]? = some o → o ≠ .dead → β[i]? = some b → ¬ LiveAt (pick β ord) H1 b := by
    rintro i o b hni hi ho hb ⟨k, x, h1, h2, h3⟩
    obtain ⟨i', o', h4, h5, h6⟩ := (restrict_spec hH1).2 k x h1
    obtain ⟨o2, b2, h7, h8, h9⟩ := hord k i' h4
    rw [h3] at h9; cases h9
    rw [h5] at h7; cases h7
    have := hS.inj i i' o o' b hi ho h5 (fun e => h2 ((ren_dead h6).2 e)) hb h8
    subst this
    exact hni (List.mem_of_getElem? h4)
  refine ⟨⟨by rw [List.length_append, q1, hS.len, p1]; omega, fun i b hb => ?_, fun i j o o' b h1 h2 h3 h4 h5 h6 => ?_, fun i o b h1 h2 h3 => ?_, fun b hb => ?_, s1.big⟩, ?_, hstep, cut.hv, cut.ho, cut.on, fun b hb hc hl => cut.keep b hb hc (a2.dead b hb hl)⟩
  · rcases Nat.lt_or_ge i β.length with hlt | hge
    · rw [List.getElem?_append_left hlt] at hb
      exact Nat.lt_of_lt_of_le (hS.lt i b hb) (a2.trans s3).size
    · rw [List.getElem?_append_right hge] at hb
      refine s1.lt (ord.length + (i - β.length)) b ?_
      rw [List.getElem?_append_right (by rw [hol]; omega), hol, show ord.length + (i - β.length) - ord.length = i - β.length by omega]
      exact hb
  · rcases hcase i o b h1 h5 with ⟨c1, c2, c3, c4⟩ | ⟨k, o2, c3, c4, c5, c6⟩ <;> rcases hcase j o' b h3 h6 with ⟨d1, d2, d3, d4⟩ | ⟨k', o2', d3, d4, d5, d6⟩
    · exact hS.inj i j o o' b c3 h2 d3 h4 c4 d4
    · exfalso
      exact s3.dead b (hS.lt i b c4) (hout i o b c2 c3 h2 c4) ⟨k', o2', d3, fun e => h4 ((ren_dead d4).2 e), d5⟩
    · exfalso
      exact s3.dead b (hS.lt j b d4) (hout j o' b d2 d3 h4 d4) ⟨k, o2, c3, fun e => h2 ((ren_dead c4).2 e), c5⟩
    · have := s1.inj k k' o2 o2' b c3 (fun e => h2 ((ren_dead c4).2 e)) d3 (fun e => h4 ((ren_dead d4).2 e)) c5 d5
      subst this
      rw [c6] at d6; exact Option.some.inj d6
  · rcases hcase i o b h1 h3 with ⟨c1, c2, c3, c4⟩ | ⟨k, o2, c3, c4, c5, c6⟩
    · obtain ⟨x, hx, hrx⟩ := hS.obj i o b c3 h2 c4
      exact ⟨x, by rw [s3.kept b (hS.lt i b c4) (hout i o b c2 c3 h2 c4)]; exact hx, (hrx.mono (hS.wide hstep) (fun _ _ h => get_append_left h)).cut cut.hv cut.ho cut.on⟩
    · obtain ⟨x, hx, hrx⟩ := s1.obj k o2 b c3 (fun e => h2 ((ren_dead c4).2 e)) c5
      exact ⟨x, hx, hrx.ren hτ c4⟩
  · obtain ⟨i, o, h1, h2, h3⟩ := hb
    rcases hcase i o b h1 h3 with ⟨c1, c2, c3, c4⟩ | ⟨k, o2, c3, c4, c5, c6⟩
    · exact cut.keep b (hS.lt i b c4) (hS.dis b ⟨i, o, c3, h2, c4⟩) (hout i o b c2 c3 h2 c4)
    · exact s1.dis b ⟨k, o2, c3, fun e => h2 ((ren_dead c4).2 e), c5⟩
  · exact s2.ren hτ hr'

theorem callSub_ok {cf : CallF} (hcf : CallOK P L cf) : CallOK P L (callSub cf) := by
  intro f args H r H' h w β vs hS hR
  unfold callSub at h
  simp only at h
  generalize reach H 100000 (idsL args []) [] = ord at h
  split at h
  · rename_i hn
    split at h
    · rename_i args' H1 ha hH1
      split at h
      · rename_i r0 H2 hc
        split at h
        · rename_i hle
          split at h
          · rename_i r' H2' hr' hH2
            simp at h; obtain ⟨rfl, rfl⟩ := h
            obtain ⟨a1, a2, a3⟩ := restrict_ok hS hn hH1
            have hR1 : Reps w L (pick β ord) args' vs := hR.ren a3 ha
            obtain ⟨c1, c2⟩ := hcf f args' H1 r0 H2 hc w (pick β ord) vs a1 hR1
            refine ⟨c1, c2.mono fun e w' => ?_⟩
            rintro ⟨v, βn, D, rfl, s1, s2, s3, s4⟩
            obtain ⟨g1, g2, g3, g4⟩ := putBack_ok hS hn hH1 hle hr' hH2 a2 s1 s2 s3 s4
            exact ⟨v, βn, D, rfl, g1, g2, g3, g4⟩
          · simp at h
        · simp at h
      · simp at h
    · simp at h
  · simp at h

end Go.Proofs.BoatV
