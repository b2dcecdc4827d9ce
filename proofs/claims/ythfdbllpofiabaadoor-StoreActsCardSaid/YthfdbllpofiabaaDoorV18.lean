/- Names given by lists; what is found is given a name; a text of a function: trees from one loop's head to the next. -/
import Derived.Test.YthfdbllpofiabaaDoorV17
namespace Go.Proofs.BoatV
open Go
set_option linter.unusedVariables false
set_option linter.unusedSimpArgs false
variable {P : Program} {w : World}

def names (on : Nat → Prop) (ρ : List AV) (ω : List AO) : Env := ⟨on, fun t => ρ.getD t .undef, fun t => ω.getD t .dead⟩
def nm (ρ : List AV) (ω : List AO) : Env := names (fun _ => True) ρ ω

/-! ### More names -/
/-- L' has all names of L, and perhaps more. -/
structure Env.le (L L' : Env) : Prop where
  on : L'.on = L.on
  hv : ∀ t, L.hv t ≠ .undef → L'.hv t = L.hv t
  ho : ∀ t, L.ho t ≠ .dead → L'.ho t = L.ho t
theorem Env.le.refl (L : Env) : L.le L := ⟨rfl, fun _ _ => rfl, fun _ _ => rfl⟩
theorem Env.le.trans {L L1 L2 : Env} (h : L.le L1) (k : L1.le L2) : L.le L2 :=
  ⟨k.on.trans h.on, fun t ht => by have := h.hv t ht; rw [k.hv t (by rw [this]; exact ht), this], fun t ht => by have := h.ho t ht; rw [k.ho t (by rw [this]; exact ht), this]⟩
theorem Env.le.bare {L L' : Env} (h : L.le L') : L'.bare = L.bare := by simp only [Env.bare, h.on]

theorem ren_undef {σ : Nat → Option Nat} {v a : AV} (h : v.ren σ = some a) (ha : a.one = true) : v ≠ .undef := by
  rintro rfl; simp [AV.ren] at h; subst h; simp [AV.one] at ha
mutual
theorem inst_le {L L' : Env} (hl : L.le L') : ∀ {v a : AV}, v.inst L = some a → v.inst L' = some a
  | .hid t sc ids, a, h => by
    simp only [AV.inst] at h ⊢
    split at h
    · rename_i a0 ha
      split at h
      · rename_i hc
        have h1 : a0.one = true := by simp only [Bool.and_eq_true] at hc; exact hc.1
        rw [hl.hv t (ren_undef ha h1), ha]
        simp only [hc, if_true]; exact h
      · simp at h
    · simp at h
  | .fn f caps, a, h => by
    simp only [AV.inst, Option.map_eq_some_iff] at h ⊢
    obtain ⟨l, h1, h2⟩ := h; exact ⟨l, instL_le hl h1, h2⟩
  | .agg caps, a, h => by
    simp only [AV.inst, Option.map_eq_some_iff] at h ⊢
    obtain ⟨l, h1, h2⟩ := h; exact ⟨l, instL_le hl h1, h2⟩
  | .tup caps, a, h => by
    simp only [AV.inst, Option.map_eq_some_iff] at h ⊢
    obtain ⟨l, h1, h2⟩ := h; exact ⟨l, instL_le hl h1, h2⟩
  | .ip caps, a, h => by
    simp only [AV.inst, Option.map_eq_some_iff] at h ⊢
    obtain ⟨l, h1, h2⟩ := h; exact ⟨l, instL_le hl h1, h2⟩
  | .im rows sz, a, h => by
    simp only [AV.inst, Option.map_eq_some_iff] at h ⊢
    obtain ⟨l, h1, h2⟩ := h; exact ⟨l, instLL_le hl h1, h2⟩
  | .undef, a, h => h
  | .bool b, a, h => h
  | .int k n, a, h => h
  | .str l, a, h => h
  | .nilp, a, h => h
  | .ptr i off, a, h => h
  | .snil, a, h => h
  | .e0, a, h => h
  | .sl i off len sz cap, a, h => h
  | .nilf, a, h => h
  | .mapv i, a, h => h
  | .chv i, a, h => h
  | .top, a, h => h
theorem instL_le {L L' : Env} (hl : L.le L') : ∀ {l a : List AV}, instL L l = some a → instL L' l = some a
  | [], a, h => h
  | v :: vs, a, h => by
    simp only [instL] at h ⊢
    split at h
    · rename_i b r h1 h2; rw [inst_le hl h1, instL_le hl h2]; exact h
    · simp at h
theorem instLL_le {L L' : Env} (hl : L.le L') : ∀ {l a : List (List AV)}, instLL L l = some a → instLL L' l = some a
  | [], a, h => h
  | v :: vs, a, h => by
    simp only [instLL] at h ⊢
    split at h
    · rename_i b r h1 h2; rw [instL_le hl h1, instLL_le hl h2]; exact h
    · simp at h
end
theorem instE_le {L L' : Env} (hl : L.le L') : ∀ {l a : List (AV × AV)}, instE L l = some a → instE L' l = some a
  | [], a, h => h
  | (k, v) :: es, a, h => by
    simp only [instE] at h ⊢
    split at h
    · rename_i b c r h1 h2 h3; rw [inst_le hl h1, inst_le hl h2, instE_le hl h3]; exact h
    · simp at h
theorem renO_dead {σ : Nat → Option Nat} {o : AO} (h : o = .dead) : o.ren σ = some .dead := by subst h; rfl
theorem instO_le {L L' : Env} (hl : L.le L') {o a : AO} (h : o.inst L = some a) : o.inst L' = some a := by
  cases o with
  | dead => exact h
  | row cs => simp only [AO.inst, Option.map_eq_some_iff] at h ⊢; obtain ⟨l, h1, h2⟩ := h; exact ⟨l, instL_le hl h1, h2⟩
  | map es => simp only [AO.inst, Option.map_eq_some_iff] at h ⊢; obtain ⟨l, h1, h2⟩ := h; exact ⟨l, instE_le hl h1, h2⟩
  | chan cap buf => simp only [AO.inst, Option.map_eq_some_iff] at h ⊢; obtain ⟨l, h1, h2⟩ := h; exact ⟨l, instL_le hl h1, h2⟩
  | hid t ids =>
    simp only [AO.inst] at h ⊢
    by_cases hd : L.ho t = .dead
    · rw [renO_dead hd] at h; simp at h
    · rw [hl.ho t hd]; exact h
theorem instH_le {L L' : Env} (hl : L.le L') : ∀ {l a : Heap}, instH L l = some a → instH L' l = some a
  | [], a, h => h
  | v :: vs, a, h => by
    simp only [instH] at h ⊢
    split at h
    · rename_i b r h1 h2; rw [instO_le hl h1, instH_le hl h2]; exact h
    · simp at h

theorem Rep.le {L L' : Env} (hl : L.le L') {β : List Nat} {av : AV} {v : Value} (h : Rep w L β av v) : Rep w L' β av v := by
  obtain ⟨a, h1, h2⟩ := h.inst
  exact Rep.name (inst_le hl h1) (hl.bare ▸ h2)
theorem Sim.le {L L' : Env} (hl : L.le L') {β : List Nat} {H : Heap} (h : Sim L w β H) : Sim L' w β H :=
  ⟨h.len, h.lt, h.inj, fun i o b h1 h2 h3 => by
    obtain ⟨x, hx, hr⟩ := h.obj i o b h1 h2 h3
    obtain ⟨o', h4, _, h5⟩ := hr.inst
    exact ⟨x, hx, RepO.name (instO_le hl h4) (hl.bare ▸ h5)⟩, fun b hb => hl.on ▸ h.dis b hb, fun b hb => hl.on ▸ h.big b hb⟩
theorem FrRep.le {L L' : Env} (hl : L.le L') {β : List Nat} {fr : Fr} {tmps : Array Value} (h : FrRep w L β fr tmps) : FrRep w L' β fr tmps := ⟨fun t => (h.val t).le hl, h.bnd⟩
theorem Fin.le {C C' : Env} (hl : C.le C') {w0 : World} {L0 : Nat → Prop} {β0 : List Nat} {m : Nat} {d : List Deferred} {fr : Fr} {H : Heap} {a : Act} (h : Fin C w0 L0 β0 m d fr H a w) : Fin C' w0 L0 β0 m d fr H a w := by
  obtain ⟨β, D, h0, h1, h2, h3⟩ := h
  have hle : D.le ⟨D.on, C'.hv, C'.ho⟩ := ⟨rfl, fun t ht => by rw [h0.hv] at ht ⊢; exact hl.hv t ht, fun t ht => by rw [h0.ho] at ht ⊢; exact hl.ho t ht⟩
  exact ⟨β, ⟨D.on, C'.hv, C'.ho⟩, ⟨rfl, rfl, fun b hb => by rw [hl.on]; exact h0.on b hb, fun b hb hc hl0 => h0.keep b hb (by rw [hl.on] at hc; exact hc) hl0⟩, h1.le hle, h2.le hle, h3⟩
theorem TE.ok_le {L L' : Env} (hl : L.le L') {e : TE} (h : e.ok L) : e.ok L' := by
  obtain ⟨a, r, h1, h2, h3⟩ := h
  exact ⟨a, r, instL_le hl h1, inst_le hl h2, h3⟩
theorem CE.ok_le {L L' : Env} (hl : L.le L') {e : CE} (h : e.ok P L) : e.ok P L' := by
  obtain ⟨s, a, H0, r, H1, h1, h2, h3, h4, h5, h6⟩ := h
  exact ⟨s, a, H0, r, H1, h1, instL_le hl h2, instH_le hl h3, inst_le hl h4, instH_le hl h5, h6⟩
theorem HE.ok_le {L L' : Env} (hl : L.le L') {e : HE} (h : e.ok L) : e.ok L' := by
  obtain ⟨a, H0, r, H1, h2, h3, h4, h5, h6⟩ := h
  exact ⟨a, H0, r, H1, instL_le hl h2, instH_le hl h3, inst_le hl h4, instH_le hl h5, h6⟩
theorem TabOK.le {L L' : Env} (hl : L.le L') {T : Tab} (h : TabOK P L T) : TabOK P L' T := ⟨⟨fun e he => TE.ok_le hl (h.1.1 e he), fun e he => HE.ok_le hl (h.1.2 e he)⟩, fun e he => CE.ok_le hl (h.2 e he)⟩

theorem names_le (on : Nat → Prop) (ρ x : List AV) (ω y : List AO) : (names on ρ ω).le (names on (ρ ++ x) (ω ++ y)) := by
  refine ⟨rfl, fun t ht => ?_, fun t ht => ?_⟩
  · simp only [names] at ht ⊢
    rcases Nat.lt_or_ge t ρ.length with h | h
    · simp [List.getD_eq_getElem?_getD, List.getElem?_append_left h]
    · simp [List.getD_eq_getElem?_getD, List.getElem?_eq_none h] at ht
  · simp only [names] at ht ⊢
    rcases Nat.lt_or_ge t ω.length with h | h
    · simp [List.getD_eq_getElem?_getD, List.getElem?_append_left h]
    · simp [List.getD_eq_getElem?_getD, List.getElem?_eq_none h] at ht

/-! ### What is found is given a name -/
mutual
theorem AV.ren_id : ∀ v : AV, v.ren some = some v
  | .ptr i off => rfl
  | .sl i off len sz cap => rfl
  | .mapv i => rfl
  | .chv i => rfl
  | .fn f caps => by simp only [AV.ren, renL_id caps, Option.map_some]
  | .agg cs => by simp only [AV.ren, renL_id cs, Option.map_some]
  | .tup cs => by simp only [AV.ren, renL_id cs, Option.map_some]
  | .hid t sc ids => by
    have : ∀ l : List Nat, renI some l = some l := fun l => by induction l with | nil => rfl | cons a r ih => simp only [renI, ih]
    simp only [AV.ren, this, Option.map_some]
  | .undef => rfl
  | .bool b => rfl
  | .int k n => rfl
  | .str l => rfl
  | .nilp => rfl
  | .ip cells => rfl
  | .snil => rfl
  | .e0 => rfl
  | .im rows sz => rfl
  | .nilf => rfl
  | .top => rfl
theorem renL_id : ∀ l : List AV, renL some l = some l
  | [] => rfl
  | v :: vs => by simp only [renL, AV.ren_id v, renL_id vs]
end
theorem AO.ren_id (o : AO) : o.ren some = some o := by
  have hE : ∀ l : List (AV × AV), renE some l = some l := fun l => by
    induction l with
    | nil => rfl
    | cons a r ih => obtain ⟨k, v⟩ := a; simp only [renE, AV.ren_id, ih]
  have hI : ∀ l : List Nat, renI some l = some l := fun l => by induction l with | nil => rfl | cons a r ih => simp only [renI, ih]
  cases o with
  | dead => rfl
  | row cs => simp only [AO.ren, renL_id, Option.map_some]
  | map es => simp only [AO.ren, hE, Option.map_some]
  | chan cap buf => simp only [AO.ren, renL_id, Option.map_some]
  | hid t ids => simp only [AO.ren, hI, Option.map_some]
theorem unren {ids : List Nat} {v a : AV} (h : v.ren (idxOf · ids) = some a) : a.ren (over ids) = some v := by
  obtain ⟨a', h1, h2⟩ := AV.ren_comp (σ := over ids) (ρ' := some) (fun k i hk => ⟨k, idxOf_spec hk, rfl⟩) h
  rw [AV.ren_id] at h1; cases h1; exact h2
theorem unrenO {ids : List Nat} {v a : AO} (h : v.ren (idxOf · ids) = some a) : a.ren (over ids) = some v := by
  obtain ⟨a', h1, h2⟩ := AO.ren_comp (σ := over ids) (ρ' := some) (fun k i hk => ⟨k, idxOf_spec hk, rfl⟩) h
  rw [AO.ren_id] at h1; cases h1; exact h2

/-- A name for a value, at the next number. -/
def bindN (t : Nat) (sc : Bool) (ids : List Nat) (v : AV) (ρ : List AV) : Option (List AV) :=
  if t = ρ.length then match v.ren (idxOf · ids) with
    | some a => if v.one && (!sc || v.scalar) then some (ρ ++ [a]) else none
    | none => none
  else none
mutual
def bindV : AV → AV → List AV → Option (List AV)
  | .hid t sc ids, v, ρ => bindN t sc ids v ρ
  | .ip cs, .ip ds, ρ => bindL cs ds ρ
  | .tup cs, .tup ds, ρ => bindL cs ds ρ
  | .agg cs, .agg ds, ρ => bindL cs ds ρ
  | .fn f cs, .fn g ds, ρ => if f = g then bindL cs ds ρ else none
  | .undef, .undef, ρ => some ρ
  | .bool a, .bool b, ρ => if a = b then some ρ else none
  | .int j a, .int k b, ρ => if j = k ∧ a = b then some ρ else none
  | .str a, .str b, ρ => if a = b then some ρ else none
  | .nilp, .nilp, ρ => some ρ
  | .ptr i o, .ptr j p, ρ => if i = j ∧ o = p then some ρ else none
  | .snil, .snil, ρ => some ρ
  | .e0, .e0, ρ => some ρ
  | .sl i o l s c, .sl j p m t d, ρ => if i = j ∧ o = p ∧ l = m ∧ s = t ∧ c = d then some ρ else none
  | .nilf, .nilf, ρ => some ρ
  | .mapv i, .mapv j, ρ => if i = j then some ρ else none
  | .chv i, .chv j, ρ => if i = j then some ρ else none
  | _, _, _ => none
def bindL : List AV → List AV → List AV → Option (List AV)
  | [], [], ρ => some ρ
  | p :: ps, v :: vs, ρ => match bindV p v ρ with
    | some ρ' => bindL ps vs ρ'
    | none => none
  | _, _, _ => none
end
def bindE : List (AV × AV) → List (AV × AV) → List AV → Option (List AV)
  | [], [], ρ => some ρ
  | (p, q) :: ps, (u, v) :: vs, ρ => match bindV p u ρ with
    | some ρ' => match bindV q v ρ' with
      | some ρ'' => bindE ps vs ρ''
      | none => none
    | none => none
  | _, _, _ => none
def bindO : AO → AO → List AV → List AO → Option (List AV × List AO)
  | .hid t ids, o, ρ, ω => if t = ω.length then match o.ren (idxOf · ids) with
      | some .dead => none
      | some o' => some (ρ, ω ++ [o'])
      | none => none
    else none
  | .row cs, .row ds, ρ, ω => (bindL cs ds ρ).map (·, ω)
  | .map cs, .map ds, ρ, ω => (bindE cs ds ρ).map (·, ω)
  | .chan c cs, .chan d ds, ρ, ω => if c = d then (bindL cs ds ρ).map (·, ω) else none
  | .dead, .dead, ρ, ω => some (ρ, ω)
  | _, _, _, _ => none
def bindH : Heap → Heap → List AV → List AO → Option (List AV × List AO)
  | [], [], ρ, ω => some (ρ, ω)
  | p :: ps, o :: os, ρ, ω => match bindO p o ρ ω with
    | some (ρ', ω') => bindH ps os ρ' ω'
    | none => none
  | _, _, _, _ => none

theorem bindN_ok {t : Nat} {sc : Bool} {ids : List Nat} {v : AV} {ρ ρ' : List AV} (h : bindN t sc ids v ρ = some ρ') : (∃ x, ρ' = ρ ++ x) ∧ ∀ ω, (AV.hid t sc ids).inst (nm ρ' ω) = some v := by
  unfold bindN at h
  split at h
  · rename_i ht
    split at h
    · rename_i a ha
      split at h
      · rename_i hc
        simp at h; subst h; subst ht
        refine ⟨⟨_, rfl⟩, fun ω => ?_⟩
        have e : (nm (ρ ++ [a]) ω).hv ρ.length = a := by simp [nm, names, List.getD_eq_getElem?_getD]
        simp only [AV.inst, e, unren ha, hc, if_true]
      · simp at h
    · simp at h
  · simp at h
theorem nm_le (ρ x : List AV) (ω y : List AO) : (nm ρ ω).le (nm (ρ ++ x) (ω ++ y)) := names_le _ ρ x ω y
theorem nm_le1 (ρ x : List AV) (ω : List AO) : (nm ρ ω).le (nm (ρ ++ x) ω) := by
  have := names_le (fun _ => True) ρ x ω []
  rw [List.append_nil] at this
  exact this
mutual
theorem bindV_ok : ∀ {p v : AV} {ρ ρ' : List AV}, bindV p v ρ = some ρ' → (∃ x, ρ' = ρ ++ x) ∧ ∀ ω, p.inst (nm ρ' ω) = some v
  | .hid t sc ids, v, ρ, ρ', h => by rw [bindV] at h; exact bindN_ok h
  | .ip cs, v, ρ, ρ', h => by
    cases v <;> simp only [bindV] at h <;> try (cases h; done)
    obtain ⟨h1, h2⟩ := bindL_ok h
    exact ⟨h1, fun ω => by simp only [AV.inst, h2 ω, Option.map_some]⟩
  | .tup cs, v, ρ, ρ', h => by
    cases v <;> simp only [bindV] at h <;> try (cases h; done)
    obtain ⟨h1, h2⟩ := bindL_ok h
    exact ⟨h1, fun ω => by simp only [AV.inst, h2 ω, Option.map_some]⟩
  | .agg cs, v, ρ, ρ', h => by
    cases v <;> simp only [bindV] at h <;> try (cases h; done)
    obtain ⟨h1, h2⟩ := bindL_ok h
    exact ⟨h1, fun ω => by simp only [AV.inst, h2 ω, Option.map_some]⟩
  | .fn f cs, v, ρ, ρ', h => by
    cases v <;> simp only [bindV] at h <;> try (cases h; done)
    split at h
    · rename_i hf; subst hf
      obtain ⟨h1, h2⟩ := bindL_ok h
      exact ⟨h1, fun ω => by simp only [AV.inst, h2 ω, Option.map_some]⟩
    · simp at h
  | .undef, v, ρ, ρ', h => by cases v <;> simp [bindV] at h <;> first | (subst h; exact ⟨⟨[], by simp⟩, fun ω => rfl⟩)
  | .bool b, v, ρ, ρ', h => by cases v <;> simp [bindV] at h <;> first | (obtain ⟨rfl, rfl⟩ := h; exact ⟨⟨[], by simp⟩, fun ω => rfl⟩)
  | .int k n, v, ρ, ρ', h => by cases v <;> simp [bindV] at h <;> first | (obtain ⟨⟨rfl, rfl⟩, rfl⟩ := h; exact ⟨⟨[], by simp⟩, fun ω => rfl⟩)
  | .str l, v, ρ, ρ', h => by cases v <;> simp [bindV] at h <;> first | (obtain ⟨rfl, rfl⟩ := h; exact ⟨⟨[], by simp⟩, fun ω => rfl⟩)
  | .nilp, v, ρ, ρ', h => by cases v <;> simp [bindV] at h <;> first | (subst h; exact ⟨⟨[], by simp⟩, fun ω => rfl⟩)
  | .ptr i o, v, ρ, ρ', h => by cases v <;> simp [bindV] at h <;> first | (obtain ⟨⟨rfl, rfl⟩, rfl⟩ := h; exact ⟨⟨[], by simp⟩, fun ω => rfl⟩)
  | .snil, v, ρ, ρ', h => by cases v <;> simp [bindV] at h <;> first | (subst h; exact ⟨⟨[], by simp⟩, fun ω => rfl⟩)
  | .e0, v, ρ, ρ', h => by cases v <;> simp [bindV] at h <;> first | (subst h; exact ⟨⟨[], by simp⟩, fun ω => rfl⟩)
  | .sl i o l s c, v, ρ, ρ', h => by cases v <;> simp [bindV] at h <;> first | (obtain ⟨⟨rfl, rfl, rfl, rfl, rfl⟩, rfl⟩ := h; exact ⟨⟨[], by simp⟩, fun ω => rfl⟩)
  | .nilf, v, ρ, ρ', h => by cases v <;> simp [bindV] at h <;> first | (subst h; exact ⟨⟨[], by simp⟩, fun ω => rfl⟩)
  | .mapv i, v, ρ, ρ', h => by cases v <;> simp [bindV] at h <;> first | (obtain ⟨rfl, rfl⟩ := h; exact ⟨⟨[], by simp⟩, fun ω => rfl⟩)
  | .chv i, v, ρ, ρ', h => by cases v <;> simp [bindV] at h <;> first | (obtain ⟨rfl, rfl⟩ := h; exact ⟨⟨[], by simp⟩, fun ω => rfl⟩)
  | .im rows sz, v, ρ, ρ', h => by cases v <;> simp [bindV] at h
  | .top, v, ρ, ρ', h => by cases v <;> simp [bindV] at h
theorem bindL_ok : ∀ {ps vs : List AV} {ρ ρ' : List AV}, bindL ps vs ρ = some ρ' → (∃ x, ρ' = ρ ++ x) ∧ ∀ ω, instL (nm ρ' ω) ps = some vs
  | [], vs, ρ, ρ', h => by cases vs <;> simp [bindL] at h; subst h; exact ⟨⟨[], by simp⟩, fun ω => rfl⟩
  | p :: ps, vs, ρ, ρ', h => by
    cases vs with
    | nil => simp [bindL] at h
    | cons v vs =>
      simp only [bindL] at h
      split at h
      · rename_i ρ1 h1
        obtain ⟨⟨x, rfl⟩, h2⟩ := bindV_ok h1
        obtain ⟨⟨y, rfl⟩, h3⟩ := bindL_ok h
        exact ⟨⟨x ++ y, by simp⟩, fun ω => by simp only [instL, inst_le (nm_le1 _ y ω) (h2 ω), h3 ω]⟩
      · simp at h
end
theorem bindE_ok : ∀ {ps vs : List (AV × AV)} {ρ ρ' : List AV}, bindE ps vs ρ = some ρ' → (∃ x, ρ' = ρ ++ x) ∧ ∀ ω, instE (nm ρ' ω) ps = some vs
  | [], vs, ρ, ρ', h => by cases vs <;> simp [bindE] at h; subst h; exact ⟨⟨[], by simp⟩, fun ω => rfl⟩
  | (p, q) :: ps, vs, ρ, ρ', h => by
    cases vs with
    | nil => simp [bindE] at h
    | cons uv vs =>
      obtain ⟨u, v⟩ := uv
      simp only [bindE] at h
      split at h
      · rename_i ρ1 h1
        split at h
        · rename_i ρ2 h1'
          obtain ⟨⟨x, rfl⟩, h2⟩ := bindV_ok h1
          obtain ⟨⟨x', rfl⟩, h2'⟩ := bindV_ok h1'
          obtain ⟨⟨y, rfl⟩, h3⟩ := bindE_ok h
          exact ⟨⟨x ++ (x' ++ y), by simp⟩, fun ω => by simp only [instE, inst_le (nm_le1 _ y ω) (inst_le (nm_le1 _ x' ω) (h2 ω)), inst_le (nm_le1 _ y ω) (h2' ω), h3 ω]⟩
        · simp at h
      · simp at h
theorem bindO_ok {p o : AO} {ρ ρ' : List AV} {ω ω' : List AO} (h : bindO p o ρ ω = some (ρ', ω')) : (∃ x, ρ' = ρ ++ x) ∧ (∃ y, ω' = ω ++ y) ∧ p.inst (nm ρ' ω') = some o := by
  cases p with
  | hid t ids =>
    simp only [bindO] at h
    split at h
    · rename_i ht
      split at h
      · simp at h
      · rename_i o' hne ho
        simp at h; obtain ⟨rfl, rfl⟩ := h; subst ht
        refine ⟨⟨[], by simp⟩, ⟨_, rfl⟩, ?_⟩
        have e : (nm ρ (ω ++ [o'])).ho ω.length = o' := by simp [nm, names, List.getD_eq_getElem?_getD]
        simp only [AO.inst, e, unrenO ho]
        split
        · rename_i e2; cases e2
          have hd : AO.dead.ren (idxOf · ids) = some o' := ho
          simp [AO.ren] at hd; exact absurd hd.symm (fun e => hne (by rw [e]))
        · rfl
      · simp at h
    · simp at h
  | row cs =>
    cases o <;> simp only [bindO, Option.map_eq_some_iff, Prod.mk.injEq] at h <;> try (cases h; done)
    obtain ⟨l, h1, rfl, rfl⟩ := h
    obtain ⟨h2, h3⟩ := bindL_ok h1
    exact ⟨h2, ⟨[], by simp⟩, by simp only [AO.inst, h3, Option.map_some]⟩
  | map cs =>
    cases o <;> simp only [bindO, Option.map_eq_some_iff, Prod.mk.injEq] at h <;> try (cases h; done)
    obtain ⟨l, h1, rfl, rfl⟩ := h
    obtain ⟨h2, h3⟩ := bindE_ok h1
    exact ⟨h2, ⟨[], by simp⟩, by simp only [AO.inst, h3, Option.map_some]⟩
  | chan c cs =>
    cases o <;> simp only [bindO] at h <;> try (cases h; done)
    split at h
    · rename_i hc; subst hc
      simp only [Option.map_eq_some_iff, Prod.mk.injEq] at h
      obtain ⟨l, h1, rfl, rfl⟩ := h
      obtain ⟨h2, h3⟩ := bindL_ok h1
      exact ⟨h2, ⟨[], by simp⟩, by simp only [AO.inst, h3, Option.map_some]⟩
    · cases h
  | dead =>
    cases o <;> simp [bindO] at h
    obtain ⟨rfl, rfl⟩ := h
    exact ⟨⟨[], by simp⟩, ⟨[], by simp⟩, rfl⟩
theorem bindH_ok : ∀ {ps os : Heap} {ρ ρ' : List AV} {ω ω' : List AO}, bindH ps os ρ ω = some (ρ', ω') → (∃ x, ρ' = ρ ++ x) ∧ (∃ y, ω' = ω ++ y) ∧ instH (nm ρ' ω') ps = some os
  | [], os, ρ, ρ', ω, ω', h => by cases os <;> simp [bindH] at h; obtain ⟨rfl, rfl⟩ := h; exact ⟨⟨[], by simp⟩, ⟨[], by simp⟩, rfl⟩
  | p :: ps, os, ρ, ρ', ω, ω', h => by
    cases os with
    | nil => simp [bindH] at h
    | cons o os =>
      simp only [bindH] at h
      split at h
      · rename_i ρ1 ω1 h1
        obtain ⟨⟨x, rfl⟩, ⟨y, rfl⟩, h2⟩ := bindO_ok h1
        obtain ⟨⟨x', rfl⟩, ⟨y', rfl⟩, h3⟩ := bindH_ok h
        exact ⟨⟨x ++ x', by simp⟩, ⟨y ++ y', by simp⟩, by simp only [instH, instO_le (nm_le _ x' _ y') h2, h3]⟩
      · simp at h

end Go.Proofs.BoatV
