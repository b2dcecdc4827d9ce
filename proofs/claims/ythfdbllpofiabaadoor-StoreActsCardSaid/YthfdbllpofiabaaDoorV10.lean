/- Orders: what may be taken ahead, with what must hold till its turn. -/
import Derived.Test.YthfdbllpofiabaaDoorV9
import Derived.OrdersHeld
namespace Go.Proofs.BoatV
open Go
set_option linter.unusedVariables false
set_option linter.unusedSimpArgs false
variable {P : Program} {ops : Array Oper} {Q : Exit → Act → World → Prop}

/-- What must hold of the world till those of M are done. -/
structure Ent where
  S : World → Prop
  M : Nat → Prop

def dep (ops : Array Oper) (j k : Nat) : Prop := ∃ o, ops[j]? = some o ∧ ∃ e ∈ o.after, Region.binds .any e = true ∧ e.on = k
/-- One that waits for M has come up. -/
def Drop (ops : Array Oper) (M : Nat → Prop) (l : Array Bool) : Prop := ∃ j, l.getD j false = true ∧ ¬ M j ∧ ∃ k, M k ∧ dep ops j k
def Inv (ops : Array Oper) (Es : List Ent) (l : Array Bool) (w : World) : Prop := ∀ e ∈ Es, ¬ Drop ops e.M l → e.S w
def Closed (ops : Array Oper) (l : Array Bool) : Prop := ∀ j k, l.getD j false = true → dep ops j k → l.getD k false = true

def wpI (P : Program) (ops : Array Oper) (Q : Exit → Act → World → Prop) (Es : List Ent) : Nat → Array Bool → Act → World → Prop
  | 0, l, a, w => Inv ops Es l w ∧ Region.ready .any ops l = [] ∧ Q .normal a w
  | n + 1, l, a, w => Inv ops Es l w ∧ (Region.ready .any ops l = [] → Q .normal a w) ∧
    ∀ i ∈ Region.ready .any ops l, wpOp P ops Q i (wpI P ops Q Es n (l.setIfInBounds i true)) a w

theorem wpI_any {Es : List Ent} : ∀ (n : Nat) (l : Array Bool) (a : Act) (w : World), wpI P ops Q Es n l a w → wpAny P .any ops Q n l a w
  | 0, l, a, w, h => h.2
  | n + 1, l, a, w, h => ⟨h.2.1, fun i hi => wpOp_mono (fun a w => wpI_any n _ a w) (h.2.2 i hi)⟩

theorem wpI_inv {Es : List Ent} : ∀ {n : Nat} {l : Array Bool} {a : Act} {w : World}, wpI P ops Q Es n l a w → Inv ops Es l w
  | 0, _, _, _, h => h.1
  | _ + 1, _, _, _, h => h.1

theorem getD_mono {l : Array Bool} {i j : Nat} (h : l.getD j false = true) : (l.setIfInBounds i true).getD j false = true := getD_set_true h

theorem wpI_weaken {Es Fs : List Ent} : ∀ (n : Nat) (l : Array Bool) (a : Act) (w : World), wpI P ops Q Es n l a w →
    (∀ l', (∀ j, l.getD j false = true → l'.getD j false = true) → ∀ w, Inv ops Es l' w → Inv ops Fs l' w) → wpI P ops Q Fs n l a w
  | 0, l, a, w, h, hE => ⟨hE l (fun _ h => h) w h.1, h.2⟩
  | n + 1, l, a, w, h, hE => ⟨hE l (fun _ h => h) w h.1, h.2.1, fun i hi => wpOp_mono (fun a w h' => wpI_weaken n _ a w h' (fun l' hl => hE l' (fun j hj => hl j (getD_mono hj)))) (h.2.2 i hi)⟩

theorem listed_of_getD {l : Array Bool} {i : Nat} (h : l.getD i true = false) : l.getD i false = false := by
  rcases Nat.lt_or_ge i l.size with h' | h'
  · simp [h'] at h ⊢; exact h
  · simp [Array.getElem?_eq_none h']

theorem getD_set {l : Array Bool} {i j : Nat} (h : (l.setIfInBounds i true).getD j false = true) : l.getD j false = true ∨ j = i := by
  by_cases hij : i = j
  · exact .inr hij.symm
  · exact .inl (by rwa [getD_set_ne false hij] at h)

theorem Closed.set {l : Array Bool} (h : Closed ops l) {i : Nat} (hi : i ∈ Region.ready .any ops l) : Closed ops (l.setIfInBounds i true) := by
  intro j k hj hd
  rcases getD_set hj with hj | rfl
  · exact getD_mono (h j k hj hd)
  · obtain ⟨o, ho, e, he, hb, rfl⟩ := hd
    obtain ⟨_, o', ho', hall⟩ := mem_ready.1 hi
    rw [ho] at ho'; cases ho'
    exact getD_mono (hall e he hb)

/-- What waits for M grows by number i, if that waits for it. -/
def Ent.ext (ops : Array Oper) (i : Nat) (e : Ent) : Ent := ⟨e.S, fun k => e.M k ∨ (k = i ∧ ∃ m, e.M m ∧ dep ops i m)⟩

theorem drop_ext {l : Array Bool} {i : Nat} (hc : Closed ops l) (hi : l.getD i false = false) {e : Ent} (h : Drop ops (e.ext ops i).M (l.setIfInBounds i true)) : Drop ops e.M l := by
  obtain ⟨j, hj, hnj, k, hk, hd⟩ := h
  have hji : j ≠ i := by
    rintro rfl
    apply hnj
    rcases hk with hk | ⟨rfl, m, hm, hdm⟩
    · exact .inr ⟨rfl, k, hk, hd⟩
    · exact .inr ⟨rfl, m, hm, hdm⟩
  have hjl : l.getD j false = true := (getD_set hj).resolve_right hji
  refine ⟨j, hjl, fun h => hnj (.inl h), ?_⟩
  rcases hk with hk | ⟨rfl, m, hm, hdm⟩
  · exact ⟨k, hk, hd⟩
  · have := hc j k hjl hd
    rw [hi] at this; cases this

theorem wpI_first {i : Nat} {oi : Oper} {v : Value} (hi : ops[i]? = some oi) (hsel : ∀ (j : Nat) (o : Oper) cs b, ops[j]? = some o → o.op ≠ .select cs b)
    (hQ : ∀ c a w, Q (.panic c) (a.put oi.dst v) w → Q (.panic c) a w) {S : World → Prop} {Es : List Ent} :
    ∀ (n : Nat) (l : Array Bool) (a : Act) (w : World),
      (∀ j oj, ops[j]? = some oj → j ≠ i → l.getD j true = false → (∀ e ∈ oj.after, Region.binds .any e = true → e.on ≠ i) → oi.apart ops oj = true) →
      i ∈ Region.ready .any ops l → Closed ops l → YieldsIf P ops S oi v a →
      wpI P ops Q (Es.map (Ent.ext ops i) ++ [⟨S, fun k => k = i⟩]) n (l.setIfInBounds i true) (a.put oi.dst v) w → wpI P ops Q Es (n + 1) l a w := by
  have hinv : ∀ (l : Array Bool) (w : World), i ∈ Region.ready .any ops l → Closed ops l → Inv ops (Es.map (Ent.ext ops i) ++ [⟨S, fun k => k = i⟩]) (l.setIfInBounds i true) w → Inv ops Es l w ∧ S w := by
    intro l w hr hc h
    have hil := listed_of_getD (mem_ready.1 hr).1
    refine ⟨fun e he hnd => h (e.ext ops i) (List.mem_append_left _ (List.mem_map.2 ⟨e, he, rfl⟩)) (fun hd => hnd (drop_ext hc hil hd)), ?_⟩
    refine h ⟨S, fun k => k = i⟩ (List.mem_append_right _ (by simp)) ?_
    rintro ⟨j, hj, hnj, k, rfl, hd⟩
    have hjl : l.getD j false = true := (getD_set hj).resolve_right hnj
    have := hc j k hjl hd
    rw [hil] at this; cases this
  have hweak : ∀ (l : Array Bool) (l' : Array Bool), i < l.size → (∀ j, (l.setIfInBounds i true).getD j false = true → l'.getD j false = true) → ∀ w, Inv ops (Es.map (Ent.ext ops i) ++ [⟨S, fun k => k = i⟩]) l' w → Inv ops Es l' w := by
    intro l l' hsz hl w h e he hnd
    refine h (e.ext ops i) (List.mem_append_left _ (List.mem_map.2 ⟨e, he, rfl⟩)) (fun hd => hnd ?_)
    have hil' : l'.getD i false = true := hl i (by simp [hsz])
    obtain ⟨j, hj, hnj, k, hk, hd⟩ := hd
    rcases hk with hk | ⟨rfl, m, hm, hdm⟩
    · exact ⟨j, hj, fun h => hnj (.inl h), k, hk, hd⟩
    · by_cases hMk : e.M k
      · exact ⟨j, hj, fun h => hnj (.inl h), k, hMk, hd⟩
      · exact ⟨k, hil', hMk, m, hm, hdm⟩
  have hsize : ∀ l : Array Bool, i ∈ Region.ready .any ops l → i < l.size := fun l hr => by
    have h0 := (mem_ready.1 hr).1
    rcases Nat.lt_or_ge i l.size with h' | h'
    · exact h'
    · simp [Array.getElem?_eq_none h'] at h0
  intro n
  induction n with
  | zero =>
    intro l a w _ hr hc hy H
    obtain ⟨h1, hS⟩ := hinv l w hr hc H.1
    refine ⟨h1, fun h => (by rw [h] at hr; cases hr), fun j hj => ?_⟩
    by_cases hji : j = i
    · subst hji
      exact hy.wpOp hi hS (wpI_weaken 0 _ _ _ H (fun l' hl => hweak l l' (hsize l hr) hl))
    · have := ready_mono hj hji
      rw [H.2.1] at this
      cases this
  | succ n ih =>
    intro l a w hfree hr hc hy H
    obtain ⟨h1, hS⟩ := hinv l w hr hc H.1
    refine ⟨h1, fun h => (by rw [h] at hr; cases hr), fun j hj => ?_⟩
    by_cases hji : j = i
    · subst hji
      exact hy.wpOp hi hS (wpI_weaken (n + 1) _ _ _ H (fun l' hl => hweak l l' (hsize l hr) hl))
    · have h1 := H.2.2 j (ready_mono hj hji)
      obtain ⟨hjun, oj, hoj, hall⟩ := mem_ready.1 hj
      have hil := listed_of_getD (mem_ready.1 hr).1
      have hnot : ∀ e ∈ oj.after, Region.binds .any e = true → e.on ≠ i := fun e he hb heq => by
        have h1 := hall e he hb
        rw [heq, hil] at h1; cases h1
      have h2 := wpOp_putIf hoj (hfree j oj hoj hji hjun hnot) (fun cs b => hsel i oi cs b hi) (fun cs b => hsel j oj cs b hoj) hQ hy h1
      have hfree' : ∀ k ok, ops[k]? = some ok → k ≠ i → (l.setIfInBounds j true).getD k true = false →
          (∀ e ∈ ok.after, Region.binds .any e = true → e.on ≠ i) → oi.apart ops ok = true := fun k ok hk hki hun hno => by
        refine hfree k ok hk hki ?_ hno
        by_cases hjk : j = k
        · subst hjk; exact hjun
        · rw [getD_set_ne true hjk] at hun; exact hun
      refine wpOp_mono (fun a' w' h3 => ih (l.setIfInBounds j true) a' w' hfree' (ready_mono hr (Ne.symm hji)) (hc.set hj) h3.1 ?_) h2
      rw [Array.setIfInBounds_comm _ _ hji]
      exact h3.2

/-- Taken ahead, where nothing need hold. -/
theorem wpI_true {Es : List Ent} {i : Nat} {n : Nat} {l : Array Bool} {a : Act} {w : World} (h : wpI P ops Q Es n l a w) : wpI P ops Q (Es ++ [⟨fun _ => True, fun k => k = i⟩]) n l a w :=
  wpI_weaken n l a w h (fun l' _ w hI e he hd => by
    rcases List.mem_append.1 he with he | he
    · exact hI e he hd
    · simp at he; subst he; trivial)

end Go.Proofs.BoatV
