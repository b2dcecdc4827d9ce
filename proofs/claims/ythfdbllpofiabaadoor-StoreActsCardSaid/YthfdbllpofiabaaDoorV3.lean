/- The evaluator is right: frames, operands, what a change of memory does. -/
import Derived.Test.YthfdbllpofiabaaDoorV2
namespace Go.Proofs.BoatV
open Go
set_option linter.unusedVariables false
set_option linter.unusedSimpArgs false

/-! ### Frames -/
def inb (fr : Fr) (t : Nat) : Prop := t % 8 < (fr.getD (t / 8) []).length
structure FrRep (w : World) (L : Env) (β : List Nat) (fr : Fr) (tmps : Array Value) : Prop where
  val : ∀ t, Rep w L β (fget fr t) (tmps.getD t undef)
  bnd : ∀ t, inb fr t ↔ t < tmps.size

theorem FrRep.mono {w w' : World} {L : Env} (hs : Step w L.on w' L.on) {β β' : List Nat} {fr tmps} (h : FrRep w L β fr tmps) (hβ : ∀ (i b : Nat), β[i]? = some b → β'[i]? = some b) : FrRep w' L β' fr tmps :=
  ⟨fun t => (h.val t).mono hs hβ, h.bnd⟩
theorem FrRep.cut {w : World} {C D : Env} {β : List Nat} {fr tmps} (h : FrRep w C β fr tmps) (h1 : D.hv = C.hv) (h2 : ∀ b, D.on b → C.on b) : FrRep w D β fr tmps := ⟨fun t => (h.val t).cut h1 h2, h.bnd⟩

theorem div_mod_inj {a b : Nat} (h1 : a / 8 = b / 8) (h2 : a % 8 = b % 8) : a = b := by omega

theorem fget_putF (fr : Fr) (d t : Nat) (v : AV) : (t = d ∧ inb fr d ∧ fget (putF fr (some d) v) t = v) ∨ ((t ≠ d ∨ ¬ inb fr d) ∧ fget (putF fr (some d) v) t = fget fr t) := by
  unfold fget putF inb
  simp only [show ∀ n, Nat.div n 8 = n / 8 from fun _ => rfl, show ∀ n, Nat.mod n 8 = n % 8 from fun _ => rfl]
  by_cases hq : t / 8 = d / 8
  · rw [hq]
    by_cases hlt : d / 8 < fr.length
    · have e1 : (fr.set (d / 8) ((fr.getD (d / 8) []).set (d % 8) v)).getD (d / 8) [] = (fr.getD (d / 8) []).set (d % 8) v := by
        simp [List.getD_eq_getElem?_getD, hlt]
      rw [e1]
      by_cases hm : t % 8 = d % 8
      · rw [hm]
        by_cases hb : d % 8 < (fr.getD (d / 8) []).length
        · left; refine ⟨div_mod_inj hq hm, hb, ?_⟩
          generalize fr.getD (d / 8) [] = l at *
          simp [List.getD_eq_getElem?_getD, hb]
        · right; refine ⟨.inr hb, ?_⟩
          generalize fr.getD (d / 8) [] = l at *
          have : l.length ≤ d % 8 := by omega
          simp [List.getD_eq_getElem?_getD, List.getElem?_set, this]
      · right; refine ⟨.inl (fun e => hm (by rw [e])), ?_⟩
        generalize fr.getD (d / 8) [] = l at *
        simp [List.getD_eq_getElem?_getD, List.getElem?_set, Ne.symm hm]
    · have hn : fr[d / 8]? = none := by simp; omega
      right
      have hlen : (fr.getD (d / 8) []).length = 0 := by simp [List.getD_eq_getElem?_getD, hn]
      refine ⟨.inr (by omega), ?_⟩
      have : fr.set (d / 8) ((fr.getD (d / 8) []).set (d % 8) v) = fr := List.set_eq_of_length_le (by omega)
      rw [this]
  · right
    refine ⟨.inl (fun e => hq (by rw [e])), ?_⟩
    have : (fr.set (d / 8) ((fr.getD (d / 8) []).set (d % 8) v)).getD (t / 8) [] = fr.getD (t / 8) [] := by
      simp [List.getD_eq_getElem?_getD, List.getElem?_set, Ne.symm hq]
    rw [this]

theorem inb_putF (fr : Fr) (dst : Option Tmp) (t : Nat) (v : AV) : inb (putF fr dst v) t ↔ inb fr t := by
  cases dst with
  | none => rfl
  | some d =>
    unfold putF inb
    simp only [show ∀ n, Nat.div n 8 = n / 8 from fun _ => rfl, show ∀ n, Nat.mod n 8 = n % 8 from fun _ => rfl]
    by_cases hq : t / 8 = d / 8
    · rw [hq]
      by_cases hlt : d / 8 < fr.length
      · have e1 : (fr.set (d / 8) ((fr.getD (d / 8) []).set (d % 8) v)).getD (d / 8) [] = (fr.getD (d / 8) []).set (d % 8) v := by
          simp [List.getD_eq_getElem?_getD, hlt]
        rw [e1]; simp
      · have : fr.set (d / 8) ((fr.getD (d / 8) []).set (d % 8) v) = fr := List.set_eq_of_length_le (Nat.le_of_not_lt hlt)
        rw [this]
    · have : (fr.set (d / 8) ((fr.getD (d / 8) []).set (d % 8) v)).getD (t / 8) [] = fr.getD (t / 8) [] := by
        simp [List.getD_eq_getElem?_getD, List.getElem?_set, Ne.symm hq]
      rw [this]

theorem FrRep.put {w : World} {L : Env} {β : List Nat} {fr : Fr} {a : Act} (h : FrRep w L β fr a.tmps) (dst : Option Tmp) {v : AV} {u : Value} (hv : Rep w L β v u) : FrRep w L β (putF fr dst v) (a.put dst u).tmps := by
  cases dst with
  | none => exact h
  | some d =>
    refine ⟨fun t => ?_, fun t => by rw [inb_putF, h.bnd]; simp [Act.put]⟩
    rcases fget_putF fr d t v with ⟨rfl, hb, e⟩ | ⟨hne, e⟩
    · rw [e]
      have hlt := (h.bnd t).1 hb
      have : (a.put (some t) u).tmps.getD t undef = u := by simp [Act.put, hlt]
      rw [this]; exact hv
    · rw [e]
      have : (a.put (some d) u).tmps.getD t undef = a.tmps.getD t undef := by
        by_cases htd : t = d
        · subst htd
          have hge : ¬ t < a.tmps.size := fun hlt => by rcases hne with h0 | h0 <;> first | exact h0 rfl | exact h0 ((h.bnd t).2 hlt)
          simp [Act.put, hge]
        · simp only [Act.put, Array.getD_eq_getD_getElem?]
          rw [Array.getElem?_setIfInBounds_ne (Ne.symm htd)]
      rw [this]; exact h.val t

/-! ### Constants and operands -/
theorem ofV1_rep {w : World} {L : Env} {β : List Nat} {v : Value} {av : AV} (h : ofV1 v = some av) : Rep w L β av v := by
  unfold ofV1 at h
  split at h <;> simp at h <;> subst h
  · exact .bool _
  · exact .int _ _
  · rename_i s
    have : (⟨s.data.toList.toArray⟩ : ByteArray) = s := by cases s; simp
    have h2 := Rep.str (w := w) (L := L) (β := β) s.data.toList
    rw [this] at h2
    exact h2
  · exact .nilp
  · exact .snil
  · exact .nilf

theorem ofVL_reps {w : World} {L : Env} {β : List Nat} : ∀ {vs : List Value} {avs : List AV}, ofVL vs = some avs → Reps w L β avs vs
  | [], avs, h => by simp [ofVL] at h; subst h; exact Reps.nil
  | v :: vs, avs, h => by
    simp only [ofVL] at h
    split at h
    · rename_i l h2; simp at h; subst h
      refine Reps.cons ?_ (ofVL_reps h2)
      split
      · rename_i a h1; exact ofV1_rep h1
      · exact .top v
    · simp at h

theorem ofV_rep {w : World} {L : Env} {β : List Nat} {v : Value} {av : AV} (h : ofV v = some av) : Rep w L β av v := by
  unfold ofV at h
  split at h
  · rename_i cs
    simp at h; obtain ⟨l, hl, rfl⟩ := h
    have hr := ofVL_reps (w := w) (L := L) (β := β) hl
    have := Rep.agg (w := w) (L := L) (β := β) l cs.toList hr.1 hr.2
    simpa using this
  · exact ofV1_rep h

theorem ofV_ne {v : Value} {av : AV} (h : ofV v = some av) : av ≠ .top := by
  rintro rfl
  unfold ofV at h
  split at h
  · simp at h
  · unfold ofV1 at h; split at h <;> simp at h
theorem opd_rep {w : World} {L : Env} {β : List Nat} {fr : Fr} {a : Act} (hF : FrRep w L β fr a.tmps) {x : Operand} {av : AV} (h : opd fr x = some av) : Rep w L β av (a.eval x) := by
  cases x with
  | tmp t =>
    simp only [opd] at h
    have hv := hF.val t
    split at h
    · simp at h
    · simp at h; subst h; exact hv
  | const v => simp [opd] at h; exact ofV_rep h
  | global g => simp [opd] at h
  | func f => simp [opd] at h; subst h; exact .fn f [] [] rfl (fun k av v h => by simp at h)

theorem opd_ne {fr : Fr} {x : Operand} {av : AV} (h : opd fr x = some av) : av ≠ .top := by
  rintro rfl
  cases x with
  | tmp t => simp only [opd] at h; split at h <;> simp_all
  | const v =>
    simp only [opd] at h
    unfold ofV at h
    split at h
    · simp at h
    · unfold ofV1 at h; split at h <;> simp at h
  | global g => simp [opd] at h
  | func f => simp [opd] at h

theorem opds_reps {w : World} {L : Env} {β : List Nat} {fr : Fr} {a : Act} (hF : FrRep w L β fr a.tmps) : ∀ {xs : List Operand} {avs : List AV}, opds fr xs = some avs → Reps w L β avs (xs.map a.eval)
  | [], avs, h => by simp [opds] at h; subst h; exact Reps.nil
  | x :: xs, avs, h => by
    simp only [opds] at h
    split at h
    · rename_i v l h1 h2; simp at h; subst h; exact Reps.cons (opd_rep hF h1) (opds_reps hF h2)
    · simp at h

/-! ### The memory -/
theorem live_iff_set {β : List Nat} {H : Heap} {i : Nat} {o o' : AO} (hi : H[i]? = some o) (ho : o ≠ .dead) (ho' : o' ≠ .dead) (b : Nat) : LiveAt β (H.set i o') b ↔ LiveAt β H b := by
  have hlt : i < H.length := (List.getElem?_eq_some_iff.1 hi).1
  constructor
  · rintro ⟨j, x, h1, h2, h3⟩
    by_cases hij : i = j
    · subst hij; exact ⟨i, o, hi, ho, h3⟩
    · rw [List.getElem?_set_ne hij] at h1; exact ⟨j, x, h1, h2, h3⟩
  · rintro ⟨j, x, h1, h2, h3⟩
    by_cases hij : i = j
    · subst hij; exact ⟨i, o', by simp [hlt], ho', h3⟩
    · exact ⟨j, x, by rw [List.getElem?_set_ne hij]; exact h1, h2, h3⟩

theorem shape_of_heap {w w' : World} {b : Nat} (h : w'.heap[b]? = w.heap[b]?) : w'.shape? b = w.shape? b := by simp only [World.shape?, h]

/-- A live object is written: only its block turns; its shape stays. -/
theorem Sim.update {L : Env} {w : World} {β : List Nat} {H : Heap} (hS : Sim L w β H) {i b : Nat} {o o' : AO} (hi : H[i]? = some o) (ho : o ≠ .dead) (ho' : o' ≠ .dead) (hb : β[i]? = some b)
    {w' : World} (hos : w'.os = w.os) (htape : w'.tape = w.tape) (hout : w'.output = w.output) (hsz : w'.heap.size = w.heap.size)
    (hother : ∀ k, k ≠ b → w'.heap[k]? = w.heap[k]?) (hsh : ∀ s, w.shape? b = some s → w'.shape? b = some s)
    (hnew : Step w L.on w' L.on → ∃ x, w'.heap[b]? = some x ∧ RepO w' L β o' x) :
    Sim L w' β (H.set i o') ∧ Step w (LiveAt β H) w' (LiveAt β (H.set i o')) := by
  have hlt : i < H.length := (List.getElem?_eq_some_iff.1 hi).1
  have hL := live_iff_set (β := β) hi ho ho'
  have hLb : LiveAt β H b := ⟨i, o, hi, ho, hb⟩
  have hst : Step w (LiveAt β H) w' (LiveAt β (H.set i o')) := by
    refine ⟨hos, htape, hout, by omega, fun k hk hn => hother k (fun e => hn (e ▸ hLb)), fun k hk hn hn' => hn ((hL k).1 hn'), fun k s hs => ?_⟩
    by_cases hkb : k = b
    · subst hkb; exact hsh s hs
    · rw [shape_of_heap (hother k hkb)]; exact hs
  have hwd := hS.wide hst
  refine ⟨⟨by simp [hS.len], fun j c hj => by rw [hsz]; exact hS.lt j c hj, ?_, ?_, fun k hk => hS.dis k ((hL k).1 hk), fun k hk => hS.big k (by omega)⟩, hst⟩
  · intro j k x y c h1 h2 h3 h4 h5 h6
    have old : ∀ (j : Nat) (x : AO), (H.set i o')[j]? = some x → x ≠ .dead → ∃ y, H[j]? = some y ∧ y ≠ .dead := fun j x hx hx' => by
      by_cases hij : i = j
      · subst hij; exact ⟨o, hi, ho⟩
      · rw [List.getElem?_set_ne hij] at hx; exact ⟨x, hx, hx'⟩
    obtain ⟨x', hx1, hx2⟩ := old j x h1 h2
    obtain ⟨y', hy1, hy2⟩ := old k y h3 h4
    exact hS.inj j k x' y' c hx1 hx2 hy1 hy2 h5 h6
  · intro j x c h1 h2 h3
    by_cases hij : i = j
    · subst hij
      have e : x = o' := by simpa [hlt] using h1.symm
      subst e
      have : c = b := by rw [hb] at h3; exact (Option.some.inj h3).symm
      subst this
      exact hnew hwd
    · rw [List.getElem?_set_ne hij] at h1
      have hcb : c ≠ b := fun e => hij (hS.inj i j o x b hi ho h1 h2 hb (e ▸ h3))
      obtain ⟨y, hy, hr⟩ := hS.obj j x c h1 h2 h3
      exact ⟨y, by rw [hother c hcb]; exact hy, hr.mono hwd (fun _ _ h => h)⟩

theorem get_append_left {α : Type} {l r : List α} {i : Nat} {a : α} (h : l[i]? = some a) : (l ++ r)[i]? = some a := by
  rw [List.getElem?_append_left (List.getElem?_eq_some_iff.1 h).1]; exact h

theorem live_append {β : List Nat} {H : Heap} (hlen : β.length = H.length) {b : Nat} {o : AO} (ho : o ≠ .dead) (c : Nat) : LiveAt (β ++ [b]) (H ++ [o]) c ↔ LiveAt β H c ∨ c = b := by
  constructor
  · rintro ⟨j, x, h1, h2, h3⟩
    rcases Nat.lt_trichotomy j H.length with hj | hj | hj
    · rw [List.getElem?_append_left hj] at h1
      rw [List.getElem?_append_left (by omega)] at h3
      exact .inl ⟨j, x, h1, h2, h3⟩
    · subst hj
      rw [← hlen] at h3
      simp at h3
      exact .inr h3.symm
    · exfalso
      have : (H ++ [o])[j]? = none := by simp; omega
      rw [this] at h1; cases h1
  · rintro (⟨j, x, h1, h2, h3⟩ | rfl)
    · exact ⟨j, x, get_append_left h1, h2, get_append_left h3⟩
    · exact ⟨H.length, o, by simp, ho, by rw [← hlen]; simp⟩

/-- A new block. -/
theorem Sim.new {L : Env} {w : World} {β : List Nat} {H : Heap} (hS : Sim L w β H) {o : AO} (ho : o ≠ .dead) {w' : World} {x : Obj}
    (hos : w'.os = w.os) (htape : w'.tape = w.tape) (hout : w'.output = w.output) (hheap : w'.heap = w.heap.push x)
    (hnew : Step w L.on w' L.on → RepO w' L (β ++ [w.heap.size]) o x) :
    Sim L w' (β ++ [w.heap.size]) (H ++ [o]) ∧ Step w (LiveAt β H) w' (LiveAt (β ++ [w.heap.size]) (H ++ [o])) := by
  have hold : ∀ k, k < w.heap.size → w'.heap[k]? = w.heap[k]? := fun k hk => by rw [hheap, Array.getElem?_push, if_neg (by omega)]
  have hsize : w'.heap.size = w.heap.size + 1 := by rw [hheap]; simp
  have hL := live_append hS.len (b := w.heap.size) ho
  have hst : Step w (LiveAt β H) w' (LiveAt (β ++ [w.heap.size]) (H ++ [o])) := by
    refine ⟨hos, htape, hout, by omega, fun k hk _ => hold k hk, fun k hk hn hn' => ?_, fun k s hs => ?_⟩
    · rcases (hL k).1 hn' with h | h
      · exact hn h
      · omega
    · have hk : k < w.heap.size := by
        rcases Nat.lt_or_ge k w.heap.size with h | h
        · exact h
        · simp [World.shape?, Array.getElem?_eq_none h] at hs
      rw [shape_of_heap (hold k hk)]; exact hs
  have hwd := hS.wide hst
  refine ⟨⟨by simp [hS.len], ?_, ?_, ?_, fun k hk => ?_, fun k hk => hS.big k (by omega)⟩, hst⟩
  · intro j c hj
    rcases Nat.lt_trichotomy j β.length with h | h | h
    · rw [List.getElem?_append_left h] at hj; have := hS.lt j c hj; omega
    · subst h; simp at hj; omega
    · have : (β ++ [w.heap.size])[j]? = none := by simp; omega
      rw [this] at hj; cases hj
  · intro j k y z c h1 h2 h3 h4 h5 h6
    have key : ∀ (j : Nat) (y : AO), (H ++ [o])[j]? = some y → (β ++ [w.heap.size])[j]? = some c → (j < H.length ∧ H[j]? = some y ∧ β[j]? = some c) ∨ (j = H.length ∧ c = w.heap.size) := fun j y h h' => by
      rcases Nat.lt_trichotomy j H.length with hj | hj | hj
      · rw [List.getElem?_append_left hj] at h
        rw [List.getElem?_append_left (by have := hS.len; omega)] at h'
        exact .inl ⟨hj, h, h'⟩
      · subst hj; rw [← hS.len] at h'; simp at h'; exact .inr ⟨rfl, h'.symm⟩
      · have : (H ++ [o])[j]? = none := by simp; omega
        rw [this] at h; cases h
    rcases key j y h1 h5 with ⟨ha, hb, hc⟩ | ⟨ha, hb⟩ <;> rcases key k z h3 h6 with ⟨ha', hb', hc'⟩ | ⟨ha', hb'⟩
    · exact hS.inj j k y z c hb h2 hb' h4 hc hc'
    · have := hS.lt j c hc; omega
    · have := hS.lt k c hc'; omega
    · omega
  · intro j y c h1 h2 h3
    rcases Nat.lt_trichotomy j H.length with hj | hj | hj
    · rw [List.getElem?_append_left hj] at h1
      rw [List.getElem?_append_left (by have := hS.len; omega)] at h3
      obtain ⟨z, hz, hr⟩ := hS.obj j y c h1 h2 h3
      exact ⟨z, by rw [hold c (hS.lt j c h3)]; exact hz, hr.mono hwd (fun _ _ h => get_append_left h)⟩
    · subst hj
      have e1 : y = o := by simpa using h1.symm
      have e2 : c = w.heap.size := by rw [← hS.len] at h3; simpa using h3.symm
      subst e1; subst e2
      exact ⟨x, by rw [hheap]; simp, hnew hwd⟩
    · have : (H ++ [o])[j]? = none := by simp; omega
      rw [this] at h1; cases h1
  · rcases (hL k).1 hk with h | h
    · exact hS.dis k h
    · exact hS.big k (by omega)

/-- The heap as it was: a draw. -/
theorem Sim.same {L : Env} {w w' : World} {β : List Nat} {H : Heap} (hS : Sim L w β H) (hos : w'.os = w.os) (htape : w'.tape = w.tape) (hout : w'.output = w.output) (hheap : w'.heap = w.heap) :
    Sim L w' β H ∧ Step w (LiveAt β H) w' (LiveAt β H) := by
  have hst : Step w (LiveAt β H) w' (LiveAt β H) := ⟨hos, htape, hout, by rw [hheap]; exact Nat.le_refl _, fun k _ _ => by rw [hheap], fun k _ h => h, fun k s hs => by rw [shape_of_heap (w := w) (w' := w') (b := k) (by rw [hheap])]; exact hs⟩
  exact ⟨⟨hS.len, fun i b h => by rw [hheap]; exact hS.lt i b h, hS.inj, fun i o b h1 h2 h3 => let ⟨x, hx, hr⟩ := hS.obj i o b h1 h2 h3; ⟨x, by rw [hheap]; exact hx, hr.mono (hS.wide hst) (fun _ _ h => h)⟩, hS.dis, by rw [hheap]; exact hS.big⟩, hst⟩

/-- Objects that are let go. -/
theorem Sim.kill {L : Env} {w : World} {β : List Nat} {H : Heap} (hS : Sim L w β H) (i : Nat) : Sim L w β (H.set i .dead) ∧ Step w (LiveAt β H) w (LiveAt β (H.set i .dead)) := by
  have old : ∀ (j : Nat) (x : AO), (H.set i .dead)[j]? = some x → x ≠ .dead → H[j]? = some x := fun j x hx hx' => by
    by_cases hij : i = j
    · subst hij
      by_cases hlt : i < H.length
      · simp [hlt] at hx; exact absurd hx.symm hx'
      · have : (H.set i .dead)[i]? = none := by simp; omega
        rw [this] at hx; cases hx
    · rwa [List.getElem?_set_ne hij] at hx
  have hlv : ∀ b, LiveAt β (H.set i .dead) b → LiveAt β H b := fun b ⟨j, x, h1, h2, h3⟩ => ⟨j, x, old j x h1 h2, h2, h3⟩
  have hst : Step w (LiveAt β H) w (LiveAt β (H.set i .dead)) := Step.less hlv
  exact ⟨⟨by simp [hS.len], hS.lt, fun j k x y b h1 h2 h3 h4 => hS.inj j k x y b (old j x h1 h2) h2 (old k y h3 h4) h4, fun j x b h1 h2 h3 => hS.obj j x b (old j x h1 h2) h2 h3, fun b hb => hS.dis b (hlv b hb), hS.big⟩, hst⟩

end Go.Proofs.BoatV
