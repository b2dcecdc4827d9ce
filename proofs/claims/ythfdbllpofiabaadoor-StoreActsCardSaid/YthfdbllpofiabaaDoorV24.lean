/- What a function has made and nobody writes any more, handed back as plain data. -/
import Derived.Test.YthfdbllpofiabaaDoorV23
namespace Go.Proofs.BoatV
open Go
set_option linter.unusedVariables false
set_option linter.unusedSimpArgs false
variable {P : Program} {w : World}

/-! ### Values that name no object -/
mutual
def AV.closed : AV → Bool
  | .ptr _ _ | .sl _ _ _ _ _ | .mapv _ | .chv _ => false
  | .fn _ caps => closedL caps
  | .agg cs => closedL cs
  | .tup cs => closedL cs
  | .hid _ _ ids => ids.isEmpty
  | _ => true
def closedL : List AV → Bool
  | [] => true
  | v :: vs => v.closed && closedL vs
end
mutual
theorem closed_ren {σ : Nat → Option Nat} : ∀ {a : AV}, a.closed = true → a.ren σ = some a
  | .fn f caps, h => by simp only [AV.closed] at h; simp only [AV.ren, closedL_ren h, Option.map_some]
  | .agg caps, h => by simp only [AV.closed] at h; simp only [AV.ren, closedL_ren h, Option.map_some]
  | .tup caps, h => by simp only [AV.closed] at h; simp only [AV.ren, closedL_ren h, Option.map_some]
  | .hid t sc ids, h => by
    have : ids = [] := by simpa [AV.closed] using h
    subst this; rfl
  | .ptr _ _, h => by simp [AV.closed] at h
  | .sl _ _ _ _ _, h => by simp [AV.closed] at h
  | .mapv _, h => by simp [AV.closed] at h
  | .chv _, h => by simp [AV.closed] at h
  | .undef, _ => rfl
  | .bool _, _ => rfl
  | .int _ _, _ => rfl
  | .str _, _ => rfl
  | .nilp, _ => rfl
  | .ip _, _ => rfl
  | .snil, _ => rfl
  | .e0, _ => rfl
  | .im _ _, _ => rfl
  | .nilf, _ => rfl
  | .top, _ => rfl
theorem closedL_ren {σ : Nat → Option Nat} : ∀ {a : List AV}, closedL a = true → renL σ a = some a
  | [], _ => rfl
  | v :: vs, h => by
    simp only [closedL, Bool.and_eq_true] at h
    simp only [renL, closed_ren h.1, closedL_ren h.2]
end
theorem Rep.shut {L : Env} {β β' : List Nat} {a : AV} {v : Value} (h : Rep w L β a v) (hc : a.closed = true) : Rep w L β' a v :=
  h.ren (σ := fun _ => none) (fun i j b hs => by cases hs) (closed_ren hc)

/-- The value as plain data: what lies in rows numbered from m on is let go. -/
inductive Frz (H : Heap) (m : Nat) : AV → AV → Prop
  | same (a : AV) (h : a.closed = true) : Frz H m a a
  | snil (sz : Nat) : Frz H m .snil (.im [] sz)
  | e0 (sz : Nat) : Frz H m .e0 (.im [] sz)
  | sl (i off len sz : Nat) (cap : Option Nat) (cs : List AV) (rows : List (List AV)) (u : Nat → Nat → AV) (hi : m ≤ i) (hH : H[i]? = some (.row cs)) (hlen : len = rows.length)
      (hrow : ∀ (j : Nat) (row : List AV), rows[j]? = some row → row.length = sz)
      (hc : ∀ (j k : Nat) (row : List AV) (av : AV), rows[j]? = some row → row[k]? = some av → cs[off + (j * sz + k)]? = some (u j k))
      (h : ∀ (j k : Nat) (row : List AV) (av : AV), rows[j]? = some row → row[k]? = some av → Frz H m (u j k) av) : Frz H m (.sl i off len sz cap) (.im rows sz)
  | agg (cs ds : List AV) (hl : ds.length = cs.length) (h : ∀ (k : Nat) (c d : AV), cs[k]? = some c → ds[k]? = some d → Frz H m c d) : Frz H m (.agg cs) (.agg ds)
  | tup (cs ds : List AV) (hl : ds.length = cs.length) (h : ∀ (k : Nat) (c d : AV), cs[k]? = some c → ds[k]? = some d → Frz H m c d) : Frz H m (.tup cs) (.tup ds)
/-- The same, of a value that may name the first m objects. -/
inductive FrzT (H : Heap) (m : Nat) : AV → AV → Prop
  | frz {a a' : AV} (h : Frz H m a a') : FrzT H m a a'
  | low (a : AV) (h : a.ren (fun i => if i < m then some i else none) = some a) : FrzT H m a a
  | agg (cs ds : List AV) (hl : ds.length = cs.length) (h : ∀ (k : Nat) (c d : AV), cs[k]? = some c → ds[k]? = some d → FrzT H m c d) : FrzT H m (.agg cs) (.agg ds)
  | tup (cs ds : List AV) (hl : ds.length = cs.length) (h : ∀ (k : Nat) (c d : AV), cs[k]? = some c → ds[k]? = some d → FrzT H m c d) : FrzT H m (.tup cs) (.tup ds)
inductive FrzO (H : Heap) (m : Nat) : AO → AO → Prop
  | row (cs ds : List AV) (hl : ds.length = cs.length) (h : ∀ (k : Nat) (c d : AV), cs[k]? = some c → ds[k]? = some d → FrzT H m c d) : FrzO H m (.row cs) (.row ds)
  | low (o : AO) (h : o.ren (fun i => if i < m then some i else none) = some o) : FrzO H m o o

section
variable {D E : Env} {β βn : List Nat} {H : Heap} {m : Nat}
theorem frz_rep (hS : Sim D w β H) (hv : E.hv = D.hv) (hon : ∀ b, E.on b → D.on b) (hnew : ∀ (i : Nat) (o : AO) (b : Nat), m ≤ i → H[i]? = some o → o ≠ .dead → β[i]? = some b → ¬ E.on b) {a a' : AV} (h : Frz H m a a') : ∀ {v : Value}, Rep w D β a v → Rep w E [] a' v := by
  induction h with
  | same a hc => intro v hr; exact (hr.shut hc).cut hv hon
  | snil sz => intro v hr; cases hr; exact .im [] sz none 0 0 (fun _ _ => Go.undef) rfl (Nat.le_refl _) (fun j row h => by simp at h) (fun h => by omega) (fun _ _ => trivial) (fun j row k av h => by simp at h)
  | e0 sz => intro v hr; cases hr with | e0 a _ => exact .im [] sz a 0 0 (fun _ _ => Go.undef) rfl (Nat.le_refl _) (fun j row h => by simp at h) (fun h => by omega) (fun _ _ => trivial) (fun j row k av h => by simp at h)
  | sl i off len sz cap cs rows uu hi hH hlen hrow hcs h ih =>
    intro v hr
    subst hlen
    cases hr with
    | sl _ _ _ _ _ b c e n hb hlen hcap hsh hroom hsz hfull =>
    have hca := row_cells hS (show rowAt H i = some cs by simp [rowAt, hH]) hb
    refine .im rows sz (some ⟨b, off, none⟩) rows.length c (fun j k => (w.cell? ⟨b, off + (j * sz + k), none⟩).getD Go.undef) rfl hlen hrow (fun h0 => ⟨b, off, rfl, hnew i _ b hi hH (by simp) hb, hS.lt i b hb, fun j k hj hk => ?_⟩) (fun _ _ => trivial) (fun j row k av hj hk => ?_)
    · have hj' := List.getElem?_eq_getElem hj
      have hk' : k < (rows[j]).length := by rw [hrow j _ hj']; exact hk
      have ha := hcs j k _ _ hj' (List.getElem?_eq_getElem hk')
      obtain ⟨u, hu, _⟩ := hca _ _ ha
      rw [Nat.zero_add] at hu
      simp only [hu, Option.getD_some]
    · have ha := hcs j k row av hj hk
      obtain ⟨u, hu, hru⟩ := hca _ _ ha
      rw [Nat.zero_add] at hu
      simp only [hu, Option.getD_some]
      exact ih j k row av hj hk hru
  | agg cs ds hl h ih =>
    intro v hr
    cases hr with
    | agg _ vs h1 h2 => exact .agg ds vs (hl.trans h1) (fun k d v hk hv => by
      have hlt : k < cs.length := by rw [← hl]; exact (List.getElem?_eq_some_iff.1 hk).1
      exact ih k _ d (List.getElem?_eq_getElem hlt) hk (h2 k _ v (List.getElem?_eq_getElem hlt) hv))
  | tup cs ds hl h ih =>
    intro v hr
    cases hr with
    | tup _ vs h1 h2 => exact .tup ds vs (hl.trans h1) (fun k d v hk hv => by
      have hlt : k < cs.length := by rw [← hl]; exact (List.getElem?_eq_some_iff.1 hk).1
      exact ih k _ d (List.getElem?_eq_getElem hlt) hk (h2 k _ v (List.getElem?_eq_getElem hlt) hv))
theorem low_get (hm : β.length = m) : ∀ (i j b : Nat), (if i < m then some i else none) = some j → (β ++ βn)[i]? = some b → β[j]? = some b := by
  intro i j b h1 h2
  split at h1
  · simp at h1; subst h1
    rw [List.getElem?_append_left (by omega)] at h2; exact h2
  · cases h1
theorem frzT_rep (hm : β.length = m) (hS : Sim D w (β ++ βn) H) (hv : E.hv = D.hv) (hon : ∀ b, E.on b → D.on b) (hnew : ∀ (i : Nat) (o : AO) (b : Nat), m ≤ i → H[i]? = some o → o ≠ .dead → (β ++ βn)[i]? = some b → ¬ E.on b) {a a' : AV} (h : FrzT H m a a') :
    ∀ {v : Value}, Rep w D (β ++ βn) a v → Rep w E β a' v := by
  induction h with
  | frz h => intro v hr; exact (frz_rep hS hv hon hnew h hr).mono (Step.refl _ _) (fun i b h => by simp at h)
  | low a h => intro v hr; exact (hr.ren (low_get hm) h).cut hv hon
  | agg cs ds hl h ih =>
    intro v hr
    cases hr with
    | agg _ vs h1 h2 => exact .agg ds vs (hl.trans h1) (fun k d v hk hv => by
      have hlt : k < cs.length := by rw [← hl]; exact (List.getElem?_eq_some_iff.1 hk).1
      exact ih k _ d (List.getElem?_eq_getElem hlt) hk (h2 k _ v (List.getElem?_eq_getElem hlt) hv))
  | tup cs ds hl h ih =>
    intro v hr
    cases hr with
    | tup _ vs h1 h2 => exact .tup ds vs (hl.trans h1) (fun k d v hk hv => by
      have hlt : k < cs.length := by rw [← hl]; exact (List.getElem?_eq_some_iff.1 hk).1
      exact ih k _ d (List.getElem?_eq_getElem hlt) hk (h2 k _ v (List.getElem?_eq_getElem hlt) hv))
theorem frzO_rep (hm : β.length = m) (hS : Sim D w (β ++ βn) H) (hv : E.hv = D.hv) (hho : E.ho = D.ho) (hon : ∀ b, E.on b → D.on b) (hnew : ∀ (i : Nat) (o : AO) (b : Nat), m ≤ i → H[i]? = some o → o ≠ .dead → (β ++ βn)[i]? = some b → ¬ E.on b) {o o' : AO} {x : Obj} (h : FrzO H m o o')
    (hr : RepO w D (β ++ βn) o x) : RepO w E β o' x := by
  cases h with
  | row cs ds hl h =>
    cases hr with
    | row _ vs e fr hlen hfr h2 => exact .row ds vs e fr (by omega) hfr (fun k d hk => by
      have hlt : k < cs.length := by rw [← hl]; exact (List.getElem?_eq_some_iff.1 hk).1
      obtain ⟨v, h3, h4⟩ := h2 k _ (List.getElem?_eq_getElem hlt)
      exact ⟨v, h3, frzT_rep hm hS hv hon hnew (h k _ d (List.getElem?_eq_getElem hlt) hk) h4⟩)
  | low _ h => exact (hr.ren (low_get hm) h).cut hv hho hon
theorem frzO_dead {o o' : AO} (h : FrzO H m o o') : o' = .dead ↔ o = .dead := by
  cases h with
  | row => simp
  | low => rfl
end

/-- The same function, its answer plain data. -/
theorem freeze_ok {f : FuncId} {s t : Spec} (hs : SpecB P f s) (ht : ∀ args H r' H'', t args H = some (r', H'') → ∃ r H', s args H = some (r, H') ∧ FrzT H' H.length r r' ∧ H''.length = H.length ∧ H.length ≤ H'.length ∧
    ∀ (i : Nat) (o o' : AO), i < H.length → H'[i]? = some o → H''[i]? = some o' → FrzO H' H.length o o') : SpecB P f t := by
  intro args H r' H'' h on w β vs hS hR
  obtain ⟨r, H', h1, h2, h3, h4, h5⟩ := ht _ _ _ _ h
  obtain ⟨c1, c2⟩ := hs _ _ _ _ h1 on w β vs hS hR
  refine ⟨c1, c2.mono fun e w' => ?_⟩
  rintro ⟨v, βn, D, rfl, s1, s2, s3, s4⟩
  have hm : β.length = H.length := hS.len
  have hobj : ∀ (i : Nat) (o' : AO), H''[i]? = some o' → ∃ o, H'[i]? = some o ∧ FrzO H' H.length o o' ∧ i < H.length := fun i o' hi => by
    have hlt : i < H.length := by rw [← h3]; exact (List.getElem?_eq_some_iff.1 hi).1
    have hlt' : i < H'.length := by omega
    exact ⟨_, List.getElem?_eq_getElem hlt', h5 i _ o' hlt (List.getElem?_eq_getElem hlt') hi, hlt⟩
  have hβ : ∀ (i b : Nat), i < H.length → β[i]? = some b → (β ++ βn)[i]? = some b := fun i b hi hb => get_append_left hb
  let E : Env := ⟨fun b => D.on b ∧ ¬ ∃ (i : Nat) (o : AO), H.length ≤ i ∧ H'[i]? = some o ∧ o ≠ .dead ∧ (β ++ βn)[i]? = some b, D.hv, D.ho⟩
  have hon : ∀ b, E.on b → D.on b := fun b hb => hb.1
  have hnew : ∀ (i : Nat) (o : AO) (b : Nat), H.length ≤ i → H'[i]? = some o → o ≠ .dead → (β ++ βn)[i]? = some b → ¬ E.on b := fun i o b h6 h7 h8 h9 hb => hb.2 ⟨i, o, h6, h7, h8, h9⟩
  have hold : ∀ b, LiveAt β H'' b → LiveAt (β ++ βn) H' b ∧ E.on b := by
    rintro b ⟨i, o', h6, h7, h8⟩
    obtain ⟨o, h9, h10, h11⟩ := hobj i o' h6
    have hne : o ≠ .dead := fun e => h7 ((frzO_dead h10).2 e)
    have hl : LiveAt (β ++ βn) H' b := ⟨i, o, h9, hne, hβ i b h11 h8⟩
    refine ⟨hl, s1.dis b hl, ?_⟩
    rintro ⟨j, p, k1, k2, k3, k4⟩
    have := s1.inj i j o p b h9 hne k2 k3 (hβ i b h11 h8) k4
    omega
  refine ⟨v, [], E, rfl, ?_, ?_, ?_, ?_⟩
  · rw [List.append_nil]
    refine ⟨by rw [hm, h3], fun i b hb => s1.lt i b (get_append_left hb), fun i j o o' b k1 k2 k3 k4 k5 k6 => ?_, fun i o' b k1 k2 k3 => ?_, fun b hb => (hold b hb).2, fun b hb => ⟨s1.big b hb, ?_⟩⟩
    · obtain ⟨p, q1, q2, q3⟩ := hobj i o k1
      obtain ⟨p', q1', q2', q3'⟩ := hobj j o' k3
      exact s1.inj i j p p' b q1 (fun e => k2 ((frzO_dead q2).2 e)) q1' (fun e => k4 ((frzO_dead q2').2 e)) (get_append_left k5) (get_append_left k6)
    · obtain ⟨o, q1, q2, q3⟩ := hobj i o' k1
      obtain ⟨x, hx, hrx⟩ := s1.obj i o b q1 (fun e => k2 ((frzO_dead q2).2 e)) (get_append_left k3)
      exact ⟨x, hx, frzO_rep (E := E) hm s1 rfl rfl hon hnew q2 hrx⟩
    · rintro ⟨j, p, k1, k2, k3, k4⟩
      have := s1.lt j b k4
      omega
  · rw [List.append_nil]
    exact frzT_rep (E := E) hm s1 rfl hon hnew h2 s2
  · rw [List.append_nil]
    exact ⟨s3.os, s3.tape, s3.output, s3.size, s3.kept, fun b hb hL hl => s3.dead b hb hL (hold b hl).1, s3.shape⟩
  · exact ⟨s4.hv, s4.ho, fun b hb => s4.on b hb.1, fun b hb hc hl => ⟨s4.keep b hb hc hl, fun ⟨i, o, k1, k2, k3, k4⟩ => s3.dead b hb hl ⟨i, o, k2, k3, k4⟩⟩⟩

/-- What is handed over need not be plain: whatever stands for the same. -/
theorem row_len {H : Heap} {i : Nat} {o : AO} (h : H[i]? = some o) : i < H.length := (List.getElem?_eq_some_iff.1 h).1
end Go.Proofs.BoatV
