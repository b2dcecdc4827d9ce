/- The evaluator is right: bounds, composite literals, new memory, maps. -/
import Derived.Test.YthfdbllpofiabaaDoorV5
import Derived.Laws.Tables
import Derived.Laws.IdiomStrings
namespace Go.Proofs.BoatV
open Go
set_option linter.unusedVariables false
set_option linter.unusedSimpArgs false
variable {P : Program} {w : World} {L : Env} {β : List Nat}

/-! ### Bounds -/
inductive ORep (w : World) (L : Env) (β : List Nat) : Option AV → Option Value → Prop
  | none : ORep w L β none none
  | some {a v} (h : Rep w L β a v) : ORep w L β (some a) (some v)

theorem sliceBound_run {k : IntKind} {n : Int} {y : Nat} {c : BoundsCode} (h0 : 0 ≤ n) (h1 : n.toNat ≤ y) : (Instr.sliceBound (.int k n) y c).run P w = .ok n.toNat w := by
  have : n ≤ (y : Int) := by omega
  simp [Instr.sliceBound, asIntOf, h0, this]

theorem boundA_int {d a : Nat} {o : AV} (h : boundA d (some o) = some a) : ∃ k n, o = .int k n ∧ 0 ≤ n ∧ n.toNat = a := by
  unfold boundA at h
  split at h
  · rename_i e; cases e
  · rename_i k n e; cases e
    split at h
    · simp at h; exact ⟨k, n, rfl, ‹_›, h⟩
    · simp at h
  · simp at h

theorem bounds_run {W : World} {isS : Bool} {len cap a b : Nat} {lo hi : Option AV} {vl vh : Option Value} (hl : ORep w L β lo vl) (hh : ORep w L β hi vh) (ha : boundA 0 lo = some a) (hb : boundA len hi = some b) (hab : a ≤ b) (hbc : b ≤ cap) :
    (Instr.sliceBounds isS len cap vl vh none).run P W = .ok (a, b, cap) W := by
  cases hh with
  | none =>
    simp [boundA] at hb; subst hb
    cases hl with
    | none => simp [boundA] at ha; subst ha; simp [Instr.sliceBounds]
    | some h =>
      obtain ⟨k, n, rfl, h0, h1⟩ := boundA_int ha
      cases h
      simp [Instr.sliceBounds, sliceBound_run h0 (by omega : n.toNat ≤ len), h1]
  | some h' =>
    obtain ⟨k', n', rfl, h0', h1'⟩ := boundA_int hb
    cases h'
    cases hl with
    | none => simp [boundA] at ha; subst ha; simp [Instr.sliceBounds, sliceBound_run h0' (by omega : n'.toNat ≤ cap), h1']
    | some h =>
      obtain ⟨k, n, rfl, h0, h1⟩ := boundA_int ha
      cases h
      simp [Instr.sliceBounds, sliceBound_run h0' (by omega : n'.toNat ≤ cap), h1', sliceBound_run h0 (by omega : n.toNat ≤ b), h1]

theorem bounds3_run {W : World} {isS : Bool} {len cap a b m : Nat} {lo : Option AV} {hi mx : AV} {vl : Option Value} {vh vm : Value} (hl : ORep w L β lo vl) (hh : Rep w L β hi vh) (hm : Rep w L β mx vm) (ha : boundA 0 lo = some a) (hb : boundA len (some hi) = some b)
    (hmm : boundA 0 (some mx) = some m) (hab : a ≤ b) (hbm : b ≤ m) (hmc : m ≤ cap) :
    (Instr.sliceBounds isS len cap vl (some vh) (some vm)).run P W = .ok (a, b, m) W := by
  obtain ⟨k', n', rfl, h0', h1'⟩ := boundA_int hb
  obtain ⟨k2, n2, rfl, h02, h12⟩ := boundA_int hmm
  cases hh; cases hm
  cases hl with
  | none => simp [boundA] at ha; subst ha; simp [Instr.sliceBounds, sliceBound_run h02 (by omega : n2.toNat ≤ cap), h12, sliceBound_run h0' (by omega : n'.toNat ≤ m), h1']
  | some h =>
    obtain ⟨k, n, rfl, h0, h1⟩ := boundA_int ha
    cases h
    simp [Instr.sliceBounds, sliceBound_run h02 (by omega : n2.toNat ≤ cap), h12, sliceBound_run h0' (by omega : n'.toNat ≤ m), h1', sliceBound_run h0 (by omega : n.toNat ≤ b), h1]

theorem add_spot {a : Addr} (h : a.spot = none) (n : Nat) : (a.add n).spot = none := by
  unfold Addr.add; split <;> simp_all

theorem sliceA_ok {t : TypeId} {x : AV} {u : Value} {lo hi mx : Option AV} {vl vh vm : Option Value} {av : AV} (h : sliceA P t x lo hi mx = some av) (hx : Rep w L β x u)
    (hl : ORep w L β lo vl) (hh : ORep w L β hi vh) (hm : ORep w L β mx vm) : ∃ r, (∀ w' : World, (Instr.sliceAt t u vl vh vm).run P w' = .ok r w') ∧ Rep w L β av r := by
  unfold sliceA at h
  split at h
  · simp at h
  rename_i hmh
  split at h
  · rename_i l
    split at h
    · rename_i a b ht ha hb
      split at h
      · rename_i hab
        simp at h; subst h
        cases hx; cases hm
        have hr := fun w' : World => bounds_run (P := P) (W := w') (isS := false) (cap := l.length) hl hh ha hb hab.1 hab.2
        refine ⟨.string ((⟨l.toArray⟩ : ByteArray).extract a b), fun w' => ?_, ?_⟩
        · simp [Instr.sliceAt, Instr.slice, underlying_run ht, str_size, hr]
        · have e : (⟨l.toArray⟩ : ByteArray).extract a b = ⟨((l.drop a).take (b - a)).toArray⟩ := by
            apply ByteArray.ext; apply Array.ext'; simp
          rw [e]; exact .str _
      · simp at h
    · simp at h
  · rename_i i off len sz cap
    split at h
    · rename_i e ht
      split at h
      · rename_i hsz
        cases hx with
        | sl _ _ _ _ _ b0 c e' n' hb hlen hcap hsh hroom hsz0 hfull =>
        split at h
        · rename_i a b ha hbb
          cases hm
          split at h
          · rename_i hab
            obtain ⟨hab, hcase⟩ := hab
            have hbc : b ≤ c := by
              rcases hcase with h1 | ⟨c', h1, h2⟩
              · omega
              · have := hcap _ h1; omega
            have hr := fun w' : World => bounds_run (P := P) (W := w') (isS := true) (cap := c) hl hh ha hbb hab hbc
            split at h
            · rename_i hlt
              simp at h; subst h
              refine ⟨.slice (some ⟨b0, off + a * sz, none⟩) (b - a) (c - a), fun w' => ?_, ?_⟩
              · simp [Instr.sliceAt, Instr.slice, underlying_run ht, hr, sizeOf_run hsz, show ¬ c = a by omega, add_none]
              · have hce : off + a * sz + (c - a) * sz = off + c * sz := by rw [Nat.add_assoc, ← Nat.add_mul]; congr 2; omega
                refine .sl i _ _ _ _ b0 (c - a) e' n' hb (by omega) (fun k hk => ?_) hsh ?_ hsz0 (fun hn => by rw [hce]; exact hfull (by simpa using hn))
                · simp only [Option.map_eq_some_iff] at hk
                  obtain ⟨c', h1, rfl⟩ := hk
                  have := hcap _ h1; omega
                · have : off + a * sz + (c - a) * sz = off + c * sz := by rw [Nat.add_assoc, ← Nat.add_mul]; congr 2; omega
                  omega
            · split at h
              · rename_i h0
                simp at h; subst h; subst h0
                refine ⟨.slice (some ⟨b0, off, none⟩) 0 c, fun w' => ?_, .sl i _ _ _ _ b0 c e' n' hb (by omega) hcap hsh hroom hsz0 hfull⟩
                have hb0 : b = 0 := by omega
                subst hb0
                by_cases hc0 : c = 0
                · subst hc0; simp [Instr.sliceAt, Instr.slice, underlying_run ht, hr, sizeOf_run hsz]
                · simp [Instr.sliceAt, Instr.slice, underlying_run ht, hr, sizeOf_run hsz, hc0, add_none]
              · rename_i hnlt h0
                simp at h; subst h
                obtain rfl : b = a := by omega
                refine ⟨.slice (if c = b then some ⟨b0, off, none⟩ else some ⟨b0, off + b * sz, none⟩) 0 (c - b), fun w' => ?_, .im [] sz _ 0 _ (fun _ _ => Go.undef) rfl (Nat.zero_le _) (by simp) (by simp) (by simp) (by simp)⟩
                by_cases hc0 : c = b
                · subst hc0; simp [Instr.sliceAt, Instr.slice, underlying_run ht, hr, sizeOf_run hsz]
                · simp [Instr.sliceAt, Instr.slice, underlying_run ht, hr, sizeOf_run hsz, hc0, add_none]
          · simp at h
        · rename_i a b m ha hbb
          split at h
          · rename_i mm hmm
            split at h
            · rename_i hc
              obtain ⟨hab, hbm, hml⟩ := hc
              cases hm with | some hm =>
              cases hh with
              | none => simp at hmh
              | some hh =>
              have hr := fun w' : World => bounds3_run (P := P) (W := w') (isS := true) (cap := c) (len := len) hl hh hm ha hbb hmm hab hbm (by omega)
              split at h
              · rename_i hlt
                simp at h; subst h
                refine ⟨.slice (some ⟨b0, off + a * sz, none⟩) (b - a) (mm - a), fun w' => ?_, ?_⟩
                · simp [Instr.sliceAt, Instr.slice, underlying_run ht, hr, sizeOf_run hsz, show ¬ mm = a by omega, add_none]
                · refine .sl i _ _ _ _ b0 (mm - a) e' n' hb (by omega) (fun k hk => by simpa using hk.symm) hsh ?_ hsz0 (by simp)
                  have h1 : off + a * sz + (mm - a) * sz = off + mm * sz := by rw [Nat.add_assoc, ← Nat.add_mul]; congr 2; omega
                  have h2 : mm * sz ≤ c * sz := Nat.mul_le_mul_right _ (by omega)
                  omega
              · simp at h; subst h
                refine ⟨.slice (some ⟨b0, off, none⟩) 0 0, fun w' => ?_, .e0 _ (by simp)⟩
                simp [Instr.sliceAt, Instr.slice, underlying_run ht, hr, sizeOf_run hsz, show mm = a by omega, show b = a by omega]
            · simp at h
          · simp at h
        · simp at h
      · simp at h
    · simp at h
  · rename_i rows sz
    split at h
    · rename_i e ht
      split at h
      · rename_i hsz
        cases hx with
        | im _ _ a0 n c uu hn hlen hrows hsome hspot hr0 =>
        split at h
        · rename_i a b ha hbb
          cases hm
          split at h
          · rename_i hab
            simp at h; subst h
            have hr := fun w' : World => bounds_run (P := P) (W := w') (isS := true) (len := n) (cap := c) hl hh ha (by rw [hn]; exact hbb) hab.1 (by omega)
            refine ⟨.slice (if c = a then a0 else a0.map (·.add (a * sz))) (b - a) (c - a), fun w' => ?_, ?_⟩
            · simp [Instr.sliceAt, Instr.slice, underlying_run ht, hr, sizeOf_run hsz]
            · refine .im _ _ _ _ _ (fun j k => uu (a + j) k) (by simp; omega) (by omega) (fun j row hj => ?_) (fun h0 => ?_) (fun ad had => ?_) (fun j row k av hj hk => ?_)
              · rw [List.getElem?_take] at hj; split at hj
                · rw [List.getElem?_drop] at hj; exact hrows _ _ hj
                · simp at hj
              · obtain ⟨bl, off, he, hL, hbl, hc⟩ := hsome (by omega)
                refine ⟨bl, off + a * sz, by rw [if_neg (by omega), he]; simp [add_none], hL, hbl, fun j k hj hk => ?_⟩
                have := hc (a + j) k (by omega) hk
                rw [show off + a * sz + (j * sz + k) = off + ((a + j) * sz + k) by rw [Nat.add_mul]; omega]
                exact this
              · trivial
              · rw [List.getElem?_take] at hj; split at hj
                · rw [List.getElem?_drop] at hj; exact hr0 _ _ _ _ hj hk
                · simp at hj
          · simp at h
        · rename_i k ha hbb
          cases hm with | some hm =>
          cases hh with
          | none => simp at hmh
          | some hh =>
          have hr := fun w' : World => bounds3_run (P := P) (W := w') (isS := true) (cap := c) (len := n) hl hh hm ha (by rw [hn]; exact hbb) (by simp [boundA] : boundA 0 (some (.int k 0)) = some 0) (Nat.le_refl 0) (Nat.le_refl 0) (Nat.zero_le _)
          simp at h; subst h
          exact ⟨.slice a0 0 0, fun w' => by simp [Instr.sliceAt, Instr.slice, underlying_run ht, hr, sizeOf_run hsz], .e0 _ hspot⟩
        · simp at h
      · simp at h
    · simp at h
  · split at h
    · rename_i e ht
      split at h
      · rename_i n hsz ha hbb hmm
        simp at h; subst h
        cases hx
        cases hm with
        | none =>
          have hr := fun w' : World => bounds_run (P := P) (W := w') (isS := true) (cap := 0) hl hh ha hbb (Nat.le_refl 0) (Nat.le_refl 0)
          exact ⟨.slice none 0 0, fun w' => by simp [Instr.sliceAt, Instr.slice, underlying_run ht, hr, sizeOf_run hsz], .snil⟩
        | some hm =>
          cases hh with
          | none => simp at hmh
          | some hh =>
          have hr := fun w' : World => bounds3_run (P := P) (W := w') (isS := true) (cap := 0) (len := 0) hl hh hm ha hbb hmm (Nat.le_refl 0) (Nat.le_refl 0) (Nat.le_refl 0)
          exact ⟨.slice none 0 0, fun w' => by simp [Instr.sliceAt, Instr.slice, underlying_run ht, hr, sizeOf_run hsz], .snil⟩
      · simp at h
    · simp at h
  · split at h
    · rename_i e ht
      split at h
      · rename_i n hsz ha hbb hmm
        simp at h; subst h
        cases hx with
        | e0 a had =>
        cases hm with
        | none =>
          have hr := fun w' : World => bounds_run (P := P) (W := w') (isS := true) (cap := 0) hl hh ha hbb (Nat.le_refl 0) (Nat.le_refl 0)
          exact ⟨.slice a 0 0, fun w' => by simp [Instr.sliceAt, Instr.slice, underlying_run ht, hr, sizeOf_run hsz], .e0 _ had⟩
        | some hm =>
          cases hh with
          | none => simp at hmh
          | some hh =>
          have hr := fun w' : World => bounds3_run (P := P) (W := w') (isS := true) (cap := 0) (len := 0) hl hh hm ha hbb hmm (Nat.le_refl 0) (Nat.le_refl 0) (Nat.le_refl 0)
          exact ⟨.slice a 0 0, fun w' => by simp [Instr.sliceAt, Instr.slice, underlying_run ht, hr, sizeOf_run hsz], .e0 _ had⟩
      · simp at h
    · simp at h
  · simp at h

theorem Reps.uncons {args : List AV} {v : Value} {vs : List Value} (h : Reps w L β args (v :: vs)) : ∃ a as, args = a :: as ∧ Rep w L β a v ∧ Reps w L β as vs := by
  cases args with
  | nil => have := h.1; simp at this
  | cons a as => exact ⟨a, as, rfl, h.head, h.tail⟩
theorem Reps.unnil {args : List AV} (h : Reps w L β args []) : args = [] := by
  cases args with
  | nil => rfl
  | cons a as => have := h.1; simp at this

theorem findT_slc {T : Tab} (hT : OpsOK L T) {sz : Option Nat} {x : AV} {u : Value} {lo hi mx : Option AV} {vl vh vm : Option Value} {av : AV}
    (h : findT (.slc sz lo.isSome hi.isSome mx.isSome) (x :: (lo.toList ++ (hi.toList ++ mx.toList))) T.ops = some av) (hx : Rep w L β x u) (hl : ORep w L β lo vl) (hh : ORep w L β hi vh) (hm : ORep w L β mx vm) :
    ∃ x' lo' hi' mx' r', slcK sz x' lo' hi' mx' = some r' ∧ Rep w L.bare β x' u ∧ ORep w L.bare β lo' vl ∧ ORep w L.bare β hi' vh ∧ ORep w L.bare β mx' vm ∧ ∀ v, Rep w L.bare β r' v → Rep w L β av v := by
  cases hl with
  | none =>
    cases hh with
    | none =>
      cases hm with
      | none =>
        obtain ⟨args', r', g1, g2, g3⟩ := findT_ok hT h (Reps.cons hx Reps.nil)
        obtain ⟨x', as0, rfl, k0, g2⟩ := g2.uncons
        obtain rfl := g2.unnil
        exact ⟨x', none, none, none, r', by simpa [opK, take1] using g1, k0, .none, .none, .none, g3⟩
      | some h3 =>
        obtain ⟨args', r', g1, g2, g3⟩ := findT_ok hT h (Reps.cons hx (Reps.cons h3 Reps.nil))
        obtain ⟨x', as0, rfl, k0, g2⟩ := g2.uncons
        obtain ⟨a2, as3, rfl, k3, g2⟩ := g2.uncons
        obtain rfl := g2.unnil
        exact ⟨x', none, none, (some a2), r', by simpa [opK, take1] using g1, k0, .none, .none, (.some k3), g3⟩
    | some h2 =>
      cases hm with
      | none =>
        obtain ⟨args', r', g1, g2, g3⟩ := findT_ok hT h (Reps.cons hx (Reps.cons h2 Reps.nil))
        obtain ⟨x', as0, rfl, k0, g2⟩ := g2.uncons
        obtain ⟨a1, as2, rfl, k2, g2⟩ := g2.uncons
        obtain rfl := g2.unnil
        exact ⟨x', none, (some a1), none, r', by simpa [opK, take1] using g1, k0, .none, (.some k2), .none, g3⟩
      | some h3 =>
        obtain ⟨args', r', g1, g2, g3⟩ := findT_ok hT h (Reps.cons hx (Reps.cons h2 (Reps.cons h3 Reps.nil)))
        obtain ⟨x', as0, rfl, k0, g2⟩ := g2.uncons
        obtain ⟨a1, as2, rfl, k2, g2⟩ := g2.uncons
        obtain ⟨a2, as3, rfl, k3, g2⟩ := g2.uncons
        obtain rfl := g2.unnil
        exact ⟨x', none, (some a1), (some a2), r', by simpa [opK, take1] using g1, k0, .none, (.some k2), (.some k3), g3⟩
  | some h1 =>
    cases hh with
    | none =>
      cases hm with
      | none =>
        obtain ⟨args', r', g1, g2, g3⟩ := findT_ok hT h (Reps.cons hx (Reps.cons h1 Reps.nil))
        obtain ⟨x', as0, rfl, k0, g2⟩ := g2.uncons
        obtain ⟨a0, as1, rfl, k1, g2⟩ := g2.uncons
        obtain rfl := g2.unnil
        exact ⟨x', (some a0), none, none, r', by simpa [opK, take1] using g1, k0, (.some k1), .none, .none, g3⟩
      | some h3 =>
        obtain ⟨args', r', g1, g2, g3⟩ := findT_ok hT h (Reps.cons hx (Reps.cons h1 (Reps.cons h3 Reps.nil)))
        obtain ⟨x', as0, rfl, k0, g2⟩ := g2.uncons
        obtain ⟨a0, as1, rfl, k1, g2⟩ := g2.uncons
        obtain ⟨a2, as3, rfl, k3, g2⟩ := g2.uncons
        obtain rfl := g2.unnil
        exact ⟨x', (some a0), none, (some a2), r', by simpa [opK, take1] using g1, k0, (.some k1), .none, (.some k3), g3⟩
    | some h2 =>
      cases hm with
      | none =>
        obtain ⟨args', r', g1, g2, g3⟩ := findT_ok hT h (Reps.cons hx (Reps.cons h1 (Reps.cons h2 Reps.nil)))
        obtain ⟨x', as0, rfl, k0, g2⟩ := g2.uncons
        obtain ⟨a0, as1, rfl, k1, g2⟩ := g2.uncons
        obtain ⟨a1, as2, rfl, k2, g2⟩ := g2.uncons
        obtain rfl := g2.unnil
        exact ⟨x', (some a0), (some a1), none, r', by simpa [opK, take1] using g1, k0, (.some k1), (.some k2), .none, g3⟩
      | some h3 =>
        obtain ⟨args', r', g1, g2, g3⟩ := findT_ok hT h (Reps.cons hx (Reps.cons h1 (Reps.cons h2 (Reps.cons h3 Reps.nil))))
        obtain ⟨x', as0, rfl, k0, g2⟩ := g2.uncons
        obtain ⟨a0, as1, rfl, k1, g2⟩ := g2.uncons
        obtain ⟨a1, as2, rfl, k2, g2⟩ := g2.uncons
        obtain ⟨a2, as3, rfl, k3, g2⟩ := g2.uncons
        obtain rfl := g2.unnil
        exact ⟨x', (some a0), (some a1), (some a2), r', by simpa [opK, take1] using g1, k0, (.some k1), (.some k2), (.some k3), g3⟩

theorem slcK_none {x : AV} {lo hi mx : Option AV} {r : AV} (h : slcK none x lo hi mx = some r) : ∃ l a b, x = .str l ∧ mx = none ∧ boundA 0 lo = some a ∧ boundA l.length hi = some b ∧ (a ≤ b ∧ b ≤ l.length) ∧ r = .str ((l.drop a).take (b - a)) := by
  unfold slcK at h
  split at h
  · rename_i l e1
    split at h
    · rename_i a b h1 h2
      split at h
      · rename_i hc
        simp at h
        exact ⟨l, a, b, rfl, rfl, h1, h2, hc, h.symm⟩
      · simp at h
    · simp at h
  · simp_all
  · simp_all
  · simp_all
  · simp at h
theorem slcK_some {sz : Nat} {x : AV} {lo hi mx : Option AV} {r : AV} (h : slcK (some sz) x lo hi mx = some r) :
    (∃ i off len cap a b, x = .sl i off len sz cap ∧ mx = none ∧ boundA 0 lo = some a ∧ boundA len hi = some b ∧ (a ≤ b ∧ b ≤ len) ∧ some r = (if a < b then some (.sl i (off + a * sz) (b - a) sz (cap.map (· - a))) else if a = 0 then some (.sl i off 0 sz cap) else some (.im [] sz))) ∨ ∃ rows, x = .im rows sz ∧
    ((∃ a b, mx = none ∧ boundA 0 lo = some a ∧ boundA rows.length hi = some b ∧ (a ≤ b ∧ b ≤ rows.length) ∧ r = .im ((rows.drop a).take (b - a)) sz) ∨
     (∃ k, mx = some (.int k 0) ∧ boundA 0 lo = some 0 ∧ boundA rows.length hi = some 0 ∧ hi.isNone = false ∧ r = .e0)) := by
  unfold slcK at h
  split at h
  · simp_all
  · rename_i sz' rows s' e
    simp at e; subst e
    split at h
    · rename_i es; subst es
      split at h
      · rename_i a b h1 h2
        split at h
        · rename_i hc
          simp at h
          exact .inr ⟨rows, rfl, .inl ⟨a, b, rfl, h1, h2, hc, h.symm⟩⟩
        · simp at h
      · simp at h
    · simp at h
  · rename_i sz' i off len s' cap e
    simp at e; subst e
    split at h
    · rename_i es; subst es
      split at h
      · rename_i a b h1 h2
        split at h
        · rename_i hc
          exact .inl ⟨i, off, len, cap, a, b, rfl, rfl, h1, h2, hc, h.symm⟩
        · simp at h
      · simp at h
    · simp at h
  · rename_i sz' rows s' k e
    simp at e; subst e
    split at h
    · rename_i es; subst es
      split at h
      · rename_i h1 h2
        split at h
        · rename_i hc
          simp at h
          exact .inr ⟨rows, rfl, .inr ⟨k, rfl, h1, h2, by cases hi <;> simp_all, h.symm⟩⟩
        · simp at h
      · simp at h
    · simp at h
  · simp at h

theorem sliceT_ok {T : Tab} (hT : OpsOK L T) {t : TypeId} {x : AV} {u : Value} {lo hi mx : Option AV} {vl vh vm : Option Value} {av : AV} (h : sliceT P T t x lo hi mx = some av) (hx : Rep w L β x u)
    (hl : ORep w L β lo vl) (hh : ORep w L β hi vh) (hm : ORep w L β mx vm) : ∃ r, (∀ w' : World, (Instr.sliceAt t u vl vh vm).run P w' = .ok r w') ∧ Rep w L β av r := by
  unfold sliceT at h
  split at h
  · rename_i v hv
    simp at h; subst h
    exact sliceA_ok hv hx hl hh hm
  · split at h
    · rename_i ht
      obtain ⟨x', lo', hi', mx', r', g1, g2, g3, g4, g5, g6⟩ := findT_slc hT h hx hl hh hm
      obtain ⟨l, a, b, rfl, rfl, h1, h2, h3, rfl⟩ := slcK_none g1
      have hs : sliceA P t (.str l) lo' hi' none = some (.str ((l.drop a).take (b - a))) := by
        simp only [sliceA, Option.isSome_none, Bool.false_and, Bool.false_eq_true, if_false, ht, h1, h2]
        rw [if_pos h3]
      obtain ⟨r, k1, k2⟩ := sliceA_ok (P := P) hs g2 g3 g4 g5
      exact ⟨r, k1, g6 _ k2⟩
    · rename_i e ht
      split at h
      · rename_i sz hsz
        obtain ⟨x', lo', hi', mx', r', g1, g2, g3, g4, g5, g6⟩ := findT_slc hT h hx hl hh hm
        obtain ⟨i, off, len, cap, a, b, rfl, rfl, h1, h2, h3, h4⟩ | ⟨rows, rfl, ⟨a, b, rfl, h1, h2, h3, rfl⟩ | ⟨k, rfl, h1, h2, h3, rfl⟩⟩ := slcK_some g1
        · have hs : sliceA P t (.sl i off len sz cap) lo' hi' none = some r' := by
            simp only [sliceA, Option.isSome_none, Bool.false_and, Bool.false_eq_true, if_false, ht, hsz, if_true, h1, h2]
            rw [if_pos ⟨h3.1, .inl h3.2⟩]
            exact h4.symm
          obtain ⟨r, k1, k2⟩ := sliceA_ok (P := P) hs g2 g3 g4 g5
          exact ⟨r, k1, g6 _ k2⟩
        · have hs : sliceA P t (.im rows sz) lo' hi' none = some (.im ((rows.drop a).take (b - a)) sz) := by
            simp only [sliceA, Option.isSome_none, Bool.false_and, Bool.false_eq_true, if_false, ht, hsz, if_true, h1, h2]
            rw [if_pos h3]
          obtain ⟨r, k1, k2⟩ := sliceA_ok (P := P) hs g2 g3 g4 g5
          exact ⟨r, k1, g6 _ k2⟩
        · have hs : sliceA P t (.im rows sz) lo' hi' (some (.int k 0)) = some .e0 := by
            simp only [sliceA, h3, Bool.and_false, Bool.false_eq_true, if_false, ht, hsz, if_true, h1, h2]
          obtain ⟨r, k1, k2⟩ := sliceA_ok (P := P) hs g2 g3 g4 g5
          exact ⟨r, k1, g6 _ k2⟩
      · simp at h
    · simp at h

/-! ### Composite literals -/
theorem fold_set (vs : List Value) : ∀ (n off : Nat) (arr : Array Value), off + (n + vs.length) ≤ arr.size →
    ((vs.zipIdx n).foldl (fun cs (x : Value × Nat) => cs.setIfInBounds (off + x.2) x.1) arr).size = arr.size ∧
    ∀ k, ((vs.zipIdx n).foldl (fun cs (x : Value × Nat) => cs.setIfInBounds (off + x.2) x.1) arr)[k]? = if off + n ≤ k ∧ k < off + n + vs.length then vs[k - (off + n)]? else arr[k]? := by
  induction vs with
  | nil => intro n off arr h; exact ⟨rfl, fun k => by simp; omega⟩
  | cons v vs ih =>
    intro n off arr h
    simp only [List.zipIdx_cons, List.foldl_cons]
    simp only [List.length_cons] at h
    obtain ⟨h1, h2⟩ := ih (n + 1) off (arr.setIfInBounds (off + n) v) (by simp; omega)
    refine ⟨by rw [h1]; simp, fun k => ?_⟩
    rw [h2 k]
    rcases Nat.lt_trichotomy k (off + n) with hk | hk | hk
    · rw [if_neg (by omega), if_neg (by omega), Array.getElem?_setIfInBounds_ne (by omega)]
    · subst hk; rw [if_neg (by omega), if_pos (by simp), Array.getElem?_setIfInBounds_self_of_lt (by omega)]; simp
    · by_cases hk2 : k < off + (n + 1) + vs.length
      · rw [if_pos (by omega), if_pos (by simp; omega), show k - (off + n) = (k - (off + (n + 1))) + 1 by omega]; simp
      · rw [if_neg (by omega), if_neg (by simp; omega), Array.getElem?_setIfInBounds_ne (by omega)]

inductive PReps (w : World) (L : Env) (β : List Nat) : List (Nat × AV) → List (Nat × Value) → Prop
  | nil : PReps w L β [] []
  | cons {i a v l m} (h : Rep w L β a v) (hne : a ≠ .top) (hs : PReps w L β l m) : PReps w L β ((i, a) :: l) ((i, v) :: m)

theorem partsA_reps {fr : Fr} {a : Act} (hF : FrRep w L β fr a.tmps) : ∀ {ps : List (Nat × Operand)} {l : List (Nat × AV)}, partsA fr ps = some l → PReps w L β l (ps.map fun (i, x) => (i, a.eval x))
  | [], l, h => by simp [partsA] at h; subst h; exact .nil
  | (i, x) :: r, l, h => by
    simp only [partsA] at h
    split at h
    · rename_i v l' h1 h2; simp at h; subst h; exact .cons (opd_rep hF h1) (opd_ne h1) (partsA_reps hF h2)
    · simp at h

theorem fill_ok (place : Nat → Option (Nat × Nat)) : ∀ (l : List (Nat × AV)) (m : List (Nat × Value)) (cs cs' : List AV) (arr : Array Value), PReps w L β l m → Reps w L β cs arr.toList → fillA place cs l = some cs' →
    ∃ arr', Instr.fill place arr m = some arr' ∧ Reps w L β cs' arr'.toList
  | _, _, cs, cs', arr, .nil, hr, h => by simp [fillA] at h; subst h; exact ⟨arr, rfl, hr⟩
  | _, _, cs, cs', arr, .cons (i := i) (a := a) (v := v) (l := l) (m := m) hv hne hs, hr, h => by
    simp only [fillA] at h
    split at h
    · simp at h
    · rename_i off size hpl
      split at h
      · rename_i hsz
        simp only [Option.bind_eq_some_iff] at h
        obtain ⟨cs1, h1, h2⟩ := h
        obtain ⟨s1, s2, s3⟩ := setAt_spec _ _ _ _ h1
        have hvc := cells_reps hv hne
        have hl1 : v.cells.size = a.cells.length := by rw [hvc.1]; simp
        have hl2 : arr.size = cs.length := by rw [hr.1]; simp
        obtain ⟨f1, f2⟩ := fold_set v.cells.toList 0 off arr (by simp; omega)
        let arr1 := (v.cells.toList.zipIdx 0).foldl (fun cs (x : Value × Nat) => cs.setIfInBounds (off + x.2) x.1) arr
        have hr1 : Reps w L β cs1 arr1.toList := by
          refine ⟨by simp [arr1, f1, s1, hl2], fun k av u hk hu => ?_⟩
          rw [s3 k] at hk
          have hu' : arr1[k]? = some u := by simpa using hu
          rw [f2 k] at hu'
          by_cases hin : off ≤ k ∧ k < off + a.cells.length
          · rw [if_pos hin] at hk
            rw [if_pos (by simp; omega)] at hu'
            exact hvc.2 _ _ _ hk (by simpa using hu')
          · rw [if_neg hin] at hk
            rw [if_neg (by simp; omega)] at hu'
            exact hr.2 _ _ _ hk (by simpa using hu')
        obtain ⟨arr', g1, g2⟩ := fill_ok place l m cs1 cs' arr1 hs hr1 h2
        refine ⟨arr', ?_, g2⟩
        simp only [Instr.fill, hpl]
        rw [if_neg (by simp; omega)]
        have e : Array.foldl (fun cs (x : Value × Nat) => cs.setIfInBounds (off + x.2) x.1) arr v.cells.zipIdx = arr1 := by
          rw [← Array.foldl_toList]; simp [arr1]
        rw [← g1, ← e]
      · simp at h

theorem placesOf_eq : ∀ {fs : List Field} {pl : List (Nat × Nat)}, placesOf P fs = some pl → fs.mapM (fun f => (P.info? f.type).map fun i => (f.offset, i.size)) = some pl
  | [], pl, h => by simp [placesOf] at h; subst h; rfl
  | f :: fs, pl, h => by
    simp only [placesOf] at h
    split at h
    · rename_i i l h1 h2; simp at h; subst h; simp [List.mapM_cons, h1, placesOf_eq h2]
    · simp at h

theorem zeroOf_info {t : TypeId} {z : AV} (h : zeroOf P t = some z) : ∃ i v, P.info? t = some i ∧ i.zero = some v ∧ ofV v = some z := by
  simp only [zeroOf, Option.bind_eq_some_iff] at h
  obtain ⟨v, ⟨i, h1, h2⟩, h3⟩ := h
  exact ⟨i, v, h1, h2, h3⟩

theorem buildA_ok {t : TypeId} {l : List (Nat × AV)} {m : Array (Nat × Value)} {av : AV} (h : buildA P t l = some av) (hl : PReps w L β l m.toList) : ∃ r, (∀ w' : World, (Instr.build t m).run P w' = .ok r w') ∧ Rep w L β av r := by
  unfold buildA at h
  split at h
  · rename_i z fs hz hu
    split at h
    · rename_i pl hpl
      simp only [Option.map_eq_some_iff] at h
      obtain ⟨cs, h1, rfl⟩ := h
      obtain ⟨i, zv, hi, hiz, hzv⟩ := zeroOf_info hz
      obtain ⟨arr, g1, g2⟩ := fill_ok _ l m.toList z.cells cs zv.cells hl (cells_reps (ofV_rep hzv) (ofV_ne hzv)) h1
      refine ⟨.agg arr, fun w' => run_build w' t m arr ?_, by have := Rep.agg (w := w) (L := L) (β := β) cs arr.toList g2.1 g2.2; simpa using this⟩
      simp only [Program.built, hi, hu, hiz, placesOf_eq hpl]
      have : (fun (x : Nat) => pl.toArray[x]?) = (fun (x : Nat) => pl[x]?) := by funext x; simp
      rw [this]; exact g1
    · simp at h
  · rename_i z n e hz hu
    split at h
    · rename_i sz hsz
      simp only [Option.map_eq_some_iff] at h
      obtain ⟨cs, h1, rfl⟩ := h
      obtain ⟨i, zv, hi, hiz, hzv⟩ := zeroOf_info hz
      obtain ⟨ie, hie, hies⟩ := szOf_info hsz
      obtain ⟨arr, g1, g2⟩ := fill_ok _ l m.toList z.cells cs zv.cells hl (cells_reps (ofV_rep hzv) (ofV_ne hzv)) h1
      refine ⟨.agg arr, fun w' => run_build w' t m arr ?_, by have := Rep.agg (w := w) (L := L) (β := β) cs arr.toList g2.1 g2.2; simpa using this⟩
      simp only [Program.built, hi, hu, hiz, hie, hies]
      exact g1
    · simp at h
  · simp at h

end Go.Proofs.BoatV
