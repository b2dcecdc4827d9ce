/- The evaluator's values, memory and renaming: definitions alone, and what a value stands for in a world. -/
import Derived.WalkKit
import Derived.MapKept
import Derived.Orders
import Derived.KernelRfl
namespace Go.Proofs.BoatV
open Go
set_option linter.unusedVariables false

/-- A value as the evaluator sees it. Numbers i name objects of the evaluator's own memory. hid t: what the name t stands for, over these objects; top: whatever it be. -/
inductive AV where
  | undef
  | bool (b : Bool)
  | int (k : IntKind) (n : Int)
  | str (l : List UInt8)
  | nilp
  | ptr (i off : Nat)
  | ip (cells : List AV)
  | snil
  | e0
  | sl (i off len sz : Nat) (cap : Option Nat)
  | im (rows : List (List AV)) (sz : Nat)
  | fn (f : FuncId) (caps : List AV)
  | nilf
  | mapv (i : Nat)
  | chv (i : Nat)
  | agg (cs : List AV)
  | tup (vs : List AV)
  | hid (t : Nat) (sc : Bool) (ids : List Nat)
  | top
  deriving Inhabited

/-- An object: dead (never looked at again), a row of cells, a map's entries; a named one. -/
inductive AO where
  | dead
  | row (cs : List AV)
  | map (es : List (AV × AV))
  | chan (cap : Nat) (buf : List AV)
  | hid (t : Nat) (ids : List Nat)
  deriving Inhabited

/-- What a proof holds fast: what may be written; what the names stand for. -/
structure Env where
  on : Nat → Prop
  hv : Nat → AV
  ho : Nat → AO

/-- No names. -/
def bareE (on : Nat → Prop) : Env := ⟨on, fun _ => .undef, fun _ => .dead⟩
def Env.bare (L : Env) : Env := bareE L.on

abbrev Heap := List AO
abbrev Fr := List (List AV)

/-! ### Renaming -/
def renI (σ : Nat → Option Nat) : List Nat → Option (List Nat)
  | [] => some []
  | i :: r => match σ i, renI σ r with
    | some j, some l => some (j :: l)
    | _, _ => none
mutual
def AV.ren (σ : Nat → Option Nat) : AV → Option AV
  | .ptr i off => (σ i).map (.ptr · off)
  | .sl i off len sz cap => (σ i).map (.sl · off len sz cap)
  | .mapv i => (σ i).map .mapv
  | .chv i => (σ i).map .chv
  | .fn f caps => (renL σ caps).map (.fn f)
  | .agg cs => (renL σ cs).map .agg
  | .tup vs => (renL σ vs).map .tup
  | .undef => some .undef
  | .bool b => some (.bool b)
  | .int k n => some (.int k n)
  | .str l => some (.str l)
  | .nilp => some .nilp
  | .ip cells => some (.ip cells)
  | .snil => some .snil
  | .e0 => some .e0
  | .im rows sz => some (.im rows sz)
  | .nilf => some .nilf
  | .hid t sc ids => (renI σ ids).map (.hid t sc ·)
  | .top => some .top
def renL (σ : Nat → Option Nat) : List AV → Option (List AV)
  | [] => some []
  | v :: vs => match v.ren σ, renL σ vs with
    | some v', some vs' => some (v' :: vs')
    | _, _ => none
end

def renE (σ : Nat → Option Nat) : List (AV × AV) → Option (List (AV × AV))
  | [] => some []
  | (k, v) :: es => match k.ren σ, v.ren σ, renE σ es with
    | some k', some v', some es' => some ((k', v') :: es')
    | _, _, _ => none

def AO.ren (σ : Nat → Option Nat) : AO → Option AO
  | .dead => some .dead
  | .row cs => (renL σ cs).map .row
  | .map es => (renE σ es).map .map
  | .chan cap buf => (renL σ buf).map (.chan cap)
  | .hid t ids => (renI σ ids).map (.hid t ·)

mutual
def AV.ids : AV → List Nat → List Nat
  | .ptr i _, acc => i :: acc
  | .sl i _ _ _ _, acc => i :: acc
  | .mapv i, acc => i :: acc
  | .chv i, acc => i :: acc
  | .fn _ caps, acc => idsL caps acc
  | .agg cs, acc => idsL cs acc
  | .tup vs, acc => idsL vs acc
  | .hid _ _ ids, acc => ids ++ acc
  | _, acc => acc
def idsL : List AV → List Nat → List Nat
  | [], acc => acc
  | v :: vs, acc => v.ids (idsL vs acc)
end

def AO.ids : AO → List Nat
  | .dead => []
  | .row cs => idsL cs []
  | .map es => idsL (es.map (·.1)) (idsL (es.map (·.2)) [])
  | .chan _ buf => idsL buf []
  | .hid _ ids => ids

def reach (H : Heap) : Nat → List Nat → List Nat → List Nat
  | 0, _, seen => seen
  | _ + 1, [], seen => seen
  | n + 1, i :: todo, seen =>
    if seen.elem i then reach H n todo seen
    else reach H n (todo ++ ((H[i]?).map AO.ids).getD []) (seen ++ [i])

def idxOf (i : Nat) : List Nat → Option Nat
  | [] => none
  | j :: r => if i == j then some 0 else (idxOf i r).map (· + 1)

def restrict (σ : Nat → Option Nat) (H : Heap) : List Nat → Option Heap
  | [] => some []
  | i :: r => match (H[i]?).bind (AO.ren σ), restrict σ H r with
    | some o, some l => some (o :: l)
    | _, _ => none

def renH (τ : Nat → Option Nat) : Heap → Option Heap
  | [] => some []
  | o :: l => match o.ren τ, renH τ l with
    | some o', some l' => some (o' :: l')
    | _, _ => none

def putBack (H : Heap) : List Nat → Heap → Heap
  | i :: r, o :: l => putBack (H.set i o) r l
  | _, l => H ++ l

def back (ord : List Nat) (n : Nat) (j : Nat) : Option Nat :=
  if j < ord.length then ord[j]? else some (n + (j - ord.length))

def nodupB : List Nat → Bool
  | [] => true
  | i :: r => !r.elem i && nodupB r

/-! ### What a value stands for -/
def LiveAt (β : List Nat) (H : Heap) (b : Nat) : Prop := ∃ (i : Nat) (o : AO), H[i]? = some o ∧ o ≠ .dead ∧ β[i]? = some b

/-- The value of one cell that no store need lay out. -/
def AV.one : AV → Bool
  | .agg _ | .tup _ | .undef | .top => false
  | _ => true
/-- A value that one Go value alone stands for, wherever it lies. -/
def AV.scalar : AV → Bool
  | .bool _ | .int _ _ | .str _ | .nilp | .snil | .nilf => true
  | .hid _ sc _ => sc
  | _ => false
def over (ids : List Nat) (k : Nat) : Option Nat := ids[k]?

inductive Rep (w : World) : Env → List Nat → AV → Value → Prop
  | undef {L : Env} {β} : Rep w L β .undef Go.undef
  | bool {L : Env} {β} (b) : Rep w L β (.bool b) (.bool b)
  | int {L : Env} {β} (k n) : Rep w L β (.int k n) (.int k n)
  | str {L : Env} {β} (l : List UInt8) : Rep w L β (.str l) (.string ⟨l.toArray⟩)
  | nilp {L : Env} {β} : Rep w L β .nilp (.pointer none)
  | ptr {L : Env} {β : List Nat} (i off b) (h : β[i]? = some b) : Rep w L β (.ptr i off) (.pointer (some ⟨b, off, none⟩))
  | ip {L : Env} {β} (cells : List AV) (bl off : Nat) (u : Nat → Value) (hL : ¬ L.on bl) (hlt : bl < w.heap.size)
      (hc : ∀ k, k < cells.length → w.cell? ⟨bl, off + k, none⟩ = some (u k))
      (hr : ∀ (k : Nat) (av : AV), cells[k]? = some av → Rep w L [] av (u k)) : Rep w L β (.ip cells) (.pointer (some ⟨bl, off, none⟩))
  | snil {L : Env} {β} : Rep w L β .snil (.slice none 0 0)
  | e0 {L : Env} {β} (a : Option Addr) (ha : ∀ ad, a = some ad → True) : Rep w L β .e0 (.slice a 0 0)
  | sl {L : Env} {β : List Nat} (i off len sz cap b c e n) (h : β[i]? = some b) (hlen : len ≤ c) (hcap : ∀ k, cap = some k → k = c)
      (hsh : w.shape? b = some (e, n)) (hroom : off + c * sz ≤ n) (hsz : 0 < sz) (hfull : cap = none → off + c * sz = n) : Rep w L β (.sl i off len sz cap) (.slice (some ⟨b, off, none⟩) len c)
  | im {L : Env} {β} (rows : List (List AV)) (sz : Nat) (a : Option Addr) (n c : Nat) (u : Nat → Nat → Value) (hn : n = rows.length) (hlen : n ≤ c) (hrow : ∀ (j : Nat) (row : List AV), rows[j]? = some row → row.length = sz)
      (hsome : 0 < n → ∃ bl off, a = some ⟨bl, off, none⟩ ∧ ¬ L.on bl ∧ bl < w.heap.size ∧
        ∀ j k, j < n → k < sz → w.cell? ⟨bl, off + (j * sz + k), none⟩ = some (u j k))
      (hspot : ∀ ad, a = some ad → True)
      (hr : ∀ (j : Nat) (row : List AV) (k : Nat) (av : AV), rows[j]? = some row → row[k]? = some av → Rep w L [] av (u j k)) : Rep w L β (.im rows sz) (.slice a n c)
  | fn {L : Env} {β} (f) (caps : List AV) (vs : List Value) (hl : caps.length = vs.length)
      (h : ∀ (k : Nat) (av : AV) (v : Value), caps[k]? = some av → vs[k]? = some v → Rep w L β av v) : Rep w L β (.fn f caps) (.func (.func f) #[] vs.toArray)
  | nilf {L : Env} {β} : Rep w L β .nilf .nilFunc
  | mapv {L : Env} {β : List Nat} (i b) (h : β[i]? = some b) : Rep w L β (.mapv i) (.map (some b))
  | chv {L : Env} {β : List Nat} (i b) (h : β[i]? = some b) : Rep w L β (.chv i) (.chan (some b))
  | agg {L : Env} {β} (cs : List AV) (vs : List Value) (hl : cs.length = vs.length)
      (h : ∀ (k : Nat) (av : AV) (v : Value), cs[k]? = some av → vs[k]? = some v → Rep w L β av v) : Rep w L β (.agg cs) (.agg vs.toArray)
  | tup {L : Env} {β} (cs : List AV) (vs : List Value) (hl : cs.length = vs.length)
      (h : ∀ (k : Nat) (av : AV) (v : Value), cs[k]? = some av → vs[k]? = some v → Rep w L β av v) : Rep w L β (.tup cs) (.tuple vs.toArray)
  | hid {L : Env} {β} (t sc ids) (a : AV) (v : Value) (ha : (L.hv t).ren (over ids) = some a) (ho : a.one = true) (hs : sc = true → a.scalar = true) (h : Rep w L.bare β a v) : Rep w L β (.hid t sc ids) v
  | top {L : Env} {β} (v) : Rep w L β .top v

/-- A list of values. -/
def Reps (w : World) (L : Env) (β : List Nat) (avs : List AV) (vs : List Value) : Prop :=
  avs.length = vs.length ∧ ∀ (k : Nat) (av : AV) (v : Value), avs[k]? = some av → vs[k]? = some v → Rep w L β av v

theorem Reps.nil {w L β} : Reps w L β [] [] := ⟨rfl, fun k av v h => by simp at h⟩
theorem Reps.cons {w L β av v avs vs} (h : Rep w L β av v) (hs : Reps w L β avs vs) : Reps w L β (av :: avs) (v :: vs) :=
  ⟨by simp [hs.1], fun k a u ha hu => by
    cases k with
    | zero => simp at ha hu; subst ha; subst hu; exact h
    | succ k => exact hs.2 k a u (by simpa using ha) (by simpa using hu)⟩
theorem Reps.head {w L β av v avs vs} (h : Reps w L β (av :: avs) (v :: vs)) : Rep w L β av v := h.2 0 av v rfl rfl
theorem Reps.tail {w L β av v avs vs} (h : Reps w L β (av :: avs) (v :: vs)) : Reps w L β avs vs :=
  ⟨by simpa using h.1, fun k a u ha hu => h.2 (k + 1) a u (by simpa using ha) (by simpa using hu)⟩
theorem Reps.at {w L} {β : List Nat} {avs : List AV} {vs : List Value} (h : Reps w L β avs vs) {k : Nat} {av : AV} (hk : avs[k]? = some av) : ∃ v, vs[k]? = some v ∧ Rep w L β av v := by
  have hlt : k < avs.length := (List.getElem?_eq_some_iff.1 hk).1
  have hlt' : k < vs.length := by rw [← h.1]; exact hlt
  exact ⟨vs[k], List.getElem?_eq_getElem hlt', h.2 k av _ hk (List.getElem?_eq_getElem hlt')⟩

/-! ### What changes and what stays -/
structure Step (w : World) (L : Nat → Prop) (w' : World) (L' : Nat → Prop) : Prop where
  os : w'.os = w.os
  tape : w'.tape = w.tape
  output : w'.output = w.output
  size : w.heap.size ≤ w'.heap.size
  kept : ∀ b, b < w.heap.size → ¬ L b → w'.heap[b]? = w.heap[b]?
  dead : ∀ b, b < w.heap.size → ¬ L b → ¬ L' b
  shape : ∀ b s, w.shape? b = some s → w'.shape? b = some s

theorem Step.refl (w L) : Step w L w L := ⟨rfl, rfl, rfl, Nat.le_refl _, fun _ _ _ => rfl, fun _ _ h => h, fun _ _ h => h⟩
theorem Step.trans {w L w1 L1 w2 L2} (h : Step w L w1 L1) (k : Step w1 L1 w2 L2) : Step w L w2 L2 where
  os := k.os.trans h.os
  tape := k.tape.trans h.tape
  output := k.output.trans h.output
  size := Nat.le_trans h.size k.size
  kept b hb hL := (k.kept b (Nat.lt_of_lt_of_le hb h.size) (h.dead b hb hL)).trans (h.kept b hb hL)
  dead b hb hL := k.dead b (Nat.lt_of_lt_of_le hb h.size) (h.dead b hb hL)
  shape b s hs := k.shape b s (h.shape b s hs)

theorem cell?_of_kept {w w' : World} {b off : Nat} (h : w'.heap[b]? = w.heap[b]?) : w'.cell? ⟨b, off, none⟩ = w.cell? ⟨b, off, none⟩ := by
  simp only [World.cell?, h]

theorem Rep.mono' {w w' : World} {L : Env} {β : List Nat} {av v} (h : Rep w L β av v) : Step w L.on w' L.on → ∀ {β' : List Nat}, (∀ (i b : Nat), β[i]? = some b → β'[i]? = some b) → Rep w' L β' av v := by
  induction h with
  | undef => intro hs _ _; exact .undef
  | bool b => intro hs _ _; exact .bool b
  | int k n => intro hs _ _; exact .int k n
  | str l => intro hs _ _; exact .str l
  | nilp => intro hs _ _; exact .nilp
  | ptr i off b h => intro hs β' hβ; exact .ptr i off b (hβ _ _ h)
  | ip cells bl off u hL hlt hc hr ih =>
    intro hs β' hβ
    exact .ip cells bl off u (hs.dead _ hlt hL) (Nat.lt_of_lt_of_le hlt hs.size) (fun k hk => (cell?_of_kept (hs.kept _ hlt hL)).trans (hc k hk)) (fun k av hk => ih k av hk hs (fun _ _ h => h))
  | snil => intro hs _ _; exact .snil
  | e0 a ha => intro hs _ _; exact .e0 a ha
  | sl i off len sz cap b c e n h hlen hcap hsh hroom hsz hfull => intro hs β' hβ; exact .sl i off len sz cap b c e n (hβ _ _ h) hlen hcap (hs.shape _ _ hsh) hroom hsz hfull
  | im rows sz a n c u hn hlen hrow hsome hspot hr ih =>
    intro hs β' hβ
    refine .im rows sz a n c u hn hlen hrow (fun h0 => ?_) hspot (fun j row k av h1 h2 => ih j row k av h1 h2 hs (fun _ _ h => h))
    obtain ⟨bl, off, e, hL, hlt, hc⟩ := hsome h0
    exact ⟨bl, off, e, hs.dead _ hlt hL, Nat.lt_of_lt_of_le hlt hs.size, fun j k hj hk => (cell?_of_kept (hs.kept _ hlt hL)).trans (hc j k hj hk)⟩
  | fn f caps vs hl h ih => intro hs β' hβ; exact .fn f caps vs hl (fun k av v h1 h2 => ih k av v h1 h2 hs hβ)
  | nilf => intro hs _ _; exact .nilf
  | mapv i b h => intro hs β' hβ; exact .mapv i b (hβ _ _ h)
  | chv i b h => intro hs β' hβ; exact .chv i b (hβ _ _ h)
  | agg cs vs hl h ih => intro hs β' hβ; exact .agg cs vs hl (fun k av v h1 h2 => ih k av v h1 h2 hs hβ)
  | tup cs vs hl h ih => intro hs β' hβ; exact .tup cs vs hl (fun k av v h1 h2 => ih k av v h1 h2 hs hβ)
  | hid t sc ids a v ha ho hs' h ih => intro hs β' hβ; exact .hid t sc ids a v ha ho hs' (ih hs hβ)
  | top v => intro hs _ _; exact .top v
theorem Rep.mono {w w' : World} {L : Env} (hs : Step w L.on w' L.on) {β : List Nat} {av v} (h : Rep w L β av v) {β' : List Nat} (hβ : ∀ (i b : Nat), β[i]? = some b → β'[i]? = some b) : Rep w' L β' av v := h.mono' hs hβ

theorem Reps.mono {w w' : World} {L : Env} (hs : Step w L.on w' L.on) {β β' : List Nat} {avs vs} (h : Reps w L β avs vs) (hβ : ∀ (i b : Nat), β[i]? = some b → β'[i]? = some b) : Reps w' L β' avs vs :=
  ⟨h.1, fun k av v h1 h2 => (h.2 k av v h1 h2).mono hs hβ⟩

/-- Fewer live blocks. -/
theorem Step.less {w : World} {L L' : Nat → Prop} (h : ∀ b, L' b → L b) : Step w L w L' :=
  ⟨rfl, rfl, rfl, Nat.le_refl _, fun _ _ _ => rfl, fun b _ hL h' => hL (h b h'), fun _ _ h => h⟩

theorem renL_length {σ : Nat → Option Nat} : ∀ {l l' : List AV}, renL σ l = some l' → l'.length = l.length
  | [], l', h => by simp [renL] at h; subst h; rfl
  | v :: vs, l', h => by
    simp only [renL] at h
    split at h
    · rename_i v' vs' hv hvs; simp at h; subst h; simp [renL_length hvs]
    · simp at h

theorem renL_get {σ : Nat → Option Nat} : ∀ {l l' : List AV}, renL σ l = some l' → ∀ (k : Nat) (av' : AV), l'[k]? = some av' → ∃ av, l[k]? = some av ∧ av.ren σ = some av'
  | [], l', h, k, av', hk => by simp [renL] at h; subst h; simp at hk
  | v :: vs, l', h, k, av', hk => by
    simp only [renL] at h
    split at h
    · rename_i v' vs' hv hvs
      simp at h; subst h
      cases k with
      | zero => simp at hk; subst hk; exact ⟨v, rfl, hv⟩
      | succ k => simpa using renL_get hvs k av' (by simpa using hk)
    · simp at h

theorem renI_get {σ : Nat → Option Nat} : ∀ {l l' : List Nat}, renI σ l = some l' → ∀ (k : Nat), l'[k]? = (l[k]?).bind σ
  | [], l', h, k => by simp [renI] at h; subst h; simp
  | i :: r, l', h, k => by
    simp only [renI] at h
    split at h
    · rename_i j l'' hj hl
      simp at h; subst h
      cases k with
      | zero => simp [hj]
      | succ k => simpa using renI_get hl k
    · simp at h
theorem renI_some {σ : Nat → Option Nat} {l l' : List Nat} (h : renI σ l = some l') : ∀ (k i : Nat), l[k]? = some i → ∃ j, σ i = some j ∧ l'[k]? = some j := by
  intro k i hk
  have := renI_get h k
  rw [hk] at this
  simp only [Option.bind_some] at this
  have hlen : k < l'.length := by
    have hl : l'.length = l.length := by
      clear this hk
      induction l generalizing l' with
      | nil => simp [renI] at h; subst h; rfl
      | cons x r ih =>
        simp only [renI] at h
        split at h
        · simp at h; subst h; simp; exact ih ‹_›
        · simp at h
    rw [hl]; exact (List.getElem?_eq_some_iff.1 hk).1
  exact ⟨l'[k], by rw [← this]; exact List.getElem?_eq_getElem hlen, List.getElem?_eq_getElem hlen⟩

theorem renI_comp {ρ σ ρ' : Nat → Option Nat} (hσ : ∀ k i, ρ k = some i → ∃ j, σ i = some j ∧ ρ' k = some j) : ∀ {l a : List Nat}, renI ρ l = some a → ∃ a', renI ρ' l = some a' ∧ renI σ a = some a'
  | [], a, h => by simp [renI] at h; subst h; exact ⟨[], rfl, rfl⟩
  | i :: r, a, h => by
    simp only [renI] at h
    split at h
    · rename_i j l hj hl
      simp at h; subst h
      obtain ⟨q, h1, h2⟩ := hσ _ _ hj
      obtain ⟨a', h3, h4⟩ := renI_comp hσ hl
      exact ⟨q :: a', by simp [renI, h2, h3], by simp [renI, h1, h4]⟩
    · simp at h
mutual
theorem AV.ren_comp {ρ σ ρ' : Nat → Option Nat} (hσ : ∀ k i, ρ k = some i → ∃ j, σ i = some j ∧ ρ' k = some j) : ∀ {v a : AV}, v.ren ρ = some a → ∃ a', v.ren ρ' = some a' ∧ a.ren σ = some a'
  | .ptr i off, a, h => by
    simp only [AV.ren, Option.map_eq_some_iff] at h
    obtain ⟨j, hj, rfl⟩ := h
    obtain ⟨q, h1, h2⟩ := hσ _ _ hj
    exact ⟨_, by simp only [AV.ren, h2, Option.map_some]; rfl, by simp only [AV.ren, h1, Option.map_some]⟩
  | .sl i off len sz cap, a, h => by
    simp only [AV.ren, Option.map_eq_some_iff] at h
    obtain ⟨j, hj, rfl⟩ := h
    obtain ⟨q, h1, h2⟩ := hσ _ _ hj
    exact ⟨_, by simp only [AV.ren, h2, Option.map_some]; rfl, by simp only [AV.ren, h1, Option.map_some]⟩
  | .mapv i, a, h => by
    simp only [AV.ren, Option.map_eq_some_iff] at h
    obtain ⟨j, hj, rfl⟩ := h
    obtain ⟨q, h1, h2⟩ := hσ _ _ hj
    exact ⟨_, by simp only [AV.ren, h2, Option.map_some]; rfl, by simp only [AV.ren, h1, Option.map_some]⟩
  | .chv i, a, h => by
    simp only [AV.ren, Option.map_eq_some_iff] at h
    obtain ⟨j, hj, rfl⟩ := h
    obtain ⟨q, h1, h2⟩ := hσ _ _ hj
    exact ⟨_, by simp only [AV.ren, h2, Option.map_some]; rfl, by simp only [AV.ren, h1, Option.map_some]⟩
  | .fn f caps, a, h => by
    simp only [AV.ren, Option.map_eq_some_iff] at h
    obtain ⟨l, hl, rfl⟩ := h
    obtain ⟨l', h1, h2⟩ := renL_comp hσ hl
    exact ⟨_, by simp only [AV.ren, h1, Option.map_some]; rfl, by simp only [AV.ren, h2, Option.map_some]⟩
  | .agg cs, a, h => by
    simp only [AV.ren, Option.map_eq_some_iff] at h
    obtain ⟨l, hl, rfl⟩ := h
    obtain ⟨l', h1, h2⟩ := renL_comp hσ hl
    exact ⟨_, by simp only [AV.ren, h1, Option.map_some]; rfl, by simp only [AV.ren, h2, Option.map_some]⟩
  | .tup cs, a, h => by
    simp only [AV.ren, Option.map_eq_some_iff] at h
    obtain ⟨l, hl, rfl⟩ := h
    obtain ⟨l', h1, h2⟩ := renL_comp hσ hl
    exact ⟨_, by simp only [AV.ren, h1, Option.map_some]; rfl, by simp only [AV.ren, h2, Option.map_some]⟩
  | .hid t sc ids, a, h => by
    simp only [AV.ren, Option.map_eq_some_iff] at h
    obtain ⟨l, hl, rfl⟩ := h
    obtain ⟨l', h1, h2⟩ := renI_comp hσ hl
    exact ⟨_, by simp only [AV.ren, h1, Option.map_some]; rfl, by simp only [AV.ren, h2, Option.map_some]⟩
  | .undef, a, h => by simp only [AV.ren, Option.some.injEq] at h; subst h; exact ⟨_, rfl, rfl⟩
  | .bool b, a, h => by simp only [AV.ren, Option.some.injEq] at h; subst h; exact ⟨_, rfl, rfl⟩
  | .int k n, a, h => by simp only [AV.ren, Option.some.injEq] at h; subst h; exact ⟨_, rfl, rfl⟩
  | .str l, a, h => by simp only [AV.ren, Option.some.injEq] at h; subst h; exact ⟨_, rfl, rfl⟩
  | .nilp, a, h => by simp only [AV.ren, Option.some.injEq] at h; subst h; exact ⟨_, rfl, rfl⟩
  | .ip cells, a, h => by simp only [AV.ren, Option.some.injEq] at h; subst h; exact ⟨_, rfl, rfl⟩
  | .snil, a, h => by simp only [AV.ren, Option.some.injEq] at h; subst h; exact ⟨_, rfl, rfl⟩
  | .e0, a, h => by simp only [AV.ren, Option.some.injEq] at h; subst h; exact ⟨_, rfl, rfl⟩
  | .im rows sz, a, h => by simp only [AV.ren, Option.some.injEq] at h; subst h; exact ⟨_, rfl, rfl⟩
  | .nilf, a, h => by simp only [AV.ren, Option.some.injEq] at h; subst h; exact ⟨_, rfl, rfl⟩
  | .top, a, h => by simp only [AV.ren, Option.some.injEq] at h; subst h; exact ⟨_, rfl, rfl⟩
theorem renL_comp {ρ σ ρ' : Nat → Option Nat} (hσ : ∀ k i, ρ k = some i → ∃ j, σ i = some j ∧ ρ' k = some j) : ∀ {l a : List AV}, renL ρ l = some a → ∃ a', renL ρ' l = some a' ∧ renL σ a = some a'
  | [], a, h => by simp [renL] at h; subst h; exact ⟨[], rfl, rfl⟩
  | v :: vs, a, h => by
    simp only [renL] at h
    split at h
    · rename_i v' vs' hv hvs
      simp at h; subst h
      obtain ⟨q, h1, h2⟩ := AV.ren_comp hσ hv
      obtain ⟨l, h3, h4⟩ := renL_comp hσ hvs
      exact ⟨q :: l, by simp [renL, h1, h3], by simp [renL, h2, h4]⟩
    · simp at h
end
theorem over_comp {σ : Nat → Option Nat} {ids ids' : List Nat} (h : renI σ ids = some ids') : ∀ k i, over ids k = some i → ∃ j, σ i = some j ∧ over ids' k = some j := renI_some h

theorem AV.one_ren {σ : Nat → Option Nat} {v a : AV} (h : v.ren σ = some a) : a.one = v.one := by
  cases v <;> simp only [AV.ren, Option.map_eq_some_iff, Option.some.injEq] at h <;> first | (subst h; rfl) | (obtain ⟨_, _, rfl⟩ := h; rfl)
theorem AV.scalar_ren {σ : Nat → Option Nat} {v a : AV} (h : v.ren σ = some a) : a.scalar = v.scalar := by
  cases v <;> simp only [AV.ren, Option.map_eq_some_iff, Option.some.injEq] at h <;> first | (subst h; rfl) | (obtain ⟨_, _, rfl⟩ := h; rfl)

theorem Rep.ren {w L} {β : List Nat} {av v} (h : Rep w L β av v) : ∀ {σ : Nat → Option Nat} {β' : List Nat} {av' : AV}, (∀ (i j b : Nat), σ i = some j → β[i]? = some b → β'[j]? = some b) → av.ren σ = some av' → Rep w L β' av' v := by
  induction h with
  | undef => intro σ β' av' hσ h; simp [AV.ren] at h; subst h; exact .undef
  | bool b => intro σ β' av' hσ h; simp [AV.ren] at h; subst h; exact .bool b
  | int k n => intro σ β' av' hσ h; simp [AV.ren] at h; subst h; exact .int k n
  | str l => intro σ β' av' hσ h; simp [AV.ren] at h; subst h; exact .str l
  | nilp => intro σ β' av' hσ h; simp [AV.ren] at h; subst h; exact .nilp
  | ptr i off b hb => intro σ β' av' hσ h; simp [AV.ren] at h; obtain ⟨j, hj, rfl⟩ := h; exact .ptr j off b (hσ _ _ _ hj hb)
  | ip cells bl off u hL hlt hc hr ih => intro σ β' av' hσ h; simp [AV.ren] at h; subst h; exact .ip cells bl off u hL hlt hc hr
  | snil => intro σ β' av' hσ h; simp [AV.ren] at h; subst h; exact .snil
  | e0 a ha => intro σ β' av' hσ h; simp [AV.ren] at h; subst h; exact .e0 a ha
  | sl i off len sz cap b c e n hb hlen hcap hsh hroom hsz hfull => intro σ β' av' hσ h; simp [AV.ren] at h; obtain ⟨j, hj, rfl⟩ := h; exact .sl j off len sz cap b c e n (hσ _ _ _ hj hb) hlen hcap hsh hroom hsz hfull
  | im rows sz a n c u hn hlen hrow hsome hspot hr ih => intro σ β' av' hσ h; simp [AV.ren] at h; subst h; exact .im rows sz a n c u hn hlen hrow hsome hspot hr
  | fn f caps vs hl h ih =>
    intro σ β' av' hσ h
    simp [AV.ren] at h; obtain ⟨caps', hc, rfl⟩ := h
    refine .fn f caps' vs ((renL_length hc).trans hl) (fun k a v h1 h2 => ?_)
    obtain ⟨a0, h3, h4⟩ := renL_get hc k a h1
    exact ih k a0 v h3 h2 hσ h4
  | nilf => intro σ β' av' hσ h; simp [AV.ren] at h; subst h; exact .nilf
  | mapv i b hb => intro σ β' av' hσ h; simp [AV.ren] at h; obtain ⟨j, hj, rfl⟩ := h; exact .mapv j b (hσ _ _ _ hj hb)
  | chv i b hb => intro σ β' av' hσ h; simp [AV.ren] at h; obtain ⟨j, hj, rfl⟩ := h; exact .chv j b (hσ _ _ _ hj hb)
  | agg cs vs hl h ih =>
    intro σ β' av' hσ h
    simp [AV.ren] at h; obtain ⟨caps', hc, rfl⟩ := h
    refine .agg caps' vs ((renL_length hc).trans hl) (fun k a v h1 h2 => ?_)
    obtain ⟨a0, h3, h4⟩ := renL_get hc k a h1
    exact ih k a0 v h3 h2 hσ h4
  | tup cs vs hl h ih =>
    intro σ β' av' hσ h
    simp [AV.ren] at h; obtain ⟨caps', hc, rfl⟩ := h
    refine .tup caps' vs ((renL_length hc).trans hl) (fun k a v h1 h2 => ?_)
    obtain ⟨a0, h3, h4⟩ := renL_get hc k a h1
    exact ih k a0 v h3 h2 hσ h4
  | hid t sc ids a v ha ho hs h0 ih =>
    intro σ β' av' hσ h
    simp only [AV.ren, Option.map_eq_some_iff] at h
    obtain ⟨ids', hi, rfl⟩ := h
    obtain ⟨a', h1, h2⟩ := AV.ren_comp (over_comp hi) ha
    exact .hid t sc ids' a' v h1 (by rw [AV.one_ren h2]; exact ho) (fun e => by rw [AV.scalar_ren h2]; exact hs e) (ih hσ h2)
  | top v => intro σ β' av' hσ h; simp [AV.ren] at h; subst h; exact .top v

theorem Reps.ren {w L} {β β' : List Nat} {avs avs' vs} {σ : Nat → Option Nat} (h : Reps w L β avs vs) (hσ : ∀ (i j b : Nat), σ i = some j → β[i]? = some b → β'[j]? = some b) (hr : renL σ avs = some avs') : Reps w L β' avs' vs :=
  ⟨(renL_length hr).trans h.1, fun k av v h1 h2 => by
    obtain ⟨a0, h3, h4⟩ := renL_get hr k av h1
    exact (h.2 k a0 v h3 h2).ren hσ h4⟩

/-! ### A memory that stands for the evaluator's -/
def RepE (w : World) (L : Env) (β : List Nat) (es : List (AV × AV)) (ms : List MapEntry) : Prop :=
  es.length = ms.length ∧ ∀ (k : Nat) (e : AV × AV) (m : MapEntry), es[k]? = some e → ms[k]? = some m → Rep w L β e.1 m.key ∧ Rep w L β e.2 m.val

inductive RepO (w : World) : Env → List Nat → AO → Obj → Prop
  | row {L : Env} {β : List Nat} (cs : List AV) (vs : Array Value) (e : TypeId) (fr : Nat × Nat) (hlen : cs.length ≤ vs.size)
      (hfr : ∀ k, k < vs.size → (decide (fr.1 ≤ k) && decide (k < fr.2)) = false)
      (h : ∀ (k : Nat) (av : AV), cs[k]? = some av → ∃ v, vs[k]? = some v ∧ Rep w L β av v) : RepO w L β (.row cs) (.cells vs e fr)
  | map {L : Env} {β : List Nat} (es : List (AV × AV)) (ms : Array MapEntry) (clock : Nat) (hst : MapKept.Stamped ms clock) (h : RepE w L β es ms.toList) : RepO w L β (.map es) (.map ms clock)
  | chan {L : Env} {β : List Nat} (cap : Nat) (buf : List AV) (vs : Array Value) (s r : Nat) (tm : Bool) (h : Reps w L β buf vs.toList) : RepO w L β (.chan cap buf) (.chan cap vs false s r tm)
  | hid {L : Env} {β : List Nat} (t ids) (o : AO) (x : Obj) (ha : (L.ho t).ren (over ids) = some o) (h : RepO w L.bare β o x) : RepO w L β (.hid t ids) x

/-- L: whatever may be written, now or later; the rest stands still. -/
structure Sim (L : Env) (w : World) (β : List Nat) (H : Heap) : Prop where
  len : β.length = H.length
  lt : ∀ (i b : Nat), β[i]? = some b → b < w.heap.size
  inj : ∀ (i j : Nat) (o o' : AO) (b : Nat), H[i]? = some o → o ≠ .dead → H[j]? = some o' → o' ≠ .dead → β[i]? = some b → β[j]? = some b → i = j
  obj : ∀ (i : Nat) (o : AO) (b : Nat), H[i]? = some o → o ≠ .dead → β[i]? = some b → ∃ x, w.heap[b]? = some x ∧ RepO w L β o x
  dis : ∀ b, LiveAt β H b → L.on b
  big : ∀ b, w.heap.size ≤ b → L.on b

theorem Sim.empty {L : Env} (w : World) (hL : ∀ b, w.heap.size ≤ b → L.on b) : Sim L w [] [] :=
  ⟨rfl, fun i b h => by simp at h, fun i j o o' b h => by simp at h, fun i o b h => by simp at h, fun b ⟨i, o, h, _⟩ => by simp at h, hL⟩

theorem Sim.wide {L : Env} {w w' : World} {β : List Nat} {H : Heap} (hS : Sim L w β H) {L' : Nat → Prop} (h : Step w (LiveAt β H) w' L') : Step w L.on w' L.on :=
  ⟨h.os, h.tape, h.output, h.size, fun b hb hL => h.kept b hb (fun hl => hL (hS.dis b hl)), fun _ _ h => h, h.shape⟩

theorem Sim.lives {L : Env} {w : World} {β : List Nat} {H : Heap} (hS : Sim L w β H) {b : Nat} (h : LiveAt β H b) : b < w.heap.size := by
  obtain ⟨i, o, h1, h2, h3⟩ := h; exact hS.lt i b h3

theorem RepO.mono' {w w' : World} {L : Env} {β : List Nat} {o x} (h : RepO w L β o x) : Step w L.on w' L.on → ∀ {β' : List Nat}, (∀ (i b : Nat), β[i]? = some b → β'[i]? = some b) → RepO w' L β' o x := by
  induction h with
  | row cs vs e fr hlen hfr h => intro hs β' hβ; exact .row cs vs e fr hlen hfr (fun k av hk => let ⟨v, h1, h2⟩ := h k av hk; ⟨v, h1, h2.mono hs hβ⟩)
  | map es ms clock hst h => intro hs β' hβ; exact .map es ms clock hst ⟨h.1, fun k e m h1 h2 => ⟨(h.2 k e m h1 h2).1.mono hs hβ, (h.2 k e m h1 h2).2.mono hs hβ⟩⟩
  | chan cap buf vs s r tm h => intro hs β' hβ; exact .chan cap buf vs s r tm (h.mono hs hβ)
  | hid t ids o x ha h ih => intro hs β' hβ; exact .hid t ids o x ha (ih hs hβ)
theorem RepO.mono {w w' : World} {L : Env} (hs : Step w L.on w' L.on) {β β' : List Nat} {o x} (h : RepO w L β o x) (hβ : ∀ (i b : Nat), β[i]? = some b → β'[i]? = some b) : RepO w' L β' o x := h.mono' hs hβ

/-! ### Less may be written: what was made and is written no more -/
/-- Of what might be written at L0's start, D lets go at most what is new, or was L0's. -/
structure Cut (C : Env) (w0 : World) (L0 : Nat → Prop) (D : Env) : Prop where
  hv : D.hv = C.hv
  ho : D.ho = C.ho
  on : ∀ b, D.on b → C.on b
  keep : ∀ b, b < w0.heap.size → C.on b → ¬ L0 b → D.on b
theorem Cut.refl (C w0 L0) : Cut C w0 L0 C := ⟨rfl, rfl, fun _ h => h, fun _ _ h _ => h⟩
theorem Cut.trans {C D E : Env} {w0 w : World} {L0 L : Nat → Prop} (h : Cut C w0 L0 D) (hs : Step w0 L0 w L) (k : Cut D w L E) : Cut C w0 L0 E :=
  ⟨k.hv.trans h.hv, k.ho.trans h.ho, fun b hb => h.on b (k.on b hb), fun b hb hc hl => k.keep b (Nat.lt_of_lt_of_le hb hs.size) (h.keep b hb hc hl) (hs.dead b hb hl)⟩
theorem Rep.cut {w : World} {C : Env} {β : List Nat} {av v} (h : Rep w C β av v) : ∀ {D : Env}, D.hv = C.hv → (∀ b, D.on b → C.on b) → Rep w D β av v := by
  induction h with
  | undef => intro D _ _; exact .undef
  | bool b => intro D _ _; exact .bool b
  | int k n => intro D _ _; exact .int k n
  | str l => intro D _ _; exact .str l
  | nilp => intro D _ _; exact .nilp
  | ptr i off b h => intro D _ _; exact .ptr i off b h
  | ip cells bl off u hL hlt hc hr ih => intro D h1 h2; exact .ip cells bl off u (fun h => hL (h2 _ h)) hlt hc (fun k av hk => ih k av hk h1 h2)
  | snil => intro D _ _; exact .snil
  | e0 a ha => intro D _ _; exact .e0 a ha
  | sl i off len sz cap b c e n h hlen hcap hsh hroom hsz hfull => intro D _ _; exact .sl i off len sz cap b c e n h hlen hcap hsh hroom hsz hfull
  | im rows sz a n c u hn hlen hrow hsome hspot hr ih =>
    intro D h1 h2
    refine .im rows sz a n c u hn hlen hrow (fun h0 => ?_) hspot (fun j row k av hj hk => ih j row k av hj hk h1 h2)
    obtain ⟨bl, off, e, hL, hlt, hc⟩ := hsome h0
    exact ⟨bl, off, e, fun h => hL (h2 _ h), hlt, hc⟩
  | fn f caps vs hl h ih => intro D h1 h2; exact .fn f caps vs hl (fun k av v hk hv => ih k av v hk hv h1 h2)
  | nilf => intro D _ _; exact .nilf
  | mapv i b h => intro D _ _; exact .mapv i b h
  | chv i b h => intro D _ _; exact .chv i b h
  | agg cs vs hl h ih => intro D h1 h2; exact .agg cs vs hl (fun k av v hk hv => ih k av v hk hv h1 h2)
  | tup cs vs hl h ih => intro D h1 h2; exact .tup cs vs hl (fun k av v hk hv => ih k av v hk hv h1 h2)
  | hid t sc ids a v ha ho hs h ih => intro D h1 h2; exact .hid t sc ids a v (by rw [h1]; exact ha) ho hs (ih rfl h2)
  | top v => intro D _ _; exact .top v
theorem Reps.cut {w : World} {C D : Env} {β : List Nat} {avs vs} (h : Reps w C β avs vs) (h1 : D.hv = C.hv) (h2 : ∀ b, D.on b → C.on b) : Reps w D β avs vs := ⟨h.1, fun k av v hk hv => (h.2 k av v hk hv).cut h1 h2⟩
theorem RepO.cut {w : World} {C : Env} {β : List Nat} {o x} (h : RepO w C β o x) : ∀ {D : Env}, D.hv = C.hv → D.ho = C.ho → (∀ b, D.on b → C.on b) → RepO w D β o x := by
  induction h with
  | row cs vs e fr hlen hfr h => intro D h1 _ h2; exact .row cs vs e fr hlen hfr (fun k av hk => let ⟨v, h3, h4⟩ := h k av hk; ⟨v, h3, h4.cut h1 h2⟩)
  | map es ms clock hst h => intro D h1 _ h2; exact .map es ms clock hst ⟨h.1, fun k e m h3 h4 => ⟨(h.2 k e m h3 h4).1.cut h1 h2, (h.2 k e m h3 h4).2.cut h1 h2⟩⟩
  | chan cap buf vs s r tm h => intro D h1 _ h2; exact .chan cap buf vs s r tm (h.cut h1 h2)
  | hid t ids o x ha h ih => intro D h1 h3 h2; exact .hid t ids o x (by rw [h3]; exact ha) (ih rfl rfl h2)

end Go.Proofs.BoatV
