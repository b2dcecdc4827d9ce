/- Names stood in for: the values that they name; what is known beforehand of operations. -/
import Derived.Test.YthfdbllpofiabaaDoorV3
namespace Go.Proofs.BoatV
open Go
set_option linter.unusedVariables false
set_option linter.unusedSimpArgs false

/-! ### Names stood in for -/
mutual
def AV.inst (L : Env) : AV → Option AV
  | .hid t sc ids => match (L.hv t).ren (over ids) with
    | some a => if a.one && (!sc || a.scalar) then some a else none
    | none => none
  | .fn f caps => (instL L caps).map (.fn f)
  | .agg cs => (instL L cs).map .agg
  | .tup cs => (instL L cs).map .tup
  | .ip cs => (instL L cs).map .ip
  | .im rows sz => (instLL L rows).map (.im · sz)
  | .undef => some .undef
  | .bool b => some (.bool b)
  | .int k n => some (.int k n)
  | .str l => some (.str l)
  | .nilp => some .nilp
  | .ptr i off => some (.ptr i off)
  | .snil => some .snil
  | .e0 => some .e0
  | .sl i off len sz cap => some (.sl i off len sz cap)
  | .nilf => some .nilf
  | .mapv i => some (.mapv i)
  | .chv i => some (.chv i)
  | .top => some .top
def instL (L : Env) : List AV → Option (List AV)
  | [] => some []
  | v :: vs => match v.inst L, instL L vs with
    | some a, some l => some (a :: l)
    | _, _ => none
def instLL (L : Env) : List (List AV) → Option (List (List AV))
  | [] => some []
  | v :: vs => match instL L v, instLL L vs with
    | some a, some l => some (a :: l)
    | _, _ => none
end

/-! ### Which blocks may be written is of no matter for what a name stands for -/
mutual
theorem inst_on {L L' : Env} (h : L.hv = L'.hv) : ∀ v : AV, v.inst L = v.inst L'
  | .hid t sc ids => by simp only [AV.inst, h]
  | .fn f caps => by simp only [AV.inst, instL_on h caps]
  | .agg cs => by simp only [AV.inst, instL_on h cs]
  | .tup cs => by simp only [AV.inst, instL_on h cs]
  | .ip cs => by simp only [AV.inst, instL_on h cs]
  | .im rows sz => by simp only [AV.inst, instLL_on h rows]
  | .undef => rfl
  | .bool b => rfl
  | .int k n => rfl
  | .str l => rfl
  | .nilp => rfl
  | .ptr i off => rfl
  | .snil => rfl
  | .e0 => rfl
  | .sl i off len sz cap => rfl
  | .nilf => rfl
  | .mapv i => rfl
  | .chv i => rfl
  | .top => rfl
theorem instL_on {L L' : Env} (h : L.hv = L'.hv) : ∀ l : List AV, instL L l = instL L' l
  | [] => rfl
  | v :: vs => by simp only [instL, inst_on h v, instL_on h vs]
theorem instLL_on {L L' : Env} (h : L.hv = L'.hv) : ∀ l : List (List AV), instLL L l = instLL L' l
  | [] => rfl
  | v :: vs => by simp only [instLL, instL_on h v, instLL_on h vs]
end

theorem instL_length {L : Env} : ∀ {l l' : List AV}, instL L l = some l' → l'.length = l.length
  | [], l', h => by simp [instL] at h; subst h; rfl
  | v :: vs, l', h => by
    simp only [instL] at h
    split at h
    · rename_i a r h1 h2; simp at h; subst h; simp [instL_length h2]
    · simp at h
theorem instL_get {L : Env} : ∀ {l l' : List AV}, instL L l = some l' → ∀ (k : Nat) (a : AV), l[k]? = some a → ∃ a', l'[k]? = some a' ∧ a.inst L = some a'
  | [], l', h, k, a, hk => by simp at hk
  | v :: vs, l', h, k, a, hk => by
    simp only [instL] at h
    split at h
    · rename_i b r h1 h2
      simp at h; subst h
      cases k with
      | zero => simp at hk; subst hk; exact ⟨b, rfl, h1⟩
      | succ k => simpa using instL_get h2 k a (by simpa using hk)
    · simp at h
theorem instLL_length {L : Env} : ∀ {l l' : List (List AV)}, instLL L l = some l' → l'.length = l.length
  | [], l', h => by simp [instLL] at h; subst h; rfl
  | v :: vs, l', h => by
    simp only [instLL] at h
    split at h
    · rename_i a r h1 h2; simp at h; subst h; simp [instLL_length h2]
    · simp at h
theorem instLL_get {L : Env} : ∀ {l l' : List (List AV)}, instLL L l = some l' → ∀ (k : Nat) (a : List AV), l[k]? = some a → ∃ a', l'[k]? = some a' ∧ instL L a = some a'
  | [], l', h, k, a, hk => by simp at hk
  | v :: vs, l', h, k, a, hk => by
    simp only [instLL] at h
    split at h
    · rename_i b r h1 h2
      simp at h; subst h
      cases k with
      | zero => simp at hk; subst hk; exact ⟨b, rfl, h1⟩
      | succ k => simpa using instLL_get h2 k a (by simpa using hk)
    · simp at h
theorem instL_mk {L : Env} {R : Nat → AV → Prop} : ∀ {l : List AV}, (∀ (k : Nat) (a : AV), l[k]? = some a → ∃ a', a.inst L = some a' ∧ R k a') → ∃ l', instL L l = some l' ∧ ∀ (k : Nat) (a' : AV), l'[k]? = some a' → R k a'
  | [], h => ⟨[], rfl, fun k a h => by simp at h⟩
  | v :: vs, h => by
    obtain ⟨a, h1, h2⟩ := h 0 v rfl
    obtain ⟨l, h3, h4⟩ := instL_mk (R := fun k => R (k + 1)) (l := vs) (fun k b hk => h (k + 1) b (by simpa using hk))
    refine ⟨a :: l, by simp [instL, h1, h3], fun k b hk => ?_⟩
    cases k with
    | zero => simp at hk; subst hk; exact h2
    | succ k => exact h4 k b (by simpa using hk)
theorem instLL_mk {L : Env} {R : Nat → List AV → Prop} : ∀ {l : List (List AV)}, (∀ (k : Nat) (a : List AV), l[k]? = some a → ∃ a', instL L a = some a' ∧ R k a') → ∃ l', instLL L l = some l' ∧ ∀ (k : Nat) (a' : List AV), l'[k]? = some a' → R k a'
  | [], h => ⟨[], rfl, fun k a h => by simp at h⟩
  | v :: vs, h => by
    obtain ⟨a, h1, h2⟩ := h 0 v rfl
    obtain ⟨l, h3, h4⟩ := instLL_mk (R := fun k => R (k + 1)) (l := vs) (fun k b hk => h (k + 1) b (by simpa using hk))
    refine ⟨a :: l, by simp [instLL, h1, h3], fun k b hk => ?_⟩
    cases k with
    | zero => simp at hk; subst hk; exact h2
    | succ k => exact h4 k b (by simpa using hk)

variable {w : World} {L : Env}

/-- What it stands for stands there in its place. -/
theorem Rep.inst {L : Env} {β : List Nat} {av : AV} {v : Value} (h : Rep w L β av v) : ∃ a, av.inst L = some a ∧ Rep w L.bare β a v := by
  induction h with
  | undef => exact ⟨_, rfl, .undef⟩
  | bool b => exact ⟨_, rfl, .bool b⟩
  | int k n => exact ⟨_, rfl, .int k n⟩
  | str l => exact ⟨_, rfl, .str l⟩
  | nilp => exact ⟨_, rfl, .nilp⟩
  | ptr i off b h => exact ⟨_, rfl, .ptr i off b h⟩
  | ip cells bl off u hL hlt hc hr ih =>
    obtain ⟨l, h1, h2⟩ := instL_mk (R := fun k a => Rep w (Env.bare _) [] a (u k)) (l := cells) (fun k a hk => ih k a hk)
    refine ⟨.ip l, by simp only [AV.inst, h1, Option.map_some], .ip l bl off u hL hlt (fun k hk => hc k (by rw [← instL_length h1]; exact hk)) h2⟩
  | snil => exact ⟨_, rfl, .snil⟩
  | e0 a ha => exact ⟨_, rfl, .e0 a ha⟩
  | sl i off len sz cap b c e n h hlen hcap hsh hroom hsz hfull => exact ⟨_, rfl, .sl i off len sz cap b c e n h hlen hcap hsh hroom hsz hfull⟩
  | im rows sz a n c u hn hlen hrow hsome hspot hr ih =>
    obtain ⟨l, h1, h2⟩ := instLL_mk (R := fun j row => row.length = sz ∧ ∀ (k : Nat) (av : AV), row[k]? = some av → Rep w (Env.bare _) [] av (u j k)) (l := rows) (fun j row hj => by
      obtain ⟨l, h1, h2⟩ := instL_mk (R := fun k a => Rep w (Env.bare _) [] a (u j k)) (l := row) (fun k a hk => ih j row k a hj hk)
      exact ⟨l, h1, by rw [instL_length h1]; exact hrow j row hj, h2⟩)
    refine ⟨.im l sz, by simp only [AV.inst, h1, Option.map_some], .im l sz a n c u (by rw [instLL_length h1]; exact hn) hlen (fun j row hj => (h2 j row hj).1) hsome hspot (fun j row k av hj hk => (h2 j row hj).2 k av hk)⟩
  | fn f caps vs hl h ih =>
    obtain ⟨l, h1, h2⟩ := instL_mk (R := fun k a => ∀ v, vs[k]? = some v → Rep w (Env.bare _) _ a v) (l := caps) (fun k a hk => by
      have hlt : k < vs.length := by rw [← hl]; exact (List.getElem?_eq_some_iff.1 hk).1
      obtain ⟨a', h3, h4⟩ := ih k a vs[k] hk (List.getElem?_eq_getElem hlt)
      exact ⟨a', h3, fun v hv => by rw [List.getElem?_eq_getElem hlt] at hv; cases hv; exact h4⟩)
    exact ⟨.fn f l, by simp only [AV.inst, h1, Option.map_some], .fn f l vs (by rw [instL_length h1]; exact hl) (fun k av v hk hv => h2 k av hk v hv)⟩
  | nilf => exact ⟨_, rfl, .nilf⟩
  | mapv i b h => exact ⟨_, rfl, .mapv i b h⟩
  | chv i b h => exact ⟨_, rfl, .chv i b h⟩
  | agg caps vs hl h ih =>
    obtain ⟨l, h1, h2⟩ := instL_mk (R := fun k a => ∀ v, vs[k]? = some v → Rep w (Env.bare _) _ a v) (l := caps) (fun k a hk => by
      have hlt : k < vs.length := by rw [← hl]; exact (List.getElem?_eq_some_iff.1 hk).1
      obtain ⟨a', h3, h4⟩ := ih k a vs[k] hk (List.getElem?_eq_getElem hlt)
      exact ⟨a', h3, fun v hv => by rw [List.getElem?_eq_getElem hlt] at hv; cases hv; exact h4⟩)
    exact ⟨.agg l, by simp only [AV.inst, h1, Option.map_some], .agg l vs (by rw [instL_length h1]; exact hl) (fun k av v hk hv => h2 k av hk v hv)⟩
  | tup caps vs hl h ih =>
    obtain ⟨l, h1, h2⟩ := instL_mk (R := fun k a => ∀ v, vs[k]? = some v → Rep w (Env.bare _) _ a v) (l := caps) (fun k a hk => by
      have hlt : k < vs.length := by rw [← hl]; exact (List.getElem?_eq_some_iff.1 hk).1
      obtain ⟨a', h3, h4⟩ := ih k a vs[k] hk (List.getElem?_eq_getElem hlt)
      exact ⟨a', h3, fun v hv => by rw [List.getElem?_eq_getElem hlt] at hv; cases hv; exact h4⟩)
    exact ⟨.tup l, by simp only [AV.inst, h1, Option.map_some], .tup l vs (by rw [instL_length h1]; exact hl) (fun k av v hk hv => h2 k av hk v hv)⟩
  | hid t sc ids a v ha ho hs h ih =>
    refine ⟨a, ?_, h⟩
    have hc : (a.one && (!sc || a.scalar)) = true := by
      rw [ho]; cases sc <;> simp_all
    simp only [AV.inst, ha, hc, if_true]
  | top v => exact ⟨_, rfl, .top v⟩

theorem Reps.inst {β : List Nat} {avs : List AV} {vs : List Value} (h : Reps w L β avs vs) : ∃ l, instL L avs = some l ∧ Reps w L.bare β l vs := by
  obtain ⟨l, h1, h2⟩ := instL_mk (L := L) (R := fun k a => ∀ v, vs[k]? = some v → Rep w L.bare β a v) (l := avs) (fun k a hk => by
    have hlt : k < vs.length := by rw [← h.1]; exact (List.getElem?_eq_some_iff.1 hk).1
    obtain ⟨a', h3, h4⟩ := (h.2 k a vs[k] hk (List.getElem?_eq_getElem hlt)).inst
    exact ⟨a', h3, fun v hv => by rw [List.getElem?_eq_getElem hlt] at hv; cases hv; exact h4⟩)
  exact ⟨l, h1, by rw [instL_length h1]; exact h.1, fun k av v hk hv => h2 k av hk v hv⟩

mutual
/-- And back. -/
theorem Rep.name : ∀ {av a : AV} {β : List Nat} {v : Value}, av.inst L = some a → Rep w L.bare β a v → Rep w L β av v
  | .hid t sc ids, a, β, v, h, hr => by
    simp only [AV.inst] at h
    split at h
    · rename_i a0 ha
      split at h
      · rename_i hc
        simp at h; subst h
        simp only [Bool.and_eq_true, Bool.or_eq_true, Bool.not_eq_true'] at hc
        exact .hid t sc ids _ v ha hc.1 (fun e => by rcases hc.2 with h | h; (rw [e] at h; cases h); exact h) hr
      · simp at h
    · simp at h
  | .fn f caps, a, β, v, h, hr => by
    simp only [AV.inst, Option.map_eq_some_iff] at h
    obtain ⟨l, hl, rfl⟩ := h
    cases hr with
    | fn _ _ vs h1 h2 => exact .fn f caps vs (by rw [← instL_length hl]; exact h1) (fun k av v hk hv => by
      obtain ⟨a', h3, h4⟩ := instL_get hl k av hk
      exact nameL hl k av a' hk h3 (h2 k a' v h3 hv))
  | .agg caps, a, β, v, h, hr => by
    simp only [AV.inst, Option.map_eq_some_iff] at h
    obtain ⟨l, hl, rfl⟩ := h
    cases hr with
    | agg _ vs h1 h2 => exact .agg caps vs (by rw [← instL_length hl]; exact h1) (fun k av v hk hv => by
      obtain ⟨a', h3, h4⟩ := instL_get hl k av hk
      exact nameL hl k av a' hk h3 (h2 k a' v h3 hv))
  | .tup caps, a, β, v, h, hr => by
    simp only [AV.inst, Option.map_eq_some_iff] at h
    obtain ⟨l, hl, rfl⟩ := h
    cases hr with
    | tup _ vs h1 h2 => exact .tup caps vs (by rw [← instL_length hl]; exact h1) (fun k av v hk hv => by
      obtain ⟨a', h3, h4⟩ := instL_get hl k av hk
      exact nameL hl k av a' hk h3 (h2 k a' v h3 hv))
  | .ip cells, a, β, v, h, hr => by
    simp only [AV.inst, Option.map_eq_some_iff] at h
    obtain ⟨l, hl, rfl⟩ := h
    cases hr with
    | ip _ bl off u hL hlt hc hr => exact .ip cells bl off u hL hlt (fun k hk => hc k (by rw [instL_length hl]; exact hk)) (fun k av hk => by
      obtain ⟨a', h3, h4⟩ := instL_get hl k av hk
      exact nameL hl k av a' hk h3 (hr k a' h3))
  | .im rows sz, a, β, v, h, hr => by
    simp only [AV.inst, Option.map_eq_some_iff] at h
    obtain ⟨l, hl, rfl⟩ := h
    cases hr with
    | im _ _ a n c u hn hlen hrow hsome hspot hr =>
      have hrow' : ∀ (j : Nat) (row : List AV), rows[j]? = some row → row.length = sz := fun j row hj => by
        obtain ⟨r', h3, h4⟩ := instLL_get hl j row hj
        rw [← instL_length h4]; exact hrow j r' h3
      have hr' : ∀ (j : Nat) (row : List AV) (k : Nat) (av : AV), rows[j]? = some row → row[k]? = some av → Rep w L [] av (u j k) := fun j row k av hj hk => by
        obtain ⟨r', h3, h4⟩ := instLL_get hl j row hj
        obtain ⟨a', h5, h6⟩ := instL_get h4 k av hk
        exact nameLL hl j row r' hj h3 k av a' hk h5 (hr j r' k a' h3 h5)
      exact .im rows sz a n c u (by rw [← instLL_length hl]; exact hn) hlen hrow' hsome hspot hr'
  | .undef, a, β, v, h, hr => by simp only [AV.inst, Option.some.injEq] at h; subst h; cases hr; constructor <;> assumption
  | .bool b, a, β, v, h, hr => by simp only [AV.inst, Option.some.injEq] at h; subst h; cases hr; constructor <;> assumption
  | .int k n, a, β, v, h, hr => by simp only [AV.inst, Option.some.injEq] at h; subst h; cases hr; constructor <;> assumption
  | .str l, a, β, v, h, hr => by simp only [AV.inst, Option.some.injEq] at h; subst h; cases hr; constructor <;> assumption
  | .nilp, a, β, v, h, hr => by simp only [AV.inst, Option.some.injEq] at h; subst h; cases hr; constructor <;> assumption
  | .ptr i off, a, β, v, h, hr => by simp only [AV.inst, Option.some.injEq] at h; subst h; cases hr; constructor <;> assumption
  | .snil, a, β, v, h, hr => by simp only [AV.inst, Option.some.injEq] at h; subst h; cases hr; constructor <;> assumption
  | .e0, a, β, v, h, hr => by simp only [AV.inst, Option.some.injEq] at h; subst h; cases hr; constructor <;> assumption
  | .sl i off len sz cap, a, β, v, h, hr => by simp only [AV.inst, Option.some.injEq] at h; subst h; cases hr; constructor <;> assumption
  | .nilf, a, β, v, h, hr => by simp only [AV.inst, Option.some.injEq] at h; subst h; cases hr; constructor <;> assumption
  | .mapv i, a, β, v, h, hr => by simp only [AV.inst, Option.some.injEq] at h; subst h; cases hr; constructor <;> assumption
  | .chv i, a, β, v, h, hr => by simp only [AV.inst, Option.some.injEq] at h; subst h; cases hr; constructor <;> assumption
  | .top, a, β, v, h, hr => by simp only [AV.inst, Option.some.injEq] at h; subst h; cases hr; constructor <;> assumption
theorem nameL : ∀ {l l' : List AV} {β : List Nat}, instL L l = some l' → ∀ (k : Nat) (av a : AV) {v : Value}, l[k]? = some av → l'[k]? = some a → Rep w L.bare β a v → Rep w L β av v
  | [], l', β, h, k, av, a, v, hk, ha, hr => by simp at hk
  | x :: xs, l', β, h, k, av, a, v, hk, ha, hr => by
    simp only [instL] at h
    split at h
    · rename_i b r h1 h2
      simp at h; subst h
      cases k with
      | zero => simp at hk ha; subst hk; subst ha; exact Rep.name h1 hr
      | succ k => exact nameL h2 k av a (by simpa using hk) (by simpa using ha) hr
    · simp at h
theorem nameLL : ∀ {l l' : List (List AV)} {β : List Nat}, instLL L l = some l' → ∀ (j : Nat) (row r' : List AV), l[j]? = some row → l'[j]? = some r' → ∀ (k : Nat) (av a : AV) {v : Value}, row[k]? = some av → r'[k]? = some a → Rep w L.bare β a v → Rep w L β av v
  | [], l', β, h, j, row, r', hj, hr', k, av, a, v, hk, ha, hr => by simp at hj
  | x :: xs, l', β, h, j, row, r', hj, hr', k, av, a, v, hk, ha, hr => by
    simp only [instLL] at h
    split at h
    · rename_i b r h1 h2
      simp at h; subst h
      cases j with
      | zero => simp at hj hr'; subst hj; subst hr'; exact nameL h1 k av a hk ha hr
      | succ j => exact nameLL h2 j row r' (by simpa using hj) (by simpa using hr') k av a hk ha hr
    · simp at h
end

/-! ### What is known beforehand -/
def TE.ok (L : Env) (e : TE) : Prop := ∃ args r, instL L e.args = some args ∧ e.res.inst L = some r ∧ opK e.key args = some r
theorem TE.ok_on {L D : Env} (h : D.hv = L.hv) {e : TE} (he : e.ok L) : e.ok D := by
  obtain ⟨a, r, h1, h2, h3⟩ := he
  exact ⟨a, r, by rw [instL_on h]; exact h1, by rw [inst_on h]; exact h2, h3⟩
def OpsOK (L : Env) (T : Tab) : Prop := ∀ e ∈ T.ops, e.ok L

theorem findT_mem {k : Key} {args : List AV} {r : AV} : ∀ {l : List TE}, findT k args l = some r → ∃ e ∈ l, e.key = k ∧ e.args = args ∧ e.res = r
  | [], h => by simp [findT] at h
  | e :: l, h => by
    simp only [findT] at h
    split at h
    · rename_i hk
      split at h
      · rename_i hb
        simp at h
        exact ⟨e, by simp, hk.symm, (beqL_eq _ _ hb).symm, h⟩
      · obtain ⟨e', h1, h2⟩ := findT_mem h; exact ⟨e', by simp [h1], h2⟩
    · obtain ⟨e', h1, h2⟩ := findT_mem h; exact ⟨e', by simp [h1], h2⟩

theorem findT_ok {T : Tab} (hT : OpsOK L T) {k : Key} {args : List AV} {r : AV} (h : findT k args T.ops = some r) {β : List Nat} {vs : List Value} (hR : Reps w L β args vs) :
    ∃ args' r', opK k args' = some r' ∧ Reps w L.bare β args' vs ∧ ∀ v, Rep w L.bare β r' v → Rep w L β r v := by
  obtain ⟨e, he, rfl, rfl, rfl⟩ := findT_mem h
  obtain ⟨a1, r1, h1, h2, h3⟩ := hT e he
  obtain ⟨l, h4, h5⟩ := hR.inst
  rw [h1] at h4; cases h4
  exact ⟨a1, r1, h3, h5, fun v hv => Rep.name h2 hv⟩

theorem findT_ok1 {T : Tab} (hT : OpsOK L T) {k : Key} {x r : AV} (h : findT k [x] T.ops = some r) {β : List Nat} {u : Value} (hR : Rep w L β x u) :
    ∃ x' r', opK k [x'] = some r' ∧ Rep w L.bare β x' u ∧ ∀ v, Rep w L.bare β r' v → Rep w L β r v := by
  obtain ⟨args', r', h1, h2, h3⟩ := findT_ok hT h (Reps.cons hR Reps.nil)
  match args', h2 with
  | [x'], h2 => exact ⟨x', r', h1, h2.head, h3⟩
  | [], h2 => have := h2.1; simp at this
  | _ :: _ :: _, h2 => have := h2.1; simp at this
theorem findT_ok2 {T : Tab} (hT : OpsOK L T) {k : Key} {x y r : AV} (h : findT k [x, y] T.ops = some r) {β : List Nat} {u v : Value} (hR : Rep w L β x u) (hS : Rep w L β y v) :
    ∃ x' y' r', opK k [x', y'] = some r' ∧ Rep w L.bare β x' u ∧ Rep w L.bare β y' v ∧ ∀ v, Rep w L.bare β r' v → Rep w L β r v := by
  obtain ⟨args', r', h1, h2, h3⟩ := findT_ok hT h (Reps.cons hR (Reps.cons hS Reps.nil))
  match args', h2 with
  | [x', y'], h2 => exact ⟨x', y', r', h1, h2.head, h2.tail.head, h3⟩
  | [], h2 => have := h2.1; simp at this
  | [_], h2 => have := h2.1; simp at this
  | _ :: _ :: _ :: _, h2 => have := h2.1; simp at this
theorem findB_ok2 {T : Tab} (hT : OpsOK L T) {k : Key} {x y : AV} {b : Bool} (h : findB T k [x, y] = some b) {β : List Nat} {u v : Value} (hR : Rep w L β x u) (hS : Rep w L β y v) :
    ∃ x' y', opK k [x', y'] = some (.bool b) ∧ Rep w L.bare β x' u ∧ Rep w L.bare β y' v := by
  unfold findB at h
  split at h
  · rename_i b' hf
    simp at h; subst h
    obtain ⟨x', y', r', h1, h2, h3, h4⟩ := findT_ok2 hT hf hR hS
    obtain ⟨e, he, h5, h6, h7⟩ := findT_mem hf
    obtain ⟨a1, r1, g1, g2, g3⟩ := hT e he
    rw [h7] at g2; simp only [AV.inst, Option.some.injEq] at g2; subst g2
    rw [h6] at g1; rw [h5] at g3
    obtain ⟨l, h8, h9⟩ := (Reps.cons hR (Reps.cons hS Reps.nil) : Reps w L β [x, y] [u, v]).inst
    rw [g1] at h8; cases h8
    match a1, h9, g3 with
    | [x', y'], h9, g3 => exact ⟨x', y', g3, h9.head, h9.tail.head⟩
    | [], h9, _ => have := h9.1; simp at this
    | [_], h9, _ => have := h9.1; simp at this
    | _ :: _ :: _ :: _, h9, _ => have := h9.1; simp at this
  · simp at h

theorem findB_ok1 {T : Tab} (hT : OpsOK L T) {k : Key} {x : AV} {b : Bool} (h : findB T k [x] = some b) {β : List Nat} {u : Value} (hR : Rep w L β x u) :
    ∃ x', opK k [x'] = some (.bool b) ∧ Rep w L.bare β x' u := by
  unfold findB at h
  split at h
  · rename_i b' hf
    simp at h; subst h
    obtain ⟨e, he, h5, h6, h7⟩ := findT_mem hf
    obtain ⟨a1, r1, g1, g2, g3⟩ := hT e he
    rw [h7] at g2; simp only [AV.inst, Option.some.injEq] at g2; subst g2
    rw [h6] at g1; rw [h5] at g3
    obtain ⟨l, h8, h9⟩ := (Reps.cons hR Reps.nil : Reps w L β [x] [u]).inst
    rw [g1] at h8; cases h8
    match a1, h9, g3 with
    | [x'], h9, g3 => exact ⟨x', g3, h9.head⟩
    | [], h9, _ => have := h9.1; simp at this
    | _ :: _ :: _, h9, _ => have := h9.1; simp at this
  · simp at h
theorem opK_idB {x r : AV} (h : opK .idB [x] = some r) : ∃ b, x = .bool b ∧ r = .bool b := by
  unfold opK at h
  split at h
  all_goals first
    | (rename_i b e1 e2; simp at e2; subst e2; simp at h; exact ⟨b, rfl, h.symm⟩)
    | simp_all
theorem idB_ok {T : Tab} (hT : OpsOK L T) {t : Nat} {sc : Bool} {ids : List Nat} {b : Bool} (h : findB T .idB [.hid t sc ids] = some b) {β : List Nat} {u : Value} (hR : Rep w L β (.hid t sc ids) u) : u = .bool b := by
  obtain ⟨x', h1, h2⟩ := findB_ok1 hT h hR
  obtain ⟨b', rfl, e⟩ := opK_idB h1
  cases e; cases h2; rfl
theorem truthT_ok {T : Tab} (hT : OpsOK L T) {x : Option AV} {b : Bool} (h : truthT T x = some b) {β : List Nat} {u : Value} (hR : ∀ av, x = some av → Rep w L β av u) : u = .bool b := by
  unfold truthT at h
  split at h
  · simp at h; subst h
    have := hR _ rfl
    cases this; rfl
  · exact idB_ok hT h (hR _ rfl)
  · simp at h

end Go.Proofs.BoatV
