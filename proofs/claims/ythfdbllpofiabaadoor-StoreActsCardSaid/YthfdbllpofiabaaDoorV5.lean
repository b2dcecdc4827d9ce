/- The evaluator is right: operators, fields, indexes, bounds: whatever leaves the memory as it is. -/
import Derived.Test.YthfdbllpofiabaaDoorV4
import Derived.Laws.StructEq
import Derived.WalkSpells
import Derived.Laws.Pointers
namespace Go.Proofs.BoatV
open Go
set_option linter.unusedVariables false
set_option linter.unusedSimpArgs false
variable {P : Program} {w : World} {L : Env} {β : List Nat}

theorem pureRun_run {α : Type} : ∀ (s : Sem α) (a : α), pureRun P s = some a → ∀ w, s.run P w = .ok a w
  | .pure a, b, h, w => by simp [pureRun] at h; subst h; rfl
  | .program k, b, h, w => by simp only [pureRun] at h; exact pureRun_run (k P) b h w
  | .mark m k, b, h, w => by simp only [pureRun] at h; exact pureRun_run k b h w
  | .load .., b, h, w => by simp [pureRun] at h
  | .store .., b, h, w => by simp [pureRun] at h
  | .new .., b, h, w => by simp [pureRun] at h
  | .shape .., b, h, w => by simp [pureRun] at h
  | .freeze .., b, h, w => by simp [pureRun] at h
  | .frozen .., b, h, w => by simp [pureRun] at h
  | .getObj .., b, h, w => by simp [pureRun] at h
  | .setObj .., b, h, w => by simp [pureRun] at h
  | .choose .., b, h, w => by simp [pureRun] at h
  | .sys .., b, h, w => by simp [pureRun] at h
  | .halt .., b, h, w => by simp [pureRun] at h

theorem str_beq (a b : List UInt8) : ((⟨a.toArray⟩ : ByteArray) == ⟨b.toArray⟩) = (a == b) := by
  rw [beq_toListBytes, ByteArray.toList_eq, ByteArray.toList_eq]
theorem str_toList (a : List UInt8) : (⟨a.toArray⟩ : ByteArray).toList = a := by rw [ByteArray.toList_eq]
theorem str_size (a : List UInt8) : (⟨a.toArray⟩ : ByteArray).size = a.length := by simp [ByteArray.size]

theorem strOp_ok {op : BinOp} {a b : List UInt8} {av : AV} (h : strOp op a b = some av) : ∃ r, (∀ w' : World, (Op.stringOp op ⟨a.toArray⟩ ⟨b.toArray⟩).run P w' = .ok r w') ∧ Rep w L β av r := by
  unfold strOp at h
  split at h
  · split at h
    · rename_i hle
      simp at h; subst h
      refine ⟨.string (⟨a.toArray⟩ ++ ⟨b.toArray⟩), fun w' => ?_, ?_⟩
      · have : ¬ (((⟨a.toArray⟩ : ByteArray).size + (⟨b.toArray⟩ : ByteArray).size : Nat) : Int) > IntKind.i64.max := by
          rw [str_size, str_size]
          have : IntKind.i64.max = 9223372036854775807 := by decide
          rw [this]; omega
        simp only [Op.stringOp]
        rw [if_neg this]; rfl
      · have : (⟨a.toArray⟩ ++ ⟨b.toArray⟩ : ByteArray) = ⟨(a ++ b).toArray⟩ := by
          apply ByteArray.ext
          simp
        rw [this]; exact .str _
    · simp at h
  all_goals first
    | (simp at h; subst h; exact ⟨_, fun w' => by simp [Op.stringOp, str_toList], .bool _⟩)
    | simp at h

theorem part_run {cs : List AV} {vs : List Value} (hr : Reps w L β cs vs) {ty : TypeId} {off : Nat} {a : AV} (ha : partA P ty cs off = some a) : ∃ z, (∀ w' : World, (part ty vs.toArray off).run P w' = .ok z w') ∧ Rep w L β a z := by
  unfold partA loadA at ha
  split at ha
  · rename_i hag
    split at ha
    · rename_i n hn
      split at ha
      · rename_i hle
        simp at ha; subst ha
        refine ⟨.agg (vs.toArray.extract off (off + n)), fun w' => by simp [part, isAgg_run hag, sizeOf_run hn], ?_⟩
        have e : vs.toArray.extract off (off + n) = ((vs.drop off).take n).toArray := by
          apply Array.ext'; simp
        rw [e]
        refine .agg _ _ (by simp [hr.1]) (fun j a z h1 h2 => ?_)
        rw [List.getElem?_take] at h1 h2
        split at h1 <;> simp_all
        exact hr.2 _ _ _ h1 h2
      · simp at ha
    · simp at ha
  · rename_i hag
    have hk : cs[off]? = some a := by rw [List.head?_drop] at ha; exact ha
    obtain ⟨z, hz, hrep⟩ := hr.at hk
    exact ⟨z, fun w' => by simp [part, isAgg_run hag, hz], hrep⟩
  · simp at ha

theorem opK_bin {op : BinOp} {x y r : AV} (h : opK (.bin op) [x, y] = some r) : (∃ k k' a b, x = .int k a ∧ y = .int k' b ∧ ((k = k' ∧ intK op k a b = some r) ∨ shK op k a b = some r)) ∨ (∃ a b, x = .str a ∧ y = .str b ∧ strOp op a b = some r) := by
  unfold opK at h
  split at h
  · rename_i op' k a k' b e1 e2
    cases e1; simp at e2; obtain ⟨rfl, rfl⟩ := e2
    split at h
    · rename_i hk; exact .inl ⟨k, k', a, b, rfl, rfl, .inl ⟨hk, h⟩⟩
    · exact .inl ⟨k, k', a, b, rfl, rfl, .inr h⟩
  · rename_i op' a b e1 e2
    cases e1; simp at e2; obtain ⟨rfl, rfl⟩ := e2
    exact .inr ⟨a, b, rfl, rfl, h⟩
  all_goals first | (rename_i e1 _; cases e1; done) | (rename_i e1; cases e1; done) | simp at h
theorem opK_eqI {x y r : AV} (h : opK .eqI [x, y] = some r) : ∃ k a b, x = .int k a ∧ y = .int k b ∧ r = .bool (a == b) := by
  unfold opK at h
  split at h
  all_goals first
    | (rename_i e1 _; cases e1; done)
    | (rename_i k a k' b e1 e2
       simp at e2
       obtain ⟨rfl, rfl⟩ := e2
       simp at h
       obtain ⟨rfl, h⟩ := h
       exact ⟨_, a, b, rfl, rfl, h.symm⟩)
    | simp at h
theorem opK_eqS {x y r : AV} (h : opK .eqS [x, y] = some r) : ∃ a b, x = .str a ∧ y = .str b ∧ r = .bool (a == b) := by
  unfold opK at h
  split at h
  all_goals first
    | (rename_i e1 _; cases e1; done)
    | (rename_i a b e1 e2; simp at e2; obtain ⟨rfl, rfl⟩ := e2; simp at h; exact ⟨a, b, rfl, rfl, h.symm⟩)
    | simp at h
theorem opK_eqB {x y r : AV} (h : opK .eqB [x, y] = some r) : ∃ a b, x = .bool a ∧ y = .bool b ∧ r = .bool (a == b) := by
  unfold opK at h
  split at h
  all_goals first
    | (rename_i e1 _; cases e1; done)
    | (rename_i a b e1 e2; simp at e2; obtain ⟨rfl, rfl⟩ := e2; simp at h; exact ⟨a, b, rfl, rfl, h.symm⟩)
    | simp at h
theorem intK_run {op : BinOp} {k : IntKind} {a b : Int} {r : AV} (h : intK op k a b = some r) (t : TypeId) : ∃ v, (∀ w' : World, (binOp op t (.int k a) (.int k b)).run P w' = .ok v w') ∧ Rep w L β r v := by
  cases op <;> simp only [intK] at h <;> first
    | (simp only [Option.some.injEq] at h; subst h; exact ⟨_, fun w' => by simp [binOp, Op.intArith, Op.intBits, Op.intCmp], .int _ _⟩)
    | (simp only [Option.some.injEq] at h; subst h; exact ⟨_, fun w' => by simp [binOp, Op.intArith, Op.intBits, Op.intCmp], .bool _⟩)
    | (by_cases hb : b < 0
       · simp [hb] at h
       · simp only [hb, if_false, Option.some.injEq] at h; subst h; exact ⟨_, fun w' => by simp [binOp, Op.shift, hb], .int _ _⟩)
    | (by_cases hb : b = 0
       · simp [hb] at h
       · simp [hb] at h; subst h; exact ⟨_, fun w' => by simp [binOp, Op.intDiv, hb], .int _ _⟩)
    | simp at h

theorem shK_run {op : BinOp} {k k' : IntKind} {a b : Int} {r : AV} (h : shK op k a b = some r) (t : TypeId) : ∃ v, (∀ w' : World, (binOp op t (.int k a) (.int k' b)).run P w' = .ok v w') ∧ Rep w L β r v := by
  cases op <;> simp only [shK, intK] at h <;> first
    | (by_cases hb : b < 0
       · simp [hb] at h
       · simp only [hb, if_false, Option.some.injEq] at h; subst h; exact ⟨_, fun w' => by simp [binOp, Op.shift, hb], .int _ _⟩)
    | simp at h
theorem isNilS_run {x : AV} {u : Value} {b : Bool} (h : isNilS x = some b) (hx : Rep w L β x u) : ∃ a l c, u = .slice a l c ∧ a.isNone = b := by
  unfold isNilS at h
  split at h
  · simp at h; subst h; cases hx; exact ⟨_, _, _, rfl, rfl⟩
  · simp at h; subst h; cases hx; exact ⟨_, _, _, rfl, rfl⟩
  · simp at h; subst h
    cases hx with
    | im _ _ a n c uu hn hlen hrow hsome hspot hr =>
    obtain ⟨bl, off, e, _⟩ := hsome (by rw [hn]; simp)
    exact ⟨_, _, _, rfl, by rw [e]; rfl⟩
  · simp at h
theorem isNilP_run {x : AV} {u : Value} {b : Bool} (h : isNilP x = some b) (hx : Rep w L β x u) : ∃ p, u = .pointer p ∧ p.isNone = b := by
  unfold isNilP at h
  split at h
  · simp at h; subst h; cases hx; exact ⟨_, rfl, rfl⟩
  · simp at h; subst h; cases hx; exact ⟨_, rfl, rfl⟩
  · simp at h; subst h; cases hx; exact ⟨_, rfl, rfl⟩
  · simp at h
theorem nilA_ok {op : BinOp} {t : TypeId} {x y : AV} {u v : Value} {av : AV} (h : nilA P op t x y = some av) (hx : Rep w L β x u) (hy : Rep w L β y v) (xo yo : Operand) :
    ∃ r, (∀ w' : World, (do eqGuard op t xo yo u v; binOp op t u v : Sem Value).run P w' = .ok r w') ∧ Rep w L β av r := by
  have key : ∀ b, (match x, y with
      | x, .snil => (match P.underlying t with | some (.slice _) => isNilS x | _ => none)
      | .snil, y => (match P.underlying t with | some (.slice _) => isNilS y | _ => none)
      | x, .nilp => (match P.underlying t with | some (.pointer _) => isNilP x | _ => none)
      | _, _ => none : Option Bool) = some b → (∀ w' : World, (do eqGuard .eql t xo yo u v; binOp .eql t u v : Sem Value).run P w' = .ok (.bool b) w') ∧ (∀ w' : World, (do eqGuard .neq t xo yo u v; binOp .neq t u v : Sem Value).run P w' = .ok (.bool !b) w') := by
    intro b hb
    split at hb
    · split at hb
      · rename_i e hu
        obtain ⟨a, l, c, rfl, rfl⟩ := isNilS_run hb hx
        cases hy
        exact ⟨fun w' => by simp [eqGuard, Lib.run_eql_slice_nil w' t e a l c 0 0 hu], fun w' => by simp [eqGuard, run_neq_slice_nil_any w' t e a l c 0 0 hu]⟩
      · simp at hb
    · split at hb
      · rename_i e hu
        obtain ⟨a, l, c, rfl, rfl⟩ := isNilS_run hb hy
        cases hx
        exact ⟨fun w' => by simp [eqGuard, run_eql_nil_slice w' t e a l c 0 0 hu], fun w' => by simp [eqGuard, run_neq_nil_slice w' t e a l c 0 0 hu]⟩
      · simp at hb
    · split at hb
      · rename_i e hu
        obtain ⟨p, rfl, rfl⟩ := isNilP_run hb hx
        have hp : P.underlying t = some (.pointer (P.pointee t)) := by rw [show P.pointee t = e by simp [Program.pointee, hu]]; exact hu
        cases hy
        exact ⟨fun w' => by simp [eqGuard, run_eql_pointer_nil w' t p hp], fun w' => by simp [eqGuard, run_neq_pointer_nil w' t p hp]⟩
      · simp at hb
    · simp at hb
  unfold nilA at h
  simp only at h
  split at h
  · rename_i b hb
    simp at h; subst h
    exact ⟨_, (key b hb).1, .bool _⟩
  · rename_i b hb
    simp at h; subst h
    exact ⟨_, (key b hb).2, .bool _⟩
  · simp at h

theorem boolT_ok {T : Tab} (hT : OpsOK L T) {op : BinOp} {t : TypeId} {x y : AV} {u v : Value} {av : AV} (h : boolT P T op t x y = some av) (hx : Rep w L β x u) (hy : Rep w L β y v) (xo yo : Operand) :
    ∃ r, (∀ w' : World, (do eqGuard op t xo yo u v; binOp op t u v : Sem Value).run P w' = .ok r w') ∧ Rep w L β av r := by
  unfold boolT at h
  split at h
  · rename_i ht
    have key : ∀ b : Bool, findB T .eqB [x, y] = some b → ∃ a c, u = .bool a ∧ v = .bool c ∧ b = (a == c) := fun b hb => by
      obtain ⟨x', y', h1, h2, h3⟩ := findB_ok2 hT hb hx hy
      obtain ⟨a, c, rfl, rfl, e⟩ := opK_eqB h1
      cases h2; cases h3
      exact ⟨a, c, rfl, rfl, by simpa using e⟩
    have run : ∀ (a c : Bool) (w' : World), (Op.equal t (.bool a) (.bool c)).run P w' = .ok (a == c) w' := fun a c w' => run_equalIn_bool' w' 9999 t a c ht
    split at h
    · rename_i b hb
      simp at h; subst h
      obtain ⟨a, c, rfl, rfl, rfl⟩ := key _ hb
      exact ⟨_, fun w' => by simp [eqGuard, binOp, run], .bool _⟩
    · rename_i b hb
      simp at h; subst h
      obtain ⟨a, c, rfl, rfl, rfl⟩ := key _ hb
      exact ⟨.bool !(a == c), fun w' => by simp [eqGuard, binOp, run], .bool _⟩
    · simp at h
  · simp at h
theorem binA_ok {T : Tab} (hT : OpsOK L T) {op : BinOp} {t : TypeId} {x y : AV} {u v : Value} {av : AV} (h : binA P T op t x y = some av) (hx : Rep w L β x u) (hy : Rep w L β y v) (xo yo : Operand) :
    ∃ r, (∀ w' : World, (do eqGuard op t xo yo u v; binOp op t u v : Sem Value).run P w' = .ok r w') ∧ Rep w L β av r := by
  unfold binA at h
  split at h
  · cases hx; cases hy
    rename_i k a k' b
    simp only [Option.bind_eq_some_iff] at h
    obtain ⟨r, h1, h2⟩ := h
    refine ⟨r, fun w' => ?_, ofV1_rep h2⟩
    have := pureRun_run _ _ h1 w'
    cases op <;> simp [eqGuard, this]
  · cases hx; cases hy
    rename_i a b
    simp only [Option.bind_eq_some_iff] at h
    obtain ⟨r, h1, h2⟩ := h
    refine ⟨r, fun w' => ?_, ofV1_rep h2⟩
    have := pureRun_run _ _ h1 w'
    cases op <;> simp [eqGuard, this]
  · cases hx; cases hy
    rename_i a b
    obtain ⟨r, h1, h2⟩ := strOp_ok (P := P) (w := w) (L := L) (β := β) h
    refine ⟨r, fun w' => ?_, h2⟩
    have e : binOp op t (.string ⟨a.toArray⟩) (.string ⟨b.toArray⟩) = Op.stringOp op ⟨a.toArray⟩ ⟨b.toArray⟩ := by cases op <;> rfl
    rw [e]
    cases op <;> simp [eqGuard, h1]
  · split at h
    · simp at h
    · rename_i xs ys hg
      have hg' : P.eqGuardType P.depth t = false := by simpa using hg
      have main : ∀ (d k : Nat) (t : TypeId) (x y : AV) (u v : Value) (r : Bool), d ≤ k → eqA P T d t x y = some r → Rep w L β x u → Rep w L β y v → ∀ w' : World, (Op.equalIn k t u v).run P w' = .ok r w' := by
        intro d
        induction d with
        | zero => intro k t x y u v r hk h hx hy w'; simp [eqA] at h
        | succ d ih =>
          intro k t x y u v r hk h hx hy w'
          obtain ⟨k, rfl⟩ : ∃ j, k = j + 1 := ⟨k - 1, by omega⟩
          unfold eqA at h
          split at h
          · rename_i ht
            split at h
            · simp at h; subst h; cases hx; cases hy; exact run_equalIn_bool' w' k t _ _ ht
            · obtain ⟨x', y', h1, h2, h3⟩ := findB_ok2 hT h hx hy
              obtain ⟨a, b, rfl, rfl, e⟩ := opK_eqB h1
              cases e; cases h2; cases h3; exact run_equalIn_bool' w' k t _ _ ht
          · rename_i k' ht
            split at h
            · split at h
              · rename_i hkk; subst hkk; simp at h; subst h; cases hx; cases hy; exact run_equalIn_int w' k t _ _ _ _ ht
              · simp at h
            · obtain ⟨x', y', h1, h2, h3⟩ := findB_ok2 hT h hx hy
              obtain ⟨k0, a, b, rfl, rfl, e⟩ := opK_eqI h1
              cases e; cases h2; cases h3; exact run_equalIn_int w' k t _ _ _ _ ht
          · rename_i ht
            split at h
            · simp at h; subst h; cases hx; cases hy
              have := run_equalIn_string w' k t (⟨(‹List UInt8› : List UInt8).toArray⟩) ⟨(‹List UInt8› : List UInt8).toArray⟩ ht
              rename_i a b
              have := run_equalIn_string w' k t ⟨a.toArray⟩ ⟨b.toArray⟩ ht
              rw [str_toList, str_toList] at this
              exact this
            · obtain ⟨x', y', h1, h2, h3⟩ := findB_ok2 hT h hx hy
              obtain ⟨a, b, rfl, rfl, e⟩ := opK_eqS h1
              cases e; cases h2; cases h3
              have := run_equalIn_string w' k t ⟨a.toArray⟩ ⟨b.toArray⟩ ht
              rw [str_toList, str_toList] at this
              exact this
          · rename_i fs ht
            split at h
            · rename_i xs ys
              split at h
              · simp at h
              · rename_i hp
                have hp' : P.stoodInHeld t = false := by simpa using hp
                cases hx with
                | agg _ us hlu hu =>
                cases hy with
                | agg _ vs hlv hv =>
                have hfs : P.fieldsOf t = fs := by simp [Program.fieldsOf, ht]
                rw [run_equalIn_struct w' k t _ _ (by rw [hfs]; exact ht) hp', hfs]
                generalize fs.toList = l at *
                clear ht hfs
                have hcu : ∀ (off : Nat) (ty : TypeId) (a : AV), partA P ty xs off = some a → ∃ z, (∀ w' : World, (part ty us.toArray off).run P w' = .ok z w') ∧ Rep w L β a z := fun off ty a ha => part_run ⟨hlu, hu⟩ ha
                have hcv : ∀ (off : Nat) (ty : TypeId) (a : AV), partA P ty ys off = some a → ∃ z, (∀ w' : World, (part ty vs.toArray off).run P w' = .ok z w') ∧ Rep w L β a z := fun off ty a ha => part_run ⟨hlv, hv⟩ ha
                induction l with
                | nil => simp [eqFs] at h; subst h; simp [Op.eqFields]
                | cons f l ihl =>
                  simp only [eqFs] at h
                  simp only [Op.eqFields]
                  split at h
                  · rename_i hf
                    rw [if_pos hf]
                    split at h
                    · rename_i a b ha hb
                      obtain ⟨za, ra, pa⟩ := hcu _ _ _ ha
                      obtain ⟨zb, rb, pb⟩ := hcv _ _ _ hb
                      split at h
                      · rename_i he
                        have := ih k f.type a b za zb true (by omega) he pa pb w'
                        simp only [Sem.run_bind, ra, rb, this, Result.andThen_ok, Bool.not_true, Bool.false_eq_true, if_false]
                        exact ihl h
                      · rename_i he
                        have := ih k f.type a b za zb false (by omega) he pa pb w'
                        simp at h; subst h
                        simp [ra, rb, this]
                      · simp at h
                    · simp at h
                  · rename_i hf
                    rw [if_neg hf]
                    exact ihl h
            · simp at h
          · simp at h
      have hxs := hx; have hys := hy
      cases hx with
      | agg _ us hlu hu =>
      cases hy with
      | agg _ vs hlv hv =>
      split at h
      · simp only [Option.map_eq_some_iff] at h
        obtain ⟨r, h1, rfl⟩ := h
        refine ⟨.bool r, fun w' => ?_, .bool r⟩
        have := main 100 10000 t _ _ _ _ r (by omega) h1 hxs hys w'
        simp only [Sem.run_bind, run_eqGuard_agg w' .eql t xo yo _ _ hg', Result.andThen_ok, run_eql_struct, this]
      · simp only [Option.map_eq_some_iff] at h
        obtain ⟨r, h1, rfl⟩ := h
        refine ⟨.bool !r, fun w' => ?_, .bool _⟩
        have := main 100 10000 t _ _ _ _ r (by omega) h1 hxs hys w'
        simp only [Sem.run_bind, run_eqGuard_agg w' .neq t xo yo _ _ hg', Result.andThen_ok, run_neq_struct, this]
      · simp at h
  · split at h
    · rename_i r hr; simp at h; subst h; exact nilA_ok hr hx hy xo yo
    · split at h
      · rename_i r hr; simp at h; subst h; exact boolT_ok hT hr hx hy xo yo
      obtain ⟨x', y', r', h1, h2, h3, h4⟩ := findT_ok2 hT h hx hy
      rcases opK_bin h1 with ⟨k, k', a, b, rfl, rfl, ⟨rfl, h5⟩ | h5⟩ | ⟨a, b, rfl, rfl, h5⟩
      · cases h2; cases h3
        obtain ⟨v, h6, h7⟩ := intK_run (P := P) (w := w) (L := L.bare) (β := β) h5 t
        exact ⟨v, fun w' => by cases op <;> simp [eqGuard, h6], h4 _ h7⟩
      · cases h2; cases h3
        obtain ⟨v, h6, h7⟩ := shK_run (P := P) (w := w) (L := L.bare) (β := β) (k' := k') h5 t
        exact ⟨v, fun w' => by cases op <;> simp [eqGuard, h6], h4 _ h7⟩
      · cases h2; cases h3
        obtain ⟨v, h6, h7⟩ := strOp_ok (P := P) (w := w) (L := L.bare) (β := β) h5
        refine ⟨v, fun w' => ?_, h4 _ h7⟩
        have e : binOp op t (.string ⟨a.toArray⟩) (.string ⟨b.toArray⟩) = Op.stringOp op ⟨a.toArray⟩ ⟨b.toArray⟩ := by cases op <;> rfl
        rw [e]
        cases op <;> simp [eqGuard, h6]

theorem opK_un {op : UnOp} {x r : AV} (h : opK (.un op) [x] = some r) : ∃ b, op = .not ∧ x = .bool b ∧ r = .bool !b := by
  unfold opK at h
  split at h
  all_goals first
    | (rename_i b e1 e2; simp at e1 e2; subst e1; subst e2; simp at h; exact ⟨b, rfl, rfl, h.symm⟩)
    | simp_all
theorem unA_ok {T : Tab} (hT : OpsOK L T) {op : UnOp} {x : AV} {u : Value} {av : AV} (h : unA P T op x = some av) (hx : Rep w L β x u) : ∃ r, (∀ w' : World, (Op.unary op u).run P w' = .ok r w') ∧ Rep w L β av r := by
  unfold unA at h
  split at h
  · cases hx
    simp only [Option.bind_eq_some_iff] at h
    obtain ⟨r, h1, h2⟩ := h
    exact ⟨r, fun w' => pureRun_run _ _ h1 w', ofV1_rep h2⟩
  · cases hx
    split at h
    · simp at h; subst h; exact ⟨_, fun w' => rfl, .bool _⟩
    · simp at h
  · obtain ⟨x', r', h1, h2, h3⟩ := findT_ok1 hT h hx
    obtain ⟨b, rfl, rfl, rfl⟩ := opK_un h1
    cases h2
    exact ⟨_, fun w' => rfl, h3 _ (.bool _)⟩

theorem fieldOf_run {s : TypeId} {f : Nat} {fd : Field} (h : fieldOf P s f = some fd) : ∃ fs, P.underlying s = some (.struct fs) ∧ fs[f]? = some fd := by
  unfold fieldOf at h
  split at h
  · rename_i fs hfs; exact ⟨fs, hfs, h⟩
  · simp at h

theorem fieldA_ok {s : TypeId} {f : Nat} {x : AV} {u : Value} {av : AV} (h : fieldA P s f x = some av) (hx : Rep w L β x u) : ∃ r, (∀ w' : World, (Instr.field s u f).run P w' = .ok r w') ∧ Rep w L β av r := by
  unfold fieldA at h
  split at h
  · split at h
    · rename_i fd hfd
      obtain ⟨fs, h1, h2⟩ := fieldOf_run hfd
      cases hx with
      | agg _ vs hl hv =>
      obtain ⟨z, hz, hr⟩ := part_run (P := P) ⟨hl, hv⟩ h
      exact ⟨z, fun w' => by simp [Instr.field, underlying_run h1, h2, asAgg, hz], hr⟩
    · simp at h
  · simp at h

theorem fieldPlace_run {a : Addr} {f : Field} {n : Nat} (h : szOf P f.type = some (n + 1)) : (fieldPlace a f).run P w = .ok (a.add f.offset) w := by
  simp [fieldPlace, sizeOf_run h]

theorem fieldAddrA_ok {s : TypeId} {f : Nat} {x : AV} {u : Value} {av : AV} (h : fieldAddrA P s f x = some av) (hx : Rep w L β x u) : ∃ r, (∀ w' : World, (Instr.fieldAt s u f).run P w' = .ok r w') ∧ Rep w L β av r := by
  unfold fieldAddrA at h
  split at h
  · split at h
    · rename_i fd hfd
      obtain ⟨fs, h1, h2⟩ := fieldOf_run hfd
      split at h
      · rename_i n hn
        simp at h; subst h
        cases hx with
        | ptr i off b hb => exact ⟨_, fun w' => by simp [Instr.fieldAt, underlying_run h1, h2, Instr.sureAddr, fieldPlace_run hn, add_none], .ptr _ _ _ hb⟩
      · simp at h
    · simp at h
  · split at h
    · rename_i fd hfd
      obtain ⟨fs, h1, h2⟩ := fieldOf_run hfd
      split at h
      · rename_i n hn
        simp at h; subst h
        cases hx with
        | ip cells bl off uu hL hlt hc hr =>
          refine ⟨_, fun w' => by simp [Instr.fieldAt, underlying_run h1, h2, Instr.sureAddr, fieldPlace_run hn, add_none]; rfl, .ip _ bl _ (fun k => uu (fd.offset + k)) hL hlt (fun k hk => ?_) (fun k a hk => ?_)⟩
          · rw [Nat.add_assoc]; exact hc _ (by simp at hk; omega)
          · rw [List.getElem?_drop] at hk; exact hr _ _ hk
      · simp at h
    · simp at h
  · simp at h

theorem indexAddrA_ok {t : TypeId} {x y : AV} {u v : Value} {av : AV} (h : indexAddrA P t x y = some av) (hx : Rep w L β x u) (hy : Rep w L β y v) : ∃ r, (∀ w' : World, (Instr.indexAt t u v).run P w' = .ok r w') ∧ Rep w L β av r := by
  unfold indexAddrA at h
  split at h
  · split at h
    · rename_i e he
      split at h
      · rename_i hc
        obtain ⟨h1, h2, h3⟩ := hc
        simp at h; subst h
        cases hy
        cases hx with
        | sl i off len sz cap b c e' n' hb hlen hcap hsh hroom hsz hfull =>
          exact ⟨_, fun w' => by simp [Instr.indexAt, asIntOf, underlying_run he, sizeOf_run h1, h2, h3, add_none], .ptr _ _ _ hb⟩
      · simp at h
    · simp at h
  · rename_i rows sz kk nn
    split at h
    · rename_i e he
      split at h
      · rename_i hc
        obtain ⟨h1, h2⟩ := hc
        simp only [Option.map_eq_some_iff] at h
        obtain ⟨row, hrow, rfl⟩ := h
        cases hy
        cases hx with
        | im _ _ a n c uu hn hlen hrows hsome hspot hr =>
          have hlt : nn.toNat < rows.length := (List.getElem?_eq_some_iff.1 hrow).1
          obtain ⟨bl, off, ha, hL, hbl, hc⟩ := hsome (by omega)
          subst ha
          refine ⟨_, fun w' => by simp [Instr.indexAt, asIntOf, underlying_run he, sizeOf_run h1, h2, show nn < (n : Int) by omega, add_none]; rfl, .ip _ bl _ (fun k => uu nn.toNat k) hL hbl (fun k hk => ?_) (fun k a hk => hr _ _ _ _ hrow hk)⟩
          rw [Nat.add_assoc]; exact hc _ _ (by omega) (by have := hrows _ _ hrow; omega)
      · simp at h
    · simp at h
  · split at h
    · rename_i len e he
      split at h
      · rename_i sz hsz
        split at h
        · rename_i hc
          obtain ⟨h2, h3⟩ := hc
          simp at h; subst h
          cases hy
          cases hx with
          | ptr i off b hb => exact ⟨_, fun w' => by simp [Instr.indexAt, asIntOf, underlying_run he, sizeOf_run hsz, h2, h3, add_none, Instr.sureAddr], .ptr _ _ _ hb⟩
        · simp at h
      · simp at h
    · simp at h
  · simp at h

theorem indexA_ok {t : TypeId} {x y : AV} {u v : Value} {av : AV} (h : indexA P t x y = some av) (hx : Rep w L β x u) (hy : Rep w L β y v) : ∃ r, (∀ w' : World, (Instr.index t u v).run P w' = .ok r w') ∧ Rep w L β av r := by
  unfold indexA at h
  split at h
  · rename_i l kk n
    split at h
    · rename_i ht
      split at h
      · rename_i h0
        simp only [Option.map_eq_some_iff] at h
        obtain ⟨b, hb, rfl⟩ := h
        cases hx; cases hy
        have hlt : n.toNat < l.length := (List.getElem?_eq_some_iff.1 hb).1
        have hg : (⟨l.toArray⟩ : ByteArray)[n.toNat]? = some b := by
          have : n.toNat < (⟨l.toArray⟩ : ByteArray).size := by rw [str_size]; exact hlt
          rw [getElem?_pos (⟨l.toArray⟩ : ByteArray) n.toNat this]
          congr 1
          obtain ⟨_, h⟩ := List.getElem?_eq_some_iff.1 hb
          rw [← h]; rfl
        exact ⟨.int .u8 b.toNat, fun w' => by simp [Instr.index, asIntOf, underlying_run ht, h0, hg], .int _ _⟩
      · simp at h
    · simp at h
  · split at h
    · rename_i len e he
      split at h
      · rename_i sz hsz
        split at h
        · rename_i hc
          obtain ⟨h2, h3⟩ := hc
          cases hy
          cases hx with
          | agg _ vs hl hv =>
            obtain ⟨z, hz, hr⟩ := part_run (P := P) ⟨hl, hv⟩ h
            exact ⟨z, fun w' => by simp [Instr.index, asIntOf, underlying_run he, sizeOf_run hsz, h2, h3, hz], hr⟩
        · simp at h
      · simp at h
    · simp at h
  · simp at h

theorem fieldAddrT_ok {T : Tab} (hT : OpsOK L T) {s : TypeId} {f : Nat} {x : AV} {u : Value} {av : AV} (h : fieldAddrT P T s f x = some av) (hx : Rep w L β x u) : ∃ r, (∀ w' : World, (Instr.fieldAt s u f).run P w' = .ok r w') ∧ Rep w L β av r := by
  unfold fieldAddrT at h
  split at h
  · rename_i v hv
    simp at h; subst h
    exact fieldAddrA_ok hv hx
  · split at h
    · rename_i fd hfd
      split at h
      · rename_i n hn
        obtain ⟨x', r', h1, h2, h3⟩ := findT_ok1 hT h hx
        have hl : fieldAddrA P s f x' = some r' := by
          unfold opK at h1
          split at h1 <;> simp_all [fieldAddrA]
        obtain ⟨r, g1, g2⟩ := fieldAddrA_ok (P := P) hl h2
        exact ⟨r, g1, h3 _ g2⟩
      · simp at h
    · simp at h
theorem opK_mx {x y r : AV} (h : opK .mx [x, y] = some r) : ∃ k a b, x = .int k a ∧ y = .int k b ∧ r = .int k (if b > a then b else a) := by
  unfold opK at h
  split at h
  all_goals first
    | (rename_i e1 _; cases e1; done)
    | (rename_i k a k' b e1 e2
       simp at e2
       obtain ⟨rfl, rfl⟩ := e2
       split at h
       · rename_i hk; subst hk; simp only [Option.some.injEq] at h; exact ⟨_, a, b, rfl, rfl, h.symm⟩
       · simp at h)
    | simp at h
theorem maxK_ok {x y r : AV} {u v : Value} (ts : Array TypeId) (ty : TypeId) (h : opK .mx [x, y] = some r) (hx : Rep w L β x u) (hy : Rep w L β y v) : ∃ q, (∀ w' : World, (Builtin.max_ ts ty #[u, v]).run P w' = .ok q w') ∧ Rep w L β r q := by
  obtain ⟨k, a, b, rfl, rfl, rfl⟩ := opK_mx h
  cases hx; cases hy
  exact ⟨_, fun w' => by simp [Builtin.max_, Builtin.max2], .int _ _⟩
theorem maxT_ok {T : Tab} (hT : OpsOK L T) {x y r : AV} {u v : Value} (ts : Array TypeId) (ty : TypeId) (h : maxT T x y = some r) (hx : Rep w L β x u) (hy : Rep w L β y v) : ∃ q, (∀ w' : World, (Builtin.max_ ts ty #[u, v]).run P w' = .ok q w') ∧ Rep w L β r q := by
  unfold maxT at h
  split at h
  · rename_i r' h1
    simp at h; subst h
    exact maxK_ok ts ty h1 hx hy
  · obtain ⟨x', y', r', h1, h2, h3, h4⟩ := findT_ok2 hT h hx hy
    obtain ⟨q, g1, g2⟩ := maxK_ok (P := P) ts ty h1 h2 h3
    exact ⟨q, g1, h4 _ g2⟩
theorem indexAddrT_ok {T : Tab} (hT : OpsOK L T) {t : TypeId} {x y : AV} {u v : Value} {av : AV} (h : indexAddrT P T t x y = some av) (hx : Rep w L β x u) (hy : Rep w L β y v) : ∃ r, (∀ w' : World, (Instr.indexAt t u v).run P w' = .ok r w') ∧ Rep w L β av r := by
  unfold indexAddrT at h
  split at h
  · rename_i v hv
    simp at h; subst h
    exact indexAddrA_ok hv hx hy
  · split at h
    · rename_i e ht
      split at h
      · rename_i sz hsz
        obtain ⟨x', y', r', h1, h2, h3, h4⟩ := findT_ok2 hT h hx hy
        have hl : indexAddrA P t x' y' = some r' := by
          unfold opK at h1
          split at h1 <;> simp_all [indexAddrA]
        obtain ⟨r, g1, g2⟩ := indexAddrA_ok (P := P) hl h2 h3
        exact ⟨r, g1, h4 _ g2⟩
      · simp at h
    · simp at h
theorem indexT_ok {T : Tab} (hT : OpsOK L T) {t : TypeId} {x y : AV} {u v : Value} {av : AV} (h : indexT P T t x y = some av) (hx : Rep w L β x u) (hy : Rep w L β y v) : ∃ r, (∀ w' : World, (Instr.index t u v).run P w' = .ok r w') ∧ Rep w L β av r := by
  unfold indexT at h
  split at h
  · rename_i v hv
    simp at h; subst h
    exact indexA_ok hv hx hy
  · split at h
    · rename_i ht
      obtain ⟨x', y', r', h1, h2, h3, h4⟩ := findT_ok2 hT h hx hy
      have hl : indexA P t x' y' = some r' := by
        unfold opK at h1
        split at h1 <;> simp_all [indexA]
      obtain ⟨r, g1, g2⟩ := indexA_ok (P := P) hl h2 h3
      exact ⟨r, g1, h4 _ g2⟩
    · simp at h

end Go.Proofs.BoatV
