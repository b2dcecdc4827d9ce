/- From the evaluator's answer to a law's row: contracts of the library, answers kept, the world behind a call. -/
import Derived.Test.YthfdbllpofiabaaDoorV15
import Derived.Below
import Derived.ChangeSame
import Derived.OpenShut
import Derived.Shelf.Abstract
import Derived.Lib.SlTrimSet
import Derived.Lib.Bytealg
namespace Go.Proofs.BoatV
open Go Go.Proofs Go.ChangeShapes Go.RowKit
set_option linter.unusedVariables false
set_option linter.unusedSimpArgs false
variable {P : Program}

theorem step_of_below {w w' : World} (h : Below w.heap.size w w') (L L' : Nat → Prop) (hL : ∀ b, b < w.heap.size → L' b → L b) : Step w L w' L' :=
  ⟨h.os, h.tape, h.output, h.size, fun b hb _ => h.block b hb, fun b hb hn hl => hn (hL b hb hl), fun b s hs => by
    rcases Nat.lt_or_ge b w.heap.size with hb | hb
    · rw [shape_of_heap (h.block b hb)]; exact hs
    · simp [World.shape?, Array.getElem?_eq_none hb] at hs⟩

theorem sim_of_below {L : Env} {w w' : World} {β : List Nat} {H : Heap} (hS : Sim L w β H) (h : Below w.heap.size w w') : Sim L w' β H ∧ Step w (LiveAt β H) w' (LiveAt β H) := by
  have hst := step_of_below h (LiveAt β H) (LiveAt β H) (fun _ _ h => h)
  exact ⟨⟨hS.len, fun i b hb => Nat.lt_of_lt_of_le (hS.lt i b hb) h.size, hS.inj, fun i o b h1 h2 h3 => by
    obtain ⟨x, hx, hr⟩ := hS.obj i o b h1 h2 h3
    exact ⟨x, by rw [h.block b (hS.lt i b h3)]; exact hx, hr.mono (hS.wide hst) (fun _ _ h => h)⟩, hS.dis, fun b hb => hS.big b (Nat.le_trans h.size hb)⟩, hst⟩

/-- A contract that gives a value and leaves all that lay there. -/
theorem callsTo_below {L : Env} {f : FuncId} {vs : List Value} {w : World} {β : List Nat} {H : Heap} (hS : Sim L w β H) (he : (callFunc f vs.toArray).run P w = .ok (.enter f vs.toArray) w) {v : Value} {r : AV}
    (hc : Calls P f vs.toArray w fun e w' => e = .returned v ∧ Below w.heap.size w w') (hr : ∀ w' : World, Rep w' L β r v) : CallsTo P L f vs w β H r H := by
  refine ⟨he, hc.mono fun e w' ⟨h1, h2⟩ => ?_⟩
  obtain ⟨s1, s2⟩ := sim_of_below hS h2
  exact ⟨v, [], L, h1, by simpa using s1, by simpa using hr w', by simpa using s2, Cut.refl _ _ _⟩

/-! ### Answers that are kept -/
def memo (args : List AV) (r : AV) : List AV → Heap → Option (AV × Heap) := fun a H => match beqL a args, H with
  | true, [] => some (r, [])
  | _, _ => none

theorem memo_ok {cf : CallF} (hcf : ∀ L : Env, CallOK P L cf) {f : FuncId} {args : List AV} {r : AV} (h : cf f args [] = some (r, [])) : SpecOK P f (memo args r) := by
  intro a H r' H' hm L w β vs hS hR
  unfold memo at hm
  split at hm
  · rename_i hb
    have := beqL_eq _ _ hb
    subst this
    simp only [Option.some.injEq, Prod.mk.injEq] at hm
    obtain ⟨rfl, rfl⟩ := hm
    exact hcf L _ _ _ _ _ h w β vs hS hR
  · simp at hm

/-- The same, of a call that is handed memory. -/
def memoH (args : List AV) (H0 : Heap) (r : AV) (H1 : Heap) : List AV → Heap → Option (AV × Heap) := fun a H => match beqL a args && beqH H H0 with
  | true => some (r, H1)
  | false => none

theorem memoH_ok {cf : CallF} (hcf : ∀ L : Env, CallOK P L cf) {f : FuncId} {args : List AV} {H0 H1 : Heap} {r : AV} (h : cf f args H0 = some (r, H1)) : SpecOK P f (memoH args H0 r H1) := by
  intro a H r' H' hm L w β vs hS hR
  unfold memoH at hm
  split at hm
  · rename_i hb
    simp only [Bool.and_eq_true] at hb
    have e1 := beqL_eq _ _ hb.1
    have e2 := beqH_eq _ _ hb.2
    subst e1; subst e2
    simp only [Option.some.injEq, Prod.mk.injEq] at hm
    obtain ⟨rfl, rfl⟩ := hm
    exact hcf L _ _ _ _ _ h w β vs hS hR
  · simp at hm

/-- One answer or another. -/
def orSpec (s t : List AV → Heap → Option (AV × Heap)) : List AV → Heap → Option (AV × Heap) := fun a H => match s a H with
  | some x => some x
  | none => t a H
theorem orSpec_ok {f : FuncId} {s t : List AV → Heap → Option (AV × Heap)} (hs : SpecOK P f s) (ht : SpecOK P f t) : SpecOK P f (orSpec s t) := by
  intro a H r' H' hm L w β vs hS hR
  unfold orSpec at hm
  split at hm
  · rename_i x hx
    simp only [Option.some.injEq] at hm
    subst hm
    exact hs _ _ _ _ hx L w β vs hS hR
  · exact ht _ _ _ _ hm L w β vs hS hR

/-- A function's own body, where no answer is kept. -/
theorem full_spec {cf : CallF} (hcf : ∀ L : Env, CallOK P L cf) (f : FuncId) : SpecOK P f (cf f) := fun args H r H' h L w β vs hS hR => hcf L f args H r H' h w β vs hS hR

/-! ### The library -/
def trimSpec : List AV → Heap → Option (AV × Heap) := fun args H => match args with
  | [.str s, .str c] => if Nat.ble s.length 9223372036854775807 && Nat.ble c.length 4294967280 && c.all (fun b => Nat.blt b.toNat 128) then some (.str (Lib.trimS s c), H) else none
  | _ => none
def cmpSpec : List AV → Heap → Option (AV × Heap) := fun args H => match args with
  | [.str s, .str c] => some (.int .i64 (Lib.compareBytes s c), H)
  | _ => none

theorem trim_ok {f : FuncId} (he : Enters P f) (h : ∀ (s c : ByteArray) (w : World), s.size ≤ 9223372036854775807 → c.size < 4294967281 → (∀ (j : Nat) b, c.data.toList[j]? = some b → b.toNat < 128) →
    Calls P f #[.string s, .string c] w fun e w' => e = .returned (.string ⟨(Lib.trimS s.data.toList c.data.toList).toArray⟩) ∧ Below w.heap.size w w') : SpecOK P f trimSpec := by
  intro args H r H' hs L w β vs hS hR
  unfold trimSpec at hs
  split at hs
  · rename_i s c
    split at hs
    · rename_i hc
      simp only [Option.some.injEq, Prod.mk.injEq] at hs
      obtain ⟨rfl, rfl⟩ := hs
      simp only [Bool.and_eq_true, Nat.ble_eq, List.all_eq_true] at hc
      obtain ⟨⟨h1, h2⟩, h3⟩ := hc
      obtain ⟨u, v, he2, hu, hv⟩ := arr2 (xs := vs.toArray) (by simpa using hR)
      have hvs : vs = [u, v] := by simpa using he2
      subst hvs
      cases hu; cases hv
      refine callsTo_below hS (he _ _) (h ⟨s.toArray⟩ ⟨c.toArray⟩ w (by rw [str_size]; exact h1) (by rw [str_size]; omega) (fun j b hb => ?_)) (fun w' => by simpa using Rep.str (w := w') (L := L) (β := β) (Lib.trimS s c))
      have hm : b ∈ c := List.mem_of_getElem? (by simpa using hb)
      have := h3 b hm
      have h4 : b.toNat ≤ 127 := by simpa [Nat.blt] using this
      omega
    · simp at hs
  · simp at hs

theorem cmp_ok {f : FuncId} (he : Enters P f) (h : ∀ (a b : ByteArray) (w : World), Calls P f #[.string a, .string b] w fun e w' => e = .returned (.int .i64 (Lib.compareBytes a.data.toList b.data.toList)) ∧ w' = w) : SpecOK P f cmpSpec := by
  intro args H r H' hs L w β vs hS hR
  unfold cmpSpec at hs
  split at hs
  · rename_i s c
    simp only [Option.some.injEq, Prod.mk.injEq] at hs
    obtain ⟨rfl, rfl⟩ := hs
    obtain ⟨u, v, he2, hu, hv⟩ := arr2 (xs := vs.toArray) (by simpa using hR)
    have hvs : vs = [u, v] := by simpa using he2
    subst hvs
    cases hu; cases hv
    exact callsTo_below hS (he _ _) ((h ⟨s.toArray⟩ ⟨c.toArray⟩ w).mono fun e w' ⟨h1, h2⟩ => ⟨h1, h2 ▸ Below.refl _ _⟩) (fun w' => by simpa using Rep.int (w := w') (L := L) (β := β) .i64 (Lib.compareBytes s c))
  · simp at hs

/-! ### Which functions are entered -/
def okB (P : Program) (f : FuncId) : Bool := match P.funcs[f]? with
  | some fn => !(fn.name == "runtime.NumGoroutine") && fn.body.isSome
  | none => false
theorem enters_okB {f : FuncId} (h : okB P f = true) : Enters P f := by
  unfold okB at h
  split at h
  · rename_i fn hf
    simp only [Bool.and_eq_true, Bool.not_eq_true', Option.isSome_iff_exists] at h
    obtain ⟨h1, c, hc⟩ := h
    exact enters_of hf h1 hc
  · simp at h

/-! ### From the answer to the row -/
theorem calls_true {f : FuncId} {args : List AV} {vs : List Value} {v : AV} {u : Value} {w : World} {s : List AV → Heap → Option (AV × Heap)} (hs : SpecB P f s) (h : ∃ H, s args [] = some (v, H))
    (hR : Reps w (bareE fun _ => True) [] args vs) (hv : ∀ (w' : World) (L : Env) (β : List Nat) (u' : Value), Rep w' L β v u' → u' = u) :
    Calls P f vs.toArray w fun e w' => e = .returned u ∧ Below w.heap.size w w' := by
  obtain ⟨H, h⟩ := h
  obtain ⟨_, hc⟩ := hs args [] v H h (fun _ => True) w [] vs (Sim.empty w (fun _ _ => trivial)) hR
  refine hc.mono fun e w' => ?_
  rintro ⟨v', βn, D, rfl, s1, s2, s3, _⟩
  refine ⟨by rw [hv _ _ _ _ s2], s3.os, s3.tape, s3.output, s3.size, fun k hk => s3.kept k hk ?_⟩
  rintro ⟨i, o, h1, _⟩
  simp at h1

theorem rep_bool {b : Bool} : ∀ (w' : World) (L : Env) (β : List Nat) (u' : Value), Rep w' L β (.bool b) u' → u' = .bool b := fun _ _ _ _ h => by cases h; rfl

/-- The call made new blocks alone: what the row asks behind it. -/
theorem post_of_below {H : Type} {enc : TypeId × Value → H} {f : Func} {s : ChangeSpec} {apart fresh handsOn again : Bool} {W W' : World} {args : Array Value} {v : Value} {ds gs : List (DataW H)} {before pa pv : List MemPlace}
    (hW : DataW.Whole enc P f.params.toList s.vars apart W args.toList ds gs before) (hb : Below W.heap.size W W')
    (hres : ∀ (b : Nat) (sp : Nat → Bool) (hd : Bool), DataW.TrodAll enc P W' b sp hd f.resultTypes.toList (v.resultList f.resultTypes.size) (s.fn H (ds ++ gs)).results [])
    (hargs : ∀ sp : Nat → Bool, (∀ p ∈ before, sp p.block = true) → DataW.TrodAll enc P W' 0 sp true f.params.toList args.toList (s.fn H (ds ++ gs)).args pa)
    (hvars : ∀ sp : Nat → Bool, (∀ p ∈ before, sp p.block = true) → DataW.TrodVars enc P W' sp s.vars (s.fn H (ds ++ gs)).vars pv)
    (hps : before = pa ++ pv)
    (hok : ∀ (j : Nat) (t : TypeId) (r : Value), f.resultTypes[j]? = some t → (v.resultList f.resultTypes.size)[j]? = some r → Value.okWide P W' .any 0 t r) :
    s.post enc P f apart fresh handsOn again W args v W' := by
  have hlt := hW.lt
  have hin : ∀ p ∈ before, (fun b => decide (b < W.heap.size)) p.block = true := fun p hp => decide_eq_true (hlt p hp)
  have hall := trodAll_append (hargs (fun _ => true) (fun _ _ => rfl)) (hres 0 (fun _ => true) true)
  refine ⟨ds, gs, before, [], pa, pv, hW, hres _ _ _, hargs _ hin, hvars _ hin, World.keptBut_mono (fun p hp => ⟨hp, .inr ?_⟩) (hb.frame (· ∈ before)), fun _ => ?_⟩
  · rw [hps] at hp; exact List.mem_append.1 hp
  · obtain ⟨_, _, _, _, _, hz, hn⟩ := hW
    refine ⟨hok, _, _, ([] ++ pa) ++ pv, ⟨[] ++ pa, pv, trodAll_append (hargs _ (fun _ _ => rfl)) (hres _ _ _), hvars _ (fun _ _ => rfl), rfl, fun b off hp => ?_, fun ha => ?_⟩, fun p hp _ => ?_⟩
    · have hp' : MemPlace.cell b off ∈ before := by rw [hps]; simpa using hp
      rw [hb.frozen (p := ⟨b, off, none⟩) (hlt _ hp')]
      exact hz b off hp'
    · have := hn ha
      rw [hps] at this
      simpa using this
    · rw [hps]
      simpa using hp

end Go.Proofs.BoatV
