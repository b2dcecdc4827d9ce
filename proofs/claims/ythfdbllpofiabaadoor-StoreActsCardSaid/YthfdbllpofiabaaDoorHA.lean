/-
  boathouselaw1.StoreActs (chapter 1): whatever the arguments are, the law's function answers true and leaves them as they were. Conditions: none beside the row's own.
-/
import Derived.Test.YthfdbllpofiabaaDoorRows
import Derived.Test.YthfdbllpofiabaaDoorTie
import Derived.Test.YthfdbllpofiabaaDoorCards
import Derived.SevenTiedAt
import Derived.LaidMore
import Derived.Lay
import Derived.Stop.Joined
import Derived.Test.YthfdbllpofiabaaDoorRE
import Derived.WalkKit
import Derived.ProofKit
import Derived.OpenShut
import Derived.ShutString
namespace Go.Proofs.YthfdbllpofiabaaDoor.storeActs
open Go.ChangeShapes Go.WideShapes Go.ChangeAt Go.RowKit Go.Proofs.BoatV
open Go.ChangeMaps (open_string shut_string)
set_option linter.unusedVariables false      -- a walk need not use every 'w<i>' (that an integer argument fits its kind)

theorem own : ownKnob Tryd.prog.godebug = none := by kernel_rfl
theorem laid : laidOutB Tryd.prog = true := by kernel_rfl
theorem shape3 : shapeOf Tryd.prog 4 3 = some [.int .i64] := by kernel_rfl
theorem shape50 : shapeOf Tryd.prog 4 50 = some [.sl 4 [.int .i64, .str, .str, .int .i64]] := by kernel_rfl

/-! ### THE ROW's STEP: WRITTEN OUT: LEAVE IT -/
set_option maxRecDepth 100000 in
theorem lifted (os : Os) (started : os.Started) (H : Type) (enc : TypeId × Value → H) :
    ReturnsInHanded {} Tryd.checked os 8 .any (fun w args => (Rows.storeActsSpec.pre enc Tryd.prog Tryd.f8 Rows.storeActsRow.domain false w args ∧ laidMetH Tryd.prog Rows.storeActsRow.laid w) ∧ sizedMet enc Tryd.prog Tryd.f8 (OpenSpec.ofChange Rows.storeActsSpec) false w args)
      (Rows.storeActsSpec.post enc Tryd.prog Tryd.f8 false true false false) := by
  refine returnsInHanded_of_change_and (C := Tryd.checked) (X := fun w _ => laidMetH Tryd.prog Rows.storeActsRow.laid w) (fun _ _ _ hh h => h.of_heap hh) own started (by kernel_rfl) Tryd.func8
    (ChangeSpec.witness_shaped (enc := enc) (C := Tryd.checked) (os := os) (X := fun w _ => laidMetH Tryd.prog Rows.storeActsRow.laid w) false (World.laidAll Tryd.prog os Rows.storeActsRow.laid) #[.int .i64 0, .slice none 0 0] 8 (World.laidAll_os _ _ _)
      (World.shaped_of_ZipB (by kernel_rfl) (by kernel_rfl)) (by kernel_rfl) (by kernel_rfl) (by kernel_rfl)
      (by rw [MakeChecks.laidMetH_plain _ _ _ (by kernel_rfl)]; exact laidMet_laidAll _ (by kernel_rfl) (by kernel_rfl))) ?_
  intro W base args ds gs before hval0 hW hcnd _ hL _
  have hval : ∀ (j : Nat) t v, Tryd.f8.params[j]? = some t → args[j]? = some v → Value.okWide Tryd.prog W .any base t v := hval0
  have hW' := hW
  obtain ⟨p, q, hA0, hV, rfl, hfz, hnd⟩ := hW
  have hA : DataW.TrodAll enc Tryd.prog W 0 (fun _ => true) true Tryd.f8.params.toList args.toList ds p := hA0
  rw [Tryd.params8] at hA hval
  obtain ⟨v0, vs0, d0, ds0, p0, q0, hargs, rfl, rfl, h0, r0⟩ := trodAll_cons hA
  obtain ⟨v1, vs1, d1, ds1, p1, q1, rfl, rfl, rfl, h1, r1⟩ := trodAll_cons r0
  obtain ⟨rfl, rfl, rfl⟩ := trodAll_nil r1
  obtain rfl : args = #[v0, v1] := by cases args; simp_all
  obtain ⟨rfl, rfl⟩ := trodVars_none hV
  have hcell0 := Go.Proofs.BoatV.one_cell (hval 0 3 v0 rfl rfl) (by rw [Tryd.underlying3]; trivial)
  obtain ⟨av0, hok0, hrep0⟩ := Trod_one h0 shape3 hcell0
  obtain ⟨n0, hn0, rfl⟩ := ok_int hok0
  have hcell1 := Go.Proofs.BoatV.one_cell (hval 1 50 v1 rfl rfl) (by rw [Tryd.underlying50]; trivial)
  obtain ⟨av1, hok1, hrep1⟩ := Trod_one h1 shape50 hcell1
  obtain ⟨n1, hn1, rfl⟩ := ok_acts hok1
  clear hA0 hval0
  simp only [List.append_nil] at hW'
  have hlt0 : ∀ x ∈ p0, x.block < W.heap.size := fun x hx => hW'.lt x (by simp [hx])
  have hlt1 : ∀ x ∈ p1, x.block < W.heap.size := fun x hx => hW'.lt x (by simp [hx])
  refine (calls_old (vs := [v0, v1]) (F8_spec spL_ok _) (acts_true n0 n1 hn1.2) (Reps.cons hrep0 (Reps.cons hrep1 Reps.nil)) rep_bool).mono fun e W' ⟨he, hg⟩ => ?_
  subst he
  exact ⟨_, rfl, post_of_below (pa := p0 ++ p1) (pv := []) (ds := [d0, d1]) (gs := []) hW' hg (fun _ _ _ => (trodAll_cons_mk (shut_bool Tryd.underlying4 _) trodAll_mk0))
    (fun sp hsp => by
      have := trodAll_cons_mk (WideElems.Trod_stays (sp' := sp) laid (by kernel_rfl) (of_decide_eq_true (by kernel_rfl)) h0 (fun x hx => hg.same (hlt0 x hx)) (fun x hx => hsp x (by simp [hx]))) (trodAll_cons_mk (WideElems.Trod_stays (sp' := sp) laid (by kernel_rfl) (of_decide_eq_true (by kernel_rfl)) h1 (fun x hx => hg.same (hlt1 x hx)) (fun x hx => hsp x (by simp [hx]))) (trodAll_mk0))
      have h2 : DataW.TrodAll enc Tryd.prog W' 0 sp true [3, 50] [v0, v1] [d0, d1] (p0 ++ p1) := by simpa using this
      exact h2) (fun _ _ => rfl) (by simp)
    (ok_one (by kernel_rfl) rfl (okWide_bool_mk Tryd.underlying4 _))⟩

theorem over : Rows.storeActsRow.holds Tryd.pinned (OpenSpec.ofChange Rows.storeActsSpec) :=
  OpenClaim.holds_of_wide 8 Tryd.f8 rfl rfl rfl rfl rfl rfl rfl ⟨rfl, rfl, rfl, rfl, rfl⟩ rfl rfl rfl rfl rfl (by kernel_rfl) Tryd.func8 (by kernel_rfl)
    (of_decide_eq_true (by kernel_rfl)) (by unfold Func.isWrapper; first | (rw [if_pos (by decide +kernel)]; kernel_rfl) | (rw [if_neg (by decide +kernel)]; exact ⟨rfl, rfl⟩))
    (fun os started H enc _ => lifted os started H enc)

theorem proved : Rows.StoreActsSaid := over
/-- The tied card. -/
theorem card_holds : Rows.StoreActsCardSaid :=
  Claim7.holds_tied_plain_at .later [] [.data, .pinned] true (true, "55ec015352c2fb21551c625fe8a082a0f18104a50ccf20144b057cc3e646e323") true
    proved (fun _ h => by cases h) (by kernel_rfl) (fun _ h => by cases h) storeActs_row_tie rfl ⟨rfl, rfl⟩ (by kernel_rfl) rfl
    (fun f fn hf hfn => by
      obtain rfl : f = 8 := Option.some.inj ((show Tryd.prog.funcNamed "boathouse/boathouselaw1.StoreActs" = some 8 by kernel_rfl).symm.trans hf) |>.symm
      obtain rfl : fn = Tryd.f8 := (Option.some.inj (Tryd.func8.symm.trans hfn)).symm
      exact ⟨by kernel_rfl, fun j t ht => by
        rw [Tryd.params8] at ht
        have h3 : t = 3 ∨ t = 50 := by
          rcases j with _ | _ | j
          · obtain rfl : t = 3 := by simpa using ht.symm
            simp
          · obtain rfl : t = 50 := by simpa using ht.symm
            simp
          · simp at ht
        rcases h3 with rfl | rfl
        · exact (show Tryd.prog.wantsStandIn 3 = false by kernel_rfl)
        · exact (show Tryd.prog.wantsStandIn 50 = false by kernel_rfl)⟩)
    (by kernel_rfl)
#print axioms card_holds
end Go.Proofs.YthfdbllpofiabaaDoor.storeActs
