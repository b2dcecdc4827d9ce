/-
  boathouselaw1.StoreLists (chapter 1): whatever the arguments are, the law's function answers true and leaves them as they were. Conditions: none beside the row's own.
-/
import Derived.Test.YthfdbllpofiabaaDoorRows
import Derived.Test.YthfdbllpofiabaaDoorTie
import Derived.Test.YthfdbllpofiabaaDoorCards
import Derived.SevenTiedAt
import Derived.LaidMore
import Derived.Lay
import Derived.Stop.Joined
import Derived.Test.YthfdbllpofiabaaDoorS16
import Derived.WalkKit
import Derived.ProofKit
import Derived.OpenShut
import Derived.ShutString
namespace Go.Proofs.YthfdbllpofiabaaDoor.storeLists
open Go.ChangeShapes Go.WideShapes Go.ChangeAt Go.RowKit Go.Proofs.BoatV
open Go.ChangeMaps (open_string shut_string)
set_option linter.unusedVariables false      -- a walk need not use every 'w<i>' (that an integer argument fits its kind)

theorem own : ownKnob Tryd.prog.godebug = none := by kernel_rfl
theorem laid : laidOutB Tryd.prog = true := by kernel_rfl
theorem shape34 : shapeOf Tryd.prog 4 34 = some [.sl 1 [.int .i64]] := by kernel_rfl
theorem shape9 : shapeOf Tryd.prog 4 9 = some [.str] := by kernel_rfl

/-! ### THE ROW's STEP: WRITTEN OUT: LEAVE IT -/
set_option maxRecDepth 100000 in
theorem lifted (os : Os) (started : os.Started) (H : Type) (enc : TypeId × Value → H) :
    ReturnsInHanded {} Tryd.checked os 4 .any (fun w args => (Rows.storeListsSpec.pre enc Tryd.prog Tryd.f4 Rows.storeListsRow.domain false w args ∧ laidMetH Tryd.prog Rows.storeListsRow.laid w) ∧ sizedMet enc Tryd.prog Tryd.f4 (OpenSpec.ofChange Rows.storeListsSpec) false w args)
      (Rows.storeListsSpec.post enc Tryd.prog Tryd.f4 false true false false) := by
  refine returnsInHanded_of_change_and (C := Tryd.checked) (X := fun w _ => laidMetH Tryd.prog Rows.storeListsRow.laid w) (fun _ _ _ hh h => h.of_heap hh) own started (by kernel_rfl) Tryd.func4
    (ChangeSpec.witness_shaped (enc := enc) (C := Tryd.checked) (os := os) (X := fun w _ => laidMetH Tryd.prog Rows.storeListsRow.laid w) false (World.laidAll Tryd.prog os Rows.storeListsRow.laid) #[.slice none 0 0, .string ⟨#[]⟩] 8 (World.laidAll_os _ _ _)
      (World.shaped_of_ZipB (by kernel_rfl) (by kernel_rfl)) (by kernel_rfl) (by kernel_rfl) (by kernel_rfl)
      (by rw [MakeChecks.laidMetH_plain _ _ _ (by kernel_rfl)]; exact laidMet_laidAll _ (by kernel_rfl) (by kernel_rfl))) ?_
  intro W base args ds gs before hval0 hW hcnd _ hL _
  have hval : ∀ (j : Nat) t v, Tryd.f4.params[j]? = some t → args[j]? = some v → Value.okWide Tryd.prog W .any base t v := hval0
  have hW' := hW
  obtain ⟨p, q, hA0, hV, rfl, hfz, hnd⟩ := hW
  have hA : DataW.TrodAll enc Tryd.prog W 0 (fun _ => true) true Tryd.f4.params.toList args.toList ds p := hA0
  rw [Tryd.params4] at hA hval
  obtain ⟨v0, vs0, d0, ds0, p0, q0, hargs, rfl, rfl, h0, r0⟩ := trodAll_cons hA
  obtain ⟨v1, vs1, d1, ds1, p1, q1, rfl, rfl, rfl, h1, r1⟩ := trodAll_cons r0
  obtain ⟨rfl, rfl, rfl⟩ := trodAll_nil r1
  obtain rfl : args = #[v0, v1] := by cases args; simp_all
  obtain ⟨rfl, rfl⟩ := trodVars_none hV
  have hcell0 := Go.Proofs.BoatV.one_cell (hval 0 34 v0 rfl rfl) (by rw [Tryd.underlying34]; trivial)
  obtain ⟨av0, hok0, hrep0⟩ := Trod_one h0 shape34 hcell0
  obtain ⟨n0, hn0, rfl⟩ := ok_ints hok0
  have hcell1 := Go.Proofs.BoatV.one_cell (hval 1 9 v1 rfl rfl) (by rw [Tryd.underlying9]; trivial)
  obtain ⟨av1, hok1, hrep1⟩ := Trod_one h1 shape9 hcell1
  obtain ⟨n1, hn1, rfl⟩ := ok_str hok1
  clear hA0 hval0
  simp only [List.append_nil] at hW'
  have hlt0 : ∀ x ∈ p0, x.block < W.heap.size := fun x hx => hW'.lt x (by simp [hx])
  have hlt1 : ∀ x ∈ p1, x.block < W.heap.size := fun x hx => hW'.lt x (by simp [hx])
  refine (calls_old (vs := [v0, v1]) (F4_spec spG_ok _) (lists_true n0 n1) (Reps.cons hrep0 (Reps.cons hrep1 Reps.nil)) rep_bool).mono fun e W' ⟨he, hg⟩ => ?_
  subst he
  exact ⟨_, rfl, post_of_below (pa := p0 ++ p1) (pv := []) (ds := [d0, d1]) (gs := []) hW' hg (fun _ _ _ => (trodAll_cons_mk (shut_bool Tryd.underlying4 _) trodAll_mk0))
    (fun sp hsp => by
      have := trodAll_cons_mk (WideElems.Trod_stays (sp' := sp) laid (by kernel_rfl) (of_decide_eq_true (by kernel_rfl)) h0 (fun x hx => hg.same (hlt0 x hx)) (fun x hx => hsp x (by simp [hx]))) (trodAll_cons_mk (WideElems.Trod_stays (sp' := sp) laid (by kernel_rfl) (of_decide_eq_true (by kernel_rfl)) h1 (fun x hx => hg.same (hlt1 x hx)) (fun x hx => hsp x (by simp [hx]))) (trodAll_mk0))
      have h2 : DataW.TrodAll enc Tryd.prog W' 0 sp true [34, 9] [v0, v1] [d0, d1] (p0 ++ p1) := by simpa using this
      exact h2) (fun _ _ => rfl) (by simp)
    (ok_one (by kernel_rfl) rfl (okWide_bool_mk Tryd.underlying4 _))⟩

theorem over : Rows.storeListsRow.holds Tryd.pinned (OpenSpec.ofChange Rows.storeListsSpec) :=
  OpenClaim.holds_of_wide 4 Tryd.f4 rfl rfl rfl rfl rfl rfl rfl ⟨rfl, rfl, rfl, rfl, rfl⟩ rfl rfl rfl rfl rfl (by kernel_rfl) Tryd.func4 (by kernel_rfl)
    (of_decide_eq_true (by kernel_rfl)) (by unfold Func.isWrapper; first | (rw [if_pos (by decide +kernel)]; kernel_rfl) | (rw [if_neg (by decide +kernel)]; exact ⟨rfl, rfl⟩))
    (fun os started H enc _ => lifted os started H enc)

theorem proved : Rows.StoreListsSaid := over
/-- The tied card. -/
theorem card_holds : Rows.StoreListsCardSaid :=
  Claim7.holds_tied_plain_at .later [] [.data, .pinned] true (true, "55ec015352c2fb21551c625fe8a082a0f18104a50ccf20144b057cc3e646e323") true
    proved (fun _ h => by cases h) (by kernel_rfl) (fun _ h => by cases h) storeLists_row_tie rfl ⟨rfl, rfl⟩ (by kernel_rfl) rfl
    (fun f fn hf hfn => by
      obtain rfl : f = 4 := Option.some.inj ((show Tryd.prog.funcNamed "boathouse/boathouselaw1.StoreLists" = some 4 by kernel_rfl).symm.trans hf) |>.symm
      obtain rfl : fn = Tryd.f4 := (Option.some.inj (Tryd.func4.symm.trans hfn)).symm
      exact ⟨by kernel_rfl, fun j t ht => by
        rw [Tryd.params4] at ht
        have h3 : t = 9 ∨ t = 34 := by
          rcases j with _ | _ | j
          · obtain rfl : t = 34 := by simpa using ht.symm
            simp
          · obtain rfl : t = 9 := by simpa using ht.symm
            simp
          · simp at ht
        rcases h3 with rfl | rfl
        · exact (show Tryd.prog.wantsStandIn 9 = false by kernel_rfl)
        · exact (show Tryd.prog.wantsStandIn 34 = false by kernel_rfl)⟩)
    (by kernel_rfl)
#print axioms card_holds
end Go.Proofs.YthfdbllpofiabaaDoor.storeLists
