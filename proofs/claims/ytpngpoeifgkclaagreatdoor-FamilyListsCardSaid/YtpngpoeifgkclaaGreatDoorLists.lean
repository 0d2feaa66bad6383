/- FamilyLists: for every input the law returns true, and its argument reads as it did. No condition beyond the given row's: the package variables hold what the program's text lays. -/
import Derived.Test.YtpngpoeifgkclaaGreatDoorGw
import Derived.Test.YtpngpoeifgkclaaGreatDoorListsRun
import Derived.Test.YtpngpoeifgkclaaGreatDoorListsFacts
import Derived.Test.YtpngpoeifgkclaaGreatDoorListsGoes
import Derived.Test.YtpngpoeifgkclaaGreatDoorCards
import Derived.Test.YtpngpoeifgkclaaGreatDoorTie
import Derived.SevenTiedAt
import Derived.Stop.Joined
set_option maxRecDepth 100000
namespace Go.Proofs.YtpngpoeifgkclaaGreatDoor
open Go Am
open Go.ChangeShapes Go.WideShapes Go.ChangeAt Go.RowKit

theorem lists_lifted (os : Os) (started : os.Started) (H : Type) (enc : TypeId × Value → H) :
    ReturnsInHanded {} Tryz.checked os 3 .any (fun w args => (Rows.familyListsSpec.pre enc Tryz.prog Tryz.f3 Rows.familyListsRow.domain false w args ∧ laidMetH Tryz.prog Rows.familyListsRow.laid w) ∧ sizedMet enc Tryz.prog Tryz.f3 (OpenSpec.ofChange Rows.familyListsSpec) false w args)
      (Rows.familyListsSpec.post enc Tryz.prog Tryz.f3 false true false false) := by
  refine returnsInHanded_of_change_and (C := Tryz.checked) (X := fun w _ => laidMetH Tryz.prog Rows.familyListsRow.laid w) (fun _ _ _ hh h => h.of_heap hh) own started (by kernel_rfl) Tryz.func3
    (ChangeSpec.witness_shaped (enc := enc) (C := Tryz.checked) (os := os) (X := fun w _ => laidMetH Tryz.prog Rows.familyListsRow.laid w) false (World.laidAll Tryz.prog os Rows.familyListsRow.laid) #[.int .i64 0] 8 (World.laidAll_os _ _ _)
      (World.shaped_of_ZipB (by kernel_rfl) (by kernel_rfl)) (by kernel_rfl) (by kernel_rfl) (by kernel_rfl)
      (by rw [MakeChecks.laidMetH_plain _ _ _ (by kernel_rfl)]; exact laidMet_laidAll _ (by kernel_rfl) (by kernel_rfl))) ?_
  intro W base args ds gs before hval0 hW _ _ hL _
  have hval : ∀ (j : Nat) t v, Tryz.f3.params[j]? = some t → args[j]? = some v → Value.okWide Tryz.prog W .any base t v := hval0
  have hW' := hW
  obtain ⟨p, q, hA0, hV, rfl, _, _⟩ := hW
  have hA : DataW.TrodAll enc Tryz.prog W 0 (fun _ => true) true Tryz.f3.params.toList args.toList ds p := hA0
  rw [Tryz.params3] at hA hval
  obtain ⟨v0, d0, rfl, rfl, h0⟩ := trodAll_one hA
  obtain ⟨rfl, rfl⟩ := trodVars_none hV
  obtain ⟨z, rfl, rfl, rfl, wz⟩ := open_int Tryz.underlying3 (hval 0 3 v0 rfl rfl) h0
  simp only [List.append_nil] at hW'
  obtain ⟨hg, hsz⟩ := gw_of hL
  refine (law_calls rho0 (p := .mk .x0 .x0 .x3) (args := [.int 3 z]) (vs := [.int .i64 z]) ⟨_, _, rfl, rfl, rfl⟩ (lists_run z) hg hsz).mono fun e W' ⟨he, ho, hu, _, hk⟩ => ?_
  subst he
  exact ⟨_, rfl, ⟨_, _, _, [], [], [], hW', trodAll_mk1 (shut_bool Tryz.underlying4 _), trodAll_mk1 (shut_int Tryz.underlying3 wz), rfl, kept_of ho hu hk _, fun h => by cases h⟩⟩

theorem lists_holds : Rows.FamilyListsSaid :=
  OpenClaim.holds_of_wide 3 Tryz.f3 rfl rfl rfl rfl rfl rfl rfl ⟨rfl, rfl, rfl, rfl, rfl⟩ rfl rfl rfl rfl rfl lists_named Tryz.func3 lists_closed
    lists_inst lists_wrap
    (fun os started H enc _ => lists_lifted os started H enc)
theorem lists_card : Rows.FamilyListsCardSaid :=
  Claim7.holds_tied_plain_at .later [] [.data, .data, .data, .data, .sentinel, .sentinel, .pinned] true (true, "8d37c4310b5c98236aa40972fb4e4e839bdd1c5ad5fdff4fa22e88a4aab5ff13") true lists_holds (fun _ h => by cases h) lists_byText (fun _ h => by cases h) familyLists_row_tie rfl ⟨rfl, rfl⟩ lists_mainIs rfl
    (fun f fn hf hfn => by
      obtain rfl : f = 3 := Option.some.inj (lists_named.symm.trans hf) |>.symm
      obtain rfl : fn = Tryz.f3 := (Option.some.inj (Tryz.func3.symm.trans hfn)).symm
      exact ⟨lists_looks, fun j t ht => by
        rw [Tryz.params3] at ht
        have hm : t ∈ [3] := by simpa using Array.mem_of_getElem? ht
        have hall : ([3].all fun u => !Tryz.prog.wantsStandIn u) = true := by kernel_rfl
        exact (show Tryz.prog.wantsStandIn t = false by simpa using List.all_eq_true.1 hall t hm)⟩)
    lists_goes
#print axioms lists_card
end Go.Proofs.YtpngpoeifgkclaaGreatDoor
