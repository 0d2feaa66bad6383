/- FamilyExamples: for every input the law returns true, and its arguments read as they did. No condition beyond the given row's: the package variables hold what the program's text lays. -/
import Derived.Test.YtpngpoeifgkclaaGreatDoorGw
import Derived.Test.YtpngpoeifgkclaaGreatDoorExRun1
import Derived.Test.YtpngpoeifgkclaaGreatDoorExRun2
import Derived.Test.YtpngpoeifgkclaaGreatDoorExFacts
import Derived.Test.YtpngpoeifgkclaaGreatDoorExGoes
import Derived.Test.YtpngpoeifgkclaaGreatDoorCards
import Derived.Test.YtpngpoeifgkclaaGreatDoorTie
import Derived.SevenTiedAt
import Derived.SizedLaws
import Derived.Stop.Joined
set_option maxRecDepth 100000
namespace Go.Proofs.YtpngpoeifgkclaaGreatDoor
open Go Am
open Go.ChangeShapes Go.WideShapes Go.ChangeAt Go.RowKit

/-- What the law is asked for: a number below 8, with any text; a greater one, with a family's name, a short text that is none, or a long one. -/
theorem examples_calls (z : Int) (s : ByteArray) (hz : 0 ≤ z ∧ z ≤ 255) (hs : s.size ≤ 140737488355328) {w : World} (h : GW w) (hsz : 8 ≤ w.heap.size) :
    Calls Tryz.prog 4 #[.int .u8 z, .string s] w fun e w' => e = .returned (.bool true) ∧ w'.os = w.os ∧ w'.output = w.output ∧ w.heap.size ≤ w'.heap.size ∧ ∀ b, b < w.heap.size → w'.heap[b]? = w.heap[b]? := by
  obtain ⟨n, rfl⟩ : ∃ n : Nat, z = n := ⟨z.toNat, by omega⟩
  by_cases hn : n < 8
  · have go : ∀ k : Nat, isTrue (runK ftab2 200 false .none (.mk .x0 .x0 .x4) [.int 4 (.ofNat k), .no] h0 finK) = true → Calls Tryz.prog 4 #[.int .u8 (k : Int), .string s] w fun e w' => e = .returned (.bool true) ∧ w'.os = w.os ∧ w'.output = w.output ∧ w.heap.size ≤ w'.heap.size ∧ ∀ b, b < w.heap.size → w'.heap[b]? = w.heap[b]? := fun k hr =>
      law_calls rho0 (p := .mk .x0 .x0 .x4) (args := [.int 4 (.ofNat k), .no]) (vs := [.int .u8 (k : Int), .string s]) ⟨_, _, rfl, rfl, _, _, rfl, trivial, rfl⟩ hr h hsz
    match n, hn with
    | 0, _ => exact go 0 ex_0
    | 1, _ => exact go 1 ex_1
    | 2, _ => exact go 2 ex_2
    | 3, _ => exact go 3 ex_3
    | 4, _ => exact go 4 ex_4
    | 5, _ => exact go 5 ex_5
    | 6, _ => exact go 6 ex_6
    | 7, _ => exact go 7 ex_7
  · by_cases hq : ∃ q ∈ symNames, SR q.1 q.2 s
    · obtain ⟨q, hq, hr⟩ := hq
      have go : ∀ a b : Nat, SR a b s → isTrue (runK ftab2 200 false .none (.mk .x0 .x0 .x4) [.sym 4, .str a b] h0 finK) = true → Calls Tryz.prog 4 #[.int .u8 (n : Int), .string s] w fun e w' => e = .returned (.bool true) ∧ w'.os = w.os ∧ w'.output = w.output ∧ w.heap.size ≤ w'.heap.size ∧ ∀ b, b < w.heap.size → w'.heap[b]? = w.heap[b]? := fun a b hab hr => by
        have ok := symF_ok (s0 := ByteArray.empty) (s1 := ⟨Array.replicate 101 0⟩) (j := n) no_empty no_long (by decide) (by decide) (by decide) (by omega) hz.2
        exact law_calls ⟨_, ok⟩ (p := .mk .x0 .x0 .x4) (args := [.sym 4, .str a b]) (vs := [.int .u8 (n : Int), .string s]) ⟨_, _, rfl, ⟨rfl, rfl⟩, _, _, rfl, ⟨s, rfl, hab⟩, rfl⟩ hr h hsz
      simp only [symNames, List.mem_cons, List.mem_nil_iff, or_false] at hq
      rcases hq with rfl | rfl | rfl | rfl | rfl | rfl | rfl | rfl
      · exact go _ _ hr ex_name0
      · exact go _ _ hr ex_name1
      · exact go _ _ hr ex_name2
      · exact go _ _ hr ex_name3
      · exact go _ _ hr ex_name4
      · exact go _ _ hr ex_name5
      · exact go _ _ hr ex_name6
      · exact go _ _ hr ex_name7
    · have hq : ∀ q ∈ symNames, ¬ SR q.1 q.2 s := fun q hm hr => hq ⟨q, hm, hr⟩
      by_cases hl : s.size ≤ 100
      · have ok := symF_ok (s0 := s) (s1 := ⟨Array.replicate 101 0⟩) (j := n) hq no_long hl (by decide) (by decide) (by omega) hz.2
        exact law_calls ⟨_, ok⟩ (p := .mk .x0 .x0 .x4) (args := [.sym 4, .sym 0]) (vs := [.int .u8 (n : Int), .string s]) ⟨_, _, rfl, ⟨rfl, rfl⟩, _, _, rfl, ⟨rfl, rfl⟩, rfl⟩ ex_short h hsz
      · have ok := symF_ok (s0 := ByteArray.empty) (s1 := s) (j := n) no_empty hq (by decide) (by omega) hs (by omega) hz.2
        exact law_calls ⟨_, ok⟩ (p := .mk .x0 .x0 .x4) (args := [.sym 4, .sym 1]) (vs := [.int .u8 (n : Int), .string s]) ⟨_, _, rfl, ⟨rfl, rfl⟩, _, _, rfl, ⟨rfl, rfl⟩, rfl⟩ ex_long h hsz

theorem examples_lifted (os : Os) (started : os.Started) (H : Type) (enc : TypeId × Value → H) :
    ReturnsInHanded {} Tryz.checked os 4 .any (fun w args => (Rows.familyExamplesSpec.pre enc Tryz.prog Tryz.f4 Rows.familyExamplesRow.domain false w args ∧ laidMetH Tryz.prog Rows.familyExamplesRow.laid w) ∧ sizedMet enc Tryz.prog Tryz.f4 (OpenSpec.ofChange Rows.familyExamplesSpec) false w args)
      (Rows.familyExamplesSpec.post enc Tryz.prog Tryz.f4 false true false false) := by
  refine returnsInHanded_of_change_and (C := Tryz.checked) (X := fun w _ => laidMetH Tryz.prog Rows.familyExamplesRow.laid w) (fun _ _ _ hh h => h.of_heap hh) own started (by kernel_rfl) Tryz.func4
    (ChangeSpec.witness_shaped (enc := enc) (C := Tryz.checked) (os := os) (X := fun w _ => laidMetH Tryz.prog Rows.familyExamplesRow.laid w) false (World.laidAll Tryz.prog os Rows.familyExamplesRow.laid) #[.int .u8 0, .string ByteArray.empty] 8 (World.laidAll_os _ _ _)
      (World.shaped_of_ZipB (by kernel_rfl) (by kernel_rfl)) (by kernel_rfl) (by kernel_rfl) (by kernel_rfl)
      (by rw [MakeChecks.laidMetH_plain _ _ _ (by kernel_rfl)]; exact laidMet_laidAll _ (by kernel_rfl) (by kernel_rfl))) ?_
  intro W base args ds gs before hval0 hW _ hwt hL _
  have hval : ∀ (j : Nat) t v, Tryz.f4.params[j]? = some t → args[j]? = some v → Value.okWide Tryz.prog W .any base t v := hval0
  have hW' := hW
  obtain ⟨p, q, hA0, hV, rfl, _, _⟩ := hW
  have hA : DataW.TrodAll enc Tryz.prog W 0 (fun _ => true) true Tryz.f4.params.toList args.toList ds p := hA0
  rw [Tryz.params4] at hA hval
  obtain ⟨v0, v1, d0, d1, p0, p1, rfl, rfl, rfl, h0, h1⟩ := trodAll_two hA
  obtain ⟨rfl, rfl⟩ := trodVars_none hV
  obtain ⟨z, rfl, rfl, rfl, wz⟩ := open_int Tryz.underlying5 (hval 0 5 v0 rfl rfl) h0
  obtain ⟨s, rfl, rfl, rfl, ws⟩ := ChangeMaps.open_string Tryz.underlying9 (hval 1 9 v1 rfl rfl) h1
  have hs : s.size ≤ 140737488355328 := Nat.le_trans (Go.sized_string hwt (j := 1) (by rw [Tryz.params4]; rfl) rfl) (by decide)
  simp only [List.append_nil] at hW'
  obtain ⟨hg, hsz⟩ := gw_of hL
  refine (examples_calls z s (by simpa [Lit.wf, IntKind.min, IntKind.max, IntKind.signed, IntKind.bits] using wz) hs hg hsz).mono fun e W' ⟨he, ho, hu, _, hk⟩ => ?_
  subst he
  exact ⟨_, rfl, ⟨_, _, _, [], [], [], hW', trodAll_mk1 (shut_bool Tryz.underlying4 _), trodAll_mk2 (shut_int Tryz.underlying5 wz) (ChangeMaps.shut_string Tryz.underlying9 ws), rfl, kept_of ho hu hk _, fun h => by cases h⟩⟩

theorem examples_holds : Rows.FamilyExamplesSaid :=
  OpenClaim.holds_of_wide 4 Tryz.f4 rfl rfl rfl rfl rfl rfl rfl ⟨rfl, rfl, rfl, rfl, rfl⟩ rfl rfl rfl rfl rfl examples_named Tryz.func4 examples_closed
    examples_inst examples_wrap
    (fun os started H enc _ => examples_lifted os started H enc)
theorem examples_card : Rows.FamilyExamplesCardSaid :=
  Claim7.holds_tied_plain_at .later [] [.data, .data, .data, .data, .sentinel, .sentinel, .pinned] true (true, "8d37c4310b5c98236aa40972fb4e4e839bdd1c5ad5fdff4fa22e88a4aab5ff13") true examples_holds (fun _ h => by cases h) examples_byText (fun _ h => by cases h) familyExamples_row_tie rfl ⟨rfl, rfl⟩ examples_mainIs rfl
    (fun f fn hf hfn => by
      obtain rfl : f = 4 := Option.some.inj (examples_named.symm.trans hf) |>.symm
      obtain rfl : fn = Tryz.f4 := (Option.some.inj (Tryz.func4.symm.trans hfn)).symm
      exact ⟨examples_looks, fun j t ht => by
        rw [Tryz.params4] at ht
        have hm : t ∈ [5, 9] := by simpa using Array.mem_of_getElem? ht
        have hall : ([5, 9].all fun u => !Tryz.prog.wantsStandIn u) = true := by kernel_rfl
        exact (show Tryz.prog.wantsStandIn t = false by simpa using List.all_eq_true.1 hall t hm)⟩)
    examples_goes
#print axioms examples_card
end Go.Proofs.YtpngpoeifgkclaaGreatDoor
