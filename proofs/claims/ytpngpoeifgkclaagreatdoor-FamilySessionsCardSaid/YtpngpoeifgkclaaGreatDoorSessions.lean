/- FamilySessions: for every input the law returns true, and its arguments read as they did. No condition beyond the given row's: the package variables hold what the program's text lays. -/
import Derived.Test.YtpngpoeifgkclaaGreatDoorGw
import Derived.Test.YtpngpoeifgkclaaGreatDoorSesRun1
import Derived.Test.YtpngpoeifgkclaaGreatDoorSesRun2
import Derived.Test.YtpngpoeifgkclaaGreatDoorSesRun3
import Derived.Test.YtpngpoeifgkclaaGreatDoorSesRun4
import Derived.Test.YtpngpoeifgkclaaGreatDoorSesFacts
import Derived.Test.YtpngpoeifgkclaaGreatDoorSesGoes
import Derived.Test.YtpngpoeifgkclaaGreatDoorCards
import Derived.Test.YtpngpoeifgkclaaGreatDoorTie
import Derived.SevenTiedAt
import Derived.SizedLaws
import Derived.Stop.Joined
set_option maxRecDepth 100000
namespace Go.Proofs.YtpngpoeifgkclaaGreatDoor
open Go Am
open Go.ChangeShapes Go.WideShapes Go.ChangeAt Go.RowKit

/-- What the law is asked for: a number below 8, with any text; a greater one, with a family's name, a short text that is none, or a long one. -/
theorem sessions_calls (z : Int) (s : ByteArray) (hz : 0 ≤ z ∧ z ≤ 255) (hs : s.size ≤ 140737488355328) {w : World} (h : GW w) (hsz : 8 ≤ w.heap.size) :
    Calls Tryz.prog 6 #[.int .u8 z, .string s] w fun e w' => e = .returned (.bool true) ∧ w'.os = w.os ∧ w'.output = w.output ∧ w.heap.size ≤ w'.heap.size ∧ ∀ b, b < w.heap.size → w'.heap[b]? = w.heap[b]? := by
  obtain ⟨n, rfl⟩ : ∃ n : Nat, z = n := ⟨z.toNat, by omega⟩
  by_cases hn : n < 8
  · have go : ∀ k : Nat, isTrue (runK ftab2 200 false .none (.mk .x0 .x0 .x6) [.int 4 (.ofNat k), .no] h0 finK) = true → Calls Tryz.prog 6 #[.int .u8 (k : Int), .string s] w fun e w' => e = .returned (.bool true) ∧ w'.os = w.os ∧ w'.output = w.output ∧ w.heap.size ≤ w'.heap.size ∧ ∀ b, b < w.heap.size → w'.heap[b]? = w.heap[b]? := fun k hr =>
      law_calls rho0 (p := .mk .x0 .x0 .x6) (args := [.int 4 (.ofNat k), .no]) (vs := [.int .u8 (k : Int), .string s]) ⟨_, _, rfl, rfl, _, _, rfl, trivial, rfl⟩ hr h hsz
    match n, hn with
    | 0, _ => exact go 0 se_0
    | 1, _ => exact go 1 se_1
    | 2, _ => exact go 2 se_2
    | 3, _ => exact go 3 se_3
    | 4, _ => exact go 4 se_4
    | 5, _ => exact go 5 se_5
    | 6, _ => exact go 6 se_6
    | 7, _ => exact go 7 se_7
  · by_cases hq : ∃ q ∈ symNames, SR q.1 q.2 s
    · obtain ⟨q, hq, hr⟩ := hq
      have go : ∀ a b : Nat, SR a b s → isTrue (runK ftab2 200 false .none (.mk .x0 .x0 .x6) [.sym 4, .str a b] h0 finK) = true → Calls Tryz.prog 6 #[.int .u8 (n : Int), .string s] w fun e w' => e = .returned (.bool true) ∧ w'.os = w.os ∧ w'.output = w.output ∧ w.heap.size ≤ w'.heap.size ∧ ∀ b, b < w.heap.size → w'.heap[b]? = w.heap[b]? := fun a b hab hr => by
        have ok := symF_ok (s0 := ByteArray.empty) (s1 := ⟨Array.replicate 101 0⟩) (j := n) no_empty no_long (by decide) (by decide) (by decide) (by omega) hz.2
        exact law_calls ⟨_, ok⟩ (p := .mk .x0 .x0 .x6) (args := [.sym 4, .str a b]) (vs := [.int .u8 (n : Int), .string s]) ⟨_, _, rfl, ⟨rfl, rfl⟩, _, _, rfl, ⟨s, rfl, hab⟩, rfl⟩ hr h hsz
      simp only [symNames, List.mem_cons, List.mem_nil_iff, or_false] at hq
      rcases hq with rfl | rfl | rfl | rfl | rfl | rfl | rfl | rfl
      · exact go _ _ hr se_name0
      · exact go _ _ hr se_name1
      · exact go _ _ hr se_name2
      · exact go _ _ hr se_name3
      · exact go _ _ hr se_name4
      · exact go _ _ hr se_name5
      · exact go _ _ hr se_name6
      · exact go _ _ hr se_name7
    · have hq : ∀ q ∈ symNames, ¬ SR q.1 q.2 s := fun q hm hr => hq ⟨q, hm, hr⟩
      by_cases hl : s.size ≤ 100
      · have ok := symF_ok (s0 := s) (s1 := ⟨Array.replicate 101 0⟩) (j := n) hq no_long hl (by decide) (by decide) (by omega) hz.2
        exact law_calls ⟨_, ok⟩ (p := .mk .x0 .x0 .x6) (args := [.sym 4, .sym 0]) (vs := [.int .u8 (n : Int), .string s]) ⟨_, _, rfl, ⟨rfl, rfl⟩, _, _, rfl, ⟨rfl, rfl⟩, rfl⟩ se_short h hsz
      · have ok := symF_ok (s0 := ByteArray.empty) (s1 := s) (j := n) no_empty hq (by decide) (by omega) hs (by omega) hz.2
        exact law_calls ⟨_, ok⟩ (p := .mk .x0 .x0 .x6) (args := [.sym 4, .sym 1]) (vs := [.int .u8 (n : Int), .string s]) ⟨_, _, rfl, ⟨rfl, rfl⟩, _, _, rfl, ⟨rfl, rfl⟩, rfl⟩ se_long h hsz

theorem sessions_lifted (os : Os) (started : os.Started) (H : Type) (enc : TypeId × Value → H) :
    ReturnsInHanded {} Tryz.checked os 6 .any (fun w args => (Rows.familySessionsSpec.pre enc Tryz.prog Tryz.f6 Rows.familySessionsRow.domain false w args ∧ laidMetH Tryz.prog Rows.familySessionsRow.laid w) ∧ sizedMet enc Tryz.prog Tryz.f6 (OpenSpec.ofChange Rows.familySessionsSpec) false w args)
      (Rows.familySessionsSpec.post enc Tryz.prog Tryz.f6 false true false false) := by
  refine returnsInHanded_of_change_and (C := Tryz.checked) (X := fun w _ => laidMetH Tryz.prog Rows.familySessionsRow.laid w) (fun _ _ _ hh h => h.of_heap hh) own started (by kernel_rfl) Tryz.func6
    (ChangeSpec.witness_shaped (enc := enc) (C := Tryz.checked) (os := os) (X := fun w _ => laidMetH Tryz.prog Rows.familySessionsRow.laid w) false (World.laidAll Tryz.prog os Rows.familySessionsRow.laid) #[.int .u8 0, .string ByteArray.empty] 8 (World.laidAll_os _ _ _)
      (World.shaped_of_ZipB (by kernel_rfl) (by kernel_rfl)) (by kernel_rfl) (by kernel_rfl) (by kernel_rfl)
      (by rw [MakeChecks.laidMetH_plain _ _ _ (by kernel_rfl)]; exact laidMet_laidAll _ (by kernel_rfl) (by kernel_rfl))) ?_
  intro W base args ds gs before hval0 hW _ hwt hL _
  have hval : ∀ (j : Nat) t v, Tryz.f6.params[j]? = some t → args[j]? = some v → Value.okWide Tryz.prog W .any base t v := hval0
  have hW' := hW
  obtain ⟨p, q, hA0, hV, rfl, _, _⟩ := hW
  have hA : DataW.TrodAll enc Tryz.prog W 0 (fun _ => true) true Tryz.f6.params.toList args.toList ds p := hA0
  rw [Tryz.params6] at hA hval
  obtain ⟨v0, v1, d0, d1, p0, p1, rfl, rfl, rfl, h0, h1⟩ := trodAll_two hA
  obtain ⟨rfl, rfl⟩ := trodVars_none hV
  obtain ⟨z, rfl, rfl, rfl, wz⟩ := open_int Tryz.underlying5 (hval 0 5 v0 rfl rfl) h0
  obtain ⟨s, rfl, rfl, rfl, ws⟩ := ChangeMaps.open_string Tryz.underlying9 (hval 1 9 v1 rfl rfl) h1
  have hs : s.size ≤ 140737488355328 := Nat.le_trans (Go.sized_string hwt (j := 1) (by rw [Tryz.params6]; rfl) rfl) (by decide)
  simp only [List.append_nil] at hW'
  obtain ⟨hg, hsz⟩ := gw_of hL
  refine (sessions_calls z s (by simpa [Lit.wf, IntKind.min, IntKind.max, IntKind.signed, IntKind.bits] using wz) hs hg hsz).mono fun e W' ⟨he, ho, hu, _, hk⟩ => ?_
  subst he
  exact ⟨_, rfl, ⟨_, _, _, [], [], [], hW', trodAll_mk1 (shut_bool Tryz.underlying4 _), trodAll_mk2 (shut_int Tryz.underlying5 wz) (ChangeMaps.shut_string Tryz.underlying9 ws), rfl, kept_of ho hu hk _, fun h => by cases h⟩⟩

theorem sessions_holds : Rows.FamilySessionsSaid :=
  OpenClaim.holds_of_wide 6 Tryz.f6 rfl rfl rfl rfl rfl rfl rfl ⟨rfl, rfl, rfl, rfl, rfl⟩ rfl rfl rfl rfl rfl sessions_named Tryz.func6 sessions_closed
    sessions_inst sessions_wrap
    (fun os started H enc _ => sessions_lifted os started H enc)
theorem sessions_card : Rows.FamilySessionsCardSaid :=
  Claim7.holds_tied_plain_at .later [] [.data, .data, .data, .data, .sentinel, .sentinel, .pinned] true (true, "8d37c4310b5c98236aa40972fb4e4e839bdd1c5ad5fdff4fa22e88a4aab5ff13") true sessions_holds (fun _ h => by cases h) sessions_byText (fun _ h => by cases h) familySessions_row_tie rfl ⟨rfl, rfl⟩ sessions_mainIs rfl
    (fun f fn hf hfn => by
      obtain rfl : f = 6 := Option.some.inj (sessions_named.symm.trans hf) |>.symm
      obtain rfl : fn = Tryz.f6 := (Option.some.inj (Tryz.func6.symm.trans hfn)).symm
      exact ⟨sessions_looks, fun j t ht => by
        rw [Tryz.params6] at ht
        have hm : t ∈ [5, 9] := by simpa using Array.mem_of_getElem? ht
        have hall : ([5, 9].all fun u => !Tryz.prog.wantsStandIn u) = true := by kernel_rfl
        exact (show Tryz.prog.wantsStandIn t = false by simpa using List.all_eq_true.1 hall t hm)⟩)
    sessions_goes
#print axioms sessions_card
end Go.Proofs.YtpngpoeifgkclaaGreatDoor
