/- The law's program as the machine has it, and what its package variables hold. No condition. -/
import Derived.Test.YtpngpoeifgkclaaGreatDoorTab
import Derived.KernelRfl
set_option maxRecDepth 100000
namespace Go.Proofs.YtpngpoeifgkclaaGreatDoor
open Go Am

theorem gsize : Tryz.prog.globals.size = 8 := by kernel_rfl
theorem mixed : Tryz.prog.follows .mixedOrders = true := by kernel_rfl

/-! ### The package variables -/

def pow10L : List Int := [1, 10, 100, 1000, 10000, 100000, 1000000, 10000000, 100000000, 1000000000, 10000000000, 100000000000, 1000000000000, 10000000000000, 100000000000000, 1000000000000000, 10000000000000000, 100000000000000000, 1000000000000000000, 10000000000000000000]
def GW (w : World) : Prop := ∃ C e f, w.heap[3]? = some (.cells C e f) ∧ C.toList = pow10L.map fun k => Value.int .u64 k
theorem gws (w w' : World) (h : GW w) (hk : ∀ b, b < Tryz.prog.globals.size → w'.heap[b]? = w.heap[b]?) : GW w' := by
  obtain ⟨C, e, f, h1, h2⟩ := h
  exact ⟨C, e, f, by rw [hk 3 (by rw [gsize]; decide)]; exact h1, h2⟩

noncomputable def G1 : Gp := ⟨Tryz.prog, mixed, GW, gws, ftab, cxOf, fdOf, fun _ => rfl, fun p => match p with
  | .mk a b c => (ftab_ok b c a).elim .inl fun h => .inr (.inr h)⟩

def gcells : List AV := [.int 7 (.ofNat 1), .int 7 (.ofNat 10), .int 7 (.ofNat 100), .int 7 (.ofNat 1000), .int 7 (.ofNat 10000), .int 7 (.ofNat 100000), .int 7 (.ofNat 1000000), .int 7 (.ofNat 10000000), .int 7 (.ofNat 100000000), .int 7 (.ofNat 1000000000), .int 7 (.ofNat 10000000000), .int 7 (.ofNat 100000000000), .int 7 (.ofNat 1000000000000), .int 7 (.ofNat 10000000000000), .int 7 (.ofNat 100000000000000), .int 7 (.ofNat 1000000000000000), .int 7 (.ofNat 10000000000000000), .int 7 (.ofNat 100000000000000000), .int 7 (.ofNat 1000000000000000000), .int 7 (.ofNat 10000000000000000000)]
theorem gcells_eq : gcells = pow10L.map (.int 7 ·) := rfl
noncomputable def gcell : AObj := .cells false 1 20 gcells
noncomputable def gl : A2 := A2.none.put gcell (.mk .x0 .x0 .x3)
noncomputable def h0 : Hp := ⟨A2.none, [gl], .mk .x0 .x0 .x8⟩
def mG : M := fun p => if p.val < 8 then some ⟨p.val, 0, 20, 1⟩ else none

theorem h0_at (p : Hi) : (p = .mk .x0 .x0 .x3 ∧ h0.at p = gcell) ∨ h0.at p = .no := by
  have h1 : h0.at p = atList p [gl] := Hp.at_fz (A2.at_none p)
  rw [h1]
  by_cases hp : Hi.mk .x0 .x0 .x3 = p
  · subst hp
    left
    refine ⟨rfl, ?_⟩
    have h2 : gl.at (.mk .x0 .x0 .x3) = gcell := by unfold gl; rw [A2.at_put, if_pos rfl]
    rw [atList_cons (by rw [h2]; simp [gcell]), h2]
  · right
    have h2 : gl.at p = .no := by unfold gl; rw [A2.at_put, if_neg hp, A2.at_none]
    simp only [atList, h2]

theorem rel0 {G : Gp} (hP : G.P = Tryz.prog) (ρ : Rho) {w : World} (h : GW w) (hsz : 8 ≤ w.heap.size) : Rel G ρ mG h0 w := by
  refine ⟨fun p hp => ?_, fun p hp => ?_, fun p q pl pl' hp hq _ _ _ => ?_, fun p hp => absurd (A2.at_none p) hp, fun g hg => ?_⟩
  · have hp : 8 ≤ p.val := hp
    unfold mG
    rw [if_neg (by omega)]
  · rcases h0_at p with ⟨rfl, h1⟩ | h1
    · obtain ⟨C, e, f, h2, h3⟩ := h
      have hC : C.size = 20 := by rw [← Array.length_toList, h3]; rfl
      refine ⟨⟨3, 0, 20, 1⟩, rfl, by show 3 < w.heap.size; omega, ?_⟩
      rw [h1]
      refine ⟨C, e, f, h2, Nat.le_refl _, by rw [hC]; exact Nat.le_refl _, fun h => (by cases h), fun i a ha => ?_, fun i hi hi2 => ?_⟩
      · rw [gcells_eq, List.getElem?_map] at ha
        cases hz : pow10L[i]? with
        | none => rw [hz] at ha; cases ha
        | some z =>
          rw [hz] at ha
          simp only [Option.map_some, Option.some.injEq] at ha
          subst ha
          refine ⟨.int .u64 z, ?_, rfl, rfl⟩
          show C[0 + i]? = _
          rw [Nat.zero_add, ← Array.getElem?_toList, h3, List.getElem?_map, hz]; rfl
      · have hi2 : 0 + i < C.size := hi2
        omega
    · exact absurd h1 hp
  · rcases h0_at p with ⟨rfl, _⟩ | h1
    · rcases h0_at q with ⟨rfl, _⟩ | h1
      · rfl
      · exact absurd h1 hq
    · exact absurd h1 hp
  · rw [hP, gsize] at hg
    refine ⟨20, 1, ?_⟩
    unfold mG
    rw [hi_val (by omega), if_pos hg]
theorem gi0 {G : Gp} (hP : G.P = Tryz.prog) {w : World} (h : G.GW w) (hsz : 8 ≤ w.heap.size) : GI G mG h0 w := ⟨h, by rw [hP, gsize]; exact hsz, fun q _ hq => absurd (A2.at_none q) hq⟩

/-! ### Answers -/

noncomputable def isTrue : Res → Bool
  | .ok (.ret (.bool true)) _ => true
  | _ => false
theorem isTrue_inv {r : Res} (h : isTrue r = true) : ∃ h', r = .ok (.ret (.bool true)) h' := by
  unfold isTrue at h
  split at h
  · exact ⟨_, rfl⟩
  · cases h

/-! ### Symbols -/

def symF (s0 s1 : ByteArray) (j : Int) : Nat → Value
  | 0 => .string s0
  | 1 => .string s1
  | 2 => goInt s0.size
  | 3 => goInt s1.size
  | 4 => .int .u8 j
  | 5 => .int .i64 j
  | _ => .bool false
theorem symF_ok {s0 s1 : ByteArray} {j : Int} (h0 : ∀ q ∈ symNames, ¬ SR q.1 q.2 s0) (h1 : ∀ q ∈ symNames, ¬ SR q.1 q.2 s1) (hs0 : s0.size ≤ 100) (hs1 : 101 ≤ s1.size) (hs2 : s1.size ≤ 140737488355328) (hj : 8 ≤ j) (hj2 : j ≤ 255) : SymOk (symF s0 s1 j) := by
  refine ⟨fun k κ lo hi h => ?_, fun k l h => ?_, fun k κ l h => ?_⟩
  · match k, h with
    | 2, h =>
      have h : some (3, Int.ofNat 0, Int.ofNat 100) = some (κ, lo, hi) := h
      simp only [Option.some.injEq, Prod.mk.injEq] at h
      obtain ⟨rfl, rfl, rfl⟩ := h
      exact ⟨s0.size, rfl, by simp, by simp; omega⟩
    | 3, h =>
      have h : some (3, Int.ofNat 101, Int.ofNat 140737488355328) = some (κ, lo, hi) := h
      simp only [Option.some.injEq, Prod.mk.injEq] at h
      obtain ⟨rfl, rfl, rfl⟩ := h
      exact ⟨s1.size, rfl, by simp; omega, by simp; omega⟩
    | 5, h =>
      have h : some (3, Int.ofNat 8, Int.ofNat 255) = some (κ, lo, hi) := h
      simp only [Option.some.injEq, Prod.mk.injEq] at h
      obtain ⟨rfl, rfl, rfl⟩ := h
      exact ⟨j, rfl, by simpa using hj, by simpa using hj2⟩
    | 0, h => cases h
    | 1, h => cases h
    | 4, h => cases h
    | _ + 6, h => cases h
  · match k, h with
    | 0, h =>
      have h : some 2 = some l := h
      simp only [Option.some.injEq] at h
      subst h
      exact ⟨s0, rfl, h0, rfl⟩
    | 1, h =>
      have h : some 3 = some l := h
      simp only [Option.some.injEq] at h
      subst h
      exact ⟨s1, rfl, h1, rfl⟩
    | _ + 2, h => cases h
  · match k, h with
    | 4, h =>
      match κ, h with
      | 3, h =>
        have h : some 5 = some l := h
        simp only [Option.some.injEq] at h
        subst h
        refine ⟨.u8, j, rfl, ?_⟩
        show Value.int .i64 j = .int .i64 (IntKind.wrap .i64 j)
        congr 1
        simp only [IntKind.wrap, IntKind.bits, IntKind.signed]
        simp
        omega
      | 0, h => cases h
      | 1, h => cases h
      | 2, h => cases h
      | _ + 4, h => cases h
    | 0, h => cases h
    | 1, h => cases h
    | 2, h => cases h
    | 3, h => cases h
    | _ + 5, h => cases h
theorem names_len : ∀ q ∈ symNames, q.1 ≤ 9 ∧ 1 ≤ q.1 := by decide
theorem no_empty : ∀ q ∈ symNames, ¬ SR q.1 q.2 ByteArray.empty := fun q hq h => by
  have := (names_len q hq).2
  have h1 : (ByteArray.empty).data.toList.length = q.1 := h.1
  simp at h1
  omega
theorem no_long : ∀ q ∈ symNames, ¬ SR q.1 q.2 ⟨Array.replicate 101 0⟩ := fun q hq h => by
  have := (names_len q hq).1
  have h1 : (Array.replicate 101 (0 : UInt8)).toList.length = q.1 := h.1
  simp at h1
  omega
/-- No symbol is of use. -/
def rho0 : Rho := ⟨symF ByteArray.empty ⟨Array.replicate 101 0⟩ 8, symF_ok no_empty no_long (by decide) (by decide) (by decide) (by decide) (by decide)⟩

end Go.Proofs.YtpngpoeifgkclaaGreatDoor
