/- What a law of the program answers, by the machine's word. No condition. -/
import Derived.Test.YtpngpoeifgkclaaGreatDoorKn
import Derived.Test.YtpngpoeifgkclaaGreatDoorJn
set_option maxRecDepth 100000
namespace Go.Proofs.YtpngpoeifgkclaaGreatDoor
open Go Am

theorem known_calls (w : World) (h : GW w) (hsz : Tryz.prog.globals.size ≤ w.heap.size) :
    Calls Tryz.prog 9 #[] w fun e w' => (∃ u, e = .returned u ∧ ∀ (ρ : Rho) (m : M), VR ρ m (.bool true) u) ∧ w'.os = w.os ∧ w'.tape = w.tape ∧ w'.output = w.output ∧ w.heap.size ≤ w'.heap.size ∧ ∀ b, b < w.heap.size → w'.heap[b]? = w.heap[b]? := by
  rw [gsize] at hsz
  obtain ⟨h', hrun⟩ := isTrue_inv known_run
  have := calls_of G1 rho0 (args := []) (vs := []) (rel0 rfl rho0 h hsz) (gi0 rfl h hsz) rfl hrun
  refine Calls.mono this fun e w' ⟨v, m', he, hv, ev⟩ => ?_
  have hv : v = .bool true := hv
  exact ⟨⟨v, he, fun ρ m => hv⟩, ev.os, ev.tape, ev.output, ev.size, fun b hb => ev.frame b hb fun p _ hp _ _ => absurd (A2.at_none p) hp⟩

/-- 'known' as the machine has it. -/
def knownG (_ : Hp) : List AV → Option AV
  | [] => some (.bool true)
  | _ => none
noncomputable def putF (t : F2) (d : FD) : Hi → F2
  | .mk a b c => t.set ((t.get a).set (((t.get a).get b).set d c) b) a
theorem putF_at (t : F2) (d : FD) (q p : Hi) : (putF t d q).at p = if p = q then d else t.at p := by
  cases p with | mk a b c =>
  cases q with | mk x y z =>
  show (((t.set ((t.get x).set (((t.get x).get y).set d z) y) x).get a).get b).get c = if Hi.mk a b c = Hi.mk x y z then d else ((t.get a).get b).get c
  rw [F2.get_set]
  by_cases ha : x = a
  · subst ha
    rw [if_pos rfl, F1.get_set]
    by_cases hb : y = b
    · subst hb
      rw [if_pos rfl, F0.get_set]
      by_cases hc : z = c
      · subst hc; rw [if_pos rfl, if_pos rfl]
      · rw [if_neg hc, if_neg (by simp; exact fun h => hc h.symm)]
    · rw [if_neg hb, if_neg (by simp; exact fun h => absurd h.symm hb)]
  · rw [if_neg ha, if_neg (by simp; exact fun h => absurd h.symm ha)]
noncomputable def ftab2 : F2 := putF (putF ftab (.val joinG) (.mk .x0 .x2 .x8)) (.val knownG) (.mk .x0 .x0 .x9)

theorem known_held : (Tryz.f9.name == "runtime.NumGoroutine") = false ∧ Tryz.f9.body.isSome = true := ⟨by kernel_rfl, by kernel_rfl⟩
theorem join_held : (Tryz.f40.name == "runtime.NumGoroutine") = false ∧ Tryz.f40.body.isSome = true := ⟨by kernel_rfl, by kernel_rfl⟩

/-- The program, 'known' and strings.Join known. -/
noncomputable def G2 : Gp := ⟨Tryz.prog, mixed, GW, gws, ftab2, cxOf, fdOf, fun _ => rfl, fun p => by
  unfold ftab2
  rw [putF_at, putF_at]
  by_cases hp : p = .mk .x0 .x0 .x9
  · subst hp
    rw [if_pos rfl]
    refine .inr (.inl ⟨knownG, Tryz.f9, rfl, Tryz.func9, known_held.1, known_held.2, fun ρ m h w args vs v hgw hsz _ hv hg => ?_⟩)
    cases args with
    | nil =>
      have hv : vs = [] := hv
      subst hv
      have hg : some (AV.bool true) = some v := hg
      cases hg
      exact (known_calls w hgw hsz).mono fun e w' ⟨⟨u, he, hu⟩, h2⟩ => ⟨⟨u, he, hu ρ m⟩, h2⟩
    | cons _ _ => cases hg
  · rw [if_neg hp]
    by_cases hp : p = .mk .x0 .x2 .x8
    · subst hp
      rw [if_pos rfl]
      exact .inr (.inl ⟨joinG, Tryz.f40, rfl, Tryz.func40, join_held.1, join_held.2, fun ρ m h w args vs v _ _ hc hv hg => join_calls ρ m h w args vs v hc hv hg⟩)
    · rw [if_neg hp]
      cases p with | mk a b c =>
      exact (ftab_ok b c a).elim .inl fun h => .inr (.inr h)⟩

/-- A law that the machine answers with 'true'. -/
theorem law_calls (ρ : Rho) {p : Hi} {args : List AV} {vs : List Value} (hv : VRL ρ mG args vs) (hrun : isTrue (runK ftab2 200 false .none p args h0 finK) = true) {w : World} (h : GW w) (hsz : 8 ≤ w.heap.size) :
    Calls Tryz.prog p.val vs.toArray w fun e w' => e = .returned (.bool true) ∧ w'.os = w.os ∧ w'.output = w.output ∧ w.heap.size ≤ w'.heap.size ∧ ∀ b, b < w.heap.size → w'.heap[b]? = w.heap[b]? := by
  obtain ⟨h', hrun⟩ := isTrue_inv hrun
  have := calls_of G2 ρ (rel0 rfl ρ h hsz) (gi0 rfl h hsz) hv hrun
  refine Calls.mono this fun e w' ⟨v, m', he, hv, ev⟩ => ?_
  have hv : v = .bool true := hv
  subst hv
  exact ⟨he, ev.os, ev.output, ev.size, fun b hb => ev.frame b hb fun p _ hp _ _ => absurd (A2.at_none p) hp⟩

end Go.Proofs.YtpngpoeifgkclaaGreatDoor
