/- What a law of the program answers, by the machine's word. No condition. -/
import Derived.Test.YtpngpoeifgkclaaGreatDoorKn
set_option maxRecDepth 100000
namespace Go.Proofs.YtpngpoeifgkclaaGreatDoor
open Go Am

theorem known_calls (w : World) (h : GW w) (hsz : Tryz.prog.globals.size ≤ w.heap.size) :
    Calls Tryz.prog 9 #[] w fun e w' => (∃ u, e = .returned u ∧ ∀ (ρ : Rho) (m : M), VR ρ m (.bool true) u) ∧ w'.os = w.os ∧ w'.tape = w.tape ∧ w'.output = w.output ∧ w.heap.size ≤ w'.heap.size ∧ ∀ b, b < w.heap.size → w'.heap[b]? = w.heap[b]? := by
  rw [gsize] at hsz
  obtain ⟨h', hrun⟩ := isTrue_inv known_run
  have := calls_of G1 rho0 (args := []) (vs := []) (rel0 rfl rho0 h hsz) (gi0 rfl h hsz) rfl hrun
  refine Calls.mono this fun e w' ⟨v, m', he, hv, ev⟩ => ?_
  have hv : v = .bool true := hv
  exact ⟨⟨v, he, fun ρ m => hv⟩, ev.os, ev.tape, ev.output, ev.size, fun b hb => ev.frame b hb fun p _ hp _ _ => absurd (A2.at_none p) hp⟩

noncomputable def ftab2 : F2 := ftab.set (tab0.set (row0_0.set (.val (.bool true)) .x9) .x0) .x0
theorem ftab2_at (p : Hi) : ftab2.at p = if p = .mk .x0 .x0 .x9 then .val (.bool true) else ftab.at p := by
  cases p with | mk a b c =>
  show ((ftab2.get a).get b).get c = _
  unfold ftab2
  rw [F2.get_set]
  by_cases ha : Dg.x0 = a
  · subst ha
    rw [if_pos rfl, F1.get_set]
    by_cases hb : Dg.x0 = b
    · subst hb
      rw [if_pos rfl, F0.get_set]
      by_cases hc : Dg.x9 = c
      · subst hc; rw [if_pos rfl, if_pos rfl]
      · rw [if_neg hc, if_neg (by simp; exact fun h => hc h.symm)]; rfl
    · rw [if_neg hb, if_neg (by simp; exact fun h => absurd h.symm hb)]; rfl
  · rw [if_neg ha, if_neg (by simp; exact fun h => absurd h.symm ha)]; rfl

theorem known_held : (Tryz.f9.name == "runtime.NumGoroutine") = false ∧ Tryz.f9.body.isSome = true := ⟨by kernel_rfl, by kernel_rfl⟩

/-- The program, 'known' known. -/
noncomputable def G2 : Gp := ⟨Tryz.prog, mixed, GW, gws, ftab2, cxOf, fdOf, fun _ => rfl, fun p => by
  rw [ftab2_at]
  by_cases hp : p = .mk .x0 .x0 .x9
  · subst hp
    rw [if_pos rfl]
    exact .inr (.inl ⟨.bool true, Tryz.f9, rfl, Tryz.func9, known_held.1, known_held.2, known_calls⟩)
  · rw [if_neg hp]
    cases p with | mk a b c =>
    exact (ftab_ok b c a).elim .inl fun h => .inr (.inr h)⟩

/-- A law that the machine answers with 'true'. -/
theorem law_calls (ρ : Rho) {p : Hi} {args : List AV} {vs : List Value} (hv : VRL ρ mG args vs) (hrun : isTrue (runK ftab2 200 false .none p args h0 finK) = true) {w : World} (h : GW w) (hsz : 8 ≤ w.heap.size) :
    Calls Tryz.prog p.val vs.toArray w fun e w' => e = .returned (.bool true) ∧ w'.os = w.os ∧ w'.output = w.output ∧ w.heap.size ≤ w'.heap.size ∧ ∀ b, b < w.heap.size → w'.heap[b]? = w.heap[b]? := by
  obtain ⟨h', hrun⟩ := isTrue_inv hrun
  have := calls_of G2 ρ (rel0 rfl ρ h hsz) (gi0 rfl h hsz) hv hrun
  refine Calls.mono this fun e w' ⟨v, m', he, hv, ev⟩ => ?_
  have hv : v = .bool true := hv
  subst hv
  exact ⟨he, ev.os, ev.output, ev.size, fun b hb => ev.frame b hb fun p _ hp _ _ => absurd (A2.at_none p) hp⟩

end Go.Proofs.YtpngpoeifgkclaaGreatDoor
