/- A machine that the kernel runs, and the proof that what it answers is what the model of Go answers (part 3 of 3). No condition. -/
import Derived.Test.YtpngpoeifgkclaaGreatDoorAm2
/- Memory with blocks beside it; the orders of a region. -/
namespace Go.Proofs.YtpngpoeifgkclaaGreatDoor.Am

section
variable {G : Gp} {ρ : Rho}

/-- The other memory is the same, with these blocks beside. -/
structure Beside (E : Hi → AObj) (h hX : Hp) : Prop where
  fz : hX.fz = h.fz
  nx : hX.nx = h.nx
  no : ∀ p, E p = .no → hX.tr.at p = h.tr.at p
  yes : ∀ p, E p ≠ .no → hX.tr.at p = E p

theorem Beside.refl {h : Hp} : Beside (fun _ => .no) h h := ⟨rfl, rfl, fun _ _ => rfl, fun _ h => absurd rfl h⟩

theorem Hp.at_ext {h h2 : Hp} (hf : h2.fz = h.fz) {p : Hi} (ht : h2.tr.at p = h.tr.at p) : h2.at p = h.at p := by
  unfold Hp.at; rw [hf, ht]

theorem Rel.ext {m : M} {h h2 : Hp} {w : World} (hf : h2.fz = h.fz) (hn : h.nx.val ≤ h2.nx.val) (ht : ∀ p, h2.tr.at p = h.tr.at p) (r : Rel G ρ m h w) : Rel G ρ m h2 w := by
  have hat : ∀ p, h2.at p = h.at p := fun p => Hp.at_ext hf (ht p)
  refine ⟨fun p hp => r.fresh p (Nat.le_trans hn hp), fun p hp => ?_, fun p q pl pl' hp hq => ?_, fun p hp => ?_, r.glob⟩
  · rw [hat] at hp ⊢; exact r.dom p hp
  · rw [hat] at hp hq; exact r.sep p q pl pl' hp hq
  · rw [ht] at hp; rw [hf]; exact r.disj p hp
theorem Evo.ext {m m' : M} {h h' h2 : Hp} {w w' : World} (hf : h2.fz = h'.fz) (hn : h'.nx.val ≤ h2.nx.val) (ht : ∀ p, h2.tr.at p = h'.tr.at p) (e : Evo G ρ m h w m' h' w') : Evo G ρ m h w m' h2 w' :=
  ⟨e.rel.ext hf hn ht, e.le, e.os, e.tape, e.output, e.size, e.frame, fun p pl hp hm => e.own p pl (by rw [← ht]; exact hp) hm, hf.trans e.fz, Nat.le_trans e.nx hn, e.low⟩

section beside
variable {E : Hi → AObj} {h hX : Hp} (hb : Beside E h hX) (hno : ∀ p, E p ≠ .no → h.at p = .no)
include hb hno

theorem Beside.tr {p : Hi} (hp : h.at p ≠ .no) : hX.tr.at p = h.tr.at p := hb.no p (Classical.byContradiction fun hc => hp (hno p hc))
theorem Beside.at {p : Hi} (hp : h.at p ≠ .no) : hX.at p = h.at p := Hp.at_ext hb.fz (hb.tr hno hp)

/-- A memory that knows less. -/
theorem Rel.sub {m : M} {w : World} (r : Rel G ρ m hX w) : Rel G ρ m h w := by
  refine ⟨fun p hp => r.fresh p (by rw [hb.nx]; exact hp), fun p hp => ?_, fun p q pl pl' hp hq => ?_, fun p hp => ?_, r.glob⟩
  · rw [← hb.at hno hp]; exact r.dom p (by rw [hb.at hno hp]; exact hp)
  · exact r.sep p q pl pl' (by rw [hb.at hno hp]; exact hp) (by rw [hb.at hno hq]; exact hq)
  · have h1 := at_ne_of_tr hp
    have := r.disj p (by rw [hb.tr hno h1]; exact hp)
    rwa [hb.fz] at this

/-- What stands beside stays beside. -/
theorem Evo.over {m m' : M} {h' : Hp} {w w' : World} (r : Rel G ρ m hX w) (e : Evo G ρ m h w m' h' w') {hX' : Hp} (hb' : Beside E h' hX') : Evo G ρ m hX w m' hX' w' ∧ ∀ p, E p ≠ .no → h'.at p = .no := by
  have rh : Rel G ρ m h w := r.sub hb hno
  have hEX : ∀ p, E p ≠ .no → hX.at p = E p := fun p hp => by rw [Hp.at_tr (by rw [hb.yes p hp]; exact hp), hb.yes p hp]
  have hEX' : ∀ p, E p ≠ .no → hX'.at p = E p := fun p hp => by rw [Hp.at_tr (by rw [hb'.yes p hp]; exact hp), hb'.yes p hp]
  have hpm : ∀ p, E p ≠ .no → ∃ pl, m p = some pl ∧ pl.blk < w.heap.size ∧ ObjR G ρ m pl w (E p) := fun p hp => by
    rw [← hEX p hp]; exact r.dom p (by rw [hEX p hp]; exact hp)
  have hapart : ∀ q pl p pl', E q ≠ .no → m q = some pl → h.at p ≠ .no → m p = some pl' → pl'.blk ≠ pl.blk := fun q pl p pl' hq hm hh hm' he => by
    have := r.sep p q pl' pl (by rw [hb.at hno hh]; exact hh) (by rw [hEX q hq]; exact hq) hm' hm he
    subst this
    exact hh (hno p hq)
  have hfr : ∀ q pl, E q ≠ .no → m q = some pl → w'.heap[pl.blk]? = w.heap[pl.blk]? := fun q pl hq hm => by
    obtain ⟨pl', h1, h2, _⟩ := hpm q hq
    rw [hm] at h1; cases h1
    exact e.frame pl.blk h2 fun p pl' hh hm' => hapart q pl p pl' hq hm (at_ne_of_tr hh) hm'
  have hatl : ∀ p, atList p h.fz ≠ .no → h.at p ≠ .no := fun p hp => by
    by_cases hc : h.tr.at p = .no
    · rw [Hp.at_fz hc]; exact hp
    · exact at_ne_of_tr hc
  have hno' : ∀ p, E p ≠ .no → h'.at p = .no := fun p hp => Classical.byContradiction fun hc => by
    obtain ⟨pl, h1, h2, _⟩ := hpm p hp
    have hm' := e.le _ _ h1
    by_cases htr' : h'.tr.at p = .no
    · rw [Hp.at_fz htr', e.fz] at hc
      exact hatl _ hc (hno p hp)
    · rcases e.own p pl htr' hm' with ⟨q, pl', h3, h4, h5⟩ | hge
      · exact hapart p pl q pl' hp h1 (at_ne_of_tr h3) h4 h5
      · omega
  have hge' : ∀ q pl p pl', E q ≠ .no → m' q = some pl → h'.at p ≠ .no → m' p = some pl' → pl'.blk ≠ pl.blk := fun q pl p pl' hq hm hh hm' he => by
    obtain ⟨pl0, h1, h2, _⟩ := hpm q hq
    have h9 := e.le _ _ h1
    rw [hm] at h9; cases h9
    by_cases hc : h'.tr.at p = .no
    · have h5 := hh
      rw [Hp.at_fz hc, e.fz] at h5
      have h6 := hatl p h5
      obtain ⟨pl2, h7, _⟩ := rh.dom p h6
      have := e.le _ _ h7
      rw [hm'] at this; cases this
      exact hapart q pl p pl' hq h1 h6 h7 he
    · rcases e.own p pl' hc hm' with ⟨q2, pl2, h3, h4, h5⟩ | hge
      · exact hapart q pl q2 pl2 hq h1 (at_ne_of_tr h3) h4 (h5.trans he)
      · omega
  have hat' : ∀ p, E p = .no → hX'.at p = h'.at p := fun p hp => Hp.at_ext hb'.fz (hb'.no p hp)
  refine ⟨⟨⟨fun p hp => e.rel.fresh p (by rw [← hb'.nx]; exact hp), fun p hp => ?_, fun p q pl pl' hp hq hmp hmq he => ?_, fun p hp => ?_, e.rel.glob⟩, e.le, e.os, e.tape, e.output, e.size, fun b hb1 hb2 => e.frame b hb1 fun p pl hp hm => hb2 p pl ?_ hm, fun p pl hp hm => ?_, ?_, ?_, fun p hp hm => e.low p (by rw [← hb.nx]; exact hp) hm⟩, hno'⟩
  · by_cases hE : E p = .no
    · rw [hat' p hE] at hp ⊢; exact e.rel.dom p hp
    · obtain ⟨pl, h4, h5, h6⟩ := hpm p hE
      refine ⟨pl, e.le _ _ h4, Nat.lt_of_lt_of_le h5 e.size, ?_⟩
      rw [hEX' p hE]
      exact h6.mono e.le (hfr p pl hE h4)
  · by_cases hE : E p = .no <;> by_cases hF : E q = .no
    · rw [hat' p hE] at hp; rw [hat' q hF] at hq
      exact e.rel.sep p q pl pl' hp hq hmp hmq he
    · rw [hat' p hE] at hp
      exact absurd he (hge' q pl' p pl hF hmq hp hmp)
    · rw [hat' q hF] at hq
      exact absurd he.symm (hge' p pl q pl' hE hmp hq hmq)
    · obtain ⟨p1, h1, _⟩ := hpm p hE
      obtain ⟨p2, h2, _⟩ := hpm q hF
      have e1 := e.le _ _ h1
      have e2 := e.le _ _ h2
      rw [hmp] at e1; rw [hmq] at e2; cases e1; cases e2
      exact r.sep p q pl pl' (by rw [hEX p hE]; exact hE) (by rw [hEX q hF]; exact hF) h1 h2 he
  · rw [hb'.fz]
    by_cases hE : E p = .no
    · rw [hb'.no p hE] at hp; exact e.rel.disj p hp
    · rw [e.fz]
      exact Classical.byContradiction fun hc => hatl p hc (hno p hE)
  · rw [hb.tr hno (at_ne_of_tr hp)]; exact hp
  · by_cases hE : E p = .no
    · rw [hb'.no p hE] at hp
      rcases e.own p pl hp hm with ⟨q, pl', h3, h4, h5⟩ | hge
      · exact .inl ⟨q, pl', by rw [hb.tr hno (at_ne_of_tr h3)]; exact h3, h4, h5⟩
      · exact .inr hge
    · obtain ⟨p1, h1, _⟩ := hpm p hE
      have e1 := e.le _ _ h1
      rw [hm] at e1; cases e1
      exact .inl ⟨p, pl, by rw [hb.yes p hE]; exact hE, h1, rfl⟩
  · rw [hb'.fz, hb.fz]; exact e.fz
  · rw [hb'.nx, hb.nx]; exact e.nx

end beside

/-- A block is laid under a name that was kept for it. -/
theorem Evo.lay {mI m : M} {hI h : Hp} {wI w w' : World} {b : Hi} {pl : Pl} {o : AObj} (e : Evo G ρ mI hI wI m h w) (hb : m b = none) (hlt : b.val < h.nx.val) (hge : hI.nx.val ≤ b.val) (hg : ∀ g, g < G.P.globals.size → hi g ≠ b) (hw : Adds w w') (hpl : pl.blk = w.heap.size) (ho : o ≠ .no)
    (hobj : ObjR G ρ (m.put b pl) pl w' o) : Evo G ρ mI hI wI (m.put b pl) ⟨h.tr.put o b, h.fz, h.nx⟩ w' := by
  have r := e.rel
  have hle : m.le (m.put b pl) := M.le_put hb
  have hno : h.at b = .no := Classical.byContradiction fun hc => by
    obtain ⟨pl, e⟩ := ne_no_of_dom r hc
    rw [hb] at e; cases e
  have htr : h.tr.at b = .no := Classical.byContradiction fun hc => at_ne_of_tr hc hno
  have hlt' : ∀ p pl', h.at p ≠ .no → m p = some pl' → pl'.blk < w.heap.size := fun p pl' hp hm => by
    obtain ⟨pa, h1, h2, _⟩ := r.dom p hp
    rw [hm] at h1; cases h1; exact h2
  have hat : ∀ p, b ≠ p → Hp.at ⟨h.tr.put o b, h.fz, h.nx⟩ p = h.at p := fun p e => Hp.at_put_other e
  refine ⟨⟨fun p hp => ?_, fun p hp => ?_, fun p q pa pb hp hq hmp hmq he => ?_, fun p hp => ?_, fun g hg' => ?_⟩, e.le.trans hle, hw.os.trans e.os, hw.tape.trans e.tape, hw.output.trans e.output, by have := e.size; have := hw.size; omega, fun k hk hn => by rw [hw.heap k (Nat.lt_of_lt_of_le hk e.size)]; exact e.frame k hk hn, fun p q hp hq => ?_, e.fz, e.nx, fun p hp hm => ?_⟩
  · have hne : b ≠ p := fun e => by rw [← e] at hp; simp only at hp; omega
    rw [M.put_other hne]; exact r.fresh p hp
  · by_cases e : b = p
    · subst e; exact ⟨pl, M.put_same _ _ _, by rw [hpl, hw.size]; omega, by rw [Hp.at_put_same ho]; exact hobj⟩
    · rw [hat p e] at hp ⊢
      obtain ⟨pa, h1, h2, h3⟩ := r.dom p hp
      exact ⟨pa, by rw [M.put_other e]; exact h1, by rw [hw.size]; omega, h3.mono hle (hw.heap _ h2)⟩
  · by_cases ep : b = p
    · by_cases eq : b = q
      · exact ep.symm.trans eq
      · exfalso
        subst ep
        rw [M.put_same] at hmp; cases hmp
        rw [M.put_other eq] at hmq
        rw [hat q eq] at hq
        have := hlt' q pb hq hmq
        omega
    · by_cases eq : b = q
      · exfalso
        subst eq
        rw [M.put_same] at hmq; cases hmq
        rw [M.put_other ep] at hmp
        rw [hat p ep] at hp
        have := hlt' p pa hp hmp
        omega
      · rw [M.put_other ep] at hmp; rw [M.put_other eq] at hmq
        rw [hat p ep] at hp; rw [hat q eq] at hq
        exact r.sep p q pa pb hp hq hmp hmq he
  · by_cases e : b = p
    · subst e
      have : h.at b = atList b h.fz := Hp.at_fz htr
      rw [hno] at this; exact this.symm
    · simp only [A2.at_put, e, if_false] at hp; exact r.disj p hp
  · obtain ⟨c, s, e1⟩ := r.glob g hg'
    exact ⟨c, s, by rw [M.put_other (hg g hg').symm]; exact e1⟩
  · by_cases e1 : b = p
    · subst e1; rw [M.put_same] at hq; cases hq; exact .inr (by have := e.size; omega)
    · simp only [A2.at_put, e1, if_false] at hp; rw [M.put_other e1] at hq; exact e.own p q hp hq
  · rw [M.put_other fun h => by rw [← h] at hp; omega]; exact e.low p hp hm

end

/-! ### The orders -/

theorem bits_fold {p : Edge → Bool} {g : Edge → Nat} {j : Nat} : ∀ {l : List Edge} {s0 : Nat}, (l.foldl (fun s e => if p e then s ||| 2 ^ e.on ||| g e else s) s0).testBit j = true →
    s0.testBit j = true ∨ ∃ e ∈ l, p e = true ∧ (e.on = j ∨ (g e).testBit j = true)
  | [], s0, h => .inl h
  | e :: l, s0, h => by
    rw [List.foldl_cons] at h
    rcases bits_fold h with h | ⟨e', h1, h2, h3⟩
    · by_cases hp : p e = true
      · rw [if_pos hp, Nat.testBit_or, Nat.testBit_or, Nat.testBit_two_pow] at h
        simp only [Bool.or_eq_true, decide_eq_true_eq] at h
        rcases h with (h | h) | h
        · exact .inl h
        · exact .inr ⟨e, by simp, hp, .inl h⟩
        · exact .inr ⟨e, by simp, hp, .inr h⟩
      · rw [if_neg hp] at h; exact .inl h
    · exact .inr ⟨e', by simp [h1], h2, h3⟩

def befStep (acc : Array Nat) (o : Oper) : Array Nat := acc.push (o.after.foldl (fun s e => if Region.binds .any e then s ||| 2 ^ e.on ||| acc.getD e.on 0 else s) 0)
theorem bef_size (l : List Oper) : (l.foldl befStep #[]).size = l.length := by
  have : ∀ (l : List Oper) (a : Array Nat), (l.foldl befStep a).size = a.size + l.length := by
    intro l
    induction l with
    | nil => simp
    | cons o l ih => intro a; rw [List.foldl_cons, ih]; simp [befStep]; omega
  simpa using this l #[]
theorem bef_list {j : Nat} : ∀ (n : Nat) (l : List Oper), l.length = n → ∀ i, ((l.foldl befStep #[]).getD i 0).testBit j = true → ∃ o, l[i]? = some o ∧ ∃ e ∈ o.after.toList, Region.binds .any e = true ∧ (e.on = j ∨ ((l.foldl befStep #[]).getD e.on 0).testBit j = true) := by
  intro n
  induction n with
  | zero =>
    intro l hl i h
    have : l = [] := List.length_eq_zero_iff.1 hl
    subst this
    simp at h
  | succ n ih =>
    intro l hl i h
    obtain ⟨l', o, rfl⟩ : ∃ l' o, l = l' ++ [o] := ⟨l.dropLast, l.getLast (by intro h; rw [h] at hl; cases hl), (List.dropLast_concat_getLast _).symm⟩
    have hl' : l'.length = n := by simpa using hl
    rw [List.foldl_append, List.foldl_cons, List.foldl_nil] at h ⊢
    have hsz := bef_size l'
    generalize hB : l'.foldl befStep #[] = B at h hsz ⊢
    have hpush : ∀ k v, k < l'.length → (B.push v).getD k 0 = B.getD k 0 := fun k v hk => by
      simp only [Array.getD_eq_getD_getElem?, Array.getElem?_push]
      rw [if_neg (by omega)]
    have hmono : ∀ k v, (B.getD k 0).testBit j = true → ((B.push v).getD k 0).testBit j = true := fun k v hk => by
      rcases Nat.lt_or_ge k l'.length with h1 | h1
      · rw [hpush k v h1]; exact hk
      · simp [Array.getD_eq_getD_getElem?, Array.getElem?_eq_none (show B.size ≤ k by omega)] at hk
    rcases Nat.lt_trichotomy i l'.length with hi | hi | hi
    · have h' : ((l'.foldl befStep #[]).getD i 0).testBit j = true := by
        rw [hB, ← hpush i _ hi]; exact h
      obtain ⟨o', h1, e, h2, h3, h4⟩ := ih l' hl' i h'
      refine ⟨o', by rw [List.getElem?_append_left hi]; exact h1, e, h2, h3, ?_⟩
      rcases h4 with h4 | h4
      · exact .inl h4
      · rw [hB] at h4; exact .inr (hmono _ _ h4)
    · subst hi
      have hv : (befStep B o).getD l'.length 0 = o.after.foldl (fun s e => if Region.binds .any e then s ||| 2 ^ e.on ||| B.getD e.on 0 else s) 0 := by
        simp only [befStep, Array.getD_eq_getD_getElem?, Array.getElem?_push, hsz, if_true, Option.getD_some]
      rw [hv, ← Array.foldl_toList] at h
      rcases bits_fold h with h | ⟨e, h1, h2, h3⟩
      · simp at h
      · refine ⟨o, by simp, e, h1, h2, ?_⟩
        rcases h3 with h3 | h3
        · exact .inl h3
        · exact .inr (hmono _ _ h3)
    · have : (befStep B o).getD i 0 = 0 := by
        simp only [befStep, Array.getD_eq_getD_getElem?, Array.getElem?_push]
        rw [if_neg (by omega), Array.getElem?_eq_none (by omega)]; rfl
      rw [this] at h; simp at h

theorem before_bits {ops : Array Oper} {i j : Nat} (h : ((Region.before ops).getD i 0).testBit j = true) : ∃ o, ops[i]? = some o ∧ ∃ e ∈ o.after.toList, Region.binds .any e = true ∧ (e.on = j ∨ ((Region.before ops).getD e.on 0).testBit j = true) := by
  have hb : Region.before ops = ops.toList.foldl befStep #[] := by
    rw [Array.foldl_toList]; rfl
  rw [hb] at h ⊢
  obtain ⟨o, h1, h2⟩ := bef_list _ ops.toList rfl i h
  exact ⟨o, by simpa using h1, h2⟩

/-- An order of what is left: 'X' is done. -/
inductive Sched (ops : Array Oper) : List Nat → List Nat → Prop
  | nil {X : List Nat} : (∀ i, i < ops.size → i ∈ X) → Sched ops X []
  | cons {X : List Nat} {i : Nat} {r : List Nat} : i < ops.size → i ∉ X → (∀ o e, ops[i]? = some o → e ∈ o.after.toList → Region.binds .any e = true → e.on ∈ X) → Sched ops (i :: X) r → Sched ops X (i :: r)

theorem nodup_le : ∀ (n : Nat) {X : List Nat}, X.Nodup → (∀ x ∈ X, x < n) → X.length ≤ n := by
  intro n
  induction n with
  | zero =>
    intro X _ hl
    cases X with
    | nil => simp
    | cons x r => have := hl x (by simp); omega
  | succ n ih =>
    intro X hd hl
    by_cases hmem : n ∈ X
    · have := ih (X := X.erase n) (hd.erase n) (fun x hx => by
        have h1 := (List.Nodup.mem_erase_iff hd).1 hx
        have := hl x h1.2
        have := h1.1
        omega)
      rw [List.length_erase_of_mem hmem] at this
      omega
    · have := ih hd (fun x hx => by
        have := hl x hx
        have hne : x ≠ n := fun h => hmem (h ▸ hx)
        omega)
      omega
theorem nodup_full {n : Nat} {X : List Nat} (hd : X.Nodup) (hl : ∀ x ∈ X, x < n) (hn : X.length = n) (i : Nat) (hi : i < n) : i ∈ X := by
  apply Classical.byContradiction
  intro hc
  have := nodup_le n (X := i :: X) (List.nodup_cons.2 ⟨hc, hd⟩) (fun x hx => by
    rcases List.mem_cons.1 hx with rfl | hx
    · exact hi
    · exact hl x hx)
  simp at this
  omega

theorem linearise_sched {ops : Array Oper} (hp : plainRegion ops = true) : ∀ (fuel t : Nat) (listed : Array Bool) (acc : List Nat), listed.size = ops.size → (∀ j, j < ops.size → (listed.getD j true = true ↔ j ∈ acc)) → acc.Nodup → (∀ x ∈ acc, x < ops.size) → fuel + acc.length = ops.size →
    ∃ σ, Region.linearise.go .any ops fuel t listed acc = acc.reverse ++ σ ∧ Sched ops acc σ := by
  have hplain : ∀ i o e, ops[i]? = some o → e ∈ o.after.toList → Region.binds .any e = true → e.on < i := fun i o e ho he hbe => by
    have hi : i < ops.size := by
      rcases Nat.lt_or_ge i ops.size with h | h
      · exact h
      · rw [Array.getElem?_eq_none h] at ho; cases ho
    have := List.all_eq_true.1 hp i (by simpa using hi)
    simp only [Bool.and_eq_true, ho] at this
    have := List.all_eq_true.1 this.2 e he
    simpa [hbe, Nat.blt_eq] using this
  intro fuel
  induction fuel with
  | zero =>
    intro t listed acc hsz hl hd hlt hn
    exact ⟨[], by simp [Region.linearise.go], .nil fun i hi => nodup_full hd hlt (by omega) i hi⟩
  | succ fuel ih =>
    intro t listed acc hsz hl hd hlt hn
    simp only [Region.linearise.go]
    generalize hrs : ((List.range ops.size).filter fun i => !listed.getD i true && ((ops[i]?).map (·.after.all fun e => !Region.binds .any e || listed.getD e.on false)).getD false) = rs
    have hmem : ∀ i, i ∈ rs ↔ i < ops.size ∧ i ∉ acc ∧ ∀ o e, ops[i]? = some o → e ∈ o.after.toList → Region.binds .any e = true → e.on ∈ acc := by
      intro i
      rw [← hrs]
      rw [List.mem_filter, List.mem_range, Bool.and_eq_true, Bool.not_eq_true']
      refine ⟨fun ⟨h1, h2, h3⟩ => ⟨h1, fun hc => (by rw [(hl i h1).2 hc] at h2; cases h2), fun o e ho he hbe => ?_⟩, fun ⟨h1, h2, h3⟩ => ⟨h1, ?_, ?_⟩⟩
      · rw [ho] at h3
        rw [Option.map_some, Option.getD_some, Array.all_eq_true'] at h3
        have h4 := h3 e (by simpa using he)
        rw [hbe] at h4
        have hlt' := hplain i o e ho he hbe
        have h5 : listed.getD e.on false = true := by simpa using h4
        refine (hl e.on (by omega)).1 ?_
        rw [Array.getD_eq_getD_getElem?] at h5 ⊢
        rw [Array.getElem?_eq_getElem (by omega)] at h5 ⊢
        exact h5
      · cases hg : listed.getD i true with
        | false => rfl
        | true => exact absurd ((hl i h1).1 hg) h2
      · obtain ⟨o, ho⟩ : ∃ o, ops[i]? = some o := ⟨_, Array.getElem?_eq_getElem h1⟩
        rw [ho, Option.map_some, Option.getD_some, Array.all_eq_true']
        intro e he
        have he : e ∈ o.after.toList := by simpa using he
        cases hbe : Region.binds .any e with
        | false => rfl
        | true =>
          have h4 := h3 o e ho he hbe
          have hlt' := hplain i o e ho he hbe
          have h5 := (hl e.on (by omega)).2 h4
          rw [Array.getD_eq_getD_getElem?, Array.getElem?_eq_getElem (by omega)] at h5
          rw [Array.getD_eq_getD_getElem?, Array.getElem?_eq_getElem (by omega)]
          simpa using h5
    cases hi : rs[t % rs.length]? with
    | none =>
      simp only []
      have hnil : rs = [] := by
        cases rs with
        | nil => rfl
        | cons x xs =>
          have hlt : t % (x :: xs).length < (x :: xs).length := Nat.mod_lt _ (by simp)
          rw [List.getElem?_eq_getElem hlt] at hi; cases hi
      refine ⟨[], by simp, .nil fun i => ?_⟩
      induction i using Nat.strongRecOn with
      | _ i ih2 =>
        intro hi2
        apply Classical.byContradiction
        intro hc
        have : i ∈ rs := (hmem i).2 ⟨hi2, hc, fun o e ho he hbe => by
          have := hplain i o e ho he hbe
          exact ih2 e.on this (by omega)⟩
        rw [hnil] at this; cases this
    | some i =>
      simp only []
      obtain ⟨h1, h2, h3⟩ := (hmem i).1 (List.mem_of_getElem? hi)
      obtain ⟨σ, h4, h5⟩ := ih (t / rs.length) (listed.setIfInBounds i true) (i :: acc) (by simpa using hsz) (fun j hj => by
        by_cases hji : j = i
        · subst hji
          simp [Array.getD_eq_getD_getElem?, hsz, hj]
        · rw [Array.getD_eq_getD_getElem?, Array.getElem?_setIfInBounds_ne (fun h => hji h.symm), ← Array.getD_eq_getD_getElem?, hl j hj]
          simp [hji]) (List.nodup_cons.2 ⟨h2, hd⟩) (fun x hx => by
        rcases List.mem_cons.1 hx with rfl | hx
        · exact h1
        · exact hlt x hx) (by simp; omega)
      exact ⟨i :: σ, by rw [h4]; simp, .cons h1 h2 h3 h5⟩

/-- What is done holds whatever it waits for. -/
def Shut (ops : Array Oper) (X : List Nat) : Prop := ∀ x ∈ X, ∀ j, ((Region.before ops).getD x 0).testBit j = true → j ∈ X

theorem Sched.bits {ops : Array Oper} {X : List Nat} {i : Nat} {r : List Nat} (hs : Sched ops X (i :: r)) (hX : Shut ops X) : (∀ j, ((Region.before ops).getD i 0).testBit j = true → j ∈ X) ∧ Shut ops (i :: X) := by
  cases hs with
  | cons h1 h2 h3 h4 =>
    have key : ∀ j, ((Region.before ops).getD i 0).testBit j = true → j ∈ X := fun j hj => by
      obtain ⟨o, ho, e, he, hbe, h5⟩ := before_bits hj
      have h6 := h3 o e ho he hbe
      rcases h5 with h5 | h5
      · exact h5 ▸ h6
      · exact hX _ h6 j h5
    refine ⟨key, fun x hx j hj => ?_⟩
    rcases List.mem_cons.1 hx with rfl | hx
    · exact List.mem_cons_of_mem _ (key j hj)
    · exact List.mem_cons_of_mem _ (hX x hx j hj)

end Go.Proofs.YtpngpoeifgkclaaGreatDoor.Am

/- Operations of a region that draws its order, one at a time. -/
namespace Go.Proofs.YtpngpoeifgkclaaGreatDoor.Am

/-! ### The form of an operation -/

/-- An operation that makes a block: what it asks for. -/
noncomputable def AOp.askN : AOp → List AV → VT → (Option (AObj × (Hi → AV)) → Res) → Res
  | .n _ e => fun L T k => e.ev L T fun ob mk => k (some (ob, mk))
  | .grd g want _ o => fun L T k => evO g L T fun v => v.onGrd (fun b => wantK b want (o.askN L T k) (k none)) (k none)
  | _ => fun _ _ _ => .bad

theorem AOp.askN_det (a : AOp) (L : List AV) (T : VT) : Det (a.askN L T) := by
  cases a with
  | n d e => exact Det.bind (g := fun x (k : Option (AObj × (Hi → AV)) → Res) => k (some x)) (NO.det L T e) fun x => Det.pure (some x)
  | grd g want d o =>
    show Det (fun k => evO g L T fun v => v.onGrd (fun b => wantK b want (o.askN L T k) (k none)) (k none))
    refine Det.bind (evO_det g L T) fun v => onGrd_det (fun b => ?_) (Det.pure _)
    have ih := AOp.askN_det o L T
    cases b <;> cases want <;> first | exact ih | exact Det.pure _
  | _ => exact Det.bad
theorem AOp.askN_ag {L L' : List AV} {T T' : VT} (a : AOp) (H : ∀ x ∈ a.opds, Ag L T L' T' x) : a.askN L T = a.askN L' T' := by
  cases a with
  | n d e =>
    have := NO.ag e H
    funext k
    show e.ev L T (fun ob mk => k (some (ob, mk))) = e.ev L' T' (fun ob mk => k (some (ob, mk)))
    rw [this]
  | grd g want d o =>
    have h1 : evO g L T = evO g L' T' := H g (by simp [AOp.opds])
    have h2 := AOp.askN_ag o fun x hx => H x (by simp [AOp.opds, hx])
    funext k
    show evO g L T (fun v => v.onGrd (fun b => wantK b want (o.askN L T k) (k none)) (k none)) = evO g L' T' (fun v => v.onGrd (fun b => wantK b want (o.askN L' T' k) (k none)) (k none))
    rw [h1, h2]
  | _ => rfl

section
variable (G : Gp) (ρ : Rho) (c : Cx) (ops : Array Oper) (ds : List Nat) (o : Oper)

inductive OpForm : AOp → Prop
  | bare {d : Dst} {x : AOp} : c.dst o = some d → AOpOk G ρ c ds d o.op x → o.guard = none → OpForm x
  | grd {d : Dst} {x : AOp} {g : Nat} {want : Bool} {og : Oper} {t : Nat} {x' : Opd} : c.dst o = some d → AOpOk G ρ c ds d o.op x → o.guard = some (g, want) → ops[g]? = some og → og.dst = some t → c.opd ds (.tmp t) = some x' → OpForm (.grd x' want d x)

variable {G ρ c ops ds o}

theorem op_form (hcP : c.P = G.P) {a : AOp} {ds1 : List Nat} (hx : c.op ops ds o = some (a, ds1)) : ds1 = dsOf o ds ∧ OpForm G ρ c ops ds o a := by
  unfold Cx.op at hx
  split at hx
  · cases hx
  · rename_i d hd
    split at hx
    · cases hx
    · rename_i x0 hx0
      have hcore := core_ok (ρ := ρ) hcP hx0
      have hx : (match o.guard with
        | none => some (x0, dsOf o ds)
        | some (g, want) => match ops[g]? with
          | some og => match og.dst with
            | some t => match c.opd ds (.tmp t) with
              | some x => some (AOp.grd x want d x0, dsOf o ds)
              | none => none
            | none => none
          | none => none) = some (a, ds1) := hx
      split at hx
      · rename_i hgd
        simp only [Option.some.injEq, Prod.mk.injEq] at hx
        obtain ⟨rfl, rfl⟩ := hx
        exact ⟨rfl, .bare hd hcore hgd⟩
      · rename_i g want hgd
        split at hx
        · rename_i og hog
          split at hx
          · rename_i t ht
            split at hx
            · rename_i x' hx'
              simp only [Option.some.injEq, Prod.mk.injEq] at hx
              obtain ⟨rfl, rfl⟩ := hx
              exact ⟨rfl, .grd hd hcore hgd hog ht hx'⟩
            · cases hx
          · cases hx
        · cases hx

theorem AOpOk.dst {d : Dst} {x : AOp} (h : AOpOk G ρ c ds d o.op x) : x.dst = d := by
  cases x with
  | v d' vo => exact h.1
  | n d' no => exact h.1
  | s so => exact h.1.symm
  | x d' xo => exact h.1
  | call d' f args => exact h.1
  | callf d' p args => exact h.1
  | dfr f args => exact h.1.symm
  | pnc x' => exact h.1.symm
  | rcv d' => exact h.1
  | grd _ _ _ _ => exact h.elim

theorem OpForm.dst {a : AOp} (h : OpForm G ρ c ops ds o a) : c.dst o = some a.dst := by
  cases h with
  | bare hd hx _ => rw [hx.dst]; exact hd
  | grd hd _ _ _ _ _ => exact hd

end

section
variable {A : Aim} {c : Cx} {ops : Array Oper} {i : Nat} {rest : List Nat} {o : Oper} {ds : List Nat} {a : AOp} {b : Fb} {act : Act} {k : List Item} {cs : List Frame}

/-- A quiet operation that makes no block, in a frame. -/
theorem quiet_step (hcP : c.P = A.G.P) (ho : ops[i]? = some o) (hf : OpForm A.G A.ρ c ops ds o a) (hq : a.quiet = true) (hn : a.news = false) {m : M} {h : Hp} {w : World} {L : List AV} {T : VT} (r : Rel A.G A.ρ m h w) (env : Env c m ds L T act.tmps A.G A.ρ) {v : AV}
    (hask : ∀ k, a.ask L T h k = k v) : ∃ u, VR A.ρ m v u ∧ step A.G.P (lone (b.at act (.inRegion ops (i :: rest) :: k)) cs w) = .next (lone (b.at (act.put o.dst u) (.inRegion ops rest :: k)) cs w) := by
  classical
  let k0 : AV → Res := fun x => if x = v then .ok (.ret .no) ⟨A2.none, [], hi 0⟩ else .bad
  have hk0 : ∀ x, k0 x = .ok (.ret .no) ⟨A2.none, [], hi 0⟩ → x = v := fun x hx => by
    by_cases hv : x = v
    · exact hv
    · simp only [k0, hv, if_false] at hx; cases hx
  have hv0 : k0 v = .ok (.ret .no) ⟨A2.none, [], hi 0⟩ := by simp [k0]
  have h0 : a.ask L T h k0 = .ok (.ret .no) ⟨A2.none, [], hi 0⟩ := (hask k0).trans hv0
  have core : ∀ {d : Dst} {x : AOp}, AOpOk A.G A.ρ c ds d o.op x → x.quiet = true → x.news = false → Region.wanted o (yielded ops act.tmps) = true → x.ask L T h k0 = .ok (.ret .no) ⟨A2.none, [], hi 0⟩ →
      ∃ u, VR A.ρ m v u ∧ step A.G.P (lone (b.at act (.inRegion ops (i :: rest) :: k)) cs w) = .next (lone (b.at (act.put o.dst u) (.inRegion ops rest :: k)) cs w) := by
    intro d x hx hq hn hw hx0
    cases x with
    | v d' vo =>
      obtain ⟨av, u, q1, q2, q3⟩ := hx.2 r env _ _ _ (show vo.ev L T h k0 = _ from hx0)
      obtain rfl := hk0 _ q2
      exact ⟨u, q1, stp_value ho hw (.inr (not_defer (q3 o rfl) (by simp))) (q3 o rfl)⟩
    | n d' no => cases hn
    | grd _ _ _ _ => exact hx.elim
    | _ => cases hq
  cases hf with
  | bare hd hx hg => exact core hx hq hn (by simp [Region.wanted, hg]) h0
  | grd hd hx hg hog ht hx' =>
    rename_i d x g want og t x'
    obtain ⟨av, hv, e1⟩ := opd_sound hcP r env hx' (show evO x' L T (fun gv => gv.onGrd (fun b => wantK b want (x.ask L T h k0) (k0 (.tup []))) (k0 (.tup []))) = _ from h0)
    have hy := tmp_yield (tmps := act.tmps) hog ht
    have hv : VR A.ρ m av (act.tmps.getD t undef) := hv
    have hwd : Region.wanted o (yielded ops act.tmps) = (yielded ops act.tmps g == some want) := by simp only [Region.wanted, hg]
    have hskip : Region.wanted o (yielded ops act.tmps) = false → k0 (.tup []) = .ok (.ret .no) ⟨A2.none, [], hi 0⟩ → ∃ u, VR A.ρ m v u ∧ step A.G.P (lone (b.at act (.inRegion ops (i :: rest) :: k)) cs w) = .next (lone (b.at (act.put o.dst u) (.inRegion ops rest :: k)) cs w) := fun hw e2 => by
      have hs := stp_op_skip (P := A.G.P) (b := b) (a := act) (k := k) (cs := cs) (w := w) (ops := ops) (i := i) (rest := rest) (by rw [ho]; exact hw)
      rw [ho] at hs
      rw [← hk0 _ e2]
      exact ⟨undef, ⟨#[], rfl, rfl⟩, hs⟩
    rcases AV.onGrd_inv e1 with ⟨bb, rfl, e2⟩ | ⟨rfl, e2⟩
    · have hv : act.tmps.getD t undef = .bool bb := hv
      rw [hv] at hy
      have hyy : yielded ops act.tmps g = some bb := hy
      rw [hyy] at hwd
      cases bb <;> cases want
      · exact core hx hq hn (by rw [hwd]; rfl) e2
      · exact hskip (by rw [hwd]; rfl) e2
      · exact hskip (by rw [hwd]; rfl) e2
      · exact core hx hq hn (by rw [hwd]; rfl) e2
    · obtain ⟨xs, hv, hxs⟩ := hv
      rw [hv] at hy
      have hyy : yielded ops act.tmps g = none := hy
      rw [hyy] at hwd
      exact hskip (by rw [hwd]; cases want <;> rfl) e2

/-- A quiet operation that makes a block. -/
theorem news_step (hcP : c.P = A.G.P) (ho : ops[i]? = some o) (hf : OpForm A.G A.ρ c ops ds o a) (hn : a.news = true) {m : M} {h : Hp} {w : World} {L : List AV} {T : VT} (r : Rel A.G A.ρ m h w) (env : Env c m ds L T act.tmps A.G A.ρ) {res : Option (AObj × (Hi → AV))}
    (hask : ∀ k, a.askN L T k = k res) :
    (res = none ∧ step A.G.P (lone (b.at act (.inRegion ops (i :: rest) :: k)) cs w) = .next (lone (b.at (act.put o.dst undef) (.inRegion ops rest :: k)) cs w)) ∨
    ∃ ob mk, res = some (ob, mk) ∧ ob ≠ AObj.no ∧ ∃ w' u pl, step A.G.P (lone (b.at act (.inRegion ops (i :: rest) :: k)) cs w) = .next (lone (b.at (act.put o.dst u) (.inRegion ops rest :: k)) cs w') ∧ Adds w w' ∧ pl.blk = w.heap.size ∧
      ∀ m' : M, m.le m' → (∀ b, m' b = some pl → VR A.ρ m' (mk b) u) ∧ ObjR A.G A.ρ m' pl w' ob := by
  classical
  let k0 : Option (AObj × (Hi → AV)) → Res := fun x => if x = res then .ok (.ret .no) ⟨A2.none, [], hi 0⟩ else .bad
  have hk0 : ∀ x, k0 x = .ok (.ret .no) ⟨A2.none, [], hi 0⟩ → x = res := fun x hx => by
    by_cases hv : x = res
    · exact hv
    · simp only [k0, hv, if_false] at hx; cases hx
  have hv0 : k0 res = .ok (.ret .no) ⟨A2.none, [], hi 0⟩ := by simp [k0]
  have h0 : a.askN L T k0 = .ok (.ret .no) ⟨A2.none, [], hi 0⟩ := (hask k0).trans hv0
  have core : ∀ {d : Dst} {x : AOp}, AOpOk A.G A.ρ c ds d o.op x → x.news = true → Region.wanted o (yielded ops act.tmps) = true → x.askN L T k0 = .ok (.ret .no) ⟨A2.none, [], hi 0⟩ →
      ∃ ob mk, res = some (ob, mk) ∧ ob ≠ AObj.no ∧ ∃ w' u pl, step A.G.P (lone (b.at act (.inRegion ops (i :: rest) :: k)) cs w) = .next (lone (b.at (act.put o.dst u) (.inRegion ops rest :: k)) cs w') ∧ Adds w w' ∧ pl.blk = w.heap.size ∧
      ∀ m' : M, m.le m' → (∀ b, m' b = some pl → VR A.ρ m' (mk b) u) ∧ ObjR A.G A.ρ m' pl w' ob := by
    intro d x hx hn hw hx0
    cases x with
    | n d' no =>
      obtain ⟨ob, mk, q1, q2, q3⟩ := hx.2 r env _ _ _ (show no.ev L T (fun ob mk => k0 (some (ob, mk))) = _ from hx0)
      obtain ⟨w', u, pl, q4, q5, q6, q7⟩ := q3 w o rfl
      exact ⟨ob, mk, (hk0 _ q2).symm, q1, w', u, pl, stp_value ho hw (.inr (not_defer q4 (by simp))) q4, q5, q6, q7⟩
    | grd _ _ _ _ => exact hx.elim
    | _ => cases hn
  cases hf with
  | bare hd hx hg => exact .inr (core hx hn (by simp [Region.wanted, hg]) h0)
  | grd hd hx hg hog ht hx' =>
    rename_i d x g want og t x'
    obtain ⟨av, hv, e1⟩ := opd_sound hcP r env hx' (show evO x' L T (fun gv => gv.onGrd (fun b => wantK b want (x.askN L T k0) (k0 none)) (k0 none)) = _ from h0)
    have hy := tmp_yield (tmps := act.tmps) hog ht
    have hv : VR A.ρ m av (act.tmps.getD t undef) := hv
    have hwd : Region.wanted o (yielded ops act.tmps) = (yielded ops act.tmps g == some want) := by simp only [Region.wanted, hg]
    have hskip : Region.wanted o (yielded ops act.tmps) = false → k0 none = .ok (.ret .no) ⟨A2.none, [], hi 0⟩ → (res = none ∧ step A.G.P (lone (b.at act (.inRegion ops (i :: rest) :: k)) cs w) = .next (lone (b.at (act.put o.dst undef) (.inRegion ops rest :: k)) cs w)) := fun hw e2 => by
      have hs := stp_op_skip (P := A.G.P) (b := b) (a := act) (k := k) (cs := cs) (w := w) (ops := ops) (i := i) (rest := rest) (by rw [ho]; exact hw)
      rw [ho] at hs
      exact ⟨(hk0 _ e2).symm, hs⟩
    rcases AV.onGrd_inv e1 with ⟨bb, rfl, e2⟩ | ⟨rfl, e2⟩
    · have hv : act.tmps.getD t undef = .bool bb := hv
      rw [hv] at hy
      have hyy : yielded ops act.tmps g = some bb := hy
      rw [hyy] at hwd
      cases bb <;> cases want
      · exact .inr (core hx hn (by rw [hwd]; rfl) e2)
      · exact .inl (hskip (by rw [hwd]; rfl) e2)
      · exact .inl (hskip (by rw [hwd]; rfl) e2)
      · exact .inr (core hx hn (by rw [hwd]; rfl) e2)
    · obtain ⟨xs, hv, hxs⟩ := hv
      rw [hv] at hy
      have hyy : yielded ops act.tmps g = none := hy
      rw [hyy] at hwd
      exact .inl (hskip (by rw [hwd]; cases want <;> rfl) e2)

/-- An operation with an effect, in a frame. -/
theorem loud_step (hcP : c.P = A.G.P) (ho : ops[i]? = some o) (hf : OpForm A.G A.ρ c ops ds o a) (hl : a.loud = true) {r : OpF} {m0 : M} {base : List Frame} {cb : Cb} {kn : Kn} (hcb : CbOk A m0 c b base cb)
    {m : M} {h : Hp} {w : World} {par : Par} {L : List AV} {T : VT} {D : List AD} (hm : m0.le m) (hrun : Run0 A c b base ds m h w par L T D act cs) (he : a.sh r cb par L T D h kn = .ok A.o A.h')
    (hgo : ∀ m' h1 w' av u, Evo A.G A.ρ m h w m' h1 w' → VR A.ρ m' av u → putD a.dst av L T (fun L T => r cb par L T D h1 kn) = .ok A.o A.h' → Reach A.G.P A.F (lone (b.at (act.put o.dst u) (.inRegion ops rest :: k)) cs w')) :
    Reach A.G.P A.F (lone (b.at act (.inRegion ops (i :: rest) :: k)) cs w) := by
  have core : ∀ {d : Dst} {x : AOp}, c.dst o = some d → AOpOk A.G A.ρ c ds d o.op x → a.dst = d → x.loud = true → Region.wanted o (yielded ops act.tmps) = true → x.sh r cb par L T D h kn = .ok A.o A.h' →
      Reach A.G.P A.F (lone (b.at act (.inRegion ops (i :: rest) :: k)) cs w) := by
    intro d x hd hx had hxl hw he
    rw [had] at hgo
    have hback : ∀ {nx : Next}, (execOp (ev act.tmps) o).run A.G.P w = .ok nx w → Goes A nx (b.at act (.inRegion ops (i :: rest) :: k)) cs w → (b.roundOf = none ∨ ∀ c, o.op ≠ .defer c) → Reach A.G.P A.F (lone (b.at act (.inRegion ops (i :: rest) :: k)) cs w) := by
      intro nx hrunx hg hnd
      cases nx <;> first | exact hg.elim | skip
      · exact Reach.head (stp_enter ho hw hnd hrunx) hg
      · exact Reach.head (stp_round ho hw hnd hrunx) hg
    let I : Inst A.G := ⟨m, h, w, A.F, A.o, A.h', A.gi.evo hrun.evo⟩
    have hbk : BkOk (A.to I) m (backK d r cb par L T D kn) (b.at act (.inRegion ops (i :: rest) :: k)) cs := by
      intro m' h1 w' par' hm' ev'
      refine ⟨fun av v hv hk => ?_, fun ch chain hch hk => ?_⟩
      · have hfin : (b.at act (.inRegion ops (i :: rest) :: k)).finish v = b.at (act.put o.dst v) (.inRegion ops rest :: k) := by rw [Fb.finish_at, ho]; rfl
        rw [hfin]
        exact hgo m' h1 w' av v ev' hv hk
      · exact hcb.pan m' h1 w' par L T D act cs ch chain _ (hm.trans hm') ⟨hrun.evo.trans ev', ⟨LR.nil, (hrun.env.mono hm').tr⟩, hrun.def'.mono hm', hrun.cs'.mono hm'⟩ hch hk
    have evI : Evo (A.to I).G (A.to I).ρ (A.to I).mI (A.to I).hI (A.to I).wI m h w := Evo.refl hrun.evo.rel
    cases x with
    | s so =>
      obtain ⟨rfl, hso⟩ := hx
      obtain ⟨h1, w1, q1, q2, _, q3⟩ := hso hrun.evo.rel hrun.env _ _ _ (show so.ev L T h (fun h => r cb par L T D h kn) = .ok A.o A.h' from he)
      have q3 := q3 o rfl
      exact Reach.head (stp_skipv ho hw (.inr (not_defer q3 (by simp))) q3) (hgo m h1 w1 .no undef q2 trivial q1)
    | x d' xo =>
      obtain ⟨rfl, hxo⟩ := hx
      obtain ⟨av, h1, m1, w1, v, q1, q2, q3, q4⟩ := hxo hrun.evo.rel hrun.env _ _ _ (show xo.ev L T h (fun v h => putD d' v L T fun L T => r cb par L T D h kn) = .ok A.o A.h' from he)
      have q4 := q4 o rfl
      exact Reach.head (stp_value ho hw (.inr (not_defer q4 (by simp))) q4) (hgo m1 h1 w1 av v q2 q3 q1)
    | call d' f args =>
      obtain ⟨rfl, kc, x, hop, hk, hf, hargs⟩ := hx
      obtain ⟨av, hv, e1⟩ := opd_sound hcP hrun.evo.rel hrun.env hf (show evO f L T (fun f => evOs args L T fun as => f.onFunc fun f fs ca => appK fs as fun as => cb.app f as ca h (backK d' r cb par L T D kn)) = .ok A.o A.h' from he)
      obtain ⟨as, hvs, e2⟩ := opds_sound hcP hrun.evo.rel hrun.env hargs e1
      obtain ⟨fn, fs, ca, rfl, e3⟩ := AV.onFunc_inv e2
      have e4 := appK_inv e3
      obtain ⟨fv, fa, cv, hv, hfr, hfs, hca⟩ := hv
      obtain ⟨nx, q1, q2⟩ := hcb.app I m h w fn fv _ _ ca _ _ _ cs evI hfr (hfs.append hvs) hca hbk e4
      have hrunx : (execOp (ev act.tmps) o).run A.G.P w = .ok nx w := by
        rw [← q1]
        simp only [execOp, hop, resolve, hk, hv, Deferred.ofValue, Sem.run_bind, Sem.run_pure, Result.andThen_ok]
        congr 2
        apply Array.ext'
        simp
      exact hback hrunx q2 (.inr fun c hc => by rw [hop] at hc; cases hc)
    | callf d' p args =>
      obtain ⟨rfl, kc, f, fn, hop, hk, hf, hname, hbody, rfl, hlt, hargs⟩ := hx
      obtain ⟨as, hvs, e2⟩ := opds_sound hcP hrun.evo.rel hrun.env hargs (show evOs args L T (fun as => cb.call (hi f) as h (backK d' r cb par L T D kn)) = .ok A.o A.h' from he)
      rw [hcP] at hf
      have hrunx : (execOp (ev act.tmps) o).run A.G.P w = .ok (.enter f (kc.args.map (ev act.tmps))) w := by
        simp only [execOp, hop, resolve, hk, ev, Deferred.ofValue, Sem.run_bind, Sem.run_pure, Result.andThen_ok, invoke, Array.append_empty, Array.empty_append]
        exact run_callFunc_body hf hname hbody _ w
      refine hback hrunx ?_ (.inr fun c hc => by rw [hop] at hc; cases hc)
      have := hcb.call I m h w (hi f) fn as _ _ _ cs evI (by rw [hi_val hlt]; exact hf) hvs hbk e2
      rw [hi_val hlt] at this
      rw [show kc.args.map (ev act.tmps) = (kc.args.toList.map (ev act.tmps)).toArray from by apply Array.ext'; simp]
      exact this
    | grd _ _ _ _ => exact hx.elim
    | _ => cases hxl
  cases hf with
  | bare hd hx hg => exact core hd hx hx.dst hl (by simp [Region.wanted, hg]) he
  | grd hd hx hg hog ht hx' =>
    rename_i d x g want og t x'
    obtain ⟨av, hv, e1⟩ := opd_sound hcP hrun.evo.rel hrun.env hx' (show evO x' L T (fun v => v.onGrd (fun b => wantK b want (x.sh r cb par L T D h kn) (putD d (.tup []) L T fun L T => r cb par L T D h kn)) (putD d (.tup []) L T fun L T => r cb par L T D h kn)) = .ok A.o A.h' from he)
    have hy := tmp_yield (tmps := act.tmps) hog ht
    have hv : VR A.ρ m av (act.tmps.getD t undef) := hv
    have hwd : Region.wanted o (yielded ops act.tmps) = (yielded ops act.tmps g == some want) := by simp only [Region.wanted, hg]
    have hskip : Region.wanted o (yielded ops act.tmps) = false → putD d (.tup []) L T (fun L T => r cb par L T D h kn) = .ok A.o A.h' → Reach A.G.P A.F (lone (b.at act (.inRegion ops (i :: rest) :: k)) cs w) := fun hw e2 => by
      have hs := stp_op_skip (P := A.G.P) (b := b) (a := act) (k := k) (cs := cs) (w := w) (ops := ops) (i := i) (rest := rest) (by rw [ho]; exact hw)
      rw [ho] at hs
      exact Reach.head hs (hgo m h w (.tup []) undef (Evo.refl hrun.evo.rel) ⟨#[], rfl, rfl⟩ e2)
    rcases AV.onGrd_inv e1 with ⟨bb, rfl, e2⟩ | ⟨rfl, e2⟩
    · have hv : act.tmps.getD t undef = .bool bb := hv
      rw [hv] at hy
      have hyy : yielded ops act.tmps g = some bb := hy
      rw [hyy] at hwd
      cases bb <;> cases want
      · exact core hd hx rfl hl (by rw [hwd]; rfl) e2
      · exact hskip (by rw [hwd]; rfl) e2
      · exact hskip (by rw [hwd]; rfl) e2
      · exact core hd hx rfl hl (by rw [hwd]; rfl) e2
    · obtain ⟨xs, hv, hxs⟩ := hv
      rw [hv] at hy
      have hyy : yielded ops act.tmps g = none := hy
      rw [hyy] at hwd
      exact hskip (by rw [hwd]; cases want <;> rfl) e2

end

/-! ### The same operation over other tables -/

noncomputable def fixR (d : Dst) (L : List AV) (T : VT) (r : OpF) : OpF := fun cb par L2 _ D h kn =>
  match d with
  | .no => r cb par L T D h kn
  | .lo => r cb par (L2.headD .no :: L) T D h kn
  | .ke p => r cb par (L2.headD .no :: L) (T.put (L2.headD .no) p) D h kn

section
variable {L L' : List AV} {T T' : VT} {r : OpF} {cb : Cb} {par : Par} {D : List AD} {kn : Kn}

theorem fix_putD (d : Dst) (v : AV) (h : Hp) : putD d v L' T' (fun L2 T2 => fixR d L T r cb par L2 T2 D h kn) = putD d v L T (fun L T => r cb par L T D h kn) := by
  cases d with
  | no => rfl
  | lo => rfl
  | ke p =>
    show setV p T' v (fun T2 => fixR (.ke p) L T r cb par (v :: L') T2 D h kn) = setV p T v (fun T => r cb par (v :: L) T D h kn)
    rw [setV_eq, setV_eq]; rfl

theorem back_ag (d : Dst) (hpan : cb.pan = fun _ _ _ _ _ _ => .bad) : backK d (fixR d L T r) cb par L' T' D kn = backK d r cb par L T D kn := by
  funext out p h
  cases out with
  | ret v => exact fix_putD d v h
  | pan c => show cb.pan par c L' T' D h = cb.pan par c L T D h; rw [hpan]
  | stop _ _ => rfl

theorem loud_ag0 {x : AOp} (hl : x.loud = true) (hng : ∀ g w d o, x ≠ .grd g w d o) (hpan : cb.pan = fun _ _ _ _ _ _ => .bad) (h : Hp) (H : ∀ y ∈ x.opds, Ag L T L' T' y) : x.sh (fixR x.dst L T r) cb par L' T' D h kn = x.sh r cb par L T D h kn := by
  cases x with
  | s so =>
    have := SO.ag so h H
    show so.ev L' T' h (fun h => fixR .no L T r cb par L' T' D h kn) = so.ev L T h (fun h => r cb par L T D h kn)
    rw [this]; rfl
  | x d xo =>
    have := XO.ag xo h H
    show xo.ev L' T' h (fun v h => putD d v L' T' fun L2 T2 => fixR d L T r cb par L2 T2 D h kn) = xo.ev L T h (fun v h => putD d v L T fun L T => r cb par L T D h kn)
    rw [this]
    congr 1
    funext v h
    exact fix_putD d v h
  | call d f args =>
    have h1 : evO f L T = evO f L' T' := H f (by simp [AOp.opds])
    have h2 := evOs_ag (xs := args) fun y hy => H y (by simp [AOp.opds, hy])
    show evO f L' T' (fun f => evOs args L' T' fun as => f.onFunc fun f fs ca => appK fs as fun as => cb.app f as ca h (backK d (fixR d L T r) cb par L' T' D kn)) = evO f L T (fun f => evOs args L T fun as => f.onFunc fun f fs ca => appK fs as fun as => cb.app f as ca h (backK d r cb par L T D kn))
    rw [back_ag d hpan, h1, h2]
  | callf d p args =>
    have h2 := evOs_ag (xs := args) fun y hy => H y (by simp [AOp.opds, hy])
    show evOs args L' T' (fun as => cb.call p as h (backK d (fixR d L T r) cb par L' T' D kn)) = evOs args L T (fun as => cb.call p as h (backK d r cb par L T D kn))
    rw [back_ag d hpan, h2]
  | grd g w d o => exact absurd rfl (hng g w d o)
  | _ => cases hl

theorem loud_ag {G : Gp} {ρ : Rho} {c : Cx} {ops : Array Oper} {ds : List Nat} {o : Oper} {a : AOp} (hf : OpForm G ρ c ops ds o a) (hl : a.loud = true) (hpan : cb.pan = fun _ _ _ _ _ _ => .bad) (h : Hp) (H : ∀ y ∈ a.opds, Ag L T L' T' y) :
    a.sh (fixR a.dst L T r) cb par L' T' D h kn = a.sh r cb par L T D h kn := by
  have hng : ∀ {d : Dst} {x : AOp}, AOpOk G ρ c ds d o.op x → ∀ g w d o, x ≠ .grd g w d o := fun hx g w d o he => by subst he; exact hx.elim
  cases hf with
  | bare hd hx _ => exact loud_ag0 hl (hng hx) hpan h H
  | grd hd hx hg hog ht hx' =>
    rename_i d x g want og t x'
    have h1 : evO x' L T = evO x' L' T' := H x' (by simp [AOp.opds])
    have h2 := loud_ag0 (r := r) (par := par) (D := D) (kn := kn) (show x.loud = true from hl) (hng hx) hpan h fun y hy => H y (by simp [AOp.opds, hy])
    rw [hx.dst] at h2
    show evO x' L' T' (fun v => v.onGrd (fun b => wantK b want (x.sh (fixR d L T r) cb par L' T' D h kn) (putD d (.tup []) L' T' fun L2 T2 => fixR d L T r cb par L2 T2 D h kn)) (putD d (.tup []) L' T' fun L2 T2 => fixR d L T r cb par L2 T2 D h kn)) =
      evO x' L T (fun v => v.onGrd (fun b => wantK b want (x.sh r cb par L T D h kn) (putD d (.tup []) L T fun L T => r cb par L T D h kn)) (putD d (.tup []) L T fun L T => r cb par L T D h kn))
    rw [h1, h2, fix_putD]

/-- What a block's operation does in the machine. -/
theorem shN_inv {G : Gp} {ρ : Rho} {c : Cx} {ops : Array Oper} {ds : List Nat} {o : Oper} {a : AOp} (hf : OpForm G ρ c ops ds o a) (hn : a.news = true) {r : DF} {h : Hp} {S : List Snap} {P : List (Nat × Pend)} {out : AOut} {h' : Hp}
    (e : a.shN r cb par L T D h S P kn = .ok out h') : ∃ res, (∀ k, a.askN L T k = k res) ∧
      ((res = none ∧ putD a.dst (.tup []) L T (fun L' T' => r cb par L' T' D h (⟨.tup [], [], fun _ _ => .bad⟩ :: S) P kn) = .ok out h') ∨
       ∃ ob mk nx', res = some (ob, mk) ∧ nx'.val = h.nx.val + 1 ∧ putD a.dst (mk h.nx) L T (fun L' T' => r cb par L' T' D ⟨h.tr, h.fz, nx'⟩ (⟨mk h.nx, [], fun _ _ => .bad⟩ :: S) ((S.length, ⟨h.nx, ob⟩) :: P) kn) = .ok out h') := by
  let K : Option (AObj × (Hi → AV)) → Res := fun res => match res with
    | none => putD a.dst (.tup []) L T (fun L' T' => r cb par L' T' D h (⟨.tup [], [], fun _ _ => .bad⟩ :: S) P kn)
    | some (ob, mk) => resK h fun b h => putD a.dst (mk b) L T (fun L' T' => r cb par L' T' D h (⟨mk b, [], fun _ _ => .bad⟩ :: S) ((S.length, ⟨b, ob⟩) :: P) kn)
  have key : a.shN r cb par L T D h S P kn = a.askN L T K := by
    cases hf with
    | bare hd hx _ =>
      cases a with
      | n d no => rfl
      | grd _ _ _ _ => exact hx.elim
      | _ => cases hn
    | grd hd hx hg hog ht hx' =>
      rename_i d x g want og t x'
      cases x with
      | n d' no =>
        obtain rfl : d' = d := hx.dst
        rfl
      | grd _ _ _ _ => exact hx.elim
      | _ => cases hn
  rw [key] at e
  obtain ⟨res, h1, h2⟩ := (a.askN_det L T).get e
  refine ⟨res, h1, ?_⟩
  cases res with
  | none => exact .inl ⟨rfl, h2⟩
  | some x =>
    obtain ⟨ob, mk⟩ := x
    obtain ⟨nx', h3, h4⟩ := resK_inv (show resK h (fun b h => putD a.dst (mk b) L T (fun L' T' => r cb par L' T' D h (⟨mk b, [], fun _ _ => .bad⟩ :: S) ((S.length, ⟨b, ob⟩) :: P) kn)) = .ok out h' from h2)
    exact .inr ⟨ob, mk, nx', rfl, h3, h4⟩

end
end Go.Proofs.YtpngpoeifgkclaaGreatDoor.Am

/- Regions that draw their order: what holds on the way. -/
namespace Go.Proofs.YtpngpoeifgkclaaGreatDoor.Am

/-- What a temporary is, when the operations in 'X' are done. -/
def upd (ops : Array Oper) (vals B : Nat → AV) (X : List Nat) (t : Nat) : AV :=
  match wr ops t with
  | some w => if w ∈ X then vals w else B t
  | none => B t
def setW (vals : Nat → AV) (i : Nat) (v : AV) : Nat → AV := fun j => if j = i then v else vals j

section upd
variable {ops : Array Oper}

theorem wr_spec {t w : Nat} (h : wr ops t = some w) : dstAt ops w = some t ∧ w < ops.size := by
  unfold wr at h
  have h1 := List.find?_some h
  have h2 := List.mem_of_find?_eq_some h
  refine ⟨?_, by simpa using h2⟩
  cases hd : dstAt ops w with
  | none => simp [hd] at h1
  | some u => simp only [hd] at h1; rw [Nat.eq_of_beq_eq_true h1]

theorem plain_wr (hp : plainRegion ops = true) {i t : Nat} (h : dstAt ops i = some t) : wr ops t = some i := by
  have hi : i < ops.size := by
    unfold dstAt at h
    rcases Nat.lt_or_ge i ops.size with h1 | h1
    · exact h1
    · rw [Array.getElem?_eq_none h1] at h; cases h
  have h1 := List.all_eq_true.1 hp i (by simpa using hi)
  simp only [Bool.and_eq_true, h] at h1
  cases hw : wr ops t with
  | none => simp [hw] at h1
  | some w => simp only [hw] at h1; rw [Nat.eq_of_beq_eq_true h1.1]

theorem upd_setV {vals B : Nat → AV} {i : Nat} {v : AV} {X : List Nat} (h : i ∉ X) (t : Nat) : upd ops (setW vals i v) B X t = upd ops vals B X t := by
  unfold upd
  cases wr ops t with
  | none => rfl
  | some w =>
    simp only []
    by_cases hw : w ∈ X
    · have : w ≠ i := fun e => h (e ▸ hw)
      simp [hw, setW, this]
    · simp [hw]
theorem upd_same (hp : plainRegion ops = true) {vals B : Nat → AV} {i t : Nat} {X : List Nat} (h : dstAt ops i = some t) : upd ops vals B (i :: X) t = vals i := by
  unfold upd
  rw [plain_wr hp h]; simp
theorem upd_other {vals B : Nat → AV} {i t : Nat} {X : List Nat} (h : dstAt ops i ≠ some t) : upd ops vals B (i :: X) t = upd ops vals B X t := by
  unfold upd
  cases hw : wr ops t with
  | none => rfl
  | some w =>
    have : w ≠ i := fun e => h (e ▸ (wr_spec hw).1)
    simp [this]
theorem upd_nil {vals B : Nat → AV} (t : Nat) : upd ops vals B [] t = B t := by
  unfold upd
  cases wr ops t <;> simp
theorem upd_congr {vals B : Nat → AV} {X Y : List Nat} {t : Nat} (h : ∀ w, wr ops t = some w → (w ∈ X ↔ w ∈ Y)) : upd ops vals B X t = upd ops vals B Y t := by
  unfold upd
  cases hw : wr ops t with
  | none => rfl
  | some w => simp only [h w hw]

/-- What is ordered against operation 'i' is done in both, or in none. -/
theorem upd_ordered {vals B : Nat → AV} {X Y : List Nat} {i t : Nat} (ho : ordered ops (Region.before ops) i t = true) (hiX : i ∉ X) (hiY : i ∉ Y) (hX : Shut ops X) (hY : Shut ops Y)
    (hbX : ∀ j, ((Region.before ops).getD i 0).testBit j = true → j ∈ X) (hbY : ∀ j, ((Region.before ops).getD i 0).testBit j = true → j ∈ Y) : upd ops vals B X t = upd ops vals B Y t := by
  refine upd_congr fun w hw => ?_
  unfold ordered at ho
  simp only [hw, Bool.or_eq_true] at ho
  rcases ho with (ho | ho) | ho
  · obtain rfl := Nat.eq_of_beq_eq_true ho
    exact ⟨fun h => absurd h hiX, fun h => absurd h hiY⟩
  · exact ⟨fun _ => hbY w ho, fun _ => hbX w ho⟩
  · exact ⟨fun h => absurd (hX w h i ho) hiX, fun h => absurd (hY w h i ho) hiY⟩
end upd

theorem idxOf_shift : ∀ (ds : List Nat) (t i : Nat), idxOf t ds (i + 1) = (idxOf t ds i).map (· + 1)
  | [], _, _ => rfl
  | u :: r, t, i => by
    simp only [idxOf]
    cases Nat.beq u t with
    | true => rfl
    | false => simpa using idxOf_shift r t (i + 1)
theorem idxOf_first : ∀ {ds : List Nat} {t j : Nat}, ds[j]? = some t → (∀ k, k < j → ds[k]? ≠ some t) → idxOf t ds 0 = some j
  | [], _, _, h, _ => by simp at h
  | u :: r, t, 0, h, _ => by
    simp only [List.getElem?_cons_zero, Option.some.injEq] at h
    subst h
    simp [idxOf]
  | u :: r, t, j + 1, h, hk => by
    have hu : u ≠ t := fun e => hk 0 (by omega) (by simp [e])
    have hb : Nat.beq u t = false := by
      cases hb : Nat.beq u t with
      | false => rfl
      | true => exact absurd (Nat.eq_of_beq_eq_true hb) hu
    simp only [idxOf, hb]
    have := idxOf_first (ds := r) (t := t) (j := j) (by simpa using h) fun k hlt he => hk (k + 1) (by omega) (by simpa using he)
    have h2 := idxOf_shift r t 0
    rw [this] at h2
    simpa using h2

theorem nthK_eq {j : Nat} {l : List AV} {v : AV} (h : l[j]? = some v) (k : AV → Res) : nthK j l k = k v := by
  induction j generalizing l with
  | zero => cases l with
    | nil => simp at h
    | cons w r => simp only [List.getElem?_cons_zero, Option.some.injEq] at h; subst h; rfl
  | succ j ih => cases l with
    | nil => simp at h
    | cons w r => exact ih (l := r) (by simpa using h)

theorem Kp.val_inj {p q : Kp} (h : p.val = q.val) : p = q := by
  cases p with | mk a d => cases q with | mk b e =>
  have := Dg.val_lt d; have := Dg.val_lt e
  simp only [Kp.val] at h
  have h1 : a.val = b.val := by omega
  have h2 : d.val = e.val := by omega
  have ha : a = b := by cases a <;> cases b <;> first | rfl | (exact absurd h1 (by decide))
  rw [ha, Dg.val_inj h2]

/-- An operation that was asked. -/
structure QE where
  i : Nat
  o : Oper
  a : AOp
  ds : List Nat
  L : List AV
  T : VT
  dn : List Nat
  v : AV
  res : Option (AObj × (Hi → AV))
  pb : Option Pend
  mts : List Nat

noncomputable def QE.snap (q : QE) : Snap := ⟨q.v, q.mts, if q.a.news then fun _ _ => .bad else q.a.ask q.L q.T⟩

structure CSt where
  r : List Nat
  ds : List Nat
  L : List AV
  T : VT
  h : Hp
  S : List Snap
  P : List (Nat × Pend)
  Sa : List Asked
  last : Option Nat
  laid : List Nat
  dn : List Nat
  l : List DStep
  vals : Nat → AV
  Q : List QE
  PL : List (Nat × Nat × Pend)

section
variable (A : Aim) (c : Cx) (ops : Array Oper) (dsE : List Nat) (B0 BT : Nat → AV)

structure EntOk (vals : Nat → AV) (dn : List Nat) (q : QE) : Prop where
  op : ops[q.i]? = some q.o
  cop : ∃ ds', c.op ops q.ds q.o = some (q.a, ds')
  quiet : q.a.quiet = true
  mem : q.i ∈ dn
  v : vals q.i = q.v
  sub : ∀ x ∈ q.dn, x ∈ dn
  nin : q.i ∉ q.dn
  shut : Shut ops q.dn
  bits : ∀ j, ((Region.before ops).getD q.i 0).testBit j = true → j ∈ q.dn
  loc : ∀ t j, idxOf t q.ds 0 = some j → q.L[j]? = some (upd ops vals B0 q.dn t)
  kep : ∀ t p, c.keep t = some p → q.T.at p = upd ops vals BT q.dn t
  seen : ∀ x ∈ q.a.opds, c.seen ops (Region.before ops) q.i q.ds x = true
  news : q.a.news = true → (∀ k, q.a.askN q.L q.T k = k q.res) ∧ ((q.res = none ∧ q.v = .tup [] ∧ q.pb = none) ∨ ∃ ob mk b, q.res = some (ob, mk) ∧ q.pb = some ⟨b, ob⟩ ∧ q.v = mk b)
  old : q.a.news = false → q.pb = none

/-- The machine's own way through the region. -/
structure Can (s : CSt) : Prop where
  comp : c.compD ops (Region.before ops) s.r s.ds s.Sa s.last s.laid s.dn = some (s.l, dsE)
  loc : ∀ t j, idxOf t s.ds 0 = some j → s.L[j]? = some (upd ops s.vals B0 s.dn t)
  kep : ∀ t p, c.keep t = some p → s.T.at p = upd ops s.vals BT s.dn t
  shut : Shut ops s.dn
  S_eq : s.S = s.Q.map QE.snap
  Sa_eq : s.Sa = s.Q.map fun q => ⟨q.i, q.a.reads, q.a.news⟩
  P_eq : s.P = s.PL.map fun x => (x.1, x.2.2)
  ent : ∀ q ∈ s.Q, EntOk c ops B0 BT s.vals s.dn q
  pl : ∀ x ∈ s.PL, ∃ q, s.Q.reverse[x.1]? = some q ∧ q.i = x.2.1 ∧ q.pb = some x.2.2
  qd : ∀ q ∈ s.Q, ∀ q' ∈ s.Q, q.i = q'.i → q = q'
  pb : ∀ x ∈ s.PL, s.h.at x.2.2.b = .no ∧ x.2.2.b.val < s.h.nx.val ∧ A.hI.nx.val ≤ x.2.2.b.val
  mt : ∀ q ∈ s.Q, ∀ n ∈ q.mts, ∃ q2, s.Q.reverse[n]? = some q2 ∧ ((Region.before ops).getD q.i 0).testBit q2.i = true
  pw : s.PL.Pairwise fun x y => x.2.2.b ≠ y.2.2.b ∧ x.2.1 ≠ y.2.1

structure SEnv (m : M) (vals : Nat → AV) (X : List Nat) (T' : VT) (tmps : Array Value) : Prop where
  size : tmps.size = c.nt
  loc : ∀ t, VR A.ρ m (upd ops vals B0 X t) (tmps.getD t undef)
  kep : ∀ t p, c.keep t = some p → T'.at p = upd ops vals BT X t ∧ VR A.ρ m (T'.at p) (tmps.getD t undef)

/-- The model's way: 'X' is done. -/
structure Sig (s : CSt) (X : List Nat) (m : M) (w : World) (act : Act) (T' : VT) : Prop where
  evo : ∃ E hX, Beside E s.h hX ∧ Evo A.G A.ρ A.mI A.hI A.wI m hX w ∧ (∀ p, E p ≠ .no → ∃ x ∈ s.PL, x.2.1 ∈ X ∧ x.2.2.b = p) ∧ (∀ x ∈ s.PL, x.2.1 ∈ X → E x.2.2.b = x.2.2.ob ∧ x.2.2.ob ≠ .no)
  env : SEnv A c ops B0 BT m s.vals X T' act.tmps
  sub : ∀ x ∈ X, x ∈ s.dn
  shut : Shut ops X
  quiet : ∀ x ∈ s.dn, x ∉ X → ∃ q ∈ s.Q, q.i = x
  fact : ∀ q ∈ s.Q, q.i ∉ X → q.a.news = false → ∀ k, q.a.ask q.L q.T (matH (pickP q.mts s.P) s.h) k = k q.v
  news : ∀ q ∈ s.Q, q.i ∉ X → ∀ pe, q.pb = some pe → ∃ x ∈ s.PL, x.2.1 = q.i ∧ x.2.2 = pe
  none : ∀ x ∈ s.PL, x.2.1 ∉ X → m x.2.2.b = none

variable {A c ops dsE B0 BT}

theorem SEnv.mono {m m' : M} (h : m.le m') {vals : Nat → AV} {X : List Nat} {T' : VT} {tmps : Array Value} (e : SEnv A c ops B0 BT m vals X T' tmps) : SEnv A c ops B0 BT m' vals X T' tmps :=
  ⟨e.size, fun t => (e.loc t).mono A.ρ h, fun t p hp => ⟨(e.kep t p hp).1, (e.kep t p hp).2.mono A.ρ h⟩⟩
theorem SEnv.setW {m : M} {vals : Nat → AV} {X : List Nat} {T' : VT} {tmps : Array Value} (e : SEnv A c ops B0 BT m vals X T' tmps) {i : Nat} (hi : i ∉ X) (v : AV) : SEnv A c ops B0 BT m (setW vals i v) X T' tmps :=
  ⟨e.size, fun t => by rw [upd_setV hi]; exact e.loc t, fun t p hp => by rw [upd_setV hi]; exact e.kep t p hp⟩

/-- Any table of what is known by the order of the text. -/
theorem SEnv.env {m : M} {vals : Nat → AV} {X : List Nat} {T' : VT} {tmps : Array Value} (e : SEnv A c ops B0 BT m vals X T' tmps) (ds : List Nat) : Env c m ds (ds.map (upd ops vals B0 X)) T' tmps A.G A.ρ :=
  ⟨fun j t h1 _ => ⟨upd ops vals B0 X t, by rw [List.getElem?_map, h1]; rfl, e.loc t⟩, e.size, fun t p hp => (e.kep t p hp).2⟩

/-- An operation is done. -/
theorem SEnv.put (hp : plainRegion ops = true) {m : M} {vals : Nat → AV} {X : List Nat} {T' : VT} {act : Act} (e : SEnv A c ops B0 BT m vals X T' act.tmps) {i : Nat} {o : Oper} (ho : ops[i]? = some o) {d : Dst} (hd : c.dst o = some d) {u : Value} (hv : VR A.ρ m (vals i) u) :
    ∃ T'', SEnv A c ops B0 BT m vals (i :: X) T'' (act.put o.dst u).tmps := by
  have hda : dstAt ops i = o.dst := by simp [dstAt, ho]
  unfold Cx.dst at hd
  cases ht : o.dst with
  | none =>
    have hne : ∀ t, dstAt ops i ≠ some t := fun t h => by rw [hda, ht] at h; cases h
    exact ⟨T', e.size, fun t => by rw [upd_other (hne t)]; exact e.loc t, fun t p hk => by rw [upd_other (hne t)]; exact e.kep t p hk⟩
  | some t0 =>
    simp only [ht] at hd
    split at hd
    · rename_i hlt
      have hlt : t0 < c.nt := by simpa [Nat.blt_eq] using hlt
      have hsz : t0 < act.tmps.size := by rw [e.size]; exact hlt
      have hsame : (act.tmps.setIfInBounds t0 u).getD t0 undef = u := by simp [Array.getD, hsz]
      have hother : ∀ t, t ≠ t0 → (act.tmps.setIfInBounds t0 u).getD t undef = act.tmps.getD t undef := fun t hu => by
        simp only [Array.getD_eq_getD_getElem?, Array.getElem?_setIfInBounds_ne (Ne.symm hu)]
      have hloc : ∀ t, VR A.ρ m (upd ops vals B0 (i :: X) t) ((act.tmps.setIfInBounds t0 u).getD t undef) := fun t => by
        by_cases h : t = t0
        · subst h; rw [upd_same hp (hda.trans ht), hsame]; exact hv
        · rw [upd_other (by rw [hda, ht]; exact fun he => h (Option.some.inj he).symm), hother t h]; exact e.loc t
      cases hk : c.keep t0 with
      | none =>
        refine ⟨T', by simpa [Act.put] using e.size, hloc, fun t p hkt => ?_⟩
        have h : t ≠ t0 := fun h => by subst h; rw [hk] at hkt; cases hkt
        rw [upd_other (by rw [hda, ht]; exact fun he => h (Option.some.inj he).symm)]
        show _ ∧ VR A.ρ m (T'.at p) ((act.tmps.setIfInBounds t0 u).getD t undef)
        rw [hother t h]; exact e.kep t p hkt
      | some q =>
        refine ⟨T'.put (vals i) q, by simpa [Act.put] using e.size, hloc, fun t p hkt => ?_⟩
        show _ ∧ VR A.ρ m ((T'.put (vals i) q).at p) ((act.tmps.setIfInBounds t0 u).getD t undef)
        by_cases h : t = t0
        · subst h
          rw [hk] at hkt; cases hkt
          rw [VT.at_put, if_pos rfl, upd_same hp (hda.trans ht), hsame]
          exact ⟨rfl, hv⟩
        · rw [VT.at_put, if_neg (fun hqp => h (keep_inj hkt (by rw [← hqp]; exact hk))), upd_other (by rw [hda, ht]; exact fun he => h (Option.some.inj he).symm), hother t h]
          exact e.kep t p hkt
    · cases hd

/-- What an operand is, in the machine and in the model. -/
theorem seen_ag {vals : Nat → AV} {dn X : List Nat} {i : Nat} {ds : List Nat} {L : List AV} {T T' : VT} {x : Opd} (hs : c.seen ops (Region.before ops) i ds x = true)
    (hloc : ∀ t j, idxOf t ds 0 = some j → L[j]? = some (upd ops vals B0 dn t)) (hkep : ∀ t p, c.keep t = some p → T.at p = upd ops vals BT dn t) (hT : ∀ t p, c.keep t = some p → T'.at p = upd ops vals BT X t)
    (hag : ∀ (B : Nat → AV) t, ordered ops (Region.before ops) i t = true → upd ops vals B dn t = upd ops vals B X t) : Ag L T (ds.map (upd ops vals B0 X)) T' x := by
  cases x with
  | con v => rfl
  | loc j =>
    simp only [Cx.seen] at hs
    split at hs
    · rename_i t ht
      simp only [Bool.and_eq_true] at hs
      split at hs
      · rename_i k hk
        obtain rfl := Nat.eq_of_beq_eq_true hs.1
        funext kk
        show nthK k L kk = nthK k (ds.map (upd ops vals B0 X)) kk
        rw [nthK_eq (hloc t k hk), nthK_eq (show (ds.map (upd ops vals B0 X))[k]? = some (upd ops vals B0 X t) by rw [List.getElem?_map, ht]; rfl), hag B0 t hs.2]
      · exact absurd hs.1 (by simp)
    · cases hs
  | kep p =>
    simp only [Cx.seen] at hs
    split at hs
    · rename_i t ht
      simp only [Bool.and_eq_true] at hs
      split at hs
      · rename_i q hq
        obtain rfl := Kp.val_inj (Nat.eq_of_beq_eq_true hs.1)
        funext kk
        show getV q T kk = getV q T' kk
        rw [getV_eq, getV_eq, hkep t q hq, hT t q hq, hag BT t hs.2]
      · exact absurd hs.1 (by simp)
    · cases hs

/-- The machine's tables, behind an operation. -/
theorem tables_put (hp : plainRegion ops = true) {vals : Nat → AV} {dn : List Nat} {i : Nat} {o : Oper} (ho : ops[i]? = some o) (hi : i ∉ dn) {ds : List Nat} {L : List AV} {T : VT} (hloc : ∀ t j, idxOf t ds 0 = some j → L[j]? = some (upd ops vals B0 dn t))
    (hkep : ∀ t p, c.keep t = some p → T.at p = upd ops vals BT dn t) {d : Dst} (hd : c.dst o = some d) {v : AV} {k : List AV → VT → Res} {out : AOut} {h' : Hp} (e : putD d v L T k = .ok out h') :
    ∃ L1 T1, k L1 T1 = .ok out h' ∧ (∀ t j, idxOf t (dsOf o ds) 0 = some j → L1[j]? = some (upd ops (setW vals i v) B0 (i :: dn) t)) ∧ (∀ t p, c.keep t = some p → T1.at p = upd ops (setW vals i v) BT (i :: dn) t) := by
  have hda : dstAt ops i = o.dst := by simp [dstAt, ho]
  have hvi : setW vals i v i = v := by simp [setW]
  unfold Cx.dst at hd
  unfold dsOf
  cases ht : o.dst with
  | none =>
    simp only [ht, Option.some.injEq] at hd
    subst hd
    have hne : ∀ t, dstAt ops i ≠ some t := fun t h => by rw [hda, ht] at h; cases h
    exact ⟨L, T, e, fun t j h => by rw [upd_other (hne t), upd_setV hi]; exact hloc t j h, fun t p h => by rw [upd_other (hne t), upd_setV hi]; exact hkep t p h⟩
  | some t0 =>
    simp only [ht] at hd
    have hne : ∀ {t}, t ≠ t0 → dstAt ops i ≠ some t := fun h he => by rw [hda, ht] at he; exact h (Option.some.inj he).symm
    have hl : ∀ t j, idxOf t (t0 :: ds) 0 = some j → (v :: L)[j]? = some (upd ops (setW vals i v) B0 (i :: dn) t) := fun t j h => by
      by_cases htt : t = t0
      · subst htt
        simp only [idxOf, Nat.beq_refl, if_true, Option.some.injEq] at h
        subst h
        rw [upd_same hp (hda.trans ht), hvi]; rfl
      · have hb : Nat.beq t0 t = false := by
          cases hb : Nat.beq t0 t with
          | false => rfl
          | true => exact absurd (Nat.eq_of_beq_eq_true hb).symm htt
        simp only [idxOf, hb] at h
        have h2 := idxOf_shift ds t 0
        simp only [Nat.zero_add] at h2 h
        have h : idxOf t ds 1 = some j := by simpa using h
        rw [h2] at h
        cases hq : idxOf t ds 0 with
        | none => rw [hq] at h; cases h
        | some j' =>
          rw [hq] at h
          simp only [Option.map_some, Option.some.injEq] at h
          subst h
          rw [upd_other (hne htt), upd_setV hi, List.getElem?_cons_succ]
          exact hloc t j' hq
    split at hd
    · split at hd
      · rename_i q hq
        cases hd
        have e : setV q T v (fun T => k (v :: L) T) = .ok out h' := e
        rw [setV_eq] at e
        refine ⟨_, _, e, hl, fun t p hk => ?_⟩
        by_cases htt : t = t0
        · subst htt
          rw [hq] at hk; cases hk
          rw [VT.at_put, if_pos rfl, upd_same hp (hda.trans ht), hvi]
        · rw [VT.at_put, if_neg (fun hqp => htt (keep_inj hk (by rw [← hqp]; exact hq))), upd_other (hne htt), upd_setV hi]
          exact hkep t p hk
      · rename_i hq
        cases hd
        refine ⟨_, _, e, hl, fun t p hk => ?_⟩
        have htt : t ≠ t0 := fun h => by subst h; rw [hq] at hk; cases hk
        rw [upd_other (hne htt), upd_setV hi]
        exact hkep t p hk
    · cases hd

theorem EntOk.more {vals : Nat → AV} {dn : List Nat} {q : QE} (h : EntOk c ops B0 BT vals dn q) {i : Nat} (hi : i ∉ dn) (v : AV) : EntOk c ops B0 BT (setW vals i v) (i :: dn) q := by
  have hni : i ∉ q.dn := fun hc => hi (h.sub i hc)
  refine ⟨h.op, h.cop, h.quiet, List.mem_cons_of_mem _ h.mem, ?_, fun x hx => List.mem_cons_of_mem _ (h.sub x hx), h.nin, h.shut, h.bits, fun t j e => by rw [upd_setV hni]; exact h.loc t j e, fun t p e => by rw [upd_setV hni]; exact h.kep t p e, h.seen, h.news, h.old⟩
  have : q.i ≠ i := fun e => hi (e ▸ h.mem)
  simp only [setW, this, if_false]; exact h.v

theorem fit_inv {i : Nat} {a : AOp} {ds : List Nat} {last : Option Nat} {dn : List Nat} (h : c.fit ops (Region.before ops) i a ds last dn = true) : i ∉ dn ∧ (∀ j, j < ops.size → ((Region.before ops).getD i 0).testBit j = true → j ∈ dn) ∧
    (∀ j, last = some j → ((Region.before ops).getD i 0).testBit j = true) ∧ ∀ x ∈ a.opds, c.seen ops (Region.before ops) i ds x = true := by
  unfold Cx.fit at h
  simp only [Bool.and_eq_true] at h
  obtain ⟨⟨⟨h1, h2⟩, h3⟩, h4⟩ := h
  refine ⟨by simpa using h1, fun j hj hb => ?_, fun j hj => by rw [hj] at h3; exact h3, fun x hx => List.all_eq_true.1 h4 x hx⟩
  have := List.all_eq_true.1 h2 j (by simpa using hj)
  rw [hb] at this; simpa using this

theorem bit_lt (hp : plainRegion ops = true) {i j : Nat} (h : ((Region.before ops).getD i 0).testBit j = true) : j < ops.size := by
  have key : ∀ n i, i = n → ((Region.before ops).getD i 0).testBit j = true → j < ops.size := by
    intro n
    induction n using Nat.strongRecOn with
    | _ n ih =>
      intro i hi hb
      subst hi
      obtain ⟨o, ho, e, he, hbe, h5⟩ := before_bits hb
      have hi : i < ops.size := by
        rcases Nat.lt_or_ge i ops.size with h | h
        · exact h
        · rw [Array.getElem?_eq_none h] at ho; cases ho
      have := List.all_eq_true.1 hp i (by simpa using hi)
      simp only [Bool.and_eq_true, ho] at this
      have := List.all_eq_true.1 this.2 e he
      have hlt : e.on < i := by simpa [hbe, Nat.blt_eq] using this
      rcases h5 with h5 | h5
      · omega
      · exact ih e.on hlt e.on rfl h5
  exact key i i rfl h

end
end Go.Proofs.YtpngpoeifgkclaaGreatDoor.Am

/- Regions that draw their order: the machine's way goes ahead as far as it can without an effect. -/
namespace Go.Proofs.YtpngpoeifgkclaaGreatDoor.Am

theorem matsOf_mem : ∀ {Sa : List Asked} {b p : Nat} {dn : List Nat}, p ∈ matsOf b Sa dn → ∃ s, Sa.reverse[p]? = some s ∧ b.testBit s.i = true
  | [], _, _, _, h => by simp [matsOf] at h
  | z :: r, b, p, dn, h => by
    have up : ∀ s, r.reverse[p]? = some s → (z :: r).reverse[p]? = some s := fun s hs => by
      rw [List.reverse_cons, List.getElem?_append_left (List.getElem?_eq_some_iff.1 hs).1]; exact hs
    unfold matsOf at h
    split at h
    · rename_i hc
      simp only [Bool.and_eq_true] at hc
      rcases List.mem_cons.1 h with rfl | h
      · exact ⟨z, by rw [List.reverse_cons, List.getElem?_append_right (by simp)]; simp, hc.1.2⟩
      · obtain ⟨s, h1, h2⟩ := matsOf_mem h; exact ⟨s, up s h1, h2⟩
    · obtain ⟨s, h1, h2⟩ := matsOf_mem h; exact ⟨s, up s h1, h2⟩

theorem qmats_mem {a : AOp} {Sa : List Asked} {b n : Nat} {laid : List Nat} (h : n ∈ qmats a b Sa laid) : n ∈ matsOf b Sa laid := by
  unfold qmats at h
  split at h
  · exact h
  · cases h

section
variable {A : Aim} {c : Cx} {ops : Array Oper} {dsE : List Nat} {B0 BT : Nat → AV}

theorem Beside.at_no {E : Hi → AObj} {h hX : Hp} (hb : Beside E h hX) {p : Hi} (hp : hX.at p = .no) : h.at p = .no := by
  apply Classical.byContradiction
  intro hc
  by_cases hE : E p = .no
  · rw [Hp.at_ext hb.fz (hb.no p hE)] at hp; exact hc hp
  · have h1 : hX.tr.at p ≠ .no := by rw [hb.yes p hE]; exact hE
    exact at_ne_of_tr h1 hp

theorem Evo.none_at {mI m : M} {hI h : Hp} {wI w : World} {G : Gp} {ρ : Rho} (e : Evo G ρ mI hI wI m h w) {p : Hi} (hp : m p = none) : h.at p = .no := Classical.byContradiction fun hc => by
  obtain ⟨pl, h1⟩ := ne_no_of_dom e.rel hc
  rw [hp] at h1; cases h1

theorem adv (hp : plainRegion ops = true) (hcP : c.P = A.G.P) {cb : Cb} {par : Par} {D : List AD} {kn : Kn} {X : List Nat} {m : M} {w : World} {act : Act} {T' : VT} :
    ∀ (n : Nat) (s : CSt), s.r.length = n → Can A c ops dsE B0 BT s → Sig A c ops B0 BT s X m w act T' → dF s.l cb par s.L s.T D s.h s.S s.P kn = .ok A.o A.h' →
      ∃ s', Can A c ops dsE B0 BT s' ∧ Sig A c ops B0 BT s' X m w act T' ∧ dF s'.l cb par s'.L s'.T D s'.h s'.S s'.P kn = .ok A.o A.h' ∧ ∀ ms a l, s'.l ≠ .q ms a :: l := by
  intro n
  induction n with
  | zero =>
    intro s hn hc hs he
    have hr : s.r = [] := List.length_eq_zero_iff.1 hn
    refine ⟨s, hc, hs, he, fun ms a l hl => ?_⟩
    have := hc.comp
    rw [hr, hl] at this
    simp only [Cx.compD] at this
    split at this
    · simp at this
    · cases this
  | succ n ih =>
    intro s hn hc hs he
    obtain ⟨r, ds, L, T, h, S, P, Sa, last, laid, dn, l, vals, Q, PL⟩ := s
    cases r with
    | nil => cases hn
    | cons i r =>
      have hcomp := hc.comp
      simp only [Cx.compD] at hcomp
      cases ho : ops[i]? with
      | none => simp [ho] at hcomp
      | some o =>
        simp only [ho] at hcomp
        cases hcop : c.op ops ds o with
        | none => simp [hcop] at hcomp
        | some q =>
          obtain ⟨a, ds'⟩ := q
          simp only [hcop] at hcomp
          split at hcomp
          · rename_i hfit
            obtain ⟨hnin, hbits, _, hseen⟩ := fit_inv hfit
            obtain ⟨rfl, hform⟩ := op_form (G := A.G) (ρ := A.ρ) hcP hcop
            split at hcomp
            · rename_i hquiet
              split at hcomp
              · rename_i l2 dsE' hcomp2
                simp only [Option.some.injEq, Prod.mk.injEq] at hcomp
                obtain ⟨rfl, rfl⟩ := hcomp
                have hniX : i ∉ X := fun hx => hnin (hs.sub i hx)
                have hb : ∀ j, ((Region.before ops).getD i 0).testBit j = true → j ∈ dn := fun j hj => hbits j (bit_lt hp hj) hj
                have hshut : Shut ops (i :: dn) := fun x hx j hj => by
                  rcases List.mem_cons.1 hx with rfl | hx
                  · exact List.mem_cons_of_mem _ (hb j hj)
                  · exact List.mem_cons_of_mem _ (hc.shut x hx j hj)
                have hlen : S.length = Q.length := by have := hc.S_eq; simp only at this; rw [this]; simp
                have hqd : ∀ q' : QE, q'.i = i → ∀ q ∈ q' :: Q, ∀ q2 ∈ q' :: Q, q.i = q2.i → q = q2 := fun q' hq' q hq q2 hq2 he => by
                  rcases List.mem_cons.1 hq with h1 | hq
                  · rcases List.mem_cons.1 hq2 with h2 | hq2
                    · rw [h1, h2]
                    · exact absurd (hc.ent q2 hq2).mem (by rw [← he, h1, hq']; exact hnin)
                  · rcases List.mem_cons.1 hq2 with h2 | hq2
                    · exact absurd (hc.ent q hq).mem (by rw [he, h2, hq']; exact hnin)
                    · exact hc.qd q hq q2 hq2 he
                have hpl : ∀ q' : QE, ∀ x ∈ PL, ∃ q, (q' :: Q).reverse[x.1]? = some q ∧ q.i = x.2.1 ∧ q.pb = some x.2.2 := fun q' x hx => by
                  obtain ⟨q, h1, h2⟩ := hc.pl x hx
                  refine ⟨q, ?_, h2⟩
                  rw [List.reverse_cons, List.getElem?_append_left (List.getElem?_eq_some_iff.1 h1).1]
                  exact h1
                have he : (DStep.sh (.q (qmats a ((Region.before ops).getD i 0) Sa laid) a) (dF l2)) cb par L T D h S P kn = .ok A.o A.h' := he
                have hmt : ∀ q' : QE, q'.i = i → (∀ n ∈ q'.mts, n ∈ matsOf ((Region.before ops).getD i 0) Sa laid) → ∀ q ∈ q' :: Q, ∀ n ∈ q.mts, ∃ q2, (q' :: Q).reverse[n]? = some q2 ∧ ((Region.before ops).getD q.i 0).testBit q2.i = true := fun q' hq' hq2 q hq n hn => by
                  have up : ∀ q2, Q.reverse[n]? = some q2 → (q' :: Q).reverse[n]? = some q2 := fun q2 h1 => by
                    rw [List.reverse_cons, List.getElem?_append_left (List.getElem?_eq_some_iff.1 h1).1]; exact h1
                  rcases List.mem_cons.1 hq with rfl | hq
                  · obtain ⟨sa, h1, h2⟩ := matsOf_mem (hq2 n hn)
                    have hSae : Sa = Q.map fun q => ⟨q.i, q.a.reads, q.a.news⟩ := hc.Sa_eq
                    rw [hSae, ← List.map_reverse, List.getElem?_map] at h1
                    cases hz : Q.reverse[n]? with
                    | none => rw [hz] at h1; cases h1
                    | some q2 =>
                      rw [hz] at h1
                      simp only [Option.map_some, Option.some.injEq] at h1
                      subst h1
                      exact ⟨q2, up q2 hz, by rw [hq']; exact h2⟩
                  · obtain ⟨q2, h1, h2⟩ := hc.mt q hq n hn
                    exact ⟨q2, up q2 h1, h2⟩
                have hmlt : ∀ q ∈ Q, ∀ n ∈ q.mts, n < S.length := fun q hq n hn => by
                  obtain ⟨q2, h1, _⟩ := hc.mt q hq n hn
                  have := (List.getElem?_eq_some_iff.1 h1).1
                  rw [hlen]; simpa using this
                by_cases hnews : a.news = true
                · have he : a.shN (dF l2) cb par L T D h S P kn = .ok A.o A.h' := by
                    have : ∀ ms, DStep.sh (.q ms a) (dF l2) = a.shN (dF l2) := fun ms => by simp only [DStep.sh, hnews, if_true]
                    rw [this] at he; exact he
                  obtain ⟨res, hask, hres⟩ := shN_inv hform hnews he
                  rcases hres with ⟨rfl, e1⟩ | ⟨ob, mk, nx', rfl, hnx, e1⟩
                  · obtain ⟨L1, T1, e2, hloc', hkep'⟩ := tables_put hp ho hnin hc.loc hc.kep hform.dst e1
                    let q' : QE := ⟨i, o, a, ds, L, T, dn, .tup [], none, none, []⟩
                    refine ih ⟨r, dsOf o ds, L1, T1, h, ⟨.tup [], [], fun _ _ => .bad⟩ :: S, P, ⟨i, a.reads, a.news⟩ :: Sa, last, laid, i :: dn, l2, setW vals i (.tup []), q' :: Q, PL⟩ (by simpa using hn) ?_ ?_ e2
                    · refine ⟨hcomp2, hloc', hkep', hshut, ?_, ?_, hc.P_eq, fun q hq => ?_, hpl q', hqd q' rfl, hc.pb, hmt q' rfl (fun n hn => by cases hn), hc.pw⟩
                      · show _ = q'.snap :: Q.map QE.snap
                        rw [← hc.S_eq]; simp only [QE.snap, q', hnews, if_true]
                      · show _ = _ :: Q.map _
                        rw [← hc.Sa_eq]
                      · rcases List.mem_cons.1 hq with rfl | hq
                        · exact ⟨ho, ⟨_, hcop⟩, hquiet, by simp [q'], by simp [q', setW], fun x hx => List.mem_cons_of_mem _ hx, hnin, hc.shut, hb, fun t j ht => by rw [upd_setV hnin]; exact hc.loc t j ht, fun t p ht => by rw [upd_setV hnin]; exact hc.kep t p ht, hseen,
                            fun _ => ⟨hask, .inl ⟨rfl, rfl, rfl⟩⟩, fun hf => absurd (hnews.symm.trans hf) (by simp)⟩
                        · exact (hc.ent q hq).more hnin _
                    · refine ⟨hs.evo, hs.env.setW hniX _, fun x hx => List.mem_cons_of_mem _ (hs.sub x hx), hs.shut, fun x hx hxX => ?_, fun q hq hqX hqn => ?_, fun q hq hqX pe hpe => ?_, hs.none⟩
                      · rcases List.mem_cons.1 hx with rfl | hx
                        · exact ⟨q', by simp, rfl⟩
                        · obtain ⟨q, h1, h2⟩ := hs.quiet x hx hxX; exact ⟨q, by simp [h1], h2⟩
                      · rcases List.mem_cons.1 hq with rfl | hq
                        · rw [hnews] at hqn; cases hqn
                        · exact hs.fact q hq hqX hqn
                      · rcases List.mem_cons.1 hq with rfl | hq
                        · cases hpe
                        · exact hs.news q hq hqX pe hpe
                  · obtain ⟨L1, T1, e2, hloc', hkep'⟩ := tables_put hp ho hnin hc.loc hc.kep hform.dst e1
                    obtain ⟨E, hX, hbes, hev, hE1, hE2⟩ := hs.evo
                    have hmnone : m h.nx = none := hev.rel.fresh _ (by rw [hbes.nx]; exact Nat.le_refl _)
                    have hatno : h.at h.nx = .no := hbes.at_no (hev.none_at hmnone)
                    let q' : QE := ⟨i, o, a, ds, L, T, dn, mk h.nx, some (ob, mk), some ⟨h.nx, ob⟩, []⟩
                    have hnewb : ∀ x ∈ PL, x.2.2.b ≠ h.nx := fun x hx hh => by
                      have := (hc.pb x hx).2.1
                      simp only at this
                      rw [hh] at this; omega
                    have hidx : ∀ x ∈ PL, x.2.1 ≠ i := fun x hx hh => by
                      obtain ⟨q, h1, h2⟩ := hc.pl x hx
                      have hq : q ∈ Q := by
                        have := List.mem_of_getElem? h1
                        simpa using this
                      exact hnin (by rw [← hh, ← h2.1]; exact (hc.ent q hq).mem)
                    refine ih ⟨r, dsOf o ds, L1, T1, ⟨h.tr, h.fz, nx'⟩, ⟨mk h.nx, [], fun _ _ => .bad⟩ :: S, (S.length, ⟨h.nx, ob⟩) :: P, ⟨i, a.reads, a.news⟩ :: Sa, last, laid, i :: dn, l2, setW vals i (mk h.nx), q' :: Q, (S.length, i, ⟨h.nx, ob⟩) :: PL⟩ (by simpa using hn) ?_ ?_ e2
                    · refine ⟨hcomp2, hloc', hkep', hshut, ?_, ?_, ?_, fun q hq => ?_, fun x hx => ?_, hqd q' rfl, fun x hx => ?_, hmt q' rfl (fun n hn => by cases hn), ?_⟩
                      · show _ = q'.snap :: Q.map QE.snap
                        rw [← hc.S_eq]; simp [QE.snap, q', hnews]
                      · show _ = _ :: Q.map _
                        rw [← hc.Sa_eq]
                      · show _ = _ :: PL.map _
                        rw [← hc.P_eq]
                      · rcases List.mem_cons.1 hq with rfl | hq
                        · exact ⟨ho, ⟨_, hcop⟩, hquiet, by simp [q'], by simp [q', setW], fun x hx => List.mem_cons_of_mem _ hx, hnin, hc.shut, hb, fun t j ht => by rw [upd_setV hnin]; exact hc.loc t j ht, fun t p ht => by rw [upd_setV hnin]; exact hc.kep t p ht, hseen,
                            fun _ => ⟨hask, .inr ⟨ob, mk, h.nx, rfl, rfl, rfl⟩⟩, fun hf => absurd (hnews.symm.trans hf) (by simp)⟩
                        · exact (hc.ent q hq).more hnin _
                      · rcases List.mem_cons.1 hx with rfl | hx
                        · refine ⟨q', ?_, rfl, rfl⟩
                          rw [List.reverse_cons, hlen, List.getElem?_append_right (by simp)]; simp
                        · exact hpl q' x hx
                      · rcases List.mem_cons.1 hx with rfl | hx
                        · refine ⟨hatno, by show h.nx.val < nx'.val; omega, ?_⟩
                          have := hev.nx; rw [hbes.nx] at this; exact this
                        · obtain ⟨h1, h2, h3⟩ := hc.pb x hx
                          exact ⟨h1, by show x.2.2.b.val < nx'.val; simp only at h2; omega, h3⟩
                      · exact List.pairwise_cons.2 ⟨fun y hy => ⟨(hnewb y hy).symm, (hidx y hy).symm⟩, hc.pw⟩
                    · refine ⟨⟨E, ⟨hX.tr, hX.fz, nx'⟩, ⟨hbes.fz, rfl, hbes.no, hbes.yes⟩, Evo.ext (h2 := ⟨hX.tr, hX.fz, nx'⟩) (h' := hX) rfl (by rw [hbes.nx]; show h.nx.val ≤ nx'.val; omega) (fun _ => rfl) hev, fun p hEp => ?_, fun x hx hxX => ?_⟩, hs.env.setW hniX _, fun x hx => List.mem_cons_of_mem _ (hs.sub x hx), hs.shut, fun x hx hxX => ?_, fun q hq hqX hqn => ?_, fun q hq hqX pe hpe => ?_, fun x hx hxX => ?_⟩
                      · obtain ⟨x, h1, h2⟩ := hE1 p hEp; exact ⟨x, List.mem_cons_of_mem _ h1, h2⟩
                      · rcases List.mem_cons.1 hx with rfl | hx
                        · exact absurd hxX hniX
                        · exact hE2 x hx hxX
                      · rcases List.mem_cons.1 hx with rfl | hx
                        · exact ⟨q', by simp, rfl⟩
                        · obtain ⟨q, h1, h2⟩ := hs.quiet x hx hxX; exact ⟨q, by simp [h1], h2⟩
                      · rcases List.mem_cons.1 hq with rfl | hq
                        · rw [hnews] at hqn; cases hqn
                        · intro k
                          have := hs.fact q hq hqX hqn k
                          have hf : pickP q.mts ((S.length, ⟨h.nx, ob⟩) :: P) = pickP q.mts P := by
                            rw [pickP_eq, pickP_eq, List.filter_cons_of_neg]
                            intro hm
                            have := hmlt q hq _ (by simpa using hm)
                            simp at this
                          show q.a.ask q.L q.T (matH (pickP q.mts ((S.length, ⟨h.nx, ob⟩) :: P)) ⟨h.tr, h.fz, nx'⟩) k = k q.v
                          rw [hf, matH_nx _ _ _ _ h.nx, q.a.ask_nx q.L q.T _ h.fz nx' h.nx, ← matH_nx]
                          exact this
                      · rcases List.mem_cons.1 hq with rfl | hq
                        · simp only [q', Option.some.injEq] at hpe
                          subst hpe
                          exact ⟨(S.length, i, ⟨h.nx, ob⟩), by simp, rfl, rfl⟩
                        · obtain ⟨x, h1, h2⟩ := hs.news q hq hqX pe hpe
                          exact ⟨x, List.mem_cons_of_mem _ h1, h2⟩
                      · rcases List.mem_cons.1 hx with rfl | hx
                        · exact hmnone
                        · exact hs.none x hx hxX
                · have hnews : a.news = false := by simpa using hnews
                  have he : dQ a.dst (qmats a ((Region.before ops).getD i 0) Sa laid) a.ask (dF l2) cb par L T D h S P kn = .ok A.o A.h' := by
                    have : ∀ ms, DStep.sh (.q ms a) (dF l2) = dQ a.dst ms a.ask (dF l2) := fun ms => by simp [DStep.sh, hnews]
                    rw [this] at he; exact he
                  have he : matK (pickP (qmats a ((Region.before ops).getD i 0) Sa laid) P) h (fun hq => a.ask L T hq (fun v => putD a.dst v L T fun L1 T1 => dF l2 cb par L1 T1 D h (⟨v, qmats a ((Region.before ops).getD i 0) Sa laid, a.ask L T⟩ :: S) P kn)) = .ok A.o A.h' := he
                  rw [matK_eq] at he
                  obtain ⟨v, hask, e1⟩ := (a.ask_det L T _).get he
                  obtain ⟨L1, T1, e2, hloc', hkep'⟩ := tables_put hp ho hnin hc.loc hc.kep hform.dst e1
                  let q' : QE := ⟨i, o, a, ds, L, T, dn, v, none, none, qmats a ((Region.before ops).getD i 0) Sa laid⟩
                  refine ih ⟨r, dsOf o ds, L1, T1, h, ⟨v, qmats a ((Region.before ops).getD i 0) Sa laid, a.ask L T⟩ :: S, P, ⟨i, a.reads, a.news⟩ :: Sa, last, laid, i :: dn, l2, setW vals i v, q' :: Q, PL⟩ (by simpa using hn) ?_ ?_ e2
                  · refine ⟨hcomp2, hloc', hkep', hshut, ?_, ?_, hc.P_eq, fun q hq => ?_, hpl q', hqd q' rfl, hc.pb, hmt q' rfl (fun n hn => (qmats_mem hn)), hc.pw⟩
                    · show _ = q'.snap :: Q.map QE.snap
                      rw [← hc.S_eq]; simp [QE.snap, q', hnews]
                    · show _ = _ :: Q.map _
                      rw [← hc.Sa_eq]
                    · rcases List.mem_cons.1 hq with rfl | hq
                      · exact ⟨ho, ⟨_, hcop⟩, hquiet, by simp [q'], by simp [q', setW], fun x hx => List.mem_cons_of_mem _ hx, hnin, hc.shut, hb, fun t j ht => by rw [upd_setV hnin]; exact hc.loc t j ht, fun t p ht => by rw [upd_setV hnin]; exact hc.kep t p ht, hseen,
                          fun hf => absurd (hnews.symm.trans hf) (by simp), fun _ => rfl⟩
                      · exact (hc.ent q hq).more hnin _
                  · refine ⟨hs.evo, hs.env.setW hniX _, fun x hx => List.mem_cons_of_mem _ (hs.sub x hx), hs.shut, fun x hx hxX => ?_, fun q hq hqX hqn => ?_, fun q hq hqX pe hpe => ?_, hs.none⟩
                    · rcases List.mem_cons.1 hx with rfl | hx
                      · exact ⟨q', by simp, rfl⟩
                      · obtain ⟨q, h1, h2⟩ := hs.quiet x hx hxX; exact ⟨q, by simp [h1], h2⟩
                    · rcases List.mem_cons.1 hq with rfl | hq
                      · exact hask
                      · exact hs.fact q hq hqX hqn
                    · rcases List.mem_cons.1 hq with rfl | hq
                      · cases hpe
                      · exact hs.news q hq hqX pe hpe
              · cases hcomp
            · split at hcomp
              · split at hcomp
                · simp only [Option.some.injEq, Prod.mk.injEq] at hcomp
                  obtain ⟨rfl, rfl⟩ := hcomp
                  exact ⟨_, hc, hs, he, fun ms a l hl => by cases hl⟩
                · cases hcomp
              · cases hcomp
          · cases hcomp

end
end Go.Proofs.YtpngpoeifgkclaaGreatDoor.Am

/- Regions that draw their order, whole. -/
namespace Go.Proofs.YtpngpoeifgkclaaGreatDoor.Am

theorem pw_ne {α β : Type} {f : α → β} : ∀ {l : List α}, (l.Pairwise fun x y => f x ≠ f y) → ∀ {x y : α}, x ∈ l → y ∈ l → f x = f y → x = y
  | [], _, _, _, hx, _, _ => by cases hx
  | z :: l, h, x, y, hx, hy, he => by
    obtain ⟨h1, h2⟩ := List.pairwise_cons.1 h
    rcases List.mem_cons.1 hx with e1 | hx
    · rcases List.mem_cons.1 hy with e2 | hy
      · rw [e1, e2]
      · exact absurd (e1 ▸ he) (h1 y hy)
    · rcases List.mem_cons.1 hy with e2 | hy
      · exact absurd (e2 ▸ he).symm (h1 x hx)
      · exact pw_ne h2 hx hy he

theorem matH_at : ∀ (ps : List (Nat × Pend)) (h : Hp), (ps.Pairwise fun x y => x.2.b ≠ y.2.b) → (∀ x ∈ ps, (matH ps h).tr.at x.2.b = x.2.ob) ∧ (∀ p, (∀ x ∈ ps, x.2.b ≠ p) → (matH ps h).tr.at p = h.tr.at p)
  | [], h, _ => ⟨fun x hx => (by cases hx), fun p _ => rfl⟩
  | z :: ps, h, hpw => by
    obtain ⟨h1, h2⟩ := List.pairwise_cons.1 hpw
    obtain ⟨i1, i2⟩ := matH_at ps ⟨h.tr.put z.2.ob z.2.b, h.fz, h.nx⟩ h2
    refine ⟨fun x hx => ?_, fun p hp => ?_⟩
    · rcases List.mem_cons.1 hx with rfl | hx
      · show (matH ps _).tr.at _ = _
        rw [i2 _ fun y hy => (h1 y hy).symm]
        simp [A2.at_put]
      · exact i1 x hx
    · show (matH ps _).tr.at _ = _
      rw [i2 p fun y hy => hp y (by simp [hy])]
      simp only [A2.at_put, hp z (by simp), if_false]

theorem beside_list {E : Hi → AObj} {ps : List (Nat × Pend)} (hpw : ps.Pairwise fun x y => x.2.b ≠ y.2.b) (h1 : ∀ x ∈ ps, E x.2.b = x.2.ob) (h2 : ∀ p, E p ≠ .no → ∃ x ∈ ps, x.2.b = p) (h3 : ∀ x ∈ ps, x.2.ob ≠ .no) (h : Hp) : Beside E h (matH ps h) := by
  obtain ⟨i1, i2⟩ := matH_at ps h hpw
  refine ⟨(matH_fz ps h).1, (matH_fz ps h).2, fun p hp => i2 p fun x hx he => ?_, fun p hp => ?_⟩
  · subst he
    exact h3 x hx (by rw [← h1 x hx]; exact hp)
  · obtain ⟨x, hx, rfl⟩ := h2 p hp
    rw [i1 x hx, h1 x hx]

theorem againOf_mem : ∀ {Sa : List Asked} {b p j : Nat} {s : Asked}, Sa[j]? = some s → s.reads = true → b.testBit s.i = false → p + j ∈ againOf b Sa p
  | [], _, _, _, _, h, _, _ => by simp at h
  | z :: r, b, p, 0, s, h, hr, hb => by
    simp only [List.getElem?_cons_zero, Option.some.injEq] at h
    subst h
    simp [againOf, hr, hb]
  | z :: r, b, p, j + 1, s, h, hr, hb => by
    have := againOf_mem (Sa := r) (b := b) (p := p + 1) (j := j) (by simpa using h) hr hb
    rw [show p + (j + 1) = p + 1 + j by omega]
    unfold againOf
    split
    · exact List.mem_cons_of_mem _ this
    · exact this
section
variable {A : Aim} {c : Cx} {ops : Array Oper} {dsE : List Nat} {B0 BT : Nat → AV}

theorem compD_last {X : List Nat} {i : Nat} (hi : i < ops.size) (hX : Shut ops X) (hb : ∀ x, ((Region.before ops).getD i 0).testBit x = true → x ∈ X) :
    ∀ (r ds : List Nat) (Sa : List Asked) (j : Nat) (laid dn : List Nat) (q : List DStep × List Nat), c.compD ops (Region.before ops) r ds Sa (some j) laid dn = some q → i ∉ dn → j ∈ X := by
  intro r
  induction r with
  | nil =>
    intro ds Sa j laid dn q h hn
    simp only [Cx.compD] at h
    split at h
    · rename_i hall
      have := List.all_eq_true.1 hall i (by simpa using hi)
      exact absurd (by simpa using this) hn
    · cases h
  | cons i' r ih =>
    intro ds Sa j laid dn q h hn
    simp only [Cx.compD] at h
    split at h
    · cases h
    · split at h
      · cases h
      · split at h
        · rename_i hfit
          obtain ⟨_, _, hlast, _⟩ := fit_inv hfit
          have hbit := hlast j rfl
          by_cases he : i = i'
          · subst he; exact hb j hbit
          · have hn' : i ∉ i' :: dn := by simp [he, hn]
            split at h
            · split at h
              · rename_i hc; exact ih _ _ _ _ _ _ hc hn'
              · cases h
            · split at h
              · split at h
                · rename_i hc
                  exact hX i' (ih _ _ _ _ _ _ hc hn') j hbit
                · cases h
              · cases h
        · cases h

theorem Evo.sub {E : Hi → AObj} {mI m : M} {hI h hX : Hp} {wI w : World} {G : Gp} {ρ : Rho} (hb : Beside E h hX) (hno : ∀ p, E p ≠ .no → h.at p = .no) (e : Evo G ρ mI hI wI m hX w) : Evo G ρ mI hI wI m h w :=
  ⟨e.rel.sub hb hno, e.le, e.os, e.tape, e.output, e.size, e.frame, fun p pl hp hm => e.own p pl (by rw [hb.tr hno (at_ne_of_tr hp)]; exact hp) hm, hb.fz.symm.trans e.fz, by rw [← hb.nx]; exact e.nx, e.low⟩

theorem put_defers (act : Act) (d : Option Tmp) (u : Value) : (act.put d u).defers = act.defers := by cases d <;> rfl

/-- New blocks that are done may be laid: what stays beside. -/
theorem beside_mats {E : Hi → AObj} {h hX : Hp} {PL : List (Nat × Nat × Pend)} {P : List (Nat × Pend)} {mats X : List Nat} (hPe : P = PL.map fun x => (x.1, x.2.2)) (hpwb : PL.Pairwise fun x y => x.2.2.b ≠ y.2.2.b) (hbes : Beside E h hX)
    (hE2 : ∀ x ∈ PL, x.2.1 ∈ X → E x.2.2.b = x.2.2.ob ∧ x.2.2.ob ≠ .no) (hnoE : ∀ p, E p ≠ .no → h.at p = .no) (hmx : ∀ x ∈ PL, x.1 ∈ mats → x.2.1 ∈ X) :
    ∃ E1, Beside E1 (matH (pickP mats P) h) hX ∧ ∀ p, E1 p ≠ .no → (matH (pickP mats P) h).at p = .no := by
  classical
  rw [pickP_eq]
  let Pm := P.filter fun p => mats.contains p.1
  have hpwP : P.Pairwise fun x y => x.2.b ≠ y.2.b := by rw [hPe, List.pairwise_map]; exact hpwb
  obtain ⟨hm1, hm2⟩ := matH_at Pm h (hpwP.filter _)
  let E1 : Hi → AObj := fun p => if (∃ x ∈ PL, x.1 ∈ mats ∧ x.2.2.b = p) then .no else E p
  have hPm : ∀ x, x ∈ Pm ↔ ∃ y ∈ PL, y.1 ∈ mats ∧ x = (y.1, y.2.2) := fun x => by
    simp only [Pm, List.mem_filter, hPe, List.mem_map, List.contains_eq_mem, decide_eq_true_eq]
    constructor
    · rintro ⟨⟨y, hy, rfl⟩, h2⟩; exact ⟨y, hy, h2, rfl⟩
    · rintro ⟨y, hy, h2, rfl⟩; exact ⟨⟨y, hy, rfl⟩, h2⟩
  have hE1no : ∀ p, E1 p ≠ .no → (¬ ∃ x ∈ PL, x.1 ∈ mats ∧ x.2.2.b = p) ∧ E p ≠ .no ∧ E1 p = E p := fun p hp => by
    by_cases hc1 : ∃ x ∈ PL, x.1 ∈ mats ∧ x.2.2.b = p
    · simp only [E1, hc1, if_true] at hp; exact absurd rfl hp
    · have h3 : E1 p = E p := by simp only [E1, hc1, if_false]
      exact ⟨hc1, by rw [← h3]; exact hp, h3⟩
  refine ⟨E1, ⟨hbes.fz.trans (matH_fz Pm h).1.symm, hbes.nx.trans (congrArg id (matH_fz Pm h).2.symm), fun p hp => ?_, fun p hp => ?_⟩, fun p hp => ?_⟩
  · by_cases hc1 : ∃ x ∈ PL, x.1 ∈ mats ∧ x.2.2.b = p
    · obtain ⟨x, hx, hxm, rfl⟩ := hc1
      obtain ⟨g1, g2⟩ := hE2 x hx (hmx x hx hxm)
      rw [hbes.yes _ (by rw [g1]; exact g2), g1]
      exact (hm1 (x.1, x.2.2) ((hPm _).2 ⟨x, hx, hxm, rfl⟩)).symm
    · simp only [E1, hc1, if_false] at hp
      rw [hbes.no p hp, hm2 p fun x hx he => hc1 (by
        obtain ⟨y, hy, hym, rfl⟩ := (hPm x).1 hx
        exact ⟨y, hy, hym, he⟩)]
  · obtain ⟨_, h2, h3⟩ := hE1no p hp
    rw [h3]; exact hbes.yes p h2
  · obtain ⟨h1, h2, _⟩ := hE1no p hp
    rw [Hp.at_ext (matH_fz Pm h).1 (hm2 p fun x hx he => h1 (by
      obtain ⟨y, hy, hym, rfl⟩ := (hPm x).1 hx
      exact ⟨y, hy, hym, he⟩))]
    exact hnoE p h2

theorem dreg_run (hp : plainRegion ops = true) (hcP : c.P = A.G.P) {b : Fb} {base : List Frame} {m0 : M} {cb : Cb} {kn : Kn} {k : List Item} (hcb : CbOk A m0 c b base cb) (hpan : cb.pan = fun _ _ _ _ _ _ => .bad)
    (hkn : KnOk A m0 c b base dsE kn (fun a => b.at a (.inRegion ops [] :: k))) {par : Par} {D : List AD} {cs : List Frame} :
    ∀ (σ : List Nat) (s : CSt) (X : List Nat) (m : M) (w : World) (act : Act) (T' : VT), Sched ops X σ → m0.le m → DefL A.ρ m D act.defers → CsR A.ρ m b.kind base par cs → Can A c ops dsE B0 BT s → Sig A c ops B0 BT s X m w act T' → dF s.l cb par s.L s.T D s.h s.S s.P kn = .ok A.o A.h' →
      Reach A.G.P A.F (lone (b.at act (.inRegion ops σ :: k)) cs w) := by
  classical
  intro σ
  induction σ with
  | nil =>
    intro s X m w act T' hsch hm hdl hcs hc hs he
    obtain ⟨s, hc, hs, he, hnq⟩ := adv hp hcP _ s rfl hc hs he
    cases hsch with
    | nil hall =>
      obtain ⟨r, ds, L, T, h, S, P, Sa, last, laid, dn, l, vals, Q, PL⟩ := s
      have hcomp := hc.comp
      cases r with
      | cons i r =>
        exfalso
        simp only [Cx.compD] at hcomp
        split at hcomp
        · cases hcomp
        · rename_i o ho
          split at hcomp
          · cases hcomp
          · split at hcomp
            · rename_i hfit
              obtain ⟨hnin, _⟩ := fit_inv hfit
              have hi : i < ops.size := by
                rcases Nat.lt_or_ge i ops.size with h | h
                · exact h
                · rw [Array.getElem?_eq_none h] at ho; cases ho
              exact hnin (hs.sub i (hall i hi))
            · cases hcomp
      | nil =>
        simp only [Cx.compD] at hcomp
        split at hcomp
        · simp only [Option.some.injEq, Prod.mk.injEq] at hcomp
          obtain ⟨rfl, rfl⟩ := hcomp
          have he : matK P h (fun h => kn par L T D h) = .ok A.o A.h' := he
          rw [matK_eq] at he
          obtain ⟨E, hX, hbes, hev, hE1, hE2⟩ := hs.evo
          have hPe : P = PL.map fun x => (x.1, x.2.2) := hc.P_eq
          have hpw : P.Pairwise fun x y => x.2.b ≠ y.2.b := by
            rw [hPe, List.pairwise_map]; exact hc.pw.imp fun h => h.1
          have hPX : ∀ x ∈ PL, x.2.1 ∈ X := fun x hx => by
            obtain ⟨q, h1, h2, _⟩ := hc.pl x hx
            have hq : q ∈ Q := by
              have := List.mem_of_getElem? h1
              simpa using this
            have h3 := (hc.ent q hq).op
            refine h2 ▸ hall q.i ?_
            rcases Nat.lt_or_ge q.i ops.size with h | h
            · exact h
            · rw [Array.getElem?_eq_none h] at h3; cases h3
          have hbes2 : Beside E h (matH P h) := beside_list hpw (fun x hx => by
              rw [hPe] at hx
              obtain ⟨y, hy, rfl⟩ := List.mem_map.1 hx
              exact (hE2 y hy (hPX y hy)).1) (fun p hp => by
              obtain ⟨y, hy, _, rfl⟩ := hE1 p hp
              exact ⟨(y.1, y.2.2), by rw [hPe]; exact List.mem_map.2 ⟨y, hy, rfl⟩, rfl⟩) (fun x hx => by
              rw [hPe] at hx
              obtain ⟨y, hy, rfl⟩ := List.mem_map.1 hx
              exact (hE2 y hy (hPX y hy)).2) h
          have hev2 : Evo A.G A.ρ A.mI A.hI A.wI m (matH P h) w := Evo.ext (h' := hX) (hbes2.fz.trans hbes.fz.symm) (by rw [hbes2.nx, hbes.nx]; exact Nat.le_refl _) (fun p => by
            by_cases hE : E p = .no
            · rw [hbes2.no p hE, hbes.no p hE]
            · rw [hbes2.yes p hE, hbes.yes p hE]) hev
          have hall2 : ∀ (B : Nat → AV) t, upd ops vals B dn t = upd ops vals B X t := fun B t => upd_congr fun w hw => ⟨fun _ => hall w (wr_spec hw).2, fun h => hs.sub w h⟩
          refine hkn m _ w par L T D act cs hm ⟨hev2, ⟨fun j t h1 h2 => ?_, hs.env.size, fun t p hk => ?_⟩, hdl, hcs⟩ he
          · exact ⟨_, hc.loc t j (idxOf_first h1 h2), by rw [hall2]; exact hs.env.loc t⟩
          · have h1 := hc.kep t p hk
            simp only at h1
            have h2 := hs.env.kep t p hk
            rw [h1, hall2, ← h2.1]
            exact h2.2
        · cases hcomp
  | cons i rest ih =>
    intro s X m w act T' hsch hm hdl hcs hc hs he
    obtain ⟨s, hc, hs, he, hnq⟩ := adv hp hcP _ s rfl hc hs he
    obtain ⟨hbX, hshutX⟩ := hsch.bits hs.shut
    obtain ⟨hi, hiX, hsch'⟩ : i < ops.size ∧ i ∉ X ∧ Sched ops (i :: X) rest := by cases hsch with | cons h1 h2 _ h4 => exact ⟨h1, h2, h4⟩
    obtain ⟨r, ds, L, T, h, S, P, Sa, last, laid, dn, l, vals, Q, PL⟩ := s
    obtain ⟨E, hX, hbes, hev, hE1, hE2⟩ := hs.evo
    have hnoE : ∀ p, E p ≠ .no → h.at p = .no := fun p hp => by
      obtain ⟨x, hx, _, rfl⟩ := hE1 p hp
      exact (hc.pb x hx).1
    have hrel : Rel A.G A.ρ m h w := hev.rel.sub hbes hnoE
    by_cases hin : i ∈ dn
    · obtain ⟨q, hq, rfl⟩ := hs.quiet i hin hiX
      have hent := hc.ent q hq
      obtain ⟨ds', hcop⟩ := hent.cop
      obtain ⟨rfl, hform⟩ := op_form (G := A.G) (ρ := A.ρ) hcP hcop
      have hags : ∀ x ∈ q.a.opds, Ag q.L q.T (q.ds.map (upd ops vals B0 X)) T' x := fun x hx =>
        seen_ag (hent.seen x hx) hent.loc hent.kep (fun t p hk => (hs.env.kep t p hk).1) fun B t ho => upd_ordered ho hent.nin hiX hent.shut hs.shut hent.bits hbX
      have henv := hs.env.env q.ds
      by_cases hnews : q.a.news = true
      · obtain ⟨hask, halt⟩ := hent.news hnews
        have hask' : ∀ k, q.a.askN (q.ds.map (upd ops vals B0 X)) T' k = k q.res := fun k => by rw [← q.a.askN_ag hags]; exact hask k
        rcases news_step (b := b) (k := k) (cs := cs) (rest := rest) hcP hent.op hform hnews hrel henv hask' with ⟨hres, hstep⟩ | ⟨ob, mk, hres, hob, w', u, pl, hstep, hadds, hblk, hobj⟩
        · have hv : q.v = .tup [] ∧ q.pb = none := by
            rcases halt with ⟨_, h1, h2⟩ | ⟨_, _, _, h1, _⟩
            · exact ⟨h1, h2⟩
            · rw [hres] at h1; cases h1
          obtain ⟨T'', henv'⟩ := hs.env.put hp hent.op hform.dst (u := undef) (by rw [hent.v, hv.1]; exact ⟨#[], rfl, rfl⟩)
          refine Reach.head hstep (ih ⟨r, ds, L, T, h, S, P, Sa, last, laid, dn, l, vals, Q, PL⟩ (q.i :: X) m w _ T'' hsch' hm (by rw [put_defers]; exact hdl) hcs hc ?_ he)
          refine ⟨⟨E, hX, hbes, hev, fun p hp => ?_, fun x hx hxX => ?_⟩, henv', fun x hx => ?_, hshutX, fun x hx hxX => hs.quiet x hx fun h => hxX (by simp [h]), fun q' hq' hqX => hs.fact q' hq' fun h => hqX (by simp [h]), fun q' hq' hqX => hs.news q' hq' fun h => hqX (by simp [h]), fun x hx hxX => hs.none x hx fun h => hxX (by simp [h])⟩
          · obtain ⟨x, h1, h2, h3⟩ := hE1 p hp; exact ⟨x, h1, by simp [h2], h3⟩
          · rcases List.mem_cons.1 hxX with hxi | hxX
            · exfalso
              obtain ⟨q2, h1, h2, h3⟩ := hc.pl x hx
              have hq2 : q2 ∈ Q := by
                have := List.mem_of_getElem? h1
                simpa using this
              have := hc.qd q2 hq2 q hq (h2.trans hxi)
              subst this
              rw [hv.2] at h3; cases h3
            · exact hE2 x hx hxX
          · rcases List.mem_cons.1 hx with rfl | hx
            · exact hin
            · exact hs.sub x hx
        · obtain ⟨bb, hpb, hv⟩ : ∃ bb, q.pb = some ⟨bb, ob⟩ ∧ q.v = mk bb := by
            rcases halt with ⟨h1, _⟩ | ⟨ob2, mk2, bb, h1, h2, h3⟩
            · rw [hres] at h1; cases h1
            · rw [hres] at h1
              simp only [Option.some.injEq, Prod.mk.injEq] at h1
              obtain ⟨rfl, rfl⟩ := h1
              exact ⟨bb, h2, h3⟩
          obtain ⟨x, hx, hx1, hx2⟩ := hs.news q hq hiX _ hpb
          have hmn : m bb = none := by
            have := hs.none x hx (by rw [hx1]; exact hiX)
            rw [hx2] at this; exact this
          have hpbx := hc.pb x hx
          rw [hx2] at hpbx
          have hle : m.le (m.put bb pl) := M.le_put hmn
          have hev' := hev.lay (b := bb) (pl := pl) (o := ob) hmn (by rw [hbes.nx]; exact hpbx.2.1) hpbx.2.2 (fun g hg he => by
            obtain ⟨c1, s1, e1⟩ := hev.rel.glob g hg
            rw [he, hmn] at e1; cases e1) hadds hblk hob (hobj _ hle).2
          obtain ⟨T'', henv'⟩ := (hs.env.mono hle).put hp hent.op hform.dst (u := u) (by rw [hent.v, hv]; exact (hobj _ hle).1 bb (M.put_same _ _ _))
          let E' : Hi → AObj := fun p => if p = bb then ob else E p
          refine Reach.head hstep (ih ⟨r, ds, L, T, h, S, P, Sa, last, laid, dn, l, vals, Q, PL⟩ (q.i :: X) (m.put bb pl) w' _ T'' hsch' (hm.trans hle) (by rw [put_defers]; exact hdl.mono hle) (hcs.mono hle) hc ?_ he)
          have hsame : ∀ y ∈ PL, y.2.2.b = bb → y = x := fun y hy hyb => pw_ne (f := fun x : Nat × Nat × Pend => x.2.2.b) (hc.pw.imp fun h => h.1) hy hx (by rw [hx2]; exact hyb)
          have hsame2 : ∀ y ∈ PL, y.2.1 = q.i → y = x := fun y hy hyb => pw_ne (f := fun x : Nat × Nat × Pend => x.2.1) (hc.pw.imp fun h => h.2) hy hx (by rw [hx1]; exact hyb)
          refine ⟨⟨E', ⟨hX.tr.put ob bb, hX.fz, hX.nx⟩, ⟨hbes.fz, hbes.nx, fun p hp => ?_, fun p hp => ?_⟩, hev', fun p hp => ?_, fun y hy hyX => ?_⟩, henv', fun x hx => ?_, hshutX, fun x hx hxX => hs.quiet x hx fun h => hxX (by simp [h]), fun q' hq' hqX => hs.fact q' hq' fun h => hqX (by simp [h]), fun q' hq' hqX => hs.news q' hq' fun h => hqX (by simp [h]), fun y hy hyX => ?_⟩
          · by_cases hpb' : p = bb
            · simp only [E', hpb', if_true] at hp; exact absurd hp hob
            · simp only [E', hpb', if_false] at hp
              rw [A2.at_put, if_neg fun h : bb = p => hpb' h.symm]
              exact hbes.no p hp
          · by_cases hpb' : p = bb
            · subst hpb'; simp [E', A2.at_put]
            · simp only [E', hpb', if_false] at hp ⊢
              rw [A2.at_put, if_neg fun h : bb = p => hpb' h.symm]
              exact hbes.yes p hp
          · by_cases hpb' : p = bb
            · exact ⟨x, hx, by simp [hx1], by rw [hx2]; exact hpb'.symm⟩
            · simp only [E', hpb', if_false] at hp
              obtain ⟨y, h1, h2, h3⟩ := hE1 p hp
              exact ⟨y, h1, by simp [h2], h3⟩
          · by_cases hyx : y = x
            · subst hyx; rw [hx2]; simp [E', hob]
            · have hyb : y.2.2.b ≠ bb := fun h => hyx (hsame y hy h)
              simp only [E', hyb, if_false]
              rcases List.mem_cons.1 hyX with h | h
              · exact absurd (hsame2 y hy h) hyx
              · exact hE2 y hy h
          · rcases List.mem_cons.1 hx with rfl | hx
            · exact hin
            · exact hs.sub x hx
          · have hyb : y.2.2.b ≠ bb := fun h => by
              have := hsame y hy h
              subst this
              exact hyX (by simp [hx1])
            rw [M.put_other (Ne.symm hyb)]
            exact hs.none y hy fun h => hyX (by simp [h])
      · have hnews : q.a.news = false := by simpa using hnews
        have hask' : ∀ k, q.a.ask (q.ds.map (upd ops vals B0 X)) T' (matH (pickP q.mts P) h) k = k q.v := fun k => by rw [← q.a.ask_ag _ hags]; exact hs.fact q hq hiX hnews k
        have hmx : ∀ x ∈ PL, x.1 ∈ q.mts → x.2.1 ∈ X := fun x hx hxm => by
          obtain ⟨q2, h1, h2⟩ := hc.mt q hq _ hxm
          obtain ⟨q3, h3, h4, _⟩ := hc.pl x hx
          simp only at h1 h3
          rw [h1] at h3
          simp only [Option.some.injEq] at h3
          subst h3
          rw [← h4]; exact hbX _ h2
        obtain ⟨E1, hbes1, hno1⟩ := beside_mats hc.P_eq (hc.pw.imp fun h => h.1) hbes hE2 hnoE hmx
        have hrel : Rel A.G A.ρ m (matH (pickP q.mts P) h) w := hev.rel.sub hbes1 hno1
        obtain ⟨u, hu, hstep⟩ := quiet_step (b := b) (k := k) (cs := cs) (rest := rest) hcP hent.op hform hent.quiet hnews hrel henv hask'
        obtain ⟨T'', henv'⟩ := hs.env.put hp hent.op hform.dst (u := u) (by rw [hent.v]; exact hu)
        refine Reach.head hstep (ih ⟨r, ds, L, T, h, S, P, Sa, last, laid, dn, l, vals, Q, PL⟩ (q.i :: X) m w _ T'' hsch' hm (by rw [put_defers]; exact hdl) hcs hc ?_ he)
        refine ⟨⟨E, hX, hbes, hev, fun p hp => ?_, fun x hx hxX => ?_⟩, henv', fun x hx => ?_, hshutX, fun x hx hxX => hs.quiet x hx fun h => hxX (by simp [h]), fun q' hq' hqX => hs.fact q' hq' fun h => hqX (by simp [h]), fun q' hq' hqX => hs.news q' hq' fun h => hqX (by simp [h]), fun x hx hxX => hs.none x hx fun h => hxX (by simp [h])⟩
        · obtain ⟨x, h1, h2, h3⟩ := hE1 p hp; exact ⟨x, h1, by simp [h2], h3⟩
        · rcases List.mem_cons.1 hxX with hxi | hxX
          · exfalso
            obtain ⟨q2, h1, h2, h3⟩ := hc.pl x hx
            have hq2 : q2 ∈ Q := by
              have := List.mem_of_getElem? h1
              simpa using this
            have := hc.qd q2 hq2 q hq (h2.trans hxi)
            subst this
            rw [hent.old hnews] at h3; cases h3
          · exact hE2 x hx hxX
        · rcases List.mem_cons.1 hx with rfl | hx
          · exact hin
          · exact hs.sub x hx
    · have hcomp := hc.comp
      cases r with
      | nil =>
        exfalso
        simp only [Cx.compD] at hcomp
        split at hcomp
        · rename_i hall
          have := List.all_eq_true.1 hall i (by simpa using hi)
          exact hin (by simpa using this)
        · cases hcomp
      | cons ie r =>
        simp only [Cx.compD] at hcomp
        split at hcomp
        · cases hcomp
        · rename_i o ho
          split at hcomp
          · cases hcomp
          · rename_i a ds' hcop
            split at hcomp
            · rename_i hfit
              obtain ⟨hnin, hbits, _, hseen⟩ := fit_inv hfit
              obtain ⟨rfl, hform⟩ := op_form (G := A.G) (ρ := A.ρ) hcP hcop
              split at hcomp
              · split at hcomp
                · simp only [Option.some.injEq, Prod.mk.injEq] at hcomp
                  exact absurd hcomp.1.symm (hnq _ _ _)
                · cases hcomp
              · split at hcomp
                · rename_i hloud
                  split at hcomp
                  · rename_i l2 dsE' hcomp2
                    simp only [Option.some.injEq, Prod.mk.injEq] at hcomp
                    obtain ⟨rfl, rfl⟩ := hcomp
                    obtain rfl : i = ie := Classical.byContradiction fun hne => hnin (hs.sub ie (compD_last hi hs.shut hbX _ _ _ _ _ _ _ hcomp2 (by simp [hne, hin])))
                    generalize hmats : matsOf ((Region.before ops).getD i 0) Sa laid = mats at hcomp2 he
                    generalize hagain : againOf ((Region.before ops).getD i 0) Sa 0 = again at he
                    have hb : ∀ j, ((Region.before ops).getD i 0).testBit j = true → j ∈ dn := fun j hj => hbits j (bit_lt hp hj) hj
                    have hPe : P = PL.map fun x => (x.1, x.2.2) := hc.P_eq
                    have hSe : S = Q.map QE.snap := hc.S_eq
                    have hSae : Sa = Q.map fun q => ⟨q.i, q.a.reads, q.a.news⟩ := hc.Sa_eq
                    let rr : OpF := fun cb par L T D h kn => againK again (P.filter fun p => !mats.contains p.1) S h (dF l2 cb par L T D h S (P.filter fun p => !mats.contains p.1) kn)
                    let Pm := P.filter fun p => mats.contains p.1
                    have he : matK Pm h (fun h => a.sh rr cb par L T D h kn) = .ok A.o A.h' := he
                    rw [matK_eq] at he
                    have hQof : ∀ x ∈ PL, ∃ q ∈ Q, q.i = x.2.1 ∧ Q.reverse[x.1]? = some q := fun x hx => by
                      obtain ⟨q, h1, h2, _⟩ := hc.pl x hx
                      exact ⟨q, by simpa using List.mem_of_getElem? h1, h2, h1⟩
                    have hmx : ∀ x ∈ PL, x.1 ∈ mats → x.2.1 ∈ X := fun x hx hxm => by
                      rw [← hmats] at hxm
                      obtain ⟨s, h1, h2⟩ := matsOf_mem hxm
                      obtain ⟨q, hq, h3, h4⟩ := hQof x hx
                      rw [hSae, ← List.map_reverse, List.getElem?_map, h4] at h1
                      simp only [Option.map_some, Option.some.injEq] at h1
                      subst h1
                      rw [← h3]; exact hbX _ h2
                    have hpwb : PL.Pairwise fun x y => x.2.2.b ≠ y.2.2.b := hc.pw.imp fun h => h.1
                    have hpwP : P.Pairwise fun x y => x.2.b ≠ y.2.b := by rw [hPe, List.pairwise_map]; exact hpwb
                    obtain ⟨hm1, hm2⟩ := matH_at Pm h (hpwP.filter _)
                    -- what stays beside
                    let E1 : Hi → AObj := fun p => if (∃ x ∈ PL, x.1 ∈ mats ∧ x.2.2.b = p) then .no else E p
                    have hPm : ∀ x, x ∈ Pm ↔ ∃ y ∈ PL, y.1 ∈ mats ∧ x = (y.1, y.2.2) := fun x => by
                      simp only [Pm, List.mem_filter, hPe, List.mem_map, List.contains_eq_mem, decide_eq_true_eq]
                      constructor
                      · rintro ⟨⟨y, hy, rfl⟩, h2⟩; exact ⟨y, hy, h2, rfl⟩
                      · rintro ⟨y, hy, h2, rfl⟩; exact ⟨⟨y, hy, rfl⟩, h2⟩
                    have hE1no : ∀ p, E1 p ≠ .no → (¬ ∃ x ∈ PL, x.1 ∈ mats ∧ x.2.2.b = p) ∧ E p ≠ .no ∧ E1 p = E p := fun p hp => by
                      by_cases hc1 : ∃ x ∈ PL, x.1 ∈ mats ∧ x.2.2.b = p
                      · simp only [E1, hc1, if_true] at hp; exact absurd rfl hp
                      · have h3 : E1 p = E p := by simp only [E1, hc1, if_false]
                        exact ⟨hc1, by rw [← h3]; exact hp, h3⟩
                    have hbes1 : Beside E1 (matH Pm h) hX := by
                      refine ⟨hbes.fz.trans (matH_fz Pm h).1.symm, hbes.nx.trans (congrArg id (matH_fz Pm h).2.symm), fun p hp => ?_, fun p hp => ?_⟩
                      · by_cases hc1 : ∃ x ∈ PL, x.1 ∈ mats ∧ x.2.2.b = p
                        · obtain ⟨x, hx, hxm, rfl⟩ := hc1
                          obtain ⟨g1, g2⟩ := hE2 x hx (hmx x hx hxm)
                          rw [hbes.yes _ (by rw [g1]; exact g2), g1]
                          exact (hm1 (x.1, x.2.2) ((hPm _).2 ⟨x, hx, hxm, rfl⟩)).symm
                        · simp only [E1, hc1, if_false] at hp
                          rw [hbes.no p hp, hm2 p fun x hx he => hc1 (by
                            obtain ⟨y, hy, hym, rfl⟩ := (hPm x).1 hx
                            exact ⟨y, hy, hym, he⟩)]
                      · obtain ⟨_, h2, h3⟩ := hE1no p hp
                        rw [h3]; exact hbes.yes p h2
                    have hno1 : ∀ p, E1 p ≠ .no → (matH Pm h).at p = .no := fun p hp => by
                      obtain ⟨h1, h2, _⟩ := hE1no p hp
                      rw [Hp.at_ext (matH_fz Pm h).1 (hm2 p fun x hx he => h1 (by
                        obtain ⟨y, hy, hym, rfl⟩ := (hPm x).1 hx
                        exact ⟨y, hy, hym, he⟩))]
                      exact hnoE p h2
                    have hev1 : Evo A.G A.ρ A.mI A.hI A.wI m (matH Pm h) w := hev.sub hbes1 hno1
                    have hags : ∀ x ∈ a.opds, Ag L T (ds.map (upd ops vals B0 X)) T' x := fun x hx =>
                      seen_ag (hseen x hx) hc.loc hc.kep (fun t p hk => (hs.env.kep t p hk).1) fun B t ho => upd_ordered ho hin hiX hc.shut hs.shut hb hbX
                    rw [← loud_ag (L' := ds.map (upd ops vals B0 X)) (T' := T') hform hloud hpan _ hags] at he
                    refine loud_step hcP ho hform hloud hcb hm ⟨hev1, hs.env.env ds, hdl, hcs⟩ he fun m' h' w' av u ev hv e1 => ?_
                    rw [fix_putD] at e1
                    obtain ⟨L1, T1, e2, hloc', hkep'⟩ := tables_put hp ho hin hc.loc hc.kep hform.dst e1
                    have e2 : againK again (P.filter fun p => !mats.contains p.1) S h' (dF l2 cb par L1 T1 D h' S (P.filter fun p => !mats.contains p.1) kn) = .ok A.o A.h' := e2
                    obtain ⟨e3, hfacts⟩ := againK_inv (fun s hs hh => by
                      rw [hSe] at hs
                      obtain ⟨q, hq, rfl⟩ := List.mem_map.1 hs
                      unfold QE.snap
                      by_cases hqn : q.a.news = true
                      · simp only [hqn, if_true]; exact Det.bad
                      · simp only [hqn]; exact q.a.ask_det q.L q.T hh) e2
                    let PE := (PL.filter fun x => !mats.contains x.1 && decide (x.2.1 ∈ X)).map fun x => (x.1, x.2.2)
                    have hPE : ∀ x, x ∈ PE ↔ ∃ y ∈ PL, y.1 ∉ mats ∧ y.2.1 ∈ X ∧ x = (y.1, y.2.2) := fun x => by
                      simp only [PE, List.mem_map, List.mem_filter, List.contains_eq_mem, Bool.and_eq_true, Bool.not_eq_true', decide_eq_false_iff_not, decide_eq_true_eq]
                      constructor
                      · rintro ⟨y, ⟨hy, h2, h3⟩, rfl⟩; exact ⟨y, hy, h2, h3, rfl⟩
                      · rintro ⟨y, hy, h2, h3, rfl⟩; exact ⟨y, ⟨hy, h2, h3⟩, rfl⟩
                    have hE1x : ∀ x ∈ PL, x.1 ∉ mats → E1 x.2.2.b = E x.2.2.b := fun x hx hxm => by
                      have : ¬ ∃ y ∈ PL, y.1 ∈ mats ∧ y.2.2.b = x.2.2.b := fun ⟨y, hy, hym, hyb⟩ => hxm (by
                        have := pw_ne (f := fun x : Nat × Nat × Pend => x.2.2.b) hpwb hy hx hyb
                        rw [← this]; exact hym)
                      simp only [E1, this, if_false]
                    have hbes2 : Beside E1 h' (matH PE h') := beside_list (by
                        simp only [PE]
                        rw [List.pairwise_map]; exact hpwb.filter _) (fun x hx => by
                        obtain ⟨y, hy, hym, hyX, rfl⟩ := (hPE x).1 hx
                        rw [hE1x y hy hym]; exact (hE2 y hy hyX).1) (fun p hp => by
                        obtain ⟨h1, h2, _⟩ := hE1no p hp
                        obtain ⟨y, hy, hyX, rfl⟩ := hE1 p h2
                        exact ⟨(y.1, y.2.2), (hPE _).2 ⟨y, hy, fun hym => h1 ⟨y, hy, hym, rfl⟩, hyX, rfl⟩, rfl⟩) (fun x hx => by
                        obtain ⟨y, hy, hym, hyX, rfl⟩ := (hPE x).1 hx
                        exact (hE2 y hy hyX).2) h'
                    obtain ⟨ev2, hno2⟩ := Evo.over hbes1 hno1 hev.rel ev hbes2
                    obtain ⟨T'', henv'⟩ := ((hs.env.mono ev.le).setW hiX av).put hp ho hform.dst (u := u) (by simp only [setW, if_true]; exact hv)
                    have hPL' : ∀ x, x ∈ PL.filter (fun x => !mats.contains x.1) ↔ x ∈ PL ∧ x.1 ∉ mats := fun x => by
                      simp only [List.mem_filter, List.contains_eq_mem, Bool.not_eq_true', decide_eq_false_iff_not]
                    have hnx1 : (matH Pm h).nx = h.nx := (matH_fz Pm h).2
                    have hxi : ∀ x ∈ PL, x.2.1 ≠ i := fun x hx hh => by
                      obtain ⟨q, hq, h1, _⟩ := hQof x hx
                      exact hin (by rw [← hh, ← h1]; exact (hc.ent q hq).mem)
                    have hlow : ∀ x ∈ PL, x.2.1 ∉ X → m' x.2.2.b = none := fun x hx hxX => ev.low _ (by rw [hnx1]; exact (hc.pb x hx).2.1) (hs.none x hx hxX)
                    refine ih ⟨r, dsOf o ds, L1, T1, h', S, P.filter fun p => !mats.contains p.1, Sa, some i, mats ++ laid, i :: dn, l2, setW vals i av, Q, PL.filter fun x => !mats.contains x.1⟩ (i :: X) m' w' _ T'' hsch' (hm.trans ev.le) (by rw [put_defers]; exact hdl.mono ev.le) (hcs.mono ev.le) ?_ ?_ e3
                    · refine ⟨hcomp2, hloc', hkep', fun x hx j hj => ?_, hSe, hSae, ?_, fun q hq => (hc.ent q hq).more hin av, fun x hx => hc.pl x ((hPL' x).1 hx).1, hc.qd, fun x hx => ?_, hc.mt, hc.pw.filter _⟩
                      · rcases List.mem_cons.1 hx with rfl | hx
                        · exact List.mem_cons_of_mem _ (hb j hj)
                        · exact List.mem_cons_of_mem _ (hc.shut x hx j hj)
                      · simp only [hPe, List.filter_map]; rfl
                      · obtain ⟨hx, hxm⟩ := (hPL' x).1 hx
                        obtain ⟨h1, h2, h3⟩ := hc.pb x hx
                        refine ⟨?_, Nat.lt_of_lt_of_le h2 (by have := ev.nx; rw [hnx1] at this; exact this), h3⟩
                        by_cases hxX : x.2.1 ∈ X
                        · exact hno2 _ (by rw [hE1x x hx hxm, (hE2 x hx hxX).1]; exact (hE2 x hx hxX).2)
                        · exact Classical.byContradiction fun hc2 => by
                            obtain ⟨pl, e⟩ := ne_no_of_dom ev.rel hc2
                            rw [hlow x hx hxX] at e; cases e
                    · refine ⟨⟨E1, matH PE h', hbes2, hev.trans ev2, fun p hp => ?_, fun x hx hxX => ?_⟩, henv', fun x hx => ?_, hshutX, fun x hx hxX => ?_, fun q hq hqX hqn => ?_, fun q hq hqX pe hpe => ?_, fun x hx hxX => hlow x ((hPL' x).1 hx).1 fun h => hxX (by simp [h])⟩
                      · obtain ⟨h1, h2, _⟩ := hE1no p hp
                        obtain ⟨y, hy, hyX, rfl⟩ := hE1 p h2
                        exact ⟨y, (hPL' y).2 ⟨hy, fun hym => h1 ⟨y, hy, hym, rfl⟩⟩, by simp [hyX], rfl⟩
                      · obtain ⟨hx, hxm⟩ := (hPL' x).1 hx
                        rcases List.mem_cons.1 hxX with h | hxX
                        · exact absurd h (hxi x hx)
                        · rw [hE1x x hx hxm]; exact hE2 x hx hxX
                      · rcases List.mem_cons.1 hx with rfl | hx
                        · simp
                        · exact List.mem_cons_of_mem _ (hs.sub x hx)
                      · rcases List.mem_cons.1 hx with rfl | hx
                        · exact absurd (by simp) hxX
                        · exact hs.quiet x hx fun h => hxX (by simp [h])
                      · have hqX' : q.i ∉ X := fun h => hqX (by simp [h])
                        cases hrd : q.a.reads with
                        | false => intro k; rw [q.a.ask_pure hrd q.L q.T _ (matH (pickP q.mts P) h)]; exact hs.fact q hq hqX' hqn k
                        | true =>
                          obtain ⟨j, hj⟩ := List.getElem?_of_mem hq
                          have hbit : ((Region.before ops).getD i 0).testBit q.i = false := by
                            cases hbt : ((Region.before ops).getD i 0).testBit q.i with
                            | false => rfl
                            | true => exact absurd (hbX _ hbt) hqX'
                          have hja : j ∈ again := by
                            rw [← hagain, show j = 0 + j by omega]
                            exact againOf_mem (s := ⟨q.i, q.a.reads, q.a.news⟩) (by rw [hSae, List.getElem?_map, hj]; rfl) hrd hbit
                          have := hfacts j hja q.snap (by rw [hSe, List.getElem?_map, hj]; rfl)
                          unfold QE.snap at this
                          simp only [hqn] at this
                          exact this
                      · obtain ⟨x, hx, h1, h2⟩ := hs.news q hq (fun h => hqX (by simp [h])) pe hpe
                        exact ⟨x, (hPL' x).2 ⟨hx, fun hxm => hqX (by simp [← h1, hmx x hx hxm])⟩, h1, h2⟩
                  · cases hcomp
                · cases hcomp
            · cases hcomp

end
end Go.Proofs.YtpngpoeifgkclaaGreatDoor.Am

/- A region that draws its order, as a text. -/
namespace Go.Proofs.YtpngpoeifgkclaaGreatDoor.Am

theorem stp_region_draw {P : Program} {b : Fb} {a : Act} {k : List Item} {cs : List Frame} {w : World} {id : Nat} {ops : Array Oper} :
    ∃ t, step P (lone (b.at a (.code (.region id ops true) :: k)) cs w) = .next (lone (b.at a (.inRegion ops (Region.schedule (P.follows .mixedOrders) ops t) :: k)) cs { w with drawn := w.drawn + 1 }) := by
  refine ⟨(Question.order b.fn id).cut (w.tape w.drawn (.order b.fn id)), step_lone_go ?_⟩
  simp [stepG, stepG.exec, Fb.at, choose, Sem.run, Question.forced]

section
variable {A : Aim} {c : Cx}

theorem ok_dreg (hcP : c.P = A.G.P) {ls : List RfA} {id : Nat} {ops : Array Oper} {l : List DStep} {ds ds' : List Nat} (h : c.dr ops ds = some (l, ds')) : CodeOk A c ls (cDreg (dF l)) (.region id ops true) ds ds' := by
  intro m0 b base k ctl kn hb hctl hkn m hh w par L T D a cs hm r he
  unfold Cx.dr at h
  simp only at h
  split at h
  · rename_i hp
    obtain ⟨t, hstep⟩ := stp_region_draw (P := A.G.P) (b := b) (a := a) (k := k) (cs := cs) (w := w) (id := id) (ops := ops)
    refine Reach.head hstep ?_
    obtain ⟨σ, hσ, hsched⟩ := linearise_sched hp ops.size t (Array.replicate ops.size false) [] (by simp) (fun j hj => by simp [Array.getD_eq_getD_getElem?, hj]) (by simp) (by simp) (by simp)
    have hs : Region.schedule (A.G.P.follows .mixedOrders) ops t = σ := by
      simp only [Region.schedule, A.G.mixed, Bool.true_or, if_true]
      show Region.linearise.go .any ops ops.size t (Array.replicate ops.size false) [] = σ
      rw [hσ]; simp
    rw [hs]
    let B0 : Nat → AV := fun t => match idxOf t ds 0 with | some j => L.getD j .no | none => .no
    let BT : Nat → AV := fun t => match c.keep t with | some p => T.at p | none => .no
    have hfirst : ∀ t j, idxOf t ds 0 = some j → ∃ av, L[j]? = some av ∧ VR A.ρ m av (a.tmps.getD t undef) ∧ B0 t = av := fun t j hj => by
      obtain ⟨n, h1, h2, h3⟩ := idxOf_inv hj
      simp only [Nat.zero_add] at h1
      subst h1
      obtain ⟨av, h4, h5⟩ := r.env.lr j t h2 h3
      exact ⟨av, h4, h5, by simp only [B0, hj, List.getD_eq_getElem?_getD, h4, Option.getD_some]⟩
    have he : dF l (noPan ctl.cb) par L T D hh [] [] kn = .ok A.o A.h' := he
    refine dreg_run (B0 := B0) (BT := BT) hp hcP (cb := noPan ctl.cb) ⟨hctl.cb.call, hctl.cb.app, fun _ _ _ _ _ _ _ _ _ _ _ _ _ _ _ e => (by cases e), hctl.cb.fi⟩ rfl (hkn.step fun a cs w => stp_region_end) σ
      ⟨ordOf (quietOp ops) (Region.before ops) ops.size ops.size [], ds, L, T, hh, [], [], [], none, [], [], l, fun _ => .no, [], []⟩ [] m _ a T hsched hm r.def' r.cs' ?_ ?_ he
    · refine ⟨h, fun t j hj => ?_, fun t p hk => ?_, fun x hx => (by cases hx), rfl, rfl, rfl, fun q hq => (by cases hq), fun x hx => (by cases hx), fun q hq => (by cases hq), fun x hx => (by cases hx), fun q hq => (by cases hq), List.Pairwise.nil⟩
      · obtain ⟨av, h1, _, h2⟩ := hfirst t j hj
        rw [upd_nil, h2]; exact h1
      · rw [upd_nil]; simp only [BT, hk]
    · refine ⟨⟨fun _ => .no, hh, Beside.refl, r.evo.trans (Evo.same r.evo.rel (Same.drew w)), fun p hp => absurd rfl hp, fun x hx => (by cases hx)⟩, ⟨r.env.tr.1, fun t => ?_, fun t p hk => ?_⟩, fun x hx => (by cases hx), fun x hx => (by cases hx), fun x hx => (by cases hx), fun q hq => (by cases hq), fun q hq => (by cases hq), fun x hx => (by cases hx)⟩
      · rw [upd_nil]
        cases hj : idxOf t ds 0 with
        | none => simp only [B0, hj]; trivial
        | some j =>
          obtain ⟨av, _, h2, h3⟩ := hfirst t j hj
          rw [h3]; exact h2
      · rw [upd_nil]
        exact ⟨by simp only [BT, hk], r.env.tr.2 t p hk⟩
  · cases h

end
end Go.Proofs.YtpngpoeifgkclaaGreatDoor.Am

/- A loop over a map: what holds on the way. -/
namespace Go.Proofs.YtpngpoeifgkclaaGreatDoor.Am

section
variable {ρ : Rho}

mutual
/-- What is known of a value under more names is known of it under those that name it. -/
theorem VR.down {m m' : M} (h : m.le m') : ∀ (a : AV) (x v : Value), VR ρ m a x → VR ρ m' a v → VR ρ m a v
  | .no, _, _, _, _ => trivial
  | .bool _, _, _, _, e => e
  | .int _ _, _, _, _, e => e
  | .str _ _, _, _, _, e => e
  | .nilp, _, _, _, e => e
  | .ptr b o, _, _, ⟨pl, e, _⟩, ⟨pl', e', r'⟩ => ⟨pl', by rw [h _ _ e] at e'; cases e'; exact e, r'⟩
  | .nils, _, _, _, e => e
  | .slice b o n c, _, _, ⟨pl, _, _, e, _⟩, ⟨pl', a', c', e', r'⟩ => ⟨pl', a', c', by rw [h _ _ e] at e'; cases e'; exact e, r'⟩
  | .nilm, _, _, _, e => e
  | .map b, _, _, ⟨pl, e, _⟩, ⟨pl', e', r'⟩ => ⟨pl', by rw [h _ _ e] at e'; cases e'; exact e, r'⟩
  | .nilf, _, _, _, e => e
  | .func (.func _) fi ca, _, _, ⟨_, _, _, _, _, r, s⟩, ⟨fn, a, c, e, f, r', s'⟩ => ⟨fn, a, c, e, f, VRL.down h fi _ _ r r', VRL.down h ca _ _ s s'⟩
  | .func (.yield b) fi ca, _, _, ⟨_, _, _, _, ⟨pl, e1, _⟩, r, s⟩, ⟨fn, a, c, e, ⟨pl', e', f'⟩, r', s'⟩ => ⟨fn, a, c, e, ⟨pl', by rw [h _ _ e1] at e'; cases e'; exact e1, f'⟩, VRL.down h fi _ _ r r', VRL.down h ca _ _ s s'⟩
  | .nili, _, _, _, e => e
  | .iface _ a, _, _, ⟨y, _, r⟩, ⟨y', e', r'⟩ => ⟨y', e', VR.down h a y y' r r'⟩
  | .agg l, _, _, ⟨xs, _, r, _⟩, ⟨xs', e', r', s'⟩ => ⟨xs', e', VRL.down h l _ _ r r', s'⟩
  | .tup l, _, _, ⟨xs, _, r⟩, ⟨xs', e', r'⟩ => ⟨xs', e', VRL.down h l _ _ r r'⟩
  | .sym _, _, _, _, e => e
theorem VRL.down {m m' : M} (h : m.le m') : ∀ (l : List AV) (xs vs : List Value), VRL ρ m l xs → VRL ρ m' l vs → VRL ρ m l vs
  | [], _, _, _, e => e
  | a :: l, _, _, ⟨x, r, _, h1, h2⟩, ⟨v, r', e', h1', h2'⟩ => ⟨v, r', e', VR.down h a x v h1 h1', VRL.down h l r r' h2 h2'⟩
end

end

/-! ### What the machine does -/

theorem dels_eq : ∀ (ps : List Kp) (T : VT) (k : VT → Res), delsK ps T k = k (ps.foldl (fun T p => T.put .no p) T)
  | [], _, _ => rfl
  | p :: ps, T, k => by
    show setV p T .no (fun T => delsK ps T k) = _
    rw [setV_eq]; exact dels_eq ps _ k
theorem dels_at : ∀ (ps : List Kp) (T : VT) (p : Kp), (ps.foldl (fun T p => T.put .no p) T).at p = .no ∨ (p ∉ ps ∧ (ps.foldl (fun T p => T.put .no p) T).at p = T.at p)
  | [], _, _ => .inr ⟨by simp, rfl⟩
  | q :: ps, T, p => by
    rcases dels_at ps (T.put .no q) p with h | ⟨h1, h2⟩
    · exact .inl h
    · by_cases hq : q = p
      · subst hq
        left
        rw [List.foldl_cons, h2, VT.at_put, if_pos rfl]
      · right
        refine ⟨by simp [h1]; exact fun h => hq h.symm, ?_⟩
        rw [List.foldl_cons, h2, VT.at_put, if_neg hq]
theorem dels_in {ps : List Kp} {T : VT} {p : Kp} (h : p ∈ ps) : (ps.foldl (fun T p => T.put .no p) T).at p = .no := by
  rcases dels_at ps T p with h1 | ⟨h1, _⟩
  · exact h1
  · exact absurd h h1

theorem subV_inv {v w : AV} (h : subV v w = true) : v = .no ∨ v = w := by
  unfold subV at h
  split at h
  · exact .inl rfl
  · exact .inr (beqV_eq h)
theorem subW_inv {s t : V16} (h : subW s t = true) (d : Dg) : s.get d = .no ∨ s.get d = t.get d := by
  unfold subW at h
  simp only [Bool.and_eq_true] at h
  obtain ⟨⟨⟨⟨⟨⟨⟨⟨⟨⟨⟨⟨⟨⟨⟨h0, h1⟩, h2⟩, h3⟩, h4⟩, h5⟩, h6⟩, h7⟩, h8⟩, h9⟩, ha⟩, hb⟩, hc⟩, hd⟩, he⟩, hf⟩ := h
  cases d
  · exact subV_inv h0
  · exact subV_inv h1
  · exact subV_inv h2
  · exact subV_inv h3
  · exact subV_inv h4
  · exact subV_inv h5
  · exact subV_inv h6
  · exact subV_inv h7
  · exact subV_inv h8
  · exact subV_inv h9
  · exact subV_inv ha
  · exact subV_inv hb
  · exact subV_inv hc
  · exact subV_inv hd
  · exact subV_inv he
  · exact subV_inv hf
theorem subT_inv {s t : VT} (h : subT s t = true) (p : Kp) : s.at p = .no ∨ s.at p = t.at p := by
  unfold subT at h
  simp only [Bool.and_eq_true] at h
  obtain ⟨⟨⟨h0, h1⟩, h2⟩, h3⟩ := h
  cases p with | mk a d =>
  cases a
  · exact subW_inv h0 d
  · exact subW_inv h1 d
  · exact subW_inv h2 d
  · exact subW_inv h3 d

theorem beqE_eq : ∀ {l m : List AEnt}, beqE l m = true → l = m
  | [], [], _ => rfl
  | [], _ :: _, h => by cases h
  | _ :: _, [], h => by cases h
  | a :: l, b :: m, h => by
    simp only [beqE, Bool.and_eq_true] at h
    obtain ⟨⟨⟨h1, h2⟩, h3⟩, h4⟩ := h
    obtain ⟨ak, av, ab⟩ := a
    obtain ⟨bk, bv, bb⟩ := b
    have h1 := beqV_eq h1
    have h2 := beqV_eq h2
    have h3 := Nat.eq_of_beq_eq_true h3
    simp only at h1 h2 h3
    rw [h1, h2, h3, beqE_eq h4]

theorem bornOk_inv {c : Nat} : ∀ {l : List AEnt} {seen : List Nat}, bornOk c l seen = true → (∀ e ∈ l, e.born < c) ∧ (∀ e ∈ l, e.born ∉ seen) ∧ l.Pairwise fun a b => a.born ≠ b.born
  | [], _, _ => ⟨fun e he => (by cases he), fun e he => (by cases he), List.Pairwise.nil⟩
  | a :: l, seen, h => by
    simp only [bornOk, Bool.and_eq_true] at h
    obtain ⟨⟨h1, h2⟩, h3⟩ := h
    obtain ⟨i1, i2, i3⟩ := bornOk_inv h3
    refine ⟨fun e he => ?_, fun e he => ?_, List.pairwise_cons.2 ⟨fun e he hb => i2 e he (by simp [hb]), i3⟩⟩
    · rcases List.mem_cons.1 he with rfl | he
      · simpa [Nat.blt_eq] using h1
      · exact i1 e he
    · rcases List.mem_cons.1 he with rfl | he
      · simpa using h2
      · exact fun hs => i2 e he (by simp [hs])

/-- A round that comes to its end with all that was known, and nothing changed. -/
def Quiet (c : Ctl) (body : CodeF) (b m : Hi) (st : Nat) (T : VT) (h : Hp) (e : AEnt) : Prop := ∃ T' h', quietRound c body b m st e T h = .ok (.stop T' []) h' ∧ subT T T' = true

theorem onStop_inv {r d : Res} {k : VT → Hp → Res} {o : AOut} {h' : Hp} (e : onStop r d k = .ok o h') : d = .ok o h' ∨ ∃ T h, r = .ok (.stop T []) h ∧ k T h = .ok o h' := by
  cases r with
  | bad => exact .inl e
  | ok o1 h1 =>
    cases o1 with
    | ret v => exact .inl e
    | pan c => exact .inl e
    | stop T D =>
      cases D with
      | nil => exact .inr ⟨T, h1, rfl, e⟩
      | cons _ _ => exact .inl e

section
variable {c : Ctl} {body : CodeF} {b m : Hi} {st : Nat} {T : VT} {h : Hp}

theorem quietAll_inv {k : Res} {o : AOut} {h' : Hp} : ∀ {es : List AEnt}, quietAll c body b m st T h k es = .ok o h' → k = .ok o h' ∧ ∀ e ∈ es, Quiet c body b m st T h e
  | [], e => ⟨e, fun e he => (by cases he)⟩
  | a :: es, e => by
    have e : onStop (quietRound c body b m st a T h) .bad (fun T' _ => ifK (subT T T') (quietAll c body b m st T h k es) .bad) = .ok o h' := e
    rcases onStop_inv e with e | ⟨T', h1, e1, e2⟩
    · cases e
    · obtain ⟨hs, e3⟩ := ifK_inv e2
      obtain ⟨i1, i2⟩ := quietAll_inv e3
      refine ⟨i1, fun x hx => ?_⟩
      rcases List.mem_cons.1 hx with rfl | hx
      · exact ⟨T', h1, e1, hs⟩
      · exact i2 x hx

theorem findAct_inv {o : AOut} {h' : Hp} : ∀ {es : List AEnt} {acc : Option AEnt} {k : Option AEnt → Res}, findAct c body b m st T h es acc k = .ok o h' →
    ∃ a, k a = .ok o h' ∧ (∀ e ∈ es, Quiet c body b m st T h e ∨ a = some e) ∧ (a = acc ∨ (acc = none ∧ ∃ e ∈ es, a = some e))
  | [], acc, k, e => ⟨acc, e, fun e he => (by cases he), .inl rfl⟩
  | a :: es, acc, k, e => by
    have e : onStop (quietRound c body b m st a T h) (Option.rec (motive := fun _ => Res) (findAct c body b m st T h es (some a) k) (fun _ => .bad) acc)
      (fun T' _ => ifK (subT T T') (findAct c body b m st T h es acc k) (Option.rec (motive := fun _ => Res) (findAct c body b m st T h es (some a) k) (fun _ => .bad) acc)) = .ok o h' := e
    have act : (Option.rec (motive := fun _ => Res) (findAct c body b m st T h es (some a) k) (fun _ => .bad) acc : Res) = .ok o h' →
        ∃ x, k x = .ok o h' ∧ (∀ e ∈ a :: es, Quiet c body b m st T h e ∨ x = some e) ∧ (x = acc ∨ (acc = none ∧ ∃ e ∈ a :: es, x = some e)) := fun e => by
      cases acc with
      | some _ => cases e
      | none =>
        obtain ⟨x, i1, i2, i3⟩ := findAct_inv e
        have hx : x = some a := by
          rcases i3 with h | ⟨h, _⟩
          · exact h
          · cases h
        refine ⟨x, i1, fun y hy => ?_, .inr ⟨rfl, a, by simp, hx⟩⟩
        rcases List.mem_cons.1 hy with rfl | hy
        · exact .inr hx
        · exact i2 y hy
    rcases onStop_inv e with e | ⟨T', h1, e1, e2⟩
    · exact act e
    · rw [ifK_eq] at e2
      by_cases hs : subT T T' = true
      · rw [if_pos hs] at e2
        obtain ⟨x, i1, i2, i3⟩ := findAct_inv e2
        refine ⟨x, i1, fun y hy => ?_, ?_⟩
        · rcases List.mem_cons.1 hy with rfl | hy
          · exact .inl ⟨T', h1, e1, hs⟩
          · exact i2 y hy
        · rcases i3 with h | ⟨h, z, hz, hz2⟩
          · exact .inl h
          · exact .inr ⟨h, z, by simp [hz], hz2⟩
      · rw [if_neg hs] at e2
        exact act e2
end

/-! ### What the model does -/

theorem next_run {P : Program} {w : World} {r bm since last : Nat} {seen : Array Nat} {E : Array MapEntry} {cl : Nat} {ty : TypeId} (hit : w.heap[r]? = some (.mapIter (some bm) since seen last)) (hmap : w.heap[bm]? = some (.map E cl)) (hold : ∀ x ∈ E.toList, x.born < since) (hl : seen = #[] ∨ since ≤ last) :
    ((∀ x ∈ E.toList, x.born ∈ seen.toList) ∧ (Instr.next (.pointer (some ⟨r, 0, none⟩)) false ty).run P w = .ok (.tuple #[.bool false]) w) ∨
    ∃ e ∈ E.toList, e.born ∉ seen.toList ∧ ∃ w1, Only w w1 r ∧ w1.heap[r]? = some (.mapIter (some bm) since (seen.push e.born) cl) ∧ (Instr.next (.pointer (some ⟨r, 0, none⟩)) false ty).run P w = .ok (.tuple #[.bool true, e.key, e.val]) w1 := by
  have htest : (!seen.isEmpty && !E.isEmpty && E.all (fun x => decide (x.born ≥ last))) = false := by
    rcases hl with rfl | hl
    · simp
    · cases he : E.isEmpty with
      | true => simp
      | false =>
        have hall : E.all (fun x => decide (x.born ≥ last)) = false := by
          rw [Bool.eq_false_iff]
          intro h
          rw [Array.all_eq_true_iff_forall_mem] at h
          have h0 : 0 < E.size := by
            rcases Nat.eq_zero_or_pos E.size with h0 | h0
            · simp [Array.isEmpty, h0] at he
            · exact h0
          have hm : E[0] ∈ E := Array.getElem_mem h0
          have h1 := h _ hm
          have h2 := hold E[0] (by simp)
          simp at h1
          omega
        simp [hall]
  simp only [Instr.next, getObj, Sem.run_bind, Sem.run, hit, hmap, Result.andThen, htest, Bool.false_eq_true, if_false]
  have hleft : ∀ x ∈ (Array.filter (fun e => !seen.contains e.born) E).toList, x ∈ E.toList ∧ x.born ∉ seen.toList := fun x hx => by
    simp at hx ⊢; exact hx
  have hleft2 : ∀ x ∈ E.toList, x.born ∉ seen.toList → x ∈ (Array.filter (fun e => !seen.contains e.born) E).toList := fun x hx hs => by
    simp at hx hs ⊢; exact ⟨hx, hs⟩
  generalize Array.filter (fun e => !seen.contains e.born) E = L at hleft hleft2 ⊢
  have e1 : L.filter (fun x => decide (x.born < since)) = L := Array.filter_eq_self.2 (fun x hx => by simpa using hold x (hleft x (by simpa using hx)).1)
  have e2 : L.filter (fun x => decide (x.born ≥ since)) = #[] := by
    rw [Array.filter_eq_empty_iff]
    intro x hx
    have := hold x (hleft x (by simpa using hx)).1
    simp
    omega
  simp only [e1, e2, Array.append_empty]
  by_cases h0 : L.size = 0
  · left
    have hL : L = #[] := Array.eq_empty_of_size_eq_zero h0
    subst hL
    refine ⟨fun x hx => Classical.byContradiction fun hc => by simpa using hleft2 x hx hc, ?_⟩
    simp [choose, Sem.run, Question.forced]
  · right
    have hne : L.isEmpty = false := by simp [Array.isEmpty, h0]
    simp only [hne, Bool.false_eq_true, if_false, Array.empty_append, Array.size_map]
    have hch : ∃ (j : Nat) (w1 : World), j < L.size ∧ Same w w1 ∧ (choose (Question.mapNext L.size)).run P w = .ok j w1 := by
      by_cases hf : L.size ≤ 1
      · exact ⟨0, w, by omega, Same.refl w, by simp [choose, Sem.run, Question.forced, hf]⟩
      · exact ⟨_, { w with drawn := w.drawn + 1 }, Nat.mod_lt _ (by omega), Same.drew w, by
          simp only [choose, Sem.run, Question.forced, decide_eq_true_eq, hf, if_false, Question.cut]
          rfl⟩
    obtain ⟨j, w1, hj, hsame, hrun⟩ := hch
    have hmem := hleft L[j] (by simp)
    have hit1 : w1.heap[r]? = some (.mapIter (some bm) since seen last) := by rw [hsame.heap]; exact hit
    obtain ⟨w2, q1, q2, q3⟩ := setObj_only (P := P) (o' := .mapIter (some bm) since (seen.push L[j].born) cl) hit1 (by simp)
    refine ⟨L[j], hmem.1, hmem.2, w2, ⟨q2.os.trans hsame.os, q2.tape.trans hsame.tape, q2.output.trans hsame.output, by rw [q2.size, hsame.heap], fun k hk => by rw [q2.heap k hk, hsame.heap]⟩, q3, ?_⟩
    simp only [hrun, Array.getElem?_map, Array.getElem?_eq_getElem hj, Option.map_some, Sem.run_bind, q1, Result.andThen]
    rfl

end Go.Proofs.YtpngpoeifgkclaaGreatDoor.Am

/- A loop over a map, in every order of its entries. -/
namespace Go.Proofs.YtpngpoeifgkclaaGreatDoor.Am

theorem mapHead_inv {b body : Code} {it : Operand} {id : Nat} (h : mapHead b = some (it, id, body)) : ∃ rid ops u t o0 o1, b = .seq (.region rid ops false) (.seq (.cond (.tmp t) .skip (.exit id)) body) ∧ ops.toList = [o0, o1] ∧
    o0.dst = some u ∧ o0.op = .next it false ∧ o0.guard = none ∧ o1.dst = some t ∧ o1.op = .extract (.tmp u) 0 ∧ o1.guard = none := by
  unfold mapHead at h
  split at h
  · rename_i rid ops t id' body'
    split at h
    · rename_i u it' ty1 pos1 af1 t' u' ty2 pos2 af2 hl
      split at h
      · rename_i hc
        simp only [Bool.and_eq_true] at hc
        obtain rfl := Nat.eq_of_beq_eq_true hc.1
        obtain rfl := Nat.eq_of_beq_eq_true hc.2
        simp only [Option.some.injEq, Prod.mk.injEq] at h
        obtain ⟨rfl, rfl, rfl⟩ := h
        exact ⟨rid, ops, u, t, _, _, rfl, hl, rfl, rfl, rfl, rfl, rfl, rfl⟩
      · cases h
    · cases h
  · cases h

/-- The head of a round. -/
theorem iter_reach {P : Program} {F : Machine → Prop} {b : Fb} {a : Act} {k : List Item} {cs : List Frame} {w w1 : World} {rid : Nat} {ops : Array Oper} {it : Operand} {u t id : Nat} {body : Code} {o0 o1 : Oper} (hops : ops.toList = [o0, o1])
    (h1 : o0.dst = some u) (h2 : o0.op = .next it false) (h3 : o0.guard = none) (h4 : o1.dst = some t) (h5 : o1.op = .extract (.tmp u) 0) (h6 : o1.guard = none) (hu : u < a.tmps.size) (ht : t < a.tmps.size) {vs : Array Value} {bb : Bool}
    (hn : (Instr.next (ev a.tmps it) false o0.type).run P w = .ok (.tuple vs) w1) (hv : vs[0]? = some (.bool bb))
    (hr : Reach P F (lone (b.at ((a.put (some u) (.tuple vs)).put (some t) (.bool bb)) (.code (if bb then .skip else .exit id) :: .code body :: k)) cs w1)) :
    Reach P F (lone (b.at a (.code (.seq (.region rid ops false) (.seq (.cond (.tmp t) .skip (.exit id)) body)) :: k)) cs w) := by
  have hsz : ops.size = 2 := by rw [← Array.length_toList, hops]; rfl
  have g0 : ops[0]? = some o0 := by rw [← Array.getElem?_toList, hops]; rfl
  have g1 : ops[1]? = some o1 := by rw [← Array.getElem?_toList, hops]; rfl
  refine Reach.head stp_seq (Reach.head stp_region ?_)
  rw [hsz]
  show Reach P F (lone (b.at a (.inRegion ops [0, 1] :: _)) cs w)
  have r0 : (execOp (ev a.tmps) o0).run P w = .ok (.value (.tuple vs)) w1 := by
    simp only [execOp, h2, Sem.run_bind, hn, Result.andThen_ok, Sem.run_pure]
  refine Reach.head (stp_value g0 (by simp [Region.wanted, h3]) (.inr (not_defer r0 (by simp))) r0) ?_
  rw [h1]
  have e1 : ev (a.put (some u) (.tuple vs)).tmps (.tmp u) = .tuple vs := by
    show (a.tmps.setIfInBounds u (.tuple vs)).getD u undef = _
    simp [Array.getD, hu]
  have r1 : (execOp (ev (a.put (some u) (.tuple vs)).tmps) o1).run P w1 = .ok (.value (.bool bb)) w1 := by
    simp only [execOp, h5, e1, Instr.extract, hv, Sem.run_bind, Sem.run_pure, Result.andThen_ok]
  refine Reach.head (stp_value g1 (by simp [Region.wanted, h6]) (.inr (not_defer r1 (by simp))) r1) ?_
  rw [h4]
  refine Reach.head stp_region_end (Reach.head stp_seq (Reach.head (stp_cond (t := bb) ?_) hr))
  show ((a.tmps.setIfInBounds u (.tuple vs)).setIfInBounds t (.bool bb)).getD t undef = _
  simp [Array.getD, ht]

section
variable {G : Gp} {ρ : Rho}

/-- A block that is not the machine's to know is another. -/
theorem Evo.touch {mI m : M} {hI h : Hp} {wI w w' : World} {r : Nat} (e : Evo G ρ mI hI wI m h w) (hw : Only w w' r) (hap : ∀ p pl, h.at p ≠ .no → m p = some pl → pl.blk ≠ r)
    (hown : (∃ q pl, hI.tr.at q ≠ .no ∧ mI q = some pl ∧ pl.blk = r) ∨ wI.heap.size ≤ r) : Evo G ρ mI hI wI m h w' := by
  refine ⟨⟨e.rel.fresh, fun p hp => ?_, e.rel.sep, e.rel.disj, e.rel.glob⟩, e.le, hw.os.trans e.os, hw.tape.trans e.tape, hw.output.trans e.output, by rw [hw.size]; exact e.size, fun b hb hn => ?_, e.own, e.fz, e.nx, e.low⟩
  · obtain ⟨pl, h1, h2, h3⟩ := e.rel.dom p hp
    exact ⟨pl, h1, by rw [hw.size]; exact h2, h3.mono (M.le.refl m) (hw.heap _ (hap p pl hp h1))⟩
  · rw [hw.heap b fun he => ?_]
    · exact e.frame b hb hn
    · subst he
      rcases hown with ⟨q, pl, h1, h2, h3⟩ | h
      · exact hn q pl h1 h2 h3
      · omega

/-- New blocks alone. -/
theorem Evo.grow {mI m : M} {hI h : Hp} {wI w w' : World} (e : Evo G ρ mI hI wI m h w) (hos : w'.os = w.os) (htape : w'.tape = w.tape) (hout : w'.output = w.output) (hsz : w.heap.size ≤ w'.heap.size) (hh : ∀ b, b < w.heap.size → w'.heap[b]? = w.heap[b]?) : Evo G ρ mI hI wI m h w' := by
  refine ⟨⟨e.rel.fresh, fun p hp => ?_, e.rel.sep, e.rel.disj, e.rel.glob⟩, e.le, hos.trans e.os, htape.trans e.tape, hout.trans e.output, Nat.le_trans e.size hsz, fun b hb hn => ?_, e.own, e.fz, e.nx, e.low⟩
  · obtain ⟨pl, h1, h2, h3⟩ := e.rel.dom p hp
    exact ⟨pl, h1, Nat.lt_of_lt_of_le h2 hsz, h3.mono (M.le.refl m) (hh _ h2)⟩
  · rw [hh b (Nat.lt_of_lt_of_le hb e.size)]; exact e.frame b hb hn

end

section
variable {A : Aim} {c : Cx} {ls : List RfA} {fbody : CodeF} {body : Code} {e : List Nat}

/-- A loop over a map, on its way: the iterator's block stands beside what the machine knows. -/
structure LoopSt (A : Aim) (c : Cx) (bd : Code) (it : Operand) (it' : Opd) (bH mH : Hi) (plb q : Pl) (es : List AEnt) (st : Nat) (seen : Array Nat) (m : M) (T : VT) (h : Hp) (w : World) (a : Act) : Prop where
  evo : Evo A.G A.ρ A.mI A.hI A.wI m h w
  tr : TR A.ρ c m T a.tmps
  fg : ∀ t ∈ dstsOf bd, ∀ p, c.keep t = some p → T.at p = .no
  it : ∀ k, evO it' [] T k = k (.ptr bH 0)
  mb : m bH = some plb
  base : plb.base = 0
  lt : plb.blk < w.heap.size
  hit : ∃ last, w.heap[plb.blk]? = some (.mapIter (some q.blk) st seen last) ∧ (seen = #[] ∨ last = st)
  apart : ∀ p pl, h.at p ≠ .no → m p = some pl → pl.blk ≠ plb.blk
  own : (∃ x pl, A.hI.tr.at x ≠ .no ∧ A.mI x = some pl ∧ pl.blk = plb.blk) ∨ A.wI.heap.size ≤ plb.blk
  mm : m mH = some q
  map : h.at mH = .map es st
  noB : h.at bH = .no
  defs : a.defers = []

theorem EntR.born {m : M} {ρ : Rho} : ∀ {es : List AEnt} {E : List MapEntry}, EntR ρ m es E → E.map (·.born) = es.map (·.born)
  | [], _, h => by simp only [EntR] at h; subst h; rfl
  | a :: es, _, ⟨e, r, h0, _, _, h3, h4⟩ => by subst h0; simp [h3, EntR.born h4]

/-- A round runs by itself, from 'hF', whose blocks are the world's: what comes of it. -/
theorem round_runs (hcodes : ∀ I, CodeOk (A.to I) c ls fbody body [] e) {m0 : M} {b : Fb} {base : List Frame} {k : List Item} {ctl : Ctl} (hat : AtFn A c ls b.fn) (hctl : CtlOk A m0 c b base k ctl) (hkind : b.kind = .normal) {bb : Code} {m : M} (hm : m0.le m)
    {hF : Hp} {w : World} {T : VT} {a : Act} (rel : Rel A.G A.ρ m hF w) (gi : GI A.G m hF w) (htr : TR A.ρ c m T a.tmps) (hd : a.defers = []) {T' : VT} {h' : Hp} (he : fbody (roundC ctl) stopK .none [] T [] hF = .ok (.stop T' []) h')
    {F : Machine → Prop} (hgo : ∀ m1 w1 a1, Evo A.G A.ρ m hF w m1 h' w1 → TR A.ρ c m1 T' a1.tmps → a1.defers = [] → Reach A.G.P F (lone (b.at a1 (.inLoop bb :: k)) base w1)) :
    Reach A.G.P F (lone (b.at a (.code body :: .inLoop bb :: k)) base w) := by
  let F' : Machine → Prop := fun M => ∃ m1 w1 a1, M = lone (b.at a1 (.inLoop bb :: k)) base w1 ∧ Evo A.G A.ρ m hF w m1 h' w1 ∧ TR A.ρ c m1 T' a1.tmps ∧ a1.defers = []
  let I : Inst A.G := ⟨m, hF, w, F', .stop T' [], h', gi⟩
  have hcs : ∀ {m1 : M} {par : Par} {cs : List Frame}, CsR A.ρ m1 b.kind base par cs → cs = base := fun h => by rw [hkind] at h; exact h
  have hctl' : CtlOk (A.to I) m c b base (.inLoop bb :: k) (roundC ctl) :=
    ⟨⟨fun I' => hctl.cb.call I', fun I' => hctl.cb.app I', fun _ _ _ _ _ _ _ _ _ _ _ _ _ _ _ e => (by cases e), ⟨hctl.cb.fi.fn, hctl.cb.fi.kind, by
        have := hctl.cb.fi.round
        show match ctl.cb.fi.round with | none => _ | some l => _
        cases hr : ctl.cb.fi.round with
        | none => rw [hr] at this; exact this
        | some l =>
          rw [hr] at this
          obtain ⟨pl, h1, h2⟩ := this
          exact ⟨pl, hm l pl h1, h2⟩⟩⟩,
      fun k' _ _ _ _ _ _ _ _ _ _ _ e => (by cases e), fun id k' _ _ _ _ _ _ _ _ _ _ _ _ e => (by cases e)⟩
  have hkn : KnOk (A.to I) m c b base e stopK (fun a => b.at a (.inLoop bb :: k)) := by
    intro m1 h1 w1 par L T1 D a1 cs hm1 r1 e1
    have e1 : Res.ok (.stop T1 D) h1 = .ok (.stop T' []) h' := e1
    simp only [Res.ok.injEq, AOut.stop.injEq] at e1
    obtain ⟨⟨rfl, rfl⟩, rfl⟩ := e1
    obtain rfl := hcs r1.cs'
    exact ⟨_, ⟨0, rfl⟩, m1, w1, a1, rfl, r1.evo, r1.env.tr, by have := r1.def'; simpa only [DefL] using this⟩
  have := hcodes I m b base (.inLoop bb :: k) (roundC ctl) stopK hat hctl' hkn m hF w .none [] T [] a base (M.le.refl m)
    ⟨Evo.refl rel, ⟨LR.nil, htr⟩, by rw [hd]; rfl, by rw [hkind]; rfl⟩ he
  obtain ⟨M, hsteps, m1, w1, a1, rfl, h1, h2, h3⟩ := this
  exact Reach.steps hsteps (hgo m1 w1 a1 h1 h2 h3)

theorem rel_iter {bd : Code} {it : Operand} {it' : Opd} {bH mH : Hi} {plb q : Pl} {es : List AEnt} {st born : Nat} {seen : Array Nat} {m : M} {T : VT} {h : Hp} {w : World} {a : Act} (S : LoopSt A c bd it it' bH mH plb q es st (seen.push born) m T h w a)
    {hF : Hp} (hat : ∀ p, p ≠ bH → hF.at p = h.at p) (hatb : hF.at bH = .miter (some mH) (some born) st) (hnx : hF.nx = h.nx) (hdisj : ∀ p, hF.tr.at p ≠ .no → atList p hF.fz = .no) : Rel A.G A.ρ m hF w := by
  have r := S.evo.rel
  obtain ⟨last, hit, hl⟩ := S.hit
  have hl : last = st := by
    rcases hl with h | h
    · simp at h
    · exact h
  refine ⟨fun p hp => r.fresh p (by rw [← hnx]; exact hp), fun p hp => ?_, fun p p' pl pl' hp hp' hm hm' he => ?_, hdisj, r.glob⟩
  · by_cases hpb : p = bH
    · subst hpb
      refine ⟨plb, S.mb, S.lt, ?_⟩
      rw [hatb]
      exact ⟨q, st, seen.push born, last, S.base, S.mm, hit, by simp, hl⟩
    · rw [hat p hpb] at hp ⊢
      exact r.dom p hp
  · by_cases hpb : p = bH
    · by_cases hpb' : p' = bH
      · rw [hpb, hpb']
      · exfalso
        subst hpb
        rw [S.mb] at hm; cases hm
        rw [hat p' hpb'] at hp'
        exact S.apart p' pl' hp' hm' he.symm
    · by_cases hpb' : p' = bH
      · exfalso
        subst hpb'
        rw [S.mb] at hm'; cases hm'
        rw [hat p hpb] at hp
        exact S.apart p pl hp hm he
      · rw [hat p hpb] at hp; rw [hat p' hpb'] at hp'
        exact r.sep p p' pl pl' hp hp' hm hm' he

theorem TR.put_no {m : M} {T : VT} {a : Act} {t : Nat} {v : Value} (h : TR A.ρ c m T a.tmps) (hn : ∀ p, c.keep t = some p → T.at p = .no) : TR A.ρ c m T (a.put (some t) v).tmps := by
  refine ⟨by simpa [Act.put] using h.1, fun x p hp => ?_⟩
  by_cases hx : x = t
  · subst hx; rw [hn p hp]; trivial
  · have : (a.put (some t) v).tmps.getD x undef = a.tmps.getD x undef := by
      simp only [Act.put, Array.getD_eq_getD_getElem?, Array.getElem?_setIfInBounds_ne (Ne.symm hx)]
    rw [this]; exact h.2 x p hp

/-- What a round begins with: nothing is left, or an entry that was not yet. -/
theorem iter (hcP : c.P = A.G.P) {bd : Code} {it : Operand} {it' : Opd} {id : Nat} (hhead : mapHead bd = some (it, id, body)) (hnt : ((dstsOf bd).all fun t => Nat.blt t c.nt) = true) (hopd : c.opd [] it = some it') {bH mH : Hi} {plb q : Pl} {es : List AEnt} {st : Nat} (hes : ∀ e ∈ es, e.born < st)
    {seen : Array Nat} {m : M} {T : VT} {h : Hp} {w : World} {a : Act} (S : LoopSt A c bd it it' bH mH plb q es st seen m T h w a) {b : Fb} {base : List Frame} {k : List Item} {F : Machine → Prop} :
    ((∀ e ∈ es, e.born ∈ seen.toList) ∧ ∃ a', LoopSt A c bd it it' bH mH plb q es st seen m T h w a' ∧ (Reach A.G.P F (lone (b.at a' (.code (.exit id) :: .code body :: k)) base w) → Reach A.G.P F (lone (b.at a (.code bd :: k)) base w))) ∨
    ∃ e ∈ es, e.born ∉ seen.toList ∧ ∃ w1 a', LoopSt A c bd it it' bH mH plb q es st (seen.push e.born) m T h w1 a' ∧ (Reach A.G.P F (lone (b.at a' (.code .skip :: .code body :: k)) base w1) → Reach A.G.P F (lone (b.at a (.code bd :: k)) base w)) := by
  classical
  obtain ⟨rid, ops, u, t, o0, o1, hbd, hops, h1, h2, h3, h4, h5, h6⟩ := mapHead_inv hhead
  have hdu : u ∈ dstsOf bd := by rw [hbd]; simp [dstsOf, hops, h1]
  have hdt : t ∈ dstsOf bd := by rw [hbd]; simp [dstsOf, hops, h1, h4]
  have hu : u < a.tmps.size := by rw [S.tr.1]; simpa [Nat.blt_eq] using List.all_eq_true.1 hnt u hdu
  have ht : t < a.tmps.size := by rw [S.tr.1]; simpa [Nat.blt_eq] using List.all_eq_true.1 hnt t hdt
  have hput : ∀ (v v' : Value), TR A.ρ c m T ((a.put (some u) v).put (some t) v').tmps := fun v v' => (S.tr.put_no (S.fg u hdu)).put_no (S.fg t hdt)
  have hdef : ∀ (v v' : Value), ((a.put (some u) v).put (some t) v').defers = [] := fun v v' => by simpa [Act.put] using S.defs
  -- the iterator
  obtain ⟨av, hav, hk⟩ := opd_sound (k := fun x => if x = .ptr bH 0 then .ok (.ret .no) h else .bad) (o := .ret .no) (h' := h) hcP S.evo.rel (⟨LR.nil, S.tr⟩ : Env c m [] [] T a.tmps A.G A.ρ) hopd (by rw [S.it]; simp)
  have hav' : av = .ptr bH 0 := by
    by_cases hx : av = .ptr bH 0
    · exact hx
    · simp only [hx, if_false] at hk; cases hk
  subst hav'
  obtain ⟨pl, hpl, hev⟩ := hav
  rw [S.mb] at hpl; cases hpl
  rw [S.base] at hev
  -- the map
  obtain ⟨hlt, hobj⟩ := obj_ok S.evo.rel (b := mH) (by rw [S.map]; simp) S.mm
  rw [S.map] at hobj
  obtain ⟨E, hE, hER⟩ := hobj
  have hborn := hER.born
  obtain ⟨last, hit, hl⟩ := S.hit
  have hold : ∀ x ∈ E.toList, x.born < st := fun x hx => by
    have : x.born ∈ es.map (·.born) := by rw [← hborn]; exact List.mem_map.2 ⟨x, hx, rfl⟩
    obtain ⟨y, hy, hyb⟩ := List.mem_map.1 this
    rw [← hyb]; exact hes y hy
  rcases next_run (P := A.G.P) (ty := o0.type) hit hE hold (hl.imp (fun h => h) fun h => by omega) with ⟨hall, hrun⟩ | ⟨me, hme, hmb, w1, honly, hit1, hrun⟩
  · left
    refine ⟨fun e he => ?_, (a.put (some u) (.tuple #[.bool false])).put (some t) (.bool false), ⟨S.evo, hput _ _, S.fg, S.it, S.mb, S.base, S.lt, S.hit, S.apart, S.own, S.mm, S.map, S.noB, hdef _ _⟩, fun hr => ?_⟩
    · have : e.born ∈ E.toList.map (·.born) := by rw [hborn]; exact List.mem_map.2 ⟨e, he, rfl⟩
      obtain ⟨y, hy, hyb⟩ := List.mem_map.1 this
      rw [← hyb]; exact hall y hy
    · rw [hbd]
      exact iter_reach hops h1 h2 h3 h4 h5 h6 hu ht (bb := false) (by rw [hev]; exact hrun) rfl hr
  · right
    have : me.born ∈ es.map (·.born) := by rw [← hborn]; exact List.mem_map.2 ⟨me, hme, rfl⟩
    obtain ⟨y, hy, hyb⟩ := List.mem_map.1 this
    refine ⟨y, hy, by rw [hyb]; exact hmb, w1, (a.put (some u) (.tuple #[.bool true, me.key, me.val])).put (some t) (.bool true), ⟨S.evo.touch honly S.apart S.own, hput _ _, S.fg, S.it, S.mb, S.base, by rw [honly.size]; exact S.lt, ⟨st, by rw [hyb]; exact hit1, .inr rfl⟩, S.apart, S.own, S.mm, S.map, S.noB, hdef _ _⟩, fun hr => ?_⟩
    rw [hbd]
    exact iter_reach hops h1 h2 h3 h4 h5 h6 hu ht (bb := true) (by rw [hev]; exact hrun) rfl hr

def unseen (es : List AEnt) (seen : Array Nat) : Nat := (es.filter fun e => !seen.toList.contains e.born).length
theorem unseen_lt {es : List AEnt} {seen : Array Nat} {e : AEnt} (he : e ∈ es) (hn : e.born ∉ seen.toList) : unseen es (seen.push e.born) < unseen es seen := by
  have h1 : es.filter (fun x => !(seen.push e.born).toList.contains x.born) = (es.filter fun x => !seen.toList.contains x.born).filter fun x => !(x.born == e.born) := by
    rw [List.filter_filter]
    apply List.filter_congr
    intro x _
    by_cases h2 : x.born = e.born <;> by_cases h3 : x.born ∈ seen <;> simp [h2, h3]
  unfold unseen
  rw [h1]
  exact List.length_filter_lt_length_iff_exists.2 ⟨e, by simp [he]; simpa using hn, by simp⟩

section
variable (hcodes : ∀ I, CodeOk (A.to I) c ls fbody body [] e) {m0 : M} {b : Fb} {base : List Frame} {k : List Item} {ctl : Ctl} (hat : AtFn A c ls b.fn) (hctl : CtlOk A m0 c b base k ctl) (hkind : b.kind = .normal) (hcP : c.P = A.G.P)
  {bd : Code} {it : Operand} {it' : Opd} {id : Nat} (hhead : mapHead bd = some (it, id, body)) (hnt : ((dstsOf bd).all fun t => Nat.blt t c.nt) = true) (hopd : c.opd [] it = some it') {bH mH : Hi} {plb q : Pl} {es : List AEnt} {st : Nat} (hes : ∀ e ∈ es, e.born < st)
include hcodes hat hctl hkind hcP hhead hnt hopd hes

/-- A quiet round is run. -/
theorem quiet_one {seen : Array Nat} {m : M} (hm : m0.le m) {T : VT} {h : Hp} {x : AEnt} (hq : Quiet ctl fbody bH mH st T h x) {w : World} {a : Act} (S : LoopSt A c bd it it' bH mH plb q es st (seen.push x.born) m T h w a)
    (hgo : ∀ w1 a1, LoopSt A c bd it it' bH mH plb q es st (seen.push x.born) m T h w1 a1 → Reach A.G.P A.F (lone (b.at a1 (.code bd :: .inLoop bd :: k)) base w1)) :
    Reach A.G.P A.F (lone (b.at a (.code .skip :: .code body :: .inLoop bd :: k)) base w) := by
  have _ := hcP
  have _ := hhead
  have _ := hnt
  have _ := hopd
  have _ := hes
  obtain ⟨T', h', hrun, hsub⟩ := hq
  obtain ⟨tr, fz, nx⟩ := h
  have hrun : setO bH tr (.miter (some mH) (some x.born) st) (fun tr => fbody (roundC ctl) stopK .none [] T [] ⟨A2.none, tr :: fz, nx⟩) = .ok (.stop T' []) h' := hrun
  rw [setO_eq] at hrun
  have hatF : ∀ p, Hp.at ⟨A2.none, tr.put (.miter (some mH) (some x.born) st) bH :: fz, nx⟩ p = atList p (tr.put (.miter (some mH) (some x.born) st) bH :: fz) := fun p => Hp.at_fz (A2.at_none p)
  have rel := rel_iter S (hF := ⟨A2.none, tr.put (.miter (some mH) (some x.born) st) bH :: fz, nx⟩) (fun p hp => by
      rw [hatF]
      have h1 : (tr.put (.miter (some mH) (some x.born) st) bH).at p = tr.at p := by rw [A2.at_put, if_neg (Ne.symm hp)]
      unfold Hp.at
      simp only [atList, h1]) (by
      rw [hatF]
      have h1 : (tr.put (.miter (some mH) (some x.born) st) bH).at bH = .miter (some mH) (some x.born) st := by rw [A2.at_put, if_pos rfl]
      rw [atList_cons (by rw [h1]; simp), h1]) rfl (fun p hp => absurd (A2.at_none p) hp)
  refine Reach.head stp_skip (round_runs hcodes hat hctl hkind hm rel ⟨(A.gi.evo S.evo).gw, (A.gi.evo S.evo).sz, fun p pl hp => absurd (A2.at_none p) hp⟩ S.tr S.defs hrun fun m1 w1 a1 hev htr hd => Reach.head stp_inLoop (hgo w1 a1 ?_))
  have hfr : ∀ bk, bk < w.heap.size → w1.heap[bk]? = w.heap[bk]? := fun bk hb => hev.frame bk hb fun p pl hp _ => absurd (A2.at_none p) hp
  obtain ⟨last, hit, hl⟩ := S.hit
  refine ⟨S.evo.grow hev.os hev.tape hev.output hev.size hfr, ⟨htr.1, fun t p hk => ?_⟩, S.fg, S.it, S.mb, S.base, Nat.lt_of_lt_of_le S.lt hev.size, ⟨last, by rw [hfr _ S.lt]; exact hit, hl⟩, S.apart, S.own, S.mm, S.map, S.noB, hd⟩
  rcases subT_inv hsub p with h | h
  · rw [h]; trivial
  · have h1 := htr.2 t p hk
    rw [← h] at h1
    exact VR.down hev.le _ _ _ (S.tr.2 t p hk) h1

/-- Every entry that is left is quiet. -/
theorem quiet_loop {T : VT} {h : Hp} (hexit : ctl.exit id .none [] T [] h = .ok A.o A.h') {m : M} (hm : m0.le m) : ∀ (n : Nat) (seen : Array Nat) (w : World) (a : Act), unseen es seen = n → LoopSt A c bd it it' bH mH plb q es st seen m T h w a →
    (∀ x ∈ es, x.born ∉ seen.toList → Quiet ctl fbody bH mH st T h x) → Reach A.G.P A.F (lone (b.at a (.code bd :: .inLoop bd :: k)) base w) := by
  intro n
  induction n using Nat.strongRecOn with
  | _ n ih =>
    intro seen w a hn S hq
    rcases iter (b := b) (base := base) (k := .inLoop bd :: k) (F := A.F) hcP hhead hnt hopd hes S with ⟨_, a', S', hr⟩ | ⟨x, hx, hxs, w1, a', S', hr⟩
    · exact hr (hctl.exit id (.code body :: .inLoop bd :: k) rfl m h w .none [] T [] a' base hm ⟨S'.evo, ⟨LR.nil, S'.tr⟩, by rw [S'.defs]; rfl, by rw [hkind]; rfl⟩ hexit)
    · refine hr (quiet_one hcodes hat hctl hkind hcP hhead hnt hopd hes hm (hq x hx hxs) S' fun w2 a2 S2 => ih _ (by rw [← hn]; exact unseen_lt hx hxs) _ w2 a2 rfl S2 fun y hy hys => hq y hy fun h => hys (by simp at h ⊢; exact .inl h))

/-- One entry that is left writes. -/
theorem active_loop {T T1 T2 : VT} {h h1 : Hp} {x0 : AEnt} (hact : actRound ctl fbody bH mH st x0 T h = .ok (.stop T1 []) h1) (hT2 : T2 = ((dstsOf bd).filterMap c.keep).foldl (fun T p => T.put .no p) T1) (hit2 : ∀ k, evO it' [] T2 k = k (.ptr bH 0))
    (hmap2 : Hp.at ⟨h1.tr, h.fz, h1.nx⟩ mH = .map es st) (hq2 : ∀ x ∈ es, x.born ≠ x0.born → Quiet ctl fbody bH mH st T2 ⟨h1.tr, h.fz, h1.nx⟩ x) (hexit : ctl.exit id .none [] T2 [] ⟨h1.tr, h.fz, h1.nx⟩ = .ok A.o A.h')
    (hpw : es.Pairwise fun a b => a.born ≠ b.born) (hx0 : x0 ∈ es) {m : M} (hm : m0.le m) : ∀ (n : Nat) (seen : Array Nat) (w : World) (a : Act), unseen es seen = n → LoopSt A c bd it it' bH mH plb q es st seen m T h w a → x0.born ∉ seen.toList →
    (∀ x ∈ es, x ≠ x0 → Quiet ctl fbody bH mH st T h x) → Reach A.G.P A.F (lone (b.at a (.code bd :: .inLoop bd :: k)) base w) := by
  intro n
  induction n using Nat.strongRecOn with
  | _ n ih =>
    intro seen w a hn S hs0 hq
    rcases iter (b := b) (base := base) (k := .inLoop bd :: k) (F := A.F) hcP hhead hnt hopd hes S with ⟨hall, _⟩ | ⟨x, hx, hxs, w1, a', S', hr⟩
    · exact absurd (hall x0 hx0) hs0
    · refine hr ?_
      by_cases hxx : x = x0
      · subst hxx
        obtain ⟨tr, fz, nx⟩ := h
        have hact : setO bH A2.none (.miter (some mH) (some x.born) st) (fun itr => fbody (roundC ctl) stopK .none [] T [] ⟨tr, itr :: fz, nx⟩) = .ok (.stop T1 []) h1 := hact
        rw [setO_eq] at hact
        let itr : A2 := A2.none.put (.miter (some mH) (some x.born) st) bH
        have hitr : ∀ p, p ≠ bH → itr.at p = .no := fun p hp => by
          show (A2.none.put _ bH).at p = _
          rw [A2.at_put, if_neg (Ne.symm hp), A2.at_none]
        have hitrb : itr.at bH = .miter (some mH) (some x.born) st := by
          show (A2.none.put _ bH).at bH = _
          rw [A2.at_put, if_pos rfl]
        have hal : ∀ p, p ≠ bH → atList p (itr :: fz) = atList p fz := fun p hp => by simp only [atList, hitr p hp]
        have halb : atList bH (itr :: fz) = .miter (some mH) (some x.born) st := by rw [atList_cons (by rw [hitrb]; simp), hitrb]
        have htrb : tr.at bH = .no := Classical.byContradiction fun hc => (by
          have := S.noB
          rw [Hp.at_tr hc] at this; exact hc this)
        have hfzb : atList bH fz = .no := by
          have := S.noB
          rw [Hp.at_fz htrb] at this; exact this
        have rel := rel_iter S' (hF := ⟨tr, itr :: fz, nx⟩) (fun p hp => by
            unfold Hp.at
            simp only [hal p hp]) (by rw [Hp.at_fz htrb]; exact halb) rfl (fun p hp => by
            have hpb : p ≠ bH := fun h => hp (by rw [h]; exact htrb)
            show atList p (itr :: fz) = .no
            rw [hal p hpb]
            exact S'.evo.rel.disj p hp)
        refine Reach.head stp_skip (round_runs hcodes hat hctl hkind hm rel ⟨(A.gi.evo S'.evo).gw, (A.gi.evo S'.evo).sz, fun p pl hp => (A.gi.evo S'.evo).own p pl hp⟩ S'.tr S'.defs hact fun m1 w2 a1 hev htr hd => Reach.head stp_inLoop ?_)
        have hfz1 : h1.fz = itr :: fz := hev.fz
        have h1b : h1.tr.at bH = .no := Classical.byContradiction fun hc => by
          have := hev.rel.disj bH hc
          rw [hfz1, halb] at this; cases this
        have h1at : h1.at bH = .miter (some mH) (some x.born) st := by rw [Hp.at_fz h1b, hfz1]; exact halb
        have hBb : Hp.at ⟨h1.tr, fz, h1.nx⟩ bH = .no := (Hp.at_fz (h := ⟨h1.tr, fz, h1.nx⟩) h1b).trans hfzb
        have hBat : ∀ p, p ≠ bH → Hp.at ⟨h1.tr, fz, h1.nx⟩ p = h1.at p := fun p hp => by
          unfold Hp.at
          rw [hfz1]
          simp only [hal p hp]
        have hBne : ∀ p, Hp.at ⟨h1.tr, fz, h1.nx⟩ p ≠ .no → p ≠ bH ∧ h1.at p ≠ .no := fun p hp => by
          have hpb : p ≠ bH := fun h => hp (by rw [h]; exact hBb)
          exact ⟨hpb, by rw [← hBat p hpb]; exact hp⟩
        have relB : Rel A.G A.ρ m1 ⟨h1.tr, fz, h1.nx⟩ w2 := by
          refine ⟨hev.rel.fresh, fun p hp => ?_, fun p p' pl pl' hp hp' => hev.rel.sep p p' pl pl' (hBne p hp).2 (hBne p' hp').2, fun p hp => ?_, hev.rel.glob⟩
          · obtain ⟨h2, h3⟩ := hBne p hp
            rw [hBat p h2]; exact hev.rel.dom p h3
          · have h2 := hev.rel.disj p hp
            rw [hfz1] at h2
            have hpb : p ≠ bH := fun h => by rw [h, halb] at h2; cases h2
            rw [hal p hpb] at h2; exact h2
        have evB : Evo A.G A.ρ m ⟨tr, fz, nx⟩ w1 m1 ⟨h1.tr, fz, h1.nx⟩ w2 := ⟨relB, hev.le, hev.os, hev.tape, hev.output, hev.size, hev.frame, hev.own, rfl, hev.nx, hev.low⟩
        have hblk : w2.heap[plb.blk]? = w1.heap[plb.blk]? := hev.frame plb.blk S'.lt fun p pl hp hmp he => S'.apart p pl (at_ne_of_tr hp) hmp he
        obtain ⟨last, hit, hl⟩ := S'.hit
        refine quiet_loop hcodes hat hctl hkind hcP hhead hnt hopd hes hexit (hm.trans hev.le) _ (seen.push x.born) w2 a1 rfl
          ⟨S'.evo.trans evB, ⟨htr.1, fun t p hk => ?_⟩, fun t ht p hk => ?_, hit2, hev.le _ _ S'.mb, S'.base, Nat.lt_of_lt_of_le S'.lt hev.size, ⟨last, by rw [hblk]; exact hit, hl⟩, fun p pl hp hmp he => ?_, S'.own, hev.le _ _ S'.mm, hmap2, hBb, hd⟩ (fun y hy hys => hq2 y hy fun hyb => hys (by simp [hyb]))
        · rw [hT2]
          rcases dels_at ((dstsOf bd).filterMap c.keep) T1 p with h | ⟨_, h⟩
          · rw [h]; trivial
          · rw [h]; exact htr.2 t p hk
        · rw [hT2]; exact dels_in (List.mem_filterMap.2 ⟨t, ht, hk⟩)
        · obtain ⟨h2, h3⟩ := hBne p hp
          exact h2 (hev.rel.sep p bH pl plb h3 (by rw [h1at]; simp) hmp (hev.le _ _ S'.mb) he)
      · have hxb : x.born ≠ x0.born := fun hb => hxx (pw_ne hpw hx hx0 hb)
        exact quiet_one hcodes hat hctl hkind hcP hhead hnt hopd hes hm (hq x hx hxx) S' fun w2 a2 S2 => ih _ (by rw [← hn]; exact unseen_lt hx hxs) _ w2 a2 rfl S2 (by simp at hs0 ⊢; exact ⟨hs0, fun h => hxb h.symm⟩) hq

end

theorem ok_mloop (hcP : c.P = A.G.P) (hcodes : ∀ I, CodeOk (A.to I) c ls fbody body [] e) {bd : Code} {it : Operand} {it' : Opd} {id : Nat} (hhead : mapHead bd = some (it, id, body)) (hnt : ((dstsOf bd).all fun t => Nat.blt t c.nt) = true) (hopd : c.opd [] it = some it') {ds : List Nat} :
    CodeOk A c ls (cMloop it' id ((dstsOf bd).filterMap c.keep) fbody) (.loop bd) ds [] := by
  intro m0 b base k ctl kn hat hctl hkn m h w par L T D a cs hm r he
  unfold cMloop at he
  split at he
  · rename_i hdfr
    rw [dels_eq] at he
    generalize hT0 : ((dstsOf bd).filterMap c.keep).foldl (fun T p => T.put .no p) T = T0 at he
    obtain ⟨av, hit, e1⟩ := (evO_det it' [] T0).get he
    obtain ⟨bH, o, rfl, e2⟩ := AV.onPtr_inv e1
    obtain ⟨ho, e3⟩ := ifK_inv e2
    obtain rfl := Nat.eq_of_beq_eq_true ho
    obtain ⟨hb, hatb, e4⟩ := ownK_inv e3
    have hkind : b.kind = .normal := by
      have := hctl.cb.fi.kind
      rw [hdfr] at this; exact this
    have hcs : cs = base := by have := r.cs'; rw [hkind] at this; exact this
    subst hcs
    have hdefs : a.defers = [] := by simpa only [DefL] using r.def'
    have htr0 : TR A.ρ c m T0 a.tmps := ⟨r.env.tr.1, fun t p hk => by
      rw [← hT0]
      rcases dels_at ((dstsOf bd).filterMap c.keep) T p with h | ⟨_, h⟩
      · rw [h]; trivial
      · rw [h]; exact r.env.tr.2 t p hk⟩
    generalize hob : h.tr.at bH = ob at e4
    split at e4
    · rename_i mH st
      have e4 : setK bH .no h (fun h => atK mH h fun ob => ob.onMap fun es cl => ifK (Nat.beq cl st && bornOk cl es [])
        (findAct ctl fbody bH mH st T0 h es none fun a =>
          match a with
          | none => ctl.exit id .none [] T0 [] h
          | some e => onStop (actRound ctl fbody bH mH st e T0 h) .bad fun T h1 => popK h h1 fun h =>
            delsK ((dstsOf bd).filterMap c.keep) T fun T => evO it' [] T fun a => a.onPtr fun b2 o2 => ifK (eqP b2 bH && Nat.beq o2 0)
              (atK mH h fun ob => ob.onMap fun es' cl' => ifK (Nat.beq cl' cl && beqE es es')
                (quietAll ctl fbody bH mH st T h (ctl.exit id .none [] T [] h) (es.filter fun e' => !Nat.beq e'.born e.born)) .bad) .bad) .bad) = .ok A.o A.h' := e4
      rw [setK_eq] at e4
      obtain ⟨hbm, e5⟩ := atK_inv e4
      obtain ⟨es, cl, hmap, e6⟩ := AObj.onMap_inv e5
      obtain ⟨hcl, e7⟩ := ifK_inv e6
      simp only [Bool.and_eq_true] at hcl
      obtain rfl := Nat.eq_of_beq_eq_true hcl.1
      obtain ⟨hes, _, hpw⟩ := bornOk_inv hcl.2
      obtain ⟨plb, hplb⟩ := ne_no_of_dom r.evo.rel (at_ne_of_tr hb)
      obtain ⟨hlt, hobj⟩ := obj_ok r.evo.rel (at_ne_of_tr hb) hplb
      rw [hatb, hob] at hobj
      obtain ⟨q, since, seen, st', hbase, hq, hit0, hseen, hsince⟩ := hobj
      subst hseen
      subst hsince
      have hdel := Evo.del r.evo.rel hb
      have hne : ∀ p, Hp.at ⟨h.tr.put .no bH, h.fz, h.nx⟩ p ≠ .no → bH ≠ p ∧ h.at p ≠ .no := fun p hp => by
        by_cases e : bH = p
        · subst e; rw [Hp.at_put_no, r.evo.rel.disj bH hb] at hp; exact absurd rfl hp
        · rw [Hp.at_put_other e] at hp; exact ⟨e, hp⟩
      have S : LoopSt A c bd it it' bH mH plb q es since #[] m T0 ⟨h.tr.put .no bH, h.fz, h.nx⟩ w a :=
        ⟨r.evo.trans hdel, htr0, fun t ht p hk => by rw [← hT0]; exact dels_in (List.mem_filterMap.2 ⟨t, ht, hk⟩), hit, hplb, hbase, hlt, ⟨st', hit0, .inl rfl⟩,
          fun p pl hp hmp he => (hne p hp).1 (r.evo.rel.sep p bH pl plb (hne p hp).2 (at_ne_of_tr hb) hmp hplb he).symm, r.evo.own bH plb hb hplb, hq, hmap, by rw [Hp.at_put_no]; exact r.evo.rel.disj bH hb, hdefs⟩
      refine Reach.head stp_loop ?_
      obtain ⟨act, e8, hquiet, hact⟩ := findAct_inv e7
      cases act with
      | none =>
        exact quiet_loop hcodes hat hctl hkind hcP hhead hnt hopd hes e8 hm _ #[] w a rfl S fun x hx _ => by
          rcases hquiet x hx with h | h
          · exact h
          · cases h
      | some x0 =>
        have hx0 : x0 ∈ es := by
          rcases hact with h | ⟨_, y, hy, hy2⟩
          · cases h
          · simp only [Option.some.injEq] at hy2; rw [hy2]; exact hy
        rcases onStop_inv e8 with e8 | ⟨T1, h1, e9, e10⟩
        · cases e8
        · obtain ⟨tr1, fz1, nx1⟩ := h1
          have e10 : delsK ((dstsOf bd).filterMap c.keep) T1 (fun T => evO it' [] T fun a => a.onPtr fun b2 o2 => ifK (eqP b2 bH && Nat.beq o2 0)
              (atK mH ⟨tr1, h.fz, nx1⟩ fun ob => ob.onMap fun es' since' => ifK (Nat.beq since' since && beqE es es')
                (quietAll ctl fbody bH mH since T ⟨tr1, h.fz, nx1⟩ (ctl.exit id .none [] T [] ⟨tr1, h.fz, nx1⟩) (es.filter fun e' => !Nat.beq e'.born x0.born)) .bad) .bad) = .ok A.o A.h' := e10
          rw [dels_eq] at e10
          generalize hT2 : ((dstsOf bd).filterMap c.keep).foldl (fun T p => T.put .no p) T1 = T2 at e10
          obtain ⟨av2, hit2, e11⟩ := (evO_det it' [] T2).get e10
          obtain ⟨b2, o2, rfl, e12⟩ := AV.onPtr_inv e11
          obtain ⟨hbo, e13⟩ := ifK_inv e12
          simp only [Bool.and_eq_true] at hbo
          obtain rfl := eqP_inj hbo.1
          obtain rfl := Nat.eq_of_beq_eq_true hbo.2
          obtain ⟨_, e14⟩ := atK_inv e13
          obtain ⟨es', cl', hmap2, e15⟩ := AObj.onMap_inv e14
          obtain ⟨hee, e16⟩ := ifK_inv e15
          simp only [Bool.and_eq_true] at hee
          obtain rfl := Nat.eq_of_beq_eq_true hee.1
          obtain rfl := beqE_eq hee.2
          obtain ⟨hexit, hq2⟩ := quietAll_inv e16
          refine active_loop hcodes hat hctl hkind hcP hhead hnt hopd hes e9 hT2.symm hit2 hmap2 (fun x hx hxb => hq2 x ?_) hexit hpw hx0 hm _ #[] w a rfl S (by simp) fun x hx hxx => by
            rcases hquiet x hx with h | h
            · exact h
            · simp only [Option.some.injEq] at h; exact absurd h.symm hxx
          rw [List.mem_filter]
          refine ⟨hx, ?_⟩
          cases hbq : Nat.beq x.born x0.born with
          | false => rfl
          | true => exact absurd (Nat.eq_of_beq_eq_true hbq) hxb
    · cases e4
  · cases he

end
end Go.Proofs.YtpngpoeifgkclaaGreatDoor.Am

/- Every text that the compiler makes is run as the model runs it; so is every function. -/
namespace Go.Proofs.YtpngpoeifgkclaaGreatDoor.Am

theorem code_ok {c : Cx} {ls : List RfA} {x : Code} {x' : ACode} {ds ds' : List Nat} (h : CodeRel c ls x x' ds ds') : ∀ A : Aim, c.P = A.G.P → CodeOk A c ls x'.sh x ds ds' := by
  induction h with
  | skip => exact fun A _ => ok_skip
  | reg h => exact fun A hcP => ok_reg hcP h
  | dreg h => exact fun A hcP => ok_dreg hcP h
  | seq _ _ i1 i2 => exact fun A hcP => ok_seq (i1 A hcP) (i2 A hcP)
  | cond hx _ _ i1 i2 => exact fun A hcP => ok_cond hx (i1 A hcP) (i2 A hcP)
  | block _ i1 => exact fun A hcP => ok_block (i1 A hcP)
  | loop _ i1 => exact fun A hcP => ok_loop (i1 A hcP)
  | rf hf hi hps hx hy _ _ => exact fun A hcP => ok_rf hf hi hps hx hy
  | exit => exact fun A _ => ok_exit
  | label => exact fun A _ => fun m0 b base k ctl kn ha hc hk => KnOk.weak (ok_label m0 b base k ctl kn ha hc hk)
  | scope _ i1 => exact fun A hcP => ok_scope (i1 A hcP)
  | ret => exact fun A _ => ok_ret
  | no => exact fun A _ => ok_no
  | mloop hm ho hf hn _ i1 => subst hf; exact fun A hcP => ok_mloop hcP (fun I => i1 (A.to I) hcP) hm hn ho

theorem codes_ok (A : Aim) : CodesOk A := fun f _ _ _ _ _ _ _ h => code_ok h A (A.G.hcx f)

theorem rel_cond {c : Cx} {ls : List RfA} {x : Operand} {a b : Code} {y : ACode} {ds e : List Nat} (h : CodeRel c ls (.cond x a b) y ds e) : e = [] := by cases h <;> rfl
theorem rel_region {c : Cx} {ls : List RfA} {id : Nat} {ops : Array Oper} {y : ACode} {ds e : List Nat} (h : CodeRel c ls (.region id ops false) y ds e) : (∃ l, c.ops ops ops.toList ds = some (l, e)) ∨ e = [] := by
  cases h with
  | reg h => exact .inl ⟨_, h⟩
  | no => exact .inr rfl

theorem comp_rel {c : Cx} {ls : List RfA} : ∀ {x : Code} {ds : List Nat} {n : Nat} {x' : ACode} {ds' : List Nat} {l : List RfA}, c.comp c.dr x ds n = some (x', ds', l) → (∀ j r, l[j]? = some r → ls[n + j]? = some r) → CodeRel c ls x x' ds ds'
  | .skip, ds, n, x', ds', l, h, _ => by
    simp only [Cx.comp, Option.some.injEq, Prod.mk.injEq] at h
    obtain ⟨rfl, rfl, rfl⟩ := h
    exact .skip
  | .region id ops draw, ds, n, x', ds', l, h, _ => by
    cases draw with
    | true =>
      simp only [Cx.comp, if_true] at h
      cases hq : c.dr ops ds with
      | none =>
        simp only [hq, Option.some.injEq, Prod.mk.injEq] at h
        obtain ⟨rfl, rfl, rfl⟩ := h
        exact .no
      | some q =>
        simp only [hq, Option.some.injEq, Prod.mk.injEq] at h
        obtain ⟨rfl, rfl, rfl⟩ := h
        exact .dreg hq
    | false =>
      simp only [Cx.comp, Bool.false_eq_true, if_false] at h
      cases hq : c.ops ops ops.toList ds with
      | none =>
        simp only [hq, Option.some.injEq, Prod.mk.injEq] at h
        obtain ⟨rfl, rfl, rfl⟩ := h
        exact .no
      | some q =>
        simp only [hq, Option.some.injEq, Prod.mk.injEq] at h
        obtain ⟨rfl, rfl, rfl⟩ := h
        exact .reg hq
  | .seq a b, ds, n, x', ds', l, h, hl => by
    simp only [Cx.comp] at h
    split at h
    · rename_i a' ds1 la ha
      split at h
      · rename_i b' ds2 lb hb
        simp only [Option.some.injEq, Prod.mk.injEq] at h
        obtain ⟨rfl, rfl, rfl⟩ := h
        refine .seq (comp_rel ha fun j r hj => hl j r ?_) (comp_rel hb fun j r hj => ?_)
        · rw [List.getElem?_append_left (List.getElem?_eq_some_iff.1 hj).1]; exact hj
        · have := hl (la.length + j) r (by rw [List.getElem?_append_right (by omega)]; simpa using hj)
          rwa [show n + la.length + j = n + (la.length + j) by omega]
      · cases h
    · cases h
  | .cond x a b, ds, n, x', ds', l, h, hl => by
    simp only [Cx.comp] at h
    split at h
    · rename_i y a' ds1 la hy ha
      split at h
      · rename_i b' ds2 lb hb
        simp only [Option.some.injEq, Prod.mk.injEq] at h
        obtain ⟨rfl, rfl, rfl⟩ := h
        refine .cond hy (comp_rel ha fun j r hj => hl j r ?_) (comp_rel hb fun j r hj => ?_)
        · rw [List.getElem?_append_left (List.getElem?_eq_some_iff.1 hj).1]; exact hj
        · have := hl (la.length + j) r (by rw [List.getElem?_append_right (by omega)]; simpa using hj)
          rwa [show n + la.length + j = n + (la.length + j) by omega]
      · cases h
    · simp only [Option.some.injEq, Prod.mk.injEq] at h
      obtain ⟨rfl, rfl, rfl⟩ := h
      exact .no
  | .block id b, ds, n, x', ds', l, h, hl => by
    simp only [Cx.comp] at h
    split at h
    · rename_i b' ds1 lb hb
      simp only [Option.some.injEq, Prod.mk.injEq] at h
      obtain ⟨rfl, rfl, rfl⟩ := h
      exact .block (comp_rel hb hl)
    · cases h
  | .loop b, ds, n, x', ds', l, h, hl => by
    simp only [Cx.comp] at h
    split at h
    · rename_i b' ds1 lb hb
      split at h
      · rename_i it id body hhead
        split at h
        · rename_i it' a1 a2 b'' hit
          split at h
          · rename_i hall
            simp only [Option.some.injEq, Prod.mk.injEq] at h
            obtain ⟨rfl, rfl, rfl⟩ := h
            have hrel := comp_rel hb hl
            obtain ⟨rid, ops, u, t, o0, o1, hbd, _⟩ := mapHead_inv hhead
            have hrel' := hrel
            rw [hbd] at hrel'
            cases hrel' with
            | seq h1 h2 =>
              cases h2 with
              | seq h3 h4 =>
                have := rel_cond h3
                subst this
                exact .mloop hhead hit rfl hall h4
          · simp only [Option.some.injEq, Prod.mk.injEq] at h
            obtain ⟨rfl, rfl, rfl⟩ := h
            exact .no
        · simp only [Option.some.injEq, Prod.mk.injEq] at h
          obtain ⟨rfl, rfl, rfl⟩ := h
          exact .no
      · simp only [Option.some.injEq, Prod.mk.injEq] at h
        obtain ⟨rfl, rfl, rfl⟩ := h
        exact .loop (comp_rel hb hl)
    · cases h
  | .rangeFunc f ps a b, ds, n, x', ds', l, h, hl => by
    simp only [Cx.comp] at h
    split at h
    · rename_i f' ps' a' ds1 la hf hps ha
      split at h
      · rename_i b' ds2 lb hb
        simp only [Option.some.injEq, Prod.mk.injEq] at h
        obtain ⟨rfl, rfl, rfl⟩ := h
        refine .rf (r := ⟨ps', a', b'⟩) hf (by simpa using hl 0 ⟨ps', a', b'⟩ rfl) hps (comp_rel ha fun j r hj => ?_) (comp_rel hb fun j r hj => ?_)
        · have := hl (1 + j) r (by rw [Nat.add_comm 1 j, List.getElem?_cons_succ, List.getElem?_append_left (List.getElem?_eq_some_iff.1 hj).1]; exact hj)
          rwa [show n + 1 + j = n + (1 + j) by omega]
        · have := hl (1 + la.length + j) r (by rw [show 1 + la.length + j = (la.length + j) + 1 by omega, List.getElem?_cons_succ, List.getElem?_append_right (by omega)]; simpa using hj)
          rwa [show n + 1 + la.length + j = n + (1 + la.length + j) by omega]
      · cases h
    · simp only [Option.some.injEq, Prod.mk.injEq] at h
      obtain ⟨rfl, rfl, rfl⟩ := h
      exact .no
  | .exit id, ds, n, x', ds', l, h, _ => by
    simp only [Cx.comp, Option.some.injEq, Prod.mk.injEq] at h
    obtain ⟨rfl, rfl, rfl⟩ := h
    exact .exit
  | .goto _, ds, n, x', ds', l, h, _ => by
    simp only [Cx.comp, Option.some.injEq, Prod.mk.injEq] at h
    obtain ⟨rfl, rfl, rfl⟩ := h
    exact .no
  | .label _, ds, n, x', ds', l, h, _ => by
    simp only [Cx.comp, Option.some.injEq, Prod.mk.injEq] at h
    obtain ⟨rfl, rfl, rfl⟩ := h
    exact .label
  | .scope b, ds, n, x', ds', l, h, hl => by
    simp only [Cx.comp] at h
    split at h
    · rename_i b' ds1 lb hb
      simp only [Option.some.injEq, Prod.mk.injEq] at h
      obtain ⟨rfl, rfl, rfl⟩ := h
      exact .scope (comp_rel hb hl)
    · cases h
  | .ret, ds, n, x', ds', l, h, _ => by
    simp only [Cx.comp, Option.some.injEq, Prod.mk.injEq] at h
    obtain ⟨rfl, rfl, rfl⟩ := h
    exact .ret
  | .refuse _, ds, n, x', ds', l, h, _ => by
    simp only [Cx.comp, Option.some.injEq, Prod.mk.injEq] at h
    obtain ⟨rfl, rfl, rfl⟩ := h
    exact .no

theorem bodies_ok (A : Aim) : BodiesOk A := by
  intro p d fn body hfd hfn hdef hnt hbody
  obtain ⟨body', ds, l, hb, hcomp, hl, _⟩ := fdef_inv hdef
  rw [hbody] at hb
  cases hb
  have hP := A.G.hcx p
  have hcx : A.G.cx p = ⟨A.G.P, (A.G.cx p).rn, fn.ntmps⟩ := by
    cases hcx : A.G.cx p with | mk P rn nt =>
    rw [hcx] at hP hnt
    simp only at hP hnt
    rw [hP, hnt]
  rw [← hcx] at hcomp
  exact ⟨ds, comp_rel hcomp fun j r hj => by rw [hl, Nat.zero_add]; exact hj⟩

/-- Every function is run as the machine runs it. -/
theorem runs_ok (A : Aim) (n : Nat) : RunOk A (runK A.G.ft n) := run_ok (A := A) (fun I => codes_ok (A.to I)) (bodies_ok A) n A.own

/-- A call of the model's ends as the machine's does. -/
theorem calls_of (G : Gp) (ρ : Rho) {n : Nat} {p : Hi} {m : M} {h h' : Hp} {w : World} {args : List AV} {vs : List Value} {a : AV} (rel : Rel G ρ m h w) (gi : GI G m h w) (hv : VRL ρ m args vs) (hrun : runK G.ft n false .none p args h finK = .ok (.ret a) h') :
    Calls G.P p.val vs.toArray w (fun e w' => ∃ v m', e = .returned v ∧ VR ρ m' a v ∧ Evo G ρ m h w m' h' w') := by
  intro cs
  let R : Ending → World → Prop := fun e w' => ∃ v m', e = .returned v ∧ VR ρ m' a v ∧ Evo G ρ m h w m' h' w'
  let F : Machine → Prop := fun M => ∃ e w' fr, R e w' ∧ M = lone fr cs w' ∧ Comes G.P (lone fr cs w') (lone fr cs w') e ∧ fr.fn = p.val ∧ fr.leaving G.P w' e
  let A : Aim := ⟨G, ρ, m, h, w, F, .ret a, h', gi⟩
  have hl : LeavesTo A m finK p.val .normal cs := by
    intro m1 h1 w1 par cs1 fr fn hm1 ev hcs hk hd hf hfn
    have hcs : cs1 = cs := hcs
    subst hcs
    refine ⟨fun a1 v hmode hr hv1 e => ?_, fun c chain _ _ e => ?_⟩
    · have e : Res.ok (.ret a1) h1 = .ok (.ret a) h' := e
      simp only [Res.ok.injEq, AOut.ret.injEq] at e
      obtain ⟨rfl, rfl⟩ := e
      exact ⟨_, ⟨0, rfl⟩, .returned v, w1, fr, ⟨v, m1, rfl, hv1, ev⟩, rfl, ⟨0, rfl⟩, hf, hmode, hd, hk, fn, by rw [hf]; exact hfn, hr⟩
    · have e : Res.ok (.pan c) h1 = .ok (.ret a) h' := e
      simp only [Res.ok.injEq] at e
      cases e.1
  obtain ⟨M, hs, e, w', fr, hR, rfl, _, h2, h3⟩ := (runs_ok A n).run (dfr := false) (base := cs) (cs := cs) (Evo.refl rel) hv rfl hl hrun
  refine ⟨e, w', fr, hR, ?_, h2, h3⟩
  obtain ⟨v, m', rfl, _⟩ := hR
  exact hs

end Go.Proofs.YtpngpoeifgkclaaGreatDoor.Am

