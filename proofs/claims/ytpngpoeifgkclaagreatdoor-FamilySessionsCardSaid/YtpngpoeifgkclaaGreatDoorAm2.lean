/- A machine that the kernel runs, and the proof that what it answers is what the model of Go answers (part 2 of 3). No condition. -/
import Derived.Test.YtpngpoeifgkclaaGreatDoorAm1
import Derived.Laws.BytesArg
import Derived.Laws.Append
import Derived.Laws.RangeString
import Derived.Calls
/- Equality, maps that are read, aggregates that are made. -/
namespace Go.Proofs.YtpngpoeifgkclaaGreatDoor.Am

theorem dgN_val (d : Dg) : dgN d = d.val := by cases d <;> rfl
theorem eqD_ok {a b : Dg} : eqD a b = true ↔ a = b := by
  unfold eqD; rw [dgN_val, dgN_val, Nat.beq_eq]; exact ⟨Dg.val_inj, fun h => by rw [h]⟩
theorem eqP_ok {p q : Hi} : eqP p q = true ↔ p = q := by
  cases p with | mk a b c => cases q with | mk d e f =>
  show (eqD c f && (eqD b e && eqD a d)) = true ↔ _
  simp only [Bool.and_eq_true, eqD_ok, Hi.mk.injEq]
  exact ⟨fun ⟨h1, h2, h3⟩ => ⟨h3, h2, h1⟩, fun ⟨h3, h2, h1⟩ => ⟨h1, h2, h3⟩⟩

section
variable {G : Gp} {ρ : Rho} {m : M} {h : Hp} {w : World}

/-- Two values of the model, and whether they are the same. -/
def KeyIs (v u : Value) (b : Bool) : Prop :=
  (∃ κ x y, v = .int κ x ∧ u = .int κ y ∧ b = (x == y)) ∨ (∃ s t, v = .string s ∧ u = .string t ∧ b = (s.toList == t.toList)) ∨ (∃ p q, v = .bool p ∧ u = .bool q ∧ b = (p == q))

theorem keyEq_inv {x y : AV} {v u : Value} (hv : VR ρ m x v) (hu : VR ρ m y u) {k : Bool → Res} {o : AOut} {h' : Hp} (e : keyEq x y k = .ok o h') : ∃ b, k b = .ok o h' ∧ KeyIs v u b := by
  cases x <;> first | (cases e; done) | skip
  case bool p =>
    obtain ⟨q, rfl, e1⟩ := AV.onBool_inv (show AV.onBool y _ = .ok o h' from e)
    rw [boolK_eq] at e1
    simp only [VR] at hv hu
    exact ⟨p == q, e1, .inr (.inr ⟨p, q, hv, hu, rfl⟩)⟩
  case int i a =>
    obtain ⟨j, b, rfl, e1⟩ := AV.onInt_inv (show AV.onInt y _ = .ok o h' from e)
    obtain ⟨h1, e2⟩ := ifK_inv e1
    obtain rfl := Nat.eq_of_beq_eq_true h1
    rw [boolK_eq, eqI_eq] at e2
    simp only [VR] at hv hu
    exact ⟨a == b, e2, .inl ⟨_, a, b, hv, hu, rfl⟩⟩
  case str n a =>
    obtain ⟨n2, b, rfl, e1⟩ := AV.onStr_inv (show AV.onStr y _ = .ok o h' from e)
    rw [boolK_eq] at e1
    obtain ⟨s, rfl, hs⟩ := hv
    obtain ⟨t, rfl, ht⟩ := hu
    rw [eqS_ok hs ht] at e1
    exact ⟨_, e1, .inr (.inl ⟨s, t, rfl, rfl, rfl⟩)⟩

/-- The value fits the kind of key. -/
def KeyOf (d : TypeDesc) (v : Value) : Prop := (∃ κ, d = .int κ ∧ ∃ k n, v = .int k n) ∨ (d = .string ∧ ∃ s, v = .string s) ∨ (d = .bool ∧ ∃ b, v = .bool b)

theorem keyIs_inv {c : Cx} {t : TypeId} {q : Nat} (hq : c.keyNo t = some q) {x : AV} {v : Value} (hv : VR ρ m x v) {k : Res} {o : AOut} {h' : Hp} (e : keyIs q x k = .ok o h') : k = .ok o h' ∧ ∃ d, c.P.underlying t = some d ∧ KeyOf d v := by
  unfold Cx.keyNo at hq
  split at hq <;> cases hq
  · rename_i κ hd
    obtain ⟨k1, n, rfl, e1⟩ := AV.onInt_inv (show AV.onInt x _ = .ok o h' from e)
    exact ⟨e1, _, hd, .inl ⟨κ, rfl, _, _, hv⟩⟩
  · rename_i hd
    obtain ⟨n, a, rfl, e1⟩ := AV.onStr_inv (show AV.onStr x _ = .ok o h' from e)
    obtain ⟨s, rfl, _⟩ := hv
    exact ⟨e1, _, hd, .inr (.inl ⟨rfl, s, rfl⟩)⟩
  · rename_i hd
    obtain ⟨b, rfl, e1⟩ := AV.onBool_inv (show AV.onBool x _ = .ok o h' from e)
    exact ⟨e1, _, hd, .inr (.inr ⟨rfl, b, hv⟩)⟩

theorem sameNow_ok {d : TypeDesc} {v u : Value} {b : Bool} (hk : KeyOf d v) (h : KeyIs v u b) : Instr.sameNow d v u = some b := by
  rcases h with ⟨κ, x, y, rfl, rfl, rfl⟩ | ⟨s, t, rfl, rfl, rfl⟩ | ⟨p, q, rfl, rfl, rfl⟩
  · rcases hk with ⟨κ', rfl, _⟩ | ⟨_, _, h⟩ | ⟨_, _, h⟩
    · simp [Instr.sameNow]
    · cases h
    · cases h
  · rcases hk with ⟨κ', _, _, _, h⟩ | ⟨rfl, _⟩ | ⟨_, _, h⟩
    · cases h
    · simp only [Instr.sameNow]; rw [beq_toListBytes]
    · cases h
  · rcases hk with ⟨κ', _, _, _, h⟩ | ⟨_, _, h⟩ | ⟨rfl, _⟩
    · cases h
    · cases h
    · simp [Instr.sameNow]

/-- What a search in a map gives. -/
inductive FindR (ρ : Rho) (m : M) (v : Value) (es : List AEnt) (E : List MapEntry) : Option (Nat × AEnt) → Option (Nat × Value) → Prop
  | none : FindR ρ m v es E none none
  | some {i : Nat} {a : AEnt} {e : MapEntry} : es[i]? = some a → E[i]? = some e → VR ρ m a.val e.val → a.born = e.born → KeyIs v e.key true → FindR ρ m v es E (some (i, a)) (some (i, e.val))

theorem findK_aux {d : TypeDesc} {x : AV} {v : Value} (hv : VR ρ m x v) (hk : KeyOf d v) {es0 : List AEnt} {E0 : List MapEntry} : ∀ {es : List AEnt} {E : List MapEntry}, EntR ρ m es E → ∀ {i : Nat}, es0.drop i = es → E0.drop i = E →
    ∀ {k : Option (Nat × AEnt) → Res} {o : AOut} {h' : Hp}, findK x es i k = .ok o h' → ∃ a b, k a = .ok o h' ∧ Instr.findNow d v E i = some b ∧ FindR ρ m v es0 E0 a b := by
  intro es
  induction es with
  | nil =>
    intro E hE i h1 h2 k o h' e
    simp only [EntR] at hE
    subst hE
    exact ⟨none, none, e, rfl, .none⟩
  | cons a es ih =>
    intro E hE i h1 h2 k o h' e
    obtain ⟨en, r, rfl, hkey, hval, hborn, hr⟩ := hE
    have e : keyEq x a.key (fun b => ifK b (k (some (i, a))) (natK (Nat.succ i) fun i => findK x es i k)) = .ok o h' := e
    obtain ⟨b, e1, hb⟩ := keyEq_inv hv hkey e
    have hs := sameNow_ok hk hb
    rw [ifK_eq, natK_eq] at e1
    cases b with
    | true =>
      refine ⟨some (i, a), some (i, en.val), e1, by simp only [Instr.findNow, hs], .some ?_ ?_ hval hborn hb⟩
      · have := congrArg (·[0]?) h1; simpa using this
      · have := congrArg (·[0]?) h2; simpa using this
    | false =>
      obtain ⟨a', b', h3, h4, h5⟩ := ih hr (i := i + 1) (by have := congrArg List.tail h1; simpa [List.tail_drop] using this) (by have := congrArg List.tail h2; simpa [List.tail_drop] using this) e1
      exact ⟨a', b', h3, by simp only [Instr.findNow, hs]; exact h4, h5⟩

theorem findK_ok {t : TypeId} {d : TypeDesc} {x : AV} {v : Value} (hv : VR ρ m x v) (hd : G.P.underlying t = some d) (hk : KeyOf d v) {es : List AEnt} {E : Array MapEntry} (hE : EntR ρ m es E.toList)
    {k : Option (Nat × AEnt) → Res} {o : AOut} {h' : Hp} (e : findK x es 0 k = .ok o h') : ∃ a b, k a = .ok o h' ∧ (∀ w, (Instr.findKey t v E.toList).run G.P w = .ok b w) ∧ FindR ρ m v es E.toList a b := by
  obtain ⟨a, b, h1, h2, h3⟩ := findK_aux hv hk (es0 := es) (E0 := E.toList) hE rfl rfl e
  exact ⟨a, b, h1, fun w => by simp only [Instr.findKey, Sem.run_bind, run_underlying hd, Result.andThen_ok, h2, Sem.run_pure], h3⟩

theorem checkKey_ok' {t : TypeId} {d : TypeDesc} {v : Value} (hd : G.P.underlying t = some d) (hk : KeyOf d v) (b : Bool) (n : Nat) (w : World) : (Instr.checkKey b (n + 1) t v).run G.P w = .ok () w := by
  rcases hk with ⟨κ', rfl, k, n, rfl⟩ | ⟨rfl, s, rfl⟩ | ⟨rfl, p, rfl⟩ <;> simp [Instr.checkKey, run_underlying hd]

theorem checkKey_ok {t : TypeId} {d : TypeDesc} {v : Value} (hd : G.P.underlying t = some d) (hk : KeyOf d v) (b : Bool) (w : World) : (Instr.checkKey b 10000 t v).run G.P w = .ok () w :=
  checkKey_ok' hd hk b 9999 w

theorem equal_of {t : TypeId} {x y : Value} {b : Bool} {P : Program} (h : ∀ d, (Op.equalIn (d + 1) t x y).run P w = .ok b w) : (Op.equal t x y).run P w = .ok b w := h 9999

theorem okd_inv {ok : Bool} {a : AV} {b : Bool} {k : AV → Res} {o : AOut} {h' : Hp} (e : okd ok a b k = .ok o h') {v : Value} (hv : VR ρ m a v) :
    ∃ a' , VR ρ m a' (if ok then .tuple #[v, .bool b] else v) ∧ k a' = .ok o h' := by
  have e : ifK ok (k (.tup [a, .bool b])) (k a) = .ok o h' := e
  rw [ifK_eq] at e
  cases ok with
  | true => exact ⟨.tup [a, .bool b], ⟨#[v, .bool b], rfl, ⟨v, [.bool b], rfl, hv, ⟨.bool b, [], rfl, rfl, rfl⟩⟩⟩, e⟩
  | false => exact ⟨a, hv, e⟩

section
variable {c : Cx} {ds : List Nat} {L : List AV} {T : VT} {tmps : Array Value} (hc : c.P = G.P) (r : Rel G ρ m h w) (e : Env c m ds L T tmps G ρ)
include hc r e

theorem vLup_ok {t u el : TypeId} {q : Nat} {z : AV} {ok : Bool} {x y : Operand} {x' y' : Opd} (ht : c.P.underlying t = some (.map u el)) (hq : c.keyNo u = some q) (hz : c.zeroA el = some z) (hx : c.opd ds x = some x') (hy : c.opd ds y = some y') :
    VOk G ρ m L T tmps h w (vLup q x' y' z ok) (.lookup t x y ok) := by
  intro k o h' he
  obtain ⟨a, hv, e1⟩ := opd_sound hc r e hx he
  obtain ⟨b, hv2, e2⟩ := opd_sound hc r e hy e1
  obtain ⟨e3, d, hd, hkd⟩ := keyIs_inv hq hv2 e2
  rw [hc] at ht hd
  obtain ⟨zv, hz1, hz2⟩ : ∃ zv, c.zero el = some zv ∧ absV zv = some z := by
    unfold Cx.zeroA at hz
    cases hzz : c.zero el with
    | none => simp [hzz] at hz
    | some zv => exact ⟨zv, rfl, by simpa [hzz] using hz⟩
  have hzr := fun w => run_zeroValue (w := w) hc hz1
  rcases AV.onMap_inv e3 with ⟨rfl, e4⟩ | ⟨b0, rfl, e4⟩
  · simp only [VR] at hv
    obtain ⟨a', h1, h2⟩ := okd_inv e4 (absV_sound (ρ := ρ) (m := m) hz2)
    refine ⟨a', _, h1, h2, fun oper hop => ?_⟩
    have hf : ∀ w, (Instr.findKey u (ev tmps y) []).run G.P w = .ok none w := fun w => by simp only [Instr.findKey, Sem.run_bind, run_underlying hd, Result.andThen_ok, Instr.findNow, Sem.run_pure]
    simp only [execOp, hop, hv, Instr.lookup, Sem.run_bind, run_underlying ht, Result.andThen_ok, Sem.run_pure, checkKey_ok hd hkd, hf, hzr]
  · obtain ⟨hb, e5⟩ := atK_inv e4
    obtain ⟨es, cl, hob, e6⟩ := AObj.onMap_inv e5
    obtain ⟨pl, hm, hv⟩ := hv
    obtain ⟨hlt, hobj⟩ := obj_ok r hb hm
    rw [hob] at hobj
    obtain ⟨E, hE, hER⟩ := hobj
    obtain ⟨fa, fb, e7, hf, hfr⟩ := findK_ok hv2 hd hkd hER e6
    have hget : ∀ w', w' = w → (getObj pl.blk).run G.P w' = .ok (.map E cl) w' := fun w' hw => by subst hw; simp only [getObj, Sem.run, hE]
    cases hfr with
    | none =>
      obtain ⟨a', h1, h2⟩ := okd_inv e7 (absV_sound (ρ := ρ) (m := m) hz2)
      refine ⟨a', _, h1, h2, fun oper hop => ?_⟩
      simp only [execOp, hop, hv, Instr.lookup, Sem.run_bind, run_underlying ht, Result.andThen_ok, hget w rfl, Sem.run_pure, checkKey_ok hd hkd, hf, hzr]
    | some h3 h4 h5 h6 h7 =>
      obtain ⟨a', h1, h2⟩ := okd_inv e7 h5
      refine ⟨a', _, h1, h2, fun oper hop => ?_⟩
      simp only [execOp, hop, hv, Instr.lookup, Sem.run_bind, run_underlying ht, Result.andThen_ok, hget w rfl, Sem.run_pure, checkKey_ok hd hkd, hf]

theorem vTas_ok {xt t : TypeId} {d : TypeDesc} {z : AV} {x : Operand} {x' : Opd} (hd : c.P.underlying t = some d) (hni : ∀ ms, d ≠ .interface ms) (hz : c.zeroA t = some z) (hx : c.opd ds x = some x') :
    VOk G ρ m L T tmps h w (vTas x' t z) (.typeAssert x xt t true) := by
  intro k o h' he
  obtain ⟨a, hv, e1⟩ := opd_sound hc r e hx he
  rw [hc] at hd
  obtain ⟨zv, hz1, hz2⟩ : ∃ zv, c.zero t = some zv ∧ absV zv = some z := by
    unfold Cx.zeroA at hz
    cases hzz : c.zero t with
    | none => simp [hzz] at hz
    | some zv => exact ⟨zv, rfl, by simpa [hzz] using hz⟩
  have hzr := fun w => run_zeroValue (w := w) hc hz1
  have tupR : ∀ {p : AV} {v : Value} (b : Bool), VR ρ m p v → VR ρ m (.tup [p, .bool b]) (.tuple #[v, .bool b]) := fun b hp => ⟨_, rfl, ⟨_, _, rfl, hp, ⟨.bool b, [], rfl, rfl, rfl⟩⟩⟩
  rcases AV.onIfc_inv e1 with ⟨rfl, e2⟩ | ⟨u, y, rfl, e2⟩
  · simp only [VR] at hv
    refine ⟨_, _, tupR false (absV_sound (ρ := ρ) (m := m) hz2), e2, fun oper hop => ?_⟩
    simp only [execOp, hop, hv, Instr.typeAssert, Sem.run_bind, run_underlying hd, Result.andThen_ok]
    cases d <;> first | exact absurd rfl (hni _) | simp [hzr]
  · obtain ⟨yv, hv, hy⟩ := hv
    rw [ifK_eq] at e2
    by_cases hut : u = t
    · subst hut
      simp only [Nat.beq_refl, if_true] at e2
      refine ⟨_, _, tupR true hy, e2, fun oper hop => ?_⟩
      simp only [execOp, hop, hv, Instr.typeAssert, Sem.run_bind, run_underlying hd, Result.andThen_ok]
      cases d <;> first | exact absurd rfl (hni _) | simp
    · have hne : ¬ (Nat.beq u t = true) := fun h => hut (Nat.eq_of_beq_eq_true h)
      rw [if_neg hne] at e2
      refine ⟨_, _, tupR false (absV_sound (ρ := ρ) (m := m) hz2), e2, fun oper hop => ?_⟩
      simp only [execOp, hop, hv, Instr.typeAssert, Sem.run_bind, run_underlying hd, Result.andThen_ok]
      cases d <;> first | exact absurd rfl (hni _) | simp [hut, hzr]

/-- What the operator is to the type's kind. -/
def EqFits (P : Program) (t : TypeId) (x y : Operand) : EqKind → Prop
  | .bool => P.underlying t = some .bool
  | .ptr => ∃ el i, P.underlying t = some (.pointer el) ∧ P.info? el = some i ∧ i.size ≠ 0
  | .slice => ∃ el, P.underlying t = some (.slice el)
  | .map => ∃ a b, P.underlying t = some (.map a b)
  | .func => ∃ a b d, P.underlying t = some (.func a b d)
  | .iface => ∃ ms, P.underlying t = some (.interface ms) ∧ (isNilConst x || isNilConst y) = true

omit hc r e in
theorem eqOp_run {op : BinOp} {neg : Bool} (ho : eqOp op = some neg) {t : TypeId} {x y : Operand} {a b : Value} {res : Bool} {P : Program}
    (hg : (eqGuard op t x y a b).run P w = .ok () w) (he : (Op.equal t a b).run P w = .ok res w)
    (hni : (∀ k n, a ≠ .int k n) ∧ (∀ k n, a ≠ .float k n) ∧ (∀ k n l, a ≠ .complex k n l) ∧ (∀ s, a ≠ .string s)) :
    (do eqGuard op t x y a b; binOp op t a b : Sem Value).run P w = .ok (.bool (xor neg res)) w := by
  have h1 : binOp .eql t a b = (do pure (.bool (← Op.equal t a b))) := by
    unfold binOp
    cases a <;> first | rfl | (exact absurd rfl (hni.1 _ _)) | (exact absurd rfl (hni.2.1 _ _)) | (exact absurd rfl (hni.2.2.1 _ _ _)) | (exact absurd rfl (hni.2.2.2 _))
  have h2 : binOp .neq t a b = (do pure (.bool (!(← Op.equal t a b)))) := by
    unfold binOp
    cases a <;> first | rfl | (exact absurd rfl (hni.1 _ _)) | (exact absurd rfl (hni.2.1 _ _)) | (exact absurd rfl (hni.2.2.1 _ _ _)) | (exact absurd rfl (hni.2.2.2 _))
  cases op <;> simp only [eqOp, Option.some.injEq, reduceCtorEq] at ho <;> subst ho
  · simp only [Sem.run_bind, hg, Result.andThen_ok, h1, he, Sem.run_pure]; cases res <;> rfl
  · simp only [Sem.run_bind, hg, Result.andThen_ok, h2, he, Sem.run_pure]; cases res <;> rfl

theorem vEqk_ok {op : BinOp} {neg : Bool} {κ : EqKind} (ho : eqOp op = some neg) {t u : TypeId} {x y : Operand} {x' y' : Opd} (hfit : EqFits c.P t x y κ) (hx : c.opd ds x = some x') (hy : c.opd ds y = some y') :
    VOk G ρ m L T tmps h w (vEqk κ neg x' y') (.binOp op t x y u) := by
  intro k o h' he
  obtain ⟨a, hv, e1⟩ := opd_sound hc r e hx he
  obtain ⟨b, hv2, e2⟩ := opd_sound hc r e hy e1
  rw [hc] at hfit
  have fin : ∀ res : Bool, boolK (xor neg res) (fun r => k (.bool r)) = .ok o h' → (eqGuard op t x y (ev tmps x) (ev tmps y)).run G.P w = .ok () w → (Op.equal t (ev tmps x) (ev tmps y)).run G.P w = .ok res w →
      ((∀ k n, ev tmps x ≠ .int k n) ∧ (∀ k n, ev tmps x ≠ .float k n) ∧ (∀ k n l, ev tmps x ≠ .complex k n l) ∧ (∀ s, ev tmps x ≠ .string s)) →
      ∃ a v, VR ρ m a v ∧ k a = .ok o h' ∧ ∀ oper : Oper, oper.op = .binOp op t x y u → (execOp (ev tmps) oper).run G.P w = .ok (.value v) w := by
    intro res hk hg hq hni
    rw [boolK_eq] at hk
    refine ⟨.bool (xor neg res), .bool (xor neg res), rfl, hk, fun oper hop => ?_⟩
    have := eqOp_run (w := w) ho hg hq hni
    simp only [execOp, hop]
    rw [Sem.run_bind, this]; rfl
  cases κ with
  | bool =>
    obtain ⟨p, rfl, e3⟩ := AV.onBool_inv (show AV.onBool a _ = .ok o h' from e2)
    obtain ⟨q, rfl, e4⟩ := AV.onBool_inv e3
    rw [boolK_eq] at e4
    simp only [VR] at hv hv2
    have hd : G.P.underlying t = some .bool := hfit
    refine fin _ e4 (by rw [hv, eqGuard_at_bool]; rfl) (by rw [hv, hv2]; exact equal_of fun d => by simp [Op.equalIn, run_underlying hd]) (by rw [hv]; simp)
  | ptr =>
    obtain ⟨el, i, hd, hi, hs⟩ := hfit
    rcases AV.onNP_inv (show AV.onNP a _ _ = .ok o h' from e2) with ⟨rfl, e3⟩ | ⟨p, i1, rfl, e3⟩ <;> rcases AV.onNP_inv e3 with ⟨rfl, e4⟩ | ⟨q, i2, rfl, e4⟩
    · simp only [VR] at hv hv2
      exact fin _ e4 (by rw [hv, eqGuard_at_pointer]; rfl) (by rw [hv, hv2]; exact equal_of fun d => by simp [Op.equalIn, run_underlying hd]) (by rw [hv]; simp)
    · simp only [VR] at hv
      obtain ⟨pl, hm, hv2⟩ := hv2
      exact fin _ e4 (by rw [hv, eqGuard_at_pointer]; rfl) (by rw [hv, hv2]; exact equal_of fun d => by simp [Op.equalIn, run_underlying hd]) (by rw [hv]; simp)
    · simp only [VR] at hv2
      obtain ⟨pl, hm, hv⟩ := hv
      exact fin _ e4 (by rw [hv, eqGuard_at_pointer]; rfl) (by rw [hv, hv2]; exact equal_of fun d => by simp [Op.equalIn, run_underlying hd]) (by rw [hv]; simp)
    · obtain ⟨pl, hm, hv⟩ := hv
      obtain ⟨pl2, hm2, hv2⟩ := hv2
      obtain ⟨hpq, e5⟩ := ifK_inv e4
      obtain rfl := eqP_ok.1 hpq
      rw [hm] at hm2; cases hm2
      rw [boolK_eq] at e5
      refine fin _ e5 (by rw [hv, eqGuard_at_pointer]; rfl) ?_ (by rw [hv]; simp)
      rw [hv, hv2]
      have hsz : ∀ w, (sizeOf el).run G.P w = .ok i.size w := fun w => by simp only [sizeOf, Sem.run_bind, run_typeInfo hi, Result.andThen_ok, Sem.run_pure]
      refine equal_of fun d => ?_
      simp only [Op.equalIn, Sem.run_bind, run_underlying hd, Result.andThen_ok, hsz, ne_eq, hs, not_false_eq_true, if_true, sameAddr, beq_self_eq_true, Sem.run_pure]
      congr 1
      rw [Bool.eq_iff_iff]
      simp
  | slice =>
    obtain ⟨el, hd⟩ := hfit
    rcases AV.onSlice_inv (show AV.onSlice a _ _ = .ok o h' from e2) with ⟨rfl, e3⟩ | ⟨p, i1, n, cp, rfl, e3⟩ <;> rcases AV.onSlice_inv e3 with ⟨rfl, e4⟩ | ⟨q, i2, n2, cp2, rfl, e4⟩
    · simp only [VR] at hv hv2
      exact fin _ e4 (by rw [hv, eqGuard_at_slice]; rfl) (by rw [hv, hv2]; exact equal_of fun d => by simp [Op.equalIn, run_underlying hd]) (by rw [hv]; simp)
    · simp only [VR] at hv
      obtain ⟨pl, ad, cc, hm, hv2, _⟩ := hv2
      exact fin _ e4 (by rw [hv, eqGuard_at_slice]; rfl) (by rw [hv, hv2]; exact equal_of fun d => by simp [Op.equalIn, run_underlying hd]) (by rw [hv]; simp)
    · simp only [VR] at hv2
      obtain ⟨pl, ad, cc, hm, hv, _⟩ := hv
      exact fin _ e4 (by rw [hv, eqGuard_at_slice]; rfl) (by rw [hv, hv2]; exact equal_of fun d => by simp [Op.equalIn, run_underlying hd]) (by rw [hv]; simp)
    · cases e4
  | map =>
    obtain ⟨ka, kb, hd⟩ := hfit
    rcases AV.onMap_inv (show AV.onMap a _ _ = .ok o h' from e2) with ⟨rfl, e3⟩ | ⟨p, rfl, e3⟩ <;> rcases AV.onMap_inv e3 with ⟨rfl, e4⟩ | ⟨q, rfl, e4⟩
    · simp only [VR] at hv hv2
      exact fin _ e4 (by rw [hv, eqGuard_at_map]; rfl) (by rw [hv, hv2]; exact equal_of fun d => by simp [Op.equalIn, run_underlying hd]) (by rw [hv]; simp)
    · simp only [VR] at hv
      obtain ⟨pl, hm, hv2⟩ := hv2
      exact fin _ e4 (by rw [hv, eqGuard_at_map]; rfl) (by rw [hv, hv2]; exact equal_of fun d => by simp [Op.equalIn, run_underlying hd]) (by rw [hv]; simp)
    · simp only [VR] at hv2
      obtain ⟨pl, hm, hv⟩ := hv
      exact fin _ e4 (by rw [hv, eqGuard_at_map]; rfl) (by rw [hv, hv2]; exact equal_of fun d => by simp [Op.equalIn, run_underlying hd]) (by rw [hv]; simp)
    · cases e4
  | func =>
    obtain ⟨ka, kb, kd, hd⟩ := hfit
    rcases AV.onNF_inv (show AV.onNF a _ _ = .ok o h' from e2) with ⟨rfl, e3⟩ | ⟨p, i1, j1, rfl, e3⟩ <;> rcases AV.onNF_inv e3 with ⟨rfl, e4⟩ | ⟨q, i2, j2, rfl, e4⟩
    · simp only [VR] at hv hv2
      exact fin _ e4 (by rw [hv, eqGuard_at_nilFunc]; rfl) (by rw [hv, hv2]; exact equal_of fun d => by simp [Op.equalIn, run_underlying hd]) (by rw [hv]; simp)
    · simp only [VR] at hv
      obtain ⟨fn, f1, f2, hv2, _⟩ := hv2
      exact fin _ e4 (by rw [hv, eqGuard_at_nilFunc]; rfl) (by rw [hv, hv2]; exact equal_of fun d => by simp [Op.equalIn, run_underlying hd]) (by rw [hv]; simp)
    · simp only [VR] at hv2
      obtain ⟨fn, f1, f2, hv, _⟩ := hv
      exact fin _ e4 (by rw [hv, eqGuard_at_func]; rfl) (by rw [hv, hv2]; exact equal_of fun d => by simp [Op.equalIn, run_underlying hd]) (by rw [hv]; simp)
    · cases e4
  | iface =>
    obtain ⟨ms, hd, hnil⟩ := hfit
    have hg0 : (eqGuard op t x y .nilIface .nilIface).run G.P w = .ok () w := by
      have : (∃ v, x = .const v) ∨ (∃ v, y = .const v) := by
        rw [Bool.or_eq_true] at hnil
        rcases hnil with h | h
        · cases x <;> simp [isNilConst] at h; exact .inl ⟨_, rfl⟩
        · cases y <;> simp [isNilConst] at h; exact .inr ⟨_, rfl⟩
      rcases this with ⟨v, rfl⟩ | ⟨v, rfl⟩
      · rw [eqGuard_nil_constL]; rfl
      · rw [eqGuard_nil_constR]; rfl
    rcases AV.onIfc_inv (show AV.onIfc a _ _ = .ok o h' from e2) with ⟨rfl, e3⟩ | ⟨p, i1, rfl, e3⟩ <;> rcases AV.onIfc_inv e3 with ⟨rfl, e4⟩ | ⟨q, i2, rfl, e4⟩
    · simp only [VR] at hv hv2
      exact fin _ e4 (by rw [hv, hv2]; exact hg0) (by rw [hv, hv2]; exact equal_of fun d => by simp [Op.equalIn, run_underlying hd]) (by rw [hv]; simp)
    · simp only [VR] at hv
      obtain ⟨yv, hv2, _⟩ := hv2
      exact fin _ e4 (by rw [hv, hv2, eqGuard_nil_iface]; rfl) (by rw [hv, hv2]; exact equal_of fun d => by simp [Op.equalIn, run_underlying hd]) (by rw [hv]; simp)
    · simp only [VR] at hv2
      obtain ⟨yv, hv, _⟩ := hv
      exact fin _ e4 (by rw [hv, eqGuard_at_iface]; rfl) (by rw [hv, hv2]; exact equal_of fun d => by simp [Op.equalIn, run_underlying hd]) (by rw [hv]; simp)
    · cases e4

end
end
end Go.Proofs.YtpngpoeifgkclaaGreatDoor.Am

/- Structs that are compared, entries, bytes to a string, aggregates that are made. -/
namespace Go.Proofs.YtpngpoeifgkclaaGreatDoor.Am

section
variable {G : Gp} {ρ : Rho} {m : M} {h : Hp} {w : World}

theorem equalIn_key {t : TypeId} {d : TypeDesc} {v u : Value} {b : Bool} (hd : G.P.underlying t = some d) (hk : KeyOf d v) (hb : KeyIs v u b) (n : Nat) (w : World) : (Op.equalIn (n + 1) t v u).run G.P w = .ok b w := by
  rcases hb with ⟨κ, x, y, rfl, rfl, rfl⟩ | ⟨s, s2, rfl, rfl, rfl⟩ | ⟨p, q, rfl, rfl, rfl⟩
  · rcases hk with ⟨κ', rfl, _⟩ | ⟨_, _, h⟩ | ⟨_, _, h⟩
    · exact run_equalIn_int w n t κ κ' x y hd
    · cases h
    · cases h
  · rcases hk with ⟨κ', _, _, _, h⟩ | ⟨rfl, _⟩ | ⟨_, _, h⟩
    · cases h
    · exact run_equalIn_string w n t s s2 hd
    · cases h
  · rcases hk with ⟨κ', _, _, _, h⟩ | ⟨_, _, h⟩ | ⟨rfl, _⟩
    · cases h
    · cases h
    · exact run_equalIn_bool' w n t p q hd

section
variable {c : Cx} {ds : List Nat} {L : List AV} {T : VT} {tmps : Array Value} (hc : c.P = G.P)
include hc

theorem keyNo_agg {t : TypeId} {q : Nat} (h : c.keyNo t = some q) : c.isAgg t = some false := by
  have _ := hc
  unfold Cx.keyNo at h
  unfold Cx.isAgg
  split at h <;> cases h <;> rename_i h1 <;> rw [h1]

theorem eqA_ok {xs ys : Array Value} {d : Nat} : ∀ {fs : List Field} {i : Nat} {qs : List Nat}, c.flat fs i = some qs → ∀ {l l2 : List AV}, VRL ρ m l (xs.toList.drop i) → VRL ρ m l2 (ys.toList.drop i) →
    ∀ {k : Bool → Res} {o : AOut} {h' : Hp}, eqA qs l l2 k = .ok o h' → ∃ b, k b = .ok o h' ∧ ∀ w, (Op.eqFields (d + 1) xs ys fs).run G.P w = .ok b w := by
  intro fs
  induction fs with
  | nil =>
    intro i qs hf l l2 hl hl2 k o h' e
    simp only [Cx.flat, Option.some.injEq] at hf
    subst hf
    exact ⟨true, e, fun w => rfl⟩
  | cons f fs ih =>
    intro i qs hf l l2 hl hl2 k o h' e
    simp only [Cx.flat] at hf
    split at hf
    · rename_i q ql hq hql
      split at hf
      · rename_i hcond
        simp only [Option.some.injEq] at hf
        subst hf
        simp only [Bool.and_eq_true, bne_iff_ne, ne_eq] at hcond
        obtain ⟨hname, hoff⟩ := hcond
        have hoff := Nat.eq_of_beq_eq_true hoff
        cases l with
        | nil => cases e
        | cons x l =>
          cases l2 with
          | nil => cases e
          | cons y l2 =>
            have e : keyIs q x (keyEq x y fun b => ifK b (eqA ql l l2 k) (k false)) = .ok o h' := e
            obtain ⟨v, vr, hv1, hv2, hv3⟩ := hl
            obtain ⟨u, ur, hu1, hu2, hu3⟩ := hl2
            obtain ⟨e1, dd, hd, hkd⟩ := keyIs_inv hq hv2 e
            obtain ⟨b, e2, hb⟩ := keyEq_inv hv2 hu2 e1
            rw [hc] at hd
            have hx : xs[f.offset]? = some v := by
              rw [hoff, ← Array.getElem?_toList]
              have := congrArg (·[0]?) hv1; simpa using this
            have hy : ys[f.offset]? = some u := by
              rw [hoff, ← Array.getElem?_toList]
              have := congrArg (·[0]?) hu1; simpa using this
            have hagg := fun w => run_isAgg (w := w) hc (keyNo_agg hc hq)
            have hpx : ∀ w, (part f.type xs f.offset).run G.P w = .ok v w := fun w => by
              simp only [part, Sem.run_bind, hagg, Result.andThen_ok, Bool.false_eq_true, if_false, hx, Sem.run_pure]
            have hpy : ∀ w, (part f.type ys f.offset).run G.P w = .ok u w := fun w => by
              simp only [part, Sem.run_bind, hagg, Result.andThen_ok, Bool.false_eq_true, if_false, hy, Sem.run_pure]
            rw [ifK_eq] at e2
            cases b with
            | true =>
              obtain ⟨b', e3, h3⟩ := ih hql (l := l) (l2 := l2) (by have := congrArg List.tail hv1; rw [List.tail_drop] at this; rw [this]; exact hv3) (by have := congrArg List.tail hu1; rw [List.tail_drop] at this; rw [this]; exact hu3) e2
              refine ⟨b', e3, fun w => ?_⟩
              simp only [Op.eqFields, ne_eq, hname, not_false_eq_true, if_true, Sem.run_bind, hpx, hpy, Result.andThen_ok, equalIn_key hd hkd hb, Bool.not_true, Bool.false_eq_true, if_false, h3]
            | false =>
              refine ⟨false, e2, fun w => ?_⟩
              simp only [Op.eqFields, ne_eq, hname, not_false_eq_true, if_true, Sem.run_bind, hpx, hpy, Result.andThen_ok, equalIn_key hd hkd hb, Bool.not_false, if_true, Sem.run_pure]
      · cases hf
    · cases hf

variable (r : Rel G ρ m h w) (e : Env c m ds L T tmps G ρ)
include r e

theorem vEqa_ok {op : BinOp} {neg : Bool} {qs : List Nat} {fs : Array Field} (ho : eqOp op = some neg) {t u : TypeId} {x y : Operand} {x' y' : Opd} (ht : c.P.underlying t = some (.struct fs)) (hq : c.flat fs.toList 0 = some qs)
    (hg : c.P.eqGuardType c.P.depth t = false) (hp : c.P.stoodInHeld t = false) (hx : c.opd ds x = some x') (hy : c.opd ds y = some y') : VOk G ρ m L T tmps h w (vEqa qs neg x' y') (.binOp op t x y u) := by
  intro k o h' he
  obtain ⟨a, hv, e1⟩ := opd_sound hc r e hx he
  obtain ⟨b, hv2, e2⟩ := opd_sound hc r e hy e1
  obtain ⟨l, rfl, e3⟩ := AV.onAgg_inv e2
  obtain ⟨l2, rfl, e4⟩ := AV.onAgg_inv e3
  obtain ⟨xs, hv, hl, _⟩ := hv
  obtain ⟨ys, hv2, hl2, _⟩ := hv2
  obtain ⟨b, e5, h5⟩ := eqA_ok (d := 9998) hc hq (l := l) (l2 := l2) (by simpa using hl) (by simpa using hl2) e4
  rw [boolK_eq] at e5
  rw [hc] at ht hg hp
  have hfo : G.P.fieldsOf t = fs := by simp [Program.fieldsOf, ht]
  refine ⟨.bool (xor neg b), .bool (xor neg b), rfl, e5, fun oper hop => ?_⟩
  have hgr : (eqGuard op t x y (ev tmps x) (ev tmps y)).run G.P w = .ok () w := by rw [hv, hv2]; exact run_eqGuard_agg w op t x y xs ys hg
  have heq : (Op.equal t (ev tmps x) (ev tmps y)).run G.P w = .ok b w := by
    rw [hv, hv2]
    have := run_equalIn_struct (P := G.P) w 9999 t xs ys (by rw [hfo]; exact ht) hp
    rw [hfo, h5] at this
    exact this
  have := eqOp_run (w := w) ho hgr heq (by rw [hv]; simp)
  simp only [execOp, hop]
  rw [Sem.run_bind, this]; rfl

theorem vEnt_ok {x : Operand} {x' : Opd} (hx : c.opd ds x = some x') : VOk G ρ m L T tmps h w (vEnt x') (.entry x) := by
  intro k o h' he
  obtain ⟨a, hv, e1⟩ := opd_sound hc r e hx he
  obtain ⟨b, i, rfl, e2⟩ := AV.onPtr_inv e1
  obtain ⟨h0, e3⟩ := ifK_inv e2
  obtain rfl := Nat.eq_of_beq_eq_true h0
  obtain ⟨hb, e4⟩ := atK_inv e3
  obtain ⟨pl, hm, hv⟩ := hv
  obtain ⟨hlt, hobj⟩ := obj_ok r hb hm
  generalize hob : h.at b = ob at e4 hobj
  split at e4
  · rename_i mb cur st
    obtain ⟨q, since, seen, st', hbase, hq, hit, hcur, hst⟩ := hobj
    obtain ⟨hb2, e5⟩ := atK_inv e4
    obtain ⟨es, cl, hob2, e6⟩ := AObj.onMap_inv e5
    obtain ⟨hcl, e7⟩ := ifK_inv e6
    have hcl := Nat.eq_of_beq_eq_true hcl
    obtain ⟨hlt2, hobj2⟩ := obj_ok r hb2 hq
    rw [hob2] at hobj2
    obtain ⟨E, hE, hER⟩ := hobj2
    have hfind : ∀ (es : List AEnt) (E : List MapEntry), EntR ρ m es E → ∀ ae, es.find? (fun e => Nat.beq e.born cur) = some ae → ∃ me, E.find? (·.born == cur) = some me ∧ VR ρ m ae.key me.key ∧ VR ρ m ae.val me.val := by
      intro es
      induction es with
      | nil => intro E _ ae h; simp at h
      | cons a es ih =>
        rintro E ⟨me, r, rfl, h1, h2, h3, h4⟩ ae hf
        by_cases hbn : Nat.beq a.born cur = true
        · simp only [List.find?_cons, hbn, Option.some.injEq] at hf
          subst hf
          exact ⟨me, by simp [← h3, Nat.eq_of_beq_eq_true hbn], h1, h2⟩
        · have hne : ¬ me.born = cur := fun h => hbn (by rw [h3, h]; exact Nat.beq_refl _)
          simp only [List.find?_cons, hbn] at hf
          obtain ⟨me', h5, h6⟩ := ih r h4 ae hf
          exact ⟨me', by simp [hne, h5], h6⟩
    cases hent : entOf es cur with
    | none => rw [hent] at e7; cases e7
    | some ae =>
      rw [hent] at e7
      obtain ⟨me, h1, h2, h3⟩ := hfind es E.toList hER ae hent
      refine ⟨.tup [ae.key, ae.val], .tuple #[me.key, me.val], ⟨_, rfl, ⟨_, _, rfl, h2, ⟨_, _, rfl, h3, rfl⟩⟩⟩, e7, fun oper hop => ?_⟩
      have hget : (getObj pl.blk).run G.P w = .ok (.mapIter (some q.blk) since seen st') w := by simp only [getObj, Sem.run, hit]
      have hget2 : (getObj q.blk).run G.P w = .ok (.map E cl) w := by simp only [getObj, Sem.run, hE]
      have h0 : pl.base + 0 = 0 := by omega
      have hfa : E.find? (·.born == cur) = some me := by rw [← h1, Array.find?_toList]
      simp only [execOp, hop, hv, h0, Instr.entry, Sem.run_bind, hget, Result.andThen_ok, hcur, hget2, hst, hcl, bne_self_eq_false, Bool.false_eq_true, if_false, hfa, Sem.run_pure]
  · cases e4

end
end
end Go.Proofs.YtpngpoeifgkclaaGreatDoor.Am

/- Bytes to a string, aggregates that are made. -/
namespace Go.Proofs.YtpngpoeifgkclaaGreatDoor.Am

theorem run_mapM_list {α β : Type} {P : Program} {w : World} (f : α → Sem β) (g : α → β) : ∀ (l : List α), (∀ x ∈ l, (f x).run P w = .ok (g x) w) → (l.mapM f).run P w = .ok (l.map g) w := by
  intro l
  induction l with
  | nil => intro _; simp
  | cons x l ih =>
    intro h
    rw [List.mapM_cons, Sem.run_bind, h x (by simp), Result.andThen_ok, Sem.run_bind, ih fun y hy => h y (by simp [hy])]
    rfl
theorem run_mapM_array {α β : Type} {P : Program} {w : World} (f : α → Sem β) (g : α → β) (a : Array α) (h : ∀ x ∈ a.toList, (f x).run P w = .ok (g x) w) : (a.mapM f).run P w = .ok (a.map g) w := by
  cases a with | mk l =>
  rw [List.mapM_toArray, Sem.run_map, run_mapM_list f g l h]
  simp

theorem lay_list {off : Nat} : ∀ (vs : List Value) (k : Nat) (cells : Array Value), off + k + vs.length ≤ cells.size →
    ((vs.zipIdx k).foldl (fun cs (q : Value × Nat) => cs.setIfInBounds (off + q.2) q.1) cells).toList = cells.toList.take (off + k) ++ vs ++ cells.toList.drop (off + k + vs.length)
  | [], k, cells, h => by simp
  | v :: vs, k, cells, h => by
    simp only [List.length_cons] at h
    rw [List.zipIdx_cons, List.foldl_cons, lay_list vs (k + 1) _ (by simp; omega)]
    have hk : off + k < cells.toList.length := by simp; omega
    simp only [Array.toList_setIfInBounds, List.length_cons]
    rw [show off + (k + 1) = off + k + 1 by omega, List.take_add_one, List.take_set_of_le (Nat.le_refl _), List.drop_set_of_lt (by omega)]
    simp only [List.getElem?_set_self hk, Option.toList_some, List.append_assoc, List.cons_append]
    rw [show off + k + 1 + vs.length = off + k + (vs.length + 1) by omega]
    rfl
theorem lay_cells {off : Nat} (vs cells : Array Value) (h : off + vs.size ≤ cells.size) :
    (vs.zipIdx.foldl (fun cs (q : Value × Nat) => cs.setIfInBounds (off + q.2) q.1) cells).toList = cells.toList.take off ++ vs.toList ++ cells.toList.drop (off + vs.size) := by
  rw [← Array.foldl_toList, Array.toList_zipIdx]
  have := lay_list (off := off) vs.toList 0 cells (by simpa using h)
  simpa using this

section
variable {G : Gp} {ρ : Rho} {m : M} {h : Hp} {w : World}

theorem cellsK_ok {a : AV} {v : Value} (hv : VR ρ m a v) {k : List AV → Res} {o : AOut} {h' : Hp} (e : cellsK a k = .ok o h') : ∃ cs, k cs = .ok o h' ∧ VRL ρ m cs v.cells.toList ∧ ∀ x ∈ v.cells.toList, x.oneCell' = true := by
  rcases cellsK_inv e with ⟨l, rfl, e1⟩ | ⟨h1, e1⟩
  · obtain ⟨xs, rfl, h2, h3⟩ := hv
    exact ⟨l, e1, h2, h3⟩
  · have ho := hv.one h1
    have hcell : v.cells = #[v] := by cases v <;> first | rfl | cases ho
    refine ⟨[a], e1, by rw [hcell]; exact ⟨v, [], rfl, hv, rfl⟩, ?_⟩
    rw [hcell]; simpa using ho

theorem codeK_inv : ∀ {l : List AV} {vs : List Value}, VRL ρ m l vs → ∀ {k : Nat → Res} {o : AOut} {h' : Hp}, codeK l k = .ok o h' →
    ∃ bs : List UInt8, vs = bs.map (fun b => Value.int .u8 (b.toNat : Int)) ∧ k (codeOf bs) = .ok o h' := by
  intro l
  induction l with
  | nil => intro vs hl k o h' e; simp only [VRL] at hl; subst hl; exact ⟨[], rfl, e⟩
  | cons a l ih =>
    intro vs hl k o h' e
    obtain ⟨v, r, rfl, hv, hr⟩ := hl
    obtain ⟨κ, n, rfl, e1⟩ := AV.onInt_inv (show AV.onInt a _ = .ok o h' from e)
    obtain ⟨h1, e2⟩ := ifK_inv e1
    obtain rfl := Nat.eq_of_beq_eq_true h1
    cases n with
    | negSucc _ => cases e2
    | ofNat i =>
      obtain ⟨h2, e3⟩ := ifK_inv (show ifK (Nat.blt i 256) (codeK l fun r => natK (Nat.add i (Nat.mul 256 r)) k) .bad = .ok o h' from e2)
      have hi : i < 256 := by simpa [Nat.blt_eq] using h2
      obtain ⟨bs, rfl, e4⟩ := ih hr e3
      have hb : (UInt8.ofNat i).toNat = i := by simp; omega
      refine ⟨UInt8.ofNat i :: bs, ?_, ?_⟩
      · simp only [VR] at hv
        rw [hv, List.map_cons, hb]; rfl
      · rw [codeOf_cons, hb]; exact e4

section
variable {c : Cx} {ds : List Nat} {L : List AV} {T : VT} {tmps : Array Value} (hc : c.P = G.P) (r : Rel G ρ m h w) (e : Env c m ds L T tmps G ρ)
include hc r e

theorem vCbs_ok {s t el : TypeId} {x : Operand} {x' : Opd} (hs : c.P.underlying s = some (.slice el)) (hel : c.P.underlying el = some (.int .u8)) (ht : c.P.underlying t = some .string) (hx : c.opd ds x = some x') :
    VOk G ρ m L T tmps h w (vCbs x') (.convert s t x) := by
  intro k o h' he
  obtain ⟨a, hv, e1⟩ := opd_sound hc r e hx he
  rw [hc] at hs hel ht
  rcases AV.onSlice_inv e1 with ⟨rfl, e2⟩ | ⟨b, i, n, cp, rfl, e2⟩
  · simp only [VR] at hv
    refine ⟨.str 0 0, .string ByteArray.empty, ⟨_, rfl, rfl, rfl⟩, e2, fun oper hop => ?_⟩
    simp only [execOp, hop, hv, Sem.run_bind, run_convert_bytes_nil w s el hs hel 0 0 t ht, Result.andThen_ok, Sem.run_pure]
  · obtain ⟨hb, e3⟩ := atK_inv e2
    obtain ⟨g, sz, fz, cs, hob, e4⟩ := AObj.onCells_inv e3
    obtain ⟨h1, e5⟩ := dropK_inv e4
    obtain ⟨h2, e6⟩ := takeK_inv e5
    rw [List.append_nil] at e6
    obtain ⟨pl, ad, cc, hm, hv, hnc, had, hcr⟩ := hv
    obtain ⟨xs, h3, h4, h5⟩ := cells_ok r hob hm (o := i) (n := n) (by simp at h2; omega) G.P
    obtain ⟨bs, h6, e7⟩ := codeK_inv h4 e6
    have hlen : bs.length = n := by
      have := h4.length
      rw [h6] at this
      simp at this h2
      omega
    have hload : (loadCells ad n).run G.P w = .ok ((bs.map fun b => (b.toNat : Int)).map (Value.int .u8)).toArray w := by
      have hxs : xs = ((bs.map fun b => (b.toNat : Int)).map (Value.int .u8)).toArray := by
        apply Array.ext'
        rw [h6]; simp
      rcases Nat.eq_zero_or_pos cc with h0 | h0
      · have hn0 : n = 0 := by omega
        subst hn0
        have hb0 : bs = [] := List.eq_nil_of_length_eq_zero hlen
        subst hb0
        rfl
      · rw [had h0, h3, hxs]
    refine ⟨.str n (codeOf bs), .string ⟨bs.toArray⟩, ⟨_, rfl, hlen, rfl⟩, e7, fun oper hop => ?_⟩
    have hstr : ((bs.map fun b => (b.toNat : Int)).foldl (fun r n => r.push (UInt8.ofNat n.toNat)) ByteArray.empty) = ⟨bs.toArray⟩ := by
      rw [foldl_push_bytes]
      simp [ByteArray.empty, ByteArray.emptyWithCapacity, Function.comp_def]
      rfl
    have hrun := run_convert_bytes_string (P := G.P) w s t el (some ad) n cc hs hel ht
    rw [run_bytesToString w ad n cc _ hload, hstr] at hrun
    simp only [execOp, hop, hv, Sem.run_bind, hrun, Result.andThen_ok, Sem.run_pure]

theorem fill_ok {placeC placeM : Nat → Option (Nat × Nat)} (hp : ∀ i p, placeC i = some p → placeM i = some p) : ∀ {ps : List (Nat × Operand)} {ps' : List (Nat × Nat × Opd)}, c.parts ds placeC ps = some ps' →
    ∀ {z : List AV} {cells : Array Value}, VRL ρ m z cells.toList → (∀ x ∈ cells.toList, x.oneCell' = true) → ∀ {k : List AV → Res} {o : AOut} {h' : Hp}, buildK ps' L T z k = .ok o h' →
    ∃ z' cells', k z' = .ok o h' ∧ Instr.fill placeM cells (ps.map fun q => (q.1, ev tmps q.2)) = some cells' ∧ VRL ρ m z' cells'.toList ∧ ∀ x ∈ cells'.toList, x.oneCell' = true := by
  intro ps
  induction ps with
  | nil =>
    intro ps' h1 z cells hz ho k o h' he
    simp only [Cx.parts, Option.some.injEq] at h1
    subst h1
    exact ⟨z, cells, he, rfl, hz, ho⟩
  | cons q ps ih =>
    intro ps' h1 z cells hz ho k o h' he
    obtain ⟨i, x⟩ := q
    simp only [Cx.parts] at h1
    split at h1
    · rename_i off s x' l h2 h3 h4
      simp only [Option.some.injEq] at h1
      subst h1
      obtain ⟨a, hv, e1⟩ := opd_sound hc r e h3 (show evO x' L T (fun v => cellsK v fun cs => lenK cs fun n => ifK (Nat.beq n s) (putK off cs z fun z => buildK l L T z k) .bad) = .ok o h' from he)
      obtain ⟨cs, e2, hcs, hco⟩ := cellsK_ok hv e1
      rw [lenK_eq] at e2
      obtain ⟨hls, e3⟩ := ifK_inv e2
      have hls := Nat.eq_of_beq_eq_true hls
      obtain ⟨hle, e4⟩ := putK_inv e3
      have hsz : (ev tmps x).cells.size = s := by rw [← hls, ← hcs.length, Array.length_toList]
      have hzl := hz.length
      rw [Array.length_toList] at hzl
      have hfit : off + (ev tmps x).cells.size ≤ cells.size := by rw [hsz, hzl]; omega
      have hlay := lay_cells (off := off) (ev tmps x).cells cells hfit
      obtain ⟨z', cells', e5, h6, h7, h8⟩ := ih h4 (z := z.take off ++ cs ++ z.drop (off + cs.length)) (cells := (ev tmps x).cells.zipIdx.foldl (fun cs (q : Value × Nat) => cs.setIfInBounds (off + q.2) q.1) cells)
        (by rw [hlay, hsz, ← hls]; exact ((hz.take off).append hcs).append (hz.drop _))
        (by
          rw [hlay]
          intro y hy
          rcases List.mem_append.1 hy with hy | hy
          · rcases List.mem_append.1 hy with hy | hy
            · exact ho y (List.mem_of_mem_take hy)
            · exact hco y hy
          · exact ho y (List.mem_of_mem_drop hy)) e4
      refine ⟨z', cells', e5, ?_, h7, h8⟩
      rw [List.map_cons, Instr.fill, hp i _ h2]
      have hcond : ¬ (((ev tmps x).cells.size ≠ s || decide (off + (ev tmps x).cells.size > cells.size)) = true) := by simp [hsz]; omega
      simp only [hcond]
      exact h6
    · cases h1

omit r e in
theorem zeroC_ok {t : TypeId} {z : List AV} (hz : c.zeroC t = some z) : ∃ zv, (∀ w, (zeroValue t).run G.P w = .ok zv w) ∧ VRL ρ m z zv.cells.toList ∧ ∀ x ∈ zv.cells.toList, x.oneCell' = true := by
  unfold Cx.zeroC at hz
  cases hzz : c.zero t with
  | none => simp [hzz] at hz
  | some zv =>
    simp only [hzz, Option.bind_some] at hz
    obtain ⟨h1, h2⟩ := absL_sound (ρ := ρ) (m := m) hz
    exact ⟨zv, fun w => run_zeroValue hc hzz, h1, h2⟩

theorem vBuildS_ok {t : TypeId} {fs : Array Field} {z : List AV} {ps : Array (Nat × Operand)} {ps' : List (Nat × Nat × Opd)} (ht : c.P.underlying t = some (.struct fs)) (hz : c.zeroC t = some z)
    (hall : fs.toList.all (fun f => (c.size f.type).isSome) = true) (hps : c.parts ds (fun i => match fs[i]? with | some f => (c.size f.type).map fun s => (f.offset, s) | none => none) ps.toList = some ps') :
    VOk G ρ m L T tmps h w (vBuild z ps') (.build t ps) := by
  intro k o h' he
  obtain ⟨zv, hzr, hz1, hz2⟩ := zeroC_ok (ρ := ρ) (m := m) hc hz
  have hsz : ∀ x ∈ fs.toList, (do pure (x.offset, ← sizeOf x.type) : Sem (Nat × Nat)).run G.P w = .ok (x.offset, (c.size x.type).getD 0) w := fun x hx => by
    have := List.all_eq_true.1 hall x hx
    obtain ⟨n, hn⟩ := Option.isSome_iff_exists.1 this
    rw [Sem.run_bind, run_sizeOf hc hn, Result.andThen_ok, Sem.run_pure, hn]; rfl
  have hplaces := run_mapM_array (P := G.P) (w := w) (fun f : Field => (do pure (f.offset, ← sizeOf f.type) : Sem (Nat × Nat))) (fun f => (f.offset, (c.size f.type).getD 0)) fs hsz
  obtain ⟨z', cells', e1, hf, h1, h2⟩ := fill_ok hc r e (placeM := fun i => (fs.map fun f : Field => (f.offset, (c.size f.type).getD 0))[i]?) (fun i p hp => by
    cases hfi : fs[i]? with
    | none => simp [hfi] at hp
    | some f =>
      simp only [hfi, Option.map_eq_some_iff] at hp
      obtain ⟨s, hs, rfl⟩ := hp
      simp [hfi, hs]) hps hz1 hz2 (show buildK ps' L T z (fun l => k (.agg l)) = .ok o h' from he)
  rw [hc] at ht
  refine ⟨.agg z', .agg cells', ⟨cells', rfl, h1, h2⟩, e1, fun oper hop => ?_⟩
  simp only [execOp, hop, Instr.build, Sem.run_bind, hzr, Result.andThen_ok, run_underlying ht, hplaces, Array.toList_map]
  rw [show (List.map (fun q : Nat × Operand => (q.1, ev tmps q.2)) ps.toList) = (List.map (fun (x : Nat × Operand) => match x with | (i, x) => (i, ev tmps x)) ps.toList) from rfl] at hf
  rw [hf]
  simp

theorem vBuildA_ok {t el : TypeId} {n sz : Nat} {z : List AV} {ps : Array (Nat × Operand)} {ps' : List (Nat × Nat × Opd)} (ht : c.P.underlying t = some (.array n el)) (hz : c.zeroC t = some z) (hs : c.size el = some sz)
    (hps : c.parts ds (fun i => some (i * sz, sz)) ps.toList = some ps') : VOk G ρ m L T tmps h w (vBuild z ps') (.build t ps) := by
  intro k o h' he
  obtain ⟨zv, hzr, hz1, hz2⟩ := zeroC_ok (ρ := ρ) (m := m) hc hz
  obtain ⟨z', cells', e1, hf, h1, h2⟩ := fill_ok hc r e (placeM := fun i => some (i * sz, sz)) (fun i p hp => hp) hps hz1 hz2 (show buildK ps' L T z (fun l => k (.agg l)) = .ok o h' from he)
  rw [hc] at ht
  refine ⟨.agg z', .agg cells', ⟨cells', rfl, h1, h2⟩, e1, fun oper hop => ?_⟩
  simp only [execOp, hop, Instr.build, Sem.run_bind, hzr, Result.andThen_ok, run_underlying ht, run_sizeOf hc hs, Array.toList_map]
  rw [show (List.map (fun q : Nat × Operand => (q.1, ev tmps q.2)) ps.toList) = (List.map (fun (x : Nat × Operand) => match x with | (i, x) => (i, ev tmps x)) ps.toList) from rfl] at hf
  rw [hf]
  simp

end
end
end Go.Proofs.YtpngpoeifgkclaaGreatDoor.Am

/- New blocks. -/
namespace Go.Proofs.YtpngpoeifgkclaaGreatDoor.Am

section
variable {G : Gp} {ρ : Rho}

/-- The operation lays a new block, wherever it is run; it looks at no memory. -/
def NOk (G : Gp) (ρ : Rho) (m : M) (L : List AV) (T : VT) (tmps : Array Value) (no : NK) (op : Op) : Prop :=
  ∀ k o h', no L T k = .ok o h' → ∃ ob mk, ob ≠ AObj.no ∧ k ob mk = .ok o h' ∧ ∀ (w : World) (oper : Oper), oper.op = op → ∃ w' v pl, (execOp (ev tmps) oper).run G.P w = .ok (.value v) w' ∧ Adds w w' ∧ pl.blk = w.heap.size ∧
    ∀ m' : M, m.le m' → (∀ b, m' b = some pl → VR ρ m' (mk b) v) ∧ ObjR G ρ m' pl w' ob

theorem Adds.alloc (w : World) (o : Obj) : Adds w (w.alloc o) :=
  ⟨rfl, rfl, rfl, World.size_alloc w o, fun k hk => by show (w.heap.push o)[k]? = _; rw [Array.getElem?_push, if_neg (by omega)]⟩

theorem heap_new (w : World) (o : Obj) : (w.alloc o).heap[w.heap.size]? = some o := by show (w.heap.push o)[_]? = _; simp

theorem freeR0 (pl : Pl) (fz : Nat) (C : Array Value) : FreeR pl fz C (0, 0) := fun i _ _ => by simp

/-- A row of cells, just laid. -/
theorem cellsObj {m m' : M} (hm : m.le m') {w : World} {cs : List AV} {C : Array Value} {el : TypeId} (h : VRL ρ m cs C.toList) (h1 : ∀ x ∈ C.toList, x.oneCell' = true) (g : Bool) (sz sz' : Nat) (hg : g = true → sz = sz') :
    ObjR G ρ m' ⟨w.heap.size, 0, C.size, sz⟩ (w.alloc (.cells C el)) (.cells g sz' 0 cs) := by
  refine ⟨C, el, (0, 0), heap_new w _, ?_, Nat.le_refl _, hg, fun i a ha => ?_, freeR0 _ _ _⟩
  · have := h.length; rw [Array.length_toList] at this; show 0 + cs.length ≤ C.size; omega
  · obtain ⟨v, h2, h3⟩ := h.get ha
    rw [Array.getElem?_toList] at h2
    refine ⟨v, by show C[0 + i]? = _; rw [Nat.zero_add]; exact h2, h3.mono ρ hm, ?_⟩
    exact h1 v (by obtain ⟨hi, he⟩ := Array.getElem?_eq_some_iff.1 h2; rw [← he]; simp)

theorem repl_get {z : List AV} {s : Nat} (hz : z.length = s) : ∀ (n i : Nat), i < n * s → (repl z n)[i]? = z[i % s]? := by
  intro n
  induction n with
  | zero => intro i h; simp at h
  | succ n ih =>
    intro i h
    simp only [repl]
    rcases Nat.lt_or_ge i s with hi | hi
    · rw [List.getElem?_append_left (by omega), Nat.mod_eq_of_lt hi]
    · rw [List.getElem?_append_right (by omega), hz, ih (i - s) (by rw [Nat.succ_mul] at h; omega), Nat.mod_eq_sub_mod hi]
theorem repl_length {z : List AV} {s : Nat} (hz : z.length = s) (n : Nat) : (repl z n).length = n * s := by
  induction n with
  | zero => simp [repl]
  | succ n ih => simp only [repl, List.length_append, ih, hz, Nat.succ_mul]; omega

theorem repl_ok {m : M} {z : List AV} {zc : Array Value} {s : Nat} (h : VRL ρ m z zc.toList) (h1 : ∀ x ∈ zc.toList, x.oneCell' = true) (hz : z.length = s) (n : Nat) :
    VRL ρ m (repl z n) ((Array.range (n * s)).map (zc[· % zc.size]!)).toList ∧ ∀ x ∈ ((Array.range (n * s)).map (zc[· % zc.size]!)).toList, x.oneCell' = true := by
  have hs : zc.size = s := by have := h.length; rw [Array.length_toList] at this; omega
  have key : ∀ i, i < n * s → i % s < zc.size := fun i hi => by
    rw [hs]; exact Nat.mod_lt _ (Nat.pos_of_ne_zero fun h0 => by subst h0; simp at hi)
  refine ⟨VRL.of_get (by simp [repl_length hz]) fun i a v ha hv => ?_, fun x hx => ?_⟩
  · have hi : i < n * s := by
      have := (List.getElem?_eq_some_iff.1 ha).1
      rwa [repl_length hz] at this
    rw [repl_get hz n i hi] at ha
    obtain ⟨u, hu, hr⟩ := h.get ha
    have hvv : v = zc[i % zc.size]! := by
      simp only [Array.toList_map, Array.toList_range, List.getElem?_map, List.getElem?_range hi, Option.map_some, Option.some.injEq] at hv
      exact hv.symm
    rw [Array.getElem?_toList] at hu
    have : zc[i % zc.size]! = u := by
      rw [hs]
      simp [getElem!_def, hu]
    rw [hvv, this]; exact hr
  · simp only [Array.toList_map, Array.toList_range, List.mem_map, List.mem_range] at hx
    obtain ⟨i, hi, rfl⟩ := hx
    have hk := key i hi
    rw [← hs] at hk
    rw [getElem!_pos zc _ hk]
    exact h1 _ (by simp)

theorem repK_eq (z : List AV) (n : Nat) (k : List AV → Res) : repK z n k = k (repl z n) := by
  induction n generalizing k with
  | zero => rfl
  | succ n ih => show repK z n (fun l => appK z l k) = _; rw [ih, appK_eq]; rfl

section
variable {m : M} {h : Hp} {w : World}
variable {c : Cx} {ds : List Nat} {L : List AV} {T : VT} {tmps : Array Value} (hc : c.P = G.P) (r : Rel G ρ m h w) (e : Env c m ds L T tmps G ρ)
include hc

theorem nAlloc_ok {t : TypeId} {z : List AV} (hz : c.zeroC t = some z) : NOk G ρ m L T tmps (nAlloc z) (.alloc t) := by
  intro k o h' he
  obtain ⟨zv, hzr, hz1, hz2⟩ := zeroC_ok (ρ := ρ) (m := m) hc hz
  refine ⟨.cells false 0 0 z, fun b => .ptr b 0, by simp, he, fun w oper hop => ⟨w.alloc (.cells zv.cells t), .pointer (some ⟨w.heap.size, 0, none⟩), ⟨w.heap.size, 0, zv.cells.size, 0⟩, ?_, Adds.alloc _ _, rfl, fun m' hm => ⟨fun b hb => ⟨_, hb, rfl⟩, cellsObj hm hz1 hz2 false 0 0 (by simp)⟩⟩⟩
  simp [execOp, hop, Instr.alloc, hzr, newVar, newRow]

include r e

theorem nBox_ok {t : TypeId} {x : Operand} {x' : Opd} (hx : c.opd ds x = some x') : NOk G ρ m L T tmps (nBox x') (.box t x) := by
  intro k o h' he
  obtain ⟨a, hv, e1⟩ := opd_sound hc r e hx he
  obtain ⟨cs, e2, hcs, hco⟩ := cellsK_ok hv e1
  refine ⟨.cells false 0 0 cs, fun b => .ptr b 0, by simp, e2, fun w oper hop => ⟨w.alloc (.cells (ev tmps x).cells t), .pointer (some ⟨w.heap.size, 0, none⟩), ⟨w.heap.size, 0, (ev tmps x).cells.size, 0⟩, ?_, Adds.alloc _ _, rfl, fun m' hm => ⟨fun b hb => ⟨_, hb, rfl⟩, cellsObj hm hcs hco false 0 0 (by simp)⟩⟩⟩
  simp [execOp, hop, Instr.box, newVar, newRow]

omit r e in
theorem nMkm_ok {t : TypeId} : NOk G ρ m L T tmps nMkm (.makeMap t none) := by
  have _ := hc
  intro k o h' he
  refine ⟨.map [] 0, fun b => .map b, by simp, he, fun w oper hop => ⟨w.alloc (.map #[] 0), .map (some w.heap.size), ⟨w.heap.size, 0, 0, 0⟩, ?_, Adds.alloc _ _, rfl, fun m' hm => ⟨fun b hb => ⟨_, hb, rfl⟩, ⟨#[], heap_new w _, by simp [EntR]⟩⟩⟩⟩
  simp [execOp, hop, Instr.makeMap]

theorem nRgS_ok {t : TypeId} {x : Operand} {x' : Opd} (ht : c.P.underlying t = some .string) (hx : c.opd ds x = some x') : NOk G ρ m L T tmps (nRgS x') (.range t x) := by
  intro k o h' he
  obtain ⟨a, hv, e1⟩ := opd_sound hc r e hx he
  obtain ⟨n, v, rfl, e2⟩ := AV.onStr_inv e1
  obtain ⟨s, hv, hs⟩ := hv
  rw [hc] at ht
  refine ⟨.siter n v 0, fun b => .ptr b 0, by simp, e2, fun w oper hop => ⟨w.alloc (.stringIter s 0), .pointer (some ⟨w.heap.size, 0, none⟩), ⟨w.heap.size, 0, 0, 0⟩, ?_, Adds.alloc _ _, rfl, fun m' hm => ⟨fun b hb => ⟨_, hb, rfl⟩, ⟨s, rfl, heap_new w _, hs⟩⟩⟩⟩
  simp [execOp, hop, hv, Instr.range, run_underlying ht]

theorem nBsl_ok {t el : TypeId} {n s : Nat} {z : List AV} {ps : Array (Nat × Operand)} {ps' : List (Nat × Nat × Opd)} (ht : c.P.underlying t = some (.slice el)) (hs : c.size el = some s) (hz : c.zeroC el = some z) (hzl : z.length = s)
    (hle : n * s ≤ 16777216) (hps : c.parts ds (fun i => some (i * s, s)) ps.toList = some ps') : NOk G ρ m L T tmps (nBsl (repl z n) n s ps') (.buildSlice t n ps) := by
  intro k o h' he
  obtain ⟨zv, hzr, hz1, hz2⟩ := zeroC_ok (ρ := ρ) (m := m) hc hz
  obtain ⟨hr1, hr2⟩ := repl_ok hz1 hz2 hzl n
  obtain ⟨z', cells', e1, hf, h1, h2⟩ := fill_ok hc r e (placeM := fun i => some (i * s, s)) (fun i p hp => hp) hps hr1 hr2 (show buildK ps' L T (repl z n) (fun l => k (.cells false s 0 l) fun b => .slice b 0 n (some n)) = .ok o h' from he)
  have hsr := fun w => run_sizeOf (w := w) hc hs
  rw [hc] at ht
  refine ⟨.cells false s 0 z', fun b => .slice b 0 n (some n), by simp, e1, fun w oper hop => ⟨w.alloc (.cells cells' el), .slice (some ⟨w.heap.size, 0, none⟩) n n, ⟨w.heap.size, 0, cells'.size, s⟩, ?_, Adds.alloc _ _, rfl,
    fun m' hm => ⟨fun b hb => ⟨_, _, _, hb, rfl, Nat.le_refl _, fun _ => rfl, rfl⟩, cellsObj hm h1 h2 false s s (by simp)⟩⟩⟩
  rw [show (List.map (fun q : Nat × Operand => (q.1, ev tmps q.2)) ps.toList) = (List.map (fun (x : Nat × Operand) => match x with | (i, x) => (i, ev tmps x)) ps.toList) from rfl] at hf
  have hnle : ¬ (n * s > 2 ^ 24) := by omega
  by_cases h0 : n * s = 0
  · have hf' : Instr.fill (fun i => some (i * s, s)) #[] (List.map (fun (x : Nat × Operand) => match x with | (i, x) => (i, ev tmps x)) ps.toList) = some cells' := by
      rw [← hf]; congr 1; rw [h0]; simp
    simp only [execOp, hop, Instr.buildSlice, Sem.run_bind, run_underlying ht, hsr, Result.andThen_ok, h0, if_true, Sem.run_pure, Array.toList_map]
    simp only [show Array.range 0 = #[] from rfl, List.map_toArray, List.map_nil] at hf' ⊢
    simp [hf', newRow]
  · simp only [execOp, hop, Instr.buildSlice, Sem.run_bind, run_underlying ht, hsr, Result.andThen_ok, hnle, if_false, h0, Sem.run_pure, Array.toList_map, hzr]
    simp [hf, newRow]

theorem nMks_ok {t el : TypeId} {i : TypeInfo} {z : List AV} {x y : Operand} {x' y' : Opd} (ht : c.P.underlying t = some (.slice el)) (hi : c.P.info? el = some i) (hz : c.zeroC el = some z) (hzl : z.length = i.size) (hby : i.bytes ≤ 1048576)
    (hx : c.opd ds x = some x') (hy : c.opd ds y = some y') : NOk G ρ m L T tmps (nMks z i.size x' y') (.makeSlice t x y) := by
  intro k o h' he
  obtain ⟨a, hv, e1⟩ := opd_sound hc r e hx he
  obtain ⟨b, hv2, e2⟩ := opd_sound hc r e hy e1
  obtain ⟨κ2, cp, rfl, hcp, e3⟩ := bndK_inv e2
  obtain ⟨κ1, l, rfl, hl, e4⟩ := bndK_inv e3
  rw [repK_eq] at e4
  obtain ⟨zv, hzr, hz1, hz2⟩ := zeroC_ok (ρ := ρ) (m := m) hc hz
  obtain ⟨hr1, hr2⟩ := repl_ok hz1 hz2 hzl cp
  have hs : c.size el = some i.size := by simp [Cx.size, hi]
  have hsr := fun w => run_sizeOf (w := w) hc hs
  rw [hc] at ht hi
  simp only [VR, Int.ofNat_eq_natCast] at hv hv2
  refine ⟨.cells false i.size 0 (repl z cp), fun b => .slice b 0 l (some cp), by simp, e4, fun w oper hop => ⟨w.alloc (.cells ((Array.range (cp * i.size)).map (zv.cells[· % zv.cells.size]!)) el), .slice (some ⟨w.heap.size, 0, none⟩) l cp, ⟨w.heap.size, 0, _, i.size⟩, ?_, Adds.alloc _ _, rfl,
    fun m' hm => ⟨fun b hb => ⟨_, _, _, hb, rfl, hl, fun _ => rfl, rfl⟩, cellsObj hm hr1 hr2 false i.size i.size (by simp)⟩⟩⟩
  have hwl : IntKind.i64.wrap (l : Int) = l := wrap_hi (κ := .i64) (by simp only [hiOf]; omega)
  have hwc : IntKind.i64.wrap (cp : Int) = cp := wrap_hi (κ := .i64) (by simp only [hiOf]; omega)
  have hmul : i.bytes * cp ≤ 1048576 * 1048576 := Nat.mul_le_mul hby hcp
  have hbig : ¬ ((i.bytes : Int) * (cp : Int) > 2 ^ 48) := by
    have : ((i.bytes * cp : Nat) : Int) ≤ ((1048576 * 1048576 : Nat) : Int) := Int.ofNat_le.2 hmul
    rw [Int.natCast_mul] at this
    omega
  have hc1 : ¬ ((cp : Int) < 0) := by omega
  have hl1 : ¬ ((l : Int) < 0) := by omega
  have hlc : ¬ ((l : Int) > (cp : Int)) := by omega
  by_cases h0 : cp * i.size = 0
  · simp only [execOp, hop, Instr.makeSlice, Sem.run_bind, run_underlying ht, hv, hv2, asInt, asIntOf, Sem.run_pure, Result.andThen_ok, run_typeInfo hi, hwl, hwc, hc1, hl1, hlc, hbig, decide_false, Bool.or_false, Bool.false_eq_true, if_false, run_askRoom, hsr, Int.toNat_natCast, h0, if_true]
    simp [newRow, show Array.range 0 = #[] from rfl]
  · simp only [execOp, hop, Instr.makeSlice, Sem.run_bind, run_underlying ht, hv, hv2, asInt, asIntOf, Sem.run_pure, Result.andThen_ok, run_typeInfo hi, hwl, hwc, hc1, hl1, hlc, hbig, decide_false, Bool.or_false, Bool.false_eq_true, if_false, run_askRoom, hsr, Int.toNat_natCast, h0, hzr]
    simp [newRow]

omit hc r e in
theorem bytesK_ok {l : List UInt8} : ∀ {k : List AV → Res} {o : AOut} {h' : Hp}, bytesK l.length (codeOf l) k = .ok o h' → k (l.map fun b => .int 4 (.ofNat b.toNat)) = .ok o h' := by
  induction l with
  | nil => intro k o h' e; exact e
  | cons b l ih =>
    intro k o h' e
    have hb := u8_lt b
    have h1 : codeOf (b :: l) % 256 = b.toNat := by rw [codeOf_cons]; omega
    have h2 : codeOf (b :: l) / 256 = codeOf l := by rw [codeOf_cons]; omega
    have e : natK (codeOf (b :: l) % 256) (fun b' => natK (codeOf (b :: l) / 256) fun w => bytesK l.length w fun l => k (.int 4 (.ofNat b') :: l)) = .ok o h' := e
    rw [natK_eq, natK_eq, h1, h2] at e
    exact ih e

theorem nCsb_ok {s t el : TypeId} {x : Operand} {x' : Opd} (hs : c.P.underlying s = some .string) (ht : c.P.underlying t = some (.slice el)) (hel : c.P.underlying el = some (.int .u8)) (hx : c.opd ds x = some x') :
    NOk G ρ m L T tmps (nCsb x') (.convert s t x) := by
  intro k o h' he
  obtain ⟨a, hv, e1⟩ := opd_sound hc r e hx he
  obtain ⟨n, v, rfl, e2⟩ := AV.onStr_inv e1
  obtain ⟨_, e3⟩ := ifK_inv e2
  obtain ⟨st, hv, hst⟩ := hv
  rw [← hst.1, ← hst.2] at e3
  have e4 := bytesK_ok e3
  rw [hc] at hs ht hel
  refine ⟨.cells true 1 0 (st.data.toList.map fun b => .int 4 (.ofNat b.toNat)), fun b => .slice b 0 st.data.toList.length none, by simp, e4, fun w oper hop => ?_⟩
  let cap := Question.cut (.appendCap st.size 0 el) (w.tape w.drawn (.appendCap st.size 0 el))
  have hcap : st.size ≤ cap := by show st.size ≤ st.size + _; omega
  let C : Array Value := (st.data.map fun b => Value.int .u8 b.toNat) ++ Array.replicate (cap - st.size) (.int .u8 0)
  have hC : C.size = cap := by simp only [C, Array.size_append, Array.size_map, Array.size_replicate]; show st.size + _ = _; omega
  let w1 : World := World.alloc { w with drawn := w.drawn + 1 } (.cells C el)
  have hrun : (execOp (ev tmps) oper).run G.P w = .ok (.value (.slice (some ⟨w.heap.size, 0, none⟩) st.size cap)) (w1.freeze ⟨w.heap.size, C.size, none⟩ 1) := by
    have hsh : w1.shape? w.heap.size = some (el, C.size) := by
      have : w1.heap[w.heap.size]? = some (.cells C el) := heap_new { w with drawn := w.drawn + 1 } _
      simp [World.shape?, this]
    have hms : ∀ k : Unit → World → Result Next, ((markStringish ⟨w.heap.size, 0, none⟩).run G.P w1).andThen k = k () (w1.freeze ⟨w.heap.size, C.size, none⟩ 1) := fun k => by
      simp only [markStringish, Sem.run_bind, run_shape, hsh, Result.andThen_ok, run_freeze]
    simp only [execOp, hop, convert, Sem.run_bind, run_underlying hs, run_underlying ht, run_underlying hel, Result.andThen_ok, hv, Conv.stringToBytes, run_choose, Question.forced, Bool.false_eq_true, if_false, newRow, run_newObj, Sem.run_pure]
    have := hms fun _ w' => .ok (.value (.slice (some ⟨w.heap.size, 0, none⟩) st.size cap)) w'
    cases hq : (markStringish ⟨w.heap.size, 0, none⟩).run G.P w1 with
    | halt hh w2 => rw [hq] at this; cases this
    | ok u w2 =>
      rw [hq] at this
      have h2 := congrArg (fun x => x) hq
      show ((((markStringish ⟨w.heap.size, 0, none⟩).run G.P w1).andThen _).andThen _) = _
      rw [hq]
      exact this
  have hw2 : (w1.freeze ⟨w.heap.size, C.size, none⟩ 1).heap[w.heap.size]? = some (.cells C el (C.size, C.size + 1)) := by
    have : w1.heap[w.heap.size]? = some (.cells C el) := heap_new { w with drawn := w.drawn + 1 } _
    simp [World.freeze, Array.getElem?_modify, this]
  refine ⟨_, _, ⟨w.heap.size, 0, cap, 1⟩, hrun, ?_, rfl, fun m' hm => ⟨fun b hb => ⟨⟨w.heap.size, 0, cap, 1⟩, ⟨w.heap.size, 0, none⟩, cap, hb, by rw [hst.1, hst.size], by show st.size ≤ cap; exact hcap, fun _ => rfl, by show 0 + 0 + cap * 1 = cap; omega, Nat.one_pos⟩, ?_⟩⟩
  · have a1 := Adds.alloc { w with drawn := w.drawn + 1 } (.cells C el)
    refine ⟨rfl, rfl, rfl, ?_, fun k hk => ?_⟩
    · simp only [World.freeze, Nat.one_ne_zero, if_false, Array.size_modify]; exact a1.size
    · have hne : ¬ (w.heap.size = k) := by omega
      simp only [World.freeze, Nat.one_ne_zero, if_false, Array.getElem?_modify, hne]
      exact a1.heap k hk
  · refine ⟨C, el, _, hw2, ?_, ?_, fun _ => rfl, fun i a ha => ?_, fun i _ hi => ?_⟩
    · show 0 + _ ≤ cap; rw [List.length_map]; show 0 + st.size ≤ cap; omega
    · show cap ≤ C.size; omega
    · simp only [List.getElem?_map, Option.map_eq_some_iff] at ha
      obtain ⟨b, hb, rfl⟩ := ha
      rw [Array.getElem?_toList] at hb
      have hlt : i < st.data.size := (Array.getElem?_eq_some_iff.1 hb).1
      refine ⟨.int .u8 b.toNat, ?_, rfl, rfl⟩
      show C[0 + i]? = _
      rw [Nat.zero_add]
      simp only [C]
      rw [Array.getElem?_append_left (by simpa using hlt)]
      simp [hb]
    · have : decide (C.size ≤ 0 + i) = false := by rw [decide_eq_false_iff_not]; simp only at hi; omega
      show (decide (C.size ≤ 0 + i) && _) = false
      rw [this]; rfl

end
end
end Go.Proofs.YtpngpoeifgkclaaGreatDoor.Am

/- Stores. -/
namespace Go.Proofs.YtpngpoeifgkclaaGreatDoor.Am

theorem Only.refl (w : World) (b : Nat) : Only w w b := ⟨rfl, rfl, rfl, rfl, fun _ _ => rfl⟩
theorem Only.trans {a b c : World} {k : Nat} (x : Only a b k) (y : Only b c k) : Only a c k :=
  ⟨y.os.trans x.os, y.tape.trans x.tape, y.output.trans x.output, y.size.trans x.size, fun j hj => (y.heap j hj).trans (x.heap j hj)⟩

theorem setCell_only (w : World) (a : Addr) (v : Value) : Only w (w.setCell a v) a.block :=
  ⟨rfl, rfl, rfl, by simp [World.setCell], fun k hk => by simp only [World.setCell, Array.getElem?_modify]; rw [if_neg (fun e => hk e.symm)]⟩

theorem setCell_row {w : World} {b p : Nat} {C : Array Value} {e : TypeId} {f : Nat × Nat} (h : w.heap[b]? = some (.cells C e f)) (v : Value) : (w.setCell ⟨b, p, none⟩ v).heap[b]? = some (.cells (C.setIfInBounds p v) e f) := by
  simp only [World.setCell, Array.getElem?_modify, if_true, h, Option.map_some]
  simp

theorem storeCells_ok {P : Program} {b p : Nat} {e : TypeId} {f : Nat × Nat} : ∀ (vs : List Value) (i : Nat) (w : World) (C : Array Value), w.heap[b]? = some (.cells C e f) → (∀ x ∈ vs, x.oneCell' = true) → p + i + vs.length ≤ C.size →
    (∀ j, p + i ≤ j → j < C.size → (decide (f.1 ≤ j) && decide (j < f.2)) = false) →
    ∃ w' C', (storeCells ⟨b, p, none⟩ vs i).run P w = .ok () w' ∧ Only w w' b ∧ w'.heap[b]? = some (.cells C' e f) ∧ C'.size = C.size ∧ (∀ j, j < p + i → C'[j]? = C[j]?) ∧ (∀ j, j < vs.length → C'[p + i + j]? = vs[j]?) ∧ (∀ j, p + i + vs.length ≤ j → C'[j]? = C[j]?)
  | [], i, w, C, h, _, _, _ => ⟨w, C, rfl, Only.refl w b, h, rfl, fun _ _ => rfl, fun j hj => by simp at hj, fun _ _ => rfl⟩
  | v :: vs, i, w, C, h, h1, hle, hf => by
    simp only [List.length_cons] at hle
    have hcell : w.cell? ⟨b, p + i, none⟩ = some C[p + i] := by simp [World.cell?, h, Array.getElem?_eq_getElem (show p + i < C.size by omega)]
    have hfr : w.frozen? ⟨b, p + i, none⟩ = false := by
      simp only [World.frozen?, h]
      exact hf (p + i) (Nat.le_refl _) (by omega)
    have hst : (store (Addr.add ⟨b, p, none⟩ i) v).run P w = .ok () (w.setCell ⟨b, p + i, none⟩ v) := by
      rw [run_store P w _ v .plain (h1 v (by simp)), Addr.add_lit, hcell]
      simp [hfr]
    obtain ⟨w', C', e1, e2, e3, e4, e5, e6, e7⟩ := storeCells_ok (P := P) (b := b) (p := p) (e := e) (f := f) vs (i + 1) (w.setCell ⟨b, p + i, none⟩ v) (C.setIfInBounds (p + i) v) (setCell_row h v) (fun x hx => h1 x (by simp [hx])) (by simp; omega)
      (fun j h2 h3 => hf j (by omega) (by simpa using h3))
    refine ⟨w', C', ?_, (setCell_only w _ v).trans e2, e3, by rw [e4]; simp, fun j hj => ?_, fun j hj => ?_, fun j hj => ?_⟩
    · rw [storeCells, Sem.run_bind, hst, Result.andThen_ok, e1]
    · rw [e5 j (by omega), Array.getElem?_setIfInBounds_ne (by omega)]
    · cases j with
      | zero => rw [Nat.add_zero, e5 (p + i) (by omega), Array.getElem?_setIfInBounds_self_of_lt (by omega)]; simp
      | succ j =>
        have := e6 j (by simpa using hj)
        rw [show p + i + (j + 1) = p + (i + 1) + j by omega, this]; simp
    · simp only [List.length_cons] at hj
      rw [e7 j (by omega), Array.getElem?_setIfInBounds_ne (by omega)]

section
variable {G : Gp} {ρ : Rho}

/-- The operation writes, and gives no value. -/
def SOk (G : Gp) (ρ : Rho) (m : M) (L : List AV) (T : VT) (tmps : Array Value) (h : Hp) (w : World) (so : SK) (op : Op) : Prop :=
  ∀ k o h', so L T h k = .ok o h' → ∃ h1 w1, k h1 = .ok o h' ∧ Evo G ρ m h w m h1 w1 ∧ h1.nx = h.nx ∧ ∀ oper : Oper, oper.op = op → (execOp (ev tmps) oper).run G.P w = .ok .skip w1

/-- Cells laid over cells. -/
theorem store_row {m : M} {h : Hp} {w : World} (r : Rel G ρ m h w) {b : Hi} {pl : Pl} {g : Bool} {sz fz : Nat} {c vs' : List AV} {vs : List Value} {j : Nat} (hb : h.tr.at b ≠ .no) (hob : h.tr.at b = .cells g sz fz c) (hm : m b = some pl) (hfz : fz ≤ j)
    (hle : j + vs'.length ≤ c.length) (hv : VRL ρ m vs' vs) (h1 : ∀ x ∈ vs, x.oneCell' = true) :
    ∃ w1, (storeCells ⟨pl.blk, pl.base + j, none⟩ vs).run G.P w = .ok () w1 ∧ Evo G ρ m h w m ⟨h.tr.put (.cells g sz fz (c.take j ++ vs' ++ c.drop (j + vs'.length))) b, h.fz, h.nx⟩ w1 := by
  obtain ⟨hlt, hobj⟩ := obj_ok r (at_ne_of_tr hb) hm
  rw [Hp.at_tr hb, hob] at hobj
  obtain ⟨C, e, f, hh, hcl, hce, hgsz, hget, hfree⟩ := hobj
  have hlen := hv.length
  obtain ⟨w1, C', e1, e2, e3, e4, e5, e6, e7⟩ := storeCells_ok (P := G.P) (b := pl.blk) (p := pl.base + j) vs 0 w C hh h1 (by omega) (fun i h2 h3 => by
    have := hfree (i - pl.base) (by omega) (by rw [show pl.base + (i - pl.base) = i by omega]; exact h3)
    rwa [show pl.base + (i - pl.base) = i by omega] at this)
  refine ⟨w1, e1, Evo.set r hb hm e2 (by simp) ⟨C', e, f, e3, ?_, by omega, hgsz, fun i a ha => ?_, fun i h2 h3 => hfree i h2 (by omega)⟩⟩
  · simp only [List.length_append, List.length_take, List.length_drop]; omega
  · rcases Nat.lt_or_ge i j with hi | hi
    · rw [List.append_assoc, List.getElem?_append_left (by rw [List.length_take]; omega), List.getElem?_take, if_pos hi] at ha
      obtain ⟨v, h2, h3, h4⟩ := hget i a ha
      exact ⟨v, by rw [e5 (pl.base + i) (by omega)]; exact h2, h3, h4⟩
    · rcases Nat.lt_or_ge i (j + vs'.length) with hi2 | hi2
      · rw [List.getElem?_append_left (by rw [List.length_append, List.length_take]; omega), List.getElem?_append_right (by rw [List.length_take]; omega), List.length_take, Nat.min_eq_left (by omega)] at ha
        obtain ⟨v, h2, h3⟩ := hv.get ha
        refine ⟨v, ?_, h3, h1 v (List.mem_of_getElem? h2)⟩
        have := e6 (i - j) (by omega)
        rw [show pl.base + j + 0 + (i - j) = pl.base + i by omega] at this
        rw [this, h2]
      · rw [List.getElem?_append_right (by rw [List.length_append, List.length_take]; omega), List.length_append, List.length_take, Nat.min_eq_left (by omega), List.getElem?_drop] at ha
        rw [show j + vs'.length + (i - (j + vs'.length)) = i by omega] at ha
        obtain ⟨v, h2, h3, h4⟩ := hget i a ha
        exact ⟨v, by rw [e7 (pl.base + i) (by omega)]; exact h2, h3, h4⟩

theorem setObj_only {w : World} {r : Nat} {o o' : Obj} {P : Program} (h : w.heap[r]? = some o) (hnc : ∀ c e f, o ≠ .cells c e f) : ∃ w1, (setObj r o').run P w = .ok () w1 ∧ Only w w1 r ∧ w1.heap[r]? = some o' := by
  have hlt : r < w.heap.size := (Array.getElem?_eq_some_iff.1 h).1
  refine ⟨{ w with heap := w.heap.setIfInBounds r o' }, ?_, ⟨rfl, rfl, rfl, by simp, fun k hk => ?_⟩, ?_⟩
  · simp only [setObj, Sem.run, h]
  · simp only [Array.getElem?_setIfInBounds_ne (fun e => hk e.symm)]
  · simp [hlt]

theorem EntR.length {m : M} : ∀ {es : List AEnt} {E : List MapEntry}, EntR ρ m es E → E.length = es.length
  | [], _, h => by simp only [EntR] at h; simp [h]
  | _ :: _, _, ⟨_, _, e, _, _, _, h⟩ => by subst e; simp [h.length]

theorem EntR.append {m : M} : ∀ {es fs : List AEnt} {E F : List MapEntry}, EntR ρ m es E → EntR ρ m fs F → EntR ρ m (es ++ fs) (E ++ F)
  | [], _, _, _, h, h2 => by simp only [EntR] at h; subst h; exact h2
  | _ :: _, _, _, _, ⟨e, r, he, h1, h2, h3, h⟩, h4 => by subst he; exact ⟨e, _, rfl, h1, h2, h3, h.append h4⟩

theorem EntR.set {m : M} : ∀ {es : List AEnt} {E : List MapEntry} {i : Nat} {a : AEnt} {f : MapEntry → MapEntry}, EntR ρ m es E → (∀ e, E[i]? = some e → VR ρ m a.key (f e).key ∧ VR ρ m a.val (f e).val ∧ a.born = (f e).born) → EntR ρ m (es.set i a) (E.modify i f)
  | [], _, i, _, _, h, _ => by simp only [EntR] at h; subst h; cases i <;> exact rfl
  | _ :: _, _, 0, a, f, ⟨e, r, he, h1, h2, h3, h⟩, h4 => by subst he; obtain ⟨k1, k2, k3⟩ := h4 e rfl; exact ⟨f e, r, rfl, k1, k2, k3, h⟩
  | _ :: _, _, i + 1, a, f, ⟨e, r, he, h1, h2, h3, h⟩, h4 => by subst he; exact ⟨e, _, rfl, h1, h2, h3, h.set fun e he => h4 e (by simpa using he)⟩

theorem sameBits_key {v u : Value} (h : KeyIs v u true) (n : Nat) : Instr.sameBits n u v = true := by
  rcases h with ⟨κ, x, y, rfl, rfl, h⟩ | ⟨s, t, rfl, rfl, h⟩ | ⟨p, q, rfl, rfl, h⟩
  · have h : x = y := by simpa using h.symm
    subst h; unfold Instr.sameBits; simp
  · have h : s.toList = t.toList := by simpa using h.symm
    unfold Instr.sameBits
    rw [beq_toListBytes, h]; simp
  · have h : p = q := by simpa using h.symm
    subst h; unfold Instr.sameBits; simp

theorem run_keyThatStays {v u : Value} (h : KeyIs v u true) (P : Program) (w : World) : (Instr.keyThatStays u v).run P w = .ok v w := by
  unfold Instr.keyThatStays
  rw [sameBits_key h]; rfl

section
variable {m : M} {h : Hp} {w : World}
variable {c : Cx} {ds : List Nat} {L : List AV} {T : VT} {tmps : Array Value} (hc : c.P = G.P) (r : Rel G ρ m h w) (e : Env c m ds L T tmps G ρ)
include hc r e

theorem sSt1_ok {t : TypeId} {x y : Operand} {x' y' : Opd} (hs : c.size t = some 1) (hx : c.opd ds x = some x') (hy : c.opd ds y = some y') : SOk G ρ m L T tmps h w (sSt1 x' y') (.store t x y) := by
  intro k o h' he
  obtain ⟨a, hv, e1⟩ := opd_sound hc r e hx he
  obtain ⟨v, hv2, e2⟩ := opd_sound hc r e hy e1
  obtain ⟨ho, e3⟩ := AV.onOne_inv e2
  obtain ⟨b, j, rfl, e4⟩ := AV.onPtr_inv e3
  obtain ⟨hb, hat, e5⟩ := ownK_inv e4
  obtain ⟨g, sz, fz, cs, hob, e6⟩ := AObj.onCells_inv e5
  obtain ⟨hfz, e7⟩ := ifK_inv e6
  obtain ⟨hle, e8⟩ := putK_inv e7
  rw [setK_eq] at e8
  obtain ⟨pl, hm, hv⟩ := hv
  have hone := hv2.one ho
  obtain ⟨w1, h1, h2⟩ := store_row r hb hob hm (Nat.le_of_ble_eq_true hfz) (vs' := [v]) (vs := [ev tmps y]) hle ⟨_, _, rfl, hv2, rfl⟩ (by simpa using hone)
  refine ⟨_, w1, e8, h2, rfl, fun oper hop => ?_⟩
  have hcells : (ev tmps y).cells = #[ev tmps y] := by revert hone; cases ev tmps y <;> simp [Value.oneCell', Value.cells]
  simp only [execOp, hop, hv, Instr.storeAt, Instr.sureAddr, storeVar, Sem.run_bind, Sem.run_pure, Result.andThen_ok, run_sizeOf hc hs, hcells, List.size_toArray, List.length_singleton, ne_eq, not_true_eq_false, if_false, h1]

theorem sStn_ok {t : TypeId} {n : Nat} {x y : Operand} {x' y' : Opd} (hs : c.size t = some n) (hx : c.opd ds x = some x') (hy : c.opd ds y = some y') : SOk G ρ m L T tmps h w (sStn x' y' n) (.store t x y) := by
  intro k o h' he
  obtain ⟨a, hv, e1⟩ := opd_sound hc r e hx he
  obtain ⟨v, hv2, e2⟩ := opd_sound hc r e hy e1
  obtain ⟨l, rfl, e3⟩ := AV.onAgg_inv e2
  rw [lenK_eq] at e3
  obtain ⟨hn, e3⟩ := ifK_inv e3
  have hn := Nat.eq_of_beq_eq_true hn
  obtain ⟨b, j, rfl, e4⟩ := AV.onPtr_inv e3
  obtain ⟨hb, hat, e5⟩ := ownK_inv e4
  obtain ⟨g, sz, fz, cs, hob, e6⟩ := AObj.onCells_inv e5
  obtain ⟨hfz, e7⟩ := ifK_inv e6
  obtain ⟨hle, e8⟩ := putK_inv e7
  rw [setK_eq] at e8
  obtain ⟨pl, hm, hv⟩ := hv
  obtain ⟨xs, hv2, hl, hone⟩ := hv2
  obtain ⟨w1, h1, h2⟩ := store_row r hb hob hm (Nat.le_of_ble_eq_true hfz) hle hl hone
  refine ⟨_, w1, e8, h2, rfl, fun oper hop => ?_⟩
  have hsz : xs.size = n := by have := hl.length; rw [Array.length_toList] at this; omega
  simp only [execOp, hop, hv, hv2, Instr.storeAt, Instr.sureAddr, storeVar, Sem.run_bind, Sem.run_pure, Result.andThen_ok, run_sizeOf hc hs, Value.cells, hsz, ne_eq, not_true_eq_false, if_false, h1]

/-- What an insertion does. -/
theorem sMup_run {t u el : TypeId} {q : Nat} {x y z : Operand} {x' y' z' : Opd} (ht : c.P.underlying t = some (.map u el)) (hq : c.keyNo u = some q) (hx : c.opd ds x = some x') (hy : c.opd ds y = some y') (hz : c.opd ds z = some z') {k : Hp → Res} {o : AOut} {h' : Hp}
    (he : sMup q x' y' z' L T h k = .ok o h') : ∃ h1 w1, k h1 = .ok o h' ∧ Evo G ρ m h w m h1 w1 ∧ h1.nx = h.nx ∧ (Instr.mapUpdate t (ev tmps x) (ev tmps y) (ev tmps z)).run G.P w = .ok () w1 := by
  obtain ⟨a, hv, e1⟩ := opd_sound hc r e hx he
  obtain ⟨b, hv2, e2⟩ := opd_sound hc r e hy e1
  obtain ⟨d, hv3, e3⟩ := opd_sound hc r e hz e2
  obtain ⟨e4, dd, hd, hkd⟩ := keyIs_inv hq hv2 e3
  rw [hc] at ht hd
  rcases AV.onMap_inv e4 with ⟨rfl, e5⟩ | ⟨b0, rfl, e5⟩
  · cases e5
  obtain ⟨hb, hat, e6⟩ := ownK_inv e5
  obtain ⟨es, cl, hob, e7⟩ := AObj.onMap_inv e6
  obtain ⟨pl, hm, hv⟩ := hv
  obtain ⟨hlt, hobj⟩ := obj_ok r (at_ne_of_tr hb) hm
  rw [hat, hob] at hobj
  obtain ⟨E, hE, hER⟩ := hobj
  obtain ⟨fa, fb, e8, hf, hfr⟩ := findK_ok hv2 hd hkd hER e7
  have hget : (getObj pl.blk).run G.P w = .ok (.map E cl) w := by simp only [getObj, Sem.run, hE]
  cases hfr with
  | none =>
    have e8 : natK (Nat.succ cl) (fun c' => setK b0 (.map (es ++ [⟨b, d, cl⟩]) c') h k) = .ok o h' := e8
    rw [natK_eq, setK_eq] at e8
    obtain ⟨w1, h1, h2, h3⟩ := setObj_only (P := G.P) (o' := .map (E.push { key := ev tmps y, val := ev tmps z, born := cl }) (cl + 1)) hE (by simp)
    refine ⟨_, w1, e8, Evo.set r hb hm h2 (by simp) ⟨_, h3, ?_⟩, rfl, ?_⟩
    · rw [Array.toList_push]
      exact hER.append ⟨_, _, rfl, hv2, hv3, rfl, rfl⟩
    · simp only [hv, Instr.mapUpdate, Sem.run_bind, run_underlying ht, Result.andThen_ok, hget, checkKey_ok hd hkd, hf, h1]
  | @some i ae en h3 h4 h5 h6 h7 =>
    have e8 : setK b0 (.map (setEnt es i ⟨b, d, ae.born⟩) cl) h k = .ok o h' := e8
    rw [setK_eq] at e8
    obtain ⟨w1, h1, h2, h3'⟩ := setObj_only (P := G.P) (o' := .map (E.modify i fun e => { e with key := ev tmps y, val := ev tmps z }) cl) hE (by simp)
    have hEi : E[i]? = some en := by rw [← Array.getElem?_toList]; exact h4
    refine ⟨_, w1, e8, Evo.set r hb hm h2 (by simp) ⟨_, h3', ?_⟩, rfl, ?_⟩
    · rw [Array.toList_modify]
      exact hER.set fun e he => by rw [h4] at he; cases he; exact ⟨hv2, hv3, h6⟩
    · simp only [hv, Instr.mapUpdate, Sem.run_bind, run_underlying ht, Result.andThen_ok, hget, checkKey_ok hd hkd, hf, hEi, Option.map_some, Option.getD_some, run_keyThatStays h7, h1]

theorem sMup_ok {t u el : TypeId} {q : Nat} {x y z : Operand} {x' y' z' : Opd} (ht : c.P.underlying t = some (.map u el)) (hq : c.keyNo u = some q) (hx : c.opd ds x = some x') (hy : c.opd ds y = some y') (hz : c.opd ds z = some z') :
    SOk G ρ m L T tmps h w (sMup q x' y' z') (.mapUpdate t x y z) ∧ SOk G ρ m L T tmps h w (sMup q x' y' z') (.insert t x y z) := by
  refine ⟨fun k o h' he => ?_, fun k o h' he => ?_⟩ <;>
  · obtain ⟨h1, w1, e1, e2, e3, e4⟩ := sMup_run hc r e ht hq hx hy hz he
    exact ⟨h1, w1, e1, e2, e3, fun oper hop => by simp only [execOp, hop, Sem.run_bind, e4, Result.andThen_ok, Sem.run_pure]⟩

omit hc r e in
theorem placeOf_ok {es : List AEnt} {E : Array MapEntry} (h : EntR ρ m es E.toList) {s i : Nat} {ae : AEnt} (hp : placeOf es s = some (i, ae)) : es[i]? = some ae ∧ E.findIdx? (fun e => (e.born : Int) == (s : Int)) = some i := by
  have key : ∀ (es : List AEnt) (E : List MapEntry), EntR ρ m es E → es.findIdx? (fun e => Nat.beq e.born s) = E.findIdx? (fun e => (e.born : Int) == (s : Int)) := by
    intro es
    induction es with
    | nil => intro E h; simp only [EntR] at h; subst h; rfl
    | cons a es ih =>
      rintro E ⟨e, r, rfl, _, _, hb, h⟩
      have hbe : Nat.beq a.born s = ((e.born : Int) == (s : Int)) := by rw [Bool.eq_iff_iff, Nat.beq_eq, beq_iff_eq, hb]; omega
      simp only [List.findIdx?_cons, hbe, ih r h]
  unfold placeOf at hp
  rw [key es E.toList h] at hp
  split at hp
  · rename_i i' hi
    simp only [Option.map_eq_some_iff, Prod.mk.injEq] at hp
    obtain ⟨e, he, rfl, rfl⟩ := hp
    exact ⟨he, by rw [← hi, List.findIdx?_toArray]⟩
  · cases hp

theorem sEst_ok {t : TypeId} {x y z : Operand} {x' y' z' : Opd} (hx : c.opd ds x = some x') (hy : c.opd ds y = some y') (hz : c.opd ds z = some z') : SOk G ρ m L T tmps h w (sEst x' y' z') (.entryStore t x y z) := by
  intro k o h' he
  obtain ⟨a, hv, e1⟩ := opd_sound hc r e hx he
  obtain ⟨b, hv2, e2⟩ := opd_sound hc r e hy e1
  obtain ⟨d, hv3, e3⟩ := opd_sound hc r e hz e2
  rcases AV.onMap_inv e3 with ⟨rfl, e5⟩ | ⟨b0, rfl, e5⟩
  · cases e5
  obtain ⟨hb, hat, e6⟩ := ownK_inv e5
  obtain ⟨es, cl, hob, e7⟩ := AObj.onMap_inv e6
  obtain ⟨κ, n, rfl, e8⟩ := AV.onInt_inv e7
  obtain ⟨pl, hm, hv⟩ := hv
  obtain ⟨hlt, hobj⟩ := obj_ok r (at_ne_of_tr hb) hm
  rw [hat, hob] at hobj
  obtain ⟨E, hE, hER⟩ := hobj
  cases n with
  | negSucc _ => cases e8
  | ofNat s =>
    have hget : (getObj pl.blk).run G.P w = .ok (.map E cl) w := by simp only [getObj, Sem.run, hE]
    simp only [VR, Int.ofNat_eq_natCast] at hv2
    cases hp : placeOf es s with
    | none => simp only [hp] at e8; cases e8
    | some pr =>
      obtain ⟨i, ae⟩ := pr
      simp only [hp] at e8
      rw [setK_eq] at e8
      obtain ⟨h3, h4⟩ := placeOf_ok hER hp
      obtain ⟨w1, h1, h2, h3'⟩ := setObj_only (P := G.P) (o' := .map (E.modify i fun e => { e with val := ev tmps z }) cl) hE (by simp)
      refine ⟨_, w1, e8, Evo.set r hb hm h2 (by simp) ⟨_, h3', ?_⟩, rfl, fun oper hop => ?_⟩
      · rw [Array.toList_modify]
        have hgen : ∀ {es : List AEnt} {E : List MapEntry} {i : Nat} {ae : AEnt}, EntR ρ m es E → es[i]? = some ae → ∀ e, E[i]? = some e → VR ρ m ae.key e.key ∧ ae.born = e.born := by
          intro es
          induction es with
          | nil => intro E i ae h h2; simp at h2
          | cons a es ih =>
            rintro E i ae ⟨e, r, rfl, k1, k2, k3, k4⟩ h2 e' h5
            cases i with
            | zero => simp at h2 h5; subst h2; subst h5; exact ⟨k1, k3⟩
            | succ i => exact ih k4 (by simpa using h2) e' (by simpa using h5)
        exact hER.set fun e he => let ⟨k1, k2⟩ := hgen hER h3 e he; ⟨k1, hv3, k2⟩
      · simp only [execOp, hop, hv, hv2, Instr.entryStore, Sem.run_bind, hget, Result.andThen_ok, asInt, asIntOf, Sem.run_pure, h4, h1]

end
end
end Go.Proofs.YtpngpoeifgkclaaGreatDoor.Am

/- 'append'. -/
namespace Go.Proofs.YtpngpoeifgkclaaGreatDoor.Am

theorem append_cut {argTypes : Array TypeId} {t u : TypeId} {ts : List TypeId} (h : argTypes.toList = t :: u :: ts) (ty : TypeId) (x y : Value) : Builtin.append_ argTypes ty #[x, y] = Builtin.append_ #[t, u] ty #[x, y] := by
  rw [arr_of_list h]
  simp [Builtin.append_]

section
variable {P : Program} {w : World} {t u ty el : TypeId} {i : TypeInfo} {zv : Value} {du : TypeDesc}

/-- Room is there. -/
theorem run_app_fit (ht : P.underlying t = some (.slice el)) (hu : P.underlying u = some du) (hnu : du = .string ∨ ∃ e, du = .slice e) (hi : P.info? el = some i) {base : Option Addr} {n s c : Nat} {Y : Value} {new : Array Value}
    (hY : Builtin.lenOf Y = pure n) (happ : (Builtin.firstCells i.size n Y).run P w = .ok new w) (hle : s + n ≤ c) {w1 : World}
    (hst : (match base with | some a => storeCells (a.add (s * i.size)) new.toList | none => pure ()).run P w = .ok () w1) :
    (Builtin.append_ #[t, u] ty #[.slice base s c, Y]).run P w = .ok (.slice base (s + n) c) w1 := by
  have hsz : (sizeOf el).run P w = .ok i.size w := by simp only [sizeOf, Sem.run_bind, run_typeInfo hi, Result.andThen_ok, Sem.run_pure]
  rcases hnu with rfl | ⟨e, rfl⟩
  all_goals
    cases base with
    | none =>
      simp only [Sem.run_pure, Result.ok.injEq, true_and] at hst; subst hst
      simp [Builtin.append_, run_underlying ht, run_underlying hu, hsz, hY, hle, happ]
    | some a =>
      simp only at hst
      simp [Builtin.append_, run_underlying ht, run_underlying hu, hsz, hY, hle, happ, hst]

/-- Room is not there. -/
theorem run_app_grow (ht : P.underlying t = some (.slice el)) (hu : P.underlying u = some du) (hnu : du = .string ∨ ∃ e, du = .slice e) (hi : P.info? el = some i) (hz : i.zero = some zv) {base : Option Addr} {n s c : Nat} {Y : Value} {new old : Array Value}
    (hY : Builtin.lenOf Y = pure n) (happ : (Builtin.firstCells i.size n Y).run P w.drew = .ok new w.drew) (hold : (Builtin.firstCells i.size s (.slice base s c)).run P w.drew = .ok old w.drew) (hgt : c < s + n)
    (hb : (s + n) * i.bytes ≤ 1099511627776) (hb0 : i.bytes ≠ 0) :
    (Builtin.append_ #[t, u] ty #[.slice base s c, Y]).run P w = .ok (.slice (some ⟨w.heap.size, 0, none⟩) (s + n) (grownCap w (s + n) c el))
      (w.drew.alloc (.cells (old ++ new ++ Builtin.zeroCells zv.cells (grownCap w (s + n) c el - (s + n))) el)) := by
  have hsz : (sizeOf el).run P w = .ok i.size w := by simp only [sizeOf, Sem.run_bind, run_typeInfo hi, Result.andThen_ok, Sem.run_pure]
  have hle : ¬ (s + n ≤ c) := by omega
  have hfit := growslice_fits (need := s + n) (old := c) (bytes := i.bytes) hgt (by omega)
  have hfit' : ¬ (Builtin.nextslicecap (s + n) c * i.bytes > 2 ^ 48) := by omega
  have hsn : s + n ≤ 1099511627776 := by
    have : (s + n) * 1 ≤ (s + n) * i.bytes := Nat.mul_le_mul_left _ (Nat.pos_of_ne_zero hb0)
    omega
  have hzr : ∀ w, (zeroValue el).run P w = .ok zv w := fun w => by simp only [zeroValue, Sem.run_bind, run_typeInfo hi, Result.andThen_ok, hz, Sem.run_pure]
  have h63 : ¬ (((s + n : Nat) : Int) > IntKind.i64.max ∧ (False ∨ i.bytes = 0)) := by rintro ⟨h, _⟩; rw [IntKind.max_i64] at h; omega
  have hch : (choose (.appendCap (s + n) c el)).run P w = .ok (grownCap w (s + n) c el) w.drew := by rw [run_choose]; rfl
  have h63 : ¬ ((9223372036854775807 : Int) < (s : Int) + (n : Int)) := by omega
  have hfit2 : ¬ (281474976710656 < Builtin.nextslicecap (s + n) c * i.bytes) := by omega
  rcases hnu with rfl | ⟨e, rfl⟩
  all_goals
    simp [Builtin.append_, run_underlying ht, run_underlying hu, sizeOf, run_typeInfo hi, hY, hle, h63, hfit2, hold, happ, hzr, newRow, Question.forced, grownCap]
end

section
variable {G : Gp} {ρ : Rho}

/-- The operation has an effect, and gives a value. -/
def XOk (G : Gp) (ρ : Rho) (m : M) (L : List AV) (T : VT) (tmps : Array Value) (h : Hp) (w : World) (xo : XK) (op : Op) : Prop :=
  ∀ k o h', xo L T h k = .ok o h' → ∃ a h1 m1 w1 v, k a h1 = .ok o h' ∧ Evo G ρ m h w m1 h1 w1 ∧ VR ρ m1 a v ∧ ∀ oper : Oper, oper.op = op → (execOp (ev tmps) oper).run G.P w = .ok (.value v) w1

theorem Same.drew' (w : World) : Same w w.drew := ⟨rfl, rfl, rfl, rfl⟩
theorem Adds.drew (w : World) (o : Obj) : Adds w (w.drew.alloc o) := by
  have a := Adds.alloc w.drew o
  exact ⟨a.os, a.tape, a.output, a.size, a.heap⟩

theorem zeroCells_size (z : Array Value) (n : Nat) : (Builtin.zeroCells z n).size = n * z.size := by simp [Builtin.zeroCells]

/-- A grown block. -/
theorem grown_new {m : M} {h : Hp} {w : World} (r : Rel G ρ m h w) {cs : List AV} {C R : Array Value} {el : TypeId} {sz s cap : Nat} {nx' : Hi} (hn : nx'.val = h.nx.val + 1) (hcs : VRL ρ m cs C.toList) (h1 : ∀ x ∈ C.toList, x.oneCell' = true)
    (hC : C.size = s * sz) (hR : R.size = (cap - s) * sz) (hle : s ≤ cap) (hsz : 0 < sz) :
    ∃ m1, Evo G ρ m h w m1 ⟨h.tr.put (.cells true sz 0 cs) h.nx, h.fz, nx'⟩ (w.drew.alloc (.cells (C ++ R) el)) ∧ VR ρ m1 (.slice h.nx 0 s none) (.slice (some ⟨w.heap.size, 0, none⟩) s cap) := by
  have htot : (C ++ R).size = cap * sz := by
    rw [Array.size_append, hC, hR, ← Nat.add_mul]; congr 1; omega
  have hnone : m h.nx = none := r.fresh _ (Nat.le_refl _)
  refine ⟨m.put h.nx ⟨w.heap.size, 0, cap * sz, sz⟩, Evo.new (pl := ⟨w.heap.size, 0, cap * sz, sz⟩) r hn (Adds.drew w _) rfl (by simp) ?_, ⟨w.heap.size, 0, cap * sz, sz⟩, _, _, M.put_same _ _ _, rfl, hle, fun _ => rfl, by show 0 + 0 + cap * sz = cap * sz; omega, hsz⟩
  have hlen : cs.length = s * sz := by have := hcs.length; rw [Array.length_toList] at this; omega
  refine ⟨C ++ R, el, (0, 0), heap_new w.drew _, ?_, by rw [htot]; exact Nat.le_refl _, fun _ => rfl, fun i a ha => ?_, freeR0 _ _ _⟩
  · show 0 + cs.length ≤ cap * sz
    rw [hlen, Nat.zero_add]; exact Nat.mul_le_mul_right _ hle
  · obtain ⟨v, h2, h3⟩ := hcs.get ha
    rw [Array.getElem?_toList] at h2
    have hlt := (Array.getElem?_eq_some_iff.1 h2).1
    refine ⟨v, by show (C ++ R)[0 + i]? = _; rw [Nat.zero_add, Array.getElem?_append_left hlt]; exact h2, h3.mono ρ (M.le_put hnone), ?_⟩
    obtain ⟨hi, he⟩ := Array.getElem?_eq_some_iff.1 h2
    exact h1 v (by rw [← he]; simp)

section
variable {m : M} {h : Hp} {w : World} {t u ty el : TypeId} {i : TypeInfo} {zv : Value} {du : TypeDesc}

theorem sliceK_inv {x : AV} {k : Res} {o : AOut} {h' : Hp} (e : sliceK x k = .ok o h') : (x = .nils ∨ ∃ b i n c, x = .slice b i n c) ∧ k = .ok o h' := by
  rcases AV.onSlice_inv (show x.onSlice k (fun _ _ _ _ => k) = .ok o h' from e) with ⟨h1, h2⟩ | ⟨b, i, n, c, h1, h2⟩
  · exact ⟨.inl h1, h2⟩
  · exact ⟨.inr ⟨b, i, n, c, h1⟩, h2⟩

/-- Nothing is appended. -/
theorem append_none {Y : Value} (hf : ∀ w, (Builtin.firstCells i.size 0 Y).run G.P w = .ok #[] w) (ht : G.P.underlying t = some (.slice el)) (hu : G.P.underlying u = some du) (hnu : du = .string ∨ ∃ e, du = .slice e) (hi : G.P.info? el = some i)
    (hY : Builtin.lenOf Y = pure 0) {x : AV} {X : Value} (hX : VR ρ m x X) (hx : x = .nils ∨ ∃ b i n c, x = .slice b i n c) : (Builtin.append_ #[t, u] ty #[X, Y]).run G.P w = .ok X w := by
  rcases hx with rfl | ⟨b, j, n, cp, rfl⟩
  · simp only [VR] at hX
    subst hX
    exact run_app_fit ht hu hnu hi (n := 0) (new := #[]) hY (hf w) (Nat.le_refl _) rfl
  · obtain ⟨pl, ad, cc, hm, rfl, hnc, had, hcr⟩ := hX
    exact run_app_fit (s := n) (c := cc) ht hu hnu hi (n := 0) (new := #[]) hY (hf w) (by omega) rfl

theorem appendK_ok (r : Rel G ρ m h w) (ht : G.P.underlying t = some (.slice el)) (hu : G.P.underlying u = some du) (hnu : du = .string ∨ ∃ e, du = .slice e) (hi : G.P.info? el = some i) (hz : i.zero = some zv) (hzs : zv.cells.size = i.size)
    (hs0 : i.size ≠ 0) (hb0 : i.bytes ≠ 0) {x : AV} {X Y : Value} {n : Nat} {new : List AV} {newv : Array Value} (hX : VR ρ m x X) (hY : Builtin.lenOf Y = pure n) (happ : ∀ w', Same w w' → (Builtin.firstCells i.size n Y).run G.P w' = .ok newv w')
    (hf0 : ∀ w, (Builtin.firstCells i.size 0 Y).run G.P w = .ok #[] w) (hnew : VRL ρ m new newv.toList) (hone : ∀ y ∈ newv.toList, y.oneCell' = true) (hnl : newv.size = n * i.size) {k : AV → Hp → Res} {o : AOut} {h' : Hp} (e : appendK x n new i.size i.bytes h k = .ok o h') :
    ∃ a h1 m1 w1 v, k a h1 = .ok o h' ∧ Evo G ρ m h w m1 h1 w1 ∧ VR ρ m1 a v ∧ ∀ ty, (Builtin.append_ #[t, u] ty #[X, Y]).run G.P w = .ok v w1 := by
  have e : ifK (Nat.beq n 0) (sliceK x (k x h)) (ifK (Nat.ble (Nat.mul n i.bytes) 1099511627776)
    (x.onSlice (newK (.cells true i.size 0 new) h fun b h => k (.slice b 0 n none) h)
      fun b o s c => ifK (Nat.ble (Nat.mul (Nat.add s n) i.bytes) 1099511627776) (growK b o s c n new i.size h k) .bad) .bad) = .ok o h' := e
  rw [ifK_eq] at e
  have hsz : 0 < i.size := Nat.pos_of_ne_zero hs0
  by_cases hn0 : n = 0
  · subst hn0
    simp only [Nat.beq_refl, if_true] at e
    obtain ⟨hx, e1⟩ := sliceK_inv e
    exact ⟨x, h, m, w, X, e1, Evo.refl r, hX, fun ty => append_none hf0 ht hu hnu hi hY hX hx⟩
  · have hne : ¬ (Nat.beq n 0 = true) := fun h => hn0 (Nat.eq_of_beq_eq_true h)
    rw [if_neg hne] at e
    obtain ⟨hb1, e1⟩ := ifK_inv e
    rw [Nat.ble_eq] at hb1
    have hb1 : n * i.bytes ≤ 1099511627776 := hb1
    have hnlen : new.length = n * i.size := by have := hnew.length; rw [Array.length_toList] at this; omega
    rcases AV.onSlice_inv e1 with ⟨rfl, e2⟩ | ⟨b, j, s, cp, rfl, e2⟩
    · obtain ⟨nx', hnx, e3⟩ := newK_inv e2
      simp only [VR] at hX
      subst hX
      have hgc : n ≤ grownCap w n 0 el := by show n ≤ n + _; omega
      obtain ⟨m1, h1, h2⟩ := grown_new (el := el) (R := Builtin.zeroCells zv.cells (grownCap w n 0 el - n)) (cap := grownCap w n 0 el) r hnx hnew hone hnl (by rw [zeroCells_size, hzs]) hgc hsz
      refine ⟨_, _, m1, _, _, e3, h1, h2, fun ty => ?_⟩
      have := run_app_grow (ty := ty) (base := none) (s := 0) (c := 0) (old := #[]) ht hu hnu hi hz hY (happ w.drew (Same.drew' w)) (by simp [Builtin.firstCells]) (by omega) (by rw [Nat.zero_add]; exact hb1) hb0
      rw [this]
      simp
    · obtain ⟨hb2, e3⟩ := ifK_inv e2
      rw [Nat.ble_eq] at hb2
      have hb2 : (s + n) * i.bytes ≤ 1099511627776 := hb2
      obtain ⟨pl, ad, cc, hm, rfl, hsc, had, hcr⟩ := hX
      obtain ⟨hb, e4⟩ := atK_inv e3
      obtain ⟨g, osz, fz, cs, hob, e5⟩ := AObj.onCells_inv e4
      rw [lenK_eq, natK_eq, natK_eq] at e5
      have hobj := (obj_ok r hb hm).2
      rw [hob] at hobj
      -- in place
      have inplace : ∀ cap', s + n ≤ cc → fz ≤ j + s * i.size → h.tr.at b ≠ .no → CapR pl j cc cap' → putK (j + s * i.size) new cs (fun c => setK b (.cells g osz fz c) h fun h => k (.slice b j (s + n) cap') h) = .ok o h' →
          ∃ a h1 m1 w1 v, k a h1 = .ok o h' ∧ Evo G ρ m h w m1 h1 w1 ∧ VR ρ m1 a v ∧ ∀ ty, (Builtin.append_ #[t, u] ty #[.slice (some ad) s cc, Y]).run G.P w = .ok v w1 := by
        intro cap' hle hfz htr hcap e6
        obtain ⟨hlen, e7⟩ := putK_inv e6
        rw [setK_eq] at e7
        have hat := Hp.at_tr htr
        obtain ⟨w1, h1, h2⟩ := store_row r htr (by rw [← hat]; exact hob) hm hfz hlen hnew hone
        refine ⟨_, _, m, w1, .slice (some ad) (s + n) cc, e7, h2, ⟨pl, ad, cc, hm, rfl, hle, had, hcap⟩, fun ty => ?_⟩
        refine run_app_fit (base := some ad) ht hu hnu hi hY (happ w (Same.refl w)) hle ?_
        rw [had (by omega)]
        show (storeCells (Addr.add ⟨pl.blk, pl.base + j, none⟩ (s * i.size)) newv.toList).run G.P w = _
        rw [Addr.add_lit, Nat.add_assoc]
        exact h1
      -- a block of its own
      have away : ∀ {h0 : Hp}, Evo G ρ m h w m h0 w → cc < s + n → dropK j cs (fun d => takeK (Nat.mul s i.size) d new fun c' => newK (.cells true i.size 0 c') h0 fun b h => k (.slice b 0 (s + n) none) h) = .ok o h' →
          ∃ a h1 m1 w1 v, k a h1 = .ok o h' ∧ Evo G ρ m h w m1 h1 w1 ∧ VR ρ m1 a v ∧ ∀ ty, (Builtin.append_ #[t, u] ty #[.slice (some ad) s cc, Y]).run G.P w = .ok v w1 := by
        intro h0 ev0 hgt e6
        obtain ⟨h1, e7⟩ := dropK_inv e6
        obtain ⟨h2, e8⟩ := takeK_inv e7
        have h2 : s * i.size ≤ (cs.drop j).length := h2
        rw [List.length_drop] at h2
        obtain ⟨nx', hnx, e9⟩ := newK_inv e8
        obtain ⟨xs, h3, h4, h5⟩ := cells_ok (Evo.same r (Same.drew' w)).rel hob hm (o := j) (n := s * i.size) (by omega) G.P
        have hold : (Builtin.firstCells i.size s (.slice (some ad) s cc)).run G.P w.drew = .ok xs w.drew := by
          simp only [Builtin.firstCells]
          rcases Nat.eq_zero_or_pos cc with h0 | h0
          · have hs : s = 0 := by omega
            subst hs
            rw [Nat.zero_mul] at h3 ⊢
            rw [← h3]; rfl
          · rw [had h0]; exact h3
        have hgc : s + n ≤ grownCap w (s + n) cc el := by show s + n ≤ s + n + _; omega
        have hxl : xs.size = s * i.size := by have := h4.length; rw [Array.length_toList, List.length_take, List.length_drop] at this; omega
        obtain ⟨m1, h6, h7⟩ := grown_new (el := el) (C := xs ++ newv) (R := Builtin.zeroCells zv.cells (grownCap w (s + n) cc el - (s + n))) (cap := grownCap w (s + n) cc el) (s := s + n) ev0.rel hnx
          (by rw [Array.toList_append]; exact h4.append hnew) (by rw [Array.toList_append]; exact fun y hy => (List.mem_append.1 hy).elim (h5 y) (hone y))
          (by rw [Array.size_append, hxl, hnl, Nat.add_mul]) (by rw [zeroCells_size, hzs]) hgc hsz
        exact ⟨_, _, m1, _, _, e9, ev0.trans h6, h7, fun ty => run_app_grow (ty := ty) ht hu hnu hi hz hY (happ w.drew (Same.drew' w)) hold hgt hb2 hb0⟩
      cases cp with
      | some cap =>
        have hcc : cc = cap := hcr
        subst hcc
        have e5 : ifK (Nat.ble (s + n) cc) (ownK b h fun _ => ifK (Nat.ble fz (j + s * i.size)) (putK (j + s * i.size) new cs fun c => setK b (.cells g osz fz c) h fun h => k (.slice b j (s + n) (some cc)) h) .bad)
          (dropK j cs fun d => takeK (Nat.mul s i.size) d new fun c' => newK (.cells true i.size 0 c') h fun b h => k (.slice b 0 (s + n) none) h) = .ok o h' := e5
        rw [ifK_eq] at e5
        by_cases hle : s + n ≤ cc
        · rw [if_pos (Nat.ble_eq_true_of_le hle)] at e5
          obtain ⟨htr, _, e6⟩ := ownK_inv e5
          obtain ⟨hfz, e7⟩ := ifK_inv e6
          exact inplace (some cc) hle (Nat.le_of_ble_eq_true hfz) htr rfl e7
        · rw [if_neg (fun h => hle (Nat.le_of_ble_eq_true h))] at e5
          exact away (Evo.refl r) (by omega) e5
      | none =>
        have e5 : ifK g (ifK (Nat.beq osz i.size) (ifK (Nat.ble (j + s * i.size + n * i.size) cs.length)
          (ownK b h fun _ => ifK (Nat.ble fz (j + s * i.size)) (putK (j + s * i.size) new cs fun c => setK b (.cells g osz fz c) h fun h => k (.slice b j (s + n) none) h) .bad)
          (ownK b h fun _ => ifK (Nat.ble fz j) (dropK j cs fun d => takeK (Nat.mul s i.size) d new fun c' => delK b h fun h => newK (.cells true i.size 0 c') h fun b h => k (.slice b 0 (s + n) none) h) .bad)) .bad) .bad = .ok o h' := e5
        obtain ⟨hg, e6⟩ := ifK_inv e5
        obtain ⟨hos, e7⟩ := ifK_inv e6
        obtain rfl := Nat.eq_of_beq_eq_true hos
        rw [ifK_eq] at e7
        obtain ⟨C, et, f, hh, hcl, hce, hgsz, hget, hfree⟩ := hobj
        have hpsz := hgsz hg
        obtain ⟨hcr1, _⟩ := hcr
        rw [hpsz] at hcr1
        by_cases hle : j + s * i.size + n * i.size ≤ cs.length
        · rw [if_pos (Nat.ble_eq_true_of_le hle)] at e7
          obtain ⟨htr, _, e8⟩ := ownK_inv e7
          obtain ⟨hfz, e9⟩ := ifK_inv e8
          have : (s + n) * i.size ≤ cc * i.size := by rw [Nat.add_mul]; omega
          exact inplace none (Nat.le_of_mul_le_mul_right this hsz) (Nat.le_of_ble_eq_true hfz) htr ⟨by rw [hpsz]; exact hcr1, by rw [hpsz]; exact hsz⟩ e9
        · rw [if_neg (fun h => hle (Nat.le_of_ble_eq_true h))] at e7
          obtain ⟨htr, _, e8⟩ := ownK_inv e7
          obtain ⟨hfz, e9⟩ := ifK_inv e8
          have hfz := Nat.le_of_ble_eq_true hfz
          by_cases hgt : cc < s + n
          · have ed := Evo.del r htr
            refine away ed hgt ?_
            simp only [delK, setK_eq] at e9
            exact e9
          · -- in place after all: the object goes on under a new name
            have hle2 : s + n ≤ cc := by omega
            obtain ⟨h1, e10⟩ := dropK_inv e9
            obtain ⟨h2, e11⟩ := takeK_inv e10
            have h2 : s * i.size ≤ (cs.drop j).length := h2
            rw [List.length_drop] at h2
            simp only [delK, setK_eq] at e11
            obtain ⟨nx', hnx, e12⟩ := newK_inv e11
            have hroom : pl.base + j + s * i.size + n * i.size ≤ C.size := by
              have : (s + n) * i.size ≤ cc * i.size := Nat.mul_le_mul_right _ hle2
              rw [Nat.add_mul] at this; omega
            obtain ⟨w1, C', q1, q2, q3, q4, q5, q6, q7⟩ := storeCells_ok (P := G.P) (b := pl.blk) (p := pl.base + j + s * i.size) newv.toList 0 w C hh hone (by rw [Array.length_toList]; omega) (fun x h3 h4 => by
              have := hfree (x - pl.base) (by omega) (by rw [show pl.base + (x - pl.base) = x by omega]; exact h4)
              rwa [show pl.base + (x - pl.base) = x by omega] at this)
            have hnone : m h.nx = none := r.fresh _ (Nat.le_refl _)
            have hcp : CapR ⟨pl.blk, pl.base + j, pl.cend, i.size⟩ 0 cc none := ⟨by show pl.base + j + 0 + cc * i.size = pl.cend; omega, hsz⟩
            refine ⟨_, _, m.put h.nx ⟨pl.blk, pl.base + j, pl.cend, i.size⟩, w1, .slice (some ad) (s + n) cc, e12,
              Evo.rename (pl' := ⟨pl.blk, pl.base + j, pl.cend, i.size⟩) r htr hm hnx rfl q2 (by simp) ⟨C', et, f, q3, ?_, by rw [q4]; exact hce, fun _ => rfl, fun x a ha => ?_, fun x _ hx => ?_⟩,
              ⟨⟨pl.blk, pl.base + j, pl.cend, i.size⟩, ad, cc, M.put_same _ _ _, rfl, hle2, fun h0 => by rw [had h0]; rfl, hcp⟩, fun ty => ?_⟩
            · show pl.base + j + (List.take (s * i.size) (List.drop j cs) ++ new).length ≤ pl.cend
              rw [List.length_append, List.length_take, List.length_drop, hnlen]
              have : (s + n) * i.size ≤ cc * i.size := Nat.mul_le_mul_right _ hle2
              rw [Nat.add_mul] at this; omega
            · show ∃ v, C'[pl.base + j + x]? = some v ∧ _
              rcases Nat.lt_or_ge x (s * i.size) with hx | hx
              · rw [List.getElem?_append_left (by rw [List.length_take, List.length_drop]; show x < min (s * i.size) (cs.length - j); omega)] at ha
                have ha : ((cs.drop j).take (s * i.size))[x]? = some a := ha
                rw [List.getElem?_take, if_pos hx, List.getElem?_drop] at ha
                obtain ⟨v, h3, h4, h5⟩ := hget _ a ha
                exact ⟨v, by rw [q5 _ (by omega), Nat.add_assoc]; exact h3, h4.mono ρ (M.le_put hnone), h5⟩
              · rw [List.getElem?_append_right (by rw [List.length_take, List.length_drop]; exact Nat.le_trans (Nat.min_le_left _ _) hx), List.length_take, List.length_drop, Nat.min_eq_left (show s.mul i.size ≤ cs.length - j from by show s * i.size ≤ _; omega)] at ha
                have ha : new[x - s * i.size]? = some a := ha
                obtain ⟨v, h3, h4⟩ := hnew.get ha
                have hlt : x - s * i.size < newv.toList.length := (List.getElem?_eq_some_iff.1 h3).1
                refine ⟨v, ?_, h4.mono ρ (M.le_put hnone), hone v (List.mem_of_getElem? h3)⟩
                have := q6 (x - s * i.size) hlt
                rw [show pl.base + j + s * i.size + 0 + (x - s * i.size) = pl.base + j + x by omega] at this
                rw [this, h3]
            · show (decide (f.1 ≤ pl.base + j + x) && decide (pl.base + j + x < f.2)) = false
              have hx : pl.base + j + x < C'.size := hx
              have := hfree (j + x) (by omega) (by omega)
              rwa [← Nat.add_assoc] at this
            · refine run_app_fit (base := some ad) ht hu hnu hi hY (happ w (Same.refl w)) hle2 ?_
              rw [had (by omega)]
              show (storeCells (Addr.add ⟨pl.blk, pl.base + j, none⟩ (s * i.size)) newv.toList).run G.P w = _
              rw [Addr.add_lit]
              exact q1

end
end
end Go.Proofs.YtpngpoeifgkclaaGreatDoor.Am

/- Effects that give a value. -/
namespace Go.Proofs.YtpngpoeifgkclaaGreatDoor.Am

section
variable {G : Gp} {ρ : Rho}

/-- One block is another, and stands for what it stood for. -/
theorem Evo.keep {m : M} {h : Hp} {w w' : World} {b : Hi} {pl : Pl} (r : Rel G ρ m h w) (hb : h.tr.at b ≠ .no) (hm : m b = some pl) (hw : Only w w' pl.blk) (hobj : ObjR G ρ m pl w' (h.at b)) : Evo G ρ m h w m h w' := by
  have hbb := at_ne_of_tr hb
  refine ⟨⟨r.fresh, fun p hp => ?_, r.sep, r.disj, r.glob⟩, M.le.refl m, hw.os, hw.tape, hw.output, by rw [hw.size]; exact Nat.le_refl _, fun k _ hn => hw.heap k fun e => hn b pl hb hm e.symm, fun p q hp hq => .inl ⟨p, q, hp, hq, rfl⟩, rfl, Nat.le_refl _, fun _ _ e => e⟩
  by_cases e : b = p
  · subst e
    obtain ⟨pl', h1, h2, _⟩ := r.dom b hbb
    rw [hm] at h1; cases h1
    exact ⟨pl, hm, by rw [hw.size]; exact h2, hobj⟩
  · obtain ⟨pl', h1, h2, h3⟩ := r.dom p hp
    exact ⟨pl', h1, by rw [hw.size]; exact h2, h3.mono (M.le.refl m) (hw.heap _ fun e' => e (r.sep b p pl pl' hbb hp hm h1 e'.symm))⟩

section
variable {m : M} {h : Hp} {w : World}
variable {c : Cx} {ds : List Nat} {L : List AV} {T : VT} {tmps : Array Value} (hc : c.P = G.P) (r : Rel G ρ m h w) (e : Env c m ds L T tmps G ρ)
include hc r e

theorem xApp_ok {k : Call} {t u el eu : TypeId} {ts : List TypeId} {i : TypeInfo} {zv : Value} {x' y' : Opd} {z : List AV} (hk : k.callee = .builtin .append) (hat : k.argTypes.toList = t :: u :: ts) (ht : c.P.underlying t = some (.slice el))
    (hu : c.P.underlying u = some (.slice eu)) (hi : c.P.info? el = some i) (hz : i.zero = some zv) (hzs : zv.cells.size = i.size) (hs0 : i.size ≠ 0) (hb0 : i.bytes ≠ 0) (hx : c.opds ds k.args.toList = some [x', y']) :
    XOk G ρ m L T tmps h w (xApp x' y' i.size i.bytes z) (.call k) := by
  intro kk o h' he
  obtain ⟨x, y, hxl, hx1, hy1⟩ := opds_two hx
  have hargs : k.args.map (ev tmps) = #[ev tmps x, ev tmps y] := by rw [arr_of_list hxl]; simp
  obtain ⟨a, hv, e1⟩ := opd_sound hc r e hx1 he
  obtain ⟨b, hv2, e2⟩ := opd_sound hc r e hy1 e1
  rw [hc] at ht hu hi
  have fin : (∃ a h1 m1 w1 v, kk a h1 = .ok o h' ∧ Evo G ρ m h w m1 h1 w1 ∧ VR ρ m1 a v ∧ ∀ ty, (Builtin.append_ #[t, u] ty #[ev tmps x, ev tmps y]).run G.P w = .ok v w1) →
      ∃ a h1 m1 w1 v, kk a h1 = .ok o h' ∧ Evo G ρ m h w m1 h1 w1 ∧ VR ρ m1 a v ∧ ∀ oper : Oper, oper.op = .call k → (execOp (ev tmps) oper).run G.P w = .ok (.value v) w1 := by
    rintro ⟨a, h1, m1, w1, v, q1, q2, q3, q4⟩
    refine ⟨a, h1, m1, w1, v, q1, q2, q3, fun oper ho => ?_⟩
    obtain ⟨cs, hcs⟩ := exec_builtin (w := w) hk (ρ' := ev tmps) ho G.P
    rw [hcs, hargs]
    simp only [builtin, append_cut hat, Sem.run_bind, q4, Result.andThen_ok, Sem.run_pure]
  apply fin
  rcases AV.onSlice_inv e2 with ⟨rfl, e3⟩ | ⟨b, j, n, cp, rfl, e3⟩
  · obtain ⟨hxs, e4⟩ := sliceK_inv e3
    simp only [VR] at hv2
    refine ⟨a, h, m, w, _, e4, Evo.refl r, hv, fun ty => ?_⟩
    rw [hv2]
    exact append_none (Y := .slice none 0 0) (fun w => rfl) ht hu (.inr ⟨_, rfl⟩) hi rfl hv hxs
  · obtain ⟨pl, ad, cc, hm, hv2, hnc, had, hcr⟩ := hv2
    rw [ifK_eq] at e3
    by_cases hn0 : n = 0
    · subst hn0
      simp only [Nat.beq_refl, if_true] at e3
      obtain ⟨hxs, e4⟩ := sliceK_inv e3
      refine ⟨a, h, m, w, _, e4, Evo.refl r, hv, fun ty => ?_⟩
      rw [hv2]
      exact append_none (Y := .slice (some ad) 0 cc) (fun w => by simp [Builtin.firstCells, loadCells, loadCellsFrom]) ht hu (.inr ⟨_, rfl⟩) hi rfl hv hxs
    · rw [if_neg (fun h => hn0 (Nat.eq_of_beq_eq_true h))] at e3
      obtain ⟨hb, e4⟩ := atK_inv e3
      obtain ⟨g, sz, fz, cs, hob, e5⟩ := AObj.onCells_inv e4
      obtain ⟨h1, e6⟩ := dropK_inv e5
      obtain ⟨h2, e7⟩ := takeK_inv e6
      rw [List.append_nil] at e7
      have h2 : n * i.size ≤ (cs.drop j).length := h2
      rw [List.length_drop] at h2
      obtain ⟨xs, h3, h4, h5⟩ := cells_ok r hob hm (o := j) (n := n * i.size) (by omega) G.P
      have hxl : xs.size = n * i.size := by have := h4.length; rw [Array.length_toList, List.length_take, List.length_drop] at this; omega
      rw [hv2]
      refine appendK_ok r ht hu (.inr ⟨_, rfl⟩) hi hz hzs hs0 hb0 hv (Y := .slice (some ad) n cc) rfl (newv := xs) (fun w' hw => ?_) (fun w => by simp [Builtin.firstCells, loadCells, loadCellsFrom]) h4 h5 hxl e7
      obtain ⟨xs', q1, q2, q3⟩ := cells_ok (Evo.same r hw).rel hob hm (o := j) (n := n * i.size) (by omega) G.P
      simp only [Builtin.firstCells]
      rw [had (by omega)]
      have : ∀ a, w'.cell? a = w.cell? a := fun a => by simp [World.cell?, hw.heap]
      have hcells := run_loadCells (P := G.P) w ⟨pl.blk, pl.base + j, none⟩ (n * i.size) (fun q => (w.cell? (Addr.add ⟨pl.blk, pl.base + j, none⟩ q)).getD undef) (fun q hq => by
        obtain ⟨v, k1, _⟩ := cell_ok r hob hm (List.getElem?_eq_getElem (show j + q < cs.length by omega))
        rw [Addr.add_lit, Nat.add_assoc, k1]; rfl)
      have hcells' := run_loadCells (P := G.P) w' ⟨pl.blk, pl.base + j, none⟩ (n * i.size) (fun q => (w.cell? (Addr.add ⟨pl.blk, pl.base + j, none⟩ q)).getD undef) (fun q hq => by
        obtain ⟨v, k1, _⟩ := cell_ok r hob hm (List.getElem?_eq_getElem (show j + q < cs.length by omega))
        rw [this, Addr.add_lit, Nat.add_assoc, k1]; rfl)
      rw [h3] at hcells
      rw [hcells']
      simp only [Result.ok.injEq] at hcells
      rw [← hcells.1]

theorem xApps_ok {k : Call} {t u el : TypeId} {ts : List TypeId} {i : TypeInfo} {zv : Value} {x' y' : Opd} (hk : k.callee = .builtin .append) (hat : k.argTypes.toList = t :: u :: ts) (ht : c.P.underlying t = some (.slice el))
    (hu : c.P.underlying u = some .string) (hi : c.P.info? el = some i) (hz : i.zero = some zv) (hzs : zv.cells.size = 1) (hs0 : i.size = 1) (hb0 : i.bytes = 1) (hx : c.opds ds k.args.toList = some [x', y']) :
    XOk G ρ m L T tmps h w (xApps x' y') (.call k) := by
  intro kk o h' he
  obtain ⟨x, y, hxl, hx1, hy1⟩ := opds_two hx
  have hargs : k.args.map (ev tmps) = #[ev tmps x, ev tmps y] := by rw [arr_of_list hxl]; simp
  obtain ⟨a, hv, e1⟩ := opd_sound hc r e hx1 he
  obtain ⟨b, hv2, e2⟩ := opd_sound hc r e hy1 e1
  obtain ⟨n, v, rfl, e3⟩ := AV.onStr_inv e2
  obtain ⟨s, hv2, hs⟩ := hv2
  rw [← hs.1, ← hs.2] at e3
  have e4 := bytesK_ok e3
  rw [hc] at ht hu hi
  have key := appendK_ok (k := kk) (o := o) (h' := h') (X := ev tmps x) (Y := .string s) (n := s.size) (newv := s.data.map fun b => .int .u8 b.toNat) (new := s.data.toList.map fun b => .int 4 (.ofNat b.toNat)) r ht hu (.inl rfl) hi hz (by rw [hzs, hs0]) (by omega) (by omega) hv rfl
    (fun w' _ => by
      simp only [Builtin.firstCells, Sem.run_pure]
      congr 2
      rw [ByteArray.data_extract]
      show s.data.extract 0 s.data.size = s.data
      simp) (fun w => by simp [Builtin.firstCells]) (by
      refine VRL.of_get (by simp) fun i a v h1 h2 => ?_
      simp only [Array.toList_map, List.getElem?_map, Option.map_eq_some_iff] at h1 h2
      obtain ⟨b1, h1, rfl⟩ := h1
      obtain ⟨b2, h2, rfl⟩ := h2
      rw [h1] at h2; cases h2; rfl) (by
      intro y hy
      simp only [Array.toList_map, List.mem_map] at hy
      obtain ⟨b, _, rfl⟩ := hy
      rfl) (by rw [hs0, Array.size_map, Nat.mul_one]; rfl) (by rw [hs0, hb0]; exact e4)
  obtain ⟨a, h1, m1, w1, v, q1, q2, q3, q4⟩ := key
  refine ⟨a, h1, m1, w1, v, q1, q2, q3, fun oper ho => ?_⟩
  obtain ⟨cs, hcs⟩ := exec_builtin (w := w) hk (ρ' := ev tmps) ho G.P
  rw [hcs, hargs, hv2]
  simp only [builtin, append_cut hat, Sem.run_bind, q4, Result.andThen_ok, Sem.run_pure]

theorem xNxS_ok {x : Operand} {x' : Opd} (hx : c.opd ds x = some x') : XOk G ρ m L T tmps h w (xNxS x') (.next x true) := by
  intro kk o h' he
  obtain ⟨a, hv, e1⟩ := opd_sound hc r e hx he
  obtain ⟨b, i, rfl, e2⟩ := AV.onPtr_inv e1
  obtain ⟨h0, e3⟩ := ifK_inv e2
  obtain rfl := Nat.eq_of_beq_eq_true h0
  obtain ⟨hb, hat, e4⟩ := ownK_inv e3
  obtain ⟨pl, hm, hv⟩ := hv
  have hobj := (obj_ok r (at_ne_of_tr hb) hm).2
  rw [hat] at hobj
  generalize hob : h.tr.at b = ob at e4 hobj
  split at e4
  · rename_i n v p
    obtain ⟨s, hbase, hE, hs⟩ := hobj
    have hget : (getObj pl.blk).run G.P w = .ok (.stringIter s p) w := by simp only [getObj, Sem.run, hE]
    have h0 : pl.base + 0 = 0 := by omega
    rw [ifK_eq, natK_eq] at e4
    by_cases hlt : p < n
    · rw [if_pos (by simpa [Nat.blt_eq] using hlt)] at e4
      obtain ⟨hc1, e5⟩ := ifK_inv e4
      rw [natK_eq, setK_eq] at e5
      have hlt' : p < s.size := by rw [hs.size]; exact hlt
      have hbyte : byteAt v p = (s[p]'hlt').toNat := by
        have : s.data.toList[p]? = some (s[p]'hlt') := by
          rw [Array.getElem?_toList, Array.getElem?_eq_getElem hlt']; rfl
        rw [← codeOf_get this, hs.2]; rfl
      have hc2 : (s[p]'hlt').toNat < 128 := by rw [← hbyte]; simpa [Nat.blt_eq] using hc1
      obtain ⟨w1, h1, h2, h3⟩ := setObj_only (P := G.P) (o' := .stringIter s (p + 1)) hE (by simp)
      refine ⟨_, _, m, w1, .tuple #[.bool true, .int .i64 p, .int .i32 (s[p]'hlt').toNat], e5, Evo.set r hb hm h2 (by simp) ⟨s, hbase, h3, hs⟩, ⟨_, rfl, ⟨_, _, rfl, rfl, ⟨_, _, rfl, rfl, ⟨_, _, rfl, by rw [hbyte]; rfl, rfl⟩⟩⟩⟩, fun oper hop => ?_⟩
      simp only [execOp, hop, hv, h0, Instr.next, Sem.run_bind, hget, Result.andThen_ok, hlt', if_true, decode_ascii s p hlt' hc2, h1, Sem.run_pure, goInt]
    · rw [if_neg (by simpa [Nat.blt_eq] using hlt)] at e4
      have hlt' : ¬ p < s.size := by rw [hs.size]; exact hlt
      refine ⟨_, _, m, w, .tuple #[.bool false], e4, Evo.refl r, ⟨_, rfl, ⟨_, _, rfl, rfl, rfl⟩⟩, fun oper hop => ?_⟩
      simp only [execOp, hop, hv, h0, Instr.next, Sem.run_bind, hget, Result.andThen_ok, hlt', if_false, Sem.run_pure]
  · cases e4

theorem xRgM_ok {t u el : TypeId} {x : Operand} {x' : Opd} (ht : c.P.underlying t = some (.map u el)) (hx : c.opd ds x = some x') : XOk G ρ m L T tmps h w (xRgM x') (.range t x) := by
  intro kk o h' he
  obtain ⟨a, hv, e1⟩ := opd_sound hc r e hx he
  rw [hc] at ht
  rcases AV.onMap_inv e1 with ⟨rfl, e2⟩ | ⟨b, rfl, e2⟩
  · cases e2
  obtain ⟨hb, e3⟩ := atK_inv e2
  obtain ⟨es, cl, hob, e4⟩ := AObj.onMap_inv e3
  obtain ⟨nx', hnx, e5⟩ := newK_inv e4
  obtain ⟨pl, hm, hv⟩ := hv
  have hobj := (obj_ok r hb hm).2
  rw [hob] at hobj
  obtain ⟨E, hE, hER⟩ := hobj
  have hget : (getObj pl.blk).run G.P w = .ok (.map E cl) w := by simp only [getObj, Sem.run, hE]
  have hnone : m h.nx = none := r.fresh _ (Nat.le_refl _)
  have hne : h.nx ≠ b := fun e => by rw [e] at hnone; rw [hnone] at hm; cases hm
  refine ⟨_, _, m.put h.nx ⟨w.heap.size, 0, 0, 0⟩, w.alloc (.mapIter (some pl.blk) cl #[] cl), .pointer (some ⟨w.heap.size, 0, none⟩), e5,
    Evo.new (pl := ⟨w.heap.size, 0, 0, 0⟩) r hnx (Adds.alloc w _) rfl (by simp) ⟨pl, cl, #[], cl, rfl, by rw [M.put_other hne]; exact hm, heap_new w _, rfl, rfl⟩, ⟨_, M.put_same _ _ _, rfl⟩, fun oper hop => ?_⟩
  simp [execOp, hop, hv, Instr.range, run_underlying ht, hget]

theorem xMen_ok {t u el : TypeId} {q : Nat} {z : AV} {x y : Operand} {x' y' : Opd} (ht : c.P.underlying t = some (.map u el)) (hq : c.keyNo u = some q) (hz : c.zeroA el = some z) (hx : c.opd ds x = some x') (hy : c.opd ds y = some y') :
    XOk G ρ m L T tmps h w (xMen q x' y' z) (.mapEntry t x y) := by
  intro kk o h' he
  obtain ⟨a, hv, e1⟩ := opd_sound hc r e hx he
  obtain ⟨b, hv2, e2⟩ := opd_sound hc r e hy e1
  obtain ⟨e4, dd, hd, hkd⟩ := keyIs_inv hq hv2 e2
  rw [hc] at ht hd
  rcases AV.onMap_inv e4 with ⟨rfl, e5⟩ | ⟨b0, rfl, e5⟩
  · cases e5
  obtain ⟨hb, hat, e6⟩ := ownK_inv e5
  obtain ⟨es, cl, hob, e7⟩ := AObj.onMap_inv e6
  obtain ⟨pl, hm, hv⟩ := hv
  obtain ⟨hlt, hobj⟩ := obj_ok r (at_ne_of_tr hb) hm
  rw [hat, hob] at hobj
  obtain ⟨E, hE, hER⟩ := hobj
  obtain ⟨fa, fb, e8, hf, hfr⟩ := findK_ok hv2 hd hkd hER e7
  have hget : (getObj pl.blk).run G.P w = .ok (.map E cl) w := by simp only [getObj, Sem.run, hE]
  obtain ⟨zv, hz1, hz2⟩ : ∃ zv, c.zero el = some zv ∧ absV zv = some z := by
    unfold Cx.zeroA at hz
    cases hzz : c.zero el with
    | none => simp [hzz] at hz
    | some zv => exact ⟨zv, rfl, by simpa [hzz] using hz⟩
  have hzr := fun w => run_zeroValue (w := w) hc hz1
  have hzv := absV_sound (ρ := ρ) (m := m) hz2
  cases hfr with
  | none =>
    have e8 : natK (Nat.succ cl) (fun c' => setK b0 (.map (es ++ [⟨b, z, cl⟩]) c') h fun h => kk (.tup [z, .int 3 (.ofNat cl)]) h) = .ok o h' := e8
    rw [natK_eq, setK_eq] at e8
    obtain ⟨w1, h1, h2, h3⟩ := setObj_only (P := G.P) (o' := .map (E.push { key := ev tmps y, val := zv, born := cl }) (cl + 1)) hE (by simp)
    refine ⟨_, _, m, w1, .tuple #[zv, goInt cl], e8, Evo.set r hb hm h2 (by simp) ⟨_, h3, ?_⟩, ⟨_, rfl, ⟨_, _, rfl, hzv, ⟨_, _, rfl, rfl, rfl⟩⟩⟩, fun oper hop => ?_⟩
    · rw [Array.toList_push]
      exact hER.append ⟨_, _, rfl, hv2, hzv, rfl, rfl⟩
    · simp only [execOp, hop, hv, Instr.mapEntry, Sem.run_bind, run_underlying ht, Result.andThen_ok, hget, checkKey_ok hd hkd, hf, hzr, h1, Sem.run_pure]
  | @some i ae en h3 h4 h5 h6 h7 =>
    have e8 : kk (.tup [ae.val, .int 3 (.ofNat ae.born)]) h = .ok o h' := e8
    obtain ⟨w1, h1, h2, h3'⟩ := setObj_only (P := G.P) (o' := .map (E.modify i fun e => { e with key := ev tmps y }) cl) hE (by simp)
    have hEi : E[i]? = some en := by rw [← Array.getElem?_toList]; exact h4
    have hsame : ev tmps y = en.key := by
      rcases h7 with ⟨κ, x, y, k1, k2, k3⟩ | ⟨s, t, k1, k2, k3⟩ | ⟨p, q, k1, k2, k3⟩
      · have : x = y := by simpa using k3.symm
        rw [k1, k2, this]
      · have h : s.toList = t.toList := by simpa using k3.symm
        have : s = t := by
          rw [ByteArray.toList_eq, ByteArray.toList_eq] at h
          apply ByteArray.ext
          apply Array.ext'
          exact h
        rw [k1, k2, this]
      · have : p = q := by simpa using k3.symm
        rw [k1, k2, this]
    have hmod : E.modify i (fun e => { e with key := ev tmps y }) = E := by
      apply Array.ext_getElem?
      intro j
      rw [Array.getElem?_modify]
      by_cases hij : i = j
      · subst hij; rw [if_pos rfl, hEi, Option.map_some, hsame]
      · rw [if_neg hij]
    refine ⟨_, _, m, w1, .tuple #[en.val, goInt en.born], e8, Evo.keep r hb hm h2 ?_, ⟨_, rfl, ⟨_, _, rfl, h5, ⟨_, _, rfl, by rw [h6]; rfl, rfl⟩⟩⟩, fun oper hop => ?_⟩
    · rw [hat, hob]
      exact ⟨E, by rw [h3', hmod], hER⟩
    · simp only [execOp, hop, hv, Instr.mapEntry, Sem.run_bind, run_underlying ht, Result.andThen_ok, hget, checkKey_ok hd hkd, hf, hEi, Option.map_some, Option.getD_some, run_keyThatStays h7, h1, Sem.run_pure]

end
end
end Go.Proofs.YtpngpoeifgkclaaGreatDoor.Am

/- From the text's operations to the machine's: each one is what it should be. -/
namespace Go.Proofs.YtpngpoeifgkclaaGreatDoor.Am

section
variable (G : Gp) (ρ : Rho)

def AOpOk (c : Cx) (ds : List Nat) (d : Dst) (op : Op) : AOp → Prop
  | .v d' vo => d' = d ∧ ∀ {m : M} {L : List AV} {T : VT} {tmps : Array Value} {h : Hp} {w : World}, Rel G ρ m h w → Env c m ds L T tmps G ρ → VOk G ρ m L T tmps h w vo.ev op
  | .n d' no => d' = d ∧ ∀ {m : M} {L : List AV} {T : VT} {tmps : Array Value} {h : Hp} {w : World}, Rel G ρ m h w → Env c m ds L T tmps G ρ → NOk G ρ m L T tmps no.ev op
  | .s so => d = .no ∧ ∀ {m : M} {L : List AV} {T : VT} {tmps : Array Value} {h : Hp} {w : World}, Rel G ρ m h w → Env c m ds L T tmps G ρ → SOk G ρ m L T tmps h w so.ev op
  | .x d' xo => d' = d ∧ ∀ {m : M} {L : List AV} {T : VT} {tmps : Array Value} {h : Hp} {w : World}, Rel G ρ m h w → Env c m ds L T tmps G ρ → XOk G ρ m L T tmps h w xo.ev op
  | .call d' f args => d' = d ∧ ∃ k x, op = .call k ∧ k.callee = .value x ∧ c.opd ds x = some f ∧ c.opds ds k.args.toList = some args
  | .callf d' p args => d' = d ∧ ∃ k f fn, op = .call k ∧ k.callee = .value (.func f) ∧ c.P.funcs[f]? = some fn ∧ (fn.name == "runtime.NumGoroutine") = false ∧ fn.body.isSome = true ∧ p = hi f ∧ f < 4096 ∧ c.opds ds k.args.toList = some args
  | .dfr f args => d = .no ∧ ∃ k x, op = .defer k ∧ k.callee = .value x ∧ c.opd ds x = some f ∧ c.opds ds k.args.toList = some args
  | .pnc x' => d = .no ∧ ∃ x, op = .panic x ∧ c.opd ds x = some x'
  | .rcv d' => d' = d ∧ ∃ k, op = .call k ∧ k.callee = .builtin .recover ∧ k.args = #[]
  | .grd _ _ _ _ => False

variable {G ρ}
variable {c : Cx} {ds : List Nat} {d : Dst} (hc : c.P = G.P)
include hc

theorem bin_ok {op : BinOp} {t u : TypeId} {x y : Operand} {x' y' : Opd} {vo : VO} (hx : c.opd ds x = some x') (hy : c.opd ds y = some y') (hb : c.bin op t x y x' y' = some vo) : AOpOk G ρ c ds d (.binOp op t x y u) (.v d vo) := by
  refine ⟨rfl, fun r e => ?_⟩
  unfold Cx.bin at hb
  split at hb
  · rename_i κ ht
    split at hb
    · rename_i o' ho; cases hb; exact vBin_ok hc r e ho hx hy
    · rename_i o' ho _; cases hb; exact vCmp_ok hc r e ho hx hy
    · cases hb
  · simp only [Option.map_eq_some_iff] at hb
    obtain ⟨o', ho, rfl⟩ := hb
    exact vSbin_ok hc r e ho hx hy
  · rename_i ht
    simp only [Option.map_eq_some_iff] at hb
    obtain ⟨n, ho, rfl⟩ := hb
    exact vEqk_ok hc r e ho (κ := .bool) ht hx hy
  · rename_i el ht
    split at hb
    · rename_i s hs
      split at hb
      · cases hb
      · rename_i hne
        simp only [Option.map_eq_some_iff] at hb
        obtain ⟨n, ho, rfl⟩ := hb
        unfold Cx.size at hs
        simp only [Option.map_eq_some_iff] at hs
        obtain ⟨i, hi, rfl⟩ := hs
        exact vEqk_ok hc r e ho (κ := .ptr) ⟨el, i, ht, hi, fun h => hne (by rw [h]; rfl)⟩ hx hy
    · cases hb
  · rename_i el ht
    simp only [Option.map_eq_some_iff] at hb
    obtain ⟨n, ho, rfl⟩ := hb
    exact vEqk_ok hc r e ho (κ := .slice) ⟨el, ht⟩ hx hy
  · rename_i a b ht
    simp only [Option.map_eq_some_iff] at hb
    obtain ⟨n, ho, rfl⟩ := hb
    exact vEqk_ok hc r e ho (κ := .map) ⟨a, b, ht⟩ hx hy
  · rename_i a b f ht
    simp only [Option.map_eq_some_iff] at hb
    obtain ⟨n, ho, rfl⟩ := hb
    exact vEqk_ok hc r e ho (κ := .func) ⟨a, b, f, ht⟩ hx hy
  · rename_i ms ht
    split at hb
    · rename_i hn
      simp only [Option.map_eq_some_iff] at hb
      obtain ⟨n, ho, rfl⟩ := hb
      exact vEqk_ok hc r e ho (κ := .iface) ⟨ms, ht, hn⟩ hx hy
    · cases hb
  · rename_i fs ht
    split at hb
    · rename_i l hl
      split at hb
      · rename_i hcond
        simp only [Option.map_eq_some_iff] at hb
        obtain ⟨n, ho, rfl⟩ := hb
        simp only [Bool.and_eq_true, Bool.not_eq_true'] at hcond
        exact vEqa_ok hc r e ho ht hl hcond.1 hcond.2 hx hy
      · cases hb
    · cases hb
  · cases hb

theorem conv_ok {s t : TypeId} {x : Operand} {x' : Opd} (hx : c.opd ds x = some x') {r' : VO ⊕ NO} (hb : c.conv s t x' = some r') : AOpOk G ρ c ds d (.convert s t x) (match r' with | .inl o => .v d o | .inr o => .n d o) := by
  unfold Cx.conv at hb
  split at hb
  · rename_i κ0 κ h1 h2
    cases hb
    exact ⟨rfl, fun r e => vCvi_ok hc r e h1 h2 hx⟩
  · rename_i h1 h2
    cases hb
    refine ⟨rfl, fun {m L T tmps h w} r e k o h' he => ?_⟩
    obtain ⟨a, hv, e1⟩ := opd_sound hc r e hx he
    obtain ⟨n, v, rfl, e2⟩ := AV.onStr_inv e1
    obtain ⟨s', hv, hs⟩ := hv
    rw [hc] at h1 h2
    refine ⟨.str n v, .string s', ⟨_, rfl, hs⟩, e2, fun oper hop => ?_⟩
    simp only [execOp, hop, hv, convert, Sem.run_bind, run_underlying h1, run_underlying h2, Result.andThen_ok, Sem.run_pure]
  · rename_i el h1 h2
    split at hb
    · rename_i h3
      cases hb
      exact ⟨rfl, fun r e => nCsb_ok hc r e h1 h2 h3 hx⟩
    · cases hb
  · rename_i el h1 h2
    split at hb
    · rename_i h3
      cases hb
      exact ⟨rfl, fun r e => vCbs_ok hc r e h1 h3 h2 hx⟩
    · cases hb
  · cases hb

theorem optO_none {x : Option Operand} {x' : Option Opd} (h : c.optO ds x = some x') : x'.isSome = x.isSome := by
  have _ := hc
  cases x with
  | none => simp only [Cx.optO, Option.some.injEq] at h; subst h; rfl
  | some y => simp only [Cx.optO, Option.map_eq_some_iff] at h; obtain ⟨a, _, rfl⟩ := h; rfl

theorem builtin_ok {k : Call} {b : Builtin} {a : AOp} (hk : k.callee = .builtin b) (h : c.builtin ds d b k.args.toList k.argTypes.toList = some a) : AOpOk G ρ c ds d (.call k) a := by
  unfold Cx.builtin at h
  split at h
  · rename_i x t ts hx hts
    split at h
    · rename_i ht; cases h; exact ⟨rfl, fun r e => vLn_ok hc r e hk ht hts hx (.inl ⟨rfl, rfl⟩)⟩
    · rename_i el ht; cases h; exact ⟨rfl, fun r e => vLn_ok hc r e hk ht hts hx (.inr (.inl ⟨el, rfl, rfl⟩))⟩
    · rename_i p q ht; cases h; exact ⟨rfl, fun r e => vLn_ok hc r e hk ht hts hx (.inr (.inr ⟨p, q, rfl, rfl⟩))⟩
    · cases h
  · rename_i x y t ts hx hts
    split at h
    · cases h; exact ⟨rfl, fun r e => vMn_ok hc r e hk hx⟩
    · cases h
  · rename_i x y t ts hx hts
    split at h
    · cases h; exact ⟨rfl, fun r e => vMx_ok hc r e hk hx⟩
    · cases h
  · rename_i x y t u ts hx hts
    split at h
    · rename_i el ht
      split at h
      · rename_i i eu hi hu
        split at h
        · rename_i zv hz
          split at h
          · cases h
          · rename_i hcond
            cases h
            have h1 : i.size ≠ 0 := fun h => hcond (by rw [h]; rfl)
            have h2 : i.bytes ≠ 0 := fun h => hcond (by rw [h]; simp)
            have h3 : zv.cells.size = i.size := Classical.byContradiction fun h => hcond (by
              have : Nat.beq zv.cells.size i.size = false := by
                cases hb : Nat.beq zv.cells.size i.size with
                | false => rfl
                | true => exact absurd (Nat.eq_of_beq_eq_true hb) h
              rw [this]; simp)
            exact ⟨rfl, fun r e => xApp_ok hc r e (z := []) hk hts ht hu hi hz h3 h1 h2 hx⟩
        · cases h
      · rename_i i hi hu
        split at h
        · rename_i zv hz
          split at h
          · rename_i hcond
            cases h
            simp only [Bool.and_eq_true] at hcond
            have h1 := Nat.eq_of_beq_eq_true hcond.1.1
            have h2 := Nat.eq_of_beq_eq_true hcond.1.2
            have h3 := Nat.eq_of_beq_eq_true hcond.2
            exact ⟨rfl, fun r e => xApps_ok hc r e hk hts ht hu hi hz h3 h1 h2 hx⟩
          · cases h
        · cases h
      · cases h
    · cases h
  · rename_i hx
    cases h
    refine ⟨rfl, k, rfl, hk, ?_⟩
    cases hl : k.args.toList with
    | nil => exact arr_of_list hl
    | cons y l => rw [hl] at hx; simp only [Cx.opds] at hx; split at hx <;> cases hx
  · cases h

theorem call_ok {k : Call} {a : AOp} (h : c.call ds d k = some a) : AOpOk G ρ c ds d (.call k) a := by
  unfold Cx.call at h
  split at h
  · rename_i b hk; exact builtin_ok hc hk h
  · cases h
  · rename_i f hk
    split at h
    · rename_i fn l hf hl
      split at h
      · cases h
      · rename_i hname
        have hname' : (fn.name == "runtime.NumGoroutine") = false := by simpa using hname
        split at h
        · rename_i b hb
          split at h
          · rename_i hlt
            cases h
            exact ⟨rfl, k, f, fn, rfl, hk, hf, hname', by rw [hb]; rfl, rfl, by simpa [Nat.blt_eq] using hlt, hl⟩
          · cases h
        · rename_i hb
          split at h
          · rename_i horig
            have horig : fn.origin = "" := by simpa using horig
            simp only [Option.map_eq_some_iff] at h
            obtain ⟨vo, hvo, rfl⟩ := h
            unfold externOf at hvo
            split at hvo
            · rename_i x y
              split at hvo
              · rename_i hn
                cases hvo
                exact ⟨rfl, fun r e => vIbs_ok hc r e hk hf hb (by simpa using hn) horig hl⟩
              · split at hvo
                · rename_i hn
                  cases hvo
                  exact ⟨rfl, fun r e => vCts_ok hc r e hk hf hb (by simpa using hn) horig hl⟩
                · cases hvo
            · cases hvo
          · cases h
    · cases h
  · rename_i x hnf hk
    split at h
    · rename_i f l hf hl
      cases h
      exact ⟨rfl, k, x, rfl, hk, hf, hl⟩
    · cases h

theorem core_ok {o : Oper} {a : AOp} (h : c.core ds d o = some a) : AOpOk G ρ c ds d o.op a := by
  unfold Cx.core at h
  cases hop : o.op <;> simp only [hop] at h <;> (try (cases h; done))
  case move x => simp only [Option.map_eq_some_iff] at h; obtain ⟨x', hx, rfl⟩ := h; exact ⟨rfl, fun r e => (vMv_ok hc r e hx).1⟩
  case assign x => simp only [Option.map_eq_some_iff] at h; obtain ⟨x', hx, rfl⟩ := h; exact ⟨rfl, fun r e => (vMv_ok hc r e hx).2⟩
  case pick g x y =>
    split at h
    · rename_i h1 h2 h3; cases h; exact ⟨rfl, fun r e => vPick_ok hc r e h1 h2 h3⟩
    · cases h
  case alloc t => simp only [Option.map_eq_some_iff] at h; obtain ⟨z, hz, rfl⟩ := h; exact ⟨rfl, fun r e => nAlloc_ok hc hz⟩
  case box t x => simp only [Option.map_eq_some_iff] at h; obtain ⟨x', hx, rfl⟩ := h; exact ⟨rfl, fun r e => nBox_ok hc r e hx⟩
  case build t ps =>
    split at h
    · rename_i fs z ht hz
      split at h
      · rename_i hall
        simp only [Option.map_eq_some_iff] at h
        obtain ⟨l, hl, rfl⟩ := h
        exact ⟨rfl, fun r e => vBuildS_ok hc r e ht hz hall hl⟩
      · cases h
    · rename_i n el z ht hz
      split at h
      · rename_i s hs
        simp only [Option.map_eq_some_iff] at h
        obtain ⟨l, hl, rfl⟩ := h
        exact ⟨rfl, fun r e => vBuildA_ok hc r e ht hz hs hl⟩
      · cases h
    · cases h
  case buildSlice t n ps =>
    split at h
    · rename_i el ht
      split at h
      · rename_i s z hs hz
        split at h
        · rename_i hcond
          simp only [Option.map_eq_some_iff] at h
          obtain ⟨l, hl, rfl⟩ := h
          simp only [Bool.and_eq_true] at hcond
          exact ⟨rfl, fun r e => nBsl_ok hc r e ht hs hz (Nat.eq_of_beq_eq_true hcond.1) (by have h2 := hcond.2; rw [Nat.ble_eq] at h2; exact h2) hl⟩
        · cases h
      · cases h
    · cases h
  case load t x =>
    split at h
    · rename_i n x' h1 h2 h3; cases h; exact ⟨rfl, fun r e => vLdn_ok hc r e h1 h2 h3⟩
    · rename_i x' h1 h3; cases h; exact ⟨rfl, fun r e => vLd1_ok hc r e h1 h3⟩
    · cases h
  case store t x y =>
    split at h
    · rename_i n x' y' h1 h2 h3 h4; cases h; exact ⟨rfl, fun r e => sStn_ok hc r e h2 h3 h4⟩
    · rename_i n x' y' h1 h2 h3 h4
      split at h
      · rename_i hn
        cases h
        exact ⟨rfl, fun r e => sSt1_ok hc r e (by rw [h2, Nat.eq_of_beq_eq_true hn]) h3 h4⟩
      · cases h
    · cases h
  case nilCheck x => simp only [Option.map_eq_some_iff] at h; obtain ⟨x', hx, rfl⟩ := h; exact ⟨rfl, fun r e => vNck_ok hc r e hx⟩
  case binOp op t x y u =>
    split at h
    · rename_i x' y' hx hy
      simp only [Option.map_eq_some_iff] at h
      obtain ⟨vo, hvo, rfl⟩ := h
      exact bin_ok hc hx hy hvo
    · cases h
  case unOp op t x =>
    cases op <;> simp only at h <;> (try (cases h; done))
    case not => simp only [Option.map_eq_some_iff] at h; obtain ⟨x', hx, rfl⟩ := h; exact ⟨rfl, fun r e => vNot_ok hc r e hx⟩
    case neg =>
      split at h
      · rename_i κ x' ht hx; cases h; exact ⟨rfl, fun r e => vNeg_ok hc r e hx⟩
      · cases h
  case convert s t x =>
    split at h
    · rename_i x' hx
      split at h
      · rename_i vo hb; cases h; exact conv_ok hc hx hb
      · rename_i no hb; cases h; exact conv_ok hc hx hb
      · cases h
    · cases h
  case makeInterface t x =>
    split at h
    · cases h
    · rename_i dd x' hni ht hx
      cases h
      exact ⟨rfl, fun r e => vMif_ok hc r e ht (fun ms he => hni ms he) hx⟩
    · cases h
  case makeFunc f fi ca =>
    cases f <;> simp only at h <;> (try (cases h; done))
    split at h
    · rename_i fi' ca' h1 h2
      split at h
      · rename_i hlt; cases h; exact ⟨rfl, fun r e => vMfn_ok hc r e (by simpa [Nat.blt_eq] using hlt) h1 h2⟩
      · cases h
    · cases h
  case makeMap t n =>
    cases n <;> simp only at h <;> cases h
    exact ⟨rfl, fun r e => nMkm_ok hc⟩
  case makeSlice t x y =>
    split at h
    · rename_i el ht
      split at h
      · rename_i i z x' y' hi hz hx hy
        split at h
        · rename_i hcond
          cases h
          simp only [Bool.and_eq_true] at hcond
          exact ⟨rfl, fun r e => nMks_ok hc r e ht hi hz (Nat.eq_of_beq_eq_true hcond.1.1) (by have h2 := hcond.1.2; rw [Nat.ble_eq] at h2; exact h2) hx hy⟩
        · cases h
      · cases h
    · cases h
  case slice t x lo hi mx =>
    split at h
    · rename_i x' lo' hi' mx' hx hlo hhi hmx
      have hgo : ¬ (mx'.isSome && hi'.isNone) = true → mx.isSome = true → hi.isSome = true := fun hn hm => by
        have h1 := optO_none hc hmx
        have h2 := optO_none hc hhi
        rw [hm] at h1
        rw [h1] at hn
        cases hh : hi'.isSome with
        | true => rw [← h2, hh]
        | false => rw [Option.isNone_iff_eq_none.2 (by simpa using hh)] at hn; simp at hn
      split at h
      · rename_i ht
        split at h
        · cases h
          cases mx with
          | none => exact ⟨rfl, fun r e => vSlS_ok hc r e ht hx hlo hhi⟩
          | some z => have := optO_none hc hmx; simp at this
        · cases h
      · rename_i el ht
        split at h
        · cases h
        · rename_i hcond
          simp only [Option.map_eq_some_iff] at h
          obtain ⟨s, hs, rfl⟩ := h
          exact ⟨rfl, fun r e => vSlL_ok hc r e ht hs hx hlo hhi hmx (hgo hcond)⟩
      · rename_i n el ht
        split at h
        · cases h
        · rename_i hcond
          simp only [Option.map_eq_some_iff] at h
          obtain ⟨s, hs, rfl⟩ := h
          exact ⟨rfl, fun r e => vSlA_ok hc r e ht hs hx hlo hhi hmx (hgo hcond)⟩
      · cases h
    · cases h
  case fieldAddr t x i =>
    split at h
    · rename_i fs x' ht hx
      split at h
      · rename_i f hf
        split at h
        · rename_i s hs
          split at h
          · cases h
          · rename_i hne
            cases h
            exact ⟨rfl, fun r e => vFad_ok hc r e ht hf hs (fun h => hne (by rw [h]; rfl)) hx⟩
        · cases h
      · cases h
    · cases h
  case field t x i =>
    split at h
    · rename_i fs x' ht hx
      split at h
      · rename_i f hf
        split at h
        · rename_i s a hs ha; cases h; exact ⟨rfl, fun r e => vFld_ok hc r e ht hf hs ha hx⟩
        · cases h
      · cases h
    · cases h
  case indexAddr t x i =>
    split at h
    · rename_i x' i' hx hi
      split at h
      · rename_i el ht
        simp only [Option.map_eq_some_iff] at h
        obtain ⟨s, hs, rfl⟩ := h
        exact ⟨rfl, fun r e => vIxL_ok hc r e ht hs hx hi⟩
      · rename_i n el ht
        simp only [Option.map_eq_some_iff] at h
        obtain ⟨s, hs, rfl⟩ := h
        exact ⟨rfl, fun r e => vIxA_ok hc r e ht hs hx hi⟩
      · cases h
    · cases h
  case index t x i =>
    split at h
    · rename_i x' i' hx hi
      split at h
      · rename_i ht; cases h; exact ⟨rfl, fun r e => vIxS_ok hc r e ht hx hi⟩
      · rename_i n el ht
        split at h
        · rename_i s a hs ha; cases h; exact ⟨rfl, fun r e => vIxG_ok hc r e ht hs ha hx hi⟩
        · cases h
      · cases h
    · cases h
  case lookup t x y ok =>
    split at h
    · rename_i u el x' y' ht hx hy
      split at h
      · rename_i q z hq hz; cases h; exact ⟨rfl, fun r e => vLup_ok hc r e ht hq hz hx hy⟩
      · cases h
    · cases h
  case mapUpdate t x y z =>
    split at h
    · rename_i u el x' y' z' ht hx hy hz
      simp only [Option.map_eq_some_iff] at h
      obtain ⟨q, hq, rfl⟩ := h
      exact ⟨rfl, fun r e => (sMup_ok hc r e ht hq hx hy hz).1⟩
    · cases h
  case insert t x y z =>
    split at h
    · rename_i u el x' y' z' ht hx hy hz
      simp only [Option.map_eq_some_iff] at h
      obtain ⟨q, hq, rfl⟩ := h
      exact ⟨rfl, fun r e => (sMup_ok hc r e ht hq hx hy hz).2⟩
    · cases h
  case mapEntry t x y =>
    split at h
    · rename_i u el x' y' ht hx hy
      split at h
      · rename_i q z hq hz; cases h; exact ⟨rfl, fun r e => xMen_ok hc r e ht hq hz hx hy⟩
      · cases h
    · cases h
  case entryStore t x y z =>
    split at h
    · rename_i x' y' z' hx hy hz; cases h; exact ⟨rfl, fun r e => sEst_ok hc r e hx hy hz⟩
    · cases h
  case range t x =>
    split at h
    · rename_i x' ht hx; cases h; exact ⟨rfl, fun r e => nRgS_ok hc r e ht hx⟩
    · rename_i u el x' ht hx; cases h; exact ⟨rfl, fun r e => xRgM_ok hc r e ht hx⟩
    · cases h
  case next x s =>
    cases s <;> simp only at h <;> (try (cases h; done))
    simp only [Option.map_eq_some_iff] at h; obtain ⟨x', hx, rfl⟩ := h; exact ⟨rfl, fun r e => xNxS_ok hc r e hx⟩
  case entry x => simp only [Option.map_eq_some_iff] at h; obtain ⟨x', hx, rfl⟩ := h; exact ⟨rfl, fun r e => vEnt_ok hc r e hx⟩
  case typeAssert x xt t ok =>
    cases ok <;> simp only at h <;> (try (cases h; done))
    split at h
    · cases h
    · rename_i dd x' z hni ht hx hz; cases h; exact ⟨rfl, fun r e => vTas_ok hc r e ht (fun ms he => hni ms he) hz hx⟩
    · cases h
  case extract x i => simp only [Option.map_eq_some_iff] at h; obtain ⟨x', hx, rfl⟩ := h; exact ⟨rfl, fun r e => vExt_ok hc r e hx⟩
  case call k => exact call_ok hc h
  case defer k =>
    split at h
    · rename_i x l hk hl
      simp only [Option.map_eq_some_iff] at h
      obtain ⟨f, hf, rfl⟩ := h
      exact ⟨rfl, k, x, rfl, hk, hf, hl⟩
    · cases h
  case panic x =>
    split at h
    · simp only [Option.map_eq_some_iff] at h; obtain ⟨x', hx, rfl⟩ := h; exact ⟨rfl, x, rfl, hx⟩
    · cases h

end
end Go.Proofs.YtpngpoeifgkclaaGreatDoor.Am

/- Frames: what is asked of a way on, and the ways through the text. -/
namespace Go.Proofs.YtpngpoeifgkclaaGreatDoor.Am

/-- What stays of a frame. -/
structure Fb where
  fn : Nat
  kind : CallKind
  roundOf : Option Nat

def Fb.at (b : Fb) (a : Act) (todo : List Item) : Frame := { fn := b.fn, tmps := a.tmps, todo, defers := a.defers, mode := .run, kind := b.kind, roundOf := b.roundOf }

theorem Fb.eval_at (b : Fb) (a : Act) (todo : List Item) : (b.at a todo).eval = ev a.tmps := funext fun x => by cases x <;> rfl

def Reach (P : Program) (F : Machine → Prop) (M : Machine) : Prop := ∃ M', Steps P M M' ∧ F M'
theorem Reach.head {P : Program} {F : Machine → Prop} {M M' : Machine} (h : step P M = .next M') (r : Reach P F M') : Reach P F M := let ⟨N, s, f⟩ := r; ⟨N, .head h s, f⟩
theorem Reach.steps {P : Program} {F : Machine → Prop} {M M' : Machine} (h : Steps P M M') (r : Reach P F M') : Reach P F M := let ⟨N, s, f⟩ := r; ⟨N, h.trans s, f⟩

section moves
variable {P : Program} {b : Fb} {a : Act} {k : List Item} {cs : List Frame} {w : World}
theorem stp_skip : step P (lone (b.at a (.code .skip :: k)) cs w) = .next (lone (b.at a k) cs w) := step_lone_go (by simp [stepG, stepG.exec, Fb.at])
theorem stp_label {l : Nat} : step P (lone (b.at a (.code (.label l) :: k)) cs w) = .next (lone (b.at a k) cs w) := step_lone_go (by simp [stepG, stepG.exec, Fb.at])
theorem stp_inBlock {id : Nat} : step P (lone (b.at a (.inBlock id :: k)) cs w) = .next (lone (b.at a k) cs w) := step_lone_go (by simp [stepG, stepG.exec, Fb.at])
theorem stp_inScope {c : Code} : step P (lone (b.at a (.inScope c :: k)) cs w) = .next (lone (b.at a k) cs w) := step_lone_go (by simp [stepG, stepG.exec, Fb.at])
theorem stp_seq {x y : Code} : step P (lone (b.at a (.code (.seq x y) :: k)) cs w) = .next (lone (b.at a (.code x :: .code y :: k)) cs w) := step_lone_go (by simp [stepG, stepG.exec, Fb.at])
theorem stp_scope {x : Code} : step P (lone (b.at a (.code (.scope x) :: k)) cs w) = .next (lone (b.at a (.code x :: .inScope x :: k)) cs w) := step_lone_go (by simp [stepG, stepG.exec, Fb.at])
theorem stp_cond {c : Operand} {x y : Code} {t : Bool} (h : ev a.tmps c = .bool t) :
    step P (lone (b.at a (.code (.cond c x y) :: k)) cs w) = .next (lone (b.at a (.code (if t then x else y) :: k)) cs w) :=
  step_lone_go (by
    have := congrFun (Fb.eval_at b a (.code (.cond c x y) :: k)) c
    simp only [Fb.at] at this
    simp [stepG, stepG.exec, Fb.at, this, h])
theorem stp_block {id : Nat} {c : Code} : step P (lone (b.at a (.code (.block id c) :: k)) cs w) = .next (lone (b.at a (.code c :: .inBlock id :: k)) cs w) := step_lone_go (by simp [stepG, stepG.exec, Fb.at])
theorem stp_loop {c : Code} : step P (lone (b.at a (.code (.loop c) :: k)) cs w) = .next (lone (b.at a (.code c :: .inLoop c :: k)) cs w) := step_lone_go (by simp [stepG, stepG.exec, Fb.at])
theorem stp_inLoop {c : Code} : step P (lone (b.at a (.inLoop c :: k)) cs w) = .next (lone (b.at a (.code c :: .inLoop c :: k)) cs w) := step_lone_go (by simp [stepG, stepG.exec, Fb.at])
theorem stp_exit {id : Nat} {k' : List Item} (h : exitTo id k = some k') : step P (lone (b.at a (.code (.exit id) :: k)) cs w) = .next (lone (b.at a k') cs w) := step_lone_go (by simp [stepG, stepG.exec, Fb.at, h])
theorem stp_ret (hb : b.roundOf = none) : step P (lone (b.at a (.code .ret :: k)) cs w) = .next (lone { b.at a (.code .ret :: k) with mode := .returning } cs w) := step_lone_go (by simp [stepG, stepG.exec, Fb.at, hb])
theorem stp_end (hb : b.roundOf = none) : step P (lone (b.at a []) cs w) = .next (lone { b.at a [] with mode := .returning } cs w) := step_lone_go (by simp [stepG, stepG.exec, Fb.at, hb])
end moves

section
variable (ρ : Rho)

def ChainR (m : M) : List APan → List PanicEntry → Prop
  | [], es => es = []
  | a :: l, es => ∃ v r, es = ⟨v, a.done, false⟩ :: r ∧ VR ρ m a.v v ∧ ChainR m l r

def ModeR (m : M) : Par → FrameMode → Prop
  | .none, M => M = .run
  | .ret, M => M = .returning
  | .pan c, M => ∃ chain, M = .panicking chain ∧ ChainR ρ m c chain

/-- The frames that wait: of a deferred call's the first one is in the mode that the machine keeps. -/
def CsR (m : M) (kind : CallKind) (base : List Frame) (par : Par) (cs : List Frame) : Prop :=
  match kind with
  | .normal => cs = base
  | .deferred => ∃ c rest M, base = c :: rest ∧ cs = { c with mode := M } :: rest ∧ ModeR ρ m par M ∧ par ≠ .none
  | _ => False

variable {ρ}

theorem ChainR.mono {m m' : M} (h : m.le m') : ∀ {l : List APan} {es : List PanicEntry}, ChainR ρ m l es → ChainR ρ m' l es
  | [], _, e => e
  | _ :: _, _, ⟨v, r, e, h1, h2⟩ => ⟨v, r, e, h1.mono ρ h, h2.mono h⟩
theorem ModeR.mono {m m' : M} (h : m.le m') {p : Par} {M : FrameMode} (r : ModeR ρ m p M) : ModeR ρ m' p M := by
  cases p with
  | none => exact r
  | ret => exact r
  | pan c => obtain ⟨ch, e, r⟩ := r; exact ⟨ch, e, r.mono h⟩
theorem CsR.mono {m m' : M} (h : m.le m') {kind : CallKind} {base : List Frame} {p : Par} {cs : List Frame} (r : CsR ρ m kind base p cs) : CsR ρ m' kind base p cs := by
  cases kind <;> first | exact r | skip
  obtain ⟨c, rest, M, e1, e2, r, hn⟩ := r
  exact ⟨c, rest, M, e1, e2, r.mono h, hn⟩
end

/-- The variables of the program's packages hold what they held at first, and are not the machine's to write. -/
structure GI (G : Gp) (m : M) (h : Hp) (w : World) : Prop where
  gw : G.GW w
  sz : G.P.globals.size ≤ w.heap.size
  own : ∀ q pl, h.tr.at q ≠ .no → m q = some pl → G.P.globals.size ≤ pl.blk
theorem GI.evo {G : Gp} {ρ : Rho} {m m' : M} {h h' : Hp} {w w' : World} (g : GI G m h w) (e : Evo G ρ m h w m' h' w') : GI G m' h' w' := by
  refine ⟨G.gws w w' g.gw fun b hb => e.frame b (Nat.lt_of_lt_of_le hb g.sz) fun p pl hp hm he => ?_, Nat.le_trans g.sz e.size, fun q pl hq hm => ?_⟩
  · have := g.own p pl hp hm; omega
  · rcases e.own q pl hq hm with ⟨q', pl', h1, h2, h3⟩ | h1
    · rw [← h3]; exact g.own q' pl' h1 h2
    · exact Nat.le_trans g.sz h1

/-- What all is said of: the program, the symbols, where the run began, how it shall end. -/
structure Aim where
  G : Gp
  ρ : Rho
  mI : M
  hI : Hp
  wI : World
  F : Machine → Prop
  o : AOut
  h' : Hp
  gi : GI G mI hI wI

/-- From where, and to what end. -/
structure Inst (G : Gp) where
  mI : M
  hI : Hp
  wI : World
  F : Machine → Prop
  o : AOut
  h' : Hp
  gi : GI G mI hI wI
def Aim.to (A : Aim) (I : Inst A.G) : Aim := ⟨A.G, A.ρ, I.mI, I.hI, I.wI, I.F, I.o, I.h', I.gi⟩
def Aim.own (A : Aim) : Inst A.G := ⟨A.mI, A.hI, A.wI, A.F, A.o, A.h', A.gi⟩

section
variable (A : Aim)

/-- A frame runs: what the machine knows of it. -/
structure Run0 (c : Cx) (b : Fb) (base : List Frame) (ds : List Nat) (m : M) (h : Hp) (w : World) (par : Par) (L : List AV) (T : VT) (D : List AD) (a : Act) (cs : List Frame) : Prop where
  evo : Evo A.G A.ρ A.mI A.hI A.wI m h w
  env : Env c m ds L T a.tmps A.G A.ρ
  def' : DefL A.ρ m D a.defers
  cs' : CsR A.ρ m b.kind base par cs

def KnOk (m0 : M) (c : Cx) (b : Fb) (base : List Frame) (ds : List Nat) (kn : Kn) (conc : Act → Frame) : Prop :=
  ∀ m h w par L T D a cs, m0.le m → Run0 A c b base ds m h w par L T D a cs → kn par L T D h = .ok A.o A.h' → Reach A.G.P A.F (lone (conc a) cs w)

/-- Leaving by a panic. -/
def PanOk (m0 : M) (c : Cx) (b : Fb) (base : List Frame) (pan : Par → List APan → List AV → VT → List AD → Hp → Res) : Prop :=
  ∀ m h w par L T D a cs ch chain todo, m0.le m → Run0 A c b base [] m h w par L T D a cs → ChainR A.ρ m ch chain → pan par ch L T D h = .ok A.o A.h' →
    Reach A.G.P A.F (lone { b.at a todo with mode := .panicking chain } cs w)

/-- Behind a call: the value is given, or the panic is raised. -/
def BkOk (m0 : M) (k : Fk) (caller : Frame) (rest : List Frame) : Prop :=
  ∀ m h w par, m0.le m → Evo A.G A.ρ A.mI A.hI A.wI m h w →
    (∀ a v, VR A.ρ m a v → k (.ret a) par h = .ok A.o A.h' → Reach A.G.P A.F (lone (caller.finish v) rest w)) ∧
    (∀ c chain, ChainR A.ρ m c chain → k (.pan c) par h = .ok A.o A.h' → Reach A.G.P A.F (lone (caller.raise chain) rest w))

/-- What a call comes to: a frame. -/
def Goes (nx : Next) (caller : Frame) (rest : List Frame) (w : World) : Prop :=
  match nx with
  | .enter f args => Reach A.G.P A.F (lone (Frame.enter A.G.P f args .normal) (caller :: rest) w)
  | .round l f tmps x y => Reach A.G.P A.F (lone (Frame.round l f tmps x y .normal) (caller :: rest) w)
  | _ => False

def CallOk (call : Hi → List AV → Hp → Fk → Res) : Prop :=
  ∀ m h w p fn args vs k caller rest, Evo A.G A.ρ A.mI A.hI A.wI m h w → A.G.P.funcs[p.val]? = some fn → VRL A.ρ m args vs → BkOk A m k caller rest → call p args h k = .ok A.o A.h' →
    Reach A.G.P A.F (lone (Frame.enter A.G.P p.val vs.toArray .normal) (caller :: rest) w)

def AppOk (app : AFn → List AV → List AV → Hp → Fk → Res) : Prop :=
  ∀ m h w f fn args vs ca cv k caller rest, Evo A.G A.ρ A.mI A.hI A.wI m h w → FR m f fn → VRL A.ρ m args vs → VRL A.ρ m ca cv → BkOk A m k caller rest → app f args ca h k = .ok A.o A.h' →
    ∃ nx, (invoke (.fn fn cv.toArray) vs.toArray).run A.G.P w = .ok nx w ∧ Goes A nx caller rest w

structure FiOk (b : Fb) (m0 : M) (fi : FI) : Prop where
  fn : fi.f.val = b.fn
  kind : b.kind = if fi.dfr then .deferred else .normal
  round : match fi.round with | none => b.roundOf = none | some l => ∃ pl, m0 l = some pl ∧ b.roundOf = some pl.blk

structure CbOk (m0 : M) (c : Cx) (b : Fb) (base : List Frame) (cb : Cb) : Prop where
  call : ∀ I, CallOk (A.to I) cb.call
  app : ∀ I, AppOk (A.to I) cb.app
  pan : PanOk A m0 c b base cb.pan
  fi : FiOk b m0 cb.fi

structure CtlOk (m0 : M) (c : Cx) (b : Fb) (base : List Frame) (k : List Item) (ctl : Ctl) : Prop where
  cb : CbOk A m0 c b base ctl.cb
  ret : ∀ k', KnOk A m0 c b base [] ctl.ret (fun a => b.at a (.code .ret :: k'))
  exit : ∀ id k', exitTo id k' = exitTo id k → KnOk A m0 c b base [] (ctl.exit id) (fun a => b.at a (.code (.exit id) :: k'))

/-- Which function it is. -/
def AtFn (c : Cx) (ls : List RfA) (f : Nat) : Prop := f < 4096 ∧ c = A.G.cx f ∧ ∃ d, A.G.fd f = some d ∧ d.loops = ls

/-- The text is run as the machine runs it. -/
def CodeOk (c : Cx) (ls : List RfA) (f : CodeF) (x : Code) (ds ds' : List Nat) : Prop :=
  ∀ m0 b base k ctl kn, AtFn A c ls b.fn → CtlOk A m0 c b base k ctl → KnOk A m0 c b base ds' kn (fun a => b.at a k) → KnOk A m0 c b base ds (f ctl kn) (fun a => b.at a (.code x :: k))

variable {A}

theorem Run0.weak {c : Cx} {b : Fb} {base : List Frame} {ds : List Nat} {m : M} {h : Hp} {w : World} {par : Par} {L L' : List AV} {T : VT} {D : List AD} {a : Act} {cs : List Frame} (r : Run0 A c b base ds m h w par L T D a cs) : Run0 A c b base [] m h w par L' T D a cs :=
  ⟨r.evo, ⟨LR.nil, r.env.tr⟩, r.def', r.cs'⟩

theorem KnOk.weak {m0 : M} {c : Cx} {b : Fb} {base : List Frame} {ds : List Nat} {kn : Kn} {conc : Act → Frame} (h : KnOk A m0 c b base [] kn conc) : KnOk A m0 c b base ds kn conc :=
  fun m hh w par L T D a cs h1 r e => h m hh w par L T D a cs h1 r.weak e

theorem KnOk.fresh {m0 : M} {c : Cx} {b : Fb} {base : List Frame} {kn : Kn} {conc : Act → Frame} (h : KnOk A m0 c b base [] kn conc) : KnOk A m0 c b base [] (fresh kn) conc :=
  fun m hh w par _ T D a cs h1 r e => h m hh w par [] T D a cs h1 r.weak e

theorem KnOk.step {m0 : M} {c : Cx} {b : Fb} {base : List Frame} {ds : List Nat} {kn : Kn} {conc conc' : Act → Frame} (h : KnOk A m0 c b base ds kn conc) (hs : ∀ a cs w, step A.G.P (lone (conc' a) cs w) = .next (lone (conc a) cs w)) : KnOk A m0 c b base ds kn conc' :=
  fun m hh w par L T D a cs h1 r e => (h m hh w par L T D a cs h1 r e).head (hs a cs w)

theorem CtlOk.pass {m0 : M} {c : Cx} {b : Fb} {base : List Frame} {k : List Item} {ctl : Ctl} (h : CtlOk A m0 c b base k ctl) {k' : List Item} (he : ∀ id, exitTo id k' = exitTo id k) : CtlOk A m0 c b base k' ctl :=
  ⟨h.cb, h.ret, fun id k'' hk => h.exit id k'' (by rw [hk, he])⟩

section
variable {c : Cx} {ls : List RfA} {ds ds' e : List Nat}

theorem ok_skip : CodeOk A c ls cSkip .skip ds ds := fun _ _ _ _ _ _ _ _ hk => hk.step fun _ _ _ => stp_skip
theorem ok_label {l : Nat} : CodeOk A c ls cSkip (.label l) ds ds := fun _ _ _ _ _ _ _ _ hk => hk.step fun _ _ _ => stp_label
theorem ok_seq {f g : CodeF} {x y : Code} (h1 : CodeOk A c ls f x ds e) (h2 : CodeOk A c ls g y e ds') : CodeOk A c ls (cSeq f g) (.seq x y) ds ds' := fun m0 b base k ctl kn hb hctl hk =>
  KnOk.step (h1 m0 b base (.code y :: k) ctl (g ctl kn) hb (hctl.pass fun id => by rfl) (h2 m0 b base k ctl kn hb hctl hk)) fun a cs w => stp_seq
theorem ok_scope {f : CodeF} {x : Code} (h1 : CodeOk A c ls f x [] e) : CodeOk A c ls f (.scope x) ds [] := fun m0 b base k ctl kn hb hctl hk =>
  KnOk.weak (KnOk.step (h1 m0 b base (.inScope x :: k) ctl kn hb (hctl.pass fun id => by rfl) (KnOk.weak (KnOk.step hk fun a cs w => stp_inScope))) fun a cs w => stp_scope)
theorem ok_exit {id : Nat} : CodeOk A c ls (cExit id) (.exit id) ds [] := fun _ _ _ k _ _ _ hctl _ => KnOk.weak (hctl.exit id k rfl)
theorem ok_ret : CodeOk A c ls cRet .ret ds [] := fun _ _ _ k _ _ _ hctl _ => KnOk.weak (hctl.ret k)
theorem ok_no {x : Code} : CodeOk A c ls cNo x ds ds' := fun m0 b base k ctl kn _ _ _ m h w par L T D a cs _ _ e => by cases e
theorem ok_cond {x : Operand} {x' : Opd} {f g : CodeF} {y z : Code} {e' : List Nat} (hx : c.opd ds x = some x') (h1 : CodeOk A c ls f y ds e) (h2 : CodeOk A c ls g z ds e') : CodeOk A c ls (cCond x' f g) (.cond x y z) ds [] := by
  intro m0 b base k ctl kn hb hctl hk m h w par L T D a cs hm r he
  have hcP : c.P = A.G.P := by rw [hb.2.1]; exact A.G.hcx _
  obtain ⟨v, hv, e1⟩ := opd_sound hcP r.evo.rel r.env hx (show evO x' L T (fun v => v.onBool fun v => ifK v (f ctl kn par L T D h) (g ctl kn par L T D h)) = .ok A.o A.h' from he)
  obtain ⟨t, rfl, e2⟩ := AV.onBool_inv e1
  rw [ifK_eq] at e2
  have hv : ev a.tmps x = .bool t := hv
  refine Reach.head (stp_cond hv) ?_
  cases t with
  | true => exact h1 m0 b base k ctl kn hb hctl hk.weak m h w par L T D a cs hm r e2
  | false => exact h2 m0 b base k ctl kn hb hctl hk.weak m h w par L T D a cs hm r e2
theorem ok_block {id : Nat} {f : CodeF} {x : Code} (h1 : CodeOk A c ls f x ds e) : CodeOk A c ls (cBlock id f) (.block id x) ds [] := by
  intro m0 b base k ctl kn hb hctl hk
  refine KnOk.step (h1 m0 b base (.inBlock id :: k) _ _ hb ⟨hctl.cb, hctl.ret, fun i k' he => ?_⟩ (KnOk.weak ((KnOk.step hk fun a cs w => stp_inBlock).fresh))) fun a cs w => stp_block
  simp only [exitTo] at he
  show KnOk A m0 c b base [] (Bool.rec (motive := fun _ => Kn) (ctl.exit i) (fresh kn) (Nat.beq i id)) _
  by_cases hid : i = id
  · subst hid
    rw [Nat.beq_refl]
    simp only [beq_self_eq_true, if_true] at he
    exact KnOk.step hk.fresh fun a cs w => stp_exit he
  · have : Nat.beq i id = false := by
      cases h : Nat.beq i id with
      | false => rfl
      | true => exact absurd (Nat.eq_of_beq_eq_true h) hid
    rw [this]
    have hne : (id == i) = false := by simp; exact fun h => hid h.symm
    simp only [hne, Bool.false_eq_true, if_false] at he
    exact hctl.exit i k' he
theorem ok_loop {f : CodeF} {x : Code} (h1 : CodeOk A c ls f x [] e) : CodeOk A c ls (cLoop f) (.loop x) ds [] := by
  intro m0 b base k ctl kn hb hctl hk
  have key : ∀ n, KnOk A m0 c b base [] (loopN n f ctl) (fun a => b.at a (.code x :: .inLoop x :: k)) := by
    intro n
    induction n with
    | zero => intro m h w par L T D a cs _ _ e; cases e
    | succ n ih =>
      intro m h w par L T D a cs hm r he
      have he : f ctl (loopN n f ctl) par [] T D h = .ok A.o A.h' := he
      exact h1 m0 b base (.inLoop x :: k) ctl (loopN n f ctl) hb (hctl.pass fun id => by rfl) (KnOk.weak (KnOk.step ih fun a cs w => stp_inLoop)) m h w par [] T D a cs hm r.weak he
  exact KnOk.weak (KnOk.step (key 1000000) fun a cs w => stp_loop)

end
end
end Go.Proofs.YtpngpoeifgkclaaGreatDoor.Am

/- Regions that run in the order of their text. -/
namespace Go.Proofs.YtpngpoeifgkclaaGreatDoor.Am

section moves
variable {P : Program} {b : Fb} {a : Act} {k : List Item} {cs : List Frame} {w w' : World} {ops : Array Oper} {i : Nat} {rest : List Nat} {o : Oper}

theorem Fb.finish_at (v : Value) : (b.at a (.inRegion ops (i :: rest) :: k)).finish v = b.at (a.put ((ops[i]?).bind (·.dst)) v) (.inRegion ops rest :: k) := by
  cases h : (ops[i]?).bind (·.dst) <;> simp [Frame.finish, Fb.at, Act.put, h]
theorem stp_region {id : Nat} : step P (lone (b.at a (.code (.region id ops false) :: k)) cs w) = .next (lone (b.at a (.inRegion ops (List.range ops.size) :: k)) cs w) := step_lone_go (by simp [stepG, stepG.exec, Fb.at])
theorem stp_region_end : step P (lone (b.at a (.inRegion ops [] :: k)) cs w) = .next (lone (b.at a k) cs w) := step_lone_go (by simp [stepG, stepG.exec, Fb.at])
theorem stp_op_skip (h : ((ops[i]?).map (Region.wanted · (yielded ops a.tmps))).getD false = false) :
    step P (lone (b.at a (.inRegion ops (i :: rest) :: k)) cs w) = .next (lone (b.at (a.put ((ops[i]?).bind (·.dst)) undef) (.inRegion ops rest :: k)) cs w) := by
  rw [← Fb.finish_at]
  exact step_lone_go (by
    have h' := h
    simp only [Fb.at] at *
    simp [stepG, stepG.exec, h'])
theorem stpG_op (ho : ops[i]? = some o) (hw : Region.wanted o (yielded ops a.tmps) = true) (hd : b.roundOf = none ∨ ∀ c, o.op ≠ .defer c) :
    stepG P true { frame := b.at a (.inRegion ops (i :: rest) :: k), callers := cs, status := .running, dying := none } w =
      stepG.apply P true (b.at a (.inRegion ops (i :: rest) :: k)) cs none (execOp (ev a.tmps) o) w := by
  have he := Fb.eval_at b a (.inRegion ops (i :: rest) :: k)
  have h1 : stepG P true { frame := b.at a (.inRegion ops (i :: rest) :: k), callers := cs, status := .running, dying := none } w =
      stepG.oper P true (b.at a (.inRegion ops (i :: rest) :: k)) cs none w := by
    simp [stepG, stepG.exec, Fb.at, ho, hw]
  rw [h1]
  unfold stepG.oper
  have h2 : (b.at a (.inRegion ops (i :: rest) :: k)).oper? = some o := by simp [Frame.oper?, Fb.at, ho]
  rw [h2]
  simp only [he]
  rcases hd with hd | hd
  · have : (b.at a (.inRegion ops (i :: rest) :: k)).roundOf = none := hd
    rw [this]
  · split
    · rename_i l c hr hc; exact absurd hc (hd c)
    · rfl
theorem stp_value (ho : ops[i]? = some o) (hw : Region.wanted o (yielded ops a.tmps) = true) (hd : b.roundOf = none ∨ ∀ c, o.op ≠ .defer c) {v : Value} (hr : (execOp (ev a.tmps) o).run P w = .ok (.value v) w') :
    step P (lone (b.at a (.inRegion ops (i :: rest) :: k)) cs w) = .next (lone (b.at (a.put o.dst v) (.inRegion ops rest :: k)) cs w') := by
  have : (b.at a (.inRegion ops (i :: rest) :: k)).finish v = b.at (a.put o.dst v) (.inRegion ops rest :: k) := by rw [Fb.finish_at, ho]; rfl
  rw [← this]
  exact step_lone_go (by rw [stpG_op ho hw hd]; simp [stepG.apply, hr])
theorem stp_skipv (ho : ops[i]? = some o) (hw : Region.wanted o (yielded ops a.tmps) = true) (hd : b.roundOf = none ∨ ∀ c, o.op ≠ .defer c) (hr : (execOp (ev a.tmps) o).run P w = .ok .skip w') :
    step P (lone (b.at a (.inRegion ops (i :: rest) :: k)) cs w) = .next (lone (b.at (a.put o.dst undef) (.inRegion ops rest :: k)) cs w') := by
  have : (b.at a (.inRegion ops (i :: rest) :: k)).finish undef = b.at (a.put o.dst undef) (.inRegion ops rest :: k) := by rw [Fb.finish_at, ho]; rfl
  rw [← this]
  exact step_lone_go (by rw [stpG_op ho hw hd]; simp [stepG.apply, hr])
theorem stp_enter (ho : ops[i]? = some o) (hw : Region.wanted o (yielded ops a.tmps) = true) (hd : b.roundOf = none ∨ ∀ c, o.op ≠ .defer c) {f : Nat} {args : Array Value} (hr : (execOp (ev a.tmps) o).run P w = .ok (.enter f args) w') :
    step P (lone (b.at a (.inRegion ops (i :: rest) :: k)) cs w) = .next (lone (Frame.enter P f args .normal) (b.at a (.inRegion ops (i :: rest) :: k) :: cs) w') :=
  step_lone_go (by rw [stpG_op ho hw hd]; simp [stepG.apply, hr, Fb.at])
theorem stp_round (ho : ops[i]? = some o) (hw : Region.wanted o (yielded ops a.tmps) = true) (hd : b.roundOf = none ∨ ∀ c, o.op ≠ .defer c) {l f : Nat} {tmps : Array Value} {x y : Code} (hr : (execOp (ev a.tmps) o).run P w = .ok (.round l f tmps x y) w') :
    step P (lone (b.at a (.inRegion ops (i :: rest) :: k)) cs w) = .next (lone (Frame.round l f tmps x y .normal) (b.at a (.inRegion ops (i :: rest) :: k) :: cs) w') :=
  step_lone_go (by rw [stpG_op ho hw hd]; simp [stepG.apply, hr])
theorem stp_panic (ho : ops[i]? = some o) (hw : Region.wanted o (yielded ops a.tmps) = true) (hd : b.roundOf = none ∨ ∀ c, o.op ≠ .defer c) {v : Value} (hr : (execOp (ev a.tmps) o).run P w = .halt (.panic v) w') :
    step P (lone (b.at a (.inRegion ops (i :: rest) :: k)) cs w) = .next (lone { b.at a (.inRegion ops (i :: rest) :: k) with mode := .panicking [{ v, recovered := false }] } cs w') :=
  step_lone_go (by rw [stpG_op ho hw hd]; simp [stepG.apply, hr, Frame.raise, Fb.at])
theorem stp_defer (ho : ops[i]? = some o) (hw : Region.wanted o (yielded ops a.tmps) = true) (hd : b.roundOf = none) {d : Deferred} (hr : (execOp (ev a.tmps) o).run P w = .ok (.defer d) w') :
    step P (lone (b.at a (.inRegion ops (i :: rest) :: k)) cs w) = .next (lone (b.at ({ a with defers := d :: a.defers }.put o.dst undef) (.inRegion ops rest :: k)) cs w') := by
  have : ({ b.at a (.inRegion ops (i :: rest) :: k) with defers := d :: a.defers } : Frame).finish undef = b.at ({ a with defers := d :: a.defers }.put o.dst undef) (.inRegion ops rest :: k) := by
    have := Fb.finish_at (b := b) (a := { a with defers := d :: a.defers }) (ops := ops) (i := i) (rest := rest) (k := k) undef
    rw [ho] at this; exact this
  refine step_lone_go ?_
  rw [stpG_op ho hw (.inl hd)]
  simp only [stepG.apply, Sem.runT_eq, hr, GStep.bare_after]
  exact congrArg (fun fr => GStep.go { frame := fr, callers := cs, status := .running, dying := none } w') this
theorem stp_recover (ho : ops[i]? = some o) (hw : Region.wanted o (yielded ops a.tmps) = true) (hd : b.roundOf = none) (hr : (execOp (ev a.tmps) o).run P w = .ok .recover w') :
    step P (lone (b.at a (.inRegion ops (i :: rest) :: k)) cs w) = match tryRecover (b.at a (.inRegion ops (i :: rest) :: k)) cs with
      | some (v, cs') => .next (lone (b.at (a.put o.dst v) (.inRegion ops rest :: k)) cs' w')
      | none => .next (lone (b.at (a.put o.dst .nilIface) (.inRegion ops rest :: k)) cs w') := by
  have hf : ∀ v, (b.at a (.inRegion ops (i :: rest) :: k)).finish v = b.at (a.put o.dst v) (.inRegion ops rest :: k) := fun v => by rw [Fb.finish_at, ho]; rfl
  have hro : (b.at a (.inRegion ops (i :: rest) :: k)).roundOf = none := hd
  cases ht : tryRecover (b.at a (.inRegion ops (i :: rest) :: k)) cs with
  | none => simp only []; rw [← hf]; exact step_lone_go (by rw [stpG_op ho hw (.inl hd)]; simp [stepG.apply, hr, hro, ht])
  | some q => obtain ⟨v, cs'⟩ := q; simp only []; rw [← hf]; exact step_lone_go (by rw [stpG_op ho hw (.inl hd)]; simp [stepG.apply, hr, hro, ht])
end moves

section
variable {A : Aim} {c : Cx}

/-- What is known of the temporaries by their order, behind an operation. -/
def dsOf (o : Oper) (ds : List Nat) : List Nat := match o.dst with | some t => t :: ds | none => ds

theorem Env.put {G : Gp} {ρ : Rho} {m : M} {ds : List Nat} {L : List AV} {T : VT} {tmps : Array Value} (e : Env c m ds L T tmps G ρ) {t : Nat} (ht : t < c.nt) {a : AV} {v : Value} (hv : VR ρ m a v) {T' : VT}
    (hT : (∃ p, c.keep t = some p ∧ T' = T.put a p) ∨ (c.keep t = none ∧ T' = T)) : Env c m (t :: ds) (a :: L) T' (tmps.setIfInBounds t v) G ρ := by
  have hsz : t < tmps.size := by rw [e.tr.1]; exact ht
  have hsame : (tmps.setIfInBounds t v).getD t undef = v := by simp [Array.getD, hsz]
  have hother : ∀ u, u ≠ t → (tmps.setIfInBounds t v).getD u undef = tmps.getD u undef := fun u hu => by
    simp only [Array.getD_eq_getD_getElem?, Array.getElem?_setIfInBounds_ne (Ne.symm hu)]
  refine ⟨fun j u h1 h2 => ?_, ⟨by rw [Array.size_setIfInBounds]; exact e.tr.1, fun u q hq => ?_⟩⟩
  · cases j with
    | zero =>
      simp only [List.getElem?_cons_zero, Option.some.injEq] at h1
      subst h1
      exact ⟨a, rfl, by rw [hsame]; exact hv⟩
    | succ j =>
      have hu : u ≠ t := fun h => h2 0 (by omega) (by simp [h])
      rw [List.getElem?_cons_succ] at h1
      obtain ⟨b, hb, hr⟩ := e.lr j u h1 fun k hk hh => h2 (k + 1) (by omega) (by rw [List.getElem?_cons_succ]; exact hh)
      exact ⟨b, by rw [List.getElem?_cons_succ]; exact hb, by rw [hother u hu]; exact hr⟩
  · by_cases hu : u = t
    · subst hu
      rcases hT with ⟨p, hp, rfl⟩ | ⟨hn, _⟩
      · rw [hp] at hq; cases hq
        rw [VT.at_put, if_pos rfl, hsame]; exact hv
      · rw [hn] at hq; cases hq
    · rw [hother u hu]
      rcases hT with ⟨p, hp, rfl⟩ | ⟨_, rfl⟩
      · rw [VT.at_put, if_neg (fun h => hu (keep_inj hq (by rw [← h]; exact hp)))]; exact e.tr.2 u q hq
      · exact e.tr.2 u q hq

theorem putD_ok {G : Gp} {ρ : Rho} {m : M} {ds : List Nat} {L : List AV} {T : VT} {act : Act} (e : Env c m ds L T act.tmps G ρ) {o : Oper} {d : Dst} (hd : c.dst o = some d) {a : AV} {v : Value} (hv : VR ρ m a v) {k : List AV → VT → Res} {out : AOut} {h' : Hp}
    (he : putD d a L T k = .ok out h') : ∃ L' T', k L' T' = .ok out h' ∧ Env c m (dsOf o ds) L' T' (act.put o.dst v).tmps G ρ ∧ (act.put o.dst v).defers = act.defers := by
  unfold Cx.dst at hd
  unfold dsOf
  cases ht : o.dst with
  | none =>
    simp only [ht, Option.some.injEq] at hd
    subst hd
    exact ⟨L, T, he, e, rfl⟩
  | some t =>
    simp only [ht] at hd
    split at hd
    · rename_i hlt
      have hlt : t < c.nt := by simpa [Nat.blt_eq] using hlt
      split at hd
      · rename_i p hp
        cases hd
        have he : setV p T a (fun T => k (a :: L) T) = .ok out h' := he
        rw [setV_eq] at he
        exact ⟨_, _, he, e.put hlt hv (.inl ⟨p, hp, rfl⟩), rfl⟩
      · rename_i hp
        cases hd
        exact ⟨_, _, he, e.put hlt hv (.inr ⟨hp, rfl⟩), rfl⟩
    · cases hd

theorem not_defer {ρ' : Operand → Value} {o : Oper} {P : Program} {w w' : World} {nx : Next} (h : (execOp ρ' o).run P w = .ok nx w') (hn : ∀ d, nx ≠ .defer d) : ∀ c, o.op ≠ .defer c := fun c hop => by
  simp only [execOp, hop, Sem.run_bind] at h
  cases hr : (resolve ρ' c o.type).run P w with
  | ok d w1 => rw [hr] at h; simp only [Result.andThen_ok, Sem.run_pure, Result.ok.injEq] at h; exact hn _ h.1.symm
  | halt e w1 => rw [hr] at h; cases h

theorem run_callFunc_body {P : Program} {f : Nat} {fn : Func} (hf : P.funcs[f]? = some fn) (hn : (fn.name == "runtime.NumGoroutine") = false) (hb : fn.body.isSome = true) (args : Array Value) (w : World) : (callFunc f args).run P w = .ok (.enter f args) w := by
  have h1 : fn.name ≠ "runtime.NumGoroutine" := by simpa using hn
  have h2 : fn.body ≠ none := by intro h; rw [h] at hb; cases hb
  simp [callFunc, hf, h1, h2]

theorem dst_no {o : Oper} (h : c.dst o = some .no) : o.dst = none := by
  unfold Cx.dst at h
  cases ho : o.dst with
  | none => rfl
  | some t =>
    simp only [ho] at h
    split at h
    · split at h <;> cases h
    · cases h

variable (A) in
/-- The rest of a region is run as the machine runs it. -/
def RegOk (c : Cx) (ops : Array Oper) (f : OpF) (rest : List Nat) (ds ds' : List Nat) : Prop :=
  ∀ m0 b base k cb kn, b.fn < 4096 → c = A.G.cx b.fn → CbOk A m0 c b base cb → KnOk A m0 c b base ds' kn (fun a => b.at a (.inRegion ops [] :: k)) →
    KnOk A m0 c b base ds (fun par L T D h => f cb par L T D h kn) (fun a => b.at a (.inRegion ops rest :: k))

theorem Run0.next {b : Fb} {base : List Frame} {ds ds' : List Nat} {m m' : M} {h h1 : Hp} {w w' : World} {par : Par} {L L' : List AV} {T T' : VT} {D : List AD} {a a' : Act} {cs : List Frame} (r : Run0 A c b base ds m h w par L T D a cs)
    (ev : Evo A.G A.ρ m h w m' h1 w') (he : Env c m' ds' L' T' a'.tmps A.G A.ρ) (hd : a'.defers = a.defers) : Run0 A c b base ds' m' h1 w' par L' T' D a' cs :=
  ⟨r.evo.trans ev, he, by rw [hd]; exact r.def'.mono ev.le, r.cs'.mono ev.le⟩

theorem appK_inv {l r : List AV} {k : List AV → Res} {o : AOut} {h : Hp} (e : appK l r k = .ok o h) : k (l ++ r) = .ok o h := by rw [appK_eq] at e; exact e

/-- One operation that is wanted. -/
theorem core_step (hcP : c.P = A.G.P) {ops : Array Oper} {i : Nat} {rest : List Nat} {o : Oper} (ho : ops[i]? = some o) {ds ds' : List Nat} {d : Dst} (hd : c.dst o = some d) {x : AOp} (hx : AOpOk A.G A.ρ c ds d o.op x) {r : OpF} (hr : RegOk A c ops r rest (dsOf o ds) ds')
    {m0 : M} {b : Fb} {base : List Frame} {k : List Item} {cb : Cb} {kn : Kn} (hb : b.fn < 4096) (hcx : c = A.G.cx b.fn) (hcb : CbOk A m0 c b base cb) (hkn : KnOk A m0 c b base ds' kn (fun a => b.at a (.inRegion ops [] :: k)))
    {m : M} {h : Hp} {w : World} {par : Par} {L : List AV} {T : VT} {D : List AD} {a : Act} {cs : List Frame} (hm : m0.le m) (hrun : Run0 A c b base ds m h w par L T D a cs) (hw : Region.wanted o (yielded ops a.tmps) = true)
    (he : x.sh r cb par L T D h kn = .ok A.o A.h') : Reach A.G.P A.F (lone (b.at a (.inRegion ops (i :: rest) :: k)) cs w) := by
  have hgo : ∀ {m' : M} {h1 : Hp} {w' : World} {L' : List AV} {T' : VT} {D' : List AD} {a' : Act} {par' : Par} {cs' : List Frame}, m0.le m' → Run0 A c b base (dsOf o ds) m' h1 w' par' L' T' D' a' cs' → r cb par' L' T' D' h1 kn = .ok A.o A.h' →
      Reach A.G.P A.F (lone (b.at a' (.inRegion ops rest :: k)) cs' w') := fun hm' hr' he' => hr m0 b base k cb kn hb hcx hcb hkn _ _ _ _ _ _ _ _ _ hm' hr' he'
  -- behind a call
  have hback : ∀ {nx : Next}, (execOp (ev a.tmps) o).run A.G.P w = .ok nx w → Goes A nx (b.at a (.inRegion ops (i :: rest) :: k)) cs w → (b.roundOf = none ∨ ∀ c, o.op ≠ .defer c) → Reach A.G.P A.F (lone (b.at a (.inRegion ops (i :: rest) :: k)) cs w) := by
    intro nx hrunx hg hnd
    cases nx <;> first | exact hg.elim | skip
    · exact Reach.head (stp_enter ho hw hnd hrunx) hg
    · exact Reach.head (stp_round ho hw hnd hrunx) hg
  have hbk : BkOk A m (backK d r cb par L T D kn) (b.at a (.inRegion ops (i :: rest) :: k)) cs := by
    intro m' h1 w' par' hm' ev'
    refine ⟨fun av v hv hk => ?_, fun ch chain hch hk => ?_⟩
    · obtain ⟨L', T', q1, q2, q3⟩ := putD_ok (act := a) (hrun.env.mono hm') hd hv (show putD d av L T (fun L T => r cb par L T D h1 kn) = .ok A.o A.h' from hk)
      have hfin : (b.at a (.inRegion ops (i :: rest) :: k)).finish v = b.at (a.put o.dst v) (.inRegion ops rest :: k) := by rw [Fb.finish_at, ho]; rfl
      rw [hfin]
      exact hgo (hm.trans hm') ⟨ev', q2, by rw [q3]; exact hrun.def'.mono hm', hrun.cs'.mono hm'⟩ q1
    · exact hcb.pan m' h1 w' par L T D a cs ch chain _ (hm.trans hm') ⟨ev', ⟨LR.nil, (hrun.env.mono hm').tr⟩, hrun.def'.mono hm', hrun.cs'.mono hm'⟩ hch hk
  cases x with
  | v d' vo =>
    obtain ⟨rfl, hvo⟩ := hx
    have he : vo.ev L T h (fun v => putD d' v L T fun L T => r cb par L T D h kn) = .ok A.o A.h' := by cases d' <;> exact he
    obtain ⟨av, v, q1, q2, q3⟩ := hvo hrun.evo.rel hrun.env _ _ _ he
    obtain ⟨L', T', q4, q5, q6⟩ := putD_ok (act := a) hrun.env hd q1 q2
    exact Reach.head (stp_value ho hw (.inr (not_defer (q3 o rfl) (by simp))) (q3 o rfl)) (hgo hm (hrun.next (Evo.refl hrun.evo.rel) q5 q6) q4)
  | n d' no =>
    obtain ⟨rfl, hno⟩ := hx
    have he : no.ev L T (fun ob mk => newK ob h fun b h => putD d' (mk b) L T fun L T => r cb par L T D h kn) = .ok A.o A.h' := he
    obtain ⟨ob, mk, hne, q1, q2⟩ := hno hrun.evo.rel hrun.env _ _ _ he
    obtain ⟨nx', hnx, q3⟩ := newK_inv q1
    obtain ⟨w', v, pl, q4, q5, q6, q7⟩ := q2 w o rfl
    have hnone : m h.nx = none := hrun.evo.rel.fresh _ (Nat.le_refl _)
    have hle : m.le (m.put h.nx pl) := M.le_put hnone
    have ev := Evo.new hrun.evo.rel hnx q5 q6 hne (q7 _ hle).2
    have hv := (q7 _ hle).1 h.nx (M.put_same _ _ _)
    obtain ⟨L', T', q8, q9, q10⟩ := putD_ok (act := a) (hrun.env.mono hle) hd hv q3
    exact Reach.head (stp_value ho hw (.inr (not_defer q4 (by simp))) q4) (hgo (hm.trans hle) (hrun.next ev q9 q10) q8)
  | s so =>
    obtain ⟨rfl, hso⟩ := hx
    obtain ⟨h1, w1, q1, q2, _, q3⟩ := hso hrun.evo.rel hrun.env _ _ _ (show so.ev L T h (fun h => r cb par L T D h kn) = .ok A.o A.h' from he)
    have hdn := dst_no hd
    have q3 := q3 o rfl
    refine Reach.head (stp_skipv ho hw (.inr (not_defer q3 (by simp))) q3) ?_
    have : a.put o.dst undef = a := by rw [hdn]; rfl
    rw [this]
    have hds : dsOf o ds = ds := by unfold dsOf; rw [hdn]
    exact hgo hm (hrun.next q2 (by rw [hds]; exact hrun.env) rfl) q1
  | x d' xo =>
    obtain ⟨rfl, hxo⟩ := hx
    obtain ⟨av, h1, m1, w1, v, q1, q2, q3, q4⟩ := hxo hrun.evo.rel hrun.env _ _ _ (show xo.ev L T h (fun v h => putD d' v L T fun L T => r cb par L T D h kn) = .ok A.o A.h' from he)
    obtain ⟨L', T', q8, q9, q10⟩ := putD_ok (act := a) (hrun.env.mono q2.le) hd q3 q1
    have q4 := q4 o rfl
    exact Reach.head (stp_value ho hw (.inr (not_defer q4 (by simp))) q4) (hgo (hm.trans q2.le) (hrun.next q2 q9 q10) q8)
  | call d' f args =>
    obtain ⟨rfl, kc, x, hop, hk, hf, hargs⟩ := hx
    obtain ⟨av, hv, e1⟩ := opd_sound hcP hrun.evo.rel hrun.env hf (show evO f L T (fun f => evOs args L T fun as => f.onFunc fun f fs ca => appK fs as fun as => cb.app f as ca h (backK d' r cb par L T D kn)) = .ok A.o A.h' from he)
    obtain ⟨as, hvs, e2⟩ := opds_sound hcP hrun.evo.rel hrun.env hargs e1
    obtain ⟨fn, fs, ca, rfl, e3⟩ := AV.onFunc_inv e2
    have e4 := appK_inv e3
    obtain ⟨fv, fa, cv, hv, hfr, hfs, hca⟩ := hv
    obtain ⟨nx, q1, q2⟩ := hcb.app A.own m h w fn fv _ _ ca _ _ _ cs hrun.evo hfr (hfs.append hvs) hca hbk e4
    have hrunx : (execOp (ev a.tmps) o).run A.G.P w = .ok nx w := by
      rw [← q1]
      simp only [execOp, hop, resolve, hk, hv, Deferred.ofValue, Sem.run_bind, Sem.run_pure, Result.andThen_ok]
      congr 2
      apply Array.ext'
      simp
    exact hback hrunx q2 (.inr fun c hc => by rw [hop] at hc; cases hc)
  | callf d' p args =>
    obtain ⟨rfl, kc, f, fn, hop, hk, hf, hname, hbody, rfl, hlt, hargs⟩ := hx
    obtain ⟨as, hvs, e2⟩ := opds_sound hcP hrun.evo.rel hrun.env hargs (show evOs args L T (fun as => cb.call (hi f) as h (backK d' r cb par L T D kn)) = .ok A.o A.h' from he)
    rw [hcP] at hf
    have hrunx : (execOp (ev a.tmps) o).run A.G.P w = .ok (.enter f (kc.args.map (ev a.tmps))) w := by
      simp only [execOp, hop, resolve, hk, ev, Deferred.ofValue, Sem.run_bind, Sem.run_pure, Result.andThen_ok, invoke, Array.append_empty, Array.empty_append]
      exact run_callFunc_body hf hname hbody _ w
    refine hback hrunx ?_ (.inr fun c hc => by rw [hop] at hc; cases hc)
    have := hcb.call A.own m h w (hi f) fn as _ _ _ cs hrun.evo (by rw [hi_val hlt]; exact hf) hvs hbk e2
    rw [hi_val hlt] at this
    rw [show kc.args.map (ev a.tmps) = (kc.args.toList.map (ev a.tmps)).toArray from by apply Array.ext'; simp]
    exact this
  | dfr f args =>
    obtain ⟨rfl, kc, x, hop, hk, hf, hargs⟩ := hx
    have hfi := hcb.fi.round
    cases hro : cb.fi.round with
    | some l =>
      have he : Option.rec (motive := fun _ => Res) (evO f L T fun f => evOs args L T fun as => f.onFunc fun f fs ca => appK fs as fun as => r cb par L T (.fn f ca as :: D) h kn) (fun _ => .bad) cb.fi.round = .ok A.o A.h' := he
      rw [hro] at he; cases he
    | none =>
      have he : Option.rec (motive := fun _ => Res) (evO f L T fun f => evOs args L T fun as => f.onFunc fun f fs ca => appK fs as fun as => r cb par L T (.fn f ca as :: D) h kn) (fun _ => .bad) cb.fi.round = .ok A.o A.h' := he
      rw [hro] at he hfi
      obtain ⟨av, hv, e1⟩ := opd_sound hcP hrun.evo.rel hrun.env hf he
      obtain ⟨as, hvs, e2⟩ := opds_sound hcP hrun.evo.rel hrun.env hargs e1
      obtain ⟨fn, fs, ca, rfl, e3⟩ := AV.onFunc_inv e2
      have e4 := appK_inv e3
      obtain ⟨fv, fa, cv, hv, hfr, hfs, hca⟩ := hv
      have hdn := dst_no hd
      have hrunx : (execOp (ev a.tmps) o).run A.G.P w = .ok (.defer ⟨.fn fv cv, fa ++ kc.args.map (ev a.tmps)⟩) w := by
        simp only [execOp, hop, resolve, hk, hv, Deferred.ofValue, Sem.run_bind, Sem.run_pure, Result.andThen_ok]
      refine Reach.head (stp_defer ho hw hfi hrunx) ?_
      have hput : ({ a with defers := ⟨.fn fv cv, fa ++ kc.args.map (ev a.tmps)⟩ :: a.defers } : Act).put o.dst undef = { a with defers := ⟨.fn fv cv, fa ++ kc.args.map (ev a.tmps)⟩ :: a.defers } := by rw [hdn]; rfl
      rw [hput]
      have hds : dsOf o ds = ds := by unfold dsOf; rw [hdn]
      exact hgo (D' := .fn fn ca (fs ++ as) :: D) hm ⟨hrun.evo, by rw [hds]; exact hrun.env, ⟨_, _, rfl, ⟨fv, cv, rfl, hfr, hca, by simpa using hfs.append hvs⟩, hrun.def'⟩, hrun.cs'⟩ e4
  | pnc x' =>
    obtain ⟨rfl, x, hop, hx'⟩ := hx
    obtain ⟨av, hv, e1⟩ := opd_sound hcP hrun.evo.rel hrun.env hx' (show evO x' L T (fun v => v.onIface fun _ _ => cb.pan par [⟨v, false⟩] L T D h) = .ok A.o A.h' from he)
    obtain ⟨t, y, rfl, e2⟩ := AV.onIface_inv e1
    obtain ⟨yv, hyv, hy⟩ := hv
    have hrunx : (execOp (ev a.tmps) o).run A.G.P w = .halt (.panic (.iface t yv)) w := by
      simp only [execOp, hop, hyv, Instr.panic, Sem.run_bind, run_goPanic, Result.andThen_halt]
    refine Reach.head (stp_panic ho hw (.inr fun c hc => by rw [hop] at hc; cases hc) hrunx) ?_
    exact hcb.pan m h w par L T D a cs [⟨.iface t y, false⟩] _ _ hm hrun.weak ⟨_, _, rfl, ⟨yv, rfl, hy⟩, rfl⟩ e2
  | rcv d' =>
    obtain ⟨rfl, kc, hop, hk, hargs⟩ := hx
    have hfi := hcb.fi.round
    have hkind := hcb.fi.kind
    have he : Option.rec (motive := fun _ => Res) (ifK cb.fi.dfr (rcvK par fun par v => putD d' v L T fun L T => r cb par L T D h kn) (putD d' .nili L T fun L T => r cb par L T D h kn)) (fun _ => .bad) cb.fi.round = .ok A.o A.h' := he
    cases hro : cb.fi.round with
    | some l => rw [hro] at he; cases he
    | none =>
      rw [hro] at he hfi
      have he : ifK cb.fi.dfr (rcvK par fun par v => putD d' v L T fun L T => r cb par L T D h kn) (putD d' .nili L T fun L T => r cb par L T D h kn) = .ok A.o A.h' := he
      rw [ifK_eq] at he
      have hrunx : (execOp (ev a.tmps) o).run A.G.P w = .ok .recover w := by
        obtain ⟨bs, hbs⟩ := exec_builtin (w := w) hk (ρ' := ev a.tmps) hop A.G.P
        rw [hbs]; rfl
      have hstep := stp_recover (cs := cs) (k := k) (rest := rest) ho hw hfi hrunx
      have hnil : putD d' .nili L T (fun L T => r cb par L T D h kn) = .ok A.o A.h' → tryRecover (b.at a (.inRegion ops (i :: rest) :: k)) cs = none → Reach A.G.P A.F (lone (b.at a (.inRegion ops (i :: rest) :: k)) cs w) := fun e1 ht => by
        rw [ht] at hstep
        obtain ⟨L', T', q8, q9, q10⟩ := putD_ok (act := a) (a := .nili) (v := .nilIface) hrun.env hd rfl e1
        exact Reach.head hstep (hgo hm (hrun.next (Evo.refl hrun.evo.rel) q9 q10) q8)
      have hcs := hrun.cs'
      cases hdf : cb.fi.dfr with
      | false =>
        rw [hdf] at he hkind
        have hkind : b.kind = .normal := hkind
        exact hnil he (by simp [tryRecover, Fb.at, hkind])
      | true =>
        rw [hdf] at he hkind
        have hkind : b.kind = .deferred := hkind
        rw [hkind] at hcs
        obtain ⟨c0, rest0, M, hbase, rfl, hM, hnn⟩ := hcs
        have he : rcvK par (fun par v => putD d' v L T fun L T => r cb par L T D h kn) = .ok A.o A.h' := he
        unfold rcvK at he
        split at he
        · rename_i v older
          obtain ⟨chain, rfl, vv, es, rfl, hvv, hes⟩ := hM
          have ht : tryRecover (b.at a (.inRegion ops (i :: rest) :: k)) ({ c0 with mode := .panicking (⟨vv, false, false⟩ :: es) } :: rest0) = some (vv, { c0 with mode := .panicking (⟨vv, true, false⟩ :: es) } :: rest0) := by
            simp [tryRecover, Fb.at, hkind]
          rw [ht] at hstep
          obtain ⟨L', T', q8, q9, q10⟩ := putD_ok (act := a) hrun.env hd hvv he
          refine Reach.head hstep (hgo hm ⟨hrun.evo, q9, by rw [q10]; exact hrun.def', ?_⟩ q8)
          rw [hkind]
          exact ⟨c0, rest0, _, hbase, rfl, ⟨_, rfl, vv, es, rfl, hvv, hes⟩, by simp⟩
        · rename_i hnp
          refine hnil he ?_
          cases par with
          | none => have hM : M = .run := hM; subst hM; simp [tryRecover, Fb.at, hkind]
          | ret => have hM : M = .returning := hM; subst hM; simp [tryRecover, Fb.at, hkind]
          | pan ch =>
            obtain ⟨chain, rfl, hch⟩ := hM
            cases ch with
            | nil => simp only [ChainR] at hch; subst hch; simp [tryRecover, Fb.at, hkind]
            | cons q qs =>
              obtain ⟨vv, es, rfl, hvv, hes⟩ := hch
              obtain ⟨qv, qd⟩ := q
              cases qd with
              | false => exact absurd rfl (hnp qv qs)
              | true => simp [tryRecover, Fb.at, hkind]
  | grd _ _ _ _ => exact hx.elim

end
end Go.Proofs.YtpngpoeifgkclaaGreatDoor.Am

/- Regions in the order of their text, whole; and leaving a frame. -/
namespace Go.Proofs.YtpngpoeifgkclaaGreatDoor.Am

section
variable {A : Aim} {c : Cx}

theorem tmp_yield {ops : Array Oper} {tmps : Array Value} {g t : Nat} {og : Oper} (hg : ops[g]? = some og) (ht : og.dst = some t) : yielded ops tmps g = match tmps.getD t undef with | .bool b => some b | _ => none := by
  unfold yielded
  simp only [hg, Option.bind_some, ht]
  rcases Nat.lt_or_ge t tmps.size with h | h
  · simp [Array.getD, h]
    cases tmps[t] <;> rfl
  · simp [Array.getD, Nat.not_lt.2 h, undef]

theorem op_ok (hcP : c.P = A.G.P) {ops : Array Oper} {i : Nat} {rest : List Nat} {o : Oper} (ho : ops[i]? = some o) {ds ds1 ds' : List Nat} {x : AOp} (hx : c.op ops ds o = some (x, ds1)) {r : OpF} (hr : RegOk A c ops r rest ds1 ds') : RegOk A c ops (x.sh r) (i :: rest) ds ds' := by
  unfold Cx.op at hx
  split at hx
  · cases hx
  · rename_i d hd
    split at hx
    · cases hx
    · rename_i x0 hx0
      have hcore := core_ok (ρ := A.ρ) hcP hx0
      have hx : (match o.guard with
        | none => some (x0, dsOf o ds)
        | some (g, want) => match ops[g]? with
          | some og => match og.dst with
            | some t => match c.opd ds (.tmp t) with
              | some x => some (AOp.grd x want d x0, dsOf o ds)
              | none => none
            | none => none
          | none => none) = some (x, ds1) := hx
      split at hx
      · rename_i hgd
        simp only [Option.some.injEq, Prod.mk.injEq] at hx
        obtain ⟨rfl, rfl⟩ := hx
        intro m0 b base k cb kn hb hcx hcb hkn m h w par L T D a cs hm hrun he
        exact core_step hcP ho hd hcore hr hb hcx hcb hkn hm hrun (by simp [Region.wanted, hgd]) he
      · rename_i g want hgd
        split at hx
        · rename_i og hog
          split at hx
          · rename_i t ht
            split at hx
            · rename_i x' hx'
              simp only [Option.some.injEq, Prod.mk.injEq] at hx
              obtain ⟨rfl, rfl⟩ := hx
              intro m0 b base k cb kn hb hcx hcb hkn m h w par L T D a cs hm hrun he
              obtain ⟨av, hv, e1⟩ := opd_sound hcP hrun.evo.rel hrun.env hx' (show evO x' L T (fun v => v.onGrd (fun b => wantK b want (x0.sh r cb par L T D h kn) (putD d (.tup []) L T fun L T => r cb par L T D h kn)) (putD d (.tup []) L T fun L T => r cb par L T D h kn)) = .ok A.o A.h' from he)
              have hy := tmp_yield (tmps := a.tmps) hog ht
              have hv : VR A.ρ m av (a.tmps.getD t undef) := hv
              have hwd : Region.wanted o (yielded ops a.tmps) = (yielded ops a.tmps g == some want) := by simp only [Region.wanted, hgd]
              have hskip : Region.wanted o (yielded ops a.tmps) = false → putD d (.tup []) L T (fun L T => r cb par L T D h kn) = .ok A.o A.h' → Reach A.G.P A.F (lone (b.at a (.inRegion ops (i :: rest) :: k)) cs w) := fun hw e2 => by
                obtain ⟨L', T', q1, q2, q3⟩ := putD_ok (act := a) (a := .tup []) (v := undef) hrun.env hd ⟨#[], rfl, rfl⟩ e2
                have hs := stp_op_skip (P := A.G.P) (b := b) (a := a) (k := k) (cs := cs) (w := w) (ops := ops) (i := i) (rest := rest) (by rw [ho]; exact hw)
                rw [ho] at hs
                exact Reach.head hs (hr m0 b base k cb kn hb hcx hcb hkn _ _ _ _ _ _ _ _ _ hm (hrun.next (Evo.refl hrun.evo.rel) q2 q3) q1)
              rcases AV.onGrd_inv e1 with ⟨bb, rfl, e2⟩ | ⟨rfl, e2⟩
              · have hv : a.tmps.getD t undef = .bool bb := hv
                rw [hv] at hy
                have hyy : yielded ops a.tmps g = some bb := hy
                rw [hyy] at hwd
                cases bb <;> cases want
                · exact core_step hcP ho hd hcore hr hb hcx hcb hkn hm hrun (by rw [hwd]; rfl) e2
                · exact hskip (by rw [hwd]; rfl) e2
                · exact hskip (by rw [hwd]; rfl) e2
                · exact core_step hcP ho hd hcore hr hb hcx hcb hkn hm hrun (by rw [hwd]; rfl) e2
              · obtain ⟨xs, hv, hxs⟩ := hv
                rw [hv] at hy
                have hyy : yielded ops a.tmps g = none := hy
                rw [hyy] at hwd
                exact hskip (by rw [hwd]; cases want <;> rfl) e2
            · cases hx
          · cases hx
        · cases hx

theorem ops_ok (hcP : c.P = A.G.P) {ops : Array Oper} : ∀ (os : List Oper) (i : Nat) {ds ds' : List Nat} {al : List AOp}, ops.toList.drop i = os → c.ops ops os ds = some (al, ds') → RegOk A c ops (opsF al) ((List.range ops.size).drop i) ds ds' := by
  intro os
  induction os with
  | nil =>
    intro i ds ds' al hd h
    simp only [Cx.ops, Option.some.injEq, Prod.mk.injEq] at h
    obtain ⟨rfl, rfl⟩ := h
    have hle : ops.size ≤ i := by
      have := congrArg List.length hd
      simp at this; omega
    have : (List.range ops.size).drop i = [] := List.drop_eq_nil_of_le (by simpa using hle)
    rw [this]
    exact fun m0 b base k cb kn _ _ _ hkn => hkn
  | cons o os ih =>
    intro i ds ds' al hd h
    simp only [Cx.ops] at h
    split at h
    · rename_i a ds1 h1
      split at h
      · rename_i l ds2 h2
        simp only [Option.some.injEq, Prod.mk.injEq] at h
        obtain ⟨rfl, rfl⟩ := h
        have hi : i < ops.size := by
          have := congrArg List.length hd
          simp at this; omega
        have ho : ops[i]? = some o := by
          have := congrArg (·[0]?) hd
          simpa using this
        have hdr : (List.range ops.size).drop i = i :: (List.range ops.size).drop (i + 1) := by
          rw [List.drop_eq_getElem_cons (by simpa using hi)]; simp
        rw [hdr]
        refine op_ok hcP ho h1 (ih (i + 1) ?_ h2)
        have := congrArg List.tail hd
        simpa [List.tail_drop] using this
      · cases h
    · cases h

theorem ok_reg (hcP : c.P = A.G.P) {ls : List RfA} {id : Nat} {ops : Array Oper} {l : List AOp} {ds ds' : List Nat} (h : c.ops ops ops.toList ds = some (l, ds')) : CodeOk A c ls (cReg (opsF l)) (.region id ops false) ds ds' := by
  intro m0 b base k ctl kn hb hctl hkn
  have := ops_ok hcP ops.toList 0 (by simp) h m0 b base k ctl.cb kn hb.1 hb.2.1 hctl.cb (hkn.step fun a cs w => stp_region_end)
  rw [List.drop_zero] at this
  exact KnOk.step this fun a cs w => stp_region

end
end Go.Proofs.YtpngpoeifgkclaaGreatDoor.Am

/- Leaving a frame: its deferred calls, its results. -/
namespace Go.Proofs.YtpngpoeifgkclaaGreatDoor.Am

section
variable (A : Aim)

/-- A frame that has nothing left but to hand back its value, or its panic. -/
def LeavesTo (m0 : M) (k : Fk) (f : Nat) (kind : CallKind) (base : List Frame) : Prop :=
  ∀ m h w par cs (fr : Frame) fn, m0.le m → Evo A.G A.ρ A.mI A.hI A.wI m h w → CsR A.ρ m kind base par cs → fr.kind = kind → fr.defers = [] → fr.fn = f → A.G.P.funcs[f]? = some fn →
    (∀ a v, fr.mode = .returning → (results fn fr.tmps).run A.G.P w = .ok v w → VR A.ρ m a v → k (.ret a) par h = .ok A.o A.h' → Reach A.G.P A.F (lone fr cs w)) ∧
    (∀ c chain, fr.mode = .panicking chain → ChainR A.ρ m c chain → k (.pan c) par h = .ok A.o A.h' → Reach A.G.P A.F (lone fr cs w))

/-- A function is run as the machine runs it. -/
structure RunOk (run : Run) : Prop where
  fn : ∀ {dfr par p args h k}, run dfr par p args h k = .ok A.o A.h' → ∃ fn, A.G.P.funcs[p.val]? = some fn ∧ (fn.name == "runtime.NumGoroutine") = false ∧ fn.body.isSome = true
  run : ∀ {m h w dfr par p args vs k base cs}, Evo A.G A.ρ A.mI A.hI A.wI m h w → VRL A.ρ m args vs → CsR A.ρ m (if dfr = true then .deferred else .normal) base par cs →
    LeavesTo A m k p.val (if dfr = true then .deferred else .normal) base → run dfr par p args h k = .ok A.o A.h' →
    Reach A.G.P A.F (lone (Frame.enter A.G.P p.val vs.toArray (if dfr = true then .deferred else .normal)) cs w)

variable {A}

theorem leaves_of_back {m0 : M} {k : Fk} {caller : Frame} {rest : List Frame} (h : BkOk A m0 k caller rest) (f : Nat) : LeavesTo A m0 k f .normal (caller :: rest) := by
  intro m hh w par cs fr fn hm ev hcs hk hd hf hfn
  have hcs : cs = caller :: rest := hcs
  subst hcs
  obtain ⟨h1, h2⟩ := h m hh w par hm ev
  subst hf
  refine ⟨fun a v hmode hr hv e => ?_, fun c chain hmode hch e => ?_⟩
  · exact Reach.head (step_leave_returned (P := A.G.P) ⟨hmode, hd, hk, fn, hfn, hr⟩) (h1 a v hv e)
  · exact Reach.head (step_leave_panicked (P := A.G.P) ⟨hmode, hd, fn, hfn⟩) (h2 c chain hch e)

theorem callOk_of_run {run : Run} (h : RunOk A run) : CallOk A (run false .none) := by
  intro m hh w p fn args vs k caller rest ev hfn hvs hbk e
  exact h.run (dfr := false) (base := caller :: rest) ev hvs rfl (leaves_of_back hbk p.val) e

section
variable {c : Cx}

def resF (tmps : Array Value) : ResultVar → Sem Value
  | .tmp t => pure (tmps.getD t undef)
  | .cell a t => do loadVar t (← asAddr (tmps.getD a undef))

theorem resultK_ok (hcP : c.P = A.G.P) {m : M} {h : Hp} {w : World} (r : Rel A.G A.ρ m h w) {T : VT} {tmps : Array Value} (ht : TR A.ρ c m T tmps) : ∀ {rs : List ResultVar} {res : List ARes}, c.res rs = some res → ∀ {k : List AV → Res} {o : AOut} {h' : Hp}, resultsK res T h k = .ok o h' →
    ∃ as vs, k as = .ok o h' ∧ VRL A.ρ m as vs ∧ (rs.mapM (resF tmps)).run A.G.P w = .ok vs w := by
  intro rs
  induction rs with
  | nil =>
    intro res hres k o h' e
    simp only [Cx.res, Option.some.injEq] at hres
    subst hres
    exact ⟨[], [], e, rfl, rfl⟩
  | cons x rs ih =>
    intro res hres k o h' e
    cases x with
    | tmp t =>
      simp only [Cx.res] at hres
      split at hres
      · rename_i p l hp hl
        cases hres
        have e : getV p T (fun v => resultsK l T h fun vs => k (v :: vs)) = .ok o h' := e
        rw [getV_eq] at e
        obtain ⟨as, vs, e1, e2, e3⟩ := ih hl e
        refine ⟨_, _, e1, ⟨_, _, rfl, ht.2 t p hp, e2⟩, ?_⟩
        rw [List.mapM_cons, Sem.run_bind, resF, Sem.run_pure, Result.andThen_ok, Sem.run_bind, e3]; rfl
      · cases hres
    | cell t u =>
      simp only [Cx.res] at hres
      split at hres
      · rename_i p n l hp ha hs hl
        cases hres
        have e : getV p T (fun a => a.onPtr fun b o => atK b h fun ob => ob.onCells fun _ _ _ c => dropK o c fun d => takeK n d [] fun l' => resultsK l T h fun vs => k (.agg l' :: vs)) = .ok o h' := e
        rw [getV_eq] at e
        have hv := ht.2 t p hp
        generalize T.at p = av at e hv
        obtain ⟨b, i, rfl, e2⟩ := AV.onPtr_inv e
        obtain ⟨hb, e3⟩ := atK_inv e2
        obtain ⟨g, sz, fz, cs, hob, e4⟩ := AObj.onCells_inv e3
        obtain ⟨h1, e5⟩ := dropK_inv e4
        obtain ⟨h2, e6⟩ := takeK_inv e5
        rw [List.append_nil] at e6
        obtain ⟨pl, hm, hv⟩ := hv
        obtain ⟨xs, h3, h4, h5⟩ := cells_ok r hob hm (o := i) (n := n) (by simp at h2; omega) A.G.P
        obtain ⟨as, vs, e7, e8, e9⟩ := ih hl e6
        refine ⟨_, _, e7, ⟨.agg xs, _, rfl, ⟨xs, rfl, h4, h5⟩, e8⟩, ?_⟩
        rw [List.mapM_cons, Sem.run_bind]
        simp only [resF, hv, asAddr, loadVar, Sem.run_bind, Sem.run_pure, Result.andThen_ok, run_isAgg hcP ha, if_true, run_sizeOf hcP hs, h3, e9]
      · rename_i p l hp ha hl
        cases hres
        have e : getV p T (fun a => a.onPtr fun b o => atK b h fun ob => ob.onCells fun _ _ _ c => nthK o c fun v => resultsK l T h fun vs => k (v :: vs)) = .ok o h' := e
        rw [getV_eq] at e
        have hv := ht.2 t p hp
        generalize T.at p = av at e hv
        obtain ⟨b, i, rfl, e2⟩ := AV.onPtr_inv e
        obtain ⟨hb, e3⟩ := atK_inv e2
        obtain ⟨g, sz, fz, cs, hob, e4⟩ := AObj.onCells_inv e3
        obtain ⟨a, h1, e5⟩ := nthK_inv e4
        obtain ⟨pl, hm, hv⟩ := hv
        obtain ⟨v, h2, h3, _⟩ := cell_ok r hob hm h1
        obtain ⟨as, vs, e7, e8, e9⟩ := ih hl e5
        refine ⟨_, _, e7, ⟨v, _, rfl, h3, e8⟩, ?_⟩
        rw [List.mapM_cons, Sem.run_bind]
        simp only [resF, hv, asAddr, loadVar, Sem.run_bind, Sem.run_pure, Result.andThen_ok, run_isAgg hcP ha, Bool.false_eq_true, if_false, run_load, h2, e9]
      · cases hres

theorem oneOr_ok {m : M} {as : List AV} {vs : List Value} (h : VRL A.ρ m as vs) {k : AV → Res} {o : AOut} {h' : Hp} (e : oneOr as k = .ok o h') :
    ∃ a, k a = .ok o h' ∧ VR A.ρ m a (if h : vs.toArray.size = 1 then vs.toArray[0] else .tuple vs.toArray) := by
  cases as with
  | nil => simp only [VRL] at h; subst h; exact ⟨.tup [], e, ⟨#[], by simp, rfl⟩⟩
  | cons a l =>
    obtain ⟨v, r, rfl, hv, hr⟩ := h
    cases l with
    | nil => simp only [VRL] at hr; subst hr; exact ⟨a, e, by simpa using hv⟩
    | cons b l =>
      obtain ⟨u, r', rfl, hu, hr'⟩ := hr
      exact ⟨.tup (a :: b :: l), e, ⟨(v :: u :: r').toArray, by simp, ⟨v, u :: r', rfl, hv, ⟨u, r', rfl, hu, hr'⟩⟩⟩⟩

theorem results_ok (hcP : c.P = A.G.P) {m : M} {h : Hp} {w : World} (r : Rel A.G A.ρ m h w) {T : VT} {tmps : Array Value} (ht : TR A.ρ c m T tmps) {fn : Func} {res : List ARes} (hres : c.res fn.results.toList = some res) {k : AV → Res} {o : AOut} {h' : Hp}
    (e : resultsK res T h (fun vs => oneOr vs k) = .ok o h') : ∃ a v, k a = .ok o h' ∧ VR A.ρ m a v ∧ (results fn tmps).run A.G.P w = .ok v w := by
  obtain ⟨as, vs, e1, e2, e3⟩ := resultK_ok hcP r ht hres e
  obtain ⟨a, e4, e5⟩ := oneOr_ok e2 e1
  refine ⟨a, _, e4, e5, ?_⟩
  have hr : results fn tmps = (do let vs ← fn.results.mapM (resF tmps); pure (if h : vs.size = 1 then vs[0] else .tuple vs)) := by
    unfold results
    congr 1
  have harr : fn.results.mapM (resF tmps) = fn.results.toList.toArray.mapM (resF tmps) := by simp
  rw [hr, harr, List.mapM_toArray, Sem.run_bind, Sem.run_map, e3]
  rfl

theorem chain_noexit {m : M} : ∀ {l : List APan} {es : List PanicEntry}, ChainR A.ρ m l es → es.dropWhile (!·.goexit) = []
  | [], es, h => by simp only [ChainR] at h; subst h; rfl
  | _ :: _, _, ⟨v, r, e, _, h⟩ => by subst e; simp [chain_noexit h]
theorem ChainR.append {m : M} : ∀ {l l2 : List APan} {es es2 : List PanicEntry}, ChainR A.ρ m l es → ChainR A.ρ m l2 es2 → ChainR A.ρ m (l ++ l2) (es ++ es2)
  | [], _, es, _, h, h2 => by simp only [ChainR] at h; subst h; exact h2
  | _ :: _, _, _, _, ⟨v, r, e, hv, h⟩, h2 => by subst e; exact ⟨v, r ++ _, rfl, hv, h.append h2⟩

def settleM : FrameMode → FrameMode
  | .panicking (⟨_, true, _⟩ :: older) => (match older.dropWhile (!·.goexit) with | [] => .returning | r => .panicking r)
  | M => M
def raiseM (vs : List PanicEntry) : FrameMode → FrameMode
  | .panicking chain => .panicking (vs ++ chain)
  | _ => .panicking vs

theorem settle_ok {m : M} {par : Par} {M : FrameMode} (h : ModeR A.ρ m par M) (hn : par ≠ .none) : ModeR A.ρ m (settle par) (settleM M) ∧ settle par ≠ .none := by
  cases par with
  | none => exact absurd rfl hn
  | ret => have h : M = .returning := h; subst h; exact ⟨rfl, by simp [settle]⟩
  | pan ch =>
    obtain ⟨chain, rfl, hch⟩ := h
    cases ch with
    | nil => simp only [ChainR] at hch; subst hch; exact ⟨⟨[], rfl, rfl⟩, by simp [settle]⟩
    | cons q qs =>
      obtain ⟨v, es, rfl, hv, hes⟩ := hch
      obtain ⟨qv, qd⟩ := q
      cases qd with
      | false => exact ⟨⟨_, rfl, v, es, rfl, hv, hes⟩, by simp [settle]⟩
      | true =>
        refine ⟨?_, by simp [settle]⟩
        show settleM (.panicking (⟨v, true, false⟩ :: es)) = .returning
        simp only [settleM, chain_noexit hes]
theorem raise_ok {m : M} {par : Par} {M : FrameMode} (h : ModeR A.ρ m par M) {c : List APan} {chain : List PanicEntry} (hc : ChainR A.ρ m c chain) : ModeR A.ρ m (raised par c) (raiseM chain M) ∧ raised par c ≠ .none := by
  cases par with
  | none => have h : M = .run := h; subst h; exact ⟨⟨chain, rfl, hc⟩, by simp [raised]⟩
  | ret => have h : M = .returning := h; subst h; exact ⟨⟨chain, rfl, hc⟩, by simp [raised]⟩
  | pan ch => obtain ⟨es, rfl, hch⟩ := h; exact ⟨⟨chain ++ es, rfl, hc.append hch⟩, by simp [raised]⟩

theorem stp_return_deferred {P : Program} {fr c : Frame} {cs : List Frame} {w : World} {v : Value} {fn : Func} {M : FrameMode} (hm : fr.mode = .returning) (hd : fr.defers = []) (hk : fr.kind = .deferred) (hf : P.funcs[fr.fn]? = some fn) (hr : (results fn fr.tmps).run P w = .ok v w) :
    step P (lone fr ({ c with mode := M } :: cs) w) = .next (lone { c with mode := settleM M } cs w) := by
  refine step_lone_go ?_
  simp only [stepG, unwind, hm, hd, hf, Sem.runT_eq, hr, doReturn, hk, GStep.bare_after]
  cases M with
  | run => rfl
  | returning => rfl
  | panicking ch =>
    cases ch with
    | nil => rfl
    | cons q qs =>
      obtain ⟨qv, qd, qg⟩ := q
      cases qd with
      | false => rfl
      | true =>
        simp only [settleM]
        cases qs.dropWhile (fun x => !x.goexit) <;> rfl

/-- The deferred calls, and the end. -/
theorem unw_ok (hcP : c.P = A.G.P) {rec : Run} (hrec : RunOk A rec) {fn : Func} {f : Nat} (hfn : A.G.P.funcs[f]? = some fn) {res : List ARes} (hres : c.res fn.results.toList = some res) {k : Fk} {m0 : M} {kind : CallKind} {base : List Frame} (hk : LeavesTo A m0 k f kind base) :
    ∀ (D : List AD) {mode par : Par} {L : List AV} {T : VT} {h : Hp} {m : M} {w : World} {cs : List Frame} {fr : Frame}, m0.le m → Evo A.G A.ρ A.mI A.hI A.wI m h w → CsR A.ρ m kind base par cs → TR A.ρ c m T fr.tmps → DefL A.ρ m D fr.defers → mode ≠ .none → ModeR A.ρ m mode fr.mode →
      fr.kind = kind → fr.fn = f → unwK rec res k mode par L T D h = .ok A.o A.h' → Reach A.G.P A.F (lone fr cs w) := by
  intro D
  induction D with
  | nil =>
    intro mode par L T h m w cs fr hm ev hcs htr hdl hnn hmode hkd hff e
    have hd : fr.defers = [] := by simpa only [DefL] using hdl
    obtain ⟨h1, h2⟩ := hk m h w par cs fr fn hm ev hcs hkd hd hff hfn
    cases mode with
    | none => exact absurd rfl hnn
    | ret =>
      obtain ⟨a, v, e1, e2, e3⟩ := results_ok hcP ev.rel htr hres (show resultsK res T h (fun vs => oneOr vs fun v => k (.ret v) par h) = .ok A.o A.h' from e)
      exact h1 a v hmode e3 e2 e1
    | pan ch =>
      obtain ⟨chain, hch, hcr⟩ := hmode
      exact h2 ch chain hch hcr e
  | cons d D ih =>
    intro mode par L T h m w cs fr hm ev hcs htr hdl hnn hmode hkd hff e
    obtain ⟨dv, rest, hdf, hdr, hdl⟩ := hdl
    have hnotrun : ∀ x : FrameMode, ModeR A.ρ m mode x → x ≠ .run := fun x hx hr => by
      subst hr
      cases mode with
      | none => exact hnn rfl
      | ret => cases hx
      | pan ch => obtain ⟨_, h, _⟩ := hx; cases h
    have hmr := hnotrun _ hmode
    cases d with
    | coll b =>
      obtain ⟨pl, hpl, rfl⟩ := hdr
      have e : ownK b h (fun ob => ob.onDefd fun c => Option.rec (motive := fun _ => Res) .bad (fun c => List.rec (motive := fun _ => Res) (setK b (.defd none) h fun h => unwK rec res k mode par L T D h) (fun _ _ _ => .bad) c) c) = .ok A.o A.h' := e
      obtain ⟨hb, hat, e1⟩ := ownK_inv e
      obtain ⟨oc, hob, e2⟩ := AObj.onDefd_inv e1
      cases oc with
      | none => cases e2
      | some l =>
        cases l with
        | cons _ _ => cases e2
        | nil =>
          have e2 : setK b (.defd none) h (fun h => unwK rec res k mode par L T D h) = .ok A.o A.h' := e2
          rw [setK_eq] at e2
          have hobj := (obj_ok ev.rel (at_ne_of_tr hb) hpl).2
          rw [hat, hob] at hobj
          obtain ⟨dd, hh, hdd⟩ := hobj
          simp only [DefL] at hdd
          subst hdd
          obtain ⟨w1, q1, q2, q3⟩ := setObj_only (P := A.G.P) (o' := .deferred none) hh (by simp)
          have evs := Evo.set ev.rel hb hpl q2 (by simp) (show ObjR A.G A.ρ m pl w1 (.defd none) from q3)
          have hrun : (Instr.takeDeferred pl.blk).run A.G.P w = .ok [] w1 := by
            simp only [Instr.takeDeferred, Sem.run_bind, getObj, Sem.run, hh, Result.andThen_ok, Sem.run_pure]
            rw [q1]; rfl
          have hstep : step A.G.P (lone fr cs w) = .next (lone { fr with defers := rest } cs w1) := by
            refine step_lone_go ?_
            obtain ⟨ffn, ftmps, ftodo, fdefers, fmode, fkind, fround⟩ := fr
            simp only at hdf hmr
            subst hdf
            cases fmode <;> first | exact absurd rfl hmr | simp [stepG, unwind, hrun]
          refine Reach.head hstep ?_
          exact ih (fr := { fr with defers := rest }) hm (ev.trans evs) hcs htr hdl hnn hmode hkd hff e2
    | fn af ca args =>
      obtain ⟨fv, cv, hdv, hfr, hca, hargs⟩ := hdr
      cases af with
      | yield _ => cases e
      | func p =>
        have e : appK args ca (fun args => rec true mode p args h fun out m' h =>
          AOut.rec (motive := fun _ => Res) (fun _ => unwK rec res k (settle m') par L T D h) (fun c => unwK rec res k (raised m' c) par L T D h) (fun _ _ => .bad) out) = .ok A.o A.h' := e
        rw [appK_eq] at e
        obtain ⟨fnp, hfnp, hname, hbody⟩ := hrec.fn e
        simp only [FR] at hfr
        subst hfr
        have hinv : (invoke dv.target dv.args).run A.G.P w = .ok (.enter p.val (dv.args ++ cv)) w := by
          rw [hdv]
          simp only [invoke]
          exact run_callFunc_body hfnp hname hbody _ w
        have htg : dv.target = .fn (.func p.val) cv := by rw [hdv]
        have hstep : step A.G.P (lone fr cs w) = .next (lone (Frame.enter A.G.P p.val (dv.args ++ cv) .deferred) ({ fr with defers := rest } :: cs) w) := by
          refine step_lone_go ?_
          obtain ⟨ffn, ftmps, ftodo, fdefers, fmode, fkind, fround⟩ := fr
          obtain ⟨dt, da⟩ := dv
          simp only at hdf hmr htg hinv
          subst hdf
          subst htg
          cases fmode <;> first | exact absurd rfl hmr | simp [stepG, unwind, callDeferred, hinv]
        refine Reach.head hstep ?_
        have := hrec.run (dfr := true) (base := { fr with defers := rest } :: cs) (cs := { fr with defers := rest } :: cs) (vs := dv.args.toList ++ cv.toList) ev (hargs.append hca) ⟨{ fr with defers := rest }, cs, fr.mode, rfl, rfl, hmode, hnn⟩ ?_ e
        · rw [show dv.args ++ cv = (dv.args.toList ++ cv.toList).toArray by apply Array.ext'; simp]
          exact this
        · intro m' h1 w' par' cs' fr2 fn2 hm' ev' hcs' hk2 hd2 hf2 hfn2
          obtain ⟨c0, r0, M, hb0, rfl, hM, hnn'⟩ := hcs'
          simp only [List.cons.injEq] at hb0
          obtain ⟨rfl, rfl⟩ := hb0
          have hk2 : fr2.kind = .deferred := hk2
          refine ⟨fun a v hmo hr hv e1 => ?_, fun ch chain hmo hch e1 => ?_⟩
          · have e1 : unwK rec res k (settle par') par L T D h1 = .ok A.o A.h' := e1
            rw [← hf2] at hfn2
            refine Reach.head (stp_return_deferred hmo hd2 hk2 hfn2 hr) ?_
            obtain ⟨q1, q2⟩ := settle_ok hM hnn'
            exact ih (fr := { fr with defers := rest, mode := settleM M }) (hm.trans hm') ev' (hcs.mono hm') (htr.mono hm') (hdl.mono hm') q2 q1 hkd hff e1
          · have e1 : unwK rec res k (raised par' ch) par L T D h1 = .ok A.o A.h' := e1
            rw [← hf2] at hfn2
            refine Reach.head (step_leave_panicked (P := A.G.P) ⟨hmo, hd2, fn2, hfn2⟩) ?_
            obtain ⟨q1, q2⟩ := raise_ok hM hch
            have hraise : Frame.raise { fr with defers := rest, mode := M } chain = { fr with defers := rest, mode := raiseM chain M } := by
              cases M <;> rfl
            have := ih (fr := { fr with defers := rest, mode := raiseM chain M }) (cs := cs) (hm.trans hm') ev' (hcs.mono hm') (htr.mono hm') (hdl.mono hm') q2 q1 hkd hff e1
            rw [← hraise] at this
            exact this

end
end
end Go.Proofs.YtpngpoeifgkclaaGreatDoor.Am

/- Functions and rounds that are called. -/
namespace Go.Proofs.YtpngpoeifgkclaaGreatDoor.Am

section moves
variable {P : Program} {b : Fb} {a : Act} {k : List Item} {c : Frame} {cs : List Frame} {w w' : World} {l : Nat} {v : Value}
theorem stp_leave_ret (hb : b.roundOf = some l) (hk : b.kind = .normal) (hr : (Instr.endRound l (some .ret)).run P w = .ok v w') : step P (lone (b.at a (.code .ret :: k)) (c :: cs) w) = .next (lone (c.finish v) cs w') :=
  step_lone_go (by simp [stepG, stepG.exec, Fb.at, hb, hk, hr, doReturn])
theorem stp_leave_end (hb : b.roundOf = some l) (hk : b.kind = .normal) (hr : (Instr.endRound l none).run P w = .ok v w') : step P (lone (b.at a []) (c :: cs) w) = .next (lone (c.finish v) cs w') :=
  step_lone_go (by simp [stepG, stepG.exec, Fb.at, hb, hk, hr, doReturn])
theorem stp_leave_exit {id : Nat} (he : exitTo id k = none) (hb : b.roundOf = some l) (hk : b.kind = .normal) (hr : (Instr.endRound l (some (.exit id))).run P w = .ok v w') : step P (lone (b.at a (.code (.exit id) :: k)) (c :: cs) w) = .next (lone (c.finish v) cs w') :=
  step_lone_go (by simp [stepG, stepG.exec, Fb.at, hb, hk, hr, doReturn, he])
theorem stp_beginRound (hb : b.roundOf = some l) (hr : (Instr.beginRound l).run P w = .ok () w') : step P (lone (b.at a (.beginRound :: k)) cs w) = .next (lone (b.at a k) cs w') :=
  step_lone_go (by simp [stepG, stepG.exec, stepG.apply, Fb.at, hb, hr, Frame.finish])
end moves

theorem FD.onMk_inv {fd : FD} {k : CodeF → List (Option Kp) → List ARes → List Rf → Res} {o : AOut} {h : Hp} (e : fd.onMk k = .ok o h) : ∃ c p r l, fd = .mk c p r l ∧ k c p r l = .ok o h := by
  cases fd
  · cases e
  · exact ⟨_, _, _, _, rfl, e⟩
  · cases e
theorem FD.onRun_inv {fd : FD} {f : (Hp → List AV → Option AV) → Res} {k : CodeF → List (Option Kp) → List ARes → List Rf → Res} {o : AOut} {h : Hp} (e : fd.onRun f k = .ok o h) : (∃ v, fd = .val v ∧ f v = .ok o h) ∨ ∃ c p r l, fd = .mk c p r l ∧ k c p r l = .ok o h := by
  cases fd
  · cases e
  · exact .inr ⟨_, _, _, _, rfl, e⟩
  · exact .inl ⟨_, rfl, e⟩
theorem nthR_inv : ∀ {i : Nat} {l : List Rf} {k : Rf → Res} {o : AOut} {h : Hp}, nthR i l k = .ok o h → ∃ r, l[i]? = some r ∧ k r = .ok o h
  | 0, [], _, _, _, e => by cases e
  | 0, v :: _, _, _, _, e => ⟨v, rfl, e⟩
  | _ + 1, [], _, _, _, e => by cases e
  | i + 1, _ :: r, _, _, _, e => nthR_inv (i := i) (l := r) e

section
variable (A : Aim)
def CodesOk : Prop := ∀ (f : Nat) (d : FDef) (x : Code) (x' : ACode) (ds ds' : List Nat), f < 4096 → A.G.fd f = some d → CodeRel (A.G.cx f) d.loops x x' ds ds' → CodeOk A (A.G.cx f) d.loops x'.sh x ds ds'
variable {A}

theorem bindQ_ok {c : Cx} {m : M} : ∀ {ps0 : List Nat} {ps : List Kp}, c.keeps ps0 = some ps → ∀ {args : List AV} {vs : List Value}, VRL A.ρ m args vs → ∀ {T : VT} {tmps : Array Value}, TR A.ρ c m T tmps → ∀ {k : VT → Res} {o : AOut} {h' : Hp}, bindQ ps args T k = .ok o h' →
    ∃ T', k T' = .ok o h' ∧ vs.length = ps0.length ∧ TR A.ρ c m T' ((ps0.zip vs).foldl (fun (tmps : Array Value) (q : Nat × Value) => tmps.setIfInBounds q.1 q.2) tmps) := by
  intro ps0
  induction ps0 with
  | nil =>
    intro ps hps args vs hv T tmps ht k o h' e
    simp only [Cx.keeps, Option.some.injEq] at hps
    subst hps
    cases args with
    | nil => simp only [VRL] at hv; subst hv; exact ⟨T, e, rfl, ht⟩
    | cons _ _ => cases e
  | cons t ps0 ih =>
    intro ps hps args vs hv T tmps ht k o h' e
    simp only [Cx.keeps] at hps
    split at hps
    · rename_i p l hp hl
      split at hps
      · rename_i hlt
        simp only [Option.some.injEq] at hps
        subst hps
        cases args with
        | nil => cases e
        | cons x args =>
          obtain ⟨v, r, rfl, hx, hr⟩ := hv
          have e : setV p T x (fun T => bindQ l args T k) = .ok o h' := e
          rw [setV_eq] at e
          have hlt : t < c.nt := by simpa [Nat.blt_eq] using hlt
          have henv := Env.put (G := A.G) (ds := []) (L := []) ⟨LR.nil, ht⟩ hlt hx (.inl ⟨p, hp, rfl⟩)
          obtain ⟨T', e1, e2, e3⟩ := ih hl hr henv.tr e
          exact ⟨T', e1, by simp [e2], by simpa using e3⟩
      · cases hps
    · cases hps

theorem fd_of {p : Hi} {c : CodeF} {ps : List (Option Kp)} {r : List ARes} {l : List Rf} (h : A.G.ft.at p = .mk c ps r l) : ∃ d fn, A.G.fd p.val = some d ∧ A.G.P.funcs[p.val]? = some fn ∧ (A.G.cx p.val).nt = fn.ntmps ∧ Cx.fdef A.G.P (A.G.cx p.val).rn fn = some d ∧
    c = d.code.sh ∧ ps = d.params ∧ r = d.res ∧ l = d.loops.map fun r => ⟨r.params, r.assign.sh, r.body.sh⟩ := by
  rcases A.G.hft p with h1 | ⟨v, fn, h1, _⟩ | ⟨d, fn, h1, h2, h3, h4, h5⟩
  · rw [h] at h1; cases h1
  · rw [h] at h1; cases h1
  · rw [h] at h1
    simp only [FDef.sh, FD.mk.injEq] at h1
    exact ⟨d, fn, h2, h3, h4, h5, h1⟩

theorem Hi.val_lt (p : Hi) : p.val < 4096 := by
  cases p with | mk a b c =>
  have := Dg.val_lt a; have := Dg.val_lt b; have := Dg.val_lt c
  simp only [Hi.val]; omega

/-- What the end of a round does to its loop. -/
theorem round_end {m : M} {h : Hp} {w : World} (ev : Evo A.G A.ρ A.mI A.hI A.wI m h w) {b : Hi} {pl : Pl} (hm : m b = some pl) {k : Fk} {j : Option AJ} {par : Par} {L : List AV} {T : VT} {D : List AD} (e : roundEnd b k j par L T D h = .ok A.o A.h') :
    ∃ h1 w1 v, (Instr.endRound pl.blk (j.map jumpOf)).run A.G.P w = .ok v w1 ∧ Evo A.G A.ρ A.mI A.hI A.wI m h1 w1 ∧ VR A.ρ m (.bool j.isNone) v ∧ k (.ret (.bool j.isNone)) par h1 = .ok A.o A.h' := by
  have e : ownK b h (fun ob => ob.onLoop fun _ _ f T i d =>
    Option.rec (motive := fun _ => Res) (setK b (.loop 0 none f T i d) h fun h => k (.ret (.bool true)) par h)
      (fun j => setK b (.loop 2 (some j) f T i d) h fun h => k (.ret (.bool false)) par h) j) = .ok A.o A.h' := e
  obtain ⟨hb, hat, e1⟩ := ownK_inv e
  obtain ⟨st, pe, f, T0, i, d, hob, e2⟩ := AObj.onLoop_inv e1
  have hobj := (obj_ok ev.rel (at_ne_of_tr hb) hm).2
  rw [hat, hob] at hobj
  obtain ⟨l, dp, hh, hst, hpe, hloop, htr, hd, hdd⟩ := hobj
  have hget : (Instr.getLoop pl.blk).run A.G.P w = .ok l w := by simp only [Instr.getLoop, Sem.run_bind, getObj, Sem.run, hh, Result.andThen_ok, Sem.run_pure]
  cases j with
  | none =>
    have e2 : setK b (.loop 0 none f T0 i d) h (fun h => k (.ret (.bool true)) par h) = .ok A.o A.h' := e2
    rw [setK_eq] at e2
    obtain ⟨w1, q1, q2, q3⟩ := setObj_only (P := A.G.P) (o' := .loop { l with state := .ready, pending := none }) hh (by simp)
    refine ⟨_, w1, .bool true, ?_, ev.trans (Evo.set (o := .loop 0 none f T0 i d) ev.rel hb hm q2 (by simp) ⟨_, dp, q3, rfl, rfl, hloop, htr, hd, hdd⟩), rfl, e2⟩
    simp only [Instr.endRound, Option.map_none, Sem.run_bind, hget, Result.andThen_ok, Option.isNone_none, if_true, q1, Sem.run_pure]
  | some j =>
    have e2 : setK b (.loop 2 (some j) f T0 i d) h (fun h => k (.ret (.bool false)) par h) = .ok A.o A.h' := e2
    rw [setK_eq] at e2
    obtain ⟨w1, q1, q2, q3⟩ := setObj_only (P := A.G.P) (o' := .loop { l with state := .done, pending := some (jumpOf j) }) hh (by simp)
    refine ⟨_, w1, .bool false, ?_, ev.trans (Evo.set (o := .loop 2 (some j) f T0 i d) ev.rel hb hm q2 (by simp) ⟨_, dp, q3, rfl, rfl, hloop, htr, hd, hdd⟩), rfl, e2⟩
    simp only [Instr.endRound, Option.map_some, Sem.run_bind, hget, Result.andThen_ok, Option.isNone_some, Bool.false_eq_true, if_false, q1, Sem.run_pure]

theorem begin_ok {m0 : M} {c : Cx} {B : Fb} {base : List Frame} {b : Hi} {pl : Pl} {kn : Kn} {conc conc' : Act → Frame} {ds : List Nat} (hm0 : m0 b = some pl) (hs : ∀ a cs w w', (Instr.beginRound pl.blk).run A.G.P w = .ok () w' → step A.G.P (lone (conc' a) cs w) = .next (lone (conc a) cs w'))
    (hk : KnOk A m0 c B base [] kn conc) : KnOk A m0 c B base ds (roundBegin b kn) conc' := by
  intro m h w par L T D a cs hm r e
  have e : ownK b h (fun ob => ob.onLoop fun st pe f T0 i d => ifK (Nat.beq st 0) (setK b (.loop 1 pe f T0 i d) h fun h => kn par [] T D h) .bad) = .ok A.o A.h' := e
  obtain ⟨hb, hat, e1⟩ := ownK_inv e
  obtain ⟨st, pe, f, T0, i, d, hob, e2⟩ := AObj.onLoop_inv e1
  obtain ⟨hst0, e3⟩ := ifK_inv e2
  obtain rfl := Nat.eq_of_beq_eq_true hst0
  rw [setK_eq] at e3
  have hpl := hm b pl hm0
  have hobj := (obj_ok r.evo.rel (at_ne_of_tr hb) hpl).2
  rw [hat, hob] at hobj
  obtain ⟨l, dp, hh, hst, hpe, hloop, htr, hd, hdd⟩ := hobj
  have hst : l.state = .ready := hst
  have hget : (Instr.getLoop pl.blk).run A.G.P w = .ok l w := by simp only [Instr.getLoop, Sem.run_bind, getObj, Sem.run, hh, Result.andThen_ok, Sem.run_pure]
  obtain ⟨w1, q1, q2, q3⟩ := setObj_only (P := A.G.P) (o' := .loop { l with state := .busy }) hh (by simp)
  have evs := Evo.set (o := .loop 1 pe f T0 i d) r.evo.rel hb hpl q2 (by simp) ⟨_, dp, q3, rfl, hpe, hloop, htr, hd, hdd⟩
  refine Reach.head (hs a cs w w1 ?_) (hk m _ w1 par [] T D a cs hm ⟨r.evo.trans evs, ⟨LR.nil, r.env.tr⟩, r.def', r.cs'⟩ e3)
  simp only [Instr.beginRound, Sem.run_bind, hget, Result.andThen_ok, q1, hst, Sem.run_pure]

theorem app_step (hcodes : CodesOk A) {rec : Run} (hrecs : ∀ I, RunOk (A.to I) rec) {n : Nat} (ih : ∀ I, AppOk (A.to I) (applyK A.G.ft rec n)) : AppOk A (applyK A.G.ft rec (n + 1)) := by
    have hrec : RunOk A rec := hrecs A.own
    intro m h w f fn args vs ca cv k caller rest ev hfr hargs hca hbk e
    cases f with
    | func p =>
      have e : appK args ca (fun args => rec false .none p args h k) = .ok A.o A.h' := e
      rw [appK_eq] at e
      obtain ⟨fnp, hfnp, hname, hbody⟩ := hrec.fn e
      simp only [FR] at hfr
      subst hfr
      refine ⟨.enter p.val (vs.toArray ++ cv.toArray), ?_, ?_⟩
      · simp only [invoke]; exact run_callFunc_body hfnp hname hbody _ w
      · have := hrec.run (dfr := false) (base := caller :: rest) (cs := caller :: rest) (vs := vs ++ cv) ev (hargs.append hca) rfl (leaves_of_back hbk p.val) e
        rw [show vs.toArray ++ cv.toArray = (vs ++ cv).toArray by simp]
        exact this
    | yield b =>
      obtain ⟨pl, hpl, rfl⟩ := hfr
      have e : atK b h (fun ob => ob.onLoop fun _ _ f T i _ => getF f A.G.ft fun fd => fd.onMk fun _ _ _ ls => nthR i ls fun r => Rf.rec (motive := fun _ => Res) (fun ps a bo => bindQ ps args T fun T =>
        (fun c : Ctl => a c (roundBegin b (bo c (roundEnd b k none))) .none [] T [] h)
          ⟨⟨rec false .none, applyK A.G.ft rec n, fun par c _ _ D h => List.rec (motive := fun _ => Res) (k (.pan c) par h) (fun _ _ _ => .bad) D, ⟨f, [], false, some b⟩⟩,
            roundEnd b k (some .ret), fun id => roundEnd b k (some (.exit id))⟩) r) = .ok A.o A.h' := e
      obtain ⟨hb, e1⟩ := atK_inv e
      obtain ⟨st, pe, f, T0, i, d, hob, e2⟩ := AObj.onLoop_inv e1
      rw [getF_eq] at e2
      obtain ⟨fc, fps, fres, fls, hft, e3⟩ := FD.onMk_inv e2
      obtain ⟨r, hr, e4⟩ := nthR_inv e3
      obtain ⟨fdd, fnf, hfd, hfn, hnt, hfdef, _, _, _, hls⟩ := fd_of hft
      have hobj := (obj_ok ev.rel hb hpl).2
      rw [hob] at hobj
      obtain ⟨l, dp, hh, hst, hpe, ⟨hlfn, d', r', x1, x2, hd', hr', hkeeps, hca1, hcb1⟩, htr, hdm, hdd⟩ := hobj
      rw [hfd] at hd'; cases hd'
      rw [hls, List.getElem?_map, hr', Option.map_some, Option.some.injEq] at hr
      subst hr
      obtain ⟨T', e5, hlen, htr'⟩ := bindQ_ok hkeeps hargs htr e4
      have hget : (Instr.getLoop pl.blk).run A.G.P w = .ok l w := by simp only [Instr.getLoop, Sem.run_bind, getObj, Sem.run, hh, Result.andThen_ok, Sem.run_pure]
      let tm := (l.params.zip vs.toArray).foldl (fun (tmps : Array Value) (q : Nat × Value) => tmps.setIfInBounds q.1 q.2) l.tmps
      have htm : tm = (l.params.toList.zip vs).foldl (fun (tmps : Array Value) (q : Nat × Value) => tmps.setIfInBounds q.1 q.2) l.tmps := by
        show (l.params.zip vs.toArray).foldl _ _ = _
        rw [← Array.foldl_toList, Array.toList_zip]
      have hsz : vs.toArray.size = l.params.size := by simpa using hlen
      refine ⟨.round pl.blk l.fn tm l.assign l.body, ?_, ?_⟩
      · simp only [invoke, Instr.yield, Sem.run_bind, hget, Result.andThen_ok, hsz, ne_eq, not_true_eq_false, if_false, Sem.run_pure]
        rfl
      · show Reach A.G.P A.F (lone (Frame.round pl.blk l.fn tm l.assign l.body .normal) (caller :: rest) w)
        let B : Fb := ⟨f.val, .normal, some pl.blk⟩
        have hfr : Frame.round pl.blk l.fn tm l.assign l.body .normal = B.at ⟨tm, []⟩ [.code l.assign, .beginRound, .code l.body] := by rw [hlfn]; rfl
        rw [hfr]
        have hat : AtFn A (A.G.cx f.val) fdd.loops B.fn := ⟨Hi.val_lt f, rfl, fdd, hfd, rfl⟩
        have hend : ∀ (j : Option AJ) (conc : Act → Frame), (∀ a cs w v w', (Instr.endRound pl.blk (j.map jumpOf)).run A.G.P w = .ok v w' → step A.G.P (lone (conc a) (caller :: cs) w) = .next (lone (caller.finish v) cs w')) → KnOk A m (A.G.cx f.val) B (caller :: rest) [] (roundEnd b k j) conc := by
          intro j conc hs m1 h1 w1 par L T D a cs hm1 hr1 e6
          have hcs : cs = caller :: rest := hr1.cs'
          subst hcs
          obtain ⟨h2, w2, v, q1, q2, q3, q4⟩ := round_end hr1.evo (hm1 b pl hpl) e6
          exact Reach.head (hs a rest w1 v w2 q1) ((hbk m1 h2 w2 par hm1 q2).1 _ v q3 q4)
        have hctl : ∀ kk, (∀ id, exitTo id kk = none) → CtlOk A m (A.G.cx f.val) B (caller :: rest) kk ⟨⟨rec false .none, applyK A.G.ft rec n, fun par c _ _ D h => List.rec (motive := fun _ => Res) (k (.pan c) par h) (fun _ _ _ => .bad) D, ⟨f, [], false, some b⟩⟩,
            roundEnd b k (some .ret), fun id => roundEnd b k (some (.exit id))⟩ := fun kk hkk =>
          ⟨⟨fun I => callOk_of_run (hrecs I), ih, fun m1 h1 w1 par L T D a cs ch chain todo hm1 hr1 hch e6 => by
              have hcs : cs = caller :: rest := hr1.cs'
              subst hcs
              cases D with
              | cons _ _ => cases e6
              | nil =>
                have hd0 : a.defers = [] := by simpa only [DefL] using hr1.def'
                refine Reach.head (step_leave_panicked (P := A.G.P) ⟨rfl, hd0, fnf, hfn⟩) ?_
                exact (hbk m1 h1 w1 par hm1 hr1.evo).2 ch chain hch e6, ⟨rfl, rfl, pl, hpl, rfl⟩⟩,
            fun k' => hend (some .ret) _ fun a cs w v w' hr => stp_leave_ret rfl rfl hr,
            fun id k' he => hend (some (.exit id)) _ fun a cs w v w' hr => stp_leave_exit (by rw [he, hkk]) rfl rfl hr⟩
        have hbody := hcodes f.val fdd _ _ _ _ (Hi.val_lt f) hfd hcb1 m B (caller :: rest) [] _ (roundEnd b k none) hat (hctl [] fun id => rfl) (KnOk.weak (hend none _ fun a cs w v w' hr => stp_leave_end rfl rfl hr))
        have hbeg : KnOk A m (A.G.cx f.val) B (caller :: rest) x1 (roundBegin b (r'.body.sh ⟨⟨rec false .none, applyK A.G.ft rec n, fun par c _ _ D h => List.rec (motive := fun _ => Res) (k (.pan c) par h) (fun _ _ _ => .bad) D, ⟨f, [], false, some b⟩⟩,
            roundEnd b k (some .ret), fun id => roundEnd b k (some (.exit id))⟩ (roundEnd b k none))) (fun a => B.at a (.beginRound :: [.code l.body])) :=
          begin_ok hpl (fun a cs w w' hr => stp_beginRound rfl hr) hbody
        have := hcodes f.val fdd _ _ _ _ (Hi.val_lt f) hfd hca1 m B (caller :: rest) [.beginRound, .code l.body] _ _ hat (hctl [.beginRound, .code l.body] fun id => rfl) hbeg
        exact this m h w .none [] T' [] ⟨tm, []⟩ (caller :: rest) (M.le.refl m) ⟨ev, ⟨LR.nil, by rw [htm]; exact htr'⟩, rfl, rfl⟩ e5

theorem app_ok (hcodes : ∀ I, CodesOk (A.to I)) {rec : Run} (hrec : ∀ I, RunOk (A.to I) rec) : ∀ n I, AppOk (A.to I) (applyK A.G.ft rec n) := by
  intro n
  induction n with
  | zero => intro I m h w f fn args vs ca cv k caller rest _ _ _ _ _ e; cases e
  | succ n ih => intro I; exact app_step (A := A.to I) (hcodes I) hrec ih

end
end Go.Proofs.YtpngpoeifgkclaaGreatDoor.Am

/- A function, from its entry to its end. -/
namespace Go.Proofs.YtpngpoeifgkclaaGreatDoor.Am

section
variable {A : Aim}

theorem paramsOf_eq (c : Cx) (n : Nat) : paramsOf c n = (List.range n).map c.keep := by
  induction n with
  | zero => rfl
  | succ n ih => simp only [paramsOf, ih, List.range_succ, List.map_append, List.map_cons, List.map_nil]

theorem bindP_ok {c : Cx} {m : M} {tmps : Array Value} : ∀ (n j : Nat) {args : List AV} {vs : List Value} {T : VT}, VRL A.ρ m args vs → (∀ i v, vs[i]? = some v → tmps[j + i]? = some v) →
    (∀ t p, c.keep t = some p → (t < j → VR A.ρ m (T.at p) (tmps.getD t undef)) ∧ (j ≤ t → T.at p = .no)) → ∀ {k : VT → Res} {o : AOut} {h' : Hp}, bindP ((List.range' j n).map c.keep) args T k = .ok o h' →
    ∃ T', k T' = .ok o h' ∧ vs.length = n ∧ ∀ t p, c.keep t = some p → VR A.ρ m (T'.at p) (tmps.getD t undef) := by
  intro n
  induction n with
  | zero =>
    intro j args vs T hv ht hT k o h' e
    cases args with
    | cons _ _ => cases e
    | nil =>
      simp only [VRL] at hv
      subst hv
      refine ⟨T, e, rfl, fun t p hp => ?_⟩
      rcases Nat.lt_or_ge t j with h | h
      · exact (hT t p hp).1 h
      · rw [(hT t p hp).2 h]; trivial
  | succ n ih =>
    intro j args vs T hv ht hT k o h' e
    rw [List.range'_succ, List.map_cons] at e
    cases args with
    | nil => cases e
    | cons a args =>
      obtain ⟨v, r, rfl, ha, hr⟩ := hv
      have hj : tmps.getD j undef = v := by
        have := ht 0 v rfl
        rw [Nat.add_zero] at this
        simp [this]
      have ht' : ∀ i u, r[i]? = some u → tmps[j + 1 + i]? = some u := fun i u hu => by
        have := ht (i + 1) u (by simpa using hu)
        rwa [show j + (i + 1) = j + 1 + i by omega] at this
      cases hk : c.keep j with
      | none =>
        rw [hk] at e
        obtain ⟨T', e1, e2, e3⟩ := ih (j + 1) (T := T) hr ht' (fun t p hp => by
          refine ⟨fun h => ?_, fun h => (hT t p hp).2 (by omega)⟩
          rcases Nat.lt_or_ge t j with h2 | h2
          · exact (hT t p hp).1 h2
          · have : t = j := by omega
            subst this; rw [hk] at hp; cases hp) (show bindP ((List.range' (j + 1) n).map c.keep) args T k = .ok o h' from e)
        exact ⟨T', e1, by simp [e2], e3⟩
      | some q =>
        rw [hk] at e
        have e : setV q T a (fun T => bindP ((List.range' (j + 1) n).map c.keep) args T k) = .ok o h' := e
        rw [setV_eq] at e
        obtain ⟨T', e1, e2, e3⟩ := ih (j + 1) (T := T.put a q) hr ht' (fun t p hp => by
          refine ⟨fun h => ?_, fun h => by rw [VT.at_put, if_neg (fun hqp => by subst hqp; have := keep_inj hk hp; omega)]; exact (hT t p hp).2 (by omega)⟩
          rw [VT.at_put]
          by_cases hqp : q = p
          · subst hqp
            have := keep_inj hk hp
            subst this
            rw [if_pos rfl, hj]; exact ha
          · rw [if_neg hqp]
            have hne : t ≠ j := fun h => hqp (by subst h; rw [hk] at hp; cases hp; rfl)
            exact (hT t p hp).1 (by omega)) e
        exact ⟨T', e1, by simp [e2], e3⟩

variable (A) in
def BodiesOk : Prop := ∀ (p : Nat) (d : FDef) (fn : Func) (body : Code), A.G.fd p = some d → A.G.P.funcs[p]? = some fn → Cx.fdef A.G.P (A.G.cx p).rn fn = some d → (A.G.cx p).nt = fn.ntmps → fn.body = some body →
  ∃ ds', CodeRel (A.G.cx p) d.loops body d.code [] ds'

theorem fdef_inv {P : Program} {rn : List Nat} {fn : Func} {d : FDef} (h : Cx.fdef P rn fn = some d) : ∃ body ds l, fn.body = some body ∧ (⟨P, rn, fn.ntmps⟩ : Cx).comp (⟨P, rn, fn.ntmps⟩ : Cx).dr body [] 0 = some (d.code, ds, l) ∧ d.loops = l ∧ (⟨P, rn, fn.ntmps⟩ : Cx).res fn.results.toList = some d.res ∧
    d.params = paramsOf ⟨P, rn, fn.ntmps⟩ (fn.params.size + fn.nfree) ∧ fn.params.size + fn.nfree ≤ fn.ntmps ∧ (fn.name == "runtime.NumGoroutine") = false := by
  unfold Cx.fdef at h
  simp only at h
  split at h
  · cases h
  · rename_i body hb
    split at h
    · rename_i code ds l res hc hr
      split at h
      · rename_i hcond
        simp only [Option.some.injEq] at h
        subst h
        simp only [Bool.and_eq_true, Bool.not_eq_true'] at hcond
        exact ⟨body, ds, l, hb, hc, rfl, hr, rfl, Nat.le_of_ble_eq_true hcond.1, hcond.2⟩
      · cases h
    · cases h

theorem run_step (hcodes : ∀ I, CodesOk (A.to I)) (hbodies : BodiesOk A) {n : Nat} (ihs : ∀ I, RunOk (A.to I) (runK A.G.ft n)) : RunOk A (runK A.G.ft (n + 1)) := by
    have ih : RunOk A (runK A.G.ft n) := ihs A.own
    have facts : ∀ {dfr par p args h k}, runK A.G.ft (n + 1) dfr par p args h k = .ok A.o A.h' → (∃ g v, A.G.ft.at p = .val g ∧ dfr = false ∧ g h args = some v ∧ k (.ret v) par h = .ok A.o A.h') ∨ ∃ d fn body, A.G.fd p.val = some d ∧ A.G.P.funcs[p.val]? = some fn ∧ (A.G.cx p.val) = ⟨A.G.P, (A.G.cx p.val).rn, fn.ntmps⟩ ∧ Cx.fdef A.G.P (A.G.cx p.val).rn fn = some d ∧ fn.body = some body ∧
        bindP d.params args VT.none (fun T => d.code.sh (frameC A.G.ft (runK A.G.ft n) ⟨p, d.res, dfr, none⟩ k) (unwK (runK A.G.ft n) d.res k .ret) par [] T [] h) = .ok A.o A.h' ∧ (A.G.cx p.val).nt = fn.ntmps := by
      intro dfr par p args h k e
      have e : getF p A.G.ft (fun fd => fd.onRun (fun g => ifK dfr .bad (Option.rec (motive := fun _ => Res) .bad (fun v => k (.ret v) par h) (g h args))) fun code ps res _ => bindP ps args VT.none fun T => code (frameC A.G.ft (runK A.G.ft n) ⟨p, res, dfr, none⟩ k) (unwK (runK A.G.ft n) res k .ret) par [] T [] h) = .ok A.o A.h' := e
      rw [getF_eq] at e
      rcases FD.onRun_inv e with ⟨g, hft, e3⟩ | ⟨fc, fps, fres, fls, hft, e3⟩
      · left
        cases dfr with
        | true => cases e3
        | false =>
          have e3 : Option.rec (motive := fun _ => Res) .bad (fun v => k (.ret v) par h) (g h args) = .ok A.o A.h' := e3
          cases hg : g h args with
          | none => rw [hg] at e3; cases e3
          | some v => rw [hg] at e3; exact ⟨g, v, hft, rfl, hg, e3⟩
      right
      obtain ⟨d, fn, h1, h2, h3, h4, rfl, rfl, rfl, _⟩ := fd_of hft
      obtain ⟨body, _, _, hb, _⟩ := fdef_inv h4
      refine ⟨d, fn, body, h1, h2, ?_, h4, hb, e3, h3⟩
      have hP := A.G.hcx p.val
      cases hcx : A.G.cx p.val with | mk P rn nt =>
      rw [hcx] at hP h3
      simp only at hP h3
      rw [hP, h3]
    refine ⟨fun {dfr par p args h k} e => ?_, fun {m h w dfr par p args vs k base cs} ev hvs hcs hk e => ?_⟩
    · rcases facts e with ⟨g, v, hft, _⟩ | ⟨d, fn, body, _, h2, _, h4, _⟩
      · rcases A.G.hft p with h1 | ⟨v, fn, h1, h2, h3, h4, _⟩ | ⟨d, fn, h1, _⟩
        · rw [hft] at h1; cases h1
        · exact ⟨fn, h2, h3, h4⟩
        · rw [hft] at h1; simp only [FDef.sh, reduceCtorEq] at h1
      obtain ⟨body', _, _, hb, _, _, _, _, _, hname⟩ := fdef_inv h4
      exact ⟨fn, h2, hname, by rw [hb]; rfl⟩
    · rcases facts e with ⟨g, v, hft, rfl, hgv, ek⟩ | ⟨d, fn, body, hfd, hfn, hcx, hdef, hbody, e1, hnt⟩
      · rcases A.G.hft p with h1 | ⟨v', fn, h1, h2, h3, h4, hcalls⟩ | ⟨d, fn, h1, _⟩
        · rw [hft] at h1; cases h1
        · rw [hft] at h1
          simp only [FD.val.injEq] at h1
          subst h1
          have hcs : cs = base := hcs
          subst hcs
          have gi := A.gi.evo ev
          have hcells : CellsR A.ρ m h w := fun q g sz fz c hq => by
            obtain ⟨pl, i1, i2, i3⟩ := ev.rel.dom q (by rw [hq]; exact fun h => by cases h)
            rw [hq] at i3
            obtain ⟨C, e, f, j1, _, _, _, j2, _⟩ := i3
            exact ⟨pl, C, e, f, i1, i2, j1, fun i a hi => by obtain ⟨v, k1, k2, _⟩ := j2 i a hi; exact ⟨v, k1, k2⟩⟩
          obtain ⟨en, w', fr, ⟨⟨u, rfl, hu⟩, g1, g2, g3, g4, g5⟩, hcome, hfr, hmo, hde, hki, fn', hfn', hres⟩ := hcalls A.ρ m h w args vs v gi.gw gi.sz hcells hvs hgv cs
          have ev' : Evo A.G A.ρ A.mI A.hI A.wI m h w' := by
            refine ⟨⟨ev.rel.fresh, fun q hq => ?_, ev.rel.sep, ev.rel.disj, ev.rel.glob⟩, ev.le, g1.trans ev.os, g2.trans ev.tape, g3.trans ev.output, Nat.le_trans ev.size g4, fun b hb hn => by rw [g5 b (Nat.lt_of_lt_of_le hb ev.size)]; exact ev.frame b hb hn, ev.own, ev.fz, ev.nx, ev.low⟩
            obtain ⟨pl, i1, i2, i3⟩ := ev.rel.dom q hq
            exact ⟨pl, i1, Nat.lt_of_lt_of_le i2 g4, i3.mono (M.le.refl m) (g5 _ i2)⟩
          have := (hk m h w' par cs fr fn (M.le.refl m) ev' rfl hki hde hfr h2).1 v u hmo (by rw [hfr, h2] at hfn'; cases hfn'; exact hres) hu ek
          exact Reach.steps hcome this
        · rw [hft] at h1; simp only [FDef.sh, reduceCtorEq] at h1
      obtain ⟨body', ds', l, hb', hcomp, hl, hres, hparams, hle, hname⟩ := fdef_inv hdef
      rw [← hcx] at hres hparams
      have hcP : (A.G.cx p.val).P = A.G.P := A.G.hcx _
      let kind : CallKind := if dfr = true then .deferred else .normal
      let tm : Array Value := vs.toArray ++ Array.replicate (fn.ntmps - vs.toArray.size) undef
      rw [hparams, paramsOf_eq, List.range_eq_range'] at e1
      obtain ⟨T', e2, hlen, hT⟩ := bindP_ok (tmps := tm) _ 0 hvs (fun i v hi => by
        rw [Nat.zero_add]
        have hlt := (List.getElem?_eq_some_iff.1 hi).1
        show (vs.toArray ++ _)[i]? = _
        rw [Array.getElem?_append_left (by simpa using hlt)]
        simpa using hi) (fun t q hq => ⟨fun h => absurd h (Nat.not_lt_zero _), fun _ => VT.at_none q⟩) e1
      have htm : tm.size = (A.G.cx p.val).nt := by
        rw [hnt]
        simp only [tm, Array.size_append, List.size_toArray, Array.size_replicate]
        omega
      let B : Fb := ⟨p.val, kind, none⟩
      have hfr : Frame.enter A.G.P p.val vs.toArray kind = B.at ⟨tm, []⟩ [.code body] := by
        simp only [Frame.enter, hfn, Option.map_some, Option.getD_some, Option.bind_some, hbody]
        rfl
      show Reach A.G.P A.F (lone (Frame.enter A.G.P p.val vs.toArray kind) cs w)
      rw [hfr]
      have hat : AtFn A (A.G.cx p.val) d.loops B.fn := ⟨Hi.val_lt p, rfl, d, hfd, rfl⟩
      have hunw : ∀ (mode : Par) (M : FrameMode) (m1 : Am.M) (todo : List Item) (par1 : Par) (L : List AV) (T : VT) (D : List AD) (a : Act) (h1 : Hp) (w1 : World) (cs1 : List Frame), m.le m1 → Run0 A (A.G.cx p.val) B base [] m1 h1 w1 par1 L T D a cs1 → mode ≠ .none → ModeR A.ρ m1 mode M →
          unwK (runK A.G.ft n) d.res k mode par1 L T D h1 = .ok A.o A.h' → Reach A.G.P A.F (lone { B.at a todo with mode := M } cs1 w1) := by
        intro mode M m1 todo par1 L T D a h1 w1 cs1 hm1 hr1 hne hM e3
        exact unw_ok hcP ih hfn hres hk D (fr := { B.at a todo with mode := M }) hm1 hr1.evo hr1.cs' hr1.env.tr hr1.def' hne hM rfl rfl e3
      have hctl : CtlOk A m (A.G.cx p.val) B base [] (frameC A.G.ft (runK A.G.ft n) ⟨p, d.res, dfr, none⟩ k) :=
        ⟨⟨fun I => callOk_of_run (ihs I), app_ok hcodes ihs 100, fun m1 h1 w1 par1 L T D a cs1 ch chain todo hm1 hr1 hch e3 =>
            hunw (.pan ch) (.panicking chain) m1 todo par1 L T D a h1 w1 cs1 hm1 hr1 (by simp) ⟨chain, rfl, hch⟩ e3, ⟨rfl, rfl, rfl⟩⟩,
          fun k' m1 h1 w1 par1 L T D a cs1 hm1 hr1 e3 => Reach.head (stp_ret rfl) (hunw .ret .returning m1 _ par1 L T D a h1 w1 cs1 hm1 hr1 (by simp) rfl e3),
          fun id k' _ m1 h1 w1 par1 L T D a cs1 _ _ e3 => by cases e3⟩
      obtain ⟨ds'', hrel⟩ := hbodies p.val d fn body hfd hfn hdef hnt hbody
      have := hcodes A.own p.val d _ _ _ _ (Hi.val_lt p) hfd hrel m B base [] _ (unwK (runK A.G.ft n) d.res k .ret) hat hctl (KnOk.weak fun m1 h1 w1 par1 L T D a cs1 hm1 hr1 e3 =>
        Reach.head (stp_end rfl) (hunw .ret .returning m1 _ par1 L T D a h1 w1 cs1 hm1 hr1 (by simp) rfl e3))
      exact this m h w par [] T' [] ⟨tm, []⟩ cs (M.le.refl m) ⟨ev, ⟨LR.nil, htm, hT⟩, rfl, hcs⟩ e2

theorem run_ok (hcodes : ∀ I, CodesOk (A.to I)) (hbodies : BodiesOk A) : ∀ n I, RunOk (A.to I) (runK A.G.ft n) := by
  intro n
  induction n with
  | zero => exact fun I => ⟨fun e => (by cases e), fun _ _ _ _ e => (by cases e)⟩
  | succ n ih => intro I; exact run_step (A := A.to I) hcodes hbodies ih

end
end Go.Proofs.YtpngpoeifgkclaaGreatDoor.Am

/- Loops over functions. -/
namespace Go.Proofs.YtpngpoeifgkclaaGreatDoor.Am

section moves
variable {P : Program} {b : Fb} {a : Act} {k : List Item} {cs : List Frame} {w w1 w' : World} {l : Nat} {f : Operand} {ps : Array Tmp} {x y : Code} {mark : List Deferred}

theorem stp_rf (he : (Instr.enterLoop b.fn a.tmps ps x y b.roundOf).run P w = .ok (l, mark) w1) {nx : Next} {fn : Fn} {fi cv : Array Value} (hf : ev a.tmps f = .func fn fi cv) (hr : (invoke (.fn fn cv) (fi ++ #[.func (.yield l) #[] #[]])).run P w1 = .ok nx w1) :
    (∀ g args, nx = .enter g args → step P (lone (b.at a (.code (.rangeFunc f ps x y) :: k)) cs w) = .next (lone (Frame.enter P g args .normal) (b.at ⟨a.tmps, mark ++ a.defers⟩ (.inRangeFunc l :: k) :: cs) w1)) ∧
    (∀ l' g tm x' y', nx = .round l' g tm x' y' → step P (lone (b.at a (.code (.rangeFunc f ps x y) :: k)) cs w) = .next (lone (Frame.round l' g tm x' y' .normal) (b.at ⟨a.tmps, mark ++ a.defers⟩ (.inRangeFunc l :: k) :: cs) w1)) := by
  have he2 : (Frame.eval { fn := b.fn, tmps := a.tmps, todo := .inRangeFunc l :: k, defers := mark ++ a.defers, mode := .run, kind := b.kind, roundOf := b.roundOf }) f = .func fn fi cv := by
    rw [← hf]; cases f <;> rfl
  have he3 : (Frame.eval { fn := b.fn, tmps := a.tmps, todo := .inRangeFunc l :: k, defers := mark ++ a.defers, mode := .run, kind := b.kind, roundOf := b.roundOf }) (.const (.func (.yield l) #[] #[])) = .func (.yield l) #[] #[] := rfl
  have hr2 : (invoke (.fn fn cv) (fi.push (.func (.yield l) #[] #[]))).run P w1 = .ok nx w1 := by
    rw [← hr]; congr 2
  refine ⟨fun g args hn => step_lone_go ?_, fun l' g tm x' y' hn => step_lone_go ?_⟩ <;> subst hn <;>
    simp [stepG, stepG.exec, stepG.apply, Fb.at, he, resolve, he2, he3, Deferred.ofValue, hr2]
theorem stp_endRf {jump : Option Code} (he : (Instr.endLoop l).run P w = .ok jump w') : step P (lone (b.at a (.endRangeFunc l :: k)) cs w) = .next (lone (b.at a ((jump.map Item.code).toList ++ k)) cs w') :=
  step_lone_go (by simp [stepG, stepG.exec, Fb.at, he])
end moves

section
variable {A : Aim} {c : Cx} {ls : List RfA}

/-- Behind the loop. -/
theorem endRF_ok {m0 : M} {b : Fb} {base : List Frame} {k : List Item} {ctl : Ctl} {kn : Kn} (hctl : CtlOk A m0 c b base k ctl) (hk : KnOk A m0 c b base [] kn (fun a => b.at a k)) {m : M} (hm0 : m0.le m) {l : Hi} {pl : Pl} (hl : m l = some pl) :
    KnOk A m c b base [] (endRF l ctl kn) (fun a => b.at a (.endRangeFunc pl.blk :: k)) := by
  intro m1 h w par L T D a cs hm r e
  have e : ownK l h (fun ob => ob.onLoop fun st pe f T0 i d => ifK (Nat.beq st 1) .bad (setK l (.loop 3 pe f T0 i d) h fun h =>
    Option.rec (motive := fun _ => Res) (kn par L T D h) (fun j => AJ.rec (motive := fun _ => Res) (ctl.ret par L T D h) (fun id => ctl.exit id par L T D h) j) pe)) = .ok A.o A.h' := e
  obtain ⟨hb, hat, e1⟩ := ownK_inv e
  obtain ⟨st, pe, f, T0, i, d, hob, e2⟩ := AObj.onLoop_inv e1
  have hpl := hm l pl hl
  have hobj := (obj_ok r.evo.rel (at_ne_of_tr hb) hpl).2
  rw [hat, hob] at hobj
  obtain ⟨lp, dp, hh, hst, hpe, hloop, htr, hd, hdd⟩ := hobj
  rw [ifK_eq] at e2
  by_cases h1 : Nat.beq st 1 = true
  · rw [if_pos h1] at e2; cases e2
  rw [if_neg h1, setK_eq] at e2
  have hnb : (lp.state == .busy) = false := by
    have hst1 : st ≠ 1 := fun h => h1 (by rw [h]; rfl)
    rw [hst]
    match st, hst1 with
    | 0, _ => rfl
    | 2, _ => rfl
    | _ + 3, _ => rfl
  have hget : (Instr.getLoop pl.blk).run A.G.P w = .ok lp w := by simp only [Instr.getLoop, Sem.run_bind, getObj, Sem.run, hh, Result.andThen_ok, Sem.run_pure]
  obtain ⟨w1, q1, q2, q3⟩ := setObj_only (P := A.G.P) (o' := .loop { lp with state := .exhausted }) hh (by simp)
  have evs := Evo.set (o := .loop 3 pe f T0 i d) r.evo.rel hb hpl q2 (by simp) ⟨_, dp, q3, rfl, hpe, hloop, htr, hd, hdd⟩
  have hrun : (Instr.endLoop pl.blk).run A.G.P w = .ok (pe.map jumpOf) w1 := by
    simp only [Instr.endLoop, Sem.run_bind, hget, Result.andThen_ok, hnb, Bool.false_eq_true, if_false, q1, Sem.run_pure]
    rw [hpe]
  have r1 : Run0 A c b base [] m1 _ w1 par L T D a cs := ⟨r.evo.trans evs, ⟨LR.nil, r.env.tr⟩, r.def', r.cs'⟩
  refine Reach.head (stp_endRf hrun) ?_
  cases pe with
  | none => exact hk m1 _ w1 par L T D a cs (hm0.trans hm) r1 e2
  | some j =>
    cases j with
    | ret => exact hctl.ret k m1 _ w1 par L T D a cs (hm0.trans hm) r1 e2
    | exit id => exact hctl.exit id k rfl m1 _ w1 par L T D a cs (hm0.trans hm) r1 e2

/-- The loop's object is laid, and the function is called. -/
theorem rfK_ok {ds e e' : List Nat} {f : Operand} {f' : Opd} {ps : Array Tmp} {x y : Code} {i : Nat} {rr : RfA} (hf : c.opd ds f = some f') (hi : ls[i]? = some rr) (hps : c.keeps ps.toList = some rr.params) (hx : CodeRel c ls x rr.assign [] e) (hy : CodeRel c ls y rr.body [] e')
    {m0 : M} {b : Fb} {base : List Frame} {k : List Item} {ctl : Ctl} {kn : Kn} (hat : AtFn A c ls b.fn) (hctl : CtlOk A m0 c b base k ctl) (hk : KnOk A m0 c b base [] kn (fun a => b.at a k))
    {m : M} {h : Hp} {w w0 : World} {par : Par} {L : List AV} {T : VT} {D : List AD} {a : Act} {cs : List Frame} {mark : List Deferred} {d : Hi} {dp : Pl} (hm : m0.le m) (ev : Evo A.G A.ρ A.mI A.hI A.wI m h w) (henv : Env c m ds L T a.tmps A.G A.ρ)
    (hdl : DefL A.ρ m D (mark ++ a.defers)) (hcs : CsR A.ρ m b.kind base par cs) (hd : m d = some dp)
    (hent : ∀ w1, (newObj (.loop { state := .ready, pending := none, fn := b.fn, tmps := a.tmps, params := ps, assign := x, body := y, defers := dp.blk })).run A.G.P w = .ok w.heap.size w1 → (Instr.enterLoop b.fn a.tmps ps x y b.roundOf).run A.G.P w0 = .ok (w.heap.size, mark) w1)
    (he : rfK f' i ctl kn par L T D d h = .ok A.o A.h') : Reach A.G.P A.F (lone (b.at a (.code (.rangeFunc f ps x y) :: k)) cs w0) := by
  have hcP : c.P = A.G.P := by rw [hat.2.1]; exact A.G.hcx _
  have he : newK (.loop 0 none ctl.cb.fi.f T i d) h (fun l h => evO f' L T fun f => f.onFunc fun f fs ca => appK fs [.func (.yield l) [] []] fun as => ctl.cb.app f as ca h fun out _ h =>
    AOut.rec (motive := fun _ => Res) (fun _ => endRF l ctl kn par [] T D h) (fun p => ctl.cb.pan par p [] T D h) (fun _ _ => .bad) out) = .ok A.o A.h' := he
  obtain ⟨nx', hnx, e1⟩ := newK_inv he
  let lo : Loop := { state := .ready, pending := none, fn := b.fn, tmps := a.tmps, params := ps, assign := x, body := y, defers := dp.blk }
  let pl : Pl := ⟨w.heap.size, 0, 0, 0⟩
  have hnone : m h.nx = none := ev.rel.fresh _ (Nat.le_refl _)
  have hle : m.le (m.put h.nx pl) := M.le_put hnone
  obtain ⟨fdd, hfd, hls⟩ := hat.2.2
  have hfn := hctl.cb.fi.fn
  have hobj : ObjR A.G A.ρ (m.put h.nx pl) pl (w.alloc (.loop lo)) (.loop 0 none ctl.cb.fi.f T i d) := by
    refine ⟨lo, dp, heap_new w _, rfl, rfl, ⟨hfn.symm, fdd, rr, e, e', by rw [hfn]; exact hfd, by rw [hls]; exact hi, ?_, ?_, ?_⟩, ?_, hle d dp hd, rfl⟩
    · rw [hfn, ← hat.2.1]; exact hps
    · rw [hfn, ← hat.2.1, hls]; exact hx
    · rw [hfn, ← hat.2.1, hls]; exact hy
    · rw [hfn, ← hat.2.1]; exact henv.tr.mono hle
  have evn := Evo.new ev.rel hnx (Adds.alloc w (.loop lo)) (pl := pl) rfl (by simp) hobj
  have ev1 := ev.trans evn
  obtain ⟨av, hv, e2⟩ := opd_sound hcP ev1.rel (henv.mono hle) hf e1
  obtain ⟨fn, fs, ca, rfl, e3⟩ := AV.onFunc_inv e2
  rw [appK_eq] at e3
  obtain ⟨fv, fa, cv, hv, hfr, hfs, hca⟩ := hv
  have hent' := hent _ rfl
  have hplm : m.put h.nx pl h.nx = some pl := M.put_same _ _ _
  have hyl : VRL A.ρ (m.put h.nx pl) [.func (.yield h.nx) [] []] [.func (.yield w.heap.size) #[] #[]] := ⟨_, _, rfl, ⟨_, #[], #[], rfl, ⟨pl, hplm, rfl⟩, rfl, rfl⟩, rfl⟩
  obtain ⟨nx, q1, q2⟩ := hctl.cb.app A.own _ _ _ fn fv _ (fa.toList ++ [.func (.yield w.heap.size) #[] #[]]) ca cv.toList _ (b.at ⟨a.tmps, mark ++ a.defers⟩ (.inRangeFunc w.heap.size :: k)) cs ev1 hfr
    (hfs.append hyl) hca (fun m1 h1 w1 par1 hm1 ev2 => by
      have hr1 : Run0 A c b base [] m1 h1 w1 par [] T D ⟨a.tmps, mark ++ a.defers⟩ cs := ⟨ev2, ⟨LR.nil, (henv.tr.mono hle).mono hm1⟩, (hdl.mono hle).mono hm1, (hcs.mono hle).mono hm1⟩
      refine ⟨fun av v hv hk1 => ?_, fun ch chain hch hk1 => ?_⟩
      · exact endRF_ok hctl hk (hm.trans hle) hplm m1 h1 w1 par [] T D ⟨a.tmps, mark ++ a.defers⟩ cs hm1 hr1 hk1
      · exact hctl.cb.pan m1 h1 w1 par [] T D ⟨a.tmps, mark ++ a.defers⟩ cs ch chain _ ((hm.trans hle).trans hm1) hr1 hch hk1) e3
  have hinv : (invoke (.fn fv cv) (fa ++ #[.func (.yield w.heap.size) #[] #[]])).run A.G.P (w.alloc (.loop lo)) = .ok nx (w.alloc (.loop lo)) := by
    rw [← q1]; congr 2; apply Array.ext'; simp
  obtain ⟨s1, s2⟩ := stp_rf (k := k) (cs := cs) hent' hv hinv
  cases nx <;> first | exact q2.elim | skip
  · exact Reach.head (s1 _ _ rfl) q2
  · exact Reach.head (s2 _ _ _ _ _ rfl) q2

theorem ok_rf {ds e e' : List Nat} {f : Operand} {f' : Opd} {ps : Array Tmp} {x y : Code} {i : Nat} {rr : RfA} (hf : c.opd ds f = some f') (hi : ls[i]? = some rr) (hps : c.keeps ps.toList = some rr.params) (hx : CodeRel c ls x rr.assign [] e) (hy : CodeRel c ls y rr.body [] e') :
    CodeOk A c ls (cRange f' i) (.rangeFunc f ps x y) ds [] := by
  intro m0 b base k ctl kn hat hctl hk m h w par L T D a cs hm r he
  have hround := hctl.cb.fi.round
  have he : Option.rec (motive := fun _ => Res)
    (newK (.defd (some [])) h fun d h => rfK f' i ctl kn par L T (.coll d :: D) d h)
    (fun b => atK b h fun ob => ob.onLoop fun _ _ _ _ _ d => rfK f' i ctl kn par L T D d h) ctl.cb.fi.round = .ok A.o A.h' := he
  cases hro : ctl.cb.fi.round with
  | none =>
    rw [hro] at he hround
    have hround : b.roundOf = none := hround
    obtain ⟨nx', hnx, e1⟩ := newK_inv (show newK (.defd (some [])) h (fun d h => rfK f' i ctl kn par L T (.coll d :: D) d h) = .ok A.o A.h' from he)
    let pl : Pl := ⟨w.heap.size, 0, 0, 0⟩
    have hnone : m h.nx = none := r.evo.rel.fresh _ (Nat.le_refl _)
    have hle : m.le (m.put h.nx pl) := M.le_put hnone
    have evn := Evo.new r.evo.rel hnx (Adds.alloc w (.deferred (some []))) (pl := pl) (o := .defd (some [])) rfl (by simp) ⟨[], heap_new w _, rfl⟩
    refine rfK_ok (D := .coll h.nx :: D) hf hi hps hx hy hat hctl hk (mark := [⟨.collected w.heap.size, #[]⟩]) (hm.trans hle) (r.evo.trans evn) (r.env.mono hle) ⟨_, _, rfl, ⟨pl, M.put_same _ _ _, rfl⟩, r.def'.mono hle⟩ (r.cs'.mono hle) (M.put_same _ _ _) (fun w1 hw1 => ?_) e1
    rw [hround]
    simp only [run_newObj, Result.ok.injEq, true_and] at hw1
    subst hw1
    simp only [Instr.enterLoop, Sem.run_bind, run_newObj, Result.andThen_ok, Sem.run_pure]
    rfl
  | some lb =>
    rw [hro] at he hround
    obtain ⟨plr, hplr, hbr⟩ := hround
    obtain ⟨hb, e1⟩ := atK_inv (show atK lb h (fun ob => ob.onLoop fun _ _ _ _ _ d => rfK f' i ctl kn par L T D d h) = .ok A.o A.h' from he)
    obtain ⟨st, pe, ff, T0, ii, d, hob, e2⟩ := AObj.onLoop_inv e1
    have hobj := (obj_ok r.evo.rel hb (hm lb plr hplr)).2
    rw [hob] at hobj
    obtain ⟨lp, dp, hh, _, _, _, _, hd, hdd⟩ := hobj
    have hget : (Instr.getLoop plr.blk).run A.G.P w = .ok lp w := by simp only [Instr.getLoop, Sem.run_bind, getObj, Sem.run, hh, Result.andThen_ok, Sem.run_pure]
    refine rfK_ok hf hi hps hx hy hat hctl hk (mark := []) hm r.evo r.env r.def' r.cs' hd (fun w1 hw1 => ?_) e2
    rw [hbr]
    simp only [run_newObj, Result.ok.injEq, true_and] at hw1
    subst hw1
    simp only [Instr.enterLoop, Sem.run_bind, hget, run_newObj, Result.andThen_ok, Sem.run_pure, hdd]

end
end Go.Proofs.YtpngpoeifgkclaaGreatDoor.Am

/- What an operation asks for comes to one value, or to none; it hangs on its operands alone. -/
namespace Go.Proofs.YtpngpoeifgkclaaGreatDoor.Am

/-- It hands on one value, or none. -/
def Det {α : Type} (f : (α → Res) → Res) : Prop := (∃ a, ∀ k, f k = k a) ∨ ∀ k, f k = .bad

section det
variable {α β : Type}
theorem Det.pure (a : α) : Det (fun k : α → Res => k a) := .inl ⟨a, fun _ => rfl⟩
theorem Det.bad : Det (fun _ : α → Res => .bad) := .inr fun _ => rfl
theorem Det.bind {f : (α → Res) → Res} {g : α → (β → Res) → Res} (hf : Det f) (hg : ∀ a, Det (g a)) : Det (fun k => f fun a => g a k) := by
  rcases hf with ⟨a, h⟩ | h
  · rcases hg a with ⟨b, h2⟩ | h2
    · exact .inl ⟨b, fun k => by show f (fun a => g a k) = _; rw [h, h2]⟩
    · exact .inr fun k => by show f (fun a => g a k) = _; rw [h, h2]
  · exact .inr fun k => h _
/-- An equation that ends: the value. -/
theorem Det.get {f : (α → Res) → Res} (hf : Det f) {k : α → Res} {o : AOut} {h : Hp} (e : f k = .ok o h) : ∃ a, (∀ k, f k = k a) ∧ k a = .ok o h := by
  rcases hf with ⟨a, h⟩ | h
  · exact ⟨a, h, (h k).symm.trans e⟩
  · rw [h] at e; cases e

theorem nat_det {n : Nat} {g : Nat → (β → Res) → Res} (h : ∀ m, Det (g m)) : Det (fun k => natK n fun m => g m k) := h n
theorem int_det {n : Int} {g : Int → (β → Res) → Res} (h : ∀ m, Det (g m)) : Det (fun k => intK n fun m => g m k) := by
  have : (fun k => intK n fun m => g m k) = g n := funext fun k => by rw [intK_eq]
  rw [this]; exact h n
theorem bool_det {n : Bool} {g : Bool → (β → Res) → Res} (h : ∀ m, Det (g m)) : Det (fun k => boolK n fun m => g m k) := by cases n <;> exact h _
theorem if_det {b : Bool} {f g : (β → Res) → Res} (hf : Det f) (hg : Det g) : Det (fun k => ifK b (f k) (g k)) := by cases b <;> first | exact hf | exact hg
theorem onBool_det {a : AV} {g : Bool → (β → Res) → Res} (h : ∀ x, Det (g x)) : Det (fun k => a.onBool fun x => g x k) := by cases a <;> first | exact h _ | exact Det.bad
theorem onSymOr_det {a : AV} {f : Nat → (β → Res) → Res} {g : (β → Res) → Res} (h : ∀ j, Det (f j)) (hg : Det g) : Det (fun k => a.onSymOr (fun j => f j k) (g k)) := by cases a <;> first | exact hg | exact h _
theorem onInt_det {a : AV} {g : Nat → Int → (β → Res) → Res} (h : ∀ x y, Det (g x y)) : Det (fun k => a.onInt fun x y => g x y k) := by cases a <;> first | exact h _ _ | exact Det.bad
theorem onStr_det {a : AV} {g : Nat → Nat → (β → Res) → Res} (h : ∀ x y, Det (g x y)) : Det (fun k => a.onStr fun x y => g x y k) := by cases a <;> first | exact h _ _ | exact Det.bad
theorem onPtr_det {a : AV} {g : Hi → Nat → (β → Res) → Res} (h : ∀ x y, Det (g x y)) : Det (fun k => a.onPtr fun x y => g x y k) := by cases a <;> first | exact h _ _ | exact Det.bad
theorem onSlice_det {a : AV} {f : (β → Res) → Res} {g : Hi → Nat → Nat → Option Nat → (β → Res) → Res} (h0 : Det f) (h : ∀ x y z u, Det (g x y z u)) : Det (fun k => a.onSlice (f k) fun x y z u => g x y z u k) := by
  cases a <;> first | exact h0 | exact h _ _ _ _ | exact Det.bad
theorem onMap_det {a : AV} {f : (β → Res) → Res} {g : Hi → (β → Res) → Res} (h0 : Det f) (h : ∀ x, Det (g x)) : Det (fun k => a.onMap (f k) fun x => g x k) := by
  cases a <;> first | exact h0 | exact h _ | exact Det.bad
theorem onIfc_det {a : AV} {f : (β → Res) → Res} {g : Nat → AV → (β → Res) → Res} (h0 : Det f) (h : ∀ x y, Det (g x y)) : Det (fun k => a.onIfc (f k) fun x y => g x y k) := by
  cases a <;> first | exact h0 | exact h _ _ | exact Det.bad
theorem onNP_det {a : AV} {f : (β → Res) → Res} {g : Hi → Nat → (β → Res) → Res} (h0 : Det f) (h : ∀ x y, Det (g x y)) : Det (fun k => a.onNP (f k) fun x y => g x y k) := by
  cases a <;> first | exact h0 | exact h _ _ | exact Det.bad
theorem onNF_det {a : AV} {f : (β → Res) → Res} {g : AFn → List AV → List AV → (β → Res) → Res} (h0 : Det f) (h : ∀ x y z, Det (g x y z)) : Det (fun k => a.onNF (f k) fun x y z => g x y z k) := by
  cases a <;> first | exact h0 | exact h _ _ _ | exact Det.bad
theorem onAgg_det {a : AV} {g : List AV → (β → Res) → Res} (h : ∀ x, Det (g x)) : Det (fun k => a.onAgg fun x => g x k) := by cases a <;> first | exact h _ | exact Det.bad
theorem onTup_det {a : AV} {g : List AV → (β → Res) → Res} (h : ∀ x, Det (g x)) : Det (fun k => a.onTup fun x => g x k) := by cases a <;> first | exact h _ | exact Det.bad
theorem onPF_det {a : AV} {f : (β → Res) → Res} (h : Det f) : Det (fun k => a.onPF (f k)) := by cases a <;> first | exact h | exact Det.bad
theorem onGrd_det {a : AV} {f : (β → Res) → Res} {g : Bool → (β → Res) → Res} (h : ∀ x, Det (g x)) (h0 : Det f) : Det (fun k => a.onGrd (fun x => g x k) (f k)) := by
  cases a <;> first | exact h _ | exact Det.bad | skip
  rename_i l
  cases l
  · exact h0
  · exact Det.bad
theorem onCells_det {a : AObj} {g : Bool → Nat → Nat → List AV → (β → Res) → Res} (h : ∀ x y z u, Det (g x y z u)) : Det (fun k => a.onCells fun x y z u => g x y z u k) := by cases a <;> first | exact h _ _ _ _ | exact Det.bad
theorem onMapO_det {a : AObj} {g : List AEnt → Nat → (β → Res) → Res} (h : ∀ x y, Det (g x y)) : Det (fun k => a.onMap fun x y => g x y k) := by cases a <;> first | exact h _ _ | exact Det.bad

theorem nthK_det (j : Nat) (l : List AV) : Det (nthK j l) := by
  induction j generalizing l with
  | zero => cases l with
    | nil => exact Det.bad
    | cons v r => exact Det.pure v
  | succ j ih => cases l with
    | nil => exact Det.bad
    | cons v r => exact ih r
theorem dropK_det (j : Nat) (l : List AV) : Det (dropK j l) := by
  induction j generalizing l with
  | zero => exact Det.pure l
  | succ j ih => cases l with
    | nil => exact Det.bad
    | cons v r => exact ih r
theorem takeK_det (j : Nat) (l r : List AV) : Det (takeK j l r) := by
  induction j generalizing l with
  | zero => exact Det.pure r
  | succ j ih => cases l with
    | nil => exact Det.bad
    | cons v t => exact show Det (fun k => takeK j t r fun u => k (v :: u)) from Det.bind (ih t) fun u => Det.pure (v :: u)
theorem overK_det (vs l : List AV) : Det (overK vs l) := by
  induction vs generalizing l with
  | nil => exact Det.pure l
  | cons v vs ih => cases l with
    | nil => exact Det.bad
    | cons w t => exact show Det (fun k => overK vs t fun u => k (v :: u)) from Det.bind (ih t) fun u => Det.pure (v :: u)
theorem putK_det (j : Nat) (vs l : List AV) : Det (putK j vs l) := by
  induction j generalizing l with
  | zero => exact overK_det vs l
  | succ j ih => cases l with
    | nil => exact Det.bad
    | cons w t => exact show Det (fun k => putK j vs t fun u => k (w :: u)) from Det.bind (ih t) fun u => Det.pure (w :: u)
theorem lenK_det (l : List AV) : Det (lenK l) := .inl ⟨l.length, lenK_eq l⟩
theorem appK_det (l r : List AV) : Det (appK l r) := .inl ⟨l ++ r, appK_eq l r⟩
theorem cellsK_det (v : AV) : Det (cellsK v) := by cases v <;> first | exact Det.bad | exact Det.pure _
theorem evO_det (x : Opd) (L : List AV) (T : VT) : Det (evO x L T) := by
  cases x with
  | loc j => exact nthK_det j L
  | kep p => exact .inl ⟨T.at p, fun k => getV_eq p T k⟩
  | con v => exact Det.pure v
theorem evOs_det (xs : List Opd) (L : List AV) (T : VT) : Det (evOs xs L T) := by
  induction xs with
  | nil => exact Det.pure []
  | cons x r ih => exact show Det (fun k => evO x L T fun v => evOs r L T fun vs => k (v :: vs)) from Det.bind (evO_det x L T) fun v => Det.bind ih fun vs => Det.pure (v :: vs)
theorem buildK_det (ps : List (Nat × Nat × Opd)) (L : List AV) (T : VT) (z : List AV) : Det (buildK ps L T z) := by
  induction ps generalizing z with
  | nil => exact Det.pure z
  | cons q r ih =>
    show Det (fun k => evO q.2.2 L T fun v => cellsK v fun cs => lenK cs fun n => ifK (Nat.beq n q.2.1) (putK q.1 cs z fun z => buildK r L T z k) .bad)
    exact Det.bind (evO_det q.2.2 L T) fun v => Det.bind (cellsK_det v) fun cs => Det.bind (lenK_det cs) fun n => if_det (Det.bind (putK_det q.1 cs z) fun z => ih z) Det.bad
theorem atFz_det (b : Hi) (fz : List A2) : Det (atFz b fz) := by
  induction fz with
  | nil => exact Det.bad
  | cons t r ih =>
    have : atFz b (t :: r) = fun k => (t.at b).orK (atFz b r k) (k (t.at b)) := funext fun k => by
      show getO b t (fun o => o.orK (atFz b r k) (k o)) = _
      rw [getO_eq]
    rw [this]
    generalize t.at b = o
    cases o <;> first | exact ih | exact Det.pure _
theorem atK_det (b : Hi) (h : Hp) : Det (atK b h) := by
  cases h with | mk tr fz nx =>
  have : atK b ⟨tr, fz, nx⟩ = fun k => (tr.at b).orK (atFz b fz k) (k (tr.at b)) := funext fun k => by
    show getO b tr (fun o => o.orK (atFz b fz k) (k o)) = _
    rw [getO_eq]
  rw [this]
  generalize tr.at b = o
  cases o <;> first | exact atFz_det b fz | exact Det.pure _
theorem wrapK_det (κ hi lo : Nat) (r : Int) : Det (wrapK κ hi lo r) := by
  cases r with
  | ofNat m => exact nat_det (n := m) fun m => if_det (Det.pure _) (int_det fun r => Det.pure r)
  | negSucc m => exact nat_det (n := m) fun m => if_det (Det.pure _) (int_det fun r => Det.pure r)
theorem pureInt_det (s : Sem Value) : Det (pureInt s) := by
  unfold pureInt
  split
  · exact int_det fun r => Det.pure r
  · exact Det.bad
theorem binI_det (o : IBin) (κ hi lo k2 : Nat) (m n : Int) : Det (binI o κ hi lo k2 m n) := by
  cases o
  · exact if_det (wrapK_det ..) Det.bad
  · exact if_det (wrapK_det ..) Det.bad
  · exact if_det (wrapK_det ..) Det.bad
  all_goals first | exact if_det (pureInt_det _) Det.bad | exact pureInt_det _
theorem idxB_det (c n v i : Nat) : Det (idxB c n v i) := by
  induction n generalizing v i with
  | zero => exact Det.pure _
  | succ n ih => exact if_det (Det.pure _) (nat_det (n := Nat.div v 256) fun v => nat_det (n := Nat.succ i) fun i => ih v i)
theorem cntB_det (c n v i : Nat) : Det (cntB c n v i) := by
  induction n generalizing v i with
  | zero => exact Det.pure _
  | succ n ih => exact nat_det (n := Nat.div v 256) fun w => if_det (nat_det (n := Nat.succ i) fun i => ih w i) (ih w i)
theorem bytesK_det (n v : Nat) : Det (bytesK n v) := by
  induction n generalizing v with
  | zero => exact Det.pure _
  | succ n ih => exact show Det (fun k => natK (Nat.mod v 256) fun b => natK (Nat.div v 256) fun w => bytesK n w fun l => k (.int 4 (.ofNat b) :: l)) from nat_det fun b => nat_det fun w => Det.bind (ih w) fun l => Det.pure _
theorem codeK_det (l : List AV) : Det (codeK l) := by
  induction l with
  | nil => exact Det.pure _
  | cons x r ih =>
    refine onInt_det (a := x) fun κ b => if_det ?_ Det.bad
    cases b with
    | ofNat b => exact if_det (Det.bind ih fun r => nat_det fun m => Det.pure m) Det.bad
    | negSucc b => exact Det.bad
theorem bndK_det (v : AV) (top : Nat) : Det (bndK v top) := by
  refine onInt_det (a := v) fun κ i => ?_
  cases i with
  | ofNat i => exact if_det (Det.pure _) Det.bad
  | negSucc i => exact Det.bad
theorem idxK_det (v : AV) (n : Nat) : Det (idxK v n) := by
  refine onInt_det (a := v) fun κ i => ?_
  cases i with
  | ofNat i => exact if_det (Det.pure _) Det.bad
  | negSucc i => exact Det.bad
theorem byteK_det (v : AV) : Det (byteK v) := by
  refine onInt_det (a := v) fun κ i => if_det ?_ Det.bad
  cases i with
  | ofNat i => exact if_det (Det.pure _) Det.bad
  | negSucc i => exact Det.bad
theorem optK_det (x : Option Opd) (d : Nat) (L : List AV) (T : VT) (top : Nat) : Det (optK x d L T top) := by
  cases x with
  | none => exact Det.pure d
  | some x => exact show Det (fun k => evO x L T fun v => bndK v top k) from Det.bind (evO_det x L T) fun v => bndK_det v top
theorem eqK_det (e : EqKind) (x y : AV) : Det (eqK e x y) := by
  cases e
  · exact onBool_det fun a => onBool_det fun b => bool_det fun r => Det.pure r
  · exact onNP_det (onNP_det (Det.pure _) fun _ _ => Det.pure _) fun p i => onNP_det (Det.pure _) fun q j => if_det (bool_det fun r => Det.pure r) Det.bad
  · exact onSlice_det (onSlice_det (Det.pure _) fun _ _ _ _ => Det.pure _) fun _ _ _ _ => onSlice_det (Det.pure _) fun _ _ _ _ => Det.bad
  · exact onMap_det (onMap_det (Det.pure _) fun _ => Det.pure _) fun _ => onMap_det (Det.pure _) fun _ => Det.bad
  · exact onNF_det (onNF_det (Det.pure _) fun _ _ _ => Det.pure _) fun _ _ _ => onNF_det (Det.pure _) fun _ _ _ => Det.bad
  · exact onIfc_det (onIfc_det (Det.pure _) fun _ _ => Det.pure _) fun _ _ => onIfc_det (Det.pure _) fun _ _ => Det.bad
theorem keyEq_det (x y : AV) : Det (keyEq x y) := by
  cases x <;> first
    | exact Det.bad
    | exact onBool_det (a := y) fun b => bool_det fun r => Det.pure r
    | exact onInt_det (a := y) fun j b => if_det (bool_det fun r => Det.pure r) Det.bad
    | exact onStr_det (a := y) fun j b => bool_det fun r => Det.pure r
theorem keyIs_det {q : Nat} {x : AV} {f : (β → Res) → Res} (h : Det f) : Det (fun k => keyIs q x (f k)) := by
  match q with
  | 0 => exact onInt_det (a := x) fun _ _ => h
  | 1 => exact onStr_det (a := x) fun _ _ => h
  | _ + 2 => exact onBool_det (a := x) fun _ => h
theorem eqA_det (qs : List Nat) (l m : List AV) : Det (eqA qs l m) := by
  induction qs generalizing l m with
  | nil => exact Det.pure _
  | cons q qs ih =>
    cases l with
    | nil => exact Det.bad
    | cons x l => cases m with
      | nil => exact Det.bad
      | cons y m => exact keyIs_det (Det.bind (keyEq_det x y) fun b => if_det (ih l m) (Det.pure _))
theorem findK_det (x : AV) (es : List AEnt) (i : Nat) : Det (findK x es i) := by
  induction es generalizing i with
  | nil => exact Det.pure _
  | cons e r ih => exact show Det (fun k => keyEq x e.key fun b => ifK b (k (some (i, e))) (natK (Nat.succ i) fun i => findK x r i k)) from Det.bind (keyEq_det x e.key) fun b => if_det (Det.pure _) (nat_det (n := Nat.succ i) fun i => ih i)
theorem lenE_det (es : List AEnt) : Det (lenE es) := by
  induction es with
  | nil => exact Det.pure _
  | cons e r ih => exact show Det (fun k => lenE r fun n => natK (Nat.succ n) k) from Det.bind ih fun n => nat_det (n := Nat.succ n) fun m => Det.pure m
theorem partK_det (l : List AV) (off n : Nat) (agg : Bool) : Det (partK l off n agg) :=
  if_det (Det.bind (dropK_det off l) fun d => Det.bind (takeK_det n d []) fun _ => Det.pure _) (nthK_det off l)
theorem symCmpK_det (o : ICmp) (j k2 : Nat) (n : Int) : Det (symCmpK o j k2 n) := by
  unfold symCmpK
  split
  · exact if_det (if_det (bool_det fun r => bool_det fun r2 => if_det (Det.pure _) Det.bad) Det.bad) Det.bad
  · exact Det.bad
theorem symEqK_det (o : SBin) (j n v : Nat) : Det (symEqK o j n v) := by
  unfold symEqK
  split
  · cases o <;> first | exact if_det (Det.pure _) Det.bad | exact if_det Det.bad Det.bad
  · exact Det.bad
theorem symLenK_det (j : Nat) : Det (symLenK j) := by
  unfold symLenK
  split
  · exact Det.pure _
  · exact Det.bad
theorem symConvK_det (j κ : Nat) : Det (symConvK j κ) := by
  unfold symConvK
  split
  · exact Det.pure _
  · exact Det.bad
theorem okd_det (ok : Bool) (v : AV) (b : Bool) : Det (okd ok v b) := if_det (Det.pure _) (Det.pure _)
theorem repK_det (z : List AV) (n : Nat) : Det (repK z n) := by
  induction n with
  | zero => exact Det.pure _
  | succ n ih => exact show Det (fun k => repK z n fun l => appK z l k) from Det.bind ih fun l => appK_det z l

end det

section
variable (L : List AV) (T : VT) (h : Hp)

theorem VO.det (vo : VO) : Det (vo.ev L T h) := by
  cases vo with
  | mv x => exact evO_det x L T
  | pick c a b => show Det (vPick c a b L T h); unfold vPick; exact Det.bind (evO_det c L T) fun _ => onBool_det fun _ => if_det (evO_det a L T) (evO_det b L T)
  | build z ps => show Det (vBuild z ps L T h); unfold vBuild; exact Det.bind (buildK_det ps L T z) fun l => Det.pure _
  | ld1 x => show Det (vLd1 x L T h); unfold vLd1; exact Det.bind (evO_det x L T) fun a => onPtr_det fun b o => Det.bind (atK_det b h) fun ob => onCells_det fun _ _ _ c => nthK_det o c
  | ldn x n => show Det (vLdn x n L T h); unfold vLdn; exact Det.bind (evO_det x L T) fun a => onPtr_det fun b o => Det.bind (atK_det b h) fun ob => onCells_det fun _ _ _ c => Det.bind (dropK_det o c) fun d => Det.bind (takeK_det n d []) fun l => Det.pure _
  | nck x => show Det (vNck x L T h); unfold vNck; exact Det.bind (evO_det x L T) fun a => onPF_det (Det.pure a)
  | bin o κ hi lo x y => show Det (vBin o κ hi lo x y L T h); unfold vBin; exact Det.bind (evO_det x L T) fun a => Det.bind (evO_det y L T) fun b => onInt_det fun k1 m => onInt_det fun k2 n => if_det (Det.bind (binI_det o κ hi lo k2 m n) fun r => Det.pure _) Det.bad
  | cmp o x y => show Det (vCmp o x y L T h); unfold vCmp; exact Det.bind (evO_det x L T) fun a => Det.bind (evO_det y L T) fun b => onSymOr_det (fun j => onInt_det fun k2 n => symCmpK_det o j k2 n) (onInt_det fun k1 m => onInt_det fun k2 n => if_det (bool_det fun r => Det.pure _) Det.bad)
  | sbin o x y =>
    show Det (vSbin o x y L T h); unfold vSbin
    refine Det.bind (evO_det x L T) fun a => Det.bind (evO_det y L T) fun b => onSymOr_det (fun j => onStr_det fun m w => symEqK_det o j m w) (onSymOr_det (fun j => onStr_det fun n v => symEqK_det o j n v) (onStr_det fun n v => onStr_det fun m w => ?_))
    cases o with
    | eq => exact bool_det (n := eqS n v m w) fun r => Det.pure _
    | ne => exact bool_det (n := Bool.not (eqS n v m w)) fun r => Det.pure _
    | cat => exact if_det (nat_det (n := Nat.add n m) fun s => nat_det (n := Nat.add v (Nat.mul (Nat.pow 256 n) w)) fun u => Det.pure _) Det.bad
  | eqk e neg x y => show Det (vEqk e neg x y L T h); unfold vEqk; exact Det.bind (evO_det x L T) fun a => Det.bind (evO_det y L T) fun b => Det.bind (eqK_det e a b) fun r => bool_det fun r => Det.pure _
  | eqa qs neg x y => show Det (vEqa qs neg x y L T h); unfold vEqa; exact Det.bind (evO_det x L T) fun a => Det.bind (evO_det y L T) fun b => onAgg_det fun l => onAgg_det fun m => Det.bind (eqA_det qs l m) fun r => bool_det fun r => Det.pure _
  | not x => show Det (vNot x L T h); unfold vNot; exact Det.bind (evO_det x L T) fun a => onBool_det fun b => bool_det fun b => Det.pure _
  | neg κ hi lo x => show Det (vNeg κ hi lo x L T h); unfold vNeg; exact Det.bind (evO_det x L T) fun a => onInt_det fun k1 m => if_det (Det.bind (wrapK_det κ hi lo _) fun r => Det.pure _) Det.bad
  | cvi κ hi lo x => show Det (vCvi κ hi lo x L T h); unfold vCvi; exact Det.bind (evO_det x L T) fun a => onSymOr_det (fun j => symConvK_det j κ) (onInt_det fun k1 m => Det.bind (wrapK_det κ hi lo m) fun r => Det.pure _)
  | cbs x => show Det (vCbs x L T h); unfold vCbs; exact Det.bind (evO_det x L T) fun a => onSlice_det (Det.pure _) fun b o n _ => Det.bind (atK_det b h) fun ob => onCells_det fun _ _ _ c => Det.bind (dropK_det o c) fun d => Det.bind (takeK_det n d []) fun l => Det.bind (codeK_det l) fun v => Det.pure _
  | mif t x => show Det (vMif t x L T h); unfold vMif; exact Det.bind (evO_det x L T) fun a => Det.pure _
  | mfn f fi ca => show Det (vMfn f fi ca L T h); unfold vMfn; exact Det.bind (evOs_det fi L T) fun fi => Det.bind (evOs_det ca L T) fun ca => Det.pure _
  | slS x lo hi => show Det (vSlS x lo hi L T h); unfold vSlS; exact Det.bind (evO_det x L T) fun a => onStr_det fun n v => Det.bind (optK_det hi n L T n) fun h => Det.bind (optK_det lo 0 L T h) fun l => nat_det fun m => nat_det fun u => Det.pure _
  | slL x lo hi mx sz =>
    show Det (vSlL x lo hi mx sz L T h); unfold vSlL
    refine Det.bind (evO_det x L T) fun a => onSlice_det (Det.bind (optK_det mx 0 L T 0) fun m => Det.bind (optK_det hi 0 L T m) fun h => Det.bind (optK_det lo 0 L T h) fun _ => Det.pure _) fun b o n c => ?_
    cases c with
    | none =>
      cases mx with
      | none => exact show Det (fun k => atK b h fun ob => ob.onCells fun g osz _ _ => ifK g (ifK (Nat.beq osz sz) (optK hi n L T n fun h => optK lo 0 L T h fun l => natK (Nat.sub h l) fun len => natK (Nat.add o (Nat.mul l sz)) fun o => k (AV.slice b o len none)) .bad) .bad) from Det.bind (atK_det b h) fun ob => onCells_det fun g osz _ _ => if_det (if_det (Det.bind (optK_det hi n L T n) fun h => Det.bind (optK_det lo 0 L T h) fun l => nat_det fun len => nat_det fun o => Det.pure _) Det.bad) Det.bad
      | some mx => exact show Det (fun k => optK (some mx) 0 L T n fun m => optK hi n L T m fun h => optK lo 0 L T h fun l => natK (Nat.sub h l) fun len => natK (Nat.add o (Nat.mul l sz)) fun o => natK (Nat.sub m l) fun c => k (AV.slice b o len (some c))) from Det.bind (optK_det (some mx) 0 L T n) fun m => Det.bind (optK_det hi n L T m) fun h => Det.bind (optK_det lo 0 L T h) fun l => nat_det fun len => nat_det fun o => nat_det fun c => Det.pure _
    | some c => exact show Det (fun k => optK mx c L T c fun m => optK hi n L T m fun h => optK lo 0 L T h fun l => natK (Nat.sub h l) fun len => natK (Nat.add o (Nat.mul l sz)) fun o => natK (Nat.sub m l) fun c => k (AV.slice b o len (some c))) from Det.bind (optK_det mx c L T c) fun m => Det.bind (optK_det hi n L T m) fun h => Det.bind (optK_det lo 0 L T h) fun l => nat_det fun len => nat_det fun o => nat_det fun c => Det.pure _
  | slA x lo hi mx n sz => show Det (vSlA x lo hi mx n sz L T h); unfold vSlA; exact Det.bind (evO_det x L T) fun a => onPtr_det fun b o => Det.bind (optK_det mx n L T n) fun m => Det.bind (optK_det hi n L T m) fun h => Det.bind (optK_det lo 0 L T h) fun l => nat_det fun len => nat_det fun o => nat_det fun c => Det.pure _
  | fad x off => show Det (vFad x off L T h); unfold vFad; exact Det.bind (evO_det x L T) fun a => onPtr_det fun b o => nat_det fun o => Det.pure _
  | fld x off n agg => show Det (vFld x off n agg L T h); unfold vFld; exact Det.bind (evO_det x L T) fun a => onAgg_det fun l => partK_det l off n agg
  | ixL x i sz => show Det (vIxL x i sz L T h); unfold vIxL; exact Det.bind (evO_det x L T) fun a => Det.bind (evO_det i L T) fun i => onSlice_det Det.bad fun b o n _ => Det.bind (idxK_det i n) fun i => nat_det fun o => Det.pure _
  | ixA x i n sz => show Det (vIxA x i n sz L T h); unfold vIxA; exact Det.bind (evO_det x L T) fun a => Det.bind (evO_det i L T) fun i => onPtr_det fun b o => Det.bind (idxK_det i n) fun i => nat_det fun o => Det.pure _
  | ixS x i => show Det (vIxS x i L T h); unfold vIxS; exact Det.bind (evO_det x L T) fun a => Det.bind (evO_det i L T) fun i => onStr_det fun n v => Det.bind (idxK_det i n) fun i => nat_det fun b => Det.pure _
  | ixG x i len n agg => show Det (vIxG x i len n agg L T h); unfold vIxG; exact Det.bind (evO_det x L T) fun a => Det.bind (evO_det i L T) fun i => onAgg_det fun l => Det.bind (idxK_det i len) fun i => nat_det fun off => partK_det l off n agg
  | lup q m x z ok =>
    show Det (vLup q m x z ok L T h); unfold vLup
    refine Det.bind (evO_det m L T) fun m => Det.bind (evO_det x L T) fun x => keyIs_det (onMap_det (okd_det ok z false) fun b => Det.bind (atK_det b h) fun ob => onMapO_det fun es _ => Det.bind (findK_det x es 0) fun r => ?_)
    cases r with
    | none => exact okd_det ok z false
    | some q => exact okd_det ok q.2.val true
  | tas x t z => show Det (vTas x t z L T h); unfold vTas; exact Det.bind (evO_det x L T) fun a => onIfc_det (Det.pure _) fun u v => if_det (Det.pure _) (Det.pure _)
  | ext x i => show Det (vExt x i L T h); unfold vExt; exact Det.bind (evO_det x L T) fun a => onTup_det fun l => nthK_det i l
  | lnS x => show Det (vLnS x L T h); unfold vLnS; exact Det.bind (evO_det x L T) fun a => onSymOr_det (fun j => symLenK_det j) (onStr_det fun n _ => Det.pure _)
  | lnL x => show Det (vLnL x L T h); unfold vLnL; exact Det.bind (evO_det x L T) fun a => onSlice_det (Det.pure _) fun _ _ n _ => Det.pure _
  | lnM x => show Det (vLnM x L T h); unfold vLnM; exact Det.bind (evO_det x L T) fun a => onMap_det (Det.pure _) fun b => Det.bind (atK_det b h) fun ob => onMapO_det fun es _ => Det.bind (lenE_det es) fun n => Det.pure _
  | mn x y => show Det (vMn x y L T h); unfold vMn; exact Det.bind (evO_det x L T) fun a => Det.bind (evO_det y L T) fun b => onInt_det fun k1 m => onInt_det fun _ n => if_det (Det.pure _) (Det.pure _)
  | mx x y => show Det (vMx x y L T h); unfold vMx; exact Det.bind (evO_det x L T) fun a => Det.bind (evO_det y L T) fun b => onInt_det fun k1 m => onInt_det fun _ n => if_det (Det.pure _) (Det.pure _)
  | ibs x c => show Det (vIbs x c L T h); unfold vIbs; exact Det.bind (evO_det x L T) fun a => Det.bind (evO_det c L T) fun c => onStr_det fun n v => Det.bind (byteK_det c) fun c => Det.bind (idxB_det c n v 0) fun r => Det.pure _
  | cts x c => show Det (vCts x c L T h); unfold vCts; exact Det.bind (evO_det x L T) fun a => Det.bind (evO_det c L T) fun c => onStr_det fun n v => Det.bind (byteK_det c) fun c => Det.bind (cntB_det c n v 0) fun r => Det.pure _
  | ent x =>
    show Det (vEnt x L T h); unfold vEnt
    refine Det.bind (evO_det x L T) fun a => onPtr_det fun b o => if_det (Det.bind (atK_det b h) fun ob => ?_) Det.bad
    split
    · refine Det.bind (atK_det _ h) fun ob => onMapO_det fun es clock => if_det ?_ Det.bad
      split
      · exact Det.pure _
      · exact Det.bad
    · exact Det.bad
  | str x => show Det (vStr x L T h); unfold vStr; exact Det.bind (evO_det x L T) fun a => onStr_det fun n v => Det.pure _

theorem NO.det (no : NO) : Det (fun k : AObj × (Hi → AV) → Res => no.ev L T fun ob mk => k (ob, mk)) := by
  cases no with
  | alloc z => show Det (fun k => nAlloc z L T fun ob mk => k (ob, mk)); unfold nAlloc; exact Det.pure (_, _)
  | box x => show Det (fun k => nBox x L T fun ob mk => k (ob, mk)); unfold nBox; exact Det.bind (evO_det x L T) fun v => Det.bind (cellsK_det v) fun cs => Det.pure (_, _)
  | bsl z n sz ps => show Det (fun k => nBsl z n sz ps L T fun ob mk => k (ob, mk)); unfold nBsl; exact Det.bind (buildK_det ps L T z) fun l => Det.pure (_, _)
  | mkm => show Det (fun k => nMkm L T fun ob mk => k (ob, mk)); unfold nMkm; exact Det.pure (_, _)
  | mks z sz len cap => show Det (fun k => nMks z sz len cap L T fun ob mk => k (ob, mk)); unfold nMks; exact Det.bind (evO_det len L T) fun l => Det.bind (evO_det cap L T) fun c => Det.bind (bndK_det c 1048576) fun c => Det.bind (bndK_det l c) fun l => Det.bind (repK_det z c) fun cs => Det.pure (_, _)
  | csb x => show Det (fun k => nCsb x L T fun ob mk => k (ob, mk)); unfold nCsb; exact Det.bind (evO_det x L T) fun a => onStr_det fun n v => if_det (Det.bind (bytesK_det n v) fun cs => Det.pure (_, _)) Det.bad
  | rgS x => show Det (fun k => nRgS x L T fun ob mk => k (ob, mk)); unfold nRgS; exact Det.bind (evO_det x L T) fun a => onStr_det fun n v => Det.pure (_, _)

theorem AOp.ask_det (a : AOp) : Det (a.ask L T h) := by
  cases a with
  | v d o => exact VO.det L T h o
  | grd g want d o =>
    show Det (fun k => evO g L T fun v => v.onGrd (fun b => wantK b want (o.ask L T h k) (k (.tup []))) (k (.tup [])))
    refine Det.bind (evO_det g L T) fun v => onGrd_det (fun b => ?_) (Det.pure _)
    have ih := AOp.ask_det o
    cases b <;> cases want <;> first | exact ih | exact Det.pure _
  | _ => exact Det.bad

end
end Go.Proofs.YtpngpoeifgkclaaGreatDoor.Am

/- An operation hangs on its operands alone. -/
namespace Go.Proofs.YtpngpoeifgkclaaGreatDoor.Am

/-- An operand that is the same in both. -/
def Ag (L : List AV) (T : VT) (L' : List AV) (T' : VT) (x : Opd) : Prop := evO x L T = evO x L' T'

section
variable {L L' : List AV} {T T' : VT}

theorem evOs_ag {xs : List Opd} (H : ∀ x ∈ xs, Ag L T L' T' x) : evOs xs L T = evOs xs L' T' := by
  induction xs with
  | nil => rfl
  | cons x r ih =>
    have h1 : evO x L T = evO x L' T' := H x (by simp)
    have h2 := ih fun y hy => H y (by simp [hy])
    funext k
    show evO x L T (fun v => evOs r L T fun vs => k (v :: vs)) = evO x L' T' (fun v => evOs r L' T' fun vs => k (v :: vs))
    rw [h1, h2]
theorem buildK_ag {ps : List (Nat × Nat × Opd)} (H : ∀ x ∈ partL ps, Ag L T L' T' x) (z : List AV) : buildK ps L T z = buildK ps L' T' z := by
  induction ps generalizing z with
  | nil => rfl
  | cons q r ih =>
    have h1 : evO q.2.2 L T = evO q.2.2 L' T' := H q.2.2 (by simp [partL])
    have h2 : ∀ z, buildK r L T z = buildK r L' T' z := fun z => ih (fun y hy => H y (by simp only [partL, List.map_cons, List.mem_cons]; exact .inr hy)) z
    funext k
    show evO q.2.2 L T (fun v => cellsK v fun cs => lenK cs fun n => ifK (Nat.beq n q.2.1) (putK q.1 cs z fun z => buildK r L T z k) .bad) = evO q.2.2 L' T' (fun v => cellsK v fun cs => lenK cs fun n => ifK (Nat.beq n q.2.1) (putK q.1 cs z fun z => buildK r L' T' z k) .bad)
    rw [h1]
    simp only [h2]
theorem optK_ag {x : Option Opd} (H : ∀ y ∈ optL x, Ag L T L' T' y) (d top : Nat) : optK x d L T top = optK x d L' T' top := by
  cases x with
  | none => rfl
  | some x =>
    have h1 : evO x L T = evO x L' T' := H x (by simp [optL])
    funext k
    show evO x L T (fun v => bndK v top k) = evO x L' T' (fun v => bndK v top k)
    rw [h1]

theorem VO.ag (vo : VO) (h : Hp) (H : ∀ x ∈ vo.opds, Ag L T L' T' x) : vo.ev L T h = vo.ev L' T' h := by
  cases vo
  case build z ps =>
    have := buildK_ag H z
    funext k
    simp only [VO.ev, vBuild, this]
  case mfn f fi ca =>
    have h1 := evOs_ag (xs := fi) fun x hx => H x (by simp [VO.opds, hx])
    have h2 := evOs_ag (xs := ca) fun x hx => H x (by simp [VO.opds, hx])
    funext k
    simp only [VO.ev, vMfn, h1, h2]
  case slS x lo hi =>
    have h0 : evO x L T = evO x L' T' := H x (by simp [VO.opds])
    have h1 := optK_ag (x := lo) fun y hy => H y (by simp [VO.opds, hy])
    have h2 := optK_ag (x := hi) fun y hy => H y (by simp [VO.opds, hy])
    funext k
    simp only [VO.ev, vSlS, h0, h1, h2]
  case slL x lo hi mx sz =>
    have h0 : evO x L T = evO x L' T' := H x (by simp [VO.opds])
    have h1 := optK_ag (x := lo) fun y hy => H y (by simp [VO.opds, hy])
    have h2 := optK_ag (x := hi) fun y hy => H y (by simp [VO.opds, hy])
    have h3 := optK_ag (x := mx) fun y hy => H y (by simp [VO.opds, hy])
    funext k
    simp only [VO.ev, vSlL, h0, h1, h2, h3]
  case slA x lo hi mx n sz =>
    have h0 : evO x L T = evO x L' T' := H x (by simp [VO.opds])
    have h1 := optK_ag (x := lo) fun y hy => H y (by simp [VO.opds, hy])
    have h2 := optK_ag (x := hi) fun y hy => H y (by simp [VO.opds, hy])
    have h3 := optK_ag (x := mx) fun y hy => H y (by simp [VO.opds, hy])
    funext k
    simp only [VO.ev, vSlA, h0, h1, h2, h3]
  all_goals
    simp only [VO.opds, List.forall_mem_cons, List.not_mem_nil, false_implies, implies_true, and_true, Ag] at H
    funext k
    simp only [VO.ev, vMv, vPick, vLd1, vLdn, vNck, vBin, vCmp, vSbin, vEqk, vEqa, vNot, vNeg, vCvi, vCbs, vMif, vFad, vFld, vIxL, vIxA, vIxS, vIxG, vLup, vTas, vExt, vLnS, vLnL, vLnM, vMn, vMx, vIbs, vCts, vEnt, vStr, H]

theorem NO.ag (no : NO) (H : ∀ x ∈ no.opds, Ag L T L' T' x) : no.ev L T = no.ev L' T' := by
  cases no
  case bsl z n sz ps =>
    have := buildK_ag H z
    funext k
    simp only [NO.ev, nBsl, this]
  case alloc => rfl
  case mkm => rfl
  all_goals
    simp only [NO.opds, List.forall_mem_cons, List.not_mem_nil, false_implies, implies_true, and_true, Ag] at H
    funext k
    simp only [NO.ev, nBox, nMks, nCsb, nRgS, H]

theorem SO.ag (so : SO) (h : Hp) (H : ∀ x ∈ so.opds, Ag L T L' T' x) : so.ev L T h = so.ev L' T' h := by
  cases so <;>
  · simp only [SO.opds, List.forall_mem_cons, List.not_mem_nil, false_implies, implies_true, and_true, Ag] at H
    funext k
    simp only [SO.ev, sSt1, sStn, sMup, sEst, H]

theorem XO.ag (xo : XO) (h : Hp) (H : ∀ x ∈ xo.opds, Ag L T L' T' x) : xo.ev L T h = xo.ev L' T' h := by
  cases xo <;>
  · simp only [XO.opds, List.forall_mem_cons, List.not_mem_nil, false_implies, implies_true, and_true, Ag] at H
    funext k
    simp only [XO.ev, xApp, xApps, xNxS, xMen, xRgM, xCpy, H]

theorem AOp.ask_ag (a : AOp) (h : Hp) (H : ∀ x ∈ a.opds, Ag L T L' T' x) : a.ask L T h = a.ask L' T' h := by
  cases a with
  | v d o => exact VO.ag o h H
  | grd g want d o =>
    have h1 : evO g L T = evO g L' T' := H g (by simp [AOp.opds])
    have h2 := AOp.ask_ag o h fun x hx => H x (by simp [AOp.opds, hx])
    funext k
    show evO g L T (fun v => v.onGrd (fun b => wantK b want (o.ask L T h k) (k (.tup []))) (k (.tup []))) = evO g L' T' (fun v => v.onGrd (fun b => wantK b want (o.ask L' T' h k) (k (.tup []))) (k (.tup [])))
    rw [h1, h2]
  | _ => rfl

end

/-! ### Memory that is not looked at -/

theorem VO.nx (vo : VO) (L : List AV) (T : VT) (tr : A2) (fz : List A2) (p q : Hi) : vo.ev L T ⟨tr, fz, p⟩ = vo.ev L T ⟨tr, fz, q⟩ := by cases vo <;> rfl
theorem AOp.ask_nx (a : AOp) (L : List AV) (T : VT) (tr : A2) (fz : List A2) (p q : Hi) : a.ask L T ⟨tr, fz, p⟩ = a.ask L T ⟨tr, fz, q⟩ := by
  cases a with
  | v d o => exact VO.nx o L T tr fz p q
  | grd g want d o =>
    have := AOp.ask_nx o L T tr fz p q
    funext k
    show evO g L T (fun v => v.onGrd (fun b => wantK b want (o.ask L T _ k) (k (.tup []))) (k (.tup []))) = evO g L T (fun v => v.onGrd (fun b => wantK b want (o.ask L T _ k) (k (.tup []))) (k (.tup [])))
    rw [this]
  | _ => rfl
theorem VO.pure_ev (vo : VO) (hp : vo.pure = true) (L : List AV) (T : VT) (h h' : Hp) : vo.ev L T h = vo.ev L T h' := by
  cases vo <;> first | rfl | (simp [VO.pure] at hp)
theorem AOp.ask_pure (a : AOp) (hr : a.reads = false) (L : List AV) (T : VT) (h h' : Hp) : a.ask L T h = a.ask L T h' := by
  cases a with
  | v d o => exact VO.pure_ev o (by simpa [AOp.reads] using hr) L T h h'
  | grd g want d o =>
    have := AOp.ask_pure o (by simpa [AOp.reads] using hr) L T h h'
    funext k
    show evO g L T (fun v => v.onGrd (fun b => wantK b want (o.ask L T h k) (k (.tup []))) (k (.tup []))) = evO g L T (fun v => v.onGrd (fun b => wantK b want (o.ask L T h' k) (k (.tup []))) (k (.tup [])))
    rw [this]
  | _ => rfl

/-! ### Values that are the same -/

theorem eqI_inj {m n : Int} (h : eqI m n = true) : m = n := by
  cases m <;> cases n
  · exact congrArg Int.ofNat (Nat.eq_of_beq_eq_true h)
  · cases h
  · cases h
  · exact congrArg Int.negSucc (Nat.eq_of_beq_eq_true h)
theorem eqS_inj {n v m w : Nat} (h : eqS n v m w = true) : n = m ∧ v = w := by
  unfold eqS at h
  cases h1 : Nat.beq n m with
  | false => rw [h1] at h; cases h
  | true => rw [h1] at h; exact ⟨Nat.eq_of_beq_eq_true h1, Nat.eq_of_beq_eq_true h⟩
theorem dgN_val' (d : Dg) : dgN d = d.val := by cases d <;> rfl
theorem eqD_inj {a b : Dg} (h : eqD a b = true) : a = b := by
  have := Nat.eq_of_beq_eq_true h
  rw [dgN_val', dgN_val'] at this
  exact Dg.val_inj this
theorem eqP_inj {p q : Hi} (h : eqP p q = true) : p = q := by
  cases p with | mk a b c => cases q with | mk d e f =>
  have h : (eqD c f && (eqD b e && eqD a d)) = true := h
  simp only [Bool.and_eq_true] at h
  rw [eqD_inj h.1, eqD_inj h.2.1, eqD_inj h.2.2]

mutual
theorem beqV_eq : ∀ {v w : AV}, beqV v w = true → v = w := fun {v w} h => by
  unfold beqV at h
  split at h <;> first | rfl | cases h | skip
  · simp only [beq_iff_eq] at h; rw [h]
  · simp only [Bool.and_eq_true] at h; rw [Nat.eq_of_beq_eq_true h.1, eqI_inj h.2]
  · obtain ⟨rfl, rfl⟩ := eqS_inj h; rfl
  · simp only [Bool.and_eq_true] at h; rw [eqP_inj h.1, Nat.eq_of_beq_eq_true h.2]
  · rename_i p i n c q j m d
    simp only [Bool.and_eq_true] at h
    have hc : c = d := by
      have := h.2
      cases c <;> cases d <;> first | rfl | cases this | skip
      exact congrArg some (Nat.eq_of_beq_eq_true this)
    rw [eqP_inj h.1.1.1, Nat.eq_of_beq_eq_true h.1.1.2, Nat.eq_of_beq_eq_true h.1.2, hc]
  · rw [eqP_inj h]
  · simp only [Bool.and_eq_true] at h; rw [eqP_inj h.1.1, beqL_eq h.1.2, beqL_eq h.2]
  · simp only [Bool.and_eq_true] at h; rw [Nat.eq_of_beq_eq_true h.1, beqV_eq h.2]
  · rw [beqL_eq h]
  · rw [beqL_eq h]
  · rw [Nat.eq_of_beq_eq_true h]
theorem beqL_eq : ∀ {l m : List AV}, beqL l m = true → l = m := fun {l m} h => by
  unfold beqL at h
  split at h
  · rfl
  · simp only [Bool.and_eq_true] at h; rw [beqV_eq h.1, beqL_eq h.2]
  · cases h
end

/-! ### What was asked is asked again -/

theorem nthS_inv : ∀ {j : Nat} {l : List Snap} {k : Snap → Res} {o : AOut} {h : Hp}, nthS j l k = .ok o h → ∃ s, l[j]? = some s ∧ k s = .ok o h
  | 0, [], _, _, _, e => by cases e
  | 0, v :: _, _, _, _, e => ⟨v, rfl, e⟩
  | _ + 1, [], _, _, _, e => by cases e
  | j + 1, _ :: r, _, _, _, e => nthS_inv (j := j) (l := r) e

/-- New blocks, laid. -/
def matH : List (Nat × Pend) → Hp → Hp
  | [], h => h
  | p :: r, h => matH r ⟨h.tr.put p.2.ob p.2.b, h.fz, h.nx⟩
theorem matK_eq : ∀ (ps : List (Nat × Pend)) (h : Hp) (k : Hp → Res), matK ps h k = k (matH ps h)
  | [], _, _ => rfl
  | p :: r, h, k => by
    show setK p.2.b p.2.ob h (fun h => matK r h k) = _
    rw [setK_eq]
    exact matK_eq r _ k
theorem matH_fz : ∀ (ps : List (Nat × Pend)) (h : Hp), (matH ps h).fz = h.fz ∧ (matH ps h).nx = h.nx
  | [], _ => ⟨rfl, rfl⟩
  | _ :: r, _ => matH_fz r _

theorem pickP_eq (mats : List Nat) (P : List (Nat × Pend)) : pickP mats P = P.filter fun p => mats.contains p.1 := by
  cases mats with
  | nil => symm; exact List.filter_eq_nil_iff.2 fun p _ => by simp
  | cons _ _ => rfl
theorem matH_nx : ∀ (ps : List (Nat × Pend)) (tr : A2) (fz : List A2) (p q : Hi), matH ps ⟨tr, fz, p⟩ = ⟨(matH ps ⟨tr, fz, q⟩).tr, fz, p⟩
  | [], _, _, _, _ => rfl
  | x :: r, tr, fz, p, q => matH_nx r (tr.put x.2.ob x.2.b) fz p q

theorem againK_inv : ∀ {js : List Nat} {P : List (Nat × Pend)} {S : List Snap} {h : Hp} {k : Res} {o : AOut} {h' : Hp}, (∀ s ∈ S, ∀ hq, Det (s.ask hq)) → againK js P S h k = .ok o h' → k = .ok o h' ∧ ∀ j ∈ js, ∀ s, S[j]? = some s → ∀ k, s.ask (matH (pickP s.mats P) h) k = k s.v
  | [], _, _, _, _, _, _, _, e => ⟨e, fun j hj => by cases hj⟩
  | j :: js, P, S, h, k, o, h', hd, e => by
    obtain ⟨s, hs, e1⟩ := nthS_inv (show nthS j S (fun s => matK (pickP s.mats P) h fun hq => s.ask hq fun v => ifK (beqV v s.v) (againK js P S h k) .bad) = .ok o h' from e)
    rw [matK_eq] at e1
    obtain ⟨v, hv, e2⟩ := (hd s (List.mem_of_getElem? hs) _).get e1
    obtain ⟨hb, e3⟩ := ifK_inv e2
    obtain ⟨e4, e5⟩ := againK_inv hd e3
    refine ⟨e4, fun i hi s' hs' => ?_⟩
    rcases List.mem_cons.1 hi with rfl | hi
    · rw [hs] at hs'; cases hs'; rw [← beqV_eq hb]; exact hv
    · exact e5 i hi s' hs'

theorem resK_inv {h : Hp} {k : Hi → Hp → Res} {o : AOut} {h' : Hp} (e : resK h k = .ok o h') : ∃ nx' : Hi, nx'.val = h.nx.val + 1 ∧ k h.nx ⟨h.tr, h.fz, nx'⟩ = .ok o h' := by
  cases h with | mk tr fz nx =>
  exact succK_inv (show succK nx (fun nx' => k nx ⟨tr, fz, nx'⟩) = .ok o h' from e)

end Go.Proofs.YtpngpoeifgkclaaGreatDoor.Am

