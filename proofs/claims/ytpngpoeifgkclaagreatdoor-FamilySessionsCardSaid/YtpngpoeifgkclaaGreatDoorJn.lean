/- strings.Join, as the machine has it, by the shelf's contract. No condition. -/
import Derived.Test.YtpngpoeifgkclaaGreatDoorBase
import Derived.Shelf.Lay
import Derived.Shelf.Strings.OnBuilder
set_option maxRecDepth 100000
namespace Go.Proofs.YtpngpoeifgkclaaGreatDoor.Am

noncomputable def natO (n : Nat) (k : Nat → Option AV) : Option AV := Nat.rec (motive := fun _ => Option AV) none (fun m _ => k m) (Nat.succ n)
theorem natO_eq (n : Nat) (k : Nat → Option AV) : natO n k = k n := rfl

/-- The strings behind the first, each behind a separator. -/
noncomputable def joinR (sn sv : Nat) : List AV → Nat → Nat → Option AV
  | [], n, v => some (.str n v)
  | .str m u :: r, n, v => natO (n + (sn + m)) fun n' => natO (v + 256 ^ n * (sv + 256 ^ sn * u)) fun v' => joinR sn sv r n' v'
  | _ :: _, _, _ => none
noncomputable def joinF (sn sv : Nat) : List AV → Option AV
  | [] => some (.str 0 0)
  | .str m u :: r => joinR sn sv r m u
  | _ :: _ => none
/-- A string that is not too long. -/
noncomputable def joinS (len : Nat) : AV → Option AV
  | .str n v => cond (Nat.ble n 140737488355328 && Nat.ble len 140737488355328) (some (.str n v)) none
  | _ => none
noncomputable def joinC (sn sv len : Nat) (l : List AV) : Option AV := cond (Nat.beq l.length len) (Option.rec (motive := fun _ => Option AV) none (fun a => joinS len a) (joinF sn sv l)) none
noncomputable def joinB (sn sv o len : Nat) : AObj → Option AV
  | .cells _ sz _ c => cond (Nat.beq sz 1) (joinC sn sv len ((c.drop o).take len)) none
  | _ => none
noncomputable def joinA (h : Hp) (sn sv : Nat) : AV → Option AV
  | .nils => some (.str 0 0)
  | .slice b o len _ => joinB sn sv o len (h.at b)
  | _ => none
noncomputable def joinE (h : Hp) (x : AV) : AV → Option AV
  | .str sn sv => joinA h sn sv x
  | _ => none
noncomputable def joinG (h : Hp) : List AV → Option AV
  | [x, y] => joinE h x y
  | _ => none
end Go.Proofs.YtpngpoeifgkclaaGreatDoor.Am

namespace Go.Proofs.YtpngpoeifgkclaaGreatDoor.Am

theorem mk_size (l : List UInt8) : (⟨l.toArray⟩ : ByteArray).data.toList = l := by simp
theorem SR.of {l : List UInt8} {n v : Nat} (h1 : l.length = n) (h2 : codeOf l = v) : SR n v ⟨l.toArray⟩ := by
  unfold SR
  rw [mk_size]
  exact ⟨h1, h2⟩

theorem joinR_ok {sn sv : Nat} {sep : ByteArray} (hs : SR sn sv sep) : ∀ {r : List AV} {xs : List ByteArray}, r.length = xs.length → (∀ (i : Nat) a x, r[i]? = some a → xs[i]? = some x → ∀ n v, a = .str n v → SR n v x) →
    ∀ {n v : Nat} {l : List UInt8} {a : AV}, l.length = n → codeOf l = v → joinR sn sv r n v = some a → ∃ n' v', a = .str n' v' ∧ (l ++ Lib.joinTail sep.data.toList (xs.map (·.data.toList))).length = n' ∧ codeOf (l ++ Lib.joinTail sep.data.toList (xs.map (·.data.toList))) = v'
  | [], [], _, _, n, v, l, a, h1, h2, e => by
    simp only [joinR, Option.some.injEq] at e
    exact ⟨n, v, e.symm, by simpa [Lib.joinTail] using h1, by simpa [Lib.joinTail] using h2⟩
  | [], _ :: _, hl, _, _, _, _, _, _, _, _ => by simp at hl
  | _ :: _, [], hl, _, _, _, _, _, _, _, _ => by simp at hl
  | b :: r, x :: xs, hl, hx, n, v, l, a, h1, h2, e => by
    cases b with
    | str m u =>
      have e : joinR sn sv r (n + (sn + m)) (v + 256 ^ n * (sv + 256 ^ sn * u)) = some a := e
      have hxx : SR m u x := hx 0 _ x rfl rfl m u rfl
      have := joinR_ok hs (r := r) (xs := xs) (by simpa using hl) (fun i a x h3 h4 => hx (i + 1) a x (by simpa using h3) (by simpa using h4)) (l := l ++ (sep.data.toList ++ x.data.toList))
        (by rw [List.length_append, List.length_append, h1, hs.1, hxx.1]) (by rw [codeOf_append, codeOf_append, h1, h2, hs.1, hs.2, hxx.2]) e
      obtain ⟨n', v', g1, g2, g3⟩ := this
      refine ⟨n', v', g1, ?_, ?_⟩
      · rw [← g2]; simp [Lib.joinTail]
      · rw [← g3]; congr 1; simp [Lib.joinTail]
    | _ => cases e

/-- What the answer rests on. -/
theorem joinG_inv {h : Hp} {args : List AV} {v : AV} (e : joinG h args = some v) : (∃ m u, args = [.nils, .str m u] ∧ v = .str 0 0) ∨
    ∃ b o len cap sn sv g f c n u, args = [.slice b o len cap, .str sn sv] ∧ h.at b = .cells g 1 f c ∧ ((c.drop o).take len).length = len ∧ joinF sn sv ((c.drop o).take len) = some v ∧ v = .str n u ∧ n ≤ 140737488355328 ∧ len ≤ 140737488355328 := by
  match args, e with
  | [x, y], e =>
    have e : joinE h x y = some v := e
    cases y with
    | str sn sv =>
      have e : joinA h sn sv x = some v := e
      cases x with
      | nils =>
        have e : some (AV.str 0 0) = some v := e
        cases e
        exact .inl ⟨sn, sv, rfl, rfl⟩
      | slice b o len cap =>
        have e : joinB sn sv o len (h.at b) = some v := e
        cases hat : h.at b with
        | cells g sz f c =>
          rw [hat] at e
          have e : cond (Nat.beq sz 1) (joinC sn sv len ((c.drop o).take len)) none = some v := e
          cases hb : Nat.beq sz 1 with
          | false => rw [hb] at e; cases e
          | true =>
            rw [hb] at e
            have e2 : joinC sn sv len ((c.drop o).take len) = some v := e
            clear e
            have e := e2
            clear e2
            unfold joinC at e
            have hsz := Nat.eq_of_beq_eq_true hb
            cases hl : Nat.beq ((c.drop o).take len).length len with
            | false => rw [hl] at e; cases e
            | true =>
              rw [hl] at e
              cases hj : joinF sn sv ((c.drop o).take len) with
              | none => rw [hj] at e; cases e
              | some a =>
                rw [hj] at e
                have e : joinS len a = some v := e
                cases a with
                | str n u =>
                  have e : cond (Nat.ble n 140737488355328 && Nat.ble len 140737488355328) (some (AV.str n u)) none = some v := e
                  cases hc : (Nat.ble n 140737488355328 && Nat.ble len 140737488355328) with
                  | false => rw [hc] at e; cases e
                  | true =>
                    rw [hc] at e
                    cases e
                    simp only [Bool.and_eq_true] at hc
                    exact .inr ⟨b, o, len, cap, sn, sv, g, f, c, n, u, rfl, by rw [hat, hsz], Nat.eq_of_beq_eq_true hl, hj, rfl, Nat.le_of_ble_eq_true hc.1, Nat.le_of_ble_eq_true hc.2⟩
                | _ => cases e
        | _ => rw [hat] at e; cases e
      | _ => cases e
    | _ => cases e

/-- The strings of a row of cells. -/
theorem strs_of {ρ : Rho} {m : M} : ∀ {l : List AV} {ys : List Value}, l.length = ys.length → (∀ (i : Nat) a y, l[i]? = some a → ys[i]? = some y → VR ρ m a y) → (∀ (i : Nat) a, l[i]? = some a → ∃ n v, a = .str n v) →
    ∃ xs : List ByteArray, ys = xs.map Value.string ∧ xs.length = l.length ∧ ∀ (i : Nat) a x, l[i]? = some a → xs[i]? = some x → ∀ n v, a = .str n v → SR n v x
  | [], [], _, _, _ => ⟨[], rfl, rfl, fun i a x h => by simp at h⟩
  | [], _ :: _, h, _, _ => by simp at h
  | _ :: _, [], h, _, _ => by simp at h
  | a :: l, y :: ys, hl, hv, hs => by
    obtain ⟨n, v, rfl⟩ := hs 0 a rfl
    obtain ⟨s, rfl, hsr⟩ := hv 0 _ y rfl rfl
    obtain ⟨xs, h1, h2, h3⟩ := strs_of (l := l) (ys := ys) (by simpa using hl) (fun i a y h h' => hv (i + 1) a y (by simpa using h) (by simpa using h')) fun i a h => hs (i + 1) a (by simpa using h)
    refine ⟨s :: xs, by rw [h1]; rfl, by simp [h2], fun i a x ha hx n' v' hav => ?_⟩
    cases i with
    | zero =>
      simp only [List.getElem?_cons_zero, Option.some.injEq] at ha hx
      subst ha hx
      cases hav
      exact hsr
    | succ i => exact h3 i a x (by simpa using ha) (by simpa using hx) n' v' hav

/-- What is joined are strings. -/
theorem joinR_strs {sn sv : Nat} : ∀ {r : List AV} {n v : Nat} {a : AV}, joinR sn sv r n v = some a → ∀ (i : Nat) b, r[i]? = some b → ∃ m u, b = .str m u
  | [], _, _, _, _, i, b, h => by simp at h
  | c :: r, n, v, a, e, i, b, h => by
    cases c with
    | str m u =>
      have e : joinR sn sv r (n + (sn + m)) (v + 256 ^ n * (sv + 256 ^ sn * u)) = some a := e
      cases i with
      | zero => simp only [List.getElem?_cons_zero, Option.some.injEq] at h; exact ⟨m, u, h.symm⟩
      | succ i => exact joinR_strs e i b (by simpa using h)
    | _ => cases e
theorem joinF_strs {sn sv : Nat} {l : List AV} {a : AV} (e : joinF sn sv l = some a) (i : Nat) (b : AV) (h : l[i]? = some b) : ∃ m u, b = .str m u := by
  cases l with
  | nil => simp at h
  | cons c r =>
    cases c with
    | str m u =>
      cases i with
      | zero => simp only [List.getElem?_cons_zero, Option.some.injEq] at h; exact ⟨m, u, h.symm⟩
      | succ i => exact joinR_strs (show joinR sn sv r m u = some a from e) i b (by simpa using h)
    | _ => cases e
theorem joinF_ok {sn sv : Nat} {sep : ByteArray} (hs : SR sn sv sep) {l : List AV} {xs : List ByteArray} (hl : l.length = xs.length) (hx : ∀ (i : Nat) a x, l[i]? = some a → xs[i]? = some x → ∀ n v, a = .str n v → SR n v x) {n v : Nat} (e : joinF sn sv l = some (.str n v)) :
    SR n v ⟨(Lib.join (xs.map (·.data.toList)) sep.data.toList).toArray⟩ := by
  cases l with
  | nil =>
    cases xs with
    | nil =>
      have e : some (AV.str 0 0) = some (.str n v) := e
      cases e
      exact SR.of rfl rfl
    | cons _ _ => simp at hl
  | cons c r =>
    cases xs with
    | nil => simp at hl
    | cons x xs =>
      cases c with
      | str m u =>
        have h0 : SR m u x := hx 0 _ x rfl rfl m u rfl
        obtain ⟨n', v', g1, g2, g3⟩ := joinR_ok hs (r := r) (xs := xs) (by simpa using hl) (fun i a y h3 h4 => hx (i + 1) a y (by simpa using h3) (by simpa using h4)) h0.1 h0.2 (show joinR sn sv r m u = some (.str n v) from e)
        cases g1
        rw [List.map_cons, Lib.join_cons]
        exact SR.of g2 g3
      | _ => cases e
end Go.Proofs.YtpngpoeifgkclaaGreatDoor.Am

namespace Go.Proofs
open Go.Shelf
shelf_lay Lays.n156 Nm 156 at Tryz as Tryz.lays156
theorem Tryz.Builder_Extra_156 : Builder.Extra Tryz.prog Tryz.lays156_ren where
  sizeBuilder := by kernel_rfl
  liesBuilder := by kernel_rfl
  t5 := Tryz.underlying5
  a5 := Tryz.isAgg5
  z5 := Tryz.sizeOf5
  v5 := Tryz.zeroValue5
  infoByte := by kernel_rfl
  cellsByte := by kernel_rfl
  sizeByte := by kernel_rfl
  neB5 := by decide
end Go.Proofs
namespace Go.Proofs.YtpngpoeifgkclaaGreatDoor
open Go Am Go.RowKit

/-- strings.Join does what the machine says. -/
theorem join_calls (ρ : Rho) (m : M) (h : Hp) (w : World) (args : List AV) (vs : List Value) (v : AV) (hc : CellsR ρ m h w) (hv : VRL ρ m args vs) (e : joinG h args = some v) :
    Calls Tryz.prog 40 vs.toArray w fun e w' => (∃ u, e = .returned u ∧ VR ρ m v u) ∧ w'.os = w.os ∧ w'.tape = w.tape ∧ w'.output = w.output ∧ w.heap.size ≤ w'.heap.size ∧ ∀ b, b < w.heap.size → w'.heap[b]? = w.heap[b]? := by
  have none : ∀ (a : Option Addr) (c : Nat) (s : ByteArray), Calls Tryz.prog 40 #[.slice a 0 c, .string s] w fun e w' => (∃ u, e = .returned u ∧ VR ρ m (.str 0 0) u) ∧ w'.os = w.os ∧ w'.tape = w.tape ∧ w'.output = w.output ∧ w.heap.size ≤ w'.heap.size ∧ ∀ b, b < w.heap.size → w'.heap[b]? = w.heap[b]? := fun a c s =>
    (Any.strings_Join_none Tryz.lays156 Tryz.Builder_Extra_156 a c s w).mono fun e w' ⟨he, hw⟩ => by
      subst hw
      exact ⟨⟨_, he, _, rfl, rfl, rfl⟩, rfl, rfl, rfl, Nat.le_refl _, fun _ _ => rfl⟩
  rcases joinG_inv e with ⟨m0, u0, rfl, rfl⟩ | ⟨b, o, len, cap, sn, sv, g, f, c, n, u, rfl, hat, hl, hj, rfl, hn, hlen⟩
  · obtain ⟨v0, r0, rfl, h1, v1, r1, rfl, ⟨s, rfl, _⟩, h3⟩ := hv
    have h1 : v0 = .slice .none 0 0 := h1
    have h3 : r1 = [] := h3
    subst h1 h3
    exact none .none 0 s
  · obtain ⟨v0, r0, rfl, ⟨pl, a, c', hpl, rfl, hlc, ha, _⟩, v1, r1, rfl, ⟨s, rfl, hs⟩, h3⟩ := hv
    have h3 : r1 = [] := h3
    subst h3
    obtain ⟨pl', C, et, ft, hpl', hblk, hheap, hcell⟩ := hc b _ _ _ _ hat
    rw [hpl] at hpl'
    cases hpl'
    rcases Nat.eq_zero_or_pos len with rfl | hpos
    · have : n = 0 ∧ u = 0 := by
        rw [List.take_zero] at hj
        have hj : some (AV.str 0 0) = some (AV.str n u) := hj
        cases hj; exact ⟨rfl, rfl⟩
      rw [this.1, this.2]
      exact none (some a) c' s
    · obtain rfl := ha (by omega)
      have hat' : ∀ i, i < len → ∃ x, c[o + i]? = some x ∧ ((c.drop o).take len)[i]? = some x := fun i hi => by
        have hlt : i < ((c.drop o).take len).length := by rw [hl]; exact hi
        refine ⟨_, ?_, List.getElem?_eq_getElem hlt⟩
        rw [← List.getElem?_eq_getElem hlt, List.getElem?_take, if_pos hi, List.getElem?_drop]
      have hCs : pl.base + o + len ≤ C.size := by
        obtain ⟨x, h1, _⟩ := hat' (len - 1) (by omega)
        obtain ⟨y, h2, _⟩ := hcell _ _ h1
        have := (Array.getElem?_eq_some_iff.1 h2).1
        omega
      have hys : ∀ i, i < len → ((C.toList.drop (pl.base + o)).take len)[i]? = C[pl.base + (o + i)]? := fun i hi => by
        rw [List.getElem?_take, if_pos hi, List.getElem?_drop, Array.getElem?_toList]; congr 1; omega
      have hyl : ((C.toList.drop (pl.base + o)).take len).length = len := by
        rw [List.length_take, List.length_drop, Array.length_toList]; omega
      obtain ⟨xs, hx1, hx2, hx3⟩ := strs_of (ρ := ρ) (m := m) (l := (c.drop o).take len) (ys := (C.toList.drop (pl.base + o)).take len) (by rw [hl, hyl]) (fun i a y h1 h2 => by
          have hi : i < len := by rw [← hl]; exact (List.getElem?_eq_some_iff.1 h1).1
          obtain ⟨x, g1, g2⟩ := hat' i hi
          rw [g2] at h1
          cases h1
          obtain ⟨y', g3, g4⟩ := hcell _ _ g1
          rw [hys i hi, g3] at h2
          cases h2
          exact g4) (fun i a h1 => joinF_strs hj i a h1)
      rw [hl] at hx2
      have hSR := joinF_ok hs (l := (c.drop o).take len) (xs := xs) (by rw [hl, hx2]) hx3 hj
      have hJl : (Lib.join (xs.map (·.data.toList)) s.data.toList).length = n := by have := hSR.1; rwa [mk_size] at this
      have := Any.strings_Join Tryz.lays156 Tryz.Builder_Extra_156 pl.blk (pl.base + o) c' xs s w (fun j x hx => by
          have hjl : j < len := by rw [← hx2]; exact (List.getElem?_eq_some_iff.1 hx).1
          have h1 : ((C.toList.drop (pl.base + o)).take len)[j]? = some (.string x) := by rw [hx1, List.getElem?_map, hx]; rfl
          rw [hys j hjl] at h1
          simp only [World.cell?, hheap]
          rw [show pl.base + o + j = pl.base + (o + j) by omega]
          exact h1) hblk (by rw [hx2]; exact hlen) (by rw [hx2]; exact hlc) (by rw [hJl]; exact hn)
      rw [hx2] at this
      exact this.mono fun e w' ⟨he, hw⟩ => ⟨⟨_, he, _, rfl, hSR⟩, hw.os, hw.tape, hw.output, hw.size, hw.block⟩

end Go.Proofs.YtpngpoeifgkclaaGreatDoor
