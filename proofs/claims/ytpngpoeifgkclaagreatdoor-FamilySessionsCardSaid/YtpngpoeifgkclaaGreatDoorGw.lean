/- What the rows' condition on the package variables gives the machine, and how a law that the machine answers with 'true' meets a row. No condition beyond the given rows'. -/
import Derived.Test.YtpngpoeifgkclaaGreatDoorRun
import Derived.Test.YtpngpoeifgkclaaGreatDoorRows
import Derived.ProofKit
import Derived.OpenShut
import Derived.LaidMore
import Derived.Lay
set_option maxRecDepth 100000
namespace Go.Proofs.YtpngpoeifgkclaaGreatDoor
open Go.ChangeShapes Go.WideShapes Go.ChangeAt Go.RowKit

theorem own : ownKnob Tryz.prog.godebug = none := by kernel_rfl

theorem heap_of_var {P : Program} {w : World} {n : String} {g : Nat} {cs : Array Value} (hg : P.globalNamed n = some g) (h : w.var? P n = some cs) : ∃ e f, w.heap[g]? = some (.cells cs e f) := by
  simp only [World.var?, hg, Option.bind_some] at h
  cases hh : w.heap[g]? with
  | none => rw [hh] at h; cases h
  | some o =>
    rw [hh] at h
    cases o with
    | cells c e f => cases h; exact ⟨e, f, rfl⟩
    | _ => cases h

/-- What the condition on the package variables gives the machine. -/
theorem gw_of {W : World} (h : laidMetH Tryz.prog Rows.familyListsRow.laid W) : GW W ∧ 8 ≤ W.heap.size := by
  rw [MakeChecks.laidMetH_plain _ _ _ (by kernel_rfl)] at h
  obtain ⟨ps, ⟨g0, t0, cs0, f0, p0, q0, _, _, _, _, ⟨g1, t1, cs1, f1, p1, q1, _, _, _, _, ⟨g2, t2, cs2, f2, p2, q2, hg2, ht2, hv2, hd2, ⟨g3, t3, cs3, f3, p3, q3, hg3, _, hv3, _, _, _⟩, _⟩, _⟩, _⟩, _, _⟩ := h
  obtain rfl := Option.some.inj ((show Tryz.prog.globalNamed "internal/strconv.uint64pow10" = some 3 by kernel_rfl).symm.trans hg2)
  obtain rfl := Option.some.inj ((show Tryz.prog.globalNamed "unicode/utf8.acceptRanges" = some 7 by kernel_rfl).symm.trans hg3)
  obtain rfl := Option.some.inj ((show (Tryz.prog.globals[3]?).map (·.type) = some 368 by kernel_rfl).symm.trans ht2)
  obtain ⟨e3, k3, h7⟩ := heap_of_var (show Tryz.prog.globalNamed "unicode/utf8.acceptRanges" = some 7 by kernel_rfl) hv3
  obtain ⟨e, f, h3⟩ := heap_of_var (show Tryz.prog.globalNamed "internal/strconv.uint64pow10" = some 3 by kernel_rfl) hv2
  obtain ⟨xs, m, _, ex, hcs, hl, hel⟩ := DataW.trod_array Tryz.underlying368 hd2
  have c1 : Tryz.prog.cellsOf 311 = 1 := by kernel_rfl
  have c20 : Tryz.prog.cellsOf 368 = 20 := by kernel_rfl
  rw [c20] at hcs
  have e3 : (xs.map (·.1)) = pow10L.map fun n => .lit (.int .u64 n) := (DataW.agg.inj (Prod.mk.inj ex).1).symm
  refine ⟨⟨cs2, e, f, h3, ?_⟩, ?_⟩
  · refine List.ext_getElem? fun i => ?_
    by_cases hi : i < 20
    · have hE := hel i hi
      rw [c1, Nat.mul_one, List.getElem?_eq_getElem (by omega)] at hE
      obtain ⟨z, e1, e2, _⟩ := DataW.trod_int Tryz.underlying311 hE
      have e4 : (xs.map (·.1))[i]? = (pow10L.map fun n => (DataW.lit (.int .u64 n) : DataW Unit))[i]? := by rw [e3]
      have hpl : pow10L.length = 20 := rfl
      rw [List.getElem?_map, List.getElem?_map, List.getElem?_eq_getElem (by omega : i < xs.length), List.getElem?_eq_getElem (by omega : i < pow10L.length), e2] at e4
      simp only [Option.map_some, Option.some.injEq, DataW.lit.injEq, Lit.int.injEq, true_and] at e4
      rw [List.getElem?_map, List.getElem?_eq_getElem (by omega : i < pow10L.length), ← e4]
      have h0 : ((cs2.toList.drop i).take 1)[0]? = some (.int .u64 z) := by rw [e1]; rfl
      simpa using h0
    · rw [List.getElem?_eq_none (by omega), List.getElem?_eq_none (by rw [List.length_map]; show 20 ≤ i; omega)]
  · have := (Array.getElem?_eq_some_iff.1 h7).1
    omega

/-- The old blocks are as they were. -/
theorem kept_of {W W' : World} (h1 : W'.os = W.os) (h2 : W'.output = W.output) (h : ∀ b, b < W.heap.size → W'.heap[b]? = W.heap[b]?) (may : MemPlace → Prop) : W.keptBut W' may := by
  refine ⟨h1, h2, fun i hi => ?_⟩
  rw [h i hi]
  have : ∃ o, W.heap[i]? = some o := ⟨_, Array.getElem?_eq_getElem hi⟩
  obtain ⟨o, ho⟩ := this
  rw [ho]
  cases o with
  | cells c t fr => exact ⟨rfl, rfl, rfl, fun _ _ => rfl⟩
  | map es k => exact .inr ⟨rfl, rfl⟩
  | _ => rfl

end Go.Proofs.YtpngpoeifgkclaaGreatDoor
