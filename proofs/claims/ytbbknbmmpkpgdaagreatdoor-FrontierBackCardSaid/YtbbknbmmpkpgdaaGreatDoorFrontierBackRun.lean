/- FrontierBack's call: whatever a frontier and bytes are given, it returns true and leaves all that was there as it was, if the three tables are laid as the program's text lays them. -/
import Derived.Test.YtbbknbmmpkpgdaaGreatDoorFrontierKnownRun
import Derived.Test.YtbbknbmmpkpgdaaGreatDoorFbLaw
namespace Go.Proofs.YtbbknbmmpkpgdaaGreatDoor.frontierBack
open KAb
theorem flat_of {r : CRes} (h : isTrue r = true) : isFlat (.bool true) r = true := by
  cases r with
  | ret v s => obtain rfl := isTrue_ok h; rfl
  | panic _ _ => cases h
  | fail _ => cases h
theorem cells_at {W : World} {b : Nat} {C : Array Value} {e : TypeId} {f : Nat × Nat} (h : W.heap[b]? = some (.cells C e f)) : cellsAtB W b = true := by
  unfold cellsAtB; rw [h]
theorem alive_at {W : World} {b : Nat} {C : Array Value} {e : TypeId} {f : Nat × Nat} (h : W.heap[b]? = some (.cells C e f)) : alive (mirror W) b = true := by
  unfold alive; rw [mirror_row h]
set_option maxRecDepth 100000 in
theorem runs4 {H : Type} {enc : TypeId × Value → H} {W : World} {v0 v1 : Value} {d0 d1 : DataW H} {p0 p1 : List MemPlace} {base : Nat} (h0 : DataW.Trod enc Tryz.prog W 0 (fun _ => true) true 38 v0 d0 p0) (h1 : DataW.Trod enc Tryz.prog W 0 (fun _ => true) true 31 v1 d1 p1)
    (k0 : Value.okWide Tryz.prog W .any base 38 v0) (k1 : Value.okWide Tryz.prog W .any base 31 v1) (hL : laidMetH Tryz.prog laid W) : Calls Tryz.prog 4 #[v0, v1] W fun e W' => e = .returned (.bool true) ∧ Old W W' := by
  obtain ⟨C0, C1, C2, e0, e1, e2, f0, f1, f2, x0, x1, x2, y0, y1, y2⟩ := tables hL
  have hg : ∀ g, g < nGlob → cellsAtB W g = true := by
    intro g hg
    have : g = 0 ∨ g = 1 ∨ g = 2 := by have : nGlob = 3 := rfl; omega
    rcases this with rfl | rfl | rfl
    · exact cells_at x0
    · exact cells_at x1
    · exact cells_at x2
  have hlt : 2 < W.heap.size := (Array.getElem?_eq_some_iff.1 x2).1
  have hT : Tabs (cells .u8 d32) (cells .u8 d64) (cells .u64 p10) e0 e1 e2 W := ⟨⟨C0, f0, x0, y0⟩, ⟨C1, f1, x1, y1⟩, ⟨C2, f2, x2, y2⟩, by decide, by decide, by decide⟩
  have hcf : CFS Tryz.prog (fun i => i < W.heap.size) W (stepCF Tryz.prog masks 1000000000 (cfB 1000000000 1000)) :=
    stepCF_ok good (draw_ok good) (withSum_ok (aCall_calls good 1000) rfl fun pend s m w us hR ha hok =>
      sum_calls (x := KAb.x3) (nx := 16) (lf := 100000) (n := 1000) (masks := masks) good (by decide) (flat_of (frontierKnown.runsTrue e0 e1 e2)) (hT.at (fun i hi => by show i < _; omega) hR) hR ha hok)
  obtain ⟨cs, rfl, _⟩ := WideShapes.okWide_struct Tryz.underlying38 k0
  obtain ⟨a, len, cap, rfl⟩ := WideShapes.okWide_slice Tryz.underlying31 k1
  obtain ⟨n0, t0⟩ := h0
  obtain ⟨n1, t1⟩ := h1
  obtain ⟨f, va, vb, vc, vs, hc, hFA⟩ := fd_reads (cells_at x0) t0
  obtain ⟨v, bs, hv, hI, hwf⟩ := slice_reads (t := 31) (e := 5) (k := .u8) Tryz.underlying31 Tryz.underlying5 (by kernel_rfl) (cells_at x0) t1
  have hv' : v = .slice a len cap := by
    have : [Value.slice a len cap] = [v] := hv
    exact (List.cons.inj this).1.symm
  subst hv'
  have hF : (mirror W).F := fun b hb => by
    rw [mirror_next] at hb
    rw [mirror_get, mirO]
    have : W.heap[b]? = none := by simp; omega
    rw [this]
  have hA : Alive (mirror W) := ⟨alive_at x0, alive_at x1, alive_at x2⟩
  have hb : Bytes bs := fun x hx => by have := bounds_u8 (hwf x hx); omega
  obtain ⟨x, s', hrun, rfl⟩ := (law4_ok (lf := 1000000000) (n := 1000) (by omega) (Nat.le_refl _) hFA hI hb hF hA).inv
  refine openCall (W := W) hg hcf (args := [.agg (f.cells va vb vc vs).toArray, abs1 W (.slice a len cap)]) ?_ hrun
  show [absV W (.agg cs), absV W (.slice a len cap)] = _
  have e : (cs.map (abs1 W)) = (f.cells va vb vc vs).toArray := by
    apply Array.toList_inj.1
    rw [Array.toList_map]
    exact hc
  show [Value.agg (cs.map (abs1 W)), abs1 W (.slice a len cap)] = _
  rw [e]
end Go.Proofs.YtbbknbmmpkpgdaaGreatDoor.frontierBack
