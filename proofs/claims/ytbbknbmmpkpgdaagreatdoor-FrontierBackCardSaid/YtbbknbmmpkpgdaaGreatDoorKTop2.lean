import Derived.Test.YtbbknbmmpkpgdaaGreatDoorKTop
namespace Go.Proofs.YtbbknbmmpkpgdaaGreatDoor.KAb
section
variable {P : Program} {W : World}
theorem lrel_poison {m : Mp} {dead : Nat → Prop} (us : List Value) : LRel m dead (mapK (fun _ => poison) us) us := by
  induction us with
  | nil => exact .nil
  | cons u us ih => exact .cons (.poison u) ih
/-- What the evaluator says of a call of whose arguments nothing is known. -/
theorem closedA (hG : Good P) {masks : Nat → Nat} {lf n : Nat} {f : FuncId} {us : Array Value} {c0 c1 c2 : List Value} {e0 e1 e2 : TypeId} {C0 C1 C2 : Array Value} {f0 f1 f2 : Nat × Nat} (h0 : W.heap[0]? = some (.cells C0 e0 f0)) (h1 : W.heap[1]? = some (.cells C1 e1 f1)) (h2 : W.heap[2]? = some (.cells C2 e2 f2))
    (k0 : C0.toList = c0) (k1 : C1.toList = c1) (k2 : C2.toList = c2) (q0 : c0.all flat1 = true) (q1 : c1.all flat1 = true) (q2 : c2.all flat1 = true) (h : isTrue ((aCall P masks lf n).call f (mapK (fun _ => poison) us.toList) (start c0 c1 c2 e0 e1 e2)) = true) :
    Calls P f us W fun e W' => e = .returned (.bool true) ∧ Old W W' := by
  obtain ⟨m, hR⟩ := start_rel (P := P) h0 h1 h2 k0 k1 k2 q0 q1 q2
  have hc := (aCall_calls (B := fun i => i < W.heap.size) (W0 := W) hG (masks := masks) (lf := lf) n).call (fun _ => False) _ m W f _ us hR (lrel_poison us.toList)
  cases hr : (aCall P masks lf n).call f (mapK (fun _ => poison) us.toList) (start c0 c1 c2 e0 e1 e2) with
  | fail _ => rw [hr] at h; cases h
  | panic _ _ => rw [hr] at h; cases h
  | ret v s' =>
    rw [hr] at h hc
    have hv : v = .bool true := isTrue_ok h
    subst hv
    refine hc _ fun m' w' u hR' _ hu => ?_
    have := hu.bool_inv
    subst this
    exact ⟨rfl, hR'.os, hR'.out, le_of_all hR'.size, hR'.old⟩
end
end Go.Proofs.YtbbknbmmpkpgdaaGreatDoor.KAb
