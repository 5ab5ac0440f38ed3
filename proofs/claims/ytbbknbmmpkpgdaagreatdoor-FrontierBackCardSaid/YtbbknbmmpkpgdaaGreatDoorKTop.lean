import Derived.Test.YtbbknbmmpkpgdaaGreatDoorKDraw7
import Derived.RowKit3
namespace Go.Proofs.YtbbknbmmpkpgdaaGreatDoor.KAb
/-- What was there before is as it was. -/
def Old (W W' : World) : Prop := W'.os = W.os ∧ W'.output = W.output ∧ W.heap.size ≤ W'.heap.size ∧ ∀ i, i < W.heap.size → W'.heap[i]? = W.heap[i]?
def isTrue (r : CRes) : Bool := match r with | .ret v _ => (match v with | .bool b => b | _ => false) | _ => false
theorem isTrue_ok {v : Value} {s : AS} (h : isTrue (.ret v s) = true) : v = .bool true := by
  cases v with
  | bool b => cases b with
    | true => rfl
    | false => cases h
  | _ => cases h
theorem le_of_all {a b : Nat} (h : ∀ i, i < a → i < b) : a ≤ b := Nat.le_of_not_lt fun hl => Nat.lt_irrefl _ (h b hl)
/-- The evaluator's memory at the begin: three package-level tables. -/
noncomputable def start (c0 c1 c2 : List Value) (e0 e1 e2 : TypeId) : AS := { heap := setU 3 (setU 2 (setU 1 .nil 0 (AObj.row c0 e0 true)) 1 (AObj.row c1 e1 true)) 2 (AObj.row c2 e2 true), next := 16 }
theorem start_get (c0 c1 c2 : List Value) (e0 e1 e2 : TypeId) (b : Nat) : (start c0 c1 c2 e0 e1 e2).get b = if b = 2 then some (AObj.row c2 e2 true) else if b = 1 then some (AObj.row c1 e1 true) else if b = 0 then some (AObj.row c0 e0 true) else none := by
  show getU (setU 3 (setU 2 (setU 1 .nil 0 (AObj.row c0 e0 true)) 1 (AObj.row c1 e1 true)) 2 (AObj.row c2 e2 true)) b = _
  rw [getU_setU _ _ _ _ (by omega), getU_setU _ _ _ _ (by omega), getU_setU _ _ _ _ (by omega), getU_nil]
section
variable {P : Program} {W : World}
theorem start_rel {c0 c1 c2 : List Value} {e0 e1 e2 : TypeId} {C0 C1 C2 : Array Value} {f0 f1 f2 : Nat × Nat} (h0 : W.heap[0]? = some (.cells C0 e0 f0)) (h1 : W.heap[1]? = some (.cells C1 e1 f1)) (h2 : W.heap[2]? = some (.cells C2 e2 f2))
    (k0 : C0.toList = c0) (k1 : C1.toList = c1) (k2 : C2.toList = c2) (q0 : c0.all flat1 = true) (q1 : c1.all flat1 = true) (q2 : c2.all flat1 = true) :
    ∃ m, Rel P (fun i => i < W.heap.size) W (fun _ => False) (start c0 c1 c2 e0 e1 e2) m W := by
  let m : Mp := fun b => if b = 2 then some (2, C2.size, P.cellsOf e2) else if b = 1 then some (1, C1.size, P.cellsOf e1) else if b = 0 then some (0, C0.size, P.cellsOf e0) else none
  have hlt : 2 < W.heap.size := (Array.getElem?_eq_some_iff.1 h2).1
  have hm : ∀ b c N z, m b = some (c, N, z) → b = c ∧ b < 3 := by
    intro b c N z h
    simp only [m] at h
    split at h
    · cases h; omega
    · split at h
      · cases h; omega
      · split at h
        · cases h; omega
        · cases h
  have lf : ∀ (c : List Value) dead, c.all flat1 = true → LRel m dead c c := fun c dead h => lrel_flat (fun v hv => List.all_eq_true.1 h v hv)
  refine ⟨m, ?_⟩
  constructor
  · intro b o h
    show b < 16
    rw [start_get] at h
    split at h
    · omega
    · split at h
      · omega
      · split at h
        · omega
        · cases h
  · intro b o h _
    rw [start_get] at h
    split at h
    · rename_i e; cases h; subst e
      exact ⟨2, C2, f2, rfl, h2, (fun h => by cases h), by rw [← k2, List.take_length, k2]; exact lf _ _ q2⟩
    · split at h
      · rename_i e; cases h; subst e
        exact ⟨1, C1, f1, rfl, h1, (fun h => by cases h), by rw [← k1, List.take_length, k1]; exact lf _ _ q1⟩
      · split at h
        · rename_i e; cases h; subst e
          exact ⟨0, C0, f0, rfl, h0, (fun h => by cases h), by rw [← k0, List.take_length, k0]; exact lf _ _ q0⟩
        · cases h
  · exact fun _ h => h.elim
  · exact fun _ h => h.elim
  · intro b c N z h
    obtain ⟨rfl, hb⟩ := hm b c N z h
    exact ⟨by show b < 16; omega, by omega⟩
  · intro b b' c N z N' z' h h' _ _
    rw [(hm b c N z h).1, (hm b' c N' z' h').1]
  · exact fun _ _ => rfl
  · exact fun _ h => h
  · rfl
  · rfl
  · intro g hg
    have : g = 0 ∨ g = 1 ∨ g = 2 := by have : nGlob = 3 := rfl; omega
    rcases this with rfl | rfl | rfl
    · exact ⟨_, _, rfl⟩
    · exact ⟨_, _, rfl⟩
    · exact ⟨_, _, rfl⟩
/-- WHAT THE EVALUATOR SAYS OF A CALL WITHOUT ARGUMENTS. -/
theorem closed (hG : Good P) {masks : Nat → Nat} {lf n : Nat} {f : FuncId} {c0 c1 c2 : List Value} {e0 e1 e2 : TypeId} {C0 C1 C2 : Array Value} {f0 f1 f2 : Nat × Nat} (h0 : W.heap[0]? = some (.cells C0 e0 f0)) (h1 : W.heap[1]? = some (.cells C1 e1 f1)) (h2 : W.heap[2]? = some (.cells C2 e2 f2))
    (k0 : C0.toList = c0) (k1 : C1.toList = c1) (k2 : C2.toList = c2) (q0 : c0.all flat1 = true) (q1 : c1.all flat1 = true) (q2 : c2.all flat1 = true) (h : isTrue ((aCall P masks lf n).call f [] (start c0 c1 c2 e0 e1 e2)) = true) :
    Calls P f #[] W fun e W' => e = .returned (.bool true) ∧ Old W W' := by
  obtain ⟨m, hR⟩ := start_rel (P := P) h0 h1 h2 k0 k1 k2 q0 q1 q2
  have hc := (aCall_calls (B := fun i => i < W.heap.size) (W0 := W) hG (masks := masks) (lf := lf) n).call (fun _ => False) _ m W f [] #[] hR .nil
  cases hr : (aCall P masks lf n).call f [] (start c0 c1 c2 e0 e1 e2) with
  | fail _ => rw [hr] at h; cases h
  | panic _ _ => rw [hr] at h; cases h
  | ret v s' =>
    rw [hr] at h hc
    have hv : v = .bool true := isTrue_ok h
    subst hv
    refine hc _ fun m' w' u hR' _ hu => ?_
    have := hu.bool_inv
    subst this
    exact ⟨rfl, hR'.os, hR'.out, le_of_all hR'.size, hR'.old⟩
end
end Go.Proofs.YtbbknbmmpkpgdaaGreatDoor.KAb
