import Derived.Test.YtbbknbmmpkpgdaaGreatDoorKLook3
import Derived.Lib.Strings
namespace Go.Proofs.YtbbknbmmpkpgdaaGreatDoor.KAb
section
variable {P : Program} {B : Nat → Prop} {W0 : World} {pend : Nat → Prop} {s : AS} {m : Mp} {w : World}

/-! Whole numbers. -/
theorem wrapF_eq (k : IntKind) (n : Int) : wrapF k n = k.wrap n := by
  unfold wrapF
  split
  · rename_i a
    simp only [bif', brec, Nat.ble_eq]
    split
    · rename_i h
      cases k <;> simp only [ikMax] at h <;> simp [IntKind.wrap, IntKind.bits, IntKind.signed] <;> omega
    · rfl
  · rfl
theorem addI_eq (a b : Int) : addI a b = a + b := by
  unfold addI
  split
  · split <;> rfl
  · rfl
theorem subI_eq (a b : Int) : subI a b = a - b := by
  cases a with
  | ofNat x => cases b with
    | ofNat y =>
      show @Bool.rec (fun _ => Int) _ _ (Nat.ble y x) = _
      simp only [brec, Nat.ble_eq]
      split
      · rename_i h
        show ((x - y : Nat) : Int) = (x : Int) - (y : Int)
        omega
      · rename_i h
        show Int.negSucc (y - x - 1) = (x : Int) - (y : Int)
        omega
    | negSucc y => rfl
  | negSucc x => rfl
theorem eqI_eq (a b : Int) : eqI a b = (a == b) := by
  rw [Bool.eq_iff_iff, beq_iff_eq]
  cases a with
  | ofNat x => cases b with
    | ofNat y =>
      show Nat.beq x y = true ↔ _
      rw [Nat.beq_eq]
      exact ⟨fun h => by rw [h], fun h => Int.ofNat.inj h⟩
    | negSucc y => constructor <;> intro h <;> cases h
  | negSucc x => cases b with
    | ofNat y => constructor <;> intro h <;> cases h
    | negSucc y =>
      show Nat.beq x y = true ↔ _
      rw [Nat.beq_eq]
      exact ⟨fun h => by rw [h], fun h => Int.negSucc.inj h⟩
theorem leI_eq (a b : Int) : leI a b = decide (a ≤ b) := by
  rw [Bool.eq_iff_iff, decide_eq_true_eq]
  cases a with
  | ofNat x => cases b with
    | ofNat y =>
      show Nat.ble x y = true ↔ (x : Int) ≤ (y : Int)
      rw [Nat.ble_eq]
      omega
    | negSucc y =>
      show false = true ↔ (x : Int) ≤ Int.negSucc y
      constructor
      · intro h; cases h
      · intro h; omega
  | negSucc x => cases b with
    | ofNat y =>
      show true = true ↔ Int.negSucc x ≤ (y : Int)
      constructor
      · intro _; omega
      · intro _; rfl
    | negSucc y =>
      show Nat.ble y x = true ↔ Int.negSucc x ≤ Int.negSucc y
      rw [Nat.ble_eq]
      omega
theorem ikN_inj {a b : IntKind} (h : Nat.beq (ikN a) (ikN b) = true) : a = b := by
  rw [Nat.beq_eq] at h
  cases a <;> cases b <;> first | rfl | (simp [ikN] at h)

theorem eqL8_eq (a b : List UInt8) : eqL8 a b = (a == b) := by
  induction a generalizing b with
  | nil => cases b <;> rfl
  | cons x a ih =>
    cases b with
    | nil => rfl
    | cons y b =>
      show @Bool.rec (fun _ => Bool) false (eqL8 a b) (Nat.beq x.toNat y.toNat) = _
      rw [brec, ih]
      by_cases h : x = y
      · subst h
        rw [if_pos (by rw [Nat.beq_eq])]
        simp
      · rw [if_neg (by rw [Nat.beq_eq]; exact fun e => h (UInt8.toNat_inj.1 e))]
        simp [h]

/-! Operators of two operands. -/
theorem guard_int (op : BinOp) (t : TypeId) (x y : Operand) (k l : IntKind) (a b : Int) (w : World) : (eqGuard op t x y (.int k a) (.int l b)).run P w = .ok () w := by
  cases op <;> rfl
theorem guard_str (op : BinOp) (t : TypeId) (x y : Operand) (a b : ByteArray) (w : World) : (eqGuard op t x y (.string a) (.string b)).run P w = .ok () w := by
  cases op <;> rfl
theorem intF_ok {op : BinOp} {k : IntKind} {a b : Int} {v : Value} (h : (binK op).int k a b = .v v) (t : TypeId) (w : World) : (binOp op t (.int k a) (.int k b)).run P w = .ok v w ∧ flat1 v = true := by
  cases op <;> simp only [binK, BR.v.injEq, reduceCtorEq] at h <;> subst h <;> refine ⟨?_, rfl⟩ <;>
    simp [binOp, Op.intArith, Op.intCmp, wrapF_eq, addI_eq, subI_eq, eqI_eq, leI_eq, notB_eq, bne]
  · rw [← decide_not]; congr 1; simp
  · rw [← decide_not]; congr 1; simp
theorem strF_ok {op : BinOp} {a b : ByteArray} {v : Value} (h : (binK op).str a b = .v v) (t : TypeId) (w : World) : (binOp op t (.string a) (.string b)).run P w = .ok v w ∧ flat1 v = true := by
  cases op <;> simp only [binK, BR.v.injEq, reduceCtorEq] at h <;> subst h <;> refine ⟨?_, rfl⟩ <;>
    simp [binOp, Op.stringOp, eqL8_eq, Lib.toList_data, notB_eq]
theorem fastF_ok {op : BinOp} {a b v : Value} (h : fastF (binK op) a b = .v v) (t : TypeId) (x y : Operand) (w : World) :
    (do eqGuard op t x y a b; binOp op t a b : Sem Value).run P w = .ok v w ∧ flat1 v = true ∧ flat1 a = true ∧ flat1 b = true := by
  unfold fastF at h
  split at h
  · rename_i k m
    split at h
    · rename_i l n
      simp only [bif', brec] at h
      split at h
      · rename_i hk
        have := ikN_inj hk
        subst this
        obtain ⟨h1, h2⟩ := intF_ok (P := P) h t w
        exact ⟨by simp only [Sem.run_bind, guard_int, Result.andThen_ok]; exact h1, h2, rfl, rfl⟩
      · cases h
    · cases h
  · rename_i p
    split at h
    · rename_i q
      obtain ⟨h1, h2⟩ := strF_ok (P := P) h t w
      exact ⟨by simp only [Sem.run_bind, guard_str, Result.andThen_ok]; exact h1, h2, rfl, rfl⟩
    · cases h
  · cases h
end
end Go.Proofs.YtbbknbmmpkpgdaaGreatDoor.KAb
