/- The reader of a frontier's bytes: what its functions answer. -/
import Derived.Test.YtbbknbmmpkpgdaaGreatDoorFbEq
set_option linter.unusedSimpArgs false
set_option linter.unusedVariables false
namespace Go.Proofs.YtbbknbmmpkpgdaaGreatDoor.KAb
/-! Numbers as shortest bytes: the arithmetic. -/
theorem wrap_u64 {z : Int} (h0 : 0 ≤ z) (h1 : z < 18446744073709551616) : IntKind.u64.wrap z = z := by
  simp only [IntKind.wrap, IntKind.bits, IntKind.signed, Bool.false_and, Bool.false_eq_true, if_false, show ((2 : Int) ^ 64) = 18446744073709551616 from rfl]
  omega
theorem wrap_u8 {z : Int} : IntKind.u8.wrap z = z % 256 := by
  simp only [IntKind.wrap, IntKind.bits, IntKind.signed, Bool.false_and, Bool.false_eq_true, if_false, show ((2 : Int) ^ 8) = 256 from rfl]
theorem and127 {c : Int} (h0 : 0 ≤ c) (h1 : c < 256) : IntKind.u8.wrap (BitVec.ofInt IntKind.u8.bits c &&& BitVec.ofInt IntKind.u8.bits 127).toNat = c % 128 := by
  obtain ⟨k, rfl⟩ := Int.eq_ofNat_of_zero_le h0
  have hk : k < 256 := by omega
  have : ∀ k : Fin 256, IntKind.u8.wrap (BitVec.ofInt IntKind.u8.bits ((k.val : Nat) : Int) &&& BitVec.ofInt IntKind.u8.bits 127).toNat = ((k.val : Nat) : Int) % 128 := by decide +kernel
  exact this ⟨k, hk⟩
theorem or128 {c : Int} (h0 : 0 ≤ c) (h1 : c < 128) : IntKind.u8.wrap (BitVec.ofInt IntKind.u8.bits c ||| BitVec.ofInt IntKind.u8.bits 128).toNat = c + 128 := by
  obtain ⟨k, rfl⟩ := Int.eq_ofNat_of_zero_le h0
  have hk : k < 128 := by omega
  have : ∀ k : Fin 128, IntKind.u8.wrap (BitVec.ofInt IntKind.u8.bits ((k.val : Nat) : Int) ||| BitVec.ofInt IntKind.u8.bits 128).toNat = ((k.val : Nat) : Int) + 128 := by decide +kernel
  exact this ⟨k, hk⟩
theorem or_shift {n m i : Nat} (hn : n < 2 ^ i) (hm : n + m * 2 ^ i < 18446744073709551616) : IntKind.u64.wrap (BitVec.ofInt IntKind.u64.bits (n : Int) ||| BitVec.ofInt IntKind.u64.bits ((m * 2 ^ i : Nat) : Int)).toNat = ((n + m * 2 ^ i : Nat) : Int) := by
  have e1 : (BitVec.ofInt IntKind.u64.bits (n : Int)).toNat = n := by
    show (BitVec.ofInt 64 (n : Int)).toNat = n
    rw [BitVec.ofInt_natCast, BitVec.toNat_ofNat]; omega
  have e2 : (BitVec.ofInt IntKind.u64.bits ((m * 2 ^ i : Nat) : Int)).toNat = m * 2 ^ i := by
    show (BitVec.ofInt 64 ((m * 2 ^ i : Nat) : Int)).toNat = m * 2 ^ i
    rw [BitVec.ofInt_natCast, BitVec.toNat_ofNat]; omega
  rw [BitVec.toNat_or, e1, e2]
  have h := Nat.two_pow_add_eq_or_of_lt hn m
  rw [Nat.or_comm, show m * 2 ^ i = 2 ^ i * m by rw [Nat.mul_comm], ← h]
  rw [wrap_u64 (by omega) (by rw [Nat.mul_comm] at hm; omega)]
  omega
/-- The number that begins some bytes; behind how many bytes it is. -/
def rsGo : List Int → Nat → Nat → Option (Nat × Nat)
  | [], _, _ => none
  | c :: r, i, n => if 9 < i ∨ (i = 9 ∧ 1 < c) then none else
    if c < 128 then (if c = 0 ∧ 0 < i then none else some (n + (c % 128).toNat * 2 ^ (7 * i), i + 1)) else rsGo r (i + 1) (n + (c % 128).toNat * 2 ^ (7 * i))
theorem shl_at {c : Int} {i : Nat} (h0 : 0 ≤ c) (h1 : c < 256) (hi : i ≤ 9) (h9 : i = 9 → c ≤ 1) : IntKind.u64.wrap (IntKind.u64.wrap (c % 128) * 2 ^ (min ((7 * (i : Int)).toNat) IntKind.u64.bits)) = (((c % 128).toNat * 2 ^ (7 * i) : Nat) : Int) := by
  have e : min ((7 * (i : Int)).toNat) IntKind.u64.bits = 7 * i := by
    show min ((7 * (i : Int)).toNat) 64 = 7 * i
    omega
  have hm : (0 : Int) ≤ c % 128 ∧ c % 128 < 128 := by omega
  rw [e, wrap_u64 hm.1 (by omega)]
  obtain ⟨k, hk⟩ := Int.eq_ofNat_of_zero_le hm.1
  rw [hk]
  have hk2 : k < 128 := by omega
  have hb : k * 2 ^ (7 * i) < 18446744073709551616 := by
    rcases Nat.lt_or_ge i 9 with h | h
    · have : 2 ^ (7 * i) ≤ 2 ^ 56 := Nat.pow_le_pow_right (by omega) (by omega)
      calc k * 2 ^ (7 * i) ≤ 127 * 2 ^ 56 := Nat.mul_le_mul (by omega) this
        _ < _ := by decide
    · have : i = 9 := by omega
      subst this
      have := h9 rfl
      have : k ≤ 1 := by omega
      calc k * 2 ^ (7 * 9) ≤ 1 * 2 ^ 63 := Nat.mul_le_mul this (Nat.le_refl _)
        _ < _ := by decide
  have e2 : (k : Int) * 2 ^ (7 * i) = ((k * 2 ^ (7 * i) : Nat) : Int) := by push_cast; rfl
  rw [e2, wrap_u64 (by omega) (by omega)]
  simp
theorem rs_bound {n : Nat} {c : Int} {i : Nat} (h0 : 0 ≤ c) (h1 : c < 256) (hi : i ≤ 9) (h9 : i = 9 → c ≤ 1) (hn : n < 2 ^ (7 * i)) : n + (c % 128).toNat * 2 ^ (7 * i) < 18446744073709551616 ∧ (i < 9 → n + (c % 128).toNat * 2 ^ (7 * i) < 2 ^ (7 * (i + 1))) := by
  have hm : (c % 128).toNat ≤ 127 := by omega
  have hle : ∀ m, (c % 128).toNat ≤ m → n + (c % 128).toNat * 2 ^ (7 * i) < (m + 1) * 2 ^ (7 * i) := by
    intro m h
    have := Nat.mul_le_mul_right (2 ^ (7 * i)) h
    rw [Nat.add_mul]; omega
  refine ⟨?_, fun h => ?_⟩
  · rcases Nat.lt_or_ge i 9 with h | h
    · have h2 := hle 127 hm
      have : 2 ^ (7 * i) ≤ 2 ^ 56 := Nat.pow_le_pow_right (by omega) (by omega)
      have h3 : (127 + 1) * 2 ^ (7 * i) ≤ 128 * 2 ^ 56 := Nat.mul_le_mul_left _ this
      have h4 : 128 * 2 ^ 56 < 18446744073709551616 := by decide
      omega
    · have : i = 9 := by omega
      subst this
      have h5 := h9 rfl
      have h2 := hle 1 (by omega)
      have h4 : (1 + 1) * 2 ^ (7 * 9) = 18446744073709551616 := by decide
      omega
  · have h2 := hle 127 hm
    have : 2 ^ (7 * (i + 1)) = (127 + 1) * 2 ^ (7 * i) := by rw [Nat.mul_add, Nat.pow_add, Nat.mul_comm]
    omega
end Go.Proofs.YtbbknbmmpkpgdaaGreatDoor.KAb
namespace Go.Proofs.YtbbknbmmpkpgdaaGreatDoor.KAb
/-- A slice of numbers. -/
def Ints (s : AS) (k : IntKind) (v : Value) (xs : List Int) : Prop := (v = .slice none 0 0 ∧ xs = []) ∨
  ∃ b off c cs el ro, v = .slice (some ⟨b, off, none⟩) xs.length c ∧ xs.length ≤ half c ∧ s.get b = some (.row cs el ro) ∧ (exactB c = false → Pz.cellsOf el = 1) ∧ ∀ i (h : i < xs.length), cs[off + i]? = some (.int k xs[i])
theorem Ints.nil {s : AS} {k : IntKind} : Ints s k (.slice none 0 0) [] := .inl ⟨rfl, rfl⟩
theorem Ints.load {s : AS} {k : IntKind} {v : Value} {xs : List Int} (h : Ints s k v xs) {i : Nat} (hi : i < xs.length) {j : Int} (hj : j = i) {kk : IntKind} :
    ∃ a, indexAddrS 1 v (.int kk j) = .ok a ∧ load1 a s = .ok (.int k xs[i]) := by
  rcases h with ⟨_, rfl⟩ | ⟨b, off, c, cs, el, ro, rfl, _, hg, _, hc⟩
  · cases hi
  · subst hj
    exact ⟨_, indexAddr_s (by omega) (by omega), by rw [Int.toNat_natCast, Nat.mul_one]; exact load1_of hg (hc i hi)⟩
theorem Ints.len {s : AS} {k : IntKind} {v : Value} {xs : List Int} (h : Ints s k v xs) : doLen .slice v s = .ok (.int .i64 (xs.length : Int)) := by
  rcases h with ⟨rfl, rfl⟩ | ⟨b, off, c, cs, el, ro, rfl, _⟩ <;> rfl
/-- What is not written stays. -/
theorem Ints.keep {s s' : AS} {k : IntKind} {v : Value} {xs : List Int} (h : Ints s k v xs) (hk : ∀ b off n c, v = .slice (some ⟨b, off, none⟩) n c → s'.get b = s.get b) : Ints s' k v xs := by
  rcases h with ⟨h1, h2⟩ | ⟨b, off, c, cs, el, ro, h1, h2, h3, h4⟩
  · exact .inl ⟨h1, h2⟩
  · exact .inr ⟨b, off, c, cs, el, ro, h1, h2, (hk b off _ c h1).trans h3, h4⟩
theorem Ints.slice {s : AS} {k : IntKind} {v : Value} {xs : List Int} (h : Ints s k v xs) (lo hi : Option Value) (l n : Nat) (hlo : onat lo = some (if l = 0 then none else some l) ∨ onat lo = some (some l)) (hhi : onat hi = some (some n) ∨ (onat hi = some none ∧ n = xs.length)) (h1 : l ≤ n) (h2 : n ≤ xs.length) :
    ∃ v', doSlice Pz (.slice 1) v lo hi none s = .ok v' ∧ Ints s k v' ((xs.take n).drop l) ∧ ∀ b off n c, v' = .slice (some ⟨b, off, none⟩) n c → ∃ off' n' c', v = .slice (some ⟨b, off', none⟩) n' c' := by
  have e1 : ∃ o, onat lo = some o ∧ getD' o 0 = l := by
    rcases hlo with h | h
    · refine ⟨_, h, ?_⟩
      split
      · rename_i e; rw [e]; rfl
      · rfl
    · exact ⟨_, h, rfl⟩
  have e2 : ∃ o, onat hi = some o ∧ getD' o xs.length = n := by
    rcases hhi with h | ⟨h, rfl⟩
    · exact ⟨_, h, rfl⟩
    · exact ⟨_, h, rfl⟩
  obtain ⟨ol, el1, el2⟩ := e1
  obtain ⟨oh, eh1, eh2⟩ := e2
  have hlen : ((xs.take n).drop l).length = n - l := by simp; omega
  have key : ∀ a c, xs.length ≤ half c → v = .slice a xs.length c → doSlice Pz (.slice 1) v lo hi none s = sliceA Pz s (exactB c) (half c) n l 1 a := by
    intro a c hc hv
    subst hv
    have : onat none = some none := rfl
    have e3 : getD' (none : Option Nat) (half c) = half c := rfl
    have e4 : isN (none : Option Nat) = true := rfl
    simp only [doSlice, el1, eh1, this, sliceV, e4, bif_eq, if_true, sliceB, el2, eh2, e3]
    rw [if_pos (by rw [Nat.ble_eq]; exact h1), if_pos (by rw [Nat.ble_eq]; omega), if_pos (by rw [Nat.ble_eq]; exact Nat.le_refl _)]
  rcases h with ⟨hv, rfl⟩ | ⟨b, off, c, cs, el, ro, hv, hc, hg, hel, hx⟩
  · refine ⟨_, key none 0 (Nat.zero_le _) hv, ?_⟩
    have : n = 0 := by simpa using h2
    subst this
    have : l = 0 := by omega
    subst this
    exact ⟨.inl ⟨rfl, rfl⟩, fun _ _ _ _ h => by cases h⟩
  · rw [key _ c hc hv]
    have hx' : ∀ i (h : i < ((xs.take n).drop l).length), cs[off + l + i]? = some (.int k ((xs.take n).drop l)[i]) := by
      intro i h
      have h' : l + i < xs.length := by rw [hlen] at h; omega
      have := hx (l + i) h'
      rw [show off + l + i = off + (l + i) by omega, this]
      simp
    simp only [sliceA, bif_eq]
    cases hex : exactB c with
    | true =>
      simp only [if_true]
      refine ⟨.slice (some ⟨b, (if Nat.beq (half c) l = true then off else Nat.add off (Nat.mul l 1)), none⟩) (n - l) (2 * (half c - l)), rfl, ?_, fun _ _ _ _ h => by cases h; exact ⟨_, _, _, hv⟩⟩
      refine .inr ⟨b, _, 2 * (half c - l), cs, el, ro, by rw [hlen], ?_, hg, (fun h => by rw [exact2] at h; cases h), ?_⟩
      · rw [hlen, half2]; omega
      · intro i h
        split
        · rename_i e
          rw [Nat.beq_eq] at e
          rw [hlen] at h; omega
        · show cs[off + Nat.mul l 1 + i]? = _
          rw [show Nat.mul l 1 = l from Nat.mul_one l]
          exact hx' i h
    | false =>
      have hchk : sliceChk Pz s 1 b l = true := by
        unfold sliceChk
        rw [bif_eq]
        split
        · rfl
        · simp only [hg]
          rw [hel hex]; rfl
      simp only [Bool.false_eq_true, if_false, hchk, if_true]
      refine ⟨.slice (some ⟨b, Nat.add off (Nat.mul l 1), none⟩) (n - l) (2 * (half c - l) + 1), rfl, ?_, fun _ _ _ _ h => by cases h; exact ⟨_, _, _, hv⟩⟩
      refine .inr ⟨b, _, 2 * (half c - l) + 1, cs, el, ro, by rw [hlen], ?_, hg, fun _ => hel hex, ?_⟩
      · rw [hlen, half21]; omega
      · intro i h
        show cs[off + Nat.mul l 1 + i]? = _
        rw [show Nat.mul l 1 = l from Nat.mul_one l]
        exact hx' i h
theorem wrap_succ {i n : Nat} (h : i < n) (hn : n < 1000000000) : IntKind.i64.wrap ((i : Int) + 1) = ((i + 1 : Nat) : Int) := by
  rw [wrap64_in (by omega) (by omega)]; omega
def allB (lo hi : Int) (xs : List Int) : Bool := xs.all fun x => decide (lo ≤ x) && decide (x ≤ hi)
theorem allB_cons (lo hi x : Int) (xs : List Int) : allB lo hi (x :: xs) = ((decide (lo ≤ x) && decide (x ≤ hi)) && allB lo hi xs) := rfl
theorem res102 {v l : L} {s : AS} : resOf Pz 3911 Go.Proofs.Tryz.f102 v l s = .ret (lkL 6 v poison) s := res1 (by kernel_rfl) (by kernel_rfl)
set_option maxRecDepth 100000 in
theorem all_ok {lf : Nat} {cf : CF} {s : AS} {v0 : Value} {xs : List Int} {lo hi : Int} (hv : Ints s .i64 v0 xs) (hlen : xs.length < 1000000000) (hlf : 1000000000 ≤ lf) :
    ((fnK Pz masks lf 102).run cf [v0, .int .i64 lo, .int .i64 hi] s).P fun x s' => x = .bool (allB lo hi xs) ∧ s' = s := by
  rewrite [fn102 lf cf s, c102]
  refine P_after ?_
  simp only [bV_ok, bC_ret, bA_val, bA_enter, bDC_ret, bDA_val, bDA_enter, guard_b, guard_undef, seq_normal, seq_exit, seq_ret, seq_panic, cond_b, block_normal, block_exit, block_ret, block_panic, lkL_cons, lkL_setL, Nat.reduceEqDiff, if_true, if_false, decide_true, decide_false, Bool.true_eq_false, Bool.false_eq_true, bin_add, bin_sub, bin_mul, bin_and, bin_or, bin_eql, bin_neq, bin_lss, bin_leq, bin_gtr, bin_geq, un_not, pick_b, len_slice, nilc, fieldA, conv_int, P_normal, P_ret, P_exit, ne_eq, not_true_eq_false, not_false_eq_true, Bool.not_true, Bool.not_false, true_and, and_true, q102_0_0, q102_0_1, q102_1_0, q102_1_1, q102_1_2, q102_1_3, q102_2_0, q102_2_1, q102_3_0, q102_3_3, q102_4_0, q102_4_4, q102_4_5, q102_4_6, q102_4_7, q102_4_8, q102_5_0, q102_5_1, q102_6_0, q102_6_2, q102_8_0, q102_8_1, hv.len]
  refine P_seq (P_block (P_iter (fun k v ds s' => ∃ i, i + k = xs.length ∧ lkL 9 v poison = v0 ∧ lkL 10 v poison = .int .i64 xs.length ∧ lkL 11 v poison = .int .i64 i ∧ lkL 1 v poison = .int .i64 lo ∧ lkL 2 v poison = .int .i64 hi ∧ ds = [] ∧ s' = s ∧ allB lo hi xs = allB lo hi (xs.drop i)) ?_ _ xs.length _ _ _ _ (by omega) ⟨0, by simp [lkL_setL, lkL_cons]⟩))
  rintro k v l ds s' ⟨i, hk, h9, h10, h11, h1, h2, rfl, rfl, hall⟩
  rewrite [l102_7]
  by_cases hi' : i < xs.length
  · obtain ⟨a, ha1, ha2⟩ := hv.load hi' rfl (kk := .i64)
    have hlt : ((i : Int) < xs.length) := by omega
    have hd : xs.drop i = xs[i] :: xs.drop (i + 1) := List.drop_eq_getElem_cons hi'
    have hw := wrap_succ hi' hlen
    rewrite [hd] at hall
    by_cases hlo : xs[i] < lo
    · simp only [bV_ok, bC_ret, bA_val, bA_enter, bDC_ret, bDA_val, bDA_enter, guard_b, guard_undef, seq_normal, seq_exit, seq_ret, seq_panic, cond_b, block_normal, block_exit, block_ret, block_panic, lkL_cons, lkL_setL, Nat.reduceEqDiff, if_true, if_false, decide_true, decide_false, Bool.true_eq_false, Bool.false_eq_true, bin_add, bin_sub, bin_mul, bin_and, bin_or, bin_eql, bin_neq, bin_lss, bin_leq, bin_gtr, bin_geq, un_not, pick_b, len_slice, nilc, fieldA, conv_int, P_normal, P_ret, P_exit, ne_eq, not_true_eq_false, not_false_eq_true, Bool.not_true, Bool.not_false, true_and, and_true, q102_0_0, q102_0_1, q102_1_0, q102_1_1, q102_1_2, q102_1_3, q102_2_0, q102_2_1, q102_3_0, q102_3_3, q102_4_0, q102_4_4, q102_4_5, q102_4_6, q102_4_7, q102_4_8, q102_5_0, q102_5_1, q102_6_0, q102_6_2, q102_8_0, q102_8_1, h11, h10, h9, h1, h2, hlt, ha1, ha2, hlo, res102]
      have hn : ¬ lo ≤ xs[i] := by omega
      exact fun _ => ⟨by rw [hall, allB_cons]; simp only [hn, decide_false, Bool.false_and, Bool.and_false], rfl⟩
    · by_cases hhi : hi < xs[i]
      · simp only [bV_ok, bC_ret, bA_val, bA_enter, bDC_ret, bDA_val, bDA_enter, guard_b, guard_undef, seq_normal, seq_exit, seq_ret, seq_panic, cond_b, block_normal, block_exit, block_ret, block_panic, lkL_cons, lkL_setL, Nat.reduceEqDiff, if_true, if_false, decide_true, decide_false, Bool.true_eq_false, Bool.false_eq_true, bin_add, bin_sub, bin_mul, bin_and, bin_or, bin_eql, bin_neq, bin_lss, bin_leq, bin_gtr, bin_geq, un_not, pick_b, len_slice, nilc, fieldA, conv_int, P_normal, P_ret, P_exit, ne_eq, not_true_eq_false, not_false_eq_true, Bool.not_true, Bool.not_false, true_and, and_true, q102_0_0, q102_0_1, q102_1_0, q102_1_1, q102_1_2, q102_1_3, q102_2_0, q102_2_1, q102_3_0, q102_3_3, q102_4_0, q102_4_4, q102_4_5, q102_4_6, q102_4_7, q102_4_8, q102_5_0, q102_5_1, q102_6_0, q102_6_2, q102_8_0, q102_8_1, h11, h10, h9, h1, h2, hlt, ha1, ha2, hlo, hhi, res102]
        have hn : ¬ xs[i] ≤ hi := by omega
        exact fun _ => ⟨by rw [hall, allB_cons]; simp only [hn, decide_false, Bool.false_and, Bool.and_false], rfl⟩
      · simp only [bV_ok, bC_ret, bA_val, bA_enter, bDC_ret, bDA_val, bDA_enter, guard_b, guard_undef, seq_normal, seq_exit, seq_ret, seq_panic, cond_b, block_normal, block_exit, block_ret, block_panic, lkL_cons, lkL_setL, Nat.reduceEqDiff, if_true, if_false, decide_true, decide_false, Bool.true_eq_false, Bool.false_eq_true, bin_add, bin_sub, bin_mul, bin_and, bin_or, bin_eql, bin_neq, bin_lss, bin_leq, bin_gtr, bin_geq, un_not, pick_b, len_slice, nilc, fieldA, conv_int, P_normal, P_ret, P_exit, ne_eq, not_true_eq_false, not_false_eq_true, Bool.not_true, Bool.not_false, true_and, and_true, q102_0_0, q102_0_1, q102_1_0, q102_1_1, q102_1_2, q102_1_3, q102_2_0, q102_2_1, q102_3_0, q102_3_3, q102_4_0, q102_4_4, q102_4_5, q102_4_6, q102_4_7, q102_4_8, q102_5_0, q102_5_1, q102_6_0, q102_6_2, q102_8_0, q102_8_1, h11, h10, h9, h1, h2, hlt, ha1, ha2, hlo, hhi, hw]
        exact ⟨k - 1, by omega, i + 1, by omega, rfl, by
          have h3 : lo ≤ xs[i] := by omega
          have h4 : xs[i] ≤ hi := by omega
          rw [hall, allB_cons]; simp only [h3, h4, decide_true, Bool.true_and]⟩
  · have hlt : ¬ ((i : Int) < xs.length) := by omega
    rw [List.drop_of_length_le (by omega)] at hall
    simp only [bV_ok, bC_ret, bA_val, bA_enter, bDC_ret, bDA_val, bDA_enter, guard_b, guard_undef, seq_normal, seq_exit, seq_ret, seq_panic, cond_b, block_normal, block_exit, block_ret, block_panic, lkL_cons, lkL_setL, Nat.reduceEqDiff, if_true, if_false, decide_true, decide_false, Bool.true_eq_false, Bool.false_eq_true, bin_add, bin_sub, bin_mul, bin_and, bin_or, bin_eql, bin_neq, bin_lss, bin_leq, bin_gtr, bin_geq, un_not, pick_b, len_slice, nilc, fieldA, conv_int, P_normal, P_ret, P_exit, ne_eq, not_true_eq_false, not_false_eq_true, Bool.not_true, Bool.not_false, true_and, and_true, q102_0_0, q102_0_1, q102_1_0, q102_1_1, q102_1_2, q102_1_3, q102_2_0, q102_2_1, q102_3_0, q102_3_3, q102_4_0, q102_4_4, q102_4_5, q102_4_6, q102_4_7, q102_4_8, q102_5_0, q102_5_1, q102_6_0, q102_6_2, q102_8_0, q102_8_1, h11, h10, hlt, res102]
    exact fun _ _ => ⟨by rw [hall]; rfl, rfl⟩
end Go.Proofs.YtbbknbmmpkpgdaaGreatDoor.KAb
namespace Go.Proofs.YtbbknbmmpkpgdaaGreatDoor.KAb
def Bytes (xs : List Int) : Prop := ∀ x ∈ xs, 0 ≤ x ∧ x < 256
def rsV (o : Option (Nat × Nat)) : Value := match o with
  | some (n, u) => .tuple #[.int .u64 (n : Int), .int .i64 (u : Int), .int .i64 0]
  | none => .tuple #[.int .u64 0, .int .i64 0, .int .i64 4]
theorem res103 {v l : L} {s : AS} : resOf Pz 2045 Go.Proofs.Tryz.f103 v l s = .ret (.tuple #[lkL 2 v poison, lkL 3 v poison, lkL 4 v poison]) s := res3 (by kernel_rfl) (by kernel_rfl) (by kernel_rfl) (by kernel_rfl)
set_option maxRecDepth 100000 in
theorem readShort_ok {lf : Nat} {cf : CF} {s : AS} {v0 : Value} {xs : List Int} (hv : Ints s .u8 v0 xs) (hb : Bytes xs) (hlen : xs.length < 1000000000) (hlf : 1000000000 ≤ lf) :
    ((fnK Pz masks lf 103).run cf [v0] s).P fun x s' => x = rsV (rsGo xs 0 0) ∧ s' = s := by
  rewrite [fn103 lf cf s, c103]
  refine P_after ?_
  simp only [bV_ok, bC_ret, bA_val, bA_enter, bDC_ret, bDA_val, bDA_enter, guard_b, guard_undef, seq_normal, seq_exit, seq_ret, seq_panic, cond_b, block_normal, block_exit, block_ret, block_panic, lkL_cons, lkL_setL, Nat.reduceEqDiff, if_true, if_false, decide_true, decide_false, Bool.true_eq_false, Bool.false_eq_true, bin_add, bin_sub, bin_mul, bin_and, bin_or, bin_eql, bin_neq, bin_lss, bin_leq, bin_gtr, bin_geq, un_not, pick_b, len_slice, nilc, fieldA, conv_int, P_normal, P_ret, P_exit, ne_eq, not_true_eq_false, not_false_eq_true, Bool.not_true, Bool.not_false, true_and, and_true, q103_0_0, q103_0_1, q103_0_2, q103_0_3, q103_1_0, q103_1_1, q103_2_0, q103_2_1, q103_2_2, q103_2_3, q103_3_0, q103_3_1, q103_4_0, q103_4_4, q103_4_5, q103_5_0, q103_5_3, q103_5_4, q103_5_5, q103_5_6, q103_5_7, q103_5_8, q103_5_9, q103_5_10, q103_6_0, q103_6_9, q103_7_0, q103_7_2, q103_8_0, q103_8_3, q103_8_4, q103_8_5, q103_8_6, q103_9_0, q103_9_4, q103_9_5, q103_9_6, q103_10_0, q103_10_2, q103_12_0, q103_12_1, q103_12_2, q103_12_3, hv.len]
  refine P_seq (P_block (P_iter (fun k v ds s' => ∃ i n, i + k = xs.length ∧ lkL 8 v poison = v0 ∧ lkL 9 v poison = .int .i64 xs.length ∧ lkL 10 v poison = .int .i64 i ∧ lkL 5 v poison = .int .u64 (n : Nat) ∧ ds = [] ∧ s' = s ∧ (i ≤ 9 → n < 2 ^ (7 * i)) ∧ rsGo xs 0 0 = rsGo (xs.drop i) i n) ?_ _ xs.length _ _ _ _ (by omega) ⟨0, 0, by simp [lkL_setL, lkL_cons]⟩))
  rintro k v l ds s' ⟨i, n, hk, h8, h9, h10, h5, rfl, rfl, hn, hall⟩
  rewrite [l103_11]
  by_cases hi' : i < xs.length
  · obtain ⟨a, ha1, ha2⟩ := hv.load hi' rfl (kk := .i64)
    obtain ⟨c0, c1⟩ := hb _ (List.getElem_mem hi')
    have hlt : ((i : Int) < xs.length) := by omega
    have hd : xs.drop i = xs[i] :: xs.drop (i + 1) := List.drop_eq_getElem_cons hi'
    have hw := wrap_succ hi' hlen
    rewrite [hd] at hall
    generalize xs[i] = c at *
    by_cases h9a : (9 : Int) < i
    · simp only [bV_ok, bC_ret, bA_val, bA_enter, bDC_ret, bDA_val, bDA_enter, guard_b, guard_undef, seq_normal, seq_exit, seq_ret, seq_panic, cond_b, block_normal, block_exit, block_ret, block_panic, lkL_cons, lkL_setL, Nat.reduceEqDiff, if_true, if_false, decide_true, decide_false, Bool.true_eq_false, Bool.false_eq_true, bin_add, bin_sub, bin_mul, bin_and, bin_or, bin_eql, bin_neq, bin_lss, bin_leq, bin_gtr, bin_geq, un_not, pick_b, len_slice, nilc, fieldA, conv_int, P_normal, P_ret, P_exit, ne_eq, not_true_eq_false, not_false_eq_true, Bool.not_true, Bool.not_false, true_and, and_true, q103_0_0, q103_0_1, q103_0_2, q103_0_3, q103_1_0, q103_1_1, q103_2_0, q103_2_1, q103_2_2, q103_2_3, q103_3_0, q103_3_1, q103_4_0, q103_4_4, q103_4_5, q103_5_0, q103_5_3, q103_5_4, q103_5_5, q103_5_6, q103_5_7, q103_5_8, q103_5_9, q103_5_10, q103_6_0, q103_6_9, q103_7_0, q103_7_2, q103_8_0, q103_8_3, q103_8_4, q103_8_5, q103_8_6, q103_9_0, q103_9_4, q103_9_5, q103_9_6, q103_10_0, q103_10_2, q103_12_0, q103_12_1, q103_12_2, q103_12_3, h8, h9, h10, h5, hlt, ha1, ha2, h9a, res103]
      refine fun _ _ => ⟨?_, rfl⟩
      rw [hall, rsGo, if_pos (by omega)]; rfl
    · by_cases h9b : ((i : Int) = 9 ∧ 1 < c)
      · obtain ⟨h9b, hc1⟩ := h9b
        have e9 : decide ((i : Int) = 9) = true := decide_eq_true h9b
        simp only [bV_ok, bC_ret, bA_val, bA_enter, bDC_ret, bDA_val, bDA_enter, guard_b, guard_undef, seq_normal, seq_exit, seq_ret, seq_panic, cond_b, block_normal, block_exit, block_ret, block_panic, lkL_cons, lkL_setL, Nat.reduceEqDiff, if_true, if_false, decide_true, decide_false, Bool.true_eq_false, Bool.false_eq_true, bin_add, bin_sub, bin_mul, bin_and, bin_or, bin_eql, bin_neq, bin_lss, bin_leq, bin_gtr, bin_geq, un_not, pick_b, len_slice, nilc, fieldA, conv_int, P_normal, P_ret, P_exit, ne_eq, not_true_eq_false, not_false_eq_true, Bool.not_true, Bool.not_false, true_and, and_true, q103_0_0, q103_0_1, q103_0_2, q103_0_3, q103_1_0, q103_1_1, q103_2_0, q103_2_1, q103_2_2, q103_2_3, q103_3_0, q103_3_1, q103_4_0, q103_4_4, q103_4_5, q103_5_0, q103_5_3, q103_5_4, q103_5_5, q103_5_6, q103_5_7, q103_5_8, q103_5_9, q103_5_10, q103_6_0, q103_6_9, q103_7_0, q103_7_2, q103_8_0, q103_8_3, q103_8_4, q103_8_5, q103_8_6, q103_9_0, q103_9_4, q103_9_5, q103_9_6, q103_10_0, q103_10_2, q103_12_0, q103_12_1, q103_12_2, q103_12_3, h8, h9, h10, h5, hlt, ha1, ha2, h9a, e9, hc1, res103]
        refine fun _ _ => ⟨?_, rfl⟩
        rw [hall, rsGo, if_pos (by omega)]; rfl
      · have hi9 : i ≤ 9 := by omega
        have hc9 : i = 9 → c ≤ 1 := by omega
        obtain ⟨b1, b2⟩ := rs_bound c0 c1 hi9 hc9 (hn hi9)
        have hand := and127 c0 c1
        have hshl := shl_at c0 c1 hi9 hc9
        have hor := or_shift (hn hi9) b1
        have hmul : IntKind.i64.wrap (7 * (i : Int)) = 7 * i := wrap64_in (by omega) (by omega)
        have hshb : ∀ {t : TypeId} {x y : Operand}, doBin Pz .shl (binK .shl) .bad t x y (.int .u64 (IntKind.u64.wrap (c % 128))) (.int .i64 (7 * (i : Int))) s' = .ok (.int .u64 (((c % 128).toNat * 2 ^ (7 * i) : Nat) : Int)) := by
          intro t x y
          rw [bin_shl (by omega), hshl]
        have hg : ∀ n', ¬ (9 < i ∨ (i = 9 ∧ 1 < c)) → rsGo (c :: xs.drop (i + 1)) i n' = if c < 128 then (if c = 0 ∧ 0 < i then none else some (n' + (c % 128).toNat * 2 ^ (7 * i), i + 1)) else rsGo (xs.drop (i + 1)) (i + 1) (n' + (c % 128).toNat * 2 ^ (7 * i)) := fun n' h => by rw [rsGo, if_neg h]
        rewrite [hg n (by omega)] at hall
        clear hg
        by_cases hc : c < 128
        · rewrite [if_pos hc] at hall
          by_cases h0 : c = 0 ∧ 0 < i
          · rewrite [if_pos h0] at hall
            obtain ⟨h01, h02⟩ := h0
            have e0 : decide (c = 0) = true := decide_eq_true h01
            have hi0 : (0 : Int) < i := by omega
            by_cases h9c : (i : Int) = 9
            · have e9 : decide ((i : Int) = 9) = true := decide_eq_true h9c
              have hc1 : ¬ 1 < c := by omega
              simp only [bV_ok, bC_ret, bA_val, bA_enter, bDC_ret, bDA_val, bDA_enter, guard_b, guard_undef, seq_normal, seq_exit, seq_ret, seq_panic, cond_b, block_normal, block_exit, block_ret, block_panic, lkL_cons, lkL_setL, Nat.reduceEqDiff, if_true, if_false, decide_true, decide_false, Bool.true_eq_false, Bool.false_eq_true, bin_add, bin_sub, bin_mul, bin_and, bin_or, bin_eql, bin_neq, bin_lss, bin_leq, bin_gtr, bin_geq, un_not, pick_b, len_slice, nilc, fieldA, conv_int, P_normal, P_ret, P_exit, ne_eq, not_true_eq_false, not_false_eq_true, Bool.not_true, Bool.not_false, true_and, and_true, q103_0_0, q103_0_1, q103_0_2, q103_0_3, q103_1_0, q103_1_1, q103_2_0, q103_2_1, q103_2_2, q103_2_3, q103_3_0, q103_3_1, q103_4_0, q103_4_4, q103_4_5, q103_5_0, q103_5_3, q103_5_4, q103_5_5, q103_5_6, q103_5_7, q103_5_8, q103_5_9, q103_5_10, q103_6_0, q103_6_9, q103_7_0, q103_7_2, q103_8_0, q103_8_3, q103_8_4, q103_8_5, q103_8_6, q103_9_0, q103_9_4, q103_9_5, q103_9_6, q103_10_0, q103_10_2, q103_12_0, q103_12_1, q103_12_2, q103_12_3, h8, h9, h10, h5, hlt, ha1, ha2, h9a, e9, res103, hand, hmul, hshb, hor, hc, hc1, e0, hi0]
              exact fun _ _ => ⟨by rw [hall]; rfl, rfl⟩
            · have e9 : decide ((i : Int) = 9) = false := decide_eq_false h9c
              simp only [bV_ok, bC_ret, bA_val, bA_enter, bDC_ret, bDA_val, bDA_enter, guard_b, guard_undef, seq_normal, seq_exit, seq_ret, seq_panic, cond_b, block_normal, block_exit, block_ret, block_panic, lkL_cons, lkL_setL, Nat.reduceEqDiff, if_true, if_false, decide_true, decide_false, Bool.true_eq_false, Bool.false_eq_true, bin_add, bin_sub, bin_mul, bin_and, bin_or, bin_eql, bin_neq, bin_lss, bin_leq, bin_gtr, bin_geq, un_not, pick_b, len_slice, nilc, fieldA, conv_int, P_normal, P_ret, P_exit, ne_eq, not_true_eq_false, not_false_eq_true, Bool.not_true, Bool.not_false, true_and, and_true, q103_0_0, q103_0_1, q103_0_2, q103_0_3, q103_1_0, q103_1_1, q103_2_0, q103_2_1, q103_2_2, q103_2_3, q103_3_0, q103_3_1, q103_4_0, q103_4_4, q103_4_5, q103_5_0, q103_5_3, q103_5_4, q103_5_5, q103_5_6, q103_5_7, q103_5_8, q103_5_9, q103_5_10, q103_6_0, q103_6_9, q103_7_0, q103_7_2, q103_8_0, q103_8_3, q103_8_4, q103_8_5, q103_8_6, q103_9_0, q103_9_4, q103_9_5, q103_9_6, q103_10_0, q103_10_2, q103_12_0, q103_12_1, q103_12_2, q103_12_3, h8, h9, h10, h5, hlt, ha1, ha2, h9a, e9, res103, hand, hmul, hshb, hor, hc, e0, hi0]
              exact fun _ _ => ⟨by rw [hall]; rfl, rfl⟩
          · rewrite [if_neg h0] at hall
            by_cases h01 : c = 0
            · have e0 : decide (c = 0) = true := decide_eq_true h01
              have hi0 : ¬ (0 : Int) < i := by omega
              have e9 : decide ((i : Int) = 9) = false := decide_eq_false (by omega)
              simp only [bV_ok, bC_ret, bA_val, bA_enter, bDC_ret, bDA_val, bDA_enter, guard_b, guard_undef, seq_normal, seq_exit, seq_ret, seq_panic, cond_b, block_normal, block_exit, block_ret, block_panic, lkL_cons, lkL_setL, Nat.reduceEqDiff, if_true, if_false, decide_true, decide_false, Bool.true_eq_false, Bool.false_eq_true, bin_add, bin_sub, bin_mul, bin_and, bin_or, bin_eql, bin_neq, bin_lss, bin_leq, bin_gtr, bin_geq, un_not, pick_b, len_slice, nilc, fieldA, conv_int, P_normal, P_ret, P_exit, ne_eq, not_true_eq_false, not_false_eq_true, Bool.not_true, Bool.not_false, true_and, and_true, q103_0_0, q103_0_1, q103_0_2, q103_0_3, q103_1_0, q103_1_1, q103_2_0, q103_2_1, q103_2_2, q103_2_3, q103_3_0, q103_3_1, q103_4_0, q103_4_4, q103_4_5, q103_5_0, q103_5_3, q103_5_4, q103_5_5, q103_5_6, q103_5_7, q103_5_8, q103_5_9, q103_5_10, q103_6_0, q103_6_9, q103_7_0, q103_7_2, q103_8_0, q103_8_3, q103_8_4, q103_8_5, q103_8_6, q103_9_0, q103_9_4, q103_9_5, q103_9_6, q103_10_0, q103_10_2, q103_12_0, q103_12_1, q103_12_2, q103_12_3, h8, h9, h10, h5, hlt, ha1, ha2, h9a, e9, res103, hand, hmul, hshb, hor, hc, e0, hi0, hw]
              exact fun _ => ⟨by rw [hall]; rfl, rfl⟩
            · have e0 : decide (c = 0) = false := decide_eq_false h01
              by_cases h9c : (i : Int) = 9
              · have e9 : decide ((i : Int) = 9) = true := decide_eq_true h9c
                have hc1 : ¬ 1 < c := by omega
                simp only [bV_ok, bC_ret, bA_val, bA_enter, bDC_ret, bDA_val, bDA_enter, guard_b, guard_undef, seq_normal, seq_exit, seq_ret, seq_panic, cond_b, block_normal, block_exit, block_ret, block_panic, lkL_cons, lkL_setL, Nat.reduceEqDiff, if_true, if_false, decide_true, decide_false, Bool.true_eq_false, Bool.false_eq_true, bin_add, bin_sub, bin_mul, bin_and, bin_or, bin_eql, bin_neq, bin_lss, bin_leq, bin_gtr, bin_geq, un_not, pick_b, len_slice, nilc, fieldA, conv_int, P_normal, P_ret, P_exit, ne_eq, not_true_eq_false, not_false_eq_true, Bool.not_true, Bool.not_false, true_and, and_true, q103_0_0, q103_0_1, q103_0_2, q103_0_3, q103_1_0, q103_1_1, q103_2_0, q103_2_1, q103_2_2, q103_2_3, q103_3_0, q103_3_1, q103_4_0, q103_4_4, q103_4_5, q103_5_0, q103_5_3, q103_5_4, q103_5_5, q103_5_6, q103_5_7, q103_5_8, q103_5_9, q103_5_10, q103_6_0, q103_6_9, q103_7_0, q103_7_2, q103_8_0, q103_8_3, q103_8_4, q103_8_5, q103_8_6, q103_9_0, q103_9_4, q103_9_5, q103_9_6, q103_10_0, q103_10_2, q103_12_0, q103_12_1, q103_12_2, q103_12_3, h8, h9, h10, h5, hlt, ha1, ha2, h9a, e9, res103, hand, hmul, hshb, hor, hc, hc1, e0, hw]
                exact fun _ => ⟨by rw [hall]; rfl, rfl⟩
              · have e9 : decide ((i : Int) = 9) = false := decide_eq_false h9c
                simp only [bV_ok, bC_ret, bA_val, bA_enter, bDC_ret, bDA_val, bDA_enter, guard_b, guard_undef, seq_normal, seq_exit, seq_ret, seq_panic, cond_b, block_normal, block_exit, block_ret, block_panic, lkL_cons, lkL_setL, Nat.reduceEqDiff, if_true, if_false, decide_true, decide_false, Bool.true_eq_false, Bool.false_eq_true, bin_add, bin_sub, bin_mul, bin_and, bin_or, bin_eql, bin_neq, bin_lss, bin_leq, bin_gtr, bin_geq, un_not, pick_b, len_slice, nilc, fieldA, conv_int, P_normal, P_ret, P_exit, ne_eq, not_true_eq_false, not_false_eq_true, Bool.not_true, Bool.not_false, true_and, and_true, q103_0_0, q103_0_1, q103_0_2, q103_0_3, q103_1_0, q103_1_1, q103_2_0, q103_2_1, q103_2_2, q103_2_3, q103_3_0, q103_3_1, q103_4_0, q103_4_4, q103_4_5, q103_5_0, q103_5_3, q103_5_4, q103_5_5, q103_5_6, q103_5_7, q103_5_8, q103_5_9, q103_5_10, q103_6_0, q103_6_9, q103_7_0, q103_7_2, q103_8_0, q103_8_3, q103_8_4, q103_8_5, q103_8_6, q103_9_0, q103_9_4, q103_9_5, q103_9_6, q103_10_0, q103_10_2, q103_12_0, q103_12_1, q103_12_2, q103_12_3, h8, h9, h10, h5, hlt, ha1, ha2, h9a, e9, res103, hand, hmul, hshb, hor, hc, e0, hw]
                exact fun _ => ⟨by rw [hall]; rfl, rfl⟩
        · rewrite [if_neg hc] at hall
          have e9 : decide ((i : Int) = 9) = false := decide_eq_false (by omega)
          simp only [bV_ok, bC_ret, bA_val, bA_enter, bDC_ret, bDA_val, bDA_enter, guard_b, guard_undef, seq_normal, seq_exit, seq_ret, seq_panic, cond_b, block_normal, block_exit, block_ret, block_panic, lkL_cons, lkL_setL, Nat.reduceEqDiff, if_true, if_false, decide_true, decide_false, Bool.true_eq_false, Bool.false_eq_true, bin_add, bin_sub, bin_mul, bin_and, bin_or, bin_eql, bin_neq, bin_lss, bin_leq, bin_gtr, bin_geq, un_not, pick_b, len_slice, nilc, fieldA, conv_int, P_normal, P_ret, P_exit, ne_eq, not_true_eq_false, not_false_eq_true, Bool.not_true, Bool.not_false, true_and, and_true, q103_0_0, q103_0_1, q103_0_2, q103_0_3, q103_1_0, q103_1_1, q103_2_0, q103_2_1, q103_2_2, q103_2_3, q103_3_0, q103_3_1, q103_4_0, q103_4_4, q103_4_5, q103_5_0, q103_5_3, q103_5_4, q103_5_5, q103_5_6, q103_5_7, q103_5_8, q103_5_9, q103_5_10, q103_6_0, q103_6_9, q103_7_0, q103_7_2, q103_8_0, q103_8_3, q103_8_4, q103_8_5, q103_8_6, q103_9_0, q103_9_4, q103_9_5, q103_9_6, q103_10_0, q103_10_2, q103_12_0, q103_12_1, q103_12_2, q103_12_3, h8, h9, h10, h5, hlt, ha1, ha2, h9a, e9, res103, hand, hmul, hshb, hor, hc, hw]
          exact ⟨k - 1, by omega, i + 1, _, by omega, rfl, rfl, fun h => b2 (by omega), hall⟩
  · have hlt : ¬ ((i : Int) < xs.length) := by omega
    rw [List.drop_of_length_le (by omega)] at hall
    simp only [bV_ok, bC_ret, bA_val, bA_enter, bDC_ret, bDA_val, bDA_enter, guard_b, guard_undef, seq_normal, seq_exit, seq_ret, seq_panic, cond_b, block_normal, block_exit, block_ret, block_panic, lkL_cons, lkL_setL, Nat.reduceEqDiff, if_true, if_false, decide_true, decide_false, Bool.true_eq_false, Bool.false_eq_true, bin_add, bin_sub, bin_mul, bin_and, bin_or, bin_eql, bin_neq, bin_lss, bin_leq, bin_gtr, bin_geq, un_not, pick_b, len_slice, nilc, fieldA, conv_int, P_normal, P_ret, P_exit, ne_eq, not_true_eq_false, not_false_eq_true, Bool.not_true, Bool.not_false, true_and, and_true, q103_0_0, q103_0_1, q103_0_2, q103_0_3, q103_1_0, q103_1_1, q103_2_0, q103_2_1, q103_2_2, q103_2_3, q103_3_0, q103_3_1, q103_4_0, q103_4_4, q103_4_5, q103_5_0, q103_5_3, q103_5_4, q103_5_5, q103_5_6, q103_5_7, q103_5_8, q103_5_9, q103_5_10, q103_6_0, q103_6_9, q103_7_0, q103_7_2, q103_8_0, q103_8_3, q103_8_4, q103_8_5, q103_8_6, q103_9_0, q103_9_4, q103_9_5, q103_9_6, q103_10_0, q103_10_2, q103_12_0, q103_12_1, q103_12_2, q103_12_3, h8, h9, h10, h5, hlt, res103]
    exact fun _ _ => ⟨by rw [hall]; rfl, rfl⟩
end Go.Proofs.YtbbknbmmpkpgdaaGreatDoor.KAb
namespace Go.Proofs.YtbbknbmmpkpgdaaGreatDoor.KAb
/-- A call of the program's, at a depth. -/
noncomputable abbrev Cl (lf n : Nat) (f : FuncId) (args : List Value) (s : AS) : CRes := (aCall Pz masks lf n).call f args s
/-- A reader in its block, at its head. -/
def RdAt (B : Nat) (s : AS) (br : Nat) (xs : List Int) (bad : Bool) : Prop := ∃ vb el, s.get br = some (.row [vb, .bool bad] el false) ∧ Ints s .u8 vb xs ∧ ∀ b off n c, vb = .slice (some ⟨b, off, none⟩) n c → b ≠ br ∧ b < B
/-- One block alone is written. -/
def OnlyAt (br : Nat) (s s' : AS) : Prop := s'.next = s.next ∧ ∀ b, b ≠ br → s'.get b = s.get b
theorem OnlyAt.refl (br : Nat) (s : AS) : OnlyAt br s s := ⟨rfl, fun _ _ => rfl⟩
theorem OnlyAt.put (br : Nat) (s : AS) (o : AObj) : OnlyAt br s (s.put br o) := ⟨rfl, fun _ h => put_ne s o h⟩
theorem OnlyAt.trans {br : Nat} {s s' s'' : AS} (h : OnlyAt br s s') (h' : OnlyAt br s' s'') : OnlyAt br s s'' := ⟨h'.1.trans h.1, fun b hb => (h'.2 b hb).trans (h.2 b hb)⟩
/-- A number that is read: what it is, what is left, whether the reader is bad. -/
def numF (most : Nat) (xs : List Int) (bad : Bool) : Nat × List Int × Bool := match rsGo xs 0 0 with
  | some (n, u) => if bad = true ∨ most < n then (0, xs, true) else (n, xs.drop u, false)
  | none => (0, xs, true)
theorem rsGo_used : ∀ (xs : List Int) (i n m u : Nat), rsGo xs i n = some (m, u) → i < u ∧ u ≤ i + xs.length := by
  intro xs
  induction xs with
  | nil => intro i n m u h; cases h
  | cons c r ih =>
    intro i n m u h
    rw [rsGo] at h
    split at h
    · cases h
    · split at h
      · split at h
        · cases h
        · cases h; simp
      · obtain ⟨h1, h2⟩ := ih _ _ _ _ h
        simp only [List.length_cons]
        omega
theorem Bytes.drop {xs : List Int} (h : Bytes xs) (n : Nat) : Bytes (xs.drop n) := fun x hx => h x (List.mem_of_mem_drop hx)
theorem numF_bytes {most : Nat} {xs : List Int} {bad : Bool} (h : Bytes xs) : Bytes (numF most xs bad).2.1 := by
  unfold numF
  split
  · split
    · exact h
    · exact h.drop _
  · exact h
theorem numF_len {most : Nat} {xs : List Int} {bad : Bool} : (numF most xs bad).2.1.length ≤ xs.length := by
  unfold numF
  split
  · split
    · exact Nat.le_refl _
    · simp
  · exact Nat.le_refl _
theorem res48 {v l : L} {s : AS} : resOf Pz 243 Go.Proofs.Tryz.f48 v l s = .ret (lkL 4 v poison) s := res1 (by kernel_rfl) (by kernel_rfl)
set_option maxRecDepth 100000 in
theorem number_ok {B lf n : Nat} (hn : 2 ≤ n) {s : AS} {br : Nat} {xs : List Int} {bad : Bool} {most : Nat} (hR : RdAt B s br xs bad) (hb : Bytes xs) (hlen : xs.length < 1000000000) (hmost : most < 9223372036854775808) (hlf : 1000000000 ≤ lf) :
    (Cl lf n 48 [.pointer (some ⟨br, 0, none⟩), .int .i64 (most : Int)] s).P fun x s' => x = .int .i64 ((numF most xs bad).1 : Int) ∧ RdAt B s' br (numF most xs bad).2.1 (numF most xs bad).2.2 ∧ OnlyAt br s s' := by
  obtain ⟨n, rfl⟩ : ∃ m, n = m + 2 := ⟨n - 2, by omega⟩
  obtain ⟨vb, el, hg, hI, hne⟩ := hR
  obtain ⟨x, s1, hcall, rfl, rfl⟩ := (readShort_ok (cf := aCall Pz masks lf n) hI hb hlen hlf).inv
  have hcall' : (aCall Pz masks lf (n + 1)).call 103 [vb] s1 = .ret (rsV (rsGo xs 0 0)) s1 := hcall
  have hl0 : load1 (.pointer (some ⟨br, 0, none⟩)) s1 = .ok vb := load1_of hg rfl
  have hl1 : load1 (.pointer (some ⟨br, 1, none⟩)) s1 = .ok (.bool bad) := load1_of hg rfl
  have hst : doStore 1 (.pointer (some ⟨br, 1, none⟩)) (.bool true) s1 = .val undef (s1.put br (.row [vb, .bool true] el false)) := store1 hg (by simp) rfl
  have hw : IntKind.u64.wrap (most : Int) = most := wrap_u64 (by omega) (by omega)
  have keep : ∀ o, Ints (s1.put br o) .u8 vb xs := fun o => hI.keep fun b off n c h => put_ne s1 o (hne b off n c h).1
  have badWay : RdAt B (s1.put br (.row [vb, .bool true] el false)) br xs true := ⟨vb, el, put_get _ _ _, keep _, hne⟩
  show ((fnK Pz masks lf 48).run (aCall Pz masks lf (n + 1)) _ s1).P _
  rewrite [fn48, c48]
  refine P_after ?_
  unfold numF
  cases hr : rsGo xs 0 0 with
  | none =>
    rw [hr] at hcall'
    have x0 : doExtract (rsV none) 0 = .ok (.int .u64 0) := extract_tup rfl
    have x1 : doExtract (rsV none) 1 = .ok (.int .i64 0) := extract_tup rfl
    have x2 : doExtract (rsV none) 2 = .ok (.int .i64 4) := extract_tup rfl
    have e4 : decide ((4 : Int) = 0) = false := rfl
    cases bad with
    | true =>
      simp only [bV_ok, bC_ret, bA_val, bA_enter, bDC_ret, bDA_val, bDA_enter, guard_b, guard_undef, seq_normal, seq_exit, seq_ret, seq_panic, cond_b, block_normal, block_exit, block_ret, block_panic, lkL_cons, lkL_setL, Nat.reduceEqDiff, if_true, if_false, decide_true, decide_false, Bool.true_eq_false, Bool.false_eq_true, bin_add, bin_sub, bin_mul, bin_and, bin_or, bin_eql, bin_neq, bin_lss, bin_leq, bin_gtr, bin_geq, un_not, pick_b, len_slice, nilc, fieldA, conv_int, P_normal, P_ret, P_exit, ne_eq, not_true_eq_false, not_false_eq_true, Bool.not_true, Bool.not_false, true_and, and_true, q48_0_0, q48_0_1, q48_1_0, q48_1_10, q48_1_11, q48_1_12, q48_2_0, q48_2_5, q48_2_6, q48_2_7, q48_2_9, q48_2_10, q48_2_11, q48_2_12, q48_2_13, q48_2_14, q48_3_0, q48_3_4, q48_4_0, q48_4_1, q48_5_0, q48_5_10, q48_6_0, q48_6_3, Nat.zero_add, hl0, hl1, hcall', x0, x1, x2, hst, res48]
      exact fun _ => ⟨rfl, badWay, OnlyAt.put _ _ _⟩
    | false =>
      simp only [bV_ok, bC_ret, bA_val, bA_enter, bDC_ret, bDA_val, bDA_enter, guard_b, guard_undef, seq_normal, seq_exit, seq_ret, seq_panic, cond_b, block_normal, block_exit, block_ret, block_panic, lkL_cons, lkL_setL, Nat.reduceEqDiff, if_true, if_false, decide_true, decide_false, Bool.true_eq_false, Bool.false_eq_true, bin_add, bin_sub, bin_mul, bin_and, bin_or, bin_eql, bin_neq, bin_lss, bin_leq, bin_gtr, bin_geq, un_not, pick_b, len_slice, nilc, fieldA, conv_int, P_normal, P_ret, P_exit, ne_eq, not_true_eq_false, not_false_eq_true, Bool.not_true, Bool.not_false, true_and, and_true, q48_0_0, q48_0_1, q48_1_0, q48_1_10, q48_1_11, q48_1_12, q48_2_0, q48_2_5, q48_2_6, q48_2_7, q48_2_9, q48_2_10, q48_2_11, q48_2_12, q48_2_13, q48_2_14, q48_3_0, q48_3_4, q48_4_0, q48_4_1, q48_5_0, q48_5_10, q48_6_0, q48_6_3, Nat.zero_add, hl0, hl1, hcall', x0, x1, x2, e4, hst, res48]
      exact fun _ => ⟨rfl, badWay, OnlyAt.put _ _ _⟩
  | some p =>
    obtain ⟨m, u⟩ := p
    rw [hr] at hcall'
    obtain ⟨hu0, hu1⟩ := rsGo_used xs 0 0 m u hr
    have x0 : doExtract (rsV (some (m, u))) 0 = .ok (.int .u64 (m : Int)) := extract_tup rfl
    have x1 : doExtract (rsV (some (m, u))) 1 = .ok (.int .i64 (u : Int)) := extract_tup rfl
    have x2 : doExtract (rsV (some (m, u))) 2 = .ok (.int .i64 0) := extract_tup rfl
    have e0 : decide ((0 : Int) = 0) = true := rfl
    cases bad with
    | true =>
      simp only [bV_ok, bC_ret, bA_val, bA_enter, bDC_ret, bDA_val, bDA_enter, guard_b, guard_undef, seq_normal, seq_exit, seq_ret, seq_panic, cond_b, block_normal, block_exit, block_ret, block_panic, lkL_cons, lkL_setL, Nat.reduceEqDiff, if_true, if_false, decide_true, decide_false, Bool.true_eq_false, Bool.false_eq_true, bin_add, bin_sub, bin_mul, bin_and, bin_or, bin_eql, bin_neq, bin_lss, bin_leq, bin_gtr, bin_geq, un_not, pick_b, len_slice, nilc, fieldA, conv_int, P_normal, P_ret, P_exit, ne_eq, not_true_eq_false, not_false_eq_true, Bool.not_true, Bool.not_false, true_and, and_true, q48_0_0, q48_0_1, q48_1_0, q48_1_10, q48_1_11, q48_1_12, q48_2_0, q48_2_5, q48_2_6, q48_2_7, q48_2_9, q48_2_10, q48_2_11, q48_2_12, q48_2_13, q48_2_14, q48_3_0, q48_3_4, q48_4_0, q48_4_1, q48_5_0, q48_5_10, q48_6_0, q48_6_3, Nat.zero_add, hl0, hl1, hcall', x0, x1, x2, hst, res48, true_or]
      exact fun _ => ⟨rfl, badWay, OnlyAt.put _ _ _⟩
    | false =>
      by_cases hm : most < m
      · have hm' : (most : Int) < m := by omega
        simp only [bV_ok, bC_ret, bA_val, bA_enter, bDC_ret, bDA_val, bDA_enter, guard_b, guard_undef, seq_normal, seq_exit, seq_ret, seq_panic, cond_b, block_normal, block_exit, block_ret, block_panic, lkL_cons, lkL_setL, Nat.reduceEqDiff, if_true, if_false, decide_true, decide_false, Bool.true_eq_false, Bool.false_eq_true, bin_add, bin_sub, bin_mul, bin_and, bin_or, bin_eql, bin_neq, bin_lss, bin_leq, bin_gtr, bin_geq, un_not, pick_b, len_slice, nilc, fieldA, conv_int, P_normal, P_ret, P_exit, ne_eq, not_true_eq_false, not_false_eq_true, Bool.not_true, Bool.not_false, true_and, and_true, q48_0_0, q48_0_1, q48_1_0, q48_1_10, q48_1_11, q48_1_12, q48_2_0, q48_2_5, q48_2_6, q48_2_7, q48_2_9, q48_2_10, q48_2_11, q48_2_12, q48_2_13, q48_2_14, q48_3_0, q48_3_4, q48_4_0, q48_4_1, q48_5_0, q48_5_10, q48_6_0, q48_6_3, Nat.zero_add, hl0, hl1, hcall', x0, x1, x2, e0, hw, hm, hm', hst, res48, or_true]
        exact fun _ => ⟨rfl, badWay, OnlyAt.put _ _ _⟩
      · have hm' : ¬ (most : Int) < m := by omega
        obtain ⟨v', hs1, hs2, hs3⟩ := hI.slice (some (.int .i64 (u : Int))) none u xs.length (.inr (by simp only [onat, natOf_int]; rw [if_pos (by omega)]; simp)) (.inr ⟨rfl, rfl⟩) (by omega) (Nat.le_refl _)
        rw [List.take_length] at hs2
        have hwm : IntKind.i64.wrap (m : Int) = m := wrap64_in (by omega) (by omega)
        have hst2 : doStore 1 (.pointer (some ⟨br, 0, none⟩)) v' s1 = .val undef (s1.put br (.row [v', .bool false] el false)) := store1 hg (by simp) (by rcases hs2 with ⟨rfl, _⟩ | ⟨_, _, _, _, _, _, rfl, _⟩ <;> rfl)
        simp only [bV_ok, bC_ret, bA_val, bA_enter, bDC_ret, bDA_val, bDA_enter, guard_b, guard_undef, seq_normal, seq_exit, seq_ret, seq_panic, cond_b, block_normal, block_exit, block_ret, block_panic, lkL_cons, lkL_setL, Nat.reduceEqDiff, if_true, if_false, decide_true, decide_false, Bool.true_eq_false, Bool.false_eq_true, bin_add, bin_sub, bin_mul, bin_and, bin_or, bin_eql, bin_neq, bin_lss, bin_leq, bin_gtr, bin_geq, un_not, pick_b, len_slice, nilc, fieldA, conv_int, P_normal, P_ret, P_exit, ne_eq, not_true_eq_false, not_false_eq_true, Bool.not_true, Bool.not_false, true_and, and_true, q48_0_0, q48_0_1, q48_1_0, q48_1_10, q48_1_11, q48_1_12, q48_2_0, q48_2_5, q48_2_6, q48_2_7, q48_2_9, q48_2_10, q48_2_11, q48_2_12, q48_2_13, q48_2_14, q48_3_0, q48_3_4, q48_4_0, q48_4_1, q48_5_0, q48_5_10, q48_6_0, q48_6_3, Nat.zero_add, hl0, hl1, hcall', x0, x1, x2, e0, hw, hm, hm', hst2, res48, hs1, hwm, false_or]
        refine fun _ => ⟨rfl, ⟨v', el, put_get _ _ _, ?_, ?_⟩, OnlyAt.put _ _ _⟩
        · refine hs2.keep fun b off n c h => put_ne s1 _ ?_
          obtain ⟨_, _, _, h'⟩ := hs3 b off n c h
          exact (hne _ _ _ _ h').1
        · intro b off n c h
          obtain ⟨_, _, _, h'⟩ := hs3 b off n c h
          exact hne _ _ _ _ h'
end Go.Proofs.YtbbknbmmpkpgdaaGreatDoor.KAb
namespace Go.Proofs.YtbbknbmmpkpgdaaGreatDoor.KAb
/-- So many numbers below 16, as long as the reader is good. -/
def schedF : Nat → List Int → Bool → List Int × List Int × Bool
  | 0, xs, bad => ([], xs, bad)
  | i + 1, xs, bad => if bad = true then ([], xs, bad) else
    let p := numF 15 xs bad
    let q := schedF i p.2.1 p.2.2
    (p.1 :: q.1, q.2.1, q.2.2)
structure Vd where
  kind : Int
  how : Int
  who : Int
  sched : List Int
def Vd.cells (d : Vd) (vs : Value) : List Value := [.int .i64 d.kind, .int .i64 d.how, .int .i64 d.who, vs]
/-- What a scan reads as a verdict. -/
def verdF (xs : List Int) (bad : Bool) : Vd × List Int × Bool :=
  let a := numF 3 xs bad
  if a.1 = 2 then
    let b := numF 5 a.2.1 a.2.2
    let c := numF 16 b.2.1 b.2.2
    let d := numF 1048577 c.2.1 c.2.2
    let e := schedF d.1 d.2.1 d.2.2
    (⟨2, b.1, (c.1 : Int) - 1, e.1⟩, e.2.1, e.2.2)
  else (⟨a.1, 0, 0, []⟩, a.2.1, a.2.2)
theorem RdAt.keep {B : Nat} {s s' : AS} {br : Nat} {xs : List Int} {bad : Bool} {X : Nat → Prop} (h : RdAt B s br xs bad) (hF : s.F) (hf : Fr X s s') (hX : ∀ b o, s.get b = some o → ¬ X b) : RdAt B s' br xs bad := by
  obtain ⟨vb, el, hg, hI, hne⟩ := h
  refine ⟨vb, el, (hf.same br (hF.lt hg) (hX _ _ hg)).trans hg, hI.keep fun b off n c hv => ?_, hne⟩
  rcases hI with ⟨rfl, _⟩ | ⟨b', off', c', cs, el', ro, h1, _, h3, _⟩
  · cases hv
  · rw [h1] at hv
    cases hv
    exact hf.same _ (hF.lt h3) (hX _ _ h3)
/-- Where a scan's verdict is under way. -/
structure J47 (s0 : AS) (br : Nat) (s : AS) (xs : List Int) (bad : Bool) (d : Vd) (vs : Value) : Prop where
  rdr : RdAt s0.next s br xs bad
  F : s.F
  b2 : s.get s0.next = some (.row [.int .i64 0, .int .i64 0, .int .i64 0, .slice none 0 0] 36 false)
  b3 : s.get (s0.next + 1) = some (.row (d.cells vs) 36 false)
  own : Own s .i64 3 vs d.sched
  far : ∀ b n c, vs = .slice (some ⟨b, 0, none⟩) n c → s0.next + 2 ≤ b
  fr : Fr (· = br) s0 s
  nx : s0.next + 2 ≤ s.next
  br_lt : br < s0.next
theorem J47.only {s0 s s' : AS} {br : Nat} {xs xs' : List Int} {bad bad' : Bool} {d : Vd} {vs : Value} (h : J47 s0 br s xs bad d vs) (ho : OnlyAt br s s') (hr : RdAt s0.next s' br xs' bad') (hF : s'.F) : J47 s0 br s' xs' bad' d vs := by
  have hb := h.br_lt
  refine ⟨hr, hF, (ho.2 _ (by omega)).trans h.b2, (ho.2 _ (by omega)).trans h.b3, h.own.keep fun b off n c hv => ho.2 b ?_, h.far, ⟨by rw [ho.1]; exact h.fr.next, fun b h1 h2 => (ho.2 b h2).trans (h.fr.same b h1 h2)⟩, by rw [ho.1]; exact h.nx, hb⟩
  have := h.far b n c
  rcases h.own with ⟨rfl, _⟩ | ⟨b', h1, _⟩
  · cases hv
  · rw [h1] at hv
    cases hv
    have := this h1
    omega
theorem RdAt.put {B : Nat} {s : AS} {br : Nat} {xs : List Int} {bad : Bool} (h : RdAt B s br xs bad) {b : Nat} (o : AObj) (h1 : b ≠ br) (h2 : B ≤ b) : RdAt B (s.put b o) br xs bad := by
  obtain ⟨vb, el, hg, hI, hne⟩ := h
  exact ⟨vb, el, (put_ne s o h1.symm).trans hg, hI.keep fun b' off n c hv => put_ne s o fun e => by have := (hne b' off n c hv).2; omega, hne⟩
theorem J47.set {s0 s : AS} {br : Nat} {xs : List Int} {bad : Bool} {d d' : Vd} {vs : Value} (h : J47 s0 br s xs bad d vs) {cs : List Value} (hc : cs = d'.cells vs) (hd : d'.sched = d.sched) : J47 s0 br (s.put (s0.next + 1) (.row cs 36 false)) xs bad d' vs := by
  have hb := h.br_lt
  have hn := h.nx
  refine ⟨h.rdr.put _ (by omega) (by omega), h.F.put (by omega) _, (put_ne s _ (by omega)).trans h.b2, by rw [put_get, hc], ?_, h.far, ⟨h.fr.next, fun b h1 h2 => (put_ne s _ (by omega)).trans (h.fr.same b h1 h2)⟩, hn, hb⟩
  rw [hd]
  refine h.own.keep fun b off n c hv => put_ne s _ ?_
  rcases h.own with ⟨rfl, _⟩ | ⟨b', h1, _⟩
  · cases hv
  · have := h.far _ _ _ h1
    rw [h1] at hv
    cases hv
    omega
theorem res47 {v l : L} {s : AS} {vs : Array Value} (h : loadN 4 (lkL 2 v poison) s = .ok (.agg vs)) : resOf Pz 29 Go.Proofs.Tryz.f47 v l s = .ret (.agg vs) s := by
  have hr : Go.Proofs.Tryz.f47.results.toList = [.cell 2 36] := by kernel_rfl
  have ht : tkind Pz 36 = .agg 4 := by kernel_rfl
  have hb : (opd 29 (.tmp 2)).get v l = lkL 2 v poison := by rw [opd_tmp, if_pos (by kernel_rfl)]
  simp only [resOf, hr, resL_cons, ht, hb, h]
  rfl
end Go.Proofs.YtbbknbmmpkpgdaaGreatDoor.KAb
namespace Go.Proofs.YtbbknbmmpkpgdaaGreatDoor.KAb
theorem OnlyAt.F {br : Nat} {s s' : AS} (h : OnlyAt br s s') (hF : s.F) (hb : br < s.next) : s'.F := fun b hb' => by
  rw [h.1] at hb'
  rw [h.2 b (by omega)]; exact hF b hb'
theorem J47.num {s0 s : AS} {br : Nat} {xs : List Int} {bad : Bool} {d : Vd} {vs : Value} (h : J47 s0 br s xs bad d vs) {lf n most : Nat} (hn : 2 ≤ n) (hb : Bytes xs) (hlen : xs.length < 1000000000) (hmost : most < 9223372036854775808) (hlf : 1000000000 ≤ lf) :
    ∃ s', (aCall Pz masks lf n).call 48 [.pointer (some ⟨br, 0, none⟩), .int .i64 (most : Int)] s = .ret (.int .i64 ((numF most xs bad).1 : Int)) s' ∧ J47 s0 br s' (numF most xs bad).2.1 (numF most xs bad).2.2 d vs := by
  obtain ⟨x, s', h1, rfl, h2, h3⟩ := (number_ok (B := s0.next) hn h.rdr hb hlen hmost hlf).inv
  exact ⟨s', h1, h.only h3 h2 (h3.F h.F (by have := h.br_lt; have := h.nx; omega))⟩
theorem J47.l3 {s0 s : AS} {br : Nat} {xs : List Int} {bad : Bool} {d : Vd} {vs : Value} (h : J47 s0 br s xs bad d vs) : load1 (.pointer (some ⟨s0.next + 1, 3, none⟩)) s = .ok vs := load1_of h.b3 rfl
/-- One number more behind the schedule. -/
theorem J47.app {s0 s : AS} {br : Nat} {xs : List Int} {bad : Bool} {d : Vd} {acc : List Int} {vs : Value} (h : J47 s0 br s xs bad { d with sched := acc } vs) (z : Int) (hacc : acc.length + 1 < 1000000000) :
    ∃ v' s3 s4, appendV 1 3 vs (.slice (some ⟨s.next, 0, none⟩) 1 2) (s.new (.row [.int .i64 z] 3 false)) = .val v' s3 ∧ doStore 1 (.pointer (some ⟨s0.next + 1, 3, none⟩)) v' s3 = .val undef s4 ∧
      load1 (.pointer (some ⟨s0.next + 1, 3, none⟩)) (s.new (.row [.int .i64 z] 3 false)) = .ok vs ∧ J47 s0 br s4 xs bad { d with sched := acc ++ [z] } v' := by
  have hn := h.nx
  have hbr := h.br_lt
  have hne3 : s0.next + 1 ≠ s.next := by omega
  have g3 : (s.new (.row [.int .i64 z] 3 false)).get (s0.next + 1) = some (.row ((⟨d.kind, d.how, d.who, acc⟩ : Vd).cells vs) 36 false) := (new_ne s _ hne3).trans h.b3
  have hown : Own (s.new (.row [.int .i64 z] 3 false)) .i64 3 vs acc := h.own.keep fun b off n c hv => by
    refine new_ne s _ fun e => ?_
    rcases h.own with ⟨rfl, _⟩ | ⟨b', h1, h2⟩
    · cases hv
    · rw [h1] at hv; cases hv
      have := h.F.lt h2; omega
  obtain ⟨s3, a1, a2, a3, a4, a5⟩ := own_append (ys := [z]) (x := .slice (some ⟨s.next, 0, none⟩) 1 2) hown rfl (by
    have : rd (s.new (.row [.int .i64 z] 3 false)) s.next 0 1 = some [.int .i64 z] := rd_all (new_get s _) rfl
    exact this) (by simp) (by simp only [List.length_cons, List.length_nil]; omega) (h.F.new _)
  have hnx : (s.new (.row [.int .i64 z] 3 false)).next = s.next + 1 := rfl
  rw [hnx] at a1 a2 a3 a5
  have old : ∀ b, b < s.next → (∀ n c, vs ≠ .slice (some ⟨b, 0, none⟩) n c) → s3.get b = s.get b := fun b hb hv => (a5 b (by omega) hv).trans (new_ne s _ (by omega))
  have nvs : ∀ b, b < s0.next + 2 → ∀ n c, vs ≠ .slice (some ⟨b, 0, none⟩) n c := fun b hb n c e => by have := h.far b n c e; omega
  have g3' : s3.get (s0.next + 1) = some (.row ((⟨d.kind, d.how, d.who, acc⟩ : Vd).cells vs) 36 false) := (old _ (by omega) (nvs _ (by omega))).trans h.b3
  have hst : doStore 1 (.pointer (some ⟨s0.next + 1, 3, none⟩)) (.slice (some ⟨s.next + 1, 0, none⟩) (acc ++ [z]).length (2 * (acc ++ [z]).length + 1)) s3 = .val undef (s3.put (s0.next + 1) (.row ((⟨d.kind, d.how, d.who, acc⟩ : Vd).cells (.slice (some ⟨s.next + 1, 0, none⟩) (acc ++ [z]).length (2 * (acc ++ [z]).length + 1))) 36 false)) := store1 g3' (by simp [Vd.cells]) rfl
  refine ⟨_, s3, _, a1, hst, load1_of g3 rfl, ?_⟩
  refine ⟨?_, a4.put (by omega) _, (put_ne _ _ (by omega)).trans ((old _ (by omega) (nvs _ (by omega))).trans h.b2), put_get _ _ _, .inr ⟨s.next + 1, rfl, (put_ne _ _ (by omega)).trans a2⟩, fun b n c e => by cases e; omega, ⟨?_, fun b h1 h2 => ?_⟩, by show _ ≤ s3.next; omega, hbr⟩
  · obtain ⟨vb, el, k1, k2, k3⟩ := h.rdr
    have same : ∀ b, b < s0.next → (s3.put (s0.next + 1) (.row ((⟨d.kind, d.how, d.who, acc⟩ : Vd).cells (.slice (some ⟨s.next + 1, 0, none⟩) (acc ++ [z]).length (2 * (acc ++ [z]).length + 1))) 36 false)).get b = s.get b := fun b hb => (put_ne _ _ (by omega)).trans (old b (by omega) (nvs b (by omega)))
    exact ⟨vb, el, (same br hbr).trans k1, k2.keep fun b off n c hv => same b (k3 b off n c hv).2, k3⟩
  · show s0.next ≤ s3.next; omega
  · exact (put_ne _ _ (by omega)).trans ((old b (by omega) (nvs b (by omega))).trans (h.fr.same b h1 h2))
theorem sub_one {i : Nat} (h : i ≤ 1048577) : IntKind.i64.wrap (((i + 1 : Nat) : Int) - 1) = (i : Int) := by rw [wrap64_in (by omega) (by omega)]; omega
set_option maxRecDepth 100000 in
theorem loop47 {lf n : Nat} (hn : 2 ≤ n) (hlf : 1000000000 ≤ lf) {s0 : AS} {br : Nat} {d : Vd} : ∀ (i : Nat) (s : AS) (xs : List Int) (bad : Bool) (acc : List Int) (vs : Value) (v l : L) (fuel : Nat), i < fuel → i ≤ 1048577 → J47 s0 br s xs bad { d with sched := acc } vs → Bytes xs → xs.length < 1000000000 → acc.length + i < 1000000000 →
    lkL 0 v poison = .pointer (some ⟨br, 0, none⟩) → lkL 2 v poison = .pointer (some ⟨s0.next, 0, none⟩) → lkL 3 v poison = .pointer (some ⟨s0.next + 1, 0, none⟩) → lkL 4 v poison = .int .i64 (i : Int) →
    (iterK (l47_9 lf (aCall Pz masks lf n)) fuel v l [] s).P fun e v ds s => match e with
      | .exit 0 => ds = [] ∧ lkL 2 v poison = .pointer (some ⟨s0.next, 0, none⟩) ∧ lkL 3 v poison = .pointer (some ⟨s0.next + 1, 0, none⟩) ∧ ∃ vs, J47 s0 br s (schedF i xs bad).2.1 (schedF i xs bad).2.2 { d with sched := acc ++ (schedF i xs bad).1 } vs
      | _ => False := by
  intro i
  induction i with
  | zero =>
    intro s xs bad acc vs v l fuel hf _ hJ hb hlen hacc h0 h2 h3 h4
    obtain ⟨fuel, rfl⟩ : ∃ m, fuel = m + 1 := ⟨fuel - 1, by omega⟩
    rewrite [iter_succ, l47_9]
    have e : ¬ (0 : Int) < ((0 : Nat) : Int) := by omega
    simp only [bV_ok, bC_ret, bA_val, bA_enter, bDC_ret, bDA_val, bDA_enter, guard_b, guard_undef, seq_normal, seq_exit, seq_ret, seq_panic, cond_b, block_normal, block_exit, block_ret, block_panic, lkL_cons, lkL_setL, Nat.reduceEqDiff, if_true, if_false, decide_true, decide_false, Bool.true_eq_false, Bool.false_eq_true, bin_add, bin_sub, bin_mul, bin_and, bin_or, bin_eql, bin_neq, bin_lss, bin_leq, bin_gtr, bin_geq, un_not, pick_b, len_slice, nilc, fieldA, conv_int, P_normal, P_ret, P_exit, ne_eq, not_true_eq_false, not_false_eq_true, Bool.not_true, Bool.not_false, true_and, and_true, q47_0_0, q47_0_1, q47_1_0, q47_1_6, q47_1_7, q47_2_0, q47_2_3, q47_3_0, q47_3_6, q47_4_0, q47_4_7, q47_5_0, q47_5_5, q47_6_0, q47_6_3, q47_6_4, q47_6_5, q47_6_6, q47_6_7, q47_6_8, q47_6_9, q47_6_10, q47_7_0, q47_7_1, q47_7_2, q47_7_3, q47_7_4, q47_7_5, q47_7_6, q47_7_7, q47_7_8, q47_7_9, q47_7_10, q47_8_0, q47_8_3, q47_10_0, q47_10_2, h0, h3, h4, e]
    exact ⟨h2, vs, by simpa [schedF] using hJ⟩
  | succ i ih =>
    intro s xs bad acc vs v l fuel hf hi hJ hb hlen hacc h0 h2 h3 h4
    obtain ⟨fuel, rfl⟩ : ∃ m, fuel = m + 1 := ⟨fuel - 1, by omega⟩
    rewrite [iter_succ, l47_9]
    have e : (0 : Int) < ((i + 1 : Nat) : Int) := by omega
    obtain ⟨vb, el, hg, hI, hne⟩ := hJ.rdr
    have hbad : load1 (.pointer (some ⟨br, 1, none⟩)) s = .ok (.bool bad) := load1_of hg rfl
    cases bad with
    | true =>
      simp only [bV_ok, bC_ret, bA_val, bA_enter, bDC_ret, bDA_val, bDA_enter, guard_b, guard_undef, seq_normal, seq_exit, seq_ret, seq_panic, cond_b, block_normal, block_exit, block_ret, block_panic, lkL_cons, lkL_setL, Nat.reduceEqDiff, if_true, if_false, decide_true, decide_false, Bool.true_eq_false, Bool.false_eq_true, bin_add, bin_sub, bin_mul, bin_and, bin_or, bin_eql, bin_neq, bin_lss, bin_leq, bin_gtr, bin_geq, un_not, pick_b, len_slice, nilc, fieldA, conv_int, P_normal, P_ret, P_exit, ne_eq, not_true_eq_false, not_false_eq_true, Bool.not_true, Bool.not_false, true_and, and_true, q47_0_0, q47_0_1, q47_1_0, q47_1_6, q47_1_7, q47_2_0, q47_2_3, q47_3_0, q47_3_6, q47_4_0, q47_4_7, q47_5_0, q47_5_5, q47_6_0, q47_6_3, q47_6_4, q47_6_5, q47_6_6, q47_6_7, q47_6_8, q47_6_9, q47_6_10, q47_7_0, q47_7_1, q47_7_2, q47_7_3, q47_7_4, q47_7_5, q47_7_6, q47_7_7, q47_7_8, q47_7_9, q47_7_10, q47_8_0, q47_8_3, q47_10_0, q47_10_2, h0, h3, h4, e, Nat.zero_add, hbad]
      refine ⟨h2, vs, ?_⟩
      have : schedF (i + 1) xs true = ([], xs, true) := rfl
      rw [this]; simpa using hJ
    | false =>
      obtain ⟨s1, hc1, hJ1⟩ := hJ.num hn hb hlen (most := 15) (by omega) hlf
      obtain ⟨v', s3, s4, a1, a2, a3, hJ4⟩ := hJ1.app ((numF 15 xs false).1 : Int) (by omega)
      have hc1' : (aCall Pz masks lf n).call 48 [.pointer (some ⟨br, 0, none⟩), .int .i64 15] s = .ret (.int .i64 ((numF 15 xs false).1 : Int)) s1 := hc1
      have hbs : doBuildSlice 3 1 1 (zerosK [.int .i64 0] 1) [(0, .int .i64 ((numF 15 xs false).1 : Int))] s1 = .val (.slice (some ⟨s1.next, 0, none⟩) 1 2) (s1.new (.row [.int .i64 ((numF 15 xs false).1 : Int)] 3 false)) := rfl
      have hl3 := hJ.l3
      have hl31 := hJ1.l3
      have hw := sub_one (i := i) (by omega)
      have hvs := hJ.own.valEq
      simp only [bV_ok, bC_ret, bA_val, bA_enter, bDC_ret, bDA_val, bDA_enter, guard_b, guard_undef, seq_normal, seq_exit, seq_ret, seq_panic, cond_b, block_normal, block_exit, block_ret, block_panic, lkL_cons, lkL_setL, Nat.reduceEqDiff, if_true, if_false, decide_true, decide_false, Bool.true_eq_false, Bool.false_eq_true, bin_add, bin_sub, bin_mul, bin_and, bin_or, bin_eql, bin_neq, bin_lss, bin_leq, bin_gtr, bin_geq, un_not, pick_b, len_slice, nilc, fieldA, conv_int, P_normal, P_ret, P_exit, ne_eq, not_true_eq_false, not_false_eq_true, Bool.not_true, Bool.not_false, true_and, and_true, q47_0_0, q47_0_1, q47_1_0, q47_1_6, q47_1_7, q47_2_0, q47_2_3, q47_3_0, q47_3_6, q47_4_0, q47_4_7, q47_5_0, q47_5_5, q47_6_0, q47_6_3, q47_6_4, q47_6_5, q47_6_6, q47_6_7, q47_6_8, q47_6_9, q47_6_10, q47_7_0, q47_7_1, q47_7_2, q47_7_3, q47_7_4, q47_7_5, q47_7_6, q47_7_7, q47_7_8, q47_7_9, q47_7_10, q47_8_0, q47_8_3, q47_10_0, q47_10_2, h0, h3, h4, e, Nat.zero_add, hbad, hl3, hl31, a3, hc1', hbs, a1, a2, bif_eq, allK_eq, lenK_eq, chkOk, chkAt, dropK_eq, takeK_eq, List.length_cons, List.length_nil, List.all_cons, List.all_nil, Nat.reduceAdd, Nat.reduceSub, Nat.sub_eq, Nat.add_eq, Nat.reduceLeDiff, Nat.ble_eq, List.drop_succ_cons, List.drop_zero, List.take_succ_cons, List.take_zero, Bool.and_true, Bool.true_and, valEq_ptr, valEq_int, valEq_bool, hvs, hw]
      have hs : schedF (i + 1) xs false = ((((numF 15 xs false).1 : Nat) : Int) :: (schedF i (numF 15 xs false).2.1 (numF 15 xs false).2.2).1, (schedF i (numF 15 xs false).2.1 (numF 15 xs false).2.2).2.1, (schedF i (numF 15 xs false).2.1 (numF 15 xs false).2.2).2.2) := rfl
      have := ih s4 _ _ _ v' (setL 4 (.int .i64 (i : Int)) v) (.cons 39 (.int .i64 (i : Int)) (.cons 38 (.int .i64 ((i + 1 : Nat) : Int)) .nil)) fuel (by omega) (by omega) hJ4 (numF_bytes hb) (Nat.lt_of_le_of_lt numF_len hlen) (by simp only [List.length_append, List.length_cons, List.length_nil]; omega) (by simp only [lkL_setL, Nat.reduceEqDiff, if_false, h0]) (by simp only [lkL_setL, Nat.reduceEqDiff, if_false, h2]) (by simp only [lkL_setL, Nat.reduceEqDiff, if_false, h3]) (by simp only [lkL_setL, if_true])
      refine this.mono fun e v ds s h => ?_
      match e, h with
      | .exit 0, h =>
        obtain ⟨q1, q2, q3, vs', q4⟩ := h
        refine ⟨q1, q2, q3, vs', ?_⟩
        rw [hs]
        simpa using q4
end Go.Proofs.YtbbknbmmpkpgdaaGreatDoor.KAb
namespace Go.Proofs.YtbbknbmmpkpgdaaGreatDoor.KAb
theorem RdAt.mono {B B' : Nat} {s : AS} {br : Nat} {xs : List Int} {bad : Bool} (h : RdAt B s br xs bad) (hB : B ≤ B') : RdAt B' s br xs bad := by
  obtain ⟨vb, el, h1, h2, h3⟩ := h
  exact ⟨vb, el, h1, h2, fun b off n c hv => ⟨(h3 b off n c hv).1, Nat.lt_of_lt_of_le (h3 b off n c hv).2 hB⟩⟩
theorem RdAt.new {B : Nat} {s : AS} {br : Nat} {xs : List Int} {bad : Bool} (h : RdAt B s br xs bad) (hF : s.F) (o : AObj) : RdAt B (s.new o) br xs bad :=
  h.keep hF (Fr.new (fun _ => False) s o) fun _ _ _ h => h
/-- What a call that reads a verdict leaves. -/
structure VdAt (s0 : AS) (br : Nat) (s : AS) (xs : List Int) (bad : Bool) (d : Vd) (vs : Value) : Prop where
  rdr : RdAt s0.next s br xs bad
  F : s.F
  own : Own s .i64 3 vs d.sched
  far : ∀ b n c, vs = .slice (some ⟨b, 0, none⟩) n c → s0.next ≤ b
  fr : Fr (· = br) s0 s
theorem J47.vd {s0 s : AS} {br : Nat} {xs : List Int} {bad : Bool} {d : Vd} {vs : Value} (h : J47 s0 br s xs bad d vs) : VdAt s0 br (s.put s0.next (.row (d.cells vs) 36 false)) xs bad d vs := by
  have hb := h.br_lt
  have hn := h.nx
  refine ⟨h.rdr.put _ (by omega) (by omega), h.F.put (by omega) _, ?_, fun b n c e => by have := h.far b n c e; omega, ⟨h.fr.next, fun b h1 h2 => (put_ne s _ (by omega)).trans (h.fr.same b h1 h2)⟩⟩
  refine h.own.keep fun b off n c hv => put_ne s _ ?_
  rcases h.own with ⟨rfl, _⟩ | ⟨b', h1, _⟩
  · cases hv
  · have := h.far _ _ _ h1
    rw [h1] at hv
    cases hv
    omega
theorem Vd.scal {d : Vd} {vs : Value} {s : AS} (h : Own s .i64 3 vs d.sched) : (d.cells vs).all KAb.scal = true := by
  rcases h with ⟨rfl, _⟩ | ⟨b, rfl, _⟩ <;> rfl
theorem numF_mono {most : Nat} {xs : List Int} {bad : Bool} : (numF most xs bad).1 ≤ most := by
  unfold numF
  split
  · split
    · exact Nat.zero_le _
    · rename_i h; simp only [not_or, Nat.not_lt] at h; exact h.2
  · exact Nat.zero_le _
set_option maxRecDepth 100000 in
theorem verdict_ok {lf n : Nat} (hn : 3 ≤ n) {s : AS} {br : Nat} {xs : List Int} {bad : Bool} (hR : RdAt s.next s br xs bad) (hF : s.F) (hb : Bytes xs) (hlen : xs.length < 1000000000) (hlf : 1000000000 ≤ lf) :
    (Cl lf n 47 [.pointer (some ⟨br, 0, none⟩)] s).P fun x s' => ∃ vs, x = .agg ((verdF xs bad).1.cells vs).toArray ∧ VdAt s br s' (verdF xs bad).2.1 (verdF xs bad).2.2 (verdF xs bad).1 vs := by
  obtain ⟨n, rfl⟩ : ∃ m, n = m + 1 := ⟨n - 1, by omega⟩
  have hbr : br < s.next := by obtain ⟨vb, el, hg, _, _⟩ := hR; exact hF.lt hg
  obtain ⟨x1, s2, hc1, rfl, hR2, ho2⟩ := (number_ok (lf := lf) (n := n) (by omega) (hR.new hF (.row [.int .i64 0, .int .i64 0, .int .i64 0, .slice none 0 0] 36 false)) hb hlen (most := 3) (by omega) hlf).inv
  have hc1' : (aCall Pz masks lf n).call 48 [.pointer (some ⟨br, 0, none⟩), .int .i64 3] (s.new (.row [.int .i64 0, .int .i64 0, .int .i64 0, .slice none 0 0] 36 false)) = .ret (.int .i64 ((numF 3 xs bad).1 : Int)) s2 := hc1
  have hF1 : (s.new (.row [.int .i64 0, .int .i64 0, .int .i64 0, .slice none 0 0] 36 false)).F := hF.new _
  have hn2 : s2.next = s.next + 1 := ho2.1
  have hF2 : s2.F := ho2.F hF1 (by show br < s.next + 1; omega)
  have hbd : doBuild ⟨fun i => nthK i [(0, 1), (1, 1), (2, 1), (3, 1)]⟩ [(.int .i64 0), (.int .i64 0), (.int .i64 0), (.slice none 0 0)] [(0, .int .i64 ((numF 3 xs bad).1 : Int))] = .ok (.agg #[.int .i64 ((numF 3 xs bad).1 : Int), .int .i64 0, .int .i64 0, .slice none 0 0]) := rfl
  have hnw := new_eq [.int .i64 0, .int .i64 0, .int .i64 0, .slice none 0 0] 36 s
  have hnw2 := new_eq [.int .i64 0, .int .i64 0, .int .i64 0, .slice none 0 0] 36 s2
  rw [hn2] at hnw2
  have g3 : (s2.new (.row [.int .i64 0, .int .i64 0, .int .i64 0, .slice none 0 0] 36 false)).get (s.next + 1) = some (.row [.int .i64 0, .int .i64 0, .int .i64 0, .slice none 0 0] 36 false) := by
    rw [← hn2]; exact new_get _ _
  have hst := storeN (o := 0) (n := 4) (vs := #[.int .i64 ((numF 3 xs bad).1 : Int), .int .i64 0, .int .i64 0, .slice none 0 0]) g3 rfl (by simp) rfl
  have hJ : J47 s br ((s2.new (.row [.int .i64 0, .int .i64 0, .int .i64 0, .slice none 0 0] 36 false)).put (s.next + 1) (.row [.int .i64 ((numF 3 xs bad).1 : Int), .int .i64 0, .int .i64 0, .slice none 0 0] 36 false)) (numF 3 xs bad).2.1 (numF 3 xs bad).2.2 ⟨((numF 3 xs bad).1 : Int), 0, 0, []⟩ (.slice none 0 0) := by
    have hnn : (s2.new (.row [.int .i64 0, .int .i64 0, .int .i64 0, .slice none 0 0] 36 false)).next = s.next + 2 := by show s2.next + 1 = _; omega
    refine ⟨(hR2.new hF2 _).put _ (by omega) (by omega), (hF2.new _).put (by omega) _, ?_, put_get _ _ _, Own.nil, (fun b n c e => by cases e), ⟨?_, fun b h1 h2 => ?_⟩, ?_, hbr⟩
    · rw [put_ne _ _ (by omega), new_ne _ _ (by omega), ho2.2 _ (by omega), new_get]
    · show s.next ≤ s2.next + 1; omega
    · rw [put_ne _ _ (by omega), new_ne _ _ (by omega), ho2.2 _ (by omega), new_ne _ _ (by omega)]
    · show s.next + 2 ≤ s2.next + 1; omega
  have hst' : doStore 4 (.pointer (some ⟨s.next + 1, 0, none⟩)) (.agg #[.int .i64 ((numF 3 xs bad).1 : Int), .int .i64 0, .int .i64 0, .slice none 0 0]) (s2.new (.row [.int .i64 0, .int .i64 0, .int .i64 0, .slice none 0 0] 36 false)) = .val undef ((s2.new (.row [.int .i64 0, .int .i64 0, .int .i64 0, .slice none 0 0] 36 false)).put (s.next + 1) (.row [.int .i64 ((numF 3 xs bad).1 : Int), .int .i64 0, .int .i64 0, .slice none 0 0] 36 false)) := hst
  clear hst hnw
  generalize hs4 : (s2.new (.row [.int .i64 0, .int .i64 0, .int .i64 0, .slice none 0 0] 36 false)).put (s.next + 1) (.row [.int .i64 ((numF 3 xs bad).1 : Int), .int .i64 0, .int .i64 0, .slice none 0 0] 36 false) = s4 at hJ hst'
  have hnw1 : doNew [(.int .i64 0), (.int .i64 0), (.int .i64 0), (.slice none 0 0)] 36 s = .val (.pointer (some ⟨s.next, 0, none⟩)) (s.new (.row [.int .i64 0, .int .i64 0, .int .i64 0, .slice none 0 0] 36 false)) := rfl
  have hl0 : load1 (.pointer (some ⟨s.next + 1, 0, none⟩)) s4 = .ok (.int .i64 ((numF 3 xs bad).1 : Int)) := load1_of hJ.b3 rfl
  have fin : ∀ {v : L} {xs' : List Int} {bad' : Bool} {d : Vd} {vs : Value} {s' : AS}, J47 s br s' xs' bad' d vs → lkL 2 v poison = .pointer (some ⟨s.next, 0, none⟩) → lkL 3 v poison = .pointer (some ⟨s.next + 1, 0, none⟩) → verdF xs bad = (d, xs', bad') →
      (seqK ((o47_10 0).run (aCall Pz masks lf n) v .nil [] s') fun v l ds s => .ret v l ds s).P fun e v ds s' => match e with
        | .normal => ds = [] ∧ ∀ l, (resOf Pz 29 Go.Proofs.Tryz.f47 v l s').P fun x s' => ∃ vs, x = .agg ((verdF xs bad).1.cells vs).toArray ∧ VdAt s br s' (verdF xs bad).2.1 (verdF xs bad).2.2 (verdF xs bad).1 vs
        | .ret => ds = [] ∧ ∀ l, (resOf Pz 29 Go.Proofs.Tryz.f47 v l s').P fun x s' => ∃ vs, x = .agg ((verdF xs bad).1.cells vs).toArray ∧ VdAt s br s' (verdF xs bad).2.1 (verdF xs bad).2.2 (verdF xs bad).1 vs
        | _ => False := by
    intro v xs' bad' d vs s' hJ h2 h3 hv
    have e1 : loadN 4 (.pointer (some ⟨s.next + 1, 0, none⟩)) s' = .ok (.agg (d.cells vs).toArray) := loadN_of hJ.b3 (by simp [Vd.cells])
    have e2 : doStore 4 (.pointer (some ⟨s.next, 0, none⟩)) (.agg (d.cells vs).toArray) s' = .val undef (s'.put s.next (.row (d.cells vs) 36 false)) := by
      rw [storeN hJ.b2 (by simp [Vd.cells]) (by simp) (by simpa using Vd.scal hJ.own)]
      simp [Vd.cells]
    have e3 : loadN 4 (.pointer (some ⟨s.next, 0, none⟩)) (s'.put s.next (.row (d.cells vs) 36 false)) = .ok (.agg (d.cells vs).toArray) := loadN_of (put_get _ _ _) (by simp [Vd.cells])
    simp only [bV_ok, bC_ret, bA_val, bA_enter, bDC_ret, bDA_val, bDA_enter, guard_b, guard_undef, seq_normal, seq_exit, seq_ret, seq_panic, cond_b, block_normal, block_exit, block_ret, block_panic, lkL_cons, lkL_setL, Nat.reduceEqDiff, if_true, if_false, decide_true, decide_false, Bool.true_eq_false, Bool.false_eq_true, bin_add, bin_sub, bin_mul, bin_and, bin_or, bin_eql, bin_neq, bin_lss, bin_leq, bin_gtr, bin_geq, un_not, pick_b, len_slice, nilc, fieldA, conv_int, P_normal, P_ret, P_exit, ne_eq, not_true_eq_false, not_false_eq_true, Bool.not_true, Bool.not_false, true_and, and_true, q47_0_0, q47_0_1, q47_1_0, q47_1_6, q47_1_7, q47_2_0, q47_2_3, q47_3_0, q47_3_6, q47_4_0, q47_4_7, q47_5_0, q47_5_5, q47_6_0, q47_6_3, q47_6_4, q47_6_5, q47_6_6, q47_6_7, q47_6_8, q47_6_9, q47_6_10, q47_7_0, q47_7_1, q47_7_2, q47_7_3, q47_7_4, q47_7_5, q47_7_6, q47_7_7, q47_7_8, q47_7_9, q47_7_10, q47_8_0, q47_8_3, q47_10_0, q47_10_2, h2, h3, e1, e2, hv]
    intro l
    rw [res47 (by rw [h2]; exact e3)]
    exact ⟨vs, rfl, hJ.vd⟩
  rewrite [Cl, aCall_succ]
  rewrite [fn47, c47]
  refine P_after ?_
  have hq1 : ((numF 3 xs bad).1 : Int) ≠ 2 ↔ (numF 3 xs bad).1 ≠ 2 := by omega
  by_cases h2 : (numF 3 xs bad).1 = 2
  · have e2 : decide (((numF 3 xs bad).1 : Int) = 2) = true := decide_eq_true (by omega)
    have bl1 : (numF 3 xs bad).2.1.length < 1000000000 := Nat.lt_of_le_of_lt numF_len hlen
    obtain ⟨s5, c5, J5⟩ := hJ.num (n := n) (most := 5) (by omega) (numF_bytes hb) bl1 (by omega) hlf
    generalize hb1 : numF 3 xs bad = p1 at *
    generalize hb2 : numF 5 p1.2.1 p1.2.2 = p2 at *
    have st5 := store1 (o := 1) (u := .int .i64 (p2.1 : Int)) J5.b3 (by simp [Vd.cells]) rfl
    have J6 := J5.set (d' := ⟨(p1.1 : Int), p2.1, 0, []⟩) (cs := ((⟨(p1.1 : Int), 0, 0, []⟩ : Vd).cells (.slice none 0 0)).set 1 (.int .i64 (p2.1 : Int))) rfl rfl
    generalize s5.put (s.next + 1) (.row (((⟨(p1.1 : Int), 0, 0, []⟩ : Vd).cells (.slice none 0 0)).set 1 (.int .i64 (p2.1 : Int))) 36 false) = s6 at st5 J6
    have bl2 : p2.2.1.length < 1000000000 := by subst hb2; exact Nat.lt_of_le_of_lt numF_len bl1
    have by2 : Bytes p2.2.1 := by subst hb2; subst hb1; exact numF_bytes (numF_bytes hb)
    obtain ⟨s7, c7, J7⟩ := J6.num (n := n) (most := 16) (by omega) by2 bl2 (by omega) hlf
    have m3 := numF_mono (most := 16) (xs := p2.2.1) (bad := p2.2.2)
    generalize hb3 : numF 16 p2.2.1 p2.2.2 = p3 at *
    have hw : IntKind.i64.wrap ((p3.1 : Int) - 1) = (p3.1 : Int) - 1 := wrap64_in (by omega) (by omega)
    have st7 := store1 (o := 2) (u := .int .i64 ((p3.1 : Int) - 1)) J7.b3 (by simp [Vd.cells]) rfl
    have J8 := J7.set (d' := ⟨(p1.1 : Int), p2.1, (p3.1 : Int) - 1, []⟩) (cs := ((⟨(p1.1 : Int), p2.1, 0, []⟩ : Vd).cells (.slice none 0 0)).set 2 (.int .i64 ((p3.1 : Int) - 1))) rfl rfl
    generalize s7.put (s.next + 1) (.row (((⟨(p1.1 : Int), p2.1, 0, []⟩ : Vd).cells (.slice none 0 0)).set 2 (.int .i64 ((p3.1 : Int) - 1))) 36 false) = s8 at st7 J8
    have bl3 : p3.2.1.length < 1000000000 := by subst hb3; exact Nat.lt_of_le_of_lt numF_len bl2
    have by3 : Bytes p3.2.1 := by subst hb3; exact numF_bytes by2
    obtain ⟨s9, c9, J9⟩ := J8.num (n := n) (most := 1048577) (by omega) by3 bl3 (by omega) hlf
    have m4 := numF_mono (most := 1048577) (xs := p3.2.1) (bad := p3.2.2)
    have by4 : Bytes (numF 1048577 p3.2.1 p3.2.2).2.1 := numF_bytes by3
    have bl4 : (numF 1048577 p3.2.1 p3.2.2).2.1.length < 1000000000 := Nat.lt_of_le_of_lt numF_len bl3
    generalize hb4 : numF 1048577 p3.2.1 p3.2.2 = p4 at *
    have c5' : (aCall Pz masks lf n).call 48 [.pointer (some ⟨br, 0, none⟩), .int .i64 5] s4 = .ret (.int .i64 (p2.1 : Int)) s5 := c5
    have c7' : (aCall Pz masks lf n).call 48 [.pointer (some ⟨br, 0, none⟩), .int .i64 16] s6 = .ret (.int .i64 (p3.1 : Int)) s7 := c7
    have c9' : (aCall Pz masks lf n).call 48 [.pointer (some ⟨br, 0, none⟩), .int .i64 1048577] s8 = .ret (.int .i64 (p4.1 : Int)) s9 := c9
    simp only [bV_ok, bC_ret, bA_val, bA_enter, bDC_ret, bDA_val, bDA_enter, guard_b, guard_undef, seq_normal, seq_exit, seq_ret, seq_panic, cond_b, block_normal, block_exit, block_ret, block_panic, lkL_cons, lkL_setL, Nat.reduceEqDiff, if_true, if_false, decide_true, decide_false, Bool.true_eq_false, Bool.false_eq_true, bin_add, bin_sub, bin_mul, bin_and, bin_or, bin_eql, bin_neq, bin_lss, bin_leq, bin_gtr, bin_geq, un_not, pick_b, len_slice, nilc, fieldA, conv_int, P_normal, P_ret, P_exit, ne_eq, not_true_eq_false, not_false_eq_true, Bool.not_true, Bool.not_false, true_and, and_true, q47_0_0, q47_0_1, q47_1_0, q47_1_6, q47_1_7, q47_2_0, q47_2_3, q47_3_0, q47_3_6, q47_4_0, q47_4_7, q47_5_0, q47_5_5, q47_6_0, q47_6_3, q47_6_4, q47_6_5, q47_6_6, q47_6_7, q47_6_8, q47_6_9, q47_6_10, q47_7_0, q47_7_1, q47_7_2, q47_7_3, q47_7_4, q47_7_5, q47_7_6, q47_7_7, q47_7_8, q47_7_9, q47_7_10, q47_8_0, q47_8_3, Nat.zero_add, hnw1, hc1', hbd, hnw2, hst', hl0, e2, c5', st5, c7', hw, st7, c9']
    have hvd : verdF xs bad = (⟨(p1.1 : Int), p2.1, (p3.1 : Int) - 1, (schedF p4.1 p4.2.1 p4.2.2).1⟩, (schedF p4.1 p4.2.1 p4.2.2).2.1, (schedF p4.1 p4.2.1 p4.2.2).2.2) := by
      simp only [verdF, hb1, hb2, hb3, hb4, h2, if_true]; rfl
    have hL := loop47 (n := n) (d := ⟨(p1.1 : Int), p2.1, (p3.1 : Int) - 1, []⟩) (by omega) hlf p4.1 s9 p4.2.1 p4.2.2 [] (.slice none 0 0) (setL 4 (.int .i64 (p4.1 : Int)) (setL 3 (.pointer (some ⟨s.next + 1, 0, none⟩)) (setL 2 (.pointer (some ⟨s.next, 0, none⟩)) (.cons 0 (.pointer (some ⟨br, 0, none⟩)) .nil)))) (.cons 27 (.int .i64 (p4.1 : Int)) (.cons 26 (.pointer (some ⟨br, 0, none⟩)) (.cons 25 (.pointer (some ⟨br, 0, none⟩)) (.cons 24 (.pointer (some ⟨br, 0, none⟩)) .nil)))) lf (by omega) (by omega) J9 by4 bl4 (by simp only [List.length_nil]; omega) rfl rfl rfl rfl
    refine P_seq (P_block (hL.mono fun e v ds s' h => ?_))
    match e, h with
    | .exit 0, ⟨q1, q2, q3, vs', q4⟩ =>
      subst q1
      exact fun l => fin q4 q2 q3 hvd
  · have e2 : decide (((numF 3 xs bad).1 : Int) = 2) = false := decide_eq_false (by omega)
    simp only [bV_ok, bC_ret, bA_val, bA_enter, bDC_ret, bDA_val, bDA_enter, guard_b, guard_undef, seq_normal, seq_exit, seq_ret, seq_panic, cond_b, block_normal, block_exit, block_ret, block_panic, lkL_cons, lkL_setL, Nat.reduceEqDiff, if_true, if_false, decide_true, decide_false, Bool.true_eq_false, Bool.false_eq_true, bin_add, bin_sub, bin_mul, bin_and, bin_or, bin_eql, bin_neq, bin_lss, bin_leq, bin_gtr, bin_geq, un_not, pick_b, len_slice, nilc, fieldA, conv_int, P_normal, P_ret, P_exit, ne_eq, not_true_eq_false, not_false_eq_true, Bool.not_true, Bool.not_false, true_and, and_true, q47_0_0, q47_0_1, q47_1_0, q47_1_6, q47_1_7, q47_2_0, q47_2_3, q47_3_0, q47_3_6, q47_4_0, q47_4_7, q47_5_0, q47_5_5, q47_6_0, q47_6_3, q47_6_4, q47_6_5, q47_6_6, q47_6_7, q47_6_8, q47_6_9, q47_6_10, q47_7_0, q47_7_1, q47_7_2, q47_7_3, q47_7_4, q47_7_5, q47_7_6, q47_7_7, q47_7_8, q47_7_9, q47_7_10, q47_8_0, q47_8_3, Nat.zero_add, hnw1, hc1', hbd, hnw2, hst', hl0, e2]
    refine fin hJ rfl rfl ?_
    rw [verdF, if_neg h2]
end Go.Proofs.YtbbknbmmpkpgdaaGreatDoor.KAb
