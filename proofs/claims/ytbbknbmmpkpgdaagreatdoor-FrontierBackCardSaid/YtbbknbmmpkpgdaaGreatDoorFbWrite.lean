/- The writer of a frontier's bytes, and what may be written. -/
import Derived.Test.YtbbknbmmpkpgdaaGreatDoorFbRead
set_option linter.unusedSimpArgs false
set_option linter.unusedVariables false
namespace Go.Proofs.YtbbknbmmpkpgdaaGreatDoor.KAb
/-! simp looks at what runs first, and leaves what comes behind until it is reached. -/
section
variable {v l : L} {ds : DS} {cf : CF} {pk : PanK} {base : Nat} {hist : List AS} {chks : List Chk}
@[congr] theorem bV_cong {r r' : V} {k : Value → Out} (h : r = r') : bV r k = bV r' k := by rw [h]
@[congr] theorem bC_cong {r r' : CRes} {k : Value → AS → Out} (h : r = r') : bC v l ds r k = bC v l ds r' k := by rw [h]
@[congr] theorem bA_cong {r r' : R} {k : DS → Value → AS → Out} (h : r = r') : bA cf v l ds r k = bA cf v l ds r' k := by rw [h]
@[congr] theorem bDC_cong {r r' : CRes} {k : Value → AS → Out} (h : r = r') : bDC pk base v ds hist chks r k = bDC pk base v ds hist chks r' k := by rw [h]
@[congr] theorem bDA_cong {r r' : R} {k : Value → AS → Out} (h : r = r') : bDA pk cf base v ds hist chks r k = bDA pk cf base v ds hist chks r' k := by rw [h]
@[congr] theorem guard_cong {c c' : WN} {x y : Out} (h : c = c') : guardRun c x y = guardRun c' x y := by rw [h]
@[congr] theorem cond_cong {c c' : Value} {x y : Out} (h : c = c') : condK c x y = condK c' x y := by rw [h]
@[congr] theorem seq_cong {o o' : Out} {k : L → L → DS → AS → Out} (h : o = o') : seqK o k = seqK o' k := by rw [h]
@[congr] theorem block_cong {i : Nat} {o o' : Out} (h : o = o') : blockK i o = blockK i o' := by rw [h]
@[congr] theorem P_cong {o o' : Out} {Q : Ex → L → DS → AS → Prop} (h : o = o') : o.P Q = o'.P Q := by rw [h]
end
section
variable {P : Program} {masks : Nat → Nat} {m lf : Nat} {fn : Func} {cf : CF} {o : Out} {R : Value → AS → Prop} {v : L} {ds : DS} {s : AS}
/-- What a function's body has to leave behind. -/
def Aft (P : Program) (m : Nat) (fn : Func) (R : Value → AS → Prop) (e : Ex) (v : L) (ds : DS) (s : AS) : Prop := match e with
  | .normal => ds = [] ∧ ∀ l, (resOf P m fn v l s).P R
  | .ret => ds = [] ∧ ∀ l, (resOf P m fn v l s).P R
  | _ => False
theorem aft_normal : Aft P m fn R .normal v ds s = (ds = [] ∧ ∀ l, (resOf P m fn v l s).P R) := rfl
theorem aft_ret : Aft P m fn R .ret v ds s = (ds = [] ∧ ∀ l, (resOf P m fn v l s).P R) := rfl
theorem P_aft (h : o.P (Aft P m fn R)) : (afterBody P masks m cf lf fn o).P R := P_after (h.mono fun e v ds s h => by cases e <;> exact h)
end
end Go.Proofs.YtbbknbmmpkpgdaaGreatDoor.KAb
namespace Go.Proofs.YtbbknbmmpkpgdaaGreatDoor.KAb
theorem Own.ints {s : AS} {k : IntKind} {el : TypeId} {v : Value} {xs : List Int} (h : Own s k el v xs) (hel : Pz.cellsOf el = 1) : Ints s k v xs := by
  rcases h with ⟨h1, h2⟩ | ⟨b, h1, h2⟩
  · exact .inl ⟨h1, h2⟩
  · exact .inr ⟨b, 0, _, _, el, false, h1, by rw [half21]; omega, h2, fun _ => hel, by intro i hi; simp [hi]⟩
theorem Ints.fr {X : Nat → Prop} {s s' : AS} {k : IntKind} {v : Value} {xs : List Int} (h : Ints s k v xs) (hF : s.F) (hf : Fr X s s') (hX : ∀ b o, s.get b = some o → ¬ X b) : Ints s' k v xs := h.keep fun b off n c hv => by
  rcases h with ⟨rfl, _⟩ | ⟨b', off', c', cs, el', ro, h1, _, h3, _⟩
  · cases hv
  · rw [h1] at hv
    cases hv
    exact hf.same _ (hF.lt h3) (hX _ _ h3)
theorem Ints.new {s : AS} {k : IntKind} {v : Value} {xs : List Int} (h : Ints s k v xs) (hF : s.F) (o : AObj) : Ints (s.new o) k v xs := h.fr hF (Fr.new (fun _ => False) s o) fun _ _ _ h => h
theorem Ints.scal {s : AS} {k : IntKind} {v : Value} {xs : List Int} (h : Ints s k v xs) : KAb.scal v = true := by
  rcases h with ⟨rfl, _⟩ | ⟨_, _, _, _, _, _, rfl, _⟩ <;> rfl
theorem res49 {v l : L} {s : AS} : resOf Pz 5 Go.Proofs.Tryz.f49 v l s = .ret (lkL 2 v poison) s := res1 (by kernel_rfl) (by kernel_rfl)
set_option maxRecDepth 100000 in
theorem whole_ok {B lf n : Nat} (hn : 1 ≤ n) {s : AS} {br : Nat} {xs : List Int} {bad : Bool} (hR : RdAt B s br xs bad) :
    (Cl lf n 49 [.pointer (some ⟨br, 0, none⟩)] s).P fun x s' => x = .bool (!bad && decide (xs = [])) ∧ s' = s := by
  obtain ⟨n, rfl⟩ : ∃ m, n = m + 1 := ⟨n - 1, by omega⟩
  obtain ⟨vb, el, hg, hI, hne⟩ := hR
  have hl0 : load1 (.pointer (some ⟨br, 0, none⟩)) s = .ok vb := load1_of hg rfl
  have hl1 : load1 (.pointer (some ⟨br, 1, none⟩)) s = .ok (.bool bad) := load1_of hg rfl
  have hlen := hI.len
  rewrite [Cl, aCall_succ]
  rewrite [fn49, c49]
  refine P_after ?_
  cases bad with
  | true =>
    simp -implicitDefEqProofs only [bV_ok, bC_ret, bA_val, bA_enter, bDC_ret, bDA_val, bDA_enter, guard_b, guard_undef, seq_normal, seq_exit, seq_ret, seq_panic, cond_b, block_normal, block_exit, block_ret, block_panic, lkL_cons, lkL_setL, Nat.reduceEqDiff, if_true, if_false, ↓reduceIte, decide_true, decide_false, Bool.true_eq_false, Bool.false_eq_true, bin_add, bin_sub, bin_mul, bin_and, bin_or, bin_eql, bin_neq, bin_lss, bin_leq, bin_gtr, bin_geq, un_not, pick_b, len_slice, nilc, fieldA, conv_int, P_normal, P_ret, P_exit, ne_eq, not_true_eq_false, not_false_eq_true, Bool.not_true, Bool.not_false, true_and, and_true, q49_0_0, q49_0_1, q49_1_0, q49_1_7, q49_1_8, q49_1_9, q49_1_10, q49_1_11, q49_1_12, q49_1_13, q49_1_14, q49_1_16, Nat.zero_add, hl1, res49]
    exact fun _ => ⟨rfl, rfl⟩
  | false =>
    by_cases h : xs = []
    · have e : decide ((xs.length : Int) = 0) = true := decide_eq_true (by rw [h]; rfl)
      simp -implicitDefEqProofs only [bV_ok, bC_ret, bA_val, bA_enter, bDC_ret, bDA_val, bDA_enter, guard_b, guard_undef, seq_normal, seq_exit, seq_ret, seq_panic, cond_b, block_normal, block_exit, block_ret, block_panic, lkL_cons, lkL_setL, Nat.reduceEqDiff, if_true, if_false, ↓reduceIte, decide_true, decide_false, Bool.true_eq_false, Bool.false_eq_true, bin_add, bin_sub, bin_mul, bin_and, bin_or, bin_eql, bin_neq, bin_lss, bin_leq, bin_gtr, bin_geq, un_not, pick_b, len_slice, nilc, fieldA, conv_int, P_normal, P_ret, P_exit, ne_eq, not_true_eq_false, not_false_eq_true, Bool.not_true, Bool.not_false, true_and, and_true, q49_0_0, q49_0_1, q49_1_0, q49_1_7, q49_1_8, q49_1_9, q49_1_10, q49_1_11, q49_1_12, q49_1_13, q49_1_14, q49_1_16, Nat.zero_add, hl0, hl1, hlen, e, res49]
      exact fun _ => ⟨by simp [h], rfl⟩
    · have e : decide ((xs.length : Int) = 0) = false := decide_eq_false (by have := List.length_pos_iff.2 h; omega)
      simp -implicitDefEqProofs only [bV_ok, bC_ret, bA_val, bA_enter, bDC_ret, bDA_val, bDA_enter, guard_b, guard_undef, seq_normal, seq_exit, seq_ret, seq_panic, cond_b, block_normal, block_exit, block_ret, block_panic, lkL_cons, lkL_setL, Nat.reduceEqDiff, if_true, if_false, ↓reduceIte, decide_true, decide_false, Bool.true_eq_false, Bool.false_eq_true, bin_add, bin_sub, bin_mul, bin_and, bin_or, bin_eql, bin_neq, bin_lss, bin_leq, bin_gtr, bin_geq, un_not, pick_b, len_slice, nilc, fieldA, conv_int, P_normal, P_ret, P_exit, ne_eq, not_true_eq_false, not_false_eq_true, Bool.not_true, Bool.not_false, true_and, and_true, q49_0_0, q49_0_1, q49_1_0, q49_1_7, q49_1_8, q49_1_9, q49_1_10, q49_1_11, q49_1_12, q49_1_13, q49_1_14, q49_1_16, Nat.zero_add, hl0, hl1, hlen, e, res49]
      exact fun _ => ⟨by simp [h], rfl⟩
/-- A verdict that may be written. -/
def okV (d : Vd) : Bool := if d.kind < 0 then false else if 3 < d.kind then false else
  if d.kind = 2 then (if 2 ≤ d.how then if d.how ≤ 5 then (if (if d.how = 4 then d.who = -1 else 0 ≤ d.who ∧ d.who < 16) then if d.sched.length ≤ 1048577 then allB 0 15 d.sched else false else false) else false else false)
  else if d.how = 0 then if d.who = 0 then decide (d.sched.length = 0) else false else false
theorem res45 {v l : L} {s : AS} : resOf Pz 15 Go.Proofs.Tryz.f45 v l s = .ret (lkL 2 v poison) s := res1 (by kernel_rfl) (by kernel_rfl)
set_option maxRecDepth 100000 in
theorem okV_ok {lf n : Nat} (hn : 2 ≤ n) {s : AS} {d : Vd} {vs : Value} (hI : Ints s .i64 vs d.sched) (hF : s.F) (hlf : 1000000000 ≤ lf) :
    (Cl lf n 45 [.agg (d.cells vs).toArray] s).P fun x s' => x = .bool (okV d) ∧ Fr (fun _ => False) s s' ∧ s'.F := by
  obtain ⟨n, rfl⟩ : ∃ m, n = m + 2 := ⟨n - 2, by omega⟩
  have hb := box_agg 36 (d.cells vs).toArray s
  rewrite [Cl, aCall_succ]
  rewrite [fn45, c45]
  refine P_aft ?_
  have hg : (s.new (.row (d.cells vs) 36 false)).get s.next = some (.row (d.cells vs) 36 false) := new_get _ _
  have hI' := hI.new hF (.row (d.cells vs) 36 false)
  have hfr := Fr.new (fun _ => False) s (.row (d.cells vs) 36 false)
  have hF' : (s.new (.row (d.cells vs) 36 false)).F := hF.new _
  simp only [List.toList_toArray] at hb
  generalize s.new (.row (d.cells vs) 36 false) = s' at *
  have l0 : load1 (.pointer (some ⟨s.next, 0, none⟩)) s' = .ok (.int .i64 d.kind) := load1_of hg rfl
  have l1 : load1 (.pointer (some ⟨s.next, 1, none⟩)) s' = .ok (.int .i64 d.how) := load1_of hg rfl
  have l2 : load1 (.pointer (some ⟨s.next, 2, none⟩)) s' = .ok (.int .i64 d.who) := load1_of hg rfl
  have l3 : load1 (.pointer (some ⟨s.next, 3, none⟩)) s' = .ok vs := load1_of hg rfl
  have hln := hI'.len
  have fin : ∀ {b : Bool}, b = okV d → Value.bool b = .bool (okV d) ∧ Fr (fun _ => False) s s' ∧ s'.F := fun h => ⟨by rw [h], hfr, hF'⟩
  by_cases k0 : d.kind < 0
  · simp -implicitDefEqProofs only [aft_normal, aft_ret, bV_ok, bC_ret, bA_val, bA_enter, bDC_ret, bDA_val, bDA_enter, guard_b, guard_undef, seq_normal, seq_exit, seq_ret, seq_panic, cond_b, block_normal, block_exit, block_ret, block_panic, lkL_cons, lkL_setL, Nat.reduceEqDiff, if_true, if_false, ↓reduceIte, decide_true, decide_false, Bool.true_eq_false, Bool.false_eq_true, bin_add, bin_sub, bin_mul, bin_and, bin_or, bin_eql, bin_neq, bin_lss, bin_leq, bin_gtr, bin_geq, un_not, pick_b, len_slice, nilc, fieldA, conv_int, P_normal, P_ret, P_exit, ne_eq, not_true_eq_false, not_false_eq_true, Bool.not_true, Bool.not_false, true_and, and_true, q45_0_0, q45_0_1, q45_0_2, q45_1_0, q45_1_4, q45_1_5, q45_1_6, q45_1_7, q45_1_8, q45_2_0, q45_2_1, q45_3_0, q45_3_3, q45_4_0, q45_4_4, q45_4_5, q45_4_6, q45_4_7, q45_4_9, q45_4_10, q45_4_11, q45_4_12, q45_4_13, q45_4_15, q45_5_0, q45_5_4, q45_5_5, q45_5_6, q45_5_7, q45_5_9, q45_6_0, q45_6_3, q45_7_0, q45_7_4, q45_8_0, q45_8_4, q45_8_5, q45_8_6, q45_8_7, q45_8_9, q45_8_10, q45_8_12, q45_8_13, q45_8_14, q45_8_15, q45_8_16, q45_8_18, q45_8_19, q45_8_20, q45_8_21, q45_8_23, Nat.zero_add, hb, l0, k0, res45]
    exact fun _ => fin (by simp [okV, k0])
  by_cases k3 : 3 < d.kind
  · simp -implicitDefEqProofs only [aft_normal, aft_ret, bV_ok, bC_ret, bA_val, bA_enter, bDC_ret, bDA_val, bDA_enter, guard_b, guard_undef, seq_normal, seq_exit, seq_ret, seq_panic, cond_b, block_normal, block_exit, block_ret, block_panic, lkL_cons, lkL_setL, Nat.reduceEqDiff, if_true, if_false, ↓reduceIte, decide_true, decide_false, Bool.true_eq_false, Bool.false_eq_true, bin_add, bin_sub, bin_mul, bin_and, bin_or, bin_eql, bin_neq, bin_lss, bin_leq, bin_gtr, bin_geq, un_not, pick_b, len_slice, nilc, fieldA, conv_int, P_normal, P_ret, P_exit, ne_eq, not_true_eq_false, not_false_eq_true, Bool.not_true, Bool.not_false, true_and, and_true, q45_0_0, q45_0_1, q45_0_2, q45_1_0, q45_1_4, q45_1_5, q45_1_6, q45_1_7, q45_1_8, q45_2_0, q45_2_1, q45_3_0, q45_3_3, q45_4_0, q45_4_4, q45_4_5, q45_4_6, q45_4_7, q45_4_9, q45_4_10, q45_4_11, q45_4_12, q45_4_13, q45_4_15, q45_5_0, q45_5_4, q45_5_5, q45_5_6, q45_5_7, q45_5_9, q45_6_0, q45_6_3, q45_7_0, q45_7_4, q45_8_0, q45_8_4, q45_8_5, q45_8_6, q45_8_7, q45_8_9, q45_8_10, q45_8_12, q45_8_13, q45_8_14, q45_8_15, q45_8_16, q45_8_18, q45_8_19, q45_8_20, q45_8_21, q45_8_23, Nat.zero_add, hb, l0, k0, k3, res45]
    exact fun _ => fin (by simp [okV, k3])
  by_cases k2 : d.kind = 2
  · have e2 : decide (d.kind = 2) = true := decide_eq_true k2
    have key : ∀ (v : L) (b3 : Bool), lkL 1 v poison = .pointer (some ⟨s.next, 0, none⟩) → lkL 3 v poison = .bool b3 → okV d = (if 2 ≤ d.how then if d.how ≤ 5 then (if b3 = true then if d.sched.length ≤ 1048577 then allB 0 15 d.sched else false else false) else false else false) →
        (seqK ((o45_8 0).run (aCall Pz masks lf (n + 1)) v .nil [] s') fun v l ds s => .ret v l ds s).P (Aft Pz 15 Go.Proofs.Tryz.f45 fun x s' => x = .bool (okV d) ∧ Fr (fun _ => False) s s' ∧ s'.F) := by
      intro v b3 v1 v3 he
      by_cases h2 : 2 ≤ d.how
      · by_cases h5 : d.how ≤ 5
        · cases b3 with
          | false =>
            simp -implicitDefEqProofs only [aft_normal, aft_ret, bV_ok, bC_ret, bA_val, bA_enter, bDC_ret, bDA_val, bDA_enter, guard_b, guard_undef, seq_normal, seq_exit, seq_ret, seq_panic, cond_b, block_normal, block_exit, block_ret, block_panic, lkL_cons, lkL_setL, Nat.reduceEqDiff, if_true, if_false, ↓reduceIte, decide_true, decide_false, Bool.true_eq_false, Bool.false_eq_true, bin_add, bin_sub, bin_mul, bin_and, bin_or, bin_eql, bin_neq, bin_lss, bin_leq, bin_gtr, bin_geq, un_not, pick_b, len_slice, nilc, fieldA, conv_int, P_normal, P_ret, P_exit, ne_eq, not_true_eq_false, not_false_eq_true, Bool.not_true, Bool.not_false, true_and, and_true, q45_0_0, q45_0_1, q45_0_2, q45_1_0, q45_1_4, q45_1_5, q45_1_6, q45_1_7, q45_1_8, q45_2_0, q45_2_1, q45_3_0, q45_3_3, q45_4_0, q45_4_4, q45_4_5, q45_4_6, q45_4_7, q45_4_9, q45_4_10, q45_4_11, q45_4_12, q45_4_13, q45_4_15, q45_5_0, q45_5_4, q45_5_5, q45_5_6, q45_5_7, q45_5_9, q45_6_0, q45_6_3, q45_7_0, q45_7_4, q45_8_0, q45_8_4, q45_8_5, q45_8_6, q45_8_7, q45_8_9, q45_8_10, q45_8_12, q45_8_13, q45_8_14, q45_8_15, q45_8_16, q45_8_18, q45_8_19, q45_8_20, q45_8_21, q45_8_23, Nat.zero_add, v1, v3, l1, h2, h5, res45]
            exact fun _ => fin (by rw [he]; simp)
          | true =>
            by_cases hl : d.sched.length ≤ 1048577
            · have hl' : (d.sched.length : Int) ≤ 1048577 := by omega
              obtain ⟨x, s2, ha, rfl, rfl⟩ := (all_ok (cf := aCall Pz masks lf n) (lo := 0) (hi := 15) hI' (by omega) hlf).inv
              have ha' : (aCall Pz masks lf (n + 1)).call 102 [vs, .int .i64 0, .int .i64 15] s2 = .ret (.bool (allB 0 15 d.sched)) s2 := ha
              simp -implicitDefEqProofs only [aft_normal, aft_ret, bV_ok, bC_ret, bA_val, bA_enter, bDC_ret, bDA_val, bDA_enter, guard_b, guard_undef, seq_normal, seq_exit, seq_ret, seq_panic, cond_b, block_normal, block_exit, block_ret, block_panic, lkL_cons, lkL_setL, Nat.reduceEqDiff, if_true, if_false, ↓reduceIte, decide_true, decide_false, Bool.true_eq_false, Bool.false_eq_true, bin_add, bin_sub, bin_mul, bin_and, bin_or, bin_eql, bin_neq, bin_lss, bin_leq, bin_gtr, bin_geq, un_not, pick_b, len_slice, nilc, fieldA, conv_int, P_normal, P_ret, P_exit, ne_eq, not_true_eq_false, not_false_eq_true, Bool.not_true, Bool.not_false, true_and, and_true, q45_0_0, q45_0_1, q45_0_2, q45_1_0, q45_1_4, q45_1_5, q45_1_6, q45_1_7, q45_1_8, q45_2_0, q45_2_1, q45_3_0, q45_3_3, q45_4_0, q45_4_4, q45_4_5, q45_4_6, q45_4_7, q45_4_9, q45_4_10, q45_4_11, q45_4_12, q45_4_13, q45_4_15, q45_5_0, q45_5_4, q45_5_5, q45_5_6, q45_5_7, q45_5_9, q45_6_0, q45_6_3, q45_7_0, q45_7_4, q45_8_0, q45_8_4, q45_8_5, q45_8_6, q45_8_7, q45_8_9, q45_8_10, q45_8_12, q45_8_13, q45_8_14, q45_8_15, q45_8_16, q45_8_18, q45_8_19, q45_8_20, q45_8_21, q45_8_23, Nat.zero_add, v1, v3, l1, l3, hln, h2, h5, hl', ha', res45]
              exact fun _ => fin (by rw [he]; simp [h2, h5, hl])
            · have hl' : ¬ (d.sched.length : Int) ≤ 1048577 := by omega
              simp -implicitDefEqProofs only [aft_normal, aft_ret, bV_ok, bC_ret, bA_val, bA_enter, bDC_ret, bDA_val, bDA_enter, guard_b, guard_undef, seq_normal, seq_exit, seq_ret, seq_panic, cond_b, block_normal, block_exit, block_ret, block_panic, lkL_cons, lkL_setL, Nat.reduceEqDiff, if_true, if_false, ↓reduceIte, decide_true, decide_false, Bool.true_eq_false, Bool.false_eq_true, bin_add, bin_sub, bin_mul, bin_and, bin_or, bin_eql, bin_neq, bin_lss, bin_leq, bin_gtr, bin_geq, un_not, pick_b, len_slice, nilc, fieldA, conv_int, P_normal, P_ret, P_exit, ne_eq, not_true_eq_false, not_false_eq_true, Bool.not_true, Bool.not_false, true_and, and_true, q45_0_0, q45_0_1, q45_0_2, q45_1_0, q45_1_4, q45_1_5, q45_1_6, q45_1_7, q45_1_8, q45_2_0, q45_2_1, q45_3_0, q45_3_3, q45_4_0, q45_4_4, q45_4_5, q45_4_6, q45_4_7, q45_4_9, q45_4_10, q45_4_11, q45_4_12, q45_4_13, q45_4_15, q45_5_0, q45_5_4, q45_5_5, q45_5_6, q45_5_7, q45_5_9, q45_6_0, q45_6_3, q45_7_0, q45_7_4, q45_8_0, q45_8_4, q45_8_5, q45_8_6, q45_8_7, q45_8_9, q45_8_10, q45_8_12, q45_8_13, q45_8_14, q45_8_15, q45_8_16, q45_8_18, q45_8_19, q45_8_20, q45_8_21, q45_8_23, Nat.zero_add, v1, v3, l1, l3, hln, h2, h5, hl', res45]
              exact fun _ => fin (by rw [he]; simp [hl])
        · simp -implicitDefEqProofs only [aft_normal, aft_ret, bV_ok, bC_ret, bA_val, bA_enter, bDC_ret, bDA_val, bDA_enter, guard_b, guard_undef, seq_normal, seq_exit, seq_ret, seq_panic, cond_b, block_normal, block_exit, block_ret, block_panic, lkL_cons, lkL_setL, Nat.reduceEqDiff, if_true, if_false, ↓reduceIte, decide_true, decide_false, Bool.true_eq_false, Bool.false_eq_true, bin_add, bin_sub, bin_mul, bin_and, bin_or, bin_eql, bin_neq, bin_lss, bin_leq, bin_gtr, bin_geq, un_not, pick_b, len_slice, nilc, fieldA, conv_int, P_normal, P_ret, P_exit, ne_eq, not_true_eq_false, not_false_eq_true, Bool.not_true, Bool.not_false, true_and, and_true, q45_0_0, q45_0_1, q45_0_2, q45_1_0, q45_1_4, q45_1_5, q45_1_6, q45_1_7, q45_1_8, q45_2_0, q45_2_1, q45_3_0, q45_3_3, q45_4_0, q45_4_4, q45_4_5, q45_4_6, q45_4_7, q45_4_9, q45_4_10, q45_4_11, q45_4_12, q45_4_13, q45_4_15, q45_5_0, q45_5_4, q45_5_5, q45_5_6, q45_5_7, q45_5_9, q45_6_0, q45_6_3, q45_7_0, q45_7_4, q45_8_0, q45_8_4, q45_8_5, q45_8_6, q45_8_7, q45_8_9, q45_8_10, q45_8_12, q45_8_13, q45_8_14, q45_8_15, q45_8_16, q45_8_18, q45_8_19, q45_8_20, q45_8_21, q45_8_23, Nat.zero_add, v1, v3, l1, h2, h5, res45]
          exact fun _ => fin (by rw [he]; simp [h5])
      · simp -implicitDefEqProofs only [aft_normal, aft_ret, bV_ok, bC_ret, bA_val, bA_enter, bDC_ret, bDA_val, bDA_enter, guard_b, guard_undef, seq_normal, seq_exit, seq_ret, seq_panic, cond_b, block_normal, block_exit, block_ret, block_panic, lkL_cons, lkL_setL, Nat.reduceEqDiff, if_true, if_false, ↓reduceIte, decide_true, decide_false, Bool.true_eq_false, Bool.false_eq_true, bin_add, bin_sub, bin_mul, bin_and, bin_or, bin_eql, bin_neq, bin_lss, bin_leq, bin_gtr, bin_geq, un_not, pick_b, len_slice, nilc, fieldA, conv_int, P_normal, P_ret, P_exit, ne_eq, not_true_eq_false, not_false_eq_true, Bool.not_true, Bool.not_false, true_and, and_true, q45_0_0, q45_0_1, q45_0_2, q45_1_0, q45_1_4, q45_1_5, q45_1_6, q45_1_7, q45_1_8, q45_2_0, q45_2_1, q45_3_0, q45_3_3, q45_4_0, q45_4_4, q45_4_5, q45_4_6, q45_4_7, q45_4_9, q45_4_10, q45_4_11, q45_4_12, q45_4_13, q45_4_15, q45_5_0, q45_5_4, q45_5_5, q45_5_6, q45_5_7, q45_5_9, q45_6_0, q45_6_3, q45_7_0, q45_7_4, q45_8_0, q45_8_4, q45_8_5, q45_8_6, q45_8_7, q45_8_9, q45_8_10, q45_8_12, q45_8_13, q45_8_14, q45_8_15, q45_8_16, q45_8_18, q45_8_19, q45_8_20, q45_8_21, q45_8_23, Nat.zero_add, v1, v3, l1, h2, res45]
        exact fun _ => fin (by rw [he]; simp [h2])
    have ho : okV d = (if 2 ≤ d.how then if d.how ≤ 5 then (if (if d.how = 4 then d.who = -1 else 0 ≤ d.who ∧ d.who < 16) then if d.sched.length ≤ 1048577 then allB 0 15 d.sched else false else false) else false else false) := by
      rw [okV, if_neg k0, if_neg k3, if_pos k2]
    rcases h4 : decide (d.how = 4) with _ | _
    · have h4' : ¬ d.how = 4 := of_decide_eq_false h4
      by_cases w0 : 0 ≤ d.who
      · by_cases w1 : d.who < 16
        · simp -implicitDefEqProofs only [aft_normal, aft_ret, bV_ok, bC_ret, bA_val, bA_enter, bDC_ret, bDA_val, bDA_enter, guard_b, guard_undef, seq_normal, seq_exit, seq_ret, seq_panic, cond_b, block_normal, block_exit, block_ret, block_panic, lkL_cons, lkL_setL, Nat.reduceEqDiff, if_true, if_false, ↓reduceIte, decide_true, decide_false, Bool.true_eq_false, Bool.false_eq_true, bin_add, bin_sub, bin_mul, bin_and, bin_or, bin_eql, bin_neq, bin_lss, bin_leq, bin_gtr, bin_geq, un_not, pick_b, len_slice, nilc, fieldA, conv_int, P_normal, P_ret, P_exit, ne_eq, not_true_eq_false, not_false_eq_true, Bool.not_true, Bool.not_false, true_and, and_true, q45_0_0, q45_0_1, q45_0_2, q45_1_0, q45_1_4, q45_1_5, q45_1_6, q45_1_7, q45_1_8, q45_2_0, q45_2_1, q45_3_0, q45_3_3, q45_4_0, q45_4_4, q45_4_5, q45_4_6, q45_4_7, q45_4_9, q45_4_10, q45_4_11, q45_4_12, q45_4_13, q45_4_15, q45_5_0, q45_5_4, q45_5_5, q45_5_6, q45_5_7, q45_5_9, q45_6_0, q45_6_3, q45_7_0, q45_7_4, Nat.zero_add, hb, l0, l1, l2, k0, k3, e2, h4, w0, w1]
          exact key _ _ rfl rfl (by rw [ho]; simp [h4', w0, w1])
        · simp -implicitDefEqProofs only [aft_normal, aft_ret, bV_ok, bC_ret, bA_val, bA_enter, bDC_ret, bDA_val, bDA_enter, guard_b, guard_undef, seq_normal, seq_exit, seq_ret, seq_panic, cond_b, block_normal, block_exit, block_ret, block_panic, lkL_cons, lkL_setL, Nat.reduceEqDiff, if_true, if_false, ↓reduceIte, decide_true, decide_false, Bool.true_eq_false, Bool.false_eq_true, bin_add, bin_sub, bin_mul, bin_and, bin_or, bin_eql, bin_neq, bin_lss, bin_leq, bin_gtr, bin_geq, un_not, pick_b, len_slice, nilc, fieldA, conv_int, P_normal, P_ret, P_exit, ne_eq, not_true_eq_false, not_false_eq_true, Bool.not_true, Bool.not_false, true_and, and_true, q45_0_0, q45_0_1, q45_0_2, q45_1_0, q45_1_4, q45_1_5, q45_1_6, q45_1_7, q45_1_8, q45_2_0, q45_2_1, q45_3_0, q45_3_3, q45_4_0, q45_4_4, q45_4_5, q45_4_6, q45_4_7, q45_4_9, q45_4_10, q45_4_11, q45_4_12, q45_4_13, q45_4_15, q45_5_0, q45_5_4, q45_5_5, q45_5_6, q45_5_7, q45_5_9, q45_6_0, q45_6_3, q45_7_0, q45_7_4, Nat.zero_add, hb, l0, l1, l2, k0, k3, e2, h4, w0, w1]
          exact key _ _ rfl rfl (by rw [ho]; simp [h4', w0, w1])
      · simp -implicitDefEqProofs only [aft_normal, aft_ret, bV_ok, bC_ret, bA_val, bA_enter, bDC_ret, bDA_val, bDA_enter, guard_b, guard_undef, seq_normal, seq_exit, seq_ret, seq_panic, cond_b, block_normal, block_exit, block_ret, block_panic, lkL_cons, lkL_setL, Nat.reduceEqDiff, if_true, if_false, ↓reduceIte, decide_true, decide_false, Bool.true_eq_false, Bool.false_eq_true, bin_add, bin_sub, bin_mul, bin_and, bin_or, bin_eql, bin_neq, bin_lss, bin_leq, bin_gtr, bin_geq, un_not, pick_b, len_slice, nilc, fieldA, conv_int, P_normal, P_ret, P_exit, ne_eq, not_true_eq_false, not_false_eq_true, Bool.not_true, Bool.not_false, true_and, and_true, q45_0_0, q45_0_1, q45_0_2, q45_1_0, q45_1_4, q45_1_5, q45_1_6, q45_1_7, q45_1_8, q45_2_0, q45_2_1, q45_3_0, q45_3_3, q45_4_0, q45_4_4, q45_4_5, q45_4_6, q45_4_7, q45_4_9, q45_4_10, q45_4_11, q45_4_12, q45_4_13, q45_4_15, q45_5_0, q45_5_4, q45_5_5, q45_5_6, q45_5_7, q45_5_9, q45_6_0, q45_6_3, q45_7_0, q45_7_4, Nat.zero_add, hb, l0, l1, l2, k0, k3, e2, h4, w0]
        exact key _ _ rfl rfl (by rw [ho]; simp [h4', w0])
    · have h4' : d.how = 4 := of_decide_eq_true h4
      by_cases w0 : 0 ≤ d.who
      · by_cases w1 : d.who < 16
        · simp -implicitDefEqProofs only [aft_normal, aft_ret, bV_ok, bC_ret, bA_val, bA_enter, bDC_ret, bDA_val, bDA_enter, guard_b, guard_undef, seq_normal, seq_exit, seq_ret, seq_panic, cond_b, block_normal, block_exit, block_ret, block_panic, lkL_cons, lkL_setL, Nat.reduceEqDiff, if_true, if_false, ↓reduceIte, decide_true, decide_false, Bool.true_eq_false, Bool.false_eq_true, bin_add, bin_sub, bin_mul, bin_and, bin_or, bin_eql, bin_neq, bin_lss, bin_leq, bin_gtr, bin_geq, un_not, pick_b, len_slice, nilc, fieldA, conv_int, P_normal, P_ret, P_exit, ne_eq, not_true_eq_false, not_false_eq_true, Bool.not_true, Bool.not_false, true_and, and_true, q45_0_0, q45_0_1, q45_0_2, q45_1_0, q45_1_4, q45_1_5, q45_1_6, q45_1_7, q45_1_8, q45_2_0, q45_2_1, q45_3_0, q45_3_3, q45_4_0, q45_4_4, q45_4_5, q45_4_6, q45_4_7, q45_4_9, q45_4_10, q45_4_11, q45_4_12, q45_4_13, q45_4_15, q45_5_0, q45_5_4, q45_5_5, q45_5_6, q45_5_7, q45_5_9, q45_6_0, q45_6_3, q45_7_0, q45_7_4, Nat.zero_add, hb, l0, l1, l2, k0, k3, e2, h4, w0, w1]
          exact key _ _ rfl rfl (by rw [ho]; simp [h4'])
        · simp -implicitDefEqProofs only [aft_normal, aft_ret, bV_ok, bC_ret, bA_val, bA_enter, bDC_ret, bDA_val, bDA_enter, guard_b, guard_undef, seq_normal, seq_exit, seq_ret, seq_panic, cond_b, block_normal, block_exit, block_ret, block_panic, lkL_cons, lkL_setL, Nat.reduceEqDiff, if_true, if_false, ↓reduceIte, decide_true, decide_false, Bool.true_eq_false, Bool.false_eq_true, bin_add, bin_sub, bin_mul, bin_and, bin_or, bin_eql, bin_neq, bin_lss, bin_leq, bin_gtr, bin_geq, un_not, pick_b, len_slice, nilc, fieldA, conv_int, P_normal, P_ret, P_exit, ne_eq, not_true_eq_false, not_false_eq_true, Bool.not_true, Bool.not_false, true_and, and_true, q45_0_0, q45_0_1, q45_0_2, q45_1_0, q45_1_4, q45_1_5, q45_1_6, q45_1_7, q45_1_8, q45_2_0, q45_2_1, q45_3_0, q45_3_3, q45_4_0, q45_4_4, q45_4_5, q45_4_6, q45_4_7, q45_4_9, q45_4_10, q45_4_11, q45_4_12, q45_4_13, q45_4_15, q45_5_0, q45_5_4, q45_5_5, q45_5_6, q45_5_7, q45_5_9, q45_6_0, q45_6_3, q45_7_0, q45_7_4, Nat.zero_add, hb, l0, l1, l2, k0, k3, e2, h4, w0, w1]
          exact key _ _ rfl rfl (by rw [ho]; simp [h4'])
      · simp -implicitDefEqProofs only [aft_normal, aft_ret, bV_ok, bC_ret, bA_val, bA_enter, bDC_ret, bDA_val, bDA_enter, guard_b, guard_undef, seq_normal, seq_exit, seq_ret, seq_panic, cond_b, block_normal, block_exit, block_ret, block_panic, lkL_cons, lkL_setL, Nat.reduceEqDiff, if_true, if_false, ↓reduceIte, decide_true, decide_false, Bool.true_eq_false, Bool.false_eq_true, bin_add, bin_sub, bin_mul, bin_and, bin_or, bin_eql, bin_neq, bin_lss, bin_leq, bin_gtr, bin_geq, un_not, pick_b, len_slice, nilc, fieldA, conv_int, P_normal, P_ret, P_exit, ne_eq, not_true_eq_false, not_false_eq_true, Bool.not_true, Bool.not_false, true_and, and_true, q45_0_0, q45_0_1, q45_0_2, q45_1_0, q45_1_4, q45_1_5, q45_1_6, q45_1_7, q45_1_8, q45_2_0, q45_2_1, q45_3_0, q45_3_3, q45_4_0, q45_4_4, q45_4_5, q45_4_6, q45_4_7, q45_4_9, q45_4_10, q45_4_11, q45_4_12, q45_4_13, q45_4_15, q45_5_0, q45_5_4, q45_5_5, q45_5_6, q45_5_7, q45_5_9, q45_6_0, q45_6_3, q45_7_0, q45_7_4, Nat.zero_add, hb, l0, l1, l2, k0, k3, e2, h4, w0]
        exact key _ _ rfl rfl (by rw [ho]; simp [h4'])
  · have e2 : decide (d.kind = 2) = false := decide_eq_false k2
    by_cases h1 : d.how = 0
    · have e3 : decide (d.how = 0) = true := decide_eq_true h1
      by_cases h2 : d.who = 0
      · have e4 : decide (d.who = 0) = true := decide_eq_true h2
        have e5 : decide ((d.sched.length : Int) = 0) = decide (d.sched.length = 0) := by simp
        simp -implicitDefEqProofs only [aft_normal, aft_ret, bV_ok, bC_ret, bA_val, bA_enter, bDC_ret, bDA_val, bDA_enter, guard_b, guard_undef, seq_normal, seq_exit, seq_ret, seq_panic, cond_b, block_normal, block_exit, block_ret, block_panic, lkL_cons, lkL_setL, Nat.reduceEqDiff, if_true, if_false, ↓reduceIte, decide_true, decide_false, Bool.true_eq_false, Bool.false_eq_true, bin_add, bin_sub, bin_mul, bin_and, bin_or, bin_eql, bin_neq, bin_lss, bin_leq, bin_gtr, bin_geq, un_not, pick_b, len_slice, nilc, fieldA, conv_int, P_normal, P_ret, P_exit, ne_eq, not_true_eq_false, not_false_eq_true, Bool.not_true, Bool.not_false, true_and, and_true, q45_0_0, q45_0_1, q45_0_2, q45_1_0, q45_1_4, q45_1_5, q45_1_6, q45_1_7, q45_1_8, q45_2_0, q45_2_1, q45_3_0, q45_3_3, q45_4_0, q45_4_4, q45_4_5, q45_4_6, q45_4_7, q45_4_9, q45_4_10, q45_4_11, q45_4_12, q45_4_13, q45_4_15, q45_5_0, q45_5_4, q45_5_5, q45_5_6, q45_5_7, q45_5_9, q45_6_0, q45_6_3, q45_7_0, q45_7_4, q45_8_0, q45_8_4, q45_8_5, q45_8_6, q45_8_7, q45_8_9, q45_8_10, q45_8_12, q45_8_13, q45_8_14, q45_8_15, q45_8_16, q45_8_18, q45_8_19, q45_8_20, q45_8_21, q45_8_23, Nat.zero_add, hb, l0, l1, l2, l3, hln, k0, k3, e2, e3, e4, res45]
        exact fun _ => fin (by simp [okV, k0, k3, k2, h1, h2])
      · have e4 : decide (d.who = 0) = false := decide_eq_false h2
        simp -implicitDefEqProofs only [aft_normal, aft_ret, bV_ok, bC_ret, bA_val, bA_enter, bDC_ret, bDA_val, bDA_enter, guard_b, guard_undef, seq_normal, seq_exit, seq_ret, seq_panic, cond_b, block_normal, block_exit, block_ret, block_panic, lkL_cons, lkL_setL, Nat.reduceEqDiff, if_true, if_false, ↓reduceIte, decide_true, decide_false, Bool.true_eq_false, Bool.false_eq_true, bin_add, bin_sub, bin_mul, bin_and, bin_or, bin_eql, bin_neq, bin_lss, bin_leq, bin_gtr, bin_geq, un_not, pick_b, len_slice, nilc, fieldA, conv_int, P_normal, P_ret, P_exit, ne_eq, not_true_eq_false, not_false_eq_true, Bool.not_true, Bool.not_false, true_and, and_true, q45_0_0, q45_0_1, q45_0_2, q45_1_0, q45_1_4, q45_1_5, q45_1_6, q45_1_7, q45_1_8, q45_2_0, q45_2_1, q45_3_0, q45_3_3, q45_4_0, q45_4_4, q45_4_5, q45_4_6, q45_4_7, q45_4_9, q45_4_10, q45_4_11, q45_4_12, q45_4_13, q45_4_15, q45_5_0, q45_5_4, q45_5_5, q45_5_6, q45_5_7, q45_5_9, q45_6_0, q45_6_3, q45_7_0, q45_7_4, q45_8_0, q45_8_4, q45_8_5, q45_8_6, q45_8_7, q45_8_9, q45_8_10, q45_8_12, q45_8_13, q45_8_14, q45_8_15, q45_8_16, q45_8_18, q45_8_19, q45_8_20, q45_8_21, q45_8_23, Nat.zero_add, hb, l0, l1, l2, l3, hln, k0, k3, e2, e3, e4, res45]
        exact fun _ => fin (by simp [okV, k0, k3, k2, h1, h2])
    · have e3 : decide (d.how = 0) = false := decide_eq_false h1
      simp -implicitDefEqProofs only [aft_normal, aft_ret, bV_ok, bC_ret, bA_val, bA_enter, bDC_ret, bDA_val, bDA_enter, guard_b, guard_undef, seq_normal, seq_exit, seq_ret, seq_panic, cond_b, block_normal, block_exit, block_ret, block_panic, lkL_cons, lkL_setL, Nat.reduceEqDiff, if_true, if_false, ↓reduceIte, decide_true, decide_false, Bool.true_eq_false, Bool.false_eq_true, bin_add, bin_sub, bin_mul, bin_and, bin_or, bin_eql, bin_neq, bin_lss, bin_leq, bin_gtr, bin_geq, un_not, pick_b, len_slice, nilc, fieldA, conv_int, P_normal, P_ret, P_exit, ne_eq, not_true_eq_false, not_false_eq_true, Bool.not_true, Bool.not_false, true_and, and_true, q45_0_0, q45_0_1, q45_0_2, q45_1_0, q45_1_4, q45_1_5, q45_1_6, q45_1_7, q45_1_8, q45_2_0, q45_2_1, q45_3_0, q45_3_3, q45_4_0, q45_4_4, q45_4_5, q45_4_6, q45_4_7, q45_4_9, q45_4_10, q45_4_11, q45_4_12, q45_4_13, q45_4_15, q45_5_0, q45_5_4, q45_5_5, q45_5_6, q45_5_7, q45_5_9, q45_6_0, q45_6_3, q45_7_0, q45_7_4, q45_8_0, q45_8_4, q45_8_5, q45_8_6, q45_8_7, q45_8_9, q45_8_10, q45_8_12, q45_8_13, q45_8_14, q45_8_15, q45_8_16, q45_8_18, q45_8_19, q45_8_20, q45_8_21, q45_8_23, Nat.zero_add, hb, l0, l1, l2, l3, hln, k0, k3, e2, e3, res45]
      exact fun _ => fin (by simp [okV, k0, k3, k2, h1])
end Go.Proofs.YtbbknbmmpkpgdaaGreatDoor.KAb
namespace Go.Proofs.YtbbknbmmpkpgdaaGreatDoor.KAb
/-- A frontier as numbers. -/
structure Fd where
  a : List Int
  b : List Int
  c : List Int
  m : Int
  p : Int
  q : Int
  d : Vd
def Fd.cells (f : Fd) (va vb vc vs : Value) : List Value := va :: vb :: vc :: .int .i64 f.m :: .int .i64 f.p :: .int .i64 f.q :: f.d.cells vs
structure FAt (s : AS) (f : Fd) (va vb vc vs : Value) : Prop where
  ia : Ints s .i64 va f.a
  ib : Ints s .i64 vb f.b
  ic : Ints s .i64 vc f.c
  id : Ints s .i64 vs f.d.sched
theorem FAt.fr {X : Nat → Prop} {s s' : AS} {f : Fd} {va vb vc vs : Value} (h : FAt s f va vb vc vs) (hF : s.F) (hf : Fr X s s') (hX : ∀ b o, s.get b = some o → ¬ X b) : FAt s' f va vb vc vs :=
  ⟨h.ia.fr hF hf hX, h.ib.fr hF hf hX, h.ic.fr hF hf hX, h.id.fr hF hf hX⟩
def okP (f : Fd) : Bool := allB 0 4611686018427387904 [f.p, f.q]
/-- A frontier that may be written. -/
def okF (f : Fd) : Bool := if okV f.d = true then if okP f = true then if f.b.length = f.a.length then if f.c.length = f.a.length then
    (if f.d.kind = 0 then (if 1 ≤ f.a.length then if f.a.length ≤ 1048577 then if allB 0 15 f.a = true then if allB 0 65535 f.b = true then if allB 0 65535 f.c = true then if 0 ≤ f.m then decide (f.m ≤ 8192) else false else false else false else false else false else false)
      else if f.a.length = 0 then decide (f.m = 0) else false) else false else false else false else false
theorem res50 {v l : L} {s : AS} : resOf Pz 15 Go.Proofs.Tryz.f50 v l s = .ret (lkL 2 v poison) s := res1 (by kernel_rfl) (by kernel_rfl)
theorem ints_new {s : AS} (xs : List Int) (el : TypeId) : Ints (s.new (.row (xs.map (.int .i64)) el false)) .i64 (.slice (some ⟨s.next, 0, none⟩) xs.length (2 * xs.length)) xs :=
  .inr ⟨s.next, 0, _, _, el, false, rfl, by show _ ≤ 2 * xs.length / 2; omega, new_get _ _, (fun h => by rw [exact2] at h; cases h), by intro i hi; simp [hi]⟩
set_option maxRecDepth 100000 in
theorem all_ret {lf n : Nat} (hn : 1 ≤ n) {s : AS} {v0 : Value} {xs : List Int} {lo hi : Int} (hv : Ints s .i64 v0 xs) (hlen : xs.length < 1000000000) (hlf : 1000000000 ≤ lf) :
    (aCall Pz masks lf n).call 102 [v0, .int .i64 lo, .int .i64 hi] s = .ret (.bool (allB lo hi xs)) s := by
  obtain ⟨n, rfl⟩ : ∃ m, n = m + 1 := ⟨n - 1, by omega⟩
  obtain ⟨x, s5, aa, hx, hs⟩ := (all_ok (lf := lf) (cf := aCall Pz masks lf n) (lo := lo) (hi := hi) hv hlen hlf).inv
  subst hx
  rw [hs] at aa
  exact aa
set_option maxRecDepth 100000 in
theorem okF_ok {lf n : Nat} (hn : 3 ≤ n) {s : AS} {f : Fd} {va vb vc vs : Value} (hI : FAt s f va vb vc vs) (hF : s.F) (hlf : 1000000000 ≤ lf) :
    (Cl lf n 50 [.agg (f.cells va vb vc vs).toArray] s).P fun x s' => x = .bool (okF f) ∧ Fr (fun _ => False) s s' ∧ s'.F := by
  obtain ⟨n, rfl⟩ : ∃ m, n = m + 1 := ⟨n - 1, by omega⟩
  have hb := box_agg 38 (f.cells va vb vc vs).toArray s
  rewrite [Cl, aCall_succ]
  rewrite [fn50, c50]
  refine P_aft ?_
  have hg1 : (s.new (.row (f.cells va vb vc vs) 38 false)).get s.next = some (.row (f.cells va vb vc vs) 38 false) := new_get _ _
  have hfr1 := Fr.new (fun _ => False) s (.row (f.cells va vb vc vs) 38 false)
  have hF1 : (s.new (.row (f.cells va vb vc vs) 38 false)).F := hF.new _
  have hI1 := hI.fr hF hfr1 (fun _ _ _ h => h)
  simp only [List.toList_toArray] at hb
  generalize s.new (.row (f.cells va vb vc vs) 38 false) = s1 at *
  have lv : loadN 4 (.pointer (some ⟨s.next, 6, none⟩)) s1 = .ok (.agg (f.d.cells vs).toArray) := loadN_of hg1 (by simp [Fd.cells, Vd.cells])
  obtain ⟨x, s2, hc, rfl, hfr2, hF2⟩ := (okV_ok (lf := lf) (n := n) (by omega) hI1.id hF1 hlf).inv
  have hc' : (aCall Pz masks lf n).call 45 [.agg (f.d.cells vs).toArray] s1 = .ret (.bool (okV f.d)) s2 := hc
  have hfr12 : Fr (fun _ => False) s s2 := hfr1.trans hfr2
  by_cases hv : okV f.d = true
  case neg =>
    have hv' : okV f.d = false := by simpa using hv
    rw [hv'] at hc'
    simp -implicitDefEqProofs only [aft_normal, aft_ret, bV_ok, bC_ret, bA_val, bA_enter, bDC_ret, bDA_val, bDA_enter, guard_b, guard_undef, seq_normal, seq_exit, seq_ret, seq_panic, cond_b, block_normal, block_exit, block_ret, block_panic, lkL_cons, lkL_setL, Nat.reduceEqDiff, if_true, if_false, ↓reduceIte, decide_true, decide_false, Bool.true_eq_false, Bool.false_eq_true, bin_add, bin_sub, bin_mul, bin_and, bin_or, bin_eql, bin_neq, bin_lss, bin_leq, bin_gtr, bin_geq, un_not, pick_b, len_slice, nilc, fieldA, conv_int, P_normal, P_ret, P_exit, ne_eq, not_true_eq_false, not_false_eq_true, Bool.not_true, Bool.not_false, true_and, and_true, q50_0_0, q50_0_1, q50_0_2, q50_1_0, q50_1_5, q50_1_6, q50_1_7, q50_1_8, q50_1_9, q50_1_10, q50_1_11, q50_1_12, q50_1_13, q50_2_0, q50_2_1, q50_3_0, q50_3_4, q50_4_0, q50_4_6, q50_4_7, q50_4_8, q50_4_9, q50_4_10, q50_4_11, q50_4_12, q50_5_0, q50_5_1, q50_6_0, q50_6_4, q50_7_0, q50_7_3, q50_7_4, q50_7_5, q50_7_6, q50_7_8, q50_8_0, q50_8_3, q50_8_4, q50_8_5, q50_8_7, q50_8_8, q50_8_9, q50_8_10, q50_8_12, q50_8_13, q50_8_14, q50_8_15, q50_8_17, q50_8_18, q50_8_19, q50_8_20, q50_8_22, q50_8_23, q50_8_24, q50_8_25, q50_8_27, q50_8_28, q50_8_29, q50_8_30, q50_8_32, Nat.zero_add, hb, lv, hc', res50]
    exact fun _ => ⟨by rw [okF, if_neg hv], hfr12, hF2⟩
  rw [hv] at hc'
  have hg2 := (hfr2.same s.next (hF1.lt hg1) (fun h => h)).trans hg1
  have l4 : load1 (.pointer (some ⟨s.next, 4, none⟩)) s2 = .ok (.int .i64 f.p) := load1_of hg2 rfl
  have l5 : load1 (.pointer (some ⟨s.next, 5, none⟩)) s2 = .ok (.int .i64 f.q) := load1_of hg2 rfl
  have hbs : doBuildSlice 3 1 2 (zerosK [.int .i64 0] 2) [(0, .int .i64 f.p), (1, .int .i64 f.q)] s2 = .val (.slice (some ⟨s2.next, 0, none⟩) 2 4) (s2.new (.row [.int .i64 f.p, .int .i64 f.q] 3 false)) := rfl
  have hI2 := hI1.fr hF1 hfr2 (fun _ _ _ h => h)
  have hfr3 := hfr12.trans (Fr.new (fun _ => False) s2 (.row [.int .i64 f.p, .int .i64 f.q] 3 false))
  have hI3 := hI2.fr hF2 (Fr.new (fun _ => False) s2 (.row [.int .i64 f.p, .int .i64 f.q] 3 false)) (fun _ _ _ h => h)
  have hF3 : (s2.new (.row [.int .i64 f.p, .int .i64 f.q] 3 false)).F := hF2.new _
  have hpq : Ints (s2.new (.row [.int .i64 f.p, .int .i64 f.q] 3 false)) .i64 (.slice (some ⟨s2.next, 0, none⟩) 2 4) [f.p, f.q] := ints_new [f.p, f.q] 3
  have hg3 : (s2.new (.row [.int .i64 f.p, .int .i64 f.q] 3 false)).get s.next = some (.row (f.cells va vb vc vs) 38 false) := (new_ne s2 _ (by have := hF2.lt hg2; omega)).trans hg2
  generalize s2.new (.row [.int .i64 f.p, .int .i64 f.q] 3 false) = s3 at *
  have ha' : (aCall Pz masks lf n).call 102 [.slice (some ⟨s2.next, 0, none⟩) 2 4, .int .i64 0, .int .i64 4611686018427387904] s3 = .ret (.bool (okP f)) s3 := all_ret (by omega) hpq (by simp) hlf
  by_cases hp : okP f = true
  case neg =>
    have hp' : okP f = false := by simpa using hp
    rw [hp'] at ha'
    simp -implicitDefEqProofs only [aft_normal, aft_ret, bV_ok, bC_ret, bA_val, bA_enter, bDC_ret, bDA_val, bDA_enter, guard_b, guard_undef, seq_normal, seq_exit, seq_ret, seq_panic, cond_b, block_normal, block_exit, block_ret, block_panic, lkL_cons, lkL_setL, Nat.reduceEqDiff, if_true, if_false, ↓reduceIte, decide_true, decide_false, Bool.true_eq_false, Bool.false_eq_true, bin_add, bin_sub, bin_mul, bin_and, bin_or, bin_eql, bin_neq, bin_lss, bin_leq, bin_gtr, bin_geq, un_not, pick_b, len_slice, nilc, fieldA, conv_int, P_normal, P_ret, P_exit, ne_eq, not_true_eq_false, not_false_eq_true, Bool.not_true, Bool.not_false, true_and, and_true, q50_0_0, q50_0_1, q50_0_2, q50_1_0, q50_1_5, q50_1_6, q50_1_7, q50_1_8, q50_1_9, q50_1_10, q50_1_11, q50_1_12, q50_1_13, q50_2_0, q50_2_1, q50_3_0, q50_3_4, q50_4_0, q50_4_6, q50_4_7, q50_4_8, q50_4_9, q50_4_10, q50_4_11, q50_4_12, q50_5_0, q50_5_1, q50_6_0, q50_6_4, q50_7_0, q50_7_3, q50_7_4, q50_7_5, q50_7_6, q50_7_8, q50_8_0, q50_8_3, q50_8_4, q50_8_5, q50_8_7, q50_8_8, q50_8_9, q50_8_10, q50_8_12, q50_8_13, q50_8_14, q50_8_15, q50_8_17, q50_8_18, q50_8_19, q50_8_20, q50_8_22, q50_8_23, q50_8_24, q50_8_25, q50_8_27, q50_8_28, q50_8_29, q50_8_30, q50_8_32, Nat.zero_add, hb, lv, hc', l4, l5, hbs, ha', res50]
    exact fun _ => ⟨by rw [okF, if_pos hv, if_neg hp], hfr3, hF3⟩
  rw [hp] at ha'
  have l0 : load1 (.pointer (some ⟨s.next, 0, none⟩)) s3 = .ok va := load1_of hg3 rfl
  have l1 : load1 (.pointer (some ⟨s.next, 1, none⟩)) s3 = .ok vb := load1_of hg3 rfl
  have l2 : load1 (.pointer (some ⟨s.next, 2, none⟩)) s3 = .ok vc := load1_of hg3 rfl
  have l3 : load1 (.pointer (some ⟨s.next, 3, none⟩)) s3 = .ok (.int .i64 f.m) := load1_of hg3 rfl
  have l6 : load1 (.pointer (some ⟨s.next, 6, none⟩)) s3 = .ok (.int .i64 f.d.kind) := load1_of hg3 rfl
  have na := hI3.ia.len
  have nb := hI3.ib.len
  have nc := hI3.ic.len
  rcases e1 : decide ((f.b.length : Int) = f.a.length) with _ | _
  · have e1' : ¬ f.b.length = f.a.length := by have := of_decide_eq_false e1; omega
    simp -implicitDefEqProofs only [aft_normal, aft_ret, bV_ok, bC_ret, bA_val, bA_enter, bDC_ret, bDA_val, bDA_enter, guard_b, guard_undef, seq_normal, seq_exit, seq_ret, seq_panic, cond_b, block_normal, block_exit, block_ret, block_panic, lkL_cons, lkL_setL, Nat.reduceEqDiff, if_true, if_false, ↓reduceIte, decide_true, decide_false, Bool.true_eq_false, Bool.false_eq_true, bin_add, bin_sub, bin_mul, bin_and, bin_or, bin_eql, bin_neq, bin_lss, bin_leq, bin_gtr, bin_geq, un_not, pick_b, len_slice, nilc, fieldA, conv_int, P_normal, P_ret, P_exit, ne_eq, not_true_eq_false, not_false_eq_true, Bool.not_true, Bool.not_false, true_and, and_true, q50_0_0, q50_0_1, q50_0_2, q50_1_0, q50_1_5, q50_1_6, q50_1_7, q50_1_8, q50_1_9, q50_1_10, q50_1_11, q50_1_12, q50_1_13, q50_2_0, q50_2_1, q50_3_0, q50_3_4, q50_4_0, q50_4_6, q50_4_7, q50_4_8, q50_4_9, q50_4_10, q50_4_11, q50_4_12, q50_5_0, q50_5_1, q50_6_0, q50_6_4, q50_7_0, q50_7_3, q50_7_4, q50_7_5, q50_7_6, q50_7_8, q50_8_0, q50_8_3, q50_8_4, q50_8_5, q50_8_7, q50_8_8, q50_8_9, q50_8_10, q50_8_12, q50_8_13, q50_8_14, q50_8_15, q50_8_17, q50_8_18, q50_8_19, q50_8_20, q50_8_22, q50_8_23, q50_8_24, q50_8_25, q50_8_27, q50_8_28, q50_8_29, q50_8_30, q50_8_32, Nat.zero_add, hb, lv, hc', l4, l5, hbs, ha', l0, l1, l2, na, nb, nc, e1, res50]
    exact fun _ => ⟨by rw [okF, if_pos hv, if_pos hp, if_neg e1'], hfr3, hF3⟩
  have e1' : f.b.length = f.a.length := by have := of_decide_eq_true e1; omega
  rcases e2 : decide ((f.c.length : Int) = f.a.length) with _ | _
  · have e2' : ¬ f.c.length = f.a.length := by have := of_decide_eq_false e2; omega
    simp -implicitDefEqProofs only [aft_normal, aft_ret, bV_ok, bC_ret, bA_val, bA_enter, bDC_ret, bDA_val, bDA_enter, guard_b, guard_undef, seq_normal, seq_exit, seq_ret, seq_panic, cond_b, block_normal, block_exit, block_ret, block_panic, lkL_cons, lkL_setL, Nat.reduceEqDiff, if_true, if_false, ↓reduceIte, decide_true, decide_false, Bool.true_eq_false, Bool.false_eq_true, bin_add, bin_sub, bin_mul, bin_and, bin_or, bin_eql, bin_neq, bin_lss, bin_leq, bin_gtr, bin_geq, un_not, pick_b, len_slice, nilc, fieldA, conv_int, P_normal, P_ret, P_exit, ne_eq, not_true_eq_false, not_false_eq_true, Bool.not_true, Bool.not_false, true_and, and_true, q50_0_0, q50_0_1, q50_0_2, q50_1_0, q50_1_5, q50_1_6, q50_1_7, q50_1_8, q50_1_9, q50_1_10, q50_1_11, q50_1_12, q50_1_13, q50_2_0, q50_2_1, q50_3_0, q50_3_4, q50_4_0, q50_4_6, q50_4_7, q50_4_8, q50_4_9, q50_4_10, q50_4_11, q50_4_12, q50_5_0, q50_5_1, q50_6_0, q50_6_4, q50_7_0, q50_7_3, q50_7_4, q50_7_5, q50_7_6, q50_7_8, q50_8_0, q50_8_3, q50_8_4, q50_8_5, q50_8_7, q50_8_8, q50_8_9, q50_8_10, q50_8_12, q50_8_13, q50_8_14, q50_8_15, q50_8_17, q50_8_18, q50_8_19, q50_8_20, q50_8_22, q50_8_23, q50_8_24, q50_8_25, q50_8_27, q50_8_28, q50_8_29, q50_8_30, q50_8_32, Nat.zero_add, hb, lv, hc', l4, l5, hbs, ha', l0, l1, l2, na, nb, nc, e1, e2, res50]
    exact fun _ => ⟨by rw [okF, if_pos hv, if_pos hp, if_pos e1', if_neg e2'], hfr3, hF3⟩
  have e2' : f.c.length = f.a.length := by have := of_decide_eq_true e2; omega
  have ho : okF f = (if f.d.kind = 0 then (if 1 ≤ f.a.length then if f.a.length ≤ 1048577 then if allB 0 15 f.a = true then if allB 0 65535 f.b = true then if allB 0 65535 f.c = true then if 0 ≤ f.m then decide (f.m ≤ 8192) else false else false else false else false else false else false)
      else if f.a.length = 0 then decide (f.m = 0) else false) := by rw [okF, if_pos hv, if_pos hp, if_pos e1', if_pos e2']
  have fin : ∀ {b : Bool}, b = okF f → Value.bool b = .bool (okF f) ∧ Fr (fun _ => False) s s3 ∧ s3.F := fun h => ⟨by rw [h], hfr3, hF3⟩
  rcases e3 : decide (f.d.kind = 0) with _ | _
  · have e3' := of_decide_eq_false e3
    rcases e4 : decide ((f.a.length : Int) = 0) with _ | _
    · have e4' : ¬ f.a.length = 0 := by have := of_decide_eq_false e4; omega
      simp -implicitDefEqProofs only [aft_normal, aft_ret, bV_ok, bC_ret, bA_val, bA_enter, bDC_ret, bDA_val, bDA_enter, guard_b, guard_undef, seq_normal, seq_exit, seq_ret, seq_panic, cond_b, block_normal, block_exit, block_ret, block_panic, lkL_cons, lkL_setL, Nat.reduceEqDiff, if_true, if_false, ↓reduceIte, decide_true, decide_false, Bool.true_eq_false, Bool.false_eq_true, bin_add, bin_sub, bin_mul, bin_and, bin_or, bin_eql, bin_neq, bin_lss, bin_leq, bin_gtr, bin_geq, un_not, pick_b, len_slice, nilc, fieldA, conv_int, P_normal, P_ret, P_exit, ne_eq, not_true_eq_false, not_false_eq_true, Bool.not_true, Bool.not_false, true_and, and_true, q50_0_0, q50_0_1, q50_0_2, q50_1_0, q50_1_5, q50_1_6, q50_1_7, q50_1_8, q50_1_9, q50_1_10, q50_1_11, q50_1_12, q50_1_13, q50_2_0, q50_2_1, q50_3_0, q50_3_4, q50_4_0, q50_4_6, q50_4_7, q50_4_8, q50_4_9, q50_4_10, q50_4_11, q50_4_12, q50_5_0, q50_5_1, q50_6_0, q50_6_4, q50_7_0, q50_7_3, q50_7_4, q50_7_5, q50_7_6, q50_7_8, q50_8_0, q50_8_3, q50_8_4, q50_8_5, q50_8_7, q50_8_8, q50_8_9, q50_8_10, q50_8_12, q50_8_13, q50_8_14, q50_8_15, q50_8_17, q50_8_18, q50_8_19, q50_8_20, q50_8_22, q50_8_23, q50_8_24, q50_8_25, q50_8_27, q50_8_28, q50_8_29, q50_8_30, q50_8_32, Nat.zero_add, hb, lv, hc', l4, l5, hbs, ha', l0, l1, l2, l6, na, nb, nc, e1, e2, e3, e4, res50]
      exact fun _ => fin (by rw [ho, if_neg e3', if_neg e4'])
    · have e4' : f.a.length = 0 := by have := of_decide_eq_true e4; omega
      simp -implicitDefEqProofs only [aft_normal, aft_ret, bV_ok, bC_ret, bA_val, bA_enter, bDC_ret, bDA_val, bDA_enter, guard_b, guard_undef, seq_normal, seq_exit, seq_ret, seq_panic, cond_b, block_normal, block_exit, block_ret, block_panic, lkL_cons, lkL_setL, Nat.reduceEqDiff, if_true, if_false, ↓reduceIte, decide_true, decide_false, Bool.true_eq_false, Bool.false_eq_true, bin_add, bin_sub, bin_mul, bin_and, bin_or, bin_eql, bin_neq, bin_lss, bin_leq, bin_gtr, bin_geq, un_not, pick_b, len_slice, nilc, fieldA, conv_int, P_normal, P_ret, P_exit, ne_eq, not_true_eq_false, not_false_eq_true, Bool.not_true, Bool.not_false, true_and, and_true, q50_0_0, q50_0_1, q50_0_2, q50_1_0, q50_1_5, q50_1_6, q50_1_7, q50_1_8, q50_1_9, q50_1_10, q50_1_11, q50_1_12, q50_1_13, q50_2_0, q50_2_1, q50_3_0, q50_3_4, q50_4_0, q50_4_6, q50_4_7, q50_4_8, q50_4_9, q50_4_10, q50_4_11, q50_4_12, q50_5_0, q50_5_1, q50_6_0, q50_6_4, q50_7_0, q50_7_3, q50_7_4, q50_7_5, q50_7_6, q50_7_8, q50_8_0, q50_8_3, q50_8_4, q50_8_5, q50_8_7, q50_8_8, q50_8_9, q50_8_10, q50_8_12, q50_8_13, q50_8_14, q50_8_15, q50_8_17, q50_8_18, q50_8_19, q50_8_20, q50_8_22, q50_8_23, q50_8_24, q50_8_25, q50_8_27, q50_8_28, q50_8_29, q50_8_30, q50_8_32, Nat.zero_add, hb, lv, hc', l4, l5, hbs, ha', l0, l1, l2, l3, l6, na, nb, nc, e1, e2, e3, e4, res50]
      exact fun _ => fin (by rw [ho, if_neg e3', if_pos e4'])
  have e3' := of_decide_eq_true e3
  simp -implicitDefEqProofs only [aft_normal, aft_ret, bV_ok, bC_ret, bA_val, bA_enter, bDC_ret, bDA_val, bDA_enter, guard_b, guard_undef, seq_normal, seq_exit, seq_ret, seq_panic, cond_b, block_normal, block_exit, block_ret, block_panic, lkL_cons, lkL_setL, Nat.reduceEqDiff, if_true, if_false, ↓reduceIte, decide_true, decide_false, Bool.true_eq_false, Bool.false_eq_true, bin_add, bin_sub, bin_mul, bin_and, bin_or, bin_eql, bin_neq, bin_lss, bin_leq, bin_gtr, bin_geq, un_not, pick_b, len_slice, nilc, fieldA, conv_int, P_normal, P_ret, P_exit, ne_eq, not_true_eq_false, not_false_eq_true, Bool.not_true, Bool.not_false, true_and, and_true, q50_0_0, q50_0_1, q50_0_2, q50_1_0, q50_1_5, q50_1_6, q50_1_7, q50_1_8, q50_1_9, q50_1_10, q50_1_11, q50_1_12, q50_1_13, q50_2_0, q50_2_1, q50_3_0, q50_3_4, q50_4_0, q50_4_6, q50_4_7, q50_4_8, q50_4_9, q50_4_10, q50_4_11, q50_4_12, q50_5_0, q50_5_1, q50_6_0, q50_6_4, q50_7_0, q50_7_3, q50_7_4, q50_7_5, q50_7_6, q50_7_8, Nat.zero_add, hb, lv, hc', l4, l5, hbs, ha', l0, l1, l2, l6, na, nb, nc, e1, e2, e3]
  rw [if_pos e3'] at ho
  by_cases h1 : 1 ≤ f.a.length
  case neg =>
    have h1' : ¬ (1 : Int) ≤ f.a.length := by omega
    simp -implicitDefEqProofs only [aft_normal, aft_ret, bV_ok, bC_ret, bA_val, bA_enter, bDC_ret, bDA_val, bDA_enter, guard_b, guard_undef, seq_normal, seq_exit, seq_ret, seq_panic, cond_b, block_normal, block_exit, block_ret, block_panic, lkL_cons, lkL_setL, Nat.reduceEqDiff, if_true, if_false, ↓reduceIte, decide_true, decide_false, Bool.true_eq_false, Bool.false_eq_true, bin_add, bin_sub, bin_mul, bin_and, bin_or, bin_eql, bin_neq, bin_lss, bin_leq, bin_gtr, bin_geq, un_not, pick_b, len_slice, nilc, fieldA, conv_int, P_normal, P_ret, P_exit, ne_eq, not_true_eq_false, not_false_eq_true, Bool.not_true, Bool.not_false, true_and, and_true, q50_0_0, q50_0_1, q50_0_2, q50_1_0, q50_1_5, q50_1_6, q50_1_7, q50_1_8, q50_1_9, q50_1_10, q50_1_11, q50_1_12, q50_1_13, q50_2_0, q50_2_1, q50_3_0, q50_3_4, q50_4_0, q50_4_6, q50_4_7, q50_4_8, q50_4_9, q50_4_10, q50_4_11, q50_4_12, q50_5_0, q50_5_1, q50_6_0, q50_6_4, q50_7_0, q50_7_3, q50_7_4, q50_7_5, q50_7_6, q50_7_8, q50_8_0, q50_8_3, q50_8_4, q50_8_5, q50_8_7, q50_8_8, q50_8_9, q50_8_10, q50_8_12, q50_8_13, q50_8_14, q50_8_15, q50_8_17, q50_8_18, q50_8_19, q50_8_20, q50_8_22, q50_8_23, q50_8_24, q50_8_25, q50_8_27, q50_8_28, q50_8_29, q50_8_30, q50_8_32, h1', res50]
    exact fun _ => fin (by rw [ho, if_neg h1])
  have h1' : (1 : Int) ≤ f.a.length := by omega
  by_cases h2 : f.a.length ≤ 1048577
  case neg =>
    have h2' : ¬ (f.a.length : Int) ≤ 1048577 := by omega
    simp -implicitDefEqProofs only [aft_normal, aft_ret, bV_ok, bC_ret, bA_val, bA_enter, bDC_ret, bDA_val, bDA_enter, guard_b, guard_undef, seq_normal, seq_exit, seq_ret, seq_panic, cond_b, block_normal, block_exit, block_ret, block_panic, lkL_cons, lkL_setL, Nat.reduceEqDiff, if_true, if_false, ↓reduceIte, decide_true, decide_false, Bool.true_eq_false, Bool.false_eq_true, bin_add, bin_sub, bin_mul, bin_and, bin_or, bin_eql, bin_neq, bin_lss, bin_leq, bin_gtr, bin_geq, un_not, pick_b, len_slice, nilc, fieldA, conv_int, P_normal, P_ret, P_exit, ne_eq, not_true_eq_false, not_false_eq_true, Bool.not_true, Bool.not_false, true_and, and_true, q50_0_0, q50_0_1, q50_0_2, q50_1_0, q50_1_5, q50_1_6, q50_1_7, q50_1_8, q50_1_9, q50_1_10, q50_1_11, q50_1_12, q50_1_13, q50_2_0, q50_2_1, q50_3_0, q50_3_4, q50_4_0, q50_4_6, q50_4_7, q50_4_8, q50_4_9, q50_4_10, q50_4_11, q50_4_12, q50_5_0, q50_5_1, q50_6_0, q50_6_4, q50_7_0, q50_7_3, q50_7_4, q50_7_5, q50_7_6, q50_7_8, q50_8_0, q50_8_3, q50_8_4, q50_8_5, q50_8_7, q50_8_8, q50_8_9, q50_8_10, q50_8_12, q50_8_13, q50_8_14, q50_8_15, q50_8_17, q50_8_18, q50_8_19, q50_8_20, q50_8_22, q50_8_23, q50_8_24, q50_8_25, q50_8_27, q50_8_28, q50_8_29, q50_8_30, q50_8_32, h1', h2', res50]
    exact fun _ => fin (by rw [ho, if_pos h1, if_neg h2])
  have h2' : (f.a.length : Int) ≤ 1048577 := by omega
  rw [if_pos h1, if_pos h2] at ho
  have aa' := all_ret (lf := lf) (n := n) (lo := 0) (hi := 15) (by omega) hI3.ia (by omega) hlf
  have ab' := all_ret (lf := lf) (n := n) (lo := 0) (hi := 65535) (by omega) hI3.ib (by omega) hlf
  have ac' := all_ret (lf := lf) (n := n) (lo := 0) (hi := 65535) (by omega) hI3.ic (by omega) hlf
  rcases k1 : allB 0 15 f.a with _ | _
  · simp -implicitDefEqProofs only [aft_normal, aft_ret, bV_ok, bC_ret, bA_val, bA_enter, bDC_ret, bDA_val, bDA_enter, guard_b, guard_undef, seq_normal, seq_exit, seq_ret, seq_panic, cond_b, block_normal, block_exit, block_ret, block_panic, lkL_cons, lkL_setL, Nat.reduceEqDiff, if_true, if_false, ↓reduceIte, decide_true, decide_false, Bool.true_eq_false, Bool.false_eq_true, bin_add, bin_sub, bin_mul, bin_and, bin_or, bin_eql, bin_neq, bin_lss, bin_leq, bin_gtr, bin_geq, un_not, pick_b, len_slice, nilc, fieldA, conv_int, P_normal, P_ret, P_exit, ne_eq, not_true_eq_false, not_false_eq_true, Bool.not_true, Bool.not_false, true_and, and_true, q50_0_0, q50_0_1, q50_0_2, q50_1_0, q50_1_5, q50_1_6, q50_1_7, q50_1_8, q50_1_9, q50_1_10, q50_1_11, q50_1_12, q50_1_13, q50_2_0, q50_2_1, q50_3_0, q50_3_4, q50_4_0, q50_4_6, q50_4_7, q50_4_8, q50_4_9, q50_4_10, q50_4_11, q50_4_12, q50_5_0, q50_5_1, q50_6_0, q50_6_4, q50_7_0, q50_7_3, q50_7_4, q50_7_5, q50_7_6, q50_7_8, q50_8_0, q50_8_3, q50_8_4, q50_8_5, q50_8_7, q50_8_8, q50_8_9, q50_8_10, q50_8_12, q50_8_13, q50_8_14, q50_8_15, q50_8_17, q50_8_18, q50_8_19, q50_8_20, q50_8_22, q50_8_23, q50_8_24, q50_8_25, q50_8_27, q50_8_28, q50_8_29, q50_8_30, q50_8_32, Nat.zero_add, h1', h2', l0, aa', k1, res50]
    exact fun _ => fin (by rw [ho, k1]; rfl)
  rcases k2 : allB 0 65535 f.b with _ | _
  · simp -implicitDefEqProofs only [aft_normal, aft_ret, bV_ok, bC_ret, bA_val, bA_enter, bDC_ret, bDA_val, bDA_enter, guard_b, guard_undef, seq_normal, seq_exit, seq_ret, seq_panic, cond_b, block_normal, block_exit, block_ret, block_panic, lkL_cons, lkL_setL, Nat.reduceEqDiff, if_true, if_false, ↓reduceIte, decide_true, decide_false, Bool.true_eq_false, Bool.false_eq_true, bin_add, bin_sub, bin_mul, bin_and, bin_or, bin_eql, bin_neq, bin_lss, bin_leq, bin_gtr, bin_geq, un_not, pick_b, len_slice, nilc, fieldA, conv_int, P_normal, P_ret, P_exit, ne_eq, not_true_eq_false, not_false_eq_true, Bool.not_true, Bool.not_false, true_and, and_true, q50_0_0, q50_0_1, q50_0_2, q50_1_0, q50_1_5, q50_1_6, q50_1_7, q50_1_8, q50_1_9, q50_1_10, q50_1_11, q50_1_12, q50_1_13, q50_2_0, q50_2_1, q50_3_0, q50_3_4, q50_4_0, q50_4_6, q50_4_7, q50_4_8, q50_4_9, q50_4_10, q50_4_11, q50_4_12, q50_5_0, q50_5_1, q50_6_0, q50_6_4, q50_7_0, q50_7_3, q50_7_4, q50_7_5, q50_7_6, q50_7_8, q50_8_0, q50_8_3, q50_8_4, q50_8_5, q50_8_7, q50_8_8, q50_8_9, q50_8_10, q50_8_12, q50_8_13, q50_8_14, q50_8_15, q50_8_17, q50_8_18, q50_8_19, q50_8_20, q50_8_22, q50_8_23, q50_8_24, q50_8_25, q50_8_27, q50_8_28, q50_8_29, q50_8_30, q50_8_32, Nat.zero_add, h1', h2', l0, l1, aa', ab', k1, k2, res50]
    exact fun _ => fin (by rw [ho, k1, k2]; rfl)
  rcases k3 : allB 0 65535 f.c with _ | _
  · simp -implicitDefEqProofs only [aft_normal, aft_ret, bV_ok, bC_ret, bA_val, bA_enter, bDC_ret, bDA_val, bDA_enter, guard_b, guard_undef, seq_normal, seq_exit, seq_ret, seq_panic, cond_b, block_normal, block_exit, block_ret, block_panic, lkL_cons, lkL_setL, Nat.reduceEqDiff, if_true, if_false, ↓reduceIte, decide_true, decide_false, Bool.true_eq_false, Bool.false_eq_true, bin_add, bin_sub, bin_mul, bin_and, bin_or, bin_eql, bin_neq, bin_lss, bin_leq, bin_gtr, bin_geq, un_not, pick_b, len_slice, nilc, fieldA, conv_int, P_normal, P_ret, P_exit, ne_eq, not_true_eq_false, not_false_eq_true, Bool.not_true, Bool.not_false, true_and, and_true, q50_0_0, q50_0_1, q50_0_2, q50_1_0, q50_1_5, q50_1_6, q50_1_7, q50_1_8, q50_1_9, q50_1_10, q50_1_11, q50_1_12, q50_1_13, q50_2_0, q50_2_1, q50_3_0, q50_3_4, q50_4_0, q50_4_6, q50_4_7, q50_4_8, q50_4_9, q50_4_10, q50_4_11, q50_4_12, q50_5_0, q50_5_1, q50_6_0, q50_6_4, q50_7_0, q50_7_3, q50_7_4, q50_7_5, q50_7_6, q50_7_8, q50_8_0, q50_8_3, q50_8_4, q50_8_5, q50_8_7, q50_8_8, q50_8_9, q50_8_10, q50_8_12, q50_8_13, q50_8_14, q50_8_15, q50_8_17, q50_8_18, q50_8_19, q50_8_20, q50_8_22, q50_8_23, q50_8_24, q50_8_25, q50_8_27, q50_8_28, q50_8_29, q50_8_30, q50_8_32, Nat.zero_add, h1', h2', l0, l1, l2, aa', ab', ac', k1, k2, k3, res50]
    exact fun _ => fin (by rw [ho, k1, k2, k3]; rfl)
  by_cases k4 : 0 ≤ f.m
  · simp -implicitDefEqProofs only [aft_normal, aft_ret, bV_ok, bC_ret, bA_val, bA_enter, bDC_ret, bDA_val, bDA_enter, guard_b, guard_undef, seq_normal, seq_exit, seq_ret, seq_panic, cond_b, block_normal, block_exit, block_ret, block_panic, lkL_cons, lkL_setL, Nat.reduceEqDiff, if_true, if_false, ↓reduceIte, decide_true, decide_false, Bool.true_eq_false, Bool.false_eq_true, bin_add, bin_sub, bin_mul, bin_and, bin_or, bin_eql, bin_neq, bin_lss, bin_leq, bin_gtr, bin_geq, un_not, pick_b, len_slice, nilc, fieldA, conv_int, P_normal, P_ret, P_exit, ne_eq, not_true_eq_false, not_false_eq_true, Bool.not_true, Bool.not_false, true_and, and_true, q50_0_0, q50_0_1, q50_0_2, q50_1_0, q50_1_5, q50_1_6, q50_1_7, q50_1_8, q50_1_9, q50_1_10, q50_1_11, q50_1_12, q50_1_13, q50_2_0, q50_2_1, q50_3_0, q50_3_4, q50_4_0, q50_4_6, q50_4_7, q50_4_8, q50_4_9, q50_4_10, q50_4_11, q50_4_12, q50_5_0, q50_5_1, q50_6_0, q50_6_4, q50_7_0, q50_7_3, q50_7_4, q50_7_5, q50_7_6, q50_7_8, q50_8_0, q50_8_3, q50_8_4, q50_8_5, q50_8_7, q50_8_8, q50_8_9, q50_8_10, q50_8_12, q50_8_13, q50_8_14, q50_8_15, q50_8_17, q50_8_18, q50_8_19, q50_8_20, q50_8_22, q50_8_23, q50_8_24, q50_8_25, q50_8_27, q50_8_28, q50_8_29, q50_8_30, q50_8_32, Nat.zero_add, h1', h2', l0, l1, l2, l3, aa', ab', ac', k1, k2, k3, k4, res50]
    exact fun _ => fin (by rw [ho, k1, k2, k3, if_pos k4]; rfl)
  · simp -implicitDefEqProofs only [aft_normal, aft_ret, bV_ok, bC_ret, bA_val, bA_enter, bDC_ret, bDA_val, bDA_enter, guard_b, guard_undef, seq_normal, seq_exit, seq_ret, seq_panic, cond_b, block_normal, block_exit, block_ret, block_panic, lkL_cons, lkL_setL, Nat.reduceEqDiff, if_true, if_false, ↓reduceIte, decide_true, decide_false, Bool.true_eq_false, Bool.false_eq_true, bin_add, bin_sub, bin_mul, bin_and, bin_or, bin_eql, bin_neq, bin_lss, bin_leq, bin_gtr, bin_geq, un_not, pick_b, len_slice, nilc, fieldA, conv_int, P_normal, P_ret, P_exit, ne_eq, not_true_eq_false, not_false_eq_true, Bool.not_true, Bool.not_false, true_and, and_true, q50_0_0, q50_0_1, q50_0_2, q50_1_0, q50_1_5, q50_1_6, q50_1_7, q50_1_8, q50_1_9, q50_1_10, q50_1_11, q50_1_12, q50_1_13, q50_2_0, q50_2_1, q50_3_0, q50_3_4, q50_4_0, q50_4_6, q50_4_7, q50_4_8, q50_4_9, q50_4_10, q50_4_11, q50_4_12, q50_5_0, q50_5_1, q50_6_0, q50_6_4, q50_7_0, q50_7_3, q50_7_4, q50_7_5, q50_7_6, q50_7_8, q50_8_0, q50_8_3, q50_8_4, q50_8_5, q50_8_7, q50_8_8, q50_8_9, q50_8_10, q50_8_12, q50_8_13, q50_8_14, q50_8_15, q50_8_17, q50_8_18, q50_8_19, q50_8_20, q50_8_22, q50_8_23, q50_8_24, q50_8_25, q50_8_27, q50_8_28, q50_8_29, q50_8_30, q50_8_32, Nat.zero_add, h1', h2', l0, l1, l2, l3, aa', ab', ac', k1, k2, k3, k4, res50]
    exact fun _ => fin (by rw [ho, k1, k2, k3, if_neg k4]; rfl)
end Go.Proofs.YtbbknbmmpkpgdaaGreatDoor.KAb
namespace Go.Proofs.YtbbknbmmpkpgdaaGreatDoor.KAb
theorem or128' {c : Int} (h0 : 0 ≤ c) (h1 : c < 256) : IntKind.u8.wrap (BitVec.ofInt IntKind.u8.bits c ||| BitVec.ofInt IntKind.u8.bits 128).toNat = c % 128 + 128 := by
  obtain ⟨k, rfl⟩ := Int.eq_ofNat_of_zero_le h0
  have hk : k < 256 := by omega
  have : ∀ k : Fin 256, IntKind.u8.wrap (BitVec.ofInt IntKind.u8.bits ((k.val : Nat) : Int) ||| BitVec.ofInt IntKind.u8.bits 128).toNat = ((k.val : Nat) : Int) % 128 + 128 := by decide +kernel
  exact this ⟨k, hk⟩
/-- The shortest bytes of a number. -/
def encS (n : Nat) : List Int := if 127 < n then (((n % 128 : Nat) : Int) + 128) :: encS (n / 128) else [(n : Int)]
termination_by n
decreasing_by omega
/-- The block of a slice lies behind. -/
def Far (B : Nat) (v : Value) : Prop := ∀ b n c, v = .slice (some ⟨b, 0, none⟩) n c → B ≤ b
theorem own_push {s : AS} {k : IntKind} {el : TypeId} {v : Value} {xs : List Int} (h : Own s k el v xs) (z : Int) (hl : xs.length + 1 ≤ 1000000000) (hF : s.F) :
    ∃ v' s', appendV 1 el v (.slice (some ⟨s.next, 0, none⟩) 1 2) (s.new (.row [.int k z] el false)) = .val v' s' ∧ Own s' k el v' (xs ++ [z]) ∧ s'.F ∧ Far s.next v' ∧ s.next ≤ s'.next ∧
      ∀ b, b < s.next → (∀ n c, v ≠ .slice (some ⟨b, 0, none⟩) n c) → s'.get b = s.get b := by
  have hown : Own (s.new (.row [.int k z] el false)) k el v xs := h.keep fun b off n c hv => by
    refine new_ne s _ fun e => ?_
    rcases h with ⟨rfl, _⟩ | ⟨b', h1, h2⟩
    · cases hv
    · rw [h1] at hv; cases hv
      have := hF.lt h2; omega
  obtain ⟨s3, a1, a2, a3, a4, a5⟩ := own_append (ys := [z]) (x := .slice (some ⟨s.next, 0, none⟩) 1 2) hown rfl (by
    have : rd (s.new (.row [.int k z] el false)) s.next 0 1 = some [.int k z] := rd_all (new_get s _) rfl
    exact this) (by simp) (by simp only [List.length_cons, List.length_nil]; omega) (hF.new _)
  have hnx : (s.new (.row [.int k z] el false)).next = s.next + 1 := rfl
  rw [hnx] at a1 a2 a3 a5
  exact ⟨_, s3, a1, .inr ⟨s.next + 1, rfl, a2⟩, a4, fun b n c e => by cases e; omega, by omega, fun b hb hv => (a5 b (by omega) hv).trans (new_ne s _ (by omega))⟩
theorem res110 {v l : L} {s : AS} : resOf Pz 13 Go.Proofs.Tryz.f110 v l s = .ret (lkL 2 v poison) s := res1 (by kernel_rfl) (by kernel_rfl)
theorem u8_nat (n : Nat) : IntKind.u8.wrap (n : Int) = ((n % 256 : Nat) : Int) := by rw [wrap_u8]; omega
theorem shr7 (n : Nat) (h : n < 18446744073709551616) {t : TypeId} {x y : Operand} {s : AS} : doBin Pz .shr (binK .shr) .bad t x y (.int .u64 (n : Int)) (.int .u64 7) s = .ok (.int .u64 ((n / 128 : Nat) : Int)) := by
  rw [bin_shr (by omega), show (min ((7 : Int).toNat) IntKind.u64.bits) = 7 from rfl, Int.fdiv_eq_ediv_of_nonneg _ (by omega), show ((2 : Int) ^ 7) = 128 from rfl]
  congr 2
set_option maxRecDepth 100000 in
theorem short_ok {lf n : Nat} (hn : 1 ≤ n) {s0 : AS} {x0 : Nat} (hx : x0 < 18446744073709551616) (hF : s0.F) (hlf : 1000000000 ≤ lf) :
    (Cl lf n 110 [.int .u64 (x0 : Int)] s0).P fun x s' => Own s' .u8 5 x (encS x0) ∧ Far s0.next x ∧ Fr (fun _ => False) s0 s' ∧ s'.F := by
  obtain ⟨n, rfl⟩ : ∃ m, n = m + 1 := ⟨n - 1, by omega⟩
  rewrite [Cl, aCall_succ]
  rewrite [fn110, c110]
  refine P_aft ?_
  simp -implicitDefEqProofs only [aft_normal, aft_ret, bV_ok, bC_ret, bA_val, bA_enter, bDC_ret, bDA_val, bDA_enter, guard_b, guard_undef, seq_normal, seq_exit, seq_ret, seq_panic, cond_b, block_normal, block_exit, block_ret, block_panic, lkL_cons, lkL_setL, Nat.reduceEqDiff, if_true, if_false, ↓reduceIte, decide_true, decide_false, Bool.true_eq_false, Bool.false_eq_true, bin_add, bin_sub, bin_mul, bin_and, bin_or, bin_eql, bin_neq, bin_lss, bin_leq, bin_gtr, bin_geq, un_not, pick_b, len_slice, nilc, fieldA, conv_int, P_normal, P_ret, P_exit, ne_eq, not_true_eq_false, not_false_eq_true, Bool.not_true, Bool.not_false, true_and, and_true, q110_0_0, q110_0_1, q110_1_0, q110_1_1, q110_2_0, q110_2_2, q110_3_0, q110_3_7, q110_4_0, q110_4_3]
  have loop : ∀ (k fuel x : Nat) (acc : List Int) (v l : L) (va : Value) (s : AS), x < 128 ^ (k + 1) → k < fuel → x < 18446744073709551616 → acc.length + k < 1000 → Own s .u8 5 va acc → Far s0.next va → Fr (fun _ => False) s0 s → s.F → lkL 0 v poison = .int .u64 (x : Int) → lkL 3 v poison = va →
      (iterK (l110_5 lf (aCall Pz masks lf n)) fuel v l [] s).P fun e v ds s => match e with
        | .exit 0 => ds = [] ∧ ∃ y va acc', y ≤ 127 ∧ lkL 0 v poison = .int .u64 ((y : Nat) : Int) ∧ lkL 3 v poison = va ∧ Own s .u8 5 va acc' ∧ Far s0.next va ∧ Fr (fun _ => False) s0 s ∧ s.F ∧ acc'.length < 1000 ∧ acc' ++ [((y : Nat) : Int)] = acc ++ encS x
        | _ => False := by
    intro k
    induction k with
    | zero =>
      intro fuel x acc v l va s hx hf hx2 hac ho hfa hfr hF h0 h3
      obtain ⟨fuel, rfl⟩ : ∃ m, fuel = m + 1 := ⟨fuel - 1, by omega⟩
      rewrite [iter_succ, l110_5]
      have e : ¬ (127 : Int) < x := by omega
      simp -implicitDefEqProofs only [bV_ok, bC_ret, bA_val, bA_enter, bDC_ret, bDA_val, bDA_enter, guard_b, guard_undef, seq_normal, seq_exit, seq_ret, seq_panic, cond_b, block_normal, block_exit, block_ret, block_panic, lkL_cons, lkL_setL, Nat.reduceEqDiff, if_true, if_false, ↓reduceIte, decide_true, decide_false, Bool.true_eq_false, Bool.false_eq_true, bin_add, bin_sub, bin_mul, bin_and, bin_or, bin_eql, bin_neq, bin_lss, bin_leq, bin_gtr, bin_geq, un_not, pick_b, len_slice, nilc, fieldA, conv_int, P_normal, P_ret, P_exit, ne_eq, not_true_eq_false, not_false_eq_true, Bool.not_true, Bool.not_false, true_and, and_true, q110_0_0, q110_0_1, q110_1_0, q110_1_1, q110_2_0, q110_2_2, q110_3_0, q110_3_7, q110_4_0, q110_4_3, q110_6_0, q110_6_6, h0, h3, e]
      refine ⟨x, va, acc, by omega, rfl, rfl, ho, hfa, hfr, hF, by omega, ?_⟩
      rw [encS, if_neg (by omega)]
    | succ k ih =>
      intro fuel x acc v l va s hx hf hx2 hac ho hfa hfr hF h0 h3
      obtain ⟨fuel, rfl⟩ : ∃ m, fuel = m + 1 := ⟨fuel - 1, by omega⟩
      rewrite [iter_succ, l110_5]
      by_cases h127 : 127 < x
      case neg =>
        have e : ¬ (127 : Int) < x := by omega
        simp -implicitDefEqProofs only [bV_ok, bC_ret, bA_val, bA_enter, bDC_ret, bDA_val, bDA_enter, guard_b, guard_undef, seq_normal, seq_exit, seq_ret, seq_panic, cond_b, block_normal, block_exit, block_ret, block_panic, lkL_cons, lkL_setL, Nat.reduceEqDiff, if_true, if_false, ↓reduceIte, decide_true, decide_false, Bool.true_eq_false, Bool.false_eq_true, bin_add, bin_sub, bin_mul, bin_and, bin_or, bin_eql, bin_neq, bin_lss, bin_leq, bin_gtr, bin_geq, un_not, pick_b, len_slice, nilc, fieldA, conv_int, P_normal, P_ret, P_exit, ne_eq, not_true_eq_false, not_false_eq_true, Bool.not_true, Bool.not_false, true_and, and_true, q110_0_0, q110_0_1, q110_1_0, q110_1_1, q110_2_0, q110_2_2, q110_3_0, q110_3_7, q110_4_0, q110_4_3, q110_6_0, q110_6_6, h0, h3, e]
        refine ⟨x, va, acc, by omega, rfl, rfl, ho, hfa, hfr, hF, by omega, ?_⟩
        rw [encS, if_neg (by omega)]
      have e : (127 : Int) < x := by omega
      obtain ⟨v', s', a1, a2, a3, a4, a5, a6⟩ := own_push ho (((x % 128 : Nat) : Int) + 128) (by omega) hF
      have hor : IntKind.u8.wrap (BitVec.ofInt IntKind.u8.bits ((x % 256 : Nat) : Int) ||| BitVec.ofInt IntKind.u8.bits 128).toNat = ((x % 128 : Nat) : Int) + 128 := by
        rw [or128' (by omega) (by omega)]; omega
      have hbs : doBuildSlice 5 1 1 (zerosK [.int .u8 0] 1) [(0, .int .u8 (((x % 128 : Nat) : Int) + 128))] s = .val (.slice (some ⟨s.next, 0, none⟩) 1 2) (s.new (.row [.int .u8 (((x % 128 : Nat) : Int) + 128)] 5 false)) := rfl
      have hcv : convInt Pz 62 5 .u8 (.int .u64 (x : Int)) = .ok (.int .u8 ((x % 256 : Nat) : Int)) := by rw [conv_int, u8_nat]
      simp -implicitDefEqProofs only [bV_ok, bC_ret, bA_val, bA_enter, bDC_ret, bDA_val, bDA_enter, guard_b, guard_undef, seq_normal, seq_exit, seq_ret, seq_panic, cond_b, block_normal, block_exit, block_ret, block_panic, lkL_cons, lkL_setL, Nat.reduceEqDiff, if_true, if_false, ↓reduceIte, decide_true, decide_false, Bool.true_eq_false, Bool.false_eq_true, bin_add, bin_sub, bin_mul, bin_and, bin_or, bin_eql, bin_neq, bin_lss, bin_leq, bin_gtr, bin_geq, un_not, pick_b, len_slice, nilc, fieldA, conv_int, P_normal, P_ret, P_exit, ne_eq, not_true_eq_false, not_false_eq_true, Bool.not_true, Bool.not_false, true_and, and_true, q110_0_0, q110_0_1, q110_1_0, q110_1_1, q110_2_0, q110_2_2, q110_3_0, q110_3_7, q110_4_0, q110_4_3, q110_6_0, q110_6_6, h0, h3, e, hcv, hor, hbs, a1, shr7 x hx2]
      have hfr' : Fr (fun _ => False) s0 s' := ⟨Nat.le_trans hfr.next a5, fun b hb hx => (a6 b (Nat.lt_of_lt_of_le hb hfr.next) fun n c h => by have := hfa b n c h; omega).trans (hfr.same b hb hx)⟩
      have := fun l => ih fuel (x / 128) (acc ++ [((x % 128 : Nat) : Int) + 128]) (setL 0 (.int .u64 ((x / 128 : Nat) : Int)) (setL 3 v' v)) l v' s' (by rw [Nat.pow_succ] at hx; omega) (by omega) (by omega) (by simp only [List.length_append, List.length_cons, List.length_nil]; omega) a2 (fun b n c h => Nat.le_trans hfr.next (a4 b n c h)) hfr' a3 (by simp only [lkL_setL, if_true]) (by simp only [lkL_setL, Nat.reduceEqDiff, if_false, if_true])
      refine (this _).mono fun e v ds s h => ?_
      match e, h with
      | .exit 0, ⟨q1, y, va, acc', q2, q3, q4, q5, q6, q7, q8, q9, q10⟩ =>
        refine ⟨q1, y, va, acc', q2, q3, q4, q5, q6, q7, q8, q9, ?_⟩
        rw [q10]
        conv => rhs; rw [encS, if_pos h127]
        simp
  have hL := loop 9 lf x0 [] (.cons 0 (.int .u64 (x0 : Int)) .nil |> setL 2 (.slice none 0 0) |> setL 3 (.slice none 0 0)) .nil (.slice none 0 0) s0 (by omega) (by omega) hx (by simp) Own.nil (fun b n c h => by cases h) (Fr.refl _ _) hF rfl rfl
  refine P_seq (P_block (hL.mono fun e v ds s' h => ?_))
  match e, h with
  | .exit 0, ⟨q1, y, va, acc, q2, q3, q4, q5, q6, q7, q8, q9, q10⟩ =>
    subst q1
    obtain ⟨v', s2, a1, a2, a3, a4, a5, a6⟩ := own_push q5 (y : Int) (by omega) q8
    have hbs : doBuildSlice 5 1 1 (zerosK [.int .u8 0] 1) [(0, .int .u8 (y : Int))] s' = .val (.slice (some ⟨s'.next, 0, none⟩) 1 2) (s'.new (.row [.int .u8 (y : Int)] 5 false)) := rfl
    have hcv : convInt Pz 62 5 .u8 (.int .u64 (y : Int)) = .ok (.int .u8 (y : Int)) := by rw [conv_int, u8_nat]; congr 2; omega
    intro l
    simp -implicitDefEqProofs only [aft_normal, aft_ret, bV_ok, bC_ret, bA_val, bA_enter, bDC_ret, bDA_val, bDA_enter, guard_b, guard_undef, seq_normal, seq_exit, seq_ret, seq_panic, cond_b, block_normal, block_exit, block_ret, block_panic, lkL_cons, lkL_setL, Nat.reduceEqDiff, if_true, if_false, ↓reduceIte, decide_true, decide_false, Bool.true_eq_false, Bool.false_eq_true, bin_add, bin_sub, bin_mul, bin_and, bin_or, bin_eql, bin_neq, bin_lss, bin_leq, bin_gtr, bin_geq, un_not, pick_b, len_slice, nilc, fieldA, conv_int, P_normal, P_ret, P_exit, ne_eq, not_true_eq_false, not_false_eq_true, Bool.not_true, Bool.not_false, true_and, and_true, q110_0_0, q110_0_1, q110_1_0, q110_1_1, q110_2_0, q110_2_2, q110_3_0, q110_3_7, q110_4_0, q110_4_3, q110_6_0, q110_6_6, q3, q4, hcv, hbs, a1, res110]
    rw [List.nil_append] at q10
    rw [q10] at a2
    refine fun _ => ⟨a2, fun b n c h => Nat.le_trans q7.next (a4 b n c h), ⟨Nat.le_trans q7.next a5, fun b hb hx => (a6 b (Nat.lt_of_lt_of_le hb q7.next) fun n c h => by have := q6 b n c h; omega).trans (q7.same b hb hx)⟩, a3⟩
end Go.Proofs.YtbbknbmmpkpgdaaGreatDoor.KAb
namespace Go.Proofs.YtbbknbmmpkpgdaaGreatDoor.KAb
theorem Own.cells {s : AS} {k : IntKind} {el : TypeId} {v : Value} {xs : List Int} (h : Own s k el v xs) : lenV v = some xs.length ∧ cellsV s 1 xs.length v = some (xs.map (.int k)) := by
  rcases h with ⟨rfl, rfl⟩ | ⟨b, rfl, hg⟩
  · exact ⟨rfl, rfl⟩
  · refine ⟨rfl, ?_⟩
    simp only [cellsV, bif_eq, Nat.beq_eq]
    split
    · rename_i h0; rw [List.eq_nil_of_length_eq_zero h0]; rfl
    · exact rd_all hg (by simp)
theorem encS_ne (n : Nat) : encS n ≠ [] := by rw [encS]; split <;> simp
theorem encS_len : ∀ (k n : Nat), n < 128 ^ (k + 1) → (encS n).length ≤ k + 1 := by
  intro k
  induction k with
  | zero => intro n h; rw [encS, if_neg (by omega)]; simp
  | succ k ih =>
    intro n h
    rw [encS]
    split
    · have := ih (n / 128) (by rw [Nat.pow_succ] at h; omega)
      simp only [List.length_cons]; omega
    · simp
/-- A writer in its block; the blocks of X are not its own. -/
def WrAt (X : Nat → Prop) (s : AS) (bw : Nat) (bytes : List Int) : Prop := ∃ vb el, s.get bw = some (.row [vb] el false) ∧ Own s .u8 5 vb bytes ∧ ∀ b n c, vb = .slice (some ⟨b, 0, none⟩) n c → b ≠ bw ∧ ¬ X b
/-- The blocks of X stay. -/
structure Sv (X : Nat → Prop) (s s' : AS) : Prop where
  next : s.next ≤ s'.next
  same : ∀ b, X b → s'.get b = s.get b
theorem Sv.refl (X : Nat → Prop) (s : AS) : Sv X s s := ⟨Nat.le_refl _, fun _ _ => rfl⟩
theorem Sv.trans {X : Nat → Prop} {s s' s'' : AS} (h : Sv X s s') (h' : Sv X s' s'') : Sv X s s'' := ⟨Nat.le_trans h.next h'.next, fun b hb => (h'.same b hb).trans (h.same b hb)⟩
/-- A slice in kept blocks. -/
def InX (X : Nat → Prop) (v : Value) : Prop := ∀ b off n c, v = .slice (some ⟨b, off, none⟩) n c → X b
theorem Ints.sv {X : Nat → Prop} {s s' : AS} {k : IntKind} {v : Value} {xs : List Int} (h : Ints s k v xs) (hs : Sv X s s') (hX : InX X v) : Ints s' k v xs := h.keep fun b off n c hv => hs.same b (hX b off n c hv)
def encAll (xs : List Int) : List Int := xs.flatMap fun x => encS x.toNat
theorem res54 {v l : L} {s : AS} : resOf Pz 483 Go.Proofs.Tryz.f54 v l s = .ret (.tuple #[]) s := res0 (by kernel_rfl)
set_option maxRecDepth 100000 in
theorem wput_ok {X : Nat → Prop} {lf n : Nat} (hn : 2 ≤ n) {s0 : AS} {bw : Nat} {bytes xs : List Int} {vx : Value} (hW : WrAt X s0 bw bytes) (hx : Ints s0 .i64 vx xs) (hxX : InX X vx) (hX : ∀ b, X b → b < s0.next ∧ b ≠ bw) (hr : ∀ x ∈ xs, 0 ≤ x ∧ x < 9223372036854775808)
    (hlen : bytes.length + 10 * xs.length < 1000000000) (hF : s0.F) (hlf : 1000000000 ≤ lf) :
    (Cl lf n 54 [.pointer (some ⟨bw, 0, none⟩), vx] s0).P fun x s' => WrAt X s' bw (bytes ++ encAll xs) ∧ Sv X s0 s' ∧ s'.F := by
  obtain ⟨n, rfl⟩ : ∃ m, n = m + 1 := ⟨n - 1, by omega⟩
  rewrite [Cl, aCall_succ]
  rewrite [fn54, c54]
  refine P_aft ?_
  have hln := hx.len
  have loop : ∀ (k fuel i : Nat) (acc : List Int) (v l : L) (s : AS), i + k = xs.length → k < fuel → acc.length + 10 * k < 1000000000 → WrAt X s bw acc → Sv X s0 s → s.F → lkL 0 v poison = .pointer (some ⟨bw, 0, none⟩) → lkL 6 v poison = vx → lkL 7 v poison = .int .i64 (xs.length : Int) → lkL 8 v poison = .int .i64 (i : Int) →
      (iterK (l54_5 lf (aCall Pz masks lf n)) fuel v l [] s).P fun e v ds s => match e with
        | .exit 0 => ds = [] ∧ WrAt X s bw (acc ++ encAll (xs.drop i)) ∧ Sv X s0 s ∧ s.F
        | _ => False := by
    intro k
    induction k with
    | zero =>
      intro fuel i acc v l s hi hf hac hW hS hF h0 h6 h7 h8
      obtain ⟨fuel, rfl⟩ : ∃ m, fuel = m + 1 := ⟨fuel - 1, by omega⟩
      rewrite [iter_succ, l54_5]
      have e : ¬ (i : Int) < xs.length := by omega
      simp -implicitDefEqProofs only [bV_ok, bC_ret, bA_val, bA_enter, bDC_ret, bDA_val, bDA_enter, guard_b, guard_undef, seq_normal, seq_exit, seq_ret, seq_panic, cond_b, block_normal, block_exit, block_ret, block_panic, lkL_cons, lkL_setL, Nat.reduceEqDiff, if_true, if_false, ↓reduceIte, decide_true, decide_false, Bool.true_eq_false, Bool.false_eq_true, bin_add, bin_sub, bin_mul, bin_and, bin_or, bin_eql, bin_neq, bin_lss, bin_leq, bin_gtr, bin_geq, un_not, pick_b, len_slice, nilc, fieldA, conv_int, P_normal, P_ret, P_exit, ne_eq, not_true_eq_false, not_false_eq_true, Bool.not_true, Bool.not_false, true_and, and_true, q54_0_0, q54_0_1, q54_0_2, q54_0_3, q54_1_0, q54_1_1, q54_2_0, q54_2_3, q54_3_0, q54_3_1, q54_3_2, q54_3_3, q54_3_4, q54_3_5, q54_3_6, q54_3_7, q54_3_8, q54_3_9, q54_3_10, q54_3_11, q54_3_12, q54_4_0, q54_4_2, h0, h6, h7, h8, e]
      refine ⟨?_, hS, hF⟩
      rw [List.drop_of_length_le (by omega)]
      simpa [encAll] using hW
    | succ k ih =>
      intro fuel i acc v l s hi hf hac hW hS hF h0 h6 h7 h8
      obtain ⟨fuel, rfl⟩ : ∃ m, fuel = m + 1 := ⟨fuel - 1, by omega⟩
      rewrite [iter_succ, l54_5]
      have hil : i < xs.length := by omega
      have e : (i : Int) < xs.length := by omega
      obtain ⟨a, ha1, ha2⟩ := (hx.sv hS hxX).load hil rfl (kk := .i64)
      obtain ⟨x0, x1⟩ := hr xs[i] (List.getElem_mem hil)
      obtain ⟨N, hN⟩ := Int.eq_ofNat_of_zero_le x0
      have hNb : N < 9223372036854775808 := by omega
      rw [hN] at ha2
      obtain ⟨vb, el, hg, ho, hne⟩ := hW
      obtain ⟨vy, s1, hc, q1, q2, q3, q4⟩ := (short_ok (lf := lf) (n := n) (by omega) (x0 := N) (by omega) hF hlf).inv
      have hc' : (aCall Pz masks lf n).call 110 [.int .u64 (N : Int)] s = .ret vy s1 := hc
      have hcv : convInt Pz 3 62 .u64 (.int .i64 (N : Int)) = .ok (.int .u64 (N : Int)) := by rw [conv_int, wrap_u64 (by omega) (by omega)]
      have hel : (encS N).length ≤ 10 := encS_len 9 N (by omega)
      have hbn := hF.lt hg
      have hg1 : s1.get bw = some (.row [vb] el false) := (q3.same bw hbn id).trans hg
      have ho1 : Own s1 .u8 5 vb acc := ho.keep fun b off n c hv => q3.same b (by
        rcases ho with ⟨rfl, _⟩ | ⟨b', h1, h2⟩
        · cases hv
        · rw [h1] at hv; cases hv; exact hF.lt h2) id
      obtain ⟨s2, a1, a2, a3, a4, a5⟩ := own_append ho1 q1.cells.1 q1.cells.2 (encS_ne N) (by omega) q4
      have hne0 : ∀ n c, vb ≠ .slice (some ⟨bw, 0, none⟩) n c := fun n c h => (hne _ _ _ h).1 rfl
      have hg2 : s2.get bw = some (.row [vb] el false) := (a5 bw (by have := q3.next; omega) hne0).trans hg1
      have l0 : load1 (.pointer (some ⟨bw, 0, none⟩)) s = .ok vb := load1_of hg rfl
      have l1 : load1 (.pointer (some ⟨bw, 0, none⟩)) s1 = .ok vb := load1_of hg1 rfl
      have l2 : load1 (.pointer (some ⟨bw, 0, none⟩)) s2 = .ok vb := load1_of hg2 rfl
      have hst := store1 (o := 0) (u := .slice (some ⟨s1.next, 0, none⟩) (acc ++ encS N).length (2 * (acc ++ encS N).length + 1)) hg2 (by simp) rfl
      have hve := ho.valEq
      have hw : IntKind.i64.wrap ((i : Int) + 1) = ((i + 1 : Nat) : Int) := wrap_succ hil (by omega)
      simp -implicitDefEqProofs only [bV_ok, bC_ret, bA_val, bA_enter, bDC_ret, bDA_val, bDA_enter, guard_b, guard_undef, seq_normal, seq_exit, seq_ret, seq_panic, cond_b, block_normal, block_exit, block_ret, block_panic, lkL_cons, lkL_setL, Nat.reduceEqDiff, if_true, if_false, ↓reduceIte, decide_true, decide_false, Bool.true_eq_false, Bool.false_eq_true, bin_add, bin_sub, bin_mul, bin_and, bin_or, bin_eql, bin_neq, bin_lss, bin_leq, bin_gtr, bin_geq, un_not, pick_b, len_slice, nilc, fieldA, conv_int, P_normal, P_ret, P_exit, ne_eq, not_true_eq_false, not_false_eq_true, Bool.not_true, Bool.not_false, true_and, and_true, q54_0_0, q54_0_1, q54_0_2, q54_0_3, q54_1_0, q54_1_1, q54_2_0, q54_2_3, q54_3_0, q54_3_1, q54_3_2, q54_3_3, q54_3_4, q54_3_5, q54_3_6, q54_3_7, q54_3_8, q54_3_9, q54_3_10, q54_3_11, q54_3_12, q54_4_0, q54_4_2, h0, h6, h7, h8, e, ha1, ha2, hN, Nat.zero_add, l0, l1, l2, hcv, hc', a1, hst, bif_eq, allK_eq, lenK_eq, chkOk, chkAt, dropK_eq, takeK_eq, List.length_cons, List.length_nil, List.all_cons, List.all_nil, Nat.reduceAdd, Nat.reduceSub, Nat.sub_eq, Nat.add_eq, Nat.reduceLeDiff, Nat.ble_eq, List.drop_succ_cons, List.drop_zero, List.take_succ_cons, List.take_zero, Bool.and_true, Bool.true_and, valEq_ptr, valEq_int, valEq_bool, hve, hw]
      have hS' : Sv X s0 (s2.put bw (.row ([vb].set 0 (.slice (some ⟨s1.next, 0, none⟩) (acc ++ encS N).length (2 * (acc ++ encS N).length + 1))) el false)) := by
        refine ⟨?_, fun b hb => ?_⟩
        · show s0.next ≤ s2.next
          have := hS.next; have := q3.next; omega
        · obtain ⟨y1, y2⟩ := hX b hb
          have z1 := hS.next
          have z2 := q3.next
          rw [put_ne _ _ y2, a5 b (by omega) (fun n c h => (hne _ _ _ h).2 hb), q3.same b (by omega) id]
          exact hS.same b hb
      have hW' : WrAt X (s2.put bw (.row ([vb].set 0 (.slice (some ⟨s1.next, 0, none⟩) (acc ++ encS N).length (2 * (acc ++ encS N).length + 1))) el false)) bw (acc ++ encS N) := by
        have z1 := hS.next
        have z2 := q3.next
        refine ⟨_, el, put_get _ _ _, .inr ⟨s1.next, rfl, (put_ne _ _ (by omega)).trans a2⟩, fun b n c h => ?_⟩
        cases h
        exact ⟨by omega, fun hX' => by have := (hX _ hX').1; omega⟩
      have := fun l => ih fuel (i + 1) (acc ++ encS N) (setL 8 (.int .i64 ((i + 1 : Nat) : Int)) (setL 5 (.int .i64 (N : Int)) v)) l _ (by omega) (by omega) (by simp only [List.length_append]; omega) hW' hS' (a4.put (by have := q3.next; omega) _) (by simp only [lkL_setL, Nat.reduceEqDiff, if_false, h0]) (by simp only [lkL_setL, Nat.reduceEqDiff, if_false, h6]) (by simp only [lkL_setL, Nat.reduceEqDiff, if_false, h7]) (by simp only [lkL_setL, if_true])
      refine (this _).mono fun e v ds s h => ?_
      match e, h with
      | .exit 0, ⟨r1, r2, r3⟩ =>
        refine ⟨r1, ?_, r3⟩
        rw [List.drop_eq_getElem_cons hil, encAll, List.flatMap_cons, hN, ← List.append_assoc]
        exact r2
  have hL := loop xs.length lf 0 bytes (.cons 0 (.pointer (some ⟨bw, 0, none⟩)) (.cons 1 vx .nil) |> setL 6 vx |> setL 7 (.int .i64 (xs.length : Int)) |> setL 8 (.int .i64 0)) .nil s0 (by omega) (by omega) hlen hW (Sv.refl _ _) hF rfl rfl rfl rfl
  simp -implicitDefEqProofs only [aft_normal, aft_ret, bV_ok, bC_ret, bA_val, bA_enter, bDC_ret, bDA_val, bDA_enter, guard_b, guard_undef, seq_normal, seq_exit, seq_ret, seq_panic, cond_b, block_normal, block_exit, block_ret, block_panic, lkL_cons, lkL_setL, Nat.reduceEqDiff, if_true, if_false, ↓reduceIte, decide_true, decide_false, Bool.true_eq_false, Bool.false_eq_true, bin_add, bin_sub, bin_mul, bin_and, bin_or, bin_eql, bin_neq, bin_lss, bin_leq, bin_gtr, bin_geq, un_not, pick_b, len_slice, nilc, fieldA, conv_int, P_normal, P_ret, P_exit, ne_eq, not_true_eq_false, not_false_eq_true, Bool.not_true, Bool.not_false, true_and, and_true, q54_0_0, q54_0_1, q54_0_2, q54_0_3, q54_1_0, q54_1_1, q54_2_0, q54_2_3, q54_3_0, q54_3_1, q54_3_2, q54_3_3, q54_3_4, q54_3_5, q54_3_6, q54_3_7, q54_3_8, q54_3_9, q54_3_10, q54_3_11, q54_3_12, q54_4_0, q54_4_2, hln]
  refine P_block (hL.mono fun e v ds s' h => ?_)
  match e, h with
  | .exit 0, ⟨q1, q2, q3⟩ =>
    subst q1
    exact ⟨rfl, fun l => by rw [res54]; exact ⟨q2, q3⟩⟩
end Go.Proofs.YtbbknbmmpkpgdaaGreatDoor.KAb
namespace Go.Proofs.YtbbknbmmpkpgdaaGreatDoor.KAb
theorem encAll_len {xs : List Int} (h : ∀ x ∈ xs, 0 ≤ x ∧ x < 9223372036854775808) : (encAll xs).length ≤ 10 * xs.length := by
  induction xs with
  | nil => simp [encAll]
  | cons x r ih =>
    have h1 := ih fun y hy => h y (List.mem_cons_of_mem _ hy)
    have h2 : (encS x.toNat).length ≤ 10 := encS_len 9 _ (by have := h x (List.mem_cons_self ..); omega)
    simp only [encAll, List.flatMap_cons, List.length_append, List.length_cons] at *
    omega
theorem WrAt.mono {X Y : Nat → Prop} {s : AS} {bw : Nat} {bytes : List Int} (h : WrAt X s bw bytes) (hY : ∀ b, Y b → X b) : WrAt Y s bw bytes := by
  obtain ⟨vb, el, h1, h2, h3⟩ := h
  exact ⟨vb, el, h1, h2, fun b n c hv => ⟨(h3 b n c hv).1, fun hy => (h3 b n c hv).2 (hY b hy)⟩⟩
theorem WrAt.new {X : Nat → Prop} {s : AS} {bw : Nat} {bytes : List Int} (h : WrAt X s bw bytes) (hF : s.F) (o : AObj) : WrAt (fun b => X b ∨ b = s.next) (s.new o) bw bytes := by
  obtain ⟨vb, el, h1, h2, h3⟩ := h
  have hb := hF.lt h1
  refine ⟨vb, el, (new_ne s o (by omega)).trans h1, h2.keep fun b off n c hv => new_ne s o ?_, fun b n c hv => ⟨(h3 b n c hv).1, fun hy => ?_⟩⟩
  · rcases h2 with ⟨rfl, _⟩ | ⟨b', e1, e2⟩
    · cases hv
    · rw [e1] at hv; cases hv; have := hF.lt e2; omega
  · rcases hy with hy | rfl
    · exact (h3 b n c hv).2 hy
    · rcases h2 with ⟨rfl, _⟩ | ⟨b', e1, e2⟩
      · cases hv
      · rw [e1] at hv; cases hv; have := hF.lt e2; omega
theorem wput_new {X : Nat → Prop} {lf n : Nat} (hn : 2 ≤ n) {s : AS} {bw : Nat} {bytes zs : List Int} (hW : WrAt X s bw bytes) (hX : ∀ b, X b → b < s.next ∧ b ≠ bw) (hr : ∀ x ∈ zs, 0 ≤ x ∧ x < 9223372036854775808)
    (hlen : bytes.length + 10 * zs.length < 1000000000) (hF : s.F) (hlf : 1000000000 ≤ lf) :
    ∃ x s', (aCall Pz masks lf n).call 54 [.pointer (some ⟨bw, 0, none⟩), .slice (some ⟨s.next, 0, none⟩) zs.length (2 * zs.length)] (s.new (.row (zs.map (.int .i64)) 3 false)) = .ret x s' ∧ WrAt X s' bw (bytes ++ encAll zs) ∧ Sv X s s' ∧ s'.F := by
  have hbw : bw < s.next := by obtain ⟨vb, el, h1, _⟩ := hW; exact hF.lt h1
  obtain ⟨x, s', h1, h2, h3, h4⟩ := (wput_ok (X := fun b => X b ∨ b = s.next) (lf := lf) (n := n) hn (hW.new hF _) (ints_new zs 3) (fun b off n c h => by cases h; exact .inr rfl)
    (fun b hb => by
      show b < s.next + 1 ∧ _
      rcases hb with hb | rfl
      · have := hX b hb; omega
      · omega) hr hlen (hF.new _) hlf).inv
  refine ⟨x, s', h1, h2.mono fun b hb => .inl hb, ⟨Nat.le_trans (Nat.le_succ _) h3.next, fun b hb => (h3.same b (.inl hb)).trans (new_ne s _ ?_)⟩, h4⟩
  have := hX b hb; omega
def encV (d : Vd) : List Int := encAll [d.kind] ++ (if d.kind = 2 then encAll [d.how, d.who + 1, (d.sched.length : Int)] ++ encAll d.sched else [])
theorem okV_facts {d : Vd} (h : okV d = true) : (0 ≤ d.kind ∧ d.kind ≤ 3) ∧ (d.kind = 2 → 2 ≤ d.how ∧ d.how ≤ 5 ∧ -1 ≤ d.who ∧ d.who < 16 ∧ d.sched.length ≤ 1048577 ∧ allB 0 15 d.sched = true ∧ (d.how = 4 → d.who = -1) ∧ (d.how ≠ 4 → 0 ≤ d.who)) ∧ (d.kind ≠ 2 → d.how = 0 ∧ d.who = 0 ∧ d.sched = []) := by
  unfold okV at h
  split at h
  · cases h
  split at h
  · cases h
  refine ⟨by omega, fun hk => ?_, fun hk => ?_⟩
  · rw [if_pos hk] at h
    split at h
    · split at h
      · by_cases h4 : d.how = 4
        · simp only [h4, if_true] at h
          by_cases hw : d.who = -1
          · rw [if_pos hw] at h
            split at h
            · exact ⟨by omega, by omega, by omega, by omega, by omega, h, fun _ => hw, fun _ => by omega⟩
            · cases h
          · rw [if_neg hw] at h; cases h
        · simp only [h4, if_false] at h
          by_cases hw : 0 ≤ d.who ∧ d.who < 16
          · rw [if_pos hw] at h
            split at h
            · exact ⟨by omega, by omega, by omega, by omega, by omega, h, fun _ => by omega, fun _ => by omega⟩
            · cases h
          · rw [if_neg hw] at h; cases h
      · cases h
    · cases h
  · rw [if_neg hk] at h
    split at h
    · split at h
      · exact ⟨by omega, by omega, List.eq_nil_of_length_eq_zero (of_decide_eq_true h)⟩
      · cases h
    · cases h
theorem allB_mem {lo hi : Int} {xs : List Int} (h : allB lo hi xs = true) : ∀ x ∈ xs, lo ≤ x ∧ x ≤ hi := by
  intro x hx
  have := List.all_eq_true.1 h x hx
  simpa using this
theorem res46 {v l : L} {s : AS} : resOf Pz 11 Go.Proofs.Tryz.f46 v l s = .ret (.tuple #[]) s := res0 (by kernel_rfl)
set_option maxRecDepth 100000 in
theorem wverdict_ok {X : Nat → Prop} {lf n : Nat} (hn : 3 ≤ n) {s0 : AS} {bw : Nat} {bytes : List Int} {d : Vd} {vs : Value} (hv : okV d = true) (hW : WrAt X s0 bw bytes) (hx : Ints s0 .i64 vs d.sched) (hxX : InX X vs) (hX : ∀ b, X b → b < s0.next ∧ b ≠ bw)
    (hlen : bytes.length + 10 * (4 + d.sched.length) < 1000000000) (hF : s0.F) (hlf : 1000000000 ≤ lf) :
    (Cl lf n 46 [.pointer (some ⟨bw, 0, none⟩), .agg (d.cells vs).toArray] s0).P fun x s' => WrAt X s' bw (bytes ++ encV d) ∧ Sv X s0 s' ∧ s'.F := by
  obtain ⟨n, rfl⟩ : ∃ m, n = m + 1 := ⟨n - 1, by omega⟩
  have hbw : bw < s0.next := by obtain ⟨vb, el, h1, _⟩ := hW; exact hF.lt h1
  obtain ⟨f1, f2, f3⟩ := okV_facts hv
  have hb := box_agg 36 (d.cells vs).toArray s0
  simp only [List.toList_toArray] at hb
  rewrite [Cl, aCall_succ]
  rewrite [fn46, c46]
  refine P_aft ?_
  have hg1 : (s0.new (.row (d.cells vs) 36 false)).get s0.next = some (.row (d.cells vs) 36 false) := new_get _ _
  have hW1 := hW.new hF (.row (d.cells vs) 36 false)
  have hF1 : (s0.new (.row (d.cells vs) 36 false)).F := hF.new _
  have hS1 : Sv X s0 (s0.new (.row (d.cells vs) 36 false)) := ⟨Nat.le_succ _, fun b hb => new_ne s0 _ (by have := hX b hb; omega)⟩
  have hx1 := hx.new hF (.row (d.cells vs) 36 false)
  have hX1 : ∀ b, (X b ∨ b = s0.next) → b < (s0.new (.row (d.cells vs) 36 false)).next ∧ b ≠ bw := by
    intro b hb
    show b < s0.next + 1 ∧ _
    rcases hb with hb | rfl
    · have := hX b hb; omega
    · omega
  generalize s0.new (.row (d.cells vs) 36 false) = s1 at *
  have l10 : load1 (.pointer (some ⟨s0.next, 0, none⟩)) s1 = .ok (.int .i64 d.kind) := load1_of hg1 rfl
  have hbs : doBuildSlice 3 1 1 (zerosK [.int .i64 0] 1) [(0, .int .i64 d.kind)] s1 = .val (.slice (some ⟨s1.next, 0, none⟩) 1 2) (s1.new (.row [.int .i64 d.kind] 3 false)) := rfl
  obtain ⟨x1, s2, hc, hW2, hS2, hF2⟩ := wput_new (lf := lf) (n := n) (zs := [d.kind]) (by omega) hW1 hX1 (by intro x hx; simp only [List.mem_singleton] at hx; omega) (by simp only [List.length_cons, List.length_nil]; omega) hF1 hlf
  have hc' : (aCall Pz masks lf n).call 54 [.pointer (some ⟨bw, 0, none⟩), .slice (some ⟨s1.next, 0, none⟩) 1 2] (s1.new (.row [.int .i64 d.kind] 3 false)) = .ret x1 s2 := hc
  have hg2 := (hS2.same s0.next (.inr rfl)).trans hg1
  have l20 : load1 (.pointer (some ⟨s0.next, 0, none⟩)) s2 = .ok (.int .i64 d.kind) := load1_of hg2 rfl
  have l21 : load1 (.pointer (some ⟨s0.next, 1, none⟩)) s2 = .ok (.int .i64 d.how) := load1_of hg2 rfl
  have l22 : load1 (.pointer (some ⟨s0.next, 2, none⟩)) s2 = .ok (.int .i64 d.who) := load1_of hg2 rfl
  have l23 : load1 (.pointer (some ⟨s0.next, 3, none⟩)) s2 = .ok vs := load1_of hg2 rfl
  by_cases hk : d.kind = 2
  case neg =>
    have e : decide (d.kind = 2) = false := decide_eq_false hk
    simp -implicitDefEqProofs only [aft_normal, aft_ret, bV_ok, bC_ret, bA_val, bA_enter, bDC_ret, bDA_val, bDA_enter, guard_b, guard_undef, seq_normal, seq_exit, seq_ret, seq_panic, cond_b, block_normal, block_exit, block_ret, block_panic, lkL_cons, lkL_setL, Nat.reduceEqDiff, if_true, if_false, ↓reduceIte, decide_true, decide_false, Bool.true_eq_false, Bool.false_eq_true, bin_add, bin_sub, bin_mul, bin_and, bin_or, bin_eql, bin_neq, bin_lss, bin_leq, bin_gtr, bin_geq, un_not, pick_b, len_slice, nilc, fieldA, conv_int, P_normal, P_ret, P_exit, ne_eq, not_true_eq_false, not_false_eq_true, Bool.not_true, Bool.not_false, true_and, and_true, q46_0_0, q46_0_1, q46_1_0, q46_1_5, q46_2_0, q46_2_3, q46_3_0, q46_3_11, q46_4_0, q46_4_4, Nat.zero_add, hb, l10, hbs, hc', l20, e, res46]
    refine fun _ => ⟨?_, hS1.trans ⟨hS2.next, fun b hb => hS2.same b (.inl hb)⟩, hF2⟩
    rw [encV, if_neg hk, List.append_nil]
    exact hW2.mono fun b hb => .inl hb
  have e : decide (d.kind = 2) = true := decide_eq_true hk
  obtain ⟨g1, g2, g3, g4, g5, g6, _⟩ := f2 hk
  have hx2 : Ints s2 .i64 vs d.sched := hx1.keep fun b off n c hv => hS2.same b (.inl (hxX b off n c hv))
  have hln := hx2.len
  have hw : IntKind.i64.wrap (d.who + 1) = d.who + 1 := wrap64_in (by omega) (by omega)
  have hX2 : ∀ b, (X b ∨ b = s0.next) → b < s2.next ∧ b ≠ bw := fun b hb => ⟨Nat.lt_of_lt_of_le (hX1 b hb).1 hS2.next, (hX1 b hb).2⟩
  have hel : (encAll [d.kind]).length ≤ 10 := encAll_len (xs := [d.kind]) (by intro x hx; simp only [List.mem_singleton] at hx; omega)
  have hbs2 : doBuildSlice 3 1 3 (zerosK [.int .i64 0] 3) [(0, .int .i64 d.how), (1, .int .i64 (d.who + 1)), (2, .int .i64 (d.sched.length : Int))] s2 = .val (.slice (some ⟨s2.next, 0, none⟩) 3 6) (s2.new (.row [.int .i64 d.how, .int .i64 (d.who + 1), .int .i64 (d.sched.length : Int)] 3 false)) := rfl
  have h3r : ∀ x ∈ [d.how, d.who + 1, (d.sched.length : Int)], 0 ≤ x ∧ x < 9223372036854775808 := by
    intro x hx; simp only [List.mem_cons, List.not_mem_nil, or_false] at hx; omega
  obtain ⟨x2, s3, hc2, hW3, hS3, hF3⟩ := wput_new (lf := lf) (n := n) (zs := [d.how, d.who + 1, (d.sched.length : Int)]) (by omega) hW2 hX2 h3r (by simp only [List.length_cons, List.length_nil, List.length_append]; omega) hF2 hlf
  have hc2' : (aCall Pz masks lf n).call 54 [.pointer (some ⟨bw, 0, none⟩), .slice (some ⟨s2.next, 0, none⟩) 3 6] (s2.new (.row [.int .i64 d.how, .int .i64 (d.who + 1), .int .i64 (d.sched.length : Int)] 3 false)) = .ret x2 s3 := hc2
  have hg3 := (hS3.same s0.next (.inr rfl)).trans hg2
  have l33 : load1 (.pointer (some ⟨s0.next, 3, none⟩)) s3 = .ok vs := load1_of hg3 rfl
  have hx3 : Ints s3 .i64 vs d.sched := hx2.keep fun b off n c hv => hS3.same b (.inl (hxX b off n c hv))
  have hel3 := encAll_len h3r
  obtain ⟨x3, s4, hc3, hW4, hS4, hF4⟩ := (wput_ok (lf := lf) (n := n) (by omega) hW3 hx3 (fun b off n c h => .inl (hxX b off n c h)) (fun b hb => ⟨Nat.lt_of_lt_of_le (hX2 b hb).1 hS3.next, (hX2 b hb).2⟩) (fun x hx => by have := allB_mem g6 x hx; omega) (by simp only [List.length_cons, List.length_nil, List.length_append] at *; omega) hF3 hlf).inv
  have hc3' : (aCall Pz masks lf n).call 54 [.pointer (some ⟨bw, 0, none⟩), vs] s3 = .ret x3 s4 := hc3
  simp -implicitDefEqProofs only [aft_normal, aft_ret, bV_ok, bC_ret, bA_val, bA_enter, bDC_ret, bDA_val, bDA_enter, guard_b, guard_undef, seq_normal, seq_exit, seq_ret, seq_panic, cond_b, block_normal, block_exit, block_ret, block_panic, lkL_cons, lkL_setL, Nat.reduceEqDiff, if_true, if_false, ↓reduceIte, decide_true, decide_false, Bool.true_eq_false, Bool.false_eq_true, bin_add, bin_sub, bin_mul, bin_and, bin_or, bin_eql, bin_neq, bin_lss, bin_leq, bin_gtr, bin_geq, un_not, pick_b, len_slice, nilc, fieldA, conv_int, P_normal, P_ret, P_exit, ne_eq, not_true_eq_false, not_false_eq_true, Bool.not_true, Bool.not_false, true_and, and_true, q46_0_0, q46_0_1, q46_1_0, q46_1_5, q46_2_0, q46_2_3, q46_3_0, q46_3_11, q46_4_0, q46_4_4, Nat.zero_add, hb, l10, hbs, hc', l20, l21, l22, l23, e, hw, hln, hbs2, hc2', l33, hc3', res46]
  refine fun _ => ⟨?_, hS1.trans ⟨Nat.le_trans hS2.next (Nat.le_trans hS3.next hS4.next), fun b hb => (hS4.same b (.inl hb)).trans ((hS3.same b (.inl hb)).trans (hS2.same b (.inl hb)))⟩, hF4⟩
  rw [encV, if_pos hk, ← List.append_assoc, ← List.append_assoc]
  exact hW4.mono fun b hb => .inl hb
end Go.Proofs.YtbbknbmmpkpgdaaGreatDoor.KAb
namespace Go.Proofs.YtbbknbmmpkpgdaaGreatDoor.KAb
theorem okF_facts {f : Fd} (h : okF f = true) : okV f.d = true ∧ (0 ≤ f.p ∧ f.p ≤ 4611686018427387904 ∧ 0 ≤ f.q ∧ f.q ≤ 4611686018427387904) ∧ f.b.length = f.a.length ∧ f.c.length = f.a.length ∧
    (f.d.kind = 0 → 1 ≤ f.a.length ∧ f.a.length ≤ 1048577 ∧ allB 0 15 f.a = true ∧ allB 0 65535 f.b = true ∧ allB 0 65535 f.c = true ∧ 0 ≤ f.m ∧ f.m ≤ 8192) ∧ (f.d.kind ≠ 0 → f.a = [] ∧ f.b = [] ∧ f.c = [] ∧ f.m = 0) := by
  unfold okF at h
  split at h
  case isFalse => cases h
  rename_i h1
  split at h
  case isFalse => cases h
  rename_i h2
  split at h
  case isFalse => cases h
  rename_i h3
  split at h
  case isFalse => cases h
  rename_i h4
  have hp := allB_mem h2 f.p (by simp)
  have hq := allB_mem h2 f.q (by simp)
  refine ⟨h1, ⟨hp.1, hp.2, hq.1, hq.2⟩, h3, h4, fun hk => ?_, fun hk => ?_⟩
  · rw [if_pos hk] at h
    split at h
    case isFalse => cases h
    split at h
    case isFalse => cases h
    split at h
    case isFalse => cases h
    split at h
    case isFalse => cases h
    split at h
    case isFalse => cases h
    split at h
    case isFalse => cases h
    exact ⟨by assumption, by assumption, by assumption, by assumption, by assumption, by assumption, of_decide_eq_true h⟩
  · rw [if_neg hk] at h
    split at h
    case isFalse => cases h
    rename_i h5
    exact ⟨List.eq_nil_of_length_eq_zero h5, List.eq_nil_of_length_eq_zero (by omega), List.eq_nil_of_length_eq_zero (by omega), of_decide_eq_true h⟩
def encT : List Int → List Int → List Int → List Int
  | x :: a, y :: b, z :: c => encAll [x, y, z] ++ encT a b c
  | _, _, _ => []
/-- A frontier's bytes. -/
def encF (f : Fd) : List Int := encV f.d ++ encAll [f.p, f.q] ++ (if f.d.kind = 0 then encAll [(f.a.length : Int)] ++ encT f.a f.b f.c ++ encAll [f.m] else [])
theorem Ints.inX {s : AS} {k : IntKind} {v : Value} {xs : List Int} (h : Ints s k v xs) (hF : s.F) {N : Nat} (hN : s.next ≤ N) : InX (· < N) v := by
  intro b off n c hv
  rcases h with ⟨rfl, _⟩ | ⟨b', off', c', cs, el', ro, h1, _, h3, _⟩
  · cases hv
  · rw [h1] at hv; cases hv; have := hF.lt h3; show _ < N; omega
theorem res18 {v l : L} {s : AS} : resOf Pz 1610612799 Go.Proofs.Tryz.f18 v l s = .ret (.tuple #[lkL 2 v poison, lkL 3 v poison]) s := res2 (by kernel_rfl) (by kernel_rfl) (by kernel_rfl)
set_option maxRecDepth 100000 in
theorem loop18 {lf n : Nat} (hn : 2 ≤ n) (hlf : 1000000000 ≤ lf) {X : Nat → Prop} {s0 : AS} {bx bw : Nat} {f : Fd} {va vb vc vs : Value} (hI : FAt s0 f va vb vc vs) (hg : s0.get bx = some (.row (f.cells va vb vc vs) 38 false)) (hX : ∀ b, X b → b < s0.next ∧ b ≠ bw) (xa : InX X va) (xb : InX X vb) (xc : InX X vc) (xx : X bx)
    (hb : f.b.length = f.a.length) (hc : f.c.length = f.a.length) (ha : f.a.length ≤ 1048577) (r1 : allB 0 15 f.a = true) (r2 : allB 0 65535 f.b = true) (r3 : allB 0 65535 f.c = true) :
    ∀ (k fuel i : Nat) (acc : List Int) (v l : L) (s : AS), i + k = f.a.length → k < fuel → acc.length + 30 * k < 999999000 → WrAt X s bw acc → Sv X s0 s → s.F → lkL 1 v poison = .pointer (some ⟨bx, 0, none⟩) → lkL 4 v poison = .pointer (some ⟨bw, 0, none⟩) → lkL 29 v poison = .int .i64 (f.a.length : Int) → lkL 30 v poison = .int .i64 (i : Int) →
      (iterK (l18_13 lf (aCall Pz masks lf n)) fuel v l [] s).P fun e v ds s => match e with
        | .exit 0 => ds = [] ∧ WrAt X s bw (acc ++ encT (f.a.drop i) (f.b.drop i) (f.c.drop i)) ∧ Sv X s0 s ∧ s.F ∧ lkL 1 v poison = .pointer (some ⟨bx, 0, none⟩) ∧ lkL 4 v poison = .pointer (some ⟨bw, 0, none⟩) ∧ acc.length ≤ acc.length
        | _ => False := by
  intro k
  induction k with
  | zero =>
    intro fuel i acc v l s hi hf hac hW hS hF h1 h4 h29 h30
    obtain ⟨fuel, rfl⟩ : ∃ m, fuel = m + 1 := ⟨fuel - 1, by omega⟩
    rewrite [iter_succ, l18_13]
    have e : ¬ (i : Int) < f.a.length := by omega
    simp -implicitDefEqProofs only [bV_ok, bC_ret, bA_val, bA_enter, bDC_ret, bDA_val, bDA_enter, guard_b, guard_undef, seq_normal, seq_exit, seq_ret, seq_panic, cond_b, block_normal, block_exit, block_ret, block_panic, lkL_cons, lkL_setL, Nat.reduceEqDiff, if_true, if_false, ↓reduceIte, decide_true, decide_false, Bool.true_eq_false, Bool.false_eq_true, bin_add, bin_sub, bin_mul, bin_and, bin_or, bin_eql, bin_neq, bin_lss, bin_leq, bin_gtr, bin_geq, un_not, pick_b, len_slice, nilc, fieldA, conv_int, P_normal, P_ret, P_exit, ne_eq, not_true_eq_false, not_false_eq_true, Bool.not_true, Bool.not_false, true_and, and_true, q18_0_0, q18_0_1, q18_0_2, q18_0_3, q18_1_0, q18_1_3, q18_2_0, q18_2_1, q18_2_2, q18_3_0, q18_3_1, q18_4_0, q18_4_3, q18_5_0, q18_5_6, q18_6_0, q18_6_4, q18_7_0, q18_7_5, q18_8_0, q18_8_3, q18_8_4, q18_9_0, q18_9_1, q18_10_0, q18_10_2, q18_11_0, q18_11_1, q18_11_2, q18_11_3, q18_11_4, q18_11_5, q18_11_6, q18_11_7, q18_11_8, q18_11_9, q18_11_10, q18_11_11, q18_11_12, q18_11_13, q18_11_14, q18_11_15, q18_11_16, q18_11_17, q18_12_0, q18_12_2, q18_14_0, q18_14_4, q18_15_0, q18_15_3, q18_15_4, h29, h30, e]
    refine ⟨?_, hS, hF, h1, h4, Nat.le_refl _⟩
    rw [List.drop_of_length_le (by omega)]
    simpa [encT] using hW
  | succ k ih =>
    intro fuel i acc v l s hi hf hac hW hS hF h1 h4 h29 h30
    obtain ⟨fuel, rfl⟩ : ∃ m, fuel = m + 1 := ⟨fuel - 1, by omega⟩
    rewrite [iter_succ, l18_13]
    have hil : i < f.a.length := by omega
    have e : (i : Int) < f.a.length := by omega
    obtain ⟨p1, pa1, pa2⟩ := (hI.ia.sv hS xa).load hil rfl (kk := .i64)
    obtain ⟨p2, pb1, pb2⟩ := (hI.ib.sv hS xb).load (i := i) (by omega) rfl (kk := .i64)
    obtain ⟨p3, pc1, pc2⟩ := (hI.ic.sv hS xc).load (i := i) (by omega) rfl (kk := .i64)
    have ra := allB_mem r1 _ (List.getElem_mem hil)
    have rb := allB_mem r2 _ (List.getElem_mem (show i < f.b.length by omega))
    have rc := allB_mem r3 _ (List.getElem_mem (show i < f.c.length by omega))
    have hgs := (hS.same bx xx).trans hg
    have l0 : load1 (.pointer (some ⟨bx, 0, none⟩)) s = .ok va := load1_of hgs rfl
    have l1 : load1 (.pointer (some ⟨bx, 1, none⟩)) s = .ok vb := load1_of hgs rfl
    have l2 : load1 (.pointer (some ⟨bx, 2, none⟩)) s = .ok vc := load1_of hgs rfl
    have da := List.drop_eq_getElem_cons hil
    have db := List.drop_eq_getElem_cons (show i < f.b.length by omega)
    have dc := List.drop_eq_getElem_cons (show i < f.c.length by omega)
    generalize f.a[i] = za at *
    generalize f.b[i] = zb at *
    generalize f.c[i] = zc at *
    have hbs : doBuildSlice 3 1 3 (zerosK [.int .i64 0] 3) [(0, .int .i64 za), (1, .int .i64 zb), (2, .int .i64 zc)] s = .val (.slice (some ⟨s.next, 0, none⟩) 3 6) (s.new (.row [.int .i64 za, .int .i64 zb, .int .i64 zc] 3 false)) := rfl
    have hX' : ∀ b, X b → b < s.next ∧ b ≠ bw := fun b hb => ⟨Nat.lt_of_lt_of_le (hX b hb).1 hS.next, (hX b hb).2⟩
    have hzr : ∀ x ∈ [za, zb, zc], 0 ≤ x ∧ x < 9223372036854775808 := by intro x hx; simp only [List.mem_cons, List.not_mem_nil, or_false] at hx; omega
    obtain ⟨x1, s1, hc1, hW1, hS1, hF1⟩ := wput_new (lf := lf) (n := n) (zs := [za, zb, zc]) hn hW hX' hzr (by simp only [List.length_cons, List.length_nil]; omega) hF hlf
    have hc1' : (aCall Pz masks lf n).call 54 [.pointer (some ⟨bw, 0, none⟩), .slice (some ⟨s.next, 0, none⟩) 3 6] (s.new (.row [.int .i64 za, .int .i64 zb, .int .i64 zc] 3 false)) = .ret x1 s1 := hc1
    have hel := encAll_len hzr
    simp only [List.length_cons, List.length_nil] at hel
    have hw : IntKind.i64.wrap ((i : Int) + 1) = ((i + 1 : Nat) : Int) := wrap_succ hil (by omega)
    simp -implicitDefEqProofs only [bV_ok, bC_ret, bA_val, bA_enter, bDC_ret, bDA_val, bDA_enter, guard_b, guard_undef, seq_normal, seq_exit, seq_ret, seq_panic, cond_b, block_normal, block_exit, block_ret, block_panic, lkL_cons, lkL_setL, Nat.reduceEqDiff, if_true, if_false, ↓reduceIte, decide_true, decide_false, Bool.true_eq_false, Bool.false_eq_true, bin_add, bin_sub, bin_mul, bin_and, bin_or, bin_eql, bin_neq, bin_lss, bin_leq, bin_gtr, bin_geq, un_not, pick_b, len_slice, nilc, fieldA, conv_int, P_normal, P_ret, P_exit, ne_eq, not_true_eq_false, not_false_eq_true, Bool.not_true, Bool.not_false, true_and, and_true, q18_0_0, q18_0_1, q18_0_2, q18_0_3, q18_1_0, q18_1_3, q18_2_0, q18_2_1, q18_2_2, q18_3_0, q18_3_1, q18_4_0, q18_4_3, q18_5_0, q18_5_6, q18_6_0, q18_6_4, q18_7_0, q18_7_5, q18_8_0, q18_8_3, q18_8_4, q18_9_0, q18_9_1, q18_10_0, q18_10_2, q18_11_0, q18_11_1, q18_11_2, q18_11_3, q18_11_4, q18_11_5, q18_11_6, q18_11_7, q18_11_8, q18_11_9, q18_11_10, q18_11_11, q18_11_12, q18_11_13, q18_11_14, q18_11_15, q18_11_16, q18_11_17, q18_12_0, q18_12_2, q18_14_0, q18_14_4, q18_15_0, q18_15_3, q18_15_4, h1, h4, h29, h30, e, Nat.zero_add, l0, l1, l2, pa1, pa2, pb1, pb2, pc1, pc2, hbs, hc1', bif_eq, allK_eq, lenK_eq, chkOk, chkAt, dropK_eq, takeK_eq, List.length_cons, List.length_nil, List.all_cons, List.all_nil, Nat.reduceAdd, Nat.reduceSub, Nat.sub_eq, Nat.add_eq, Nat.reduceLeDiff, Nat.ble_eq, List.drop_succ_cons, List.drop_zero, List.take_succ_cons, List.take_zero, Bool.and_true, Bool.true_and, valEq_ptr, valEq_int, valEq_bool, hw]
    have := fun l => ih fuel (i + 1) _ (setL 30 (.int .i64 ((i + 1 : Nat) : Int)) (setL 5 (.int .i64 (i : Int)) v)) l s1 (by omega) (by omega) (by simp only [List.length_append]; omega) hW1 (hS.trans hS1) hF1 (by simp only [lkL_setL, Nat.reduceEqDiff, if_false, h1]) (by simp only [lkL_setL, Nat.reduceEqDiff, if_false, h4]) (by simp only [lkL_setL, Nat.reduceEqDiff, if_false, h29]) (by simp only [lkL_setL, if_true])
    refine (this _).mono fun e v ds s h => ?_
    match e, h with
    | .exit 0, ⟨q1, q2, q3, q4, q5, q6, _⟩ =>
      refine ⟨q1, ?_, q3, q4, q5, q6, Nat.le_refl _⟩
      rw [da, db, dc, encT, ← List.append_assoc]
      exact q2
end Go.Proofs.YtbbknbmmpkpgdaaGreatDoor.KAb
namespace Go.Proofs.YtbbknbmmpkpgdaaGreatDoor.KAb
theorem encT_len : ∀ {a b c : List Int}, allB 0 15 a = true → allB 0 65535 b = true → allB 0 65535 c = true → (encT a b c).length ≤ 30 * a.length
  | [], _, _, _, _, _ => by simp [encT]
  | _ :: _, [], _, _, _, _ => by simp [encT]
  | _ :: _, _ :: _, [], _, _, _ => by simp [encT]
  | x :: a, y :: b, z :: c, h1, h2, h3 => by
    have m1 := allB_mem h1 x (List.mem_cons_self ..)
    have m2 := allB_mem h2 y (List.mem_cons_self ..)
    have m3 := allB_mem h3 z (List.mem_cons_self ..)
    rw [allB_cons, Bool.and_eq_true] at h1 h2 h3
    have := encT_len h1.2 h2.2 h3.2
    have h := encAll_len (xs := [x, y, z]) (by intro w hw; simp only [List.mem_cons, List.not_mem_nil, or_false] at hw; omega)
    simp only [encT, List.length_append, List.length_cons, List.length_nil] at *
    omega
theorem encV_len {d : Vd} (h : okV d = true) : (encV d).length ≤ 10 * (4 + d.sched.length) := by
  obtain ⟨f1, f2, f3⟩ := okV_facts h
  have e1 := encAll_len (xs := [d.kind]) (by intro w hw; simp only [List.mem_singleton] at hw; omega)
  unfold encV
  split
  · rename_i hk
    obtain ⟨g1, g2, g3, g4, g5, g6, _⟩ := f2 hk
    have e2 := encAll_len (xs := [d.how, d.who + 1, (d.sched.length : Int)]) (by intro w hw; simp only [List.mem_cons, List.not_mem_nil, or_false] at hw; omega)
    have e3 := encAll_len (xs := d.sched) (fun w hw => by have := allB_mem g6 w hw; omega)
    simp only [List.length_append, List.length_cons, List.length_nil] at *
    omega
  · simp only [List.length_append, List.length_cons, List.length_nil] at *
    omega
theorem okV_sched {d : Vd} (h : okV d = true) : d.sched.length ≤ 1048577 := by
  obtain ⟨f1, f2, f3⟩ := okV_facts h
  by_cases hk : d.kind = 2
  · exact (f2 hk).2.2.2.2.1
  · rw [(f3 hk).2.2]; simp
/-- What Bytes leaves. -/
def BytesOut (f : Fd) (x : Value) (s' : AS) : Prop := if okF f = true then ∃ vb, x = .tuple #[vb, .int .i64 0] ∧ Own s' .u8 5 vb (encF f) else x = .tuple #[.slice none 0 0, .int .i64 2]
set_option maxRecDepth 100000 in
theorem bytes_ok {lf n : Nat} (hn : 4 ≤ n) {s : AS} {f : Fd} {va vb vc vs : Value} (hI : FAt s f va vb vc vs) (hF : s.F) (hlf : 1000000000 ≤ lf) :
    (Cl lf n 18 [.agg (f.cells va vb vc vs).toArray] s).P fun x s' => BytesOut f x s' ∧ Fr (fun _ => False) s s' ∧ s'.F := by
  obtain ⟨n, rfl⟩ : ∃ m, n = m + 1 := ⟨n - 1, by omega⟩
  have hb := box_agg 38 (f.cells va vb vc vs).toArray s
  simp only [List.toList_toArray] at hb
  rewrite [Cl, aCall_succ]
  rewrite [fn18, c18]
  refine P_aft ?_
  have hg1 : (s.new (.row (f.cells va vb vc vs) 38 false)).get s.next = some (.row (f.cells va vb vc vs) 38 false) := new_get _ _
  have hfr1 := Fr.new (fun _ => False) s (.row (f.cells va vb vc vs) 38 false)
  have hF1 : (s.new (.row (f.cells va vb vc vs) 38 false)).F := hF.new _
  have hI1 := hI.fr hF hfr1 (fun _ _ _ h => h)
  generalize s.new (.row (f.cells va vb vc vs) 38 false) = s1 at *
  have lv : loadN 10 (.pointer (some ⟨s.next, 0, none⟩)) s1 = .ok (.agg (f.cells va vb vc vs).toArray) := loadN_of hg1 (by simp [Fd.cells, Vd.cells])
  obtain ⟨x, s2, hc, rfl, hfr2, hF2⟩ := (okF_ok (lf := lf) (n := n) (by omega) hI1 hF1 hlf).inv
  have hc' : (aCall Pz masks lf n).call 50 [.agg (f.cells va vb vc vs).toArray] s1 = .ret (.bool (okF f)) s2 := hc
  have hfr12 : Fr (fun _ => False) s s2 := hfr1.trans hfr2
  by_cases hv : okF f = true
  case neg =>
    have hv' : okF f = false := by simpa using hv
    rw [hv'] at hc'
    simp -implicitDefEqProofs only [aft_normal, aft_ret, bV_ok, bC_ret, bA_val, bA_enter, bDC_ret, bDA_val, bDA_enter, guard_b, guard_undef, seq_normal, seq_exit, seq_ret, seq_panic, cond_b, block_normal, block_exit, block_ret, block_panic, lkL_cons, lkL_setL, Nat.reduceEqDiff, if_true, if_false, ↓reduceIte, decide_true, decide_false, Bool.true_eq_false, Bool.false_eq_true, bin_add, bin_sub, bin_mul, bin_and, bin_or, bin_eql, bin_neq, bin_lss, bin_leq, bin_gtr, bin_geq, un_not, pick_b, len_slice, nilc, fieldA, conv_int, P_normal, P_ret, P_exit, ne_eq, not_true_eq_false, not_false_eq_true, Bool.not_true, Bool.not_false, true_and, and_true, q18_0_0, q18_0_1, q18_0_2, q18_0_3, q18_1_0, q18_1_3, q18_2_0, q18_2_1, q18_2_2, q18_3_0, q18_3_1, q18_4_0, q18_4_3, q18_5_0, q18_5_6, q18_6_0, q18_6_4, q18_7_0, q18_7_5, q18_8_0, q18_8_3, q18_8_4, q18_9_0, q18_9_1, q18_10_0, q18_10_2, q18_11_0, q18_11_1, q18_11_2, q18_11_3, q18_11_4, q18_11_5, q18_11_6, q18_11_7, q18_11_8, q18_11_9, q18_11_10, q18_11_11, q18_11_12, q18_11_13, q18_11_14, q18_11_15, q18_11_16, q18_11_17, q18_12_0, q18_12_2, q18_14_0, q18_14_4, q18_15_0, q18_15_3, q18_15_4, Nat.zero_add, hb, lv, hc', res18]
    exact fun _ => ⟨by rw [BytesOut, if_neg hv], hfr12, hF2⟩
  rw [hv] at hc'
  have hg2 := (hfr2.same s.next (hF1.lt hg1) (fun h => h)).trans hg1
  have hbx := hF2.lt hg2
  have hI2 := hI1.fr hF1 hfr2 (fun _ _ _ h => h)
  obtain ⟨o1, ⟨o2, o3, o4, o5⟩, o6, o7, o8, o9⟩ := okF_facts hv
  have osc := okV_sched o1
  -- the writer
  have hW3 : WrAt (· < s2.next) (s2.new (.row [.slice none 0 0] 105 false)) s2.next [] := ⟨_, 105, new_get _ _, Own.nil, fun b n c h => by cases h⟩
  have hF3 : (s2.new (.row [.slice none 0 0] 105 false)).F := hF2.new _
  have hI3 := hI2.fr hF2 (Fr.new (fun _ => False) s2 (.row [.slice none 0 0] 105 false)) (fun _ _ _ h => h)
  have hS3 : Sv (· < s2.next) s2 (s2.new (.row [.slice none 0 0] 105 false)) := ⟨Nat.le_succ _, fun b hb => new_ne s2 _ (by have : b < s2.next := hb; omega)⟩
  have hn3 : (s2.new (.row [.slice none 0 0] 105 false)).next = s2.next + 1 := rfl
  have hnw : doNew [(.slice none 0 0)] 105 s2 = .val (.pointer (some ⟨s2.next, 0, none⟩)) (s2.new (.row [.slice none 0 0] 105 false)) := rfl
  have hg3 := (hS3.same s.next hbx).trans hg2
  generalize s2.new (.row [.slice none 0 0] 105 false) = s3 at *
  have hX3 : ∀ b, b < s2.next → b < s3.next ∧ b ≠ s2.next := fun b hb => by omega
  have lv3 : loadN 4 (.pointer (some ⟨s.next, 6, none⟩)) s3 = .ok (.agg (f.d.cells vs).toArray) := loadN_of hg3 (by simp [Fd.cells, Vd.cells])
  obtain ⟨x4, s4, hc4, hW4, hS4, hF4⟩ := (wverdict_ok (lf := lf) (n := n) (by omega) o1 hW3 hI3.id (hI2.id.inX hF2 (Nat.le_refl _)) hX3 (by simp only [List.length_nil]; omega) hF3 hlf).inv
  have hc4' : (aCall Pz masks lf n).call 46 [.pointer (some ⟨s2.next, 0, none⟩), .agg (f.d.cells vs).toArray] s3 = .ret x4 s4 := hc4
  have hg4 := (hS4.same s.next hbx).trans hg3
  have l44 : load1 (.pointer (some ⟨s.next, 4, none⟩)) s4 = .ok (.int .i64 f.p) := load1_of hg4 rfl
  have l45 : load1 (.pointer (some ⟨s.next, 5, none⟩)) s4 = .ok (.int .i64 f.q) := load1_of hg4 rfl
  have hX4 : ∀ b, b < s2.next → b < s4.next ∧ b ≠ s2.next := fun b hb => ⟨Nat.lt_of_lt_of_le (hX3 b hb).1 hS4.next, (hX3 b hb).2⟩
  have elv := encV_len o1
  rw [List.nil_append] at hW4
  have pqr : ∀ x ∈ [f.p, f.q], 0 ≤ x ∧ x < 9223372036854775808 := by intro x hx; simp only [List.mem_cons, List.not_mem_nil, or_false] at hx; omega
  have hbs4 : doBuildSlice 3 1 2 (zerosK [.int .i64 0] 2) [(0, .int .i64 f.p), (1, .int .i64 f.q)] s4 = .val (.slice (some ⟨s4.next, 0, none⟩) 2 4) (s4.new (.row [.int .i64 f.p, .int .i64 f.q] 3 false)) := rfl
  obtain ⟨x5, s5, hc5, hW5, hS5, hF5⟩ := wput_new (lf := lf) (n := n) (zs := [f.p, f.q]) (by omega) hW4 hX4 pqr (by simp only [List.length_cons, List.length_nil]; omega) hF4 hlf
  have hc5' : (aCall Pz masks lf n).call 54 [.pointer (some ⟨s2.next, 0, none⟩), .slice (some ⟨s4.next, 0, none⟩) 2 4] (s4.new (.row [.int .i64 f.p, .int .i64 f.q] 3 false)) = .ret x5 s5 := hc5
  have elp := encAll_len pqr
  have hg5 := (hS5.same s.next hbx).trans hg4
  have hX5 : ∀ b, b < s2.next → b < s5.next ∧ b ≠ s2.next := fun b hb => ⟨Nat.lt_of_lt_of_le (hX4 b hb).1 hS5.next, (hX4 b hb).2⟩
  have l56 : load1 (.pointer (some ⟨s.next, 6, none⟩)) s5 = .ok (.int .i64 f.d.kind) := load1_of hg5 rfl
  have hS35 := (hS3.trans hS4).trans hS5
  have fin : ∀ {s' : AS} {v : L} {bytes : List Int}, bytes = encF f → WrAt (· < s2.next) s' s2.next bytes → Sv (· < s2.next) s2 s' → s'.F → lkL 4 v poison = .pointer (some ⟨s2.next, 0, none⟩) →
      (seqK ((o18_15 0).run (aCall Pz masks lf n) v .nil [] s') fun v l ds s => .ret v l ds s).P (Aft Pz 1610612799 Go.Proofs.Tryz.f18 fun x s' => BytesOut f x s' ∧ Fr (fun _ => False) s s' ∧ s'.F) := by
    intro s' v bytes hby hW hS hF' h4
    obtain ⟨vb, el, k1, k2, k3⟩ := hW
    have l0 : load1 (.pointer (some ⟨s2.next, 0, none⟩)) s' = .ok vb := load1_of k1 rfl
    simp -implicitDefEqProofs only [aft_normal, aft_ret, bV_ok, bC_ret, bA_val, bA_enter, bDC_ret, bDA_val, bDA_enter, guard_b, guard_undef, seq_normal, seq_exit, seq_ret, seq_panic, cond_b, block_normal, block_exit, block_ret, block_panic, lkL_cons, lkL_setL, Nat.reduceEqDiff, if_true, if_false, ↓reduceIte, decide_true, decide_false, Bool.true_eq_false, Bool.false_eq_true, bin_add, bin_sub, bin_mul, bin_and, bin_or, bin_eql, bin_neq, bin_lss, bin_leq, bin_gtr, bin_geq, un_not, pick_b, len_slice, nilc, fieldA, conv_int, P_normal, P_ret, P_exit, ne_eq, not_true_eq_false, not_false_eq_true, Bool.not_true, Bool.not_false, true_and, and_true, q18_0_0, q18_0_1, q18_0_2, q18_0_3, q18_1_0, q18_1_3, q18_2_0, q18_2_1, q18_2_2, q18_3_0, q18_3_1, q18_4_0, q18_4_3, q18_5_0, q18_5_6, q18_6_0, q18_6_4, q18_7_0, q18_7_5, q18_8_0, q18_8_3, q18_8_4, q18_9_0, q18_9_1, q18_10_0, q18_10_2, q18_11_0, q18_11_1, q18_11_2, q18_11_3, q18_11_4, q18_11_5, q18_11_6, q18_11_7, q18_11_8, q18_11_9, q18_11_10, q18_11_11, q18_11_12, q18_11_13, q18_11_14, q18_11_15, q18_11_16, q18_11_17, q18_12_0, q18_12_2, q18_14_0, q18_14_4, q18_15_0, q18_15_3, q18_15_4, Nat.zero_add, h4, l0, res18]
    refine fun _ => ⟨?_, ⟨Nat.le_trans hfr12.next hS.next, fun b hb hx => (hS.same b (Nat.lt_of_lt_of_le hb hfr12.next)).trans (hfr12.same b hb hx)⟩, hF'⟩
    rw [BytesOut, if_pos hv, ← hby]
    exact ⟨vb, rfl, k2⟩
  by_cases hk : f.d.kind = 0
  case neg =>
    have e : decide (f.d.kind = 0) = false := decide_eq_false hk
    simp -implicitDefEqProofs only [aft_normal, aft_ret, bV_ok, bC_ret, bA_val, bA_enter, bDC_ret, bDA_val, bDA_enter, guard_b, guard_undef, seq_normal, seq_exit, seq_ret, seq_panic, cond_b, block_normal, block_exit, block_ret, block_panic, lkL_cons, lkL_setL, Nat.reduceEqDiff, if_true, if_false, ↓reduceIte, decide_true, decide_false, Bool.true_eq_false, Bool.false_eq_true, bin_add, bin_sub, bin_mul, bin_and, bin_or, bin_eql, bin_neq, bin_lss, bin_leq, bin_gtr, bin_geq, un_not, pick_b, len_slice, nilc, fieldA, conv_int, P_normal, P_ret, P_exit, ne_eq, not_true_eq_false, not_false_eq_true, Bool.not_true, Bool.not_false, true_and, and_true, q18_0_0, q18_0_1, q18_0_2, q18_0_3, q18_1_0, q18_1_3, q18_2_0, q18_2_1, q18_2_2, q18_3_0, q18_3_1, q18_4_0, q18_4_3, q18_5_0, q18_5_6, q18_6_0, q18_6_4, q18_7_0, q18_7_5, q18_8_0, q18_8_3, q18_8_4, q18_9_0, q18_9_1, q18_10_0, q18_10_2, q18_11_0, q18_11_1, q18_11_2, q18_11_3, q18_11_4, q18_11_5, q18_11_6, q18_11_7, q18_11_8, q18_11_9, q18_11_10, q18_11_11, q18_11_12, q18_11_13, q18_11_14, q18_11_15, q18_11_16, q18_11_17, q18_12_0, q18_12_2, q18_14_0, q18_14_4, Nat.zero_add, hb, lv, hc', hnw, lv3, hc4', l44, l45, hbs4, hc5', l56, e]
    refine fin ?_ hW5 hS35 hF5 rfl
    rw [encF, if_neg hk, List.append_nil]
  have e : decide (f.d.kind = 0) = true := decide_eq_true hk
  obtain ⟨r1, r2, r3, r4, r5, r6, r7⟩ := o8 hk
  have hI5 : FAt s5 f va vb vc vs := ⟨hI2.ia.sv hS35 (hI2.ia.inX hF2 (Nat.le_refl _)), hI2.ib.sv hS35 (hI2.ib.inX hF2 (Nat.le_refl _)), hI2.ic.sv hS35 (hI2.ic.inX hF2 (Nat.le_refl _)), hI2.id.sv hS35 (hI2.id.inX hF2 (Nat.le_refl _))⟩
  have l50 : load1 (.pointer (some ⟨s.next, 0, none⟩)) s5 = .ok va := load1_of hg5 rfl
  have na5 := hI5.ia.len
  have lr : ∀ x ∈ [(f.a.length : Int)], 0 ≤ x ∧ x < 9223372036854775808 := by intro x hx; simp only [List.mem_singleton] at hx; omega
  have hbs5 : doBuildSlice 3 1 1 (zerosK [.int .i64 0] 1) [(0, .int .i64 (f.a.length : Int))] s5 = .val (.slice (some ⟨s5.next, 0, none⟩) 1 2) (s5.new (.row [.int .i64 (f.a.length : Int)] 3 false)) := rfl
  simp only [List.length_cons, List.length_nil] at elp
  obtain ⟨x6, s6, hc6, hW6, hS6, hF6⟩ := wput_new (lf := lf) (n := n) (zs := [(f.a.length : Int)]) (by omega) hW5 hX5 lr (by simp only [List.length_append, List.length_cons, List.length_nil]; omega) hF5 hlf
  have hc6' : (aCall Pz masks lf n).call 54 [.pointer (some ⟨s2.next, 0, none⟩), .slice (some ⟨s5.next, 0, none⟩) 1 2] (s5.new (.row [.int .i64 (f.a.length : Int)] 3 false)) = .ret x6 s6 := hc6
  have ell := encAll_len lr
  simp only [List.length_cons, List.length_nil] at ell
  have hg6 := (hS6.same s.next hbx).trans hg5
  have hS36 := hS35.trans hS6
  have hI6 : FAt s6 f va vb vc vs := ⟨hI2.ia.sv hS36 (hI2.ia.inX hF2 (Nat.le_refl _)), hI2.ib.sv hS36 (hI2.ib.inX hF2 (Nat.le_refl _)), hI2.ic.sv hS36 (hI2.ic.inX hF2 (Nat.le_refl _)), hI2.id.sv hS36 (hI2.id.inX hF2 (Nat.le_refl _))⟩
  have l60 : load1 (.pointer (some ⟨s.next, 0, none⟩)) s6 = .ok va := load1_of hg6 rfl
  have na6 := hI6.ia.len
  have hX6 : ∀ b, b < s2.next → b < s6.next ∧ b ≠ s2.next := fun b hb => ⟨Nat.lt_of_lt_of_le (hX5 b hb).1 hS6.next, (hX5 b hb).2⟩
  have hL := fun (l : L) => loop18 (lf := lf) (n := n) (by omega) hlf hI6 hg6 hX6 (hI2.ia.inX hF2 (Nat.le_refl _)) (hI2.ib.inX hF2 (Nat.le_refl _)) (hI2.ic.inX hF2 (Nat.le_refl _)) hbx o6 o7 r2 r3 r4 r5 f.a.length lf 0 _ ((.cons 0 (.agg (f.cells va vb vc vs).toArray) .nil) |> setL 1 (.pointer (some ⟨s.next, 0, none⟩)) |> setL 2 (.slice none 0 0) |> setL 3 (.int .i64 0) |> setL 4 (.pointer (some ⟨s2.next, 0, none⟩)) |> setL 29 (.int .i64 (f.a.length : Int)) |> setL 30 (.int .i64 0)) l s6 (by omega) (by omega) (by simp only [List.length_append]; omega) hW6 (Sv.refl _ _) hF6 rfl rfl rfl rfl
  simp -implicitDefEqProofs only [aft_normal, aft_ret, bV_ok, bC_ret, bA_val, bA_enter, bDC_ret, bDA_val, bDA_enter, guard_b, guard_undef, seq_normal, seq_exit, seq_ret, seq_panic, cond_b, block_normal, block_exit, block_ret, block_panic, lkL_cons, lkL_setL, Nat.reduceEqDiff, if_true, if_false, ↓reduceIte, decide_true, decide_false, Bool.true_eq_false, Bool.false_eq_true, bin_add, bin_sub, bin_mul, bin_and, bin_or, bin_eql, bin_neq, bin_lss, bin_leq, bin_gtr, bin_geq, un_not, pick_b, len_slice, nilc, fieldA, conv_int, P_normal, P_ret, P_exit, ne_eq, not_true_eq_false, not_false_eq_true, Bool.not_true, Bool.not_false, true_and, and_true, q18_0_0, q18_0_1, q18_0_2, q18_0_3, q18_1_0, q18_1_3, q18_2_0, q18_2_1, q18_2_2, q18_3_0, q18_3_1, q18_4_0, q18_4_3, q18_5_0, q18_5_6, q18_6_0, q18_6_4, q18_7_0, q18_7_5, q18_8_0, q18_8_3, q18_8_4, q18_9_0, q18_9_1, q18_10_0, q18_10_2, q18_11_0, q18_11_1, q18_11_2, q18_11_3, q18_11_4, q18_11_5, q18_11_6, q18_11_7, q18_11_8, q18_11_9, q18_11_10, q18_11_11, q18_11_12, q18_11_13, q18_11_14, q18_11_15, q18_11_16, q18_11_17, q18_12_0, q18_12_2, Nat.zero_add, hb, lv, hc', hnw, lv3, hc4', l44, l45, hbs4, hc5', l56, e, l50, na5, hbs5, hc6', l60, na6]
  refine P_seq (P_seq (P_block ((hL _).mono fun e v ds s' h => ?_)))
  match e, h with
  | .exit 0, ⟨q1, q2, q3, q4, q5, q6, _⟩ =>
    subst q1
    intro l
    simp only [List.drop_zero] at q2
    have hg7 := (q3.same s.next hbx).trans hg6
    have l73 : load1 (.pointer (some ⟨s.next, 3, none⟩)) s' = .ok (.int .i64 f.m) := load1_of hg7 rfl
    have hX7 : ∀ b, b < s2.next → b < s'.next ∧ b ≠ s2.next := fun b hb => ⟨Nat.lt_of_lt_of_le (hX6 b hb).1 q3.next, (hX6 b hb).2⟩
    have mr : ∀ x ∈ [f.m], 0 ≤ x ∧ x < 9223372036854775808 := by intro x hx; simp only [List.mem_singleton] at hx; omega
    have hbs7 : doBuildSlice 3 1 1 (zerosK [.int .i64 0] 1) [(0, .int .i64 f.m)] s' = .val (.slice (some ⟨s'.next, 0, none⟩) 1 2) (s'.new (.row [.int .i64 f.m] 3 false)) := rfl
    have elt := encT_len r3 r4 r5
    obtain ⟨x8, s8, hc8, hW8, hS8, hF8⟩ := wput_new (lf := lf) (n := n) (zs := [f.m]) (by omega) q2 hX7 mr (by simp only [List.length_append, List.length_cons, List.length_nil]; omega) q4 hlf
    have hc8' : (aCall Pz masks lf n).call 54 [.pointer (some ⟨s2.next, 0, none⟩), .slice (some ⟨s'.next, 0, none⟩) 1 2] (s'.new (.row [.int .i64 f.m] 3 false)) = .ret x8 s8 := hc8
    simp -implicitDefEqProofs only [bV_ok, bC_ret, bA_val, bA_enter, bDC_ret, bDA_val, bDA_enter, guard_b, guard_undef, seq_normal, seq_exit, seq_ret, seq_panic, cond_b, block_normal, block_exit, block_ret, block_panic, lkL_cons, lkL_setL, Nat.reduceEqDiff, if_true, if_false, ↓reduceIte, decide_true, decide_false, Bool.true_eq_false, Bool.false_eq_true, bin_add, bin_sub, bin_mul, bin_and, bin_or, bin_eql, bin_neq, bin_lss, bin_leq, bin_gtr, bin_geq, un_not, pick_b, len_slice, nilc, fieldA, conv_int, P_normal, P_ret, P_exit, ne_eq, not_true_eq_false, not_false_eq_true, Bool.not_true, Bool.not_false, true_and, and_true, q18_0_0, q18_0_1, q18_0_2, q18_0_3, q18_1_0, q18_1_3, q18_2_0, q18_2_1, q18_2_2, q18_3_0, q18_3_1, q18_4_0, q18_4_3, q18_5_0, q18_5_6, q18_6_0, q18_6_4, q18_7_0, q18_7_5, q18_8_0, q18_8_3, q18_8_4, q18_9_0, q18_9_1, q18_10_0, q18_10_2, q18_11_0, q18_11_1, q18_11_2, q18_11_3, q18_11_4, q18_11_5, q18_11_6, q18_11_7, q18_11_8, q18_11_9, q18_11_10, q18_11_11, q18_11_12, q18_11_13, q18_11_14, q18_11_15, q18_11_16, q18_11_17, q18_12_0, q18_12_2, q18_14_0, q18_14_4, Nat.zero_add, q5, q6, l73, hbs7, hc8']
    refine fun l => fin ?_ hW8 ((hS36.trans q3).trans hS8) hF8 q6
    rw [encF, if_pos hk]
    simp only [List.append_assoc]
end Go.Proofs.YtbbknbmmpkpgdaaGreatDoor.KAb
