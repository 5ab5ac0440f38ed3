/- The plain law of the bytes, and FrontierBack's own body. -/
import Derived.Test.YtbbknbmmpkpgdaaGreatDoorFbBack
import Derived.OpenShut
import Derived.WideShapes
set_option linter.unusedSimpArgs false
set_option linter.unusedVariables false
namespace Go.Proofs.YtbbknbmmpkpgdaaGreatDoor.KAb
theorem res34 {v l : L} {s : AS} : resOf Pz 51 Go.Proofs.Tryz.f34 v l s = .ret (lkL 4 v poison) s := res1 (by kernel_rfl) (by kernel_rfl)
set_option maxRecDepth 100000 in
theorem sameInts_ok {lf n : Nat} (hn : 1 ≤ n) {s : AS} {va vb : Value} {xs : List Int} (ha : Ints s .i64 va xs) (hb : Ints s .i64 vb xs) (hlen : xs.length < 1000000000) (hlf : 1000000000 ≤ lf) :
    (aCall Pz masks lf n).call 34 [va, vb] s = .ret (.bool true) s := by
  obtain ⟨n, rfl⟩ : ∃ m, n = m + 1 := ⟨n - 1, by omega⟩
  suffices h : ((aCall Pz masks lf (n + 1)).call 34 [va, vb] s).P fun x s' => x = .bool true ∧ s' = s by
    obtain ⟨x, s', h1, h2, h3⟩ := h.inv
    rw [h1, h2, h3]
  rewrite [aCall_succ]
  rewrite [fn34, c34]
  refine P_aft ?_
  have e0 : decide ((xs.length : Int) = xs.length) = true := decide_eq_true rfl
  have na := ha.len
  have nb := hb.len
  have loop : ∀ (k fuel i : Nat) (v l : L), i + k = xs.length → k < fuel → lkL 0 v poison = va → lkL 1 v poison = vb → lkL 5 v poison = .int .i64 (i : Int) →
      (iterK (l34_8 lf (aCall Pz masks lf n)) fuel v l [] s).P fun e v ds s' => match e with
        | .exit 0 => ds = [] ∧ s' = s
        | _ => False := by
    intro k
    induction k with
    | zero =>
      intro fuel i v l hi hf h0 h1 h5
      obtain ⟨fuel, rfl⟩ : ∃ m, fuel = m + 1 := ⟨fuel - 1, by omega⟩
      rewrite [iter_succ, l34_8]
      have e : ¬ (i : Int) < xs.length := by omega
      simp -implicitDefEqProofs only [bV_ok, bC_ret, bA_val, bA_enter, bDC_ret, bDA_val, bDA_enter, guard_b, guard_undef, seq_normal, seq_exit, seq_ret, seq_panic, cond_b, block_normal, block_exit, block_ret, block_panic, lkL_cons, lkL_setL, Nat.reduceEqDiff, if_true, if_false, ↓reduceIte, decide_true, decide_false, Bool.true_eq_false, Bool.false_eq_true, bin_add, bin_sub, bin_mul, bin_and, bin_or, bin_eql, bin_neq, bin_lss, bin_leq, bin_gtr, bin_geq, un_not, pick_b, len_slice, nilc, fieldA, conv_int, P_normal, P_ret, P_exit, ne_eq, not_true_eq_false, not_false_eq_true, Bool.not_true, Bool.not_false, true_and, and_true, q34_0_0, q34_0_1, q34_1_0, q34_1_5, q34_2_0, q34_2_1, q34_3_0, q34_3_1, q34_4_0, q34_4_4, q34_5_0, q34_5_1, q34_5_2, q34_5_3, q34_5_4, q34_5_5, q34_5_6, q34_5_7, q34_5_8, q34_5_9, q34_6_0, q34_6_1, q34_7_0, q34_7_3, q34_9_0, q34_9_1, h0, h5, na, e]
    | succ k ih =>
      intro fuel i v l hi hf h0 h1 h5
      obtain ⟨fuel, rfl⟩ : ∃ m, fuel = m + 1 := ⟨fuel - 1, by omega⟩
      rewrite [iter_succ, l34_8]
      have hil : i < xs.length := by omega
      have e : (i : Int) < xs.length := by omega
      obtain ⟨p1, pa1, pa2⟩ := ha.load hil rfl (kk := .i64)
      obtain ⟨p2, pb1, pb2⟩ := hb.load hil rfl (kk := .i64)
      have ex : decide (xs[i] = xs[i]) = true := decide_eq_true rfl
      have hw : IntKind.i64.wrap ((i : Int) + 1) = ((i + 1 : Nat) : Int) := wrap_succ hil (by omega)
      simp -implicitDefEqProofs only [bV_ok, bC_ret, bA_val, bA_enter, bDC_ret, bDA_val, bDA_enter, guard_b, guard_undef, seq_normal, seq_exit, seq_ret, seq_panic, cond_b, block_normal, block_exit, block_ret, block_panic, lkL_cons, lkL_setL, Nat.reduceEqDiff, if_true, if_false, ↓reduceIte, decide_true, decide_false, Bool.true_eq_false, Bool.false_eq_true, bin_add, bin_sub, bin_mul, bin_and, bin_or, bin_eql, bin_neq, bin_lss, bin_leq, bin_gtr, bin_geq, un_not, pick_b, len_slice, nilc, fieldA, conv_int, P_normal, P_ret, P_exit, ne_eq, not_true_eq_false, not_false_eq_true, Bool.not_true, Bool.not_false, true_and, and_true, q34_0_0, q34_0_1, q34_1_0, q34_1_5, q34_2_0, q34_2_1, q34_3_0, q34_3_1, q34_4_0, q34_4_4, q34_5_0, q34_5_1, q34_5_2, q34_5_3, q34_5_4, q34_5_5, q34_5_6, q34_5_7, q34_5_8, q34_5_9, q34_6_0, q34_6_1, q34_7_0, q34_7_3, q34_9_0, q34_9_1, h0, h1, h5, na, e, pa1, pa2, pb1, pb2, ex, bif_eq, allK_eq, lenK_eq, chkOk, chkAt, dropK_eq, takeK_eq, List.length_cons, List.length_nil, List.all_cons, List.all_nil, Nat.reduceAdd, Nat.reduceSub, Nat.sub_eq, Nat.add_eq, Nat.reduceLeDiff, Nat.ble_eq, List.drop_succ_cons, List.drop_zero, List.take_succ_cons, List.take_zero, Bool.and_true, Bool.true_and, valEq_ptr, valEq_int, valEq_bool, hw]
      exact ih fuel (i + 1) _ _ (by omega) (by omega) (by simp only [lkL_setL, Nat.reduceEqDiff, if_false, h0]) (by simp only [lkL_setL, Nat.reduceEqDiff, if_false, h1]) (by simp only [lkL_setL, if_true])
  simp -implicitDefEqProofs only [aft_normal, aft_ret, bV_ok, bC_ret, bA_val, bA_enter, bDC_ret, bDA_val, bDA_enter, guard_b, guard_undef, seq_normal, seq_exit, seq_ret, seq_panic, cond_b, block_normal, block_exit, block_ret, block_panic, lkL_cons, lkL_setL, Nat.reduceEqDiff, if_true, if_false, ↓reduceIte, decide_true, decide_false, Bool.true_eq_false, Bool.false_eq_true, bin_add, bin_sub, bin_mul, bin_and, bin_or, bin_eql, bin_neq, bin_lss, bin_leq, bin_gtr, bin_geq, un_not, pick_b, len_slice, nilc, fieldA, conv_int, P_normal, P_ret, P_exit, ne_eq, not_true_eq_false, not_false_eq_true, Bool.not_true, Bool.not_false, true_and, and_true, q34_0_0, q34_0_1, q34_1_0, q34_1_5, q34_2_0, q34_2_1, q34_3_0, q34_3_1, q34_4_0, q34_4_4, q34_5_0, q34_5_1, q34_5_2, q34_5_3, q34_5_4, q34_5_5, q34_5_6, q34_5_7, q34_5_8, q34_5_9, q34_6_0, q34_6_1, q34_7_0, q34_7_3, q34_9_0, q34_9_1, na, nb, e0]
  refine P_seq (P_block ((loop xs.length lf 0 _ _ (by omega) (by omega) rfl rfl rfl).mono fun e v ds s' h => ?_))
  match e, h with
  | .exit 0, ⟨q1, q2⟩ =>
    subst q1 q2
    intro l
    simp -implicitDefEqProofs only [aft_normal, aft_ret, bV_ok, bC_ret, bA_val, bA_enter, bDC_ret, bDA_val, bDA_enter, guard_b, guard_undef, seq_normal, seq_exit, seq_ret, seq_panic, cond_b, block_normal, block_exit, block_ret, block_panic, lkL_cons, lkL_setL, Nat.reduceEqDiff, if_true, if_false, ↓reduceIte, decide_true, decide_false, Bool.true_eq_false, Bool.false_eq_true, bin_add, bin_sub, bin_mul, bin_and, bin_or, bin_eql, bin_neq, bin_lss, bin_leq, bin_gtr, bin_geq, un_not, pick_b, len_slice, nilc, fieldA, conv_int, P_normal, P_ret, P_exit, ne_eq, not_true_eq_false, not_false_eq_true, Bool.not_true, Bool.not_false, true_and, and_true, q34_0_0, q34_0_1, q34_1_0, q34_1_5, q34_2_0, q34_2_1, q34_3_0, q34_3_1, q34_4_0, q34_4_4, q34_5_0, q34_5_1, q34_5_2, q34_5_3, q34_5_4, q34_5_5, q34_5_6, q34_5_7, q34_5_8, q34_5_9, q34_6_0, q34_6_1, q34_7_0, q34_7_3, q34_9_0, q34_9_1, res34]
    exact fun _ => ⟨rfl, rfl⟩
theorem res55 {v l : L} {s : AS} : resOf Pz 31 Go.Proofs.Tryz.f55 v l s = .ret (lkL 4 v poison) s := res1 (by kernel_rfl) (by kernel_rfl)
set_option maxRecDepth 100000 in
theorem sameVerdict_ok {lf n : Nat} (hn : 2 ≤ n) {s : AS} {d : Vd} {va vb : Value} (ha : Ints s .i64 va d.sched) (hb : Ints s .i64 vb d.sched) (hF : s.F) (hlen : d.sched.length < 1000000000) (hlf : 1000000000 ≤ lf) :
    (Cl lf n 55 [.agg (d.cells va).toArray, .agg (d.cells vb).toArray] s).P fun x s' => x = .bool true ∧ Fr (fun _ => False) s s' ∧ s'.F := by
  obtain ⟨n, rfl⟩ : ∃ m, n = m + 1 := ⟨n - 1, by omega⟩
  rewrite [Cl, aCall_succ]
  rewrite [fn55, c55]
  refine P_aft ?_
  have h1 : doBox 36 (.agg (d.cells va).toArray) s = .val (.pointer (some ⟨s.next, 0, none⟩)) (s.new (.row (d.cells va) 36 false)) := rfl
  have h2 : doBox 36 (.agg (d.cells vb).toArray) (s.new (.row (d.cells va) 36 false)) = .val (.pointer (some ⟨s.next + 1, 0, none⟩)) ((s.new (.row (d.cells va) 36 false)).new (.row (d.cells vb) 36 false)) := rfl
  have fr : Fr (fun _ => False) s ((s.new (.row (d.cells va) 36 false)).new (.row (d.cells vb) 36 false)) := (Fr.new _ s _).trans (Fr.new _ _ _)
  have F2 : ((s.new (.row (d.cells va) 36 false)).new (.row (d.cells vb) 36 false)).F := (hF.new _).new _
  have g2 : ((s.new (.row (d.cells va) 36 false)).new (.row (d.cells vb) 36 false)).get (s.next + 1) = some (.row (d.cells vb) 36 false) := new_get (s.new (.row (d.cells va) 36 false)) _
  have g1 : ((s.new (.row (d.cells va) 36 false)).new (.row (d.cells vb) 36 false)).get s.next = some (.row (d.cells va) 36 false) := (new_ne _ _ (by show s.next ≠ s.next + 1; omega)).trans (new_get s _)
  have i1 := ha.fr hF fr (fun _ _ _ h => h)
  have i2 := hb.fr hF fr (fun _ _ _ h => h)
  generalize (s.new (.row (d.cells va) 36 false)).new (.row (d.cells vb) 36 false) = s2 at *
  have a0 : load1 (.pointer (some ⟨s.next, 0, none⟩)) s2 = .ok (.int .i64 d.kind) := load1_of g1 rfl
  have a1 : load1 (.pointer (some ⟨s.next, 1, none⟩)) s2 = .ok (.int .i64 d.how) := load1_of g1 rfl
  have a2 : load1 (.pointer (some ⟨s.next, 2, none⟩)) s2 = .ok (.int .i64 d.who) := load1_of g1 rfl
  have a3 : load1 (.pointer (some ⟨s.next, 3, none⟩)) s2 = .ok va := load1_of g1 rfl
  have b0 : load1 (.pointer (some ⟨s.next + 1, 0, none⟩)) s2 = .ok (.int .i64 d.kind) := load1_of g2 rfl
  have b1 : load1 (.pointer (some ⟨s.next + 1, 1, none⟩)) s2 = .ok (.int .i64 d.how) := load1_of g2 rfl
  have b2 : load1 (.pointer (some ⟨s.next + 1, 2, none⟩)) s2 = .ok (.int .i64 d.who) := load1_of g2 rfl
  have b3 : load1 (.pointer (some ⟨s.next + 1, 3, none⟩)) s2 = .ok vb := load1_of g2 rfl
  have e0 : decide (d.kind = d.kind) = true := decide_eq_true rfl
  have e1 : decide (d.how = d.how) = true := decide_eq_true rfl
  have e2 : decide (d.who = d.who) = true := decide_eq_true rfl
  have hc := sameInts_ok (lf := lf) (n := n) (by omega) i1 i2 hlen hlf
  simp -implicitDefEqProofs only [aft_normal, aft_ret, bV_ok, bC_ret, bA_val, bA_enter, bDC_ret, bDA_val, bDA_enter, guard_b, guard_undef, seq_normal, seq_exit, seq_ret, seq_panic, cond_b, block_normal, block_exit, block_ret, block_panic, lkL_cons, lkL_setL, Nat.reduceEqDiff, if_true, if_false, ↓reduceIte, decide_true, decide_false, Bool.true_eq_false, Bool.false_eq_true, bin_add, bin_sub, bin_mul, bin_and, bin_or, bin_eql, bin_neq, bin_lss, bin_leq, bin_gtr, bin_geq, un_not, pick_b, len_slice, nilc, fieldA, conv_int, P_normal, P_ret, P_exit, ne_eq, not_true_eq_false, not_false_eq_true, Bool.not_true, Bool.not_false, true_and, and_true, q55_0_0, q55_0_1, q55_0_2, q55_0_3, q55_1_0, q55_1_6, q55_1_7, q55_1_8, q55_1_9, q55_1_10, q55_1_11, q55_1_13, q55_1_14, q55_1_15, q55_1_16, q55_1_17, q55_1_18, q55_1_20, q55_1_21, q55_1_22, q55_1_23, q55_1_24, q55_1_25, q55_1_27, Nat.zero_add, h1, h2, a0, a1, a2, a3, b0, b1, b2, b3, e0, e1, e2, hc, res55]
  exact fun _ => ⟨rfl, fr, F2⟩
theorem res20 {v l : L} {s : AS} : resOf Pz 31 Go.Proofs.Tryz.f20 v l s = .ret (lkL 4 v poison) s := res1 (by kernel_rfl) (by kernel_rfl)
set_option maxRecDepth 100000 in
theorem sameF_ok {lf n : Nat} (hn : 3 ≤ n) {s : AS} {f : Fd} {va vb vc vs wa wb wc ws : Value} (h : FAt s f va vb vc vs) (h' : FAt s f wa wb wc ws) (hF : s.F) (hla : f.a.length < 1000000000) (hlb : f.b.length < 1000000000) (hlc : f.c.length < 1000000000) (hls : f.d.sched.length < 1000000000) (hlf : 1000000000 ≤ lf) :
    (Cl lf n 20 [.agg (f.cells va vb vc vs).toArray, .agg (f.cells wa wb wc ws).toArray] s).P fun x s' => x = .bool true ∧ Fr (fun _ => False) s s' ∧ s'.F := by
  obtain ⟨n, rfl⟩ : ∃ m, n = m + 1 := ⟨n - 1, by omega⟩
  rewrite [Cl, aCall_succ]
  rewrite [fn20, c20]
  refine P_aft ?_
  have h1 : doBox 38 (.agg (f.cells va vb vc vs).toArray) s = .val (.pointer (some ⟨s.next, 0, none⟩)) (s.new (.row (f.cells va vb vc vs) 38 false)) := rfl
  have h2 : doBox 38 (.agg (f.cells wa wb wc ws).toArray) (s.new (.row (f.cells va vb vc vs) 38 false)) = .val (.pointer (some ⟨s.next + 1, 0, none⟩)) ((s.new (.row (f.cells va vb vc vs) 38 false)).new (.row (f.cells wa wb wc ws) 38 false)) := rfl
  have fr : Fr (fun _ => False) s ((s.new (.row (f.cells va vb vc vs) 38 false)).new (.row (f.cells wa wb wc ws) 38 false)) := (Fr.new _ s _).trans (Fr.new _ _ _)
  have F2 : ((s.new (.row (f.cells va vb vc vs) 38 false)).new (.row (f.cells wa wb wc ws) 38 false)).F := (hF.new _).new _
  have g2 : ((s.new (.row (f.cells va vb vc vs) 38 false)).new (.row (f.cells wa wb wc ws) 38 false)).get (s.next + 1) = some (.row (f.cells wa wb wc ws) 38 false) := new_get (s.new (.row (f.cells va vb vc vs) 38 false)) _
  have g1 : ((s.new (.row (f.cells va vb vc vs) 38 false)).new (.row (f.cells wa wb wc ws) 38 false)).get s.next = some (.row (f.cells va vb vc vs) 38 false) := (new_ne _ _ (by show s.next ≠ s.next + 1; omega)).trans (new_get s _)
  have i1 := h.fr hF fr (fun _ _ _ h => h)
  have i2 := h'.fr hF fr (fun _ _ _ h => h)
  generalize (s.new (.row (f.cells va vb vc vs) 38 false)).new (.row (f.cells wa wb wc ws) 38 false) = s2 at *
  have a0 : load1 (.pointer (some ⟨s.next, 0, none⟩)) s2 = .ok va := load1_of g1 rfl
  have a1 : load1 (.pointer (some ⟨s.next, 1, none⟩)) s2 = .ok vb := load1_of g1 rfl
  have a2 : load1 (.pointer (some ⟨s.next, 2, none⟩)) s2 = .ok vc := load1_of g1 rfl
  have a3 : load1 (.pointer (some ⟨s.next, 3, none⟩)) s2 = .ok (.int .i64 f.m) := load1_of g1 rfl
  have a4 : load1 (.pointer (some ⟨s.next, 4, none⟩)) s2 = .ok (.int .i64 f.p) := load1_of g1 rfl
  have a5 : load1 (.pointer (some ⟨s.next, 5, none⟩)) s2 = .ok (.int .i64 f.q) := load1_of g1 rfl
  have a6 : loadN 4 (.pointer (some ⟨s.next, 6, none⟩)) s2 = .ok (.agg (f.d.cells vs).toArray) := loadN_of g1 (by simp [Fd.cells, Vd.cells])
  have b0 : load1 (.pointer (some ⟨s.next + 1, 0, none⟩)) s2 = .ok wa := load1_of g2 rfl
  have b1 : load1 (.pointer (some ⟨s.next + 1, 1, none⟩)) s2 = .ok wb := load1_of g2 rfl
  have b2 : load1 (.pointer (some ⟨s.next + 1, 2, none⟩)) s2 = .ok wc := load1_of g2 rfl
  have b3 : load1 (.pointer (some ⟨s.next + 1, 3, none⟩)) s2 = .ok (.int .i64 f.m) := load1_of g2 rfl
  have b4 : load1 (.pointer (some ⟨s.next + 1, 4, none⟩)) s2 = .ok (.int .i64 f.p) := load1_of g2 rfl
  have b5 : load1 (.pointer (some ⟨s.next + 1, 5, none⟩)) s2 = .ok (.int .i64 f.q) := load1_of g2 rfl
  have b6 : loadN 4 (.pointer (some ⟨s.next + 1, 6, none⟩)) s2 = .ok (.agg (f.d.cells ws).toArray) := loadN_of g2 (by simp [Fd.cells, Vd.cells])
  have e0 : decide (f.m = f.m) = true := decide_eq_true rfl
  have e1 : decide (f.p = f.p) = true := decide_eq_true rfl
  have e2 : decide (f.q = f.q) = true := decide_eq_true rfl
  have ca := sameInts_ok (lf := lf) (n := n) (by omega) i1.ia i2.ia hla hlf
  have cb := sameInts_ok (lf := lf) (n := n) (by omega) i1.ib i2.ib hlb hlf
  have cc := sameInts_ok (lf := lf) (n := n) (by omega) i1.ic i2.ic hlc hlf
  obtain ⟨x, s3, hv, rfl, fr3, F3⟩ := (sameVerdict_ok (lf := lf) (n := n) (by omega) i1.id i2.id F2 hls hlf).inv
  have hv' : (aCall Pz masks lf n).call 55 [.agg (f.d.cells vs).toArray, .agg (f.d.cells ws).toArray] s2 = .ret (.bool true) s3 := hv
  simp -implicitDefEqProofs only [aft_normal, aft_ret, bV_ok, bC_ret, bA_val, bA_enter, bDC_ret, bDA_val, bDA_enter, guard_b, guard_undef, seq_normal, seq_exit, seq_ret, seq_panic, cond_b, block_normal, block_exit, block_ret, block_panic, lkL_cons, lkL_setL, Nat.reduceEqDiff, if_true, if_false, ↓reduceIte, decide_true, decide_false, Bool.true_eq_false, Bool.false_eq_true, bin_add, bin_sub, bin_mul, bin_and, bin_or, bin_eql, bin_neq, bin_lss, bin_leq, bin_gtr, bin_geq, un_not, pick_b, len_slice, nilc, fieldA, conv_int, P_normal, P_ret, P_exit, ne_eq, not_true_eq_false, not_false_eq_true, Bool.not_true, Bool.not_false, true_and, and_true, q20_0_0, q20_0_1, q20_0_2, q20_0_3, q20_1_0, q20_1_6, q20_1_7, q20_1_8, q20_1_9, q20_1_10, q20_1_11, q20_1_13, q20_1_14, q20_1_15, q20_1_16, q20_1_17, q20_1_18, q20_1_20, q20_1_21, q20_1_22, q20_1_23, q20_1_24, q20_1_25, q20_1_27, q20_1_28, q20_1_29, q20_1_30, q20_1_31, q20_1_32, q20_1_34, q20_1_35, q20_1_36, q20_1_37, q20_1_38, q20_1_39, q20_1_41, q20_1_42, q20_1_43, q20_1_44, q20_1_45, q20_1_46, q20_1_48, Nat.zero_add, h1, h2, a0, a1, a2, a3, a4, a5, a6, b0, b1, b2, b3, b4, b5, b6, e0, e1, e2, ca, cb, cc, hv', res20]
  exact fun _ => ⟨rfl, fr.trans fr3, F3⟩
end Go.Proofs.YtbbknbmmpkpgdaaGreatDoor.KAb
namespace Go.Proofs.YtbbknbmmpkpgdaaGreatDoor.KAb
theorem Ints.cells {s : AS} {k : IntKind} {v : Value} {xs : List Int} (h : Ints s k v xs) : lenV v = some xs.length ∧ cellsV s 1 xs.length v = some (xs.map (.int k)) := by
  rcases h with ⟨rfl, rfl⟩ | ⟨b, off, c, cs, el, ro, rfl, hc, hg, _, hx⟩
  · exact ⟨rfl, rfl⟩
  · refine ⟨rfl, ?_⟩
    simp only [cellsV, bif_eq, Nat.beq_eq]
    split
    · rename_i h0; rw [List.eq_nil_of_length_eq_zero h0]; rfl
    · rename_i h0
      have hl : off + xs.length ≤ cs.length := by
        have := hx (xs.length - 1) (by omega)
        have := (List.getElem?_eq_some_iff.1 this).1
        omega
      have e : Nat.mul xs.length 1 = xs.length := Nat.mul_one _
      rw [e]
      simp only [rd_eq, hg, if_pos hl]
      congr 1
      apply List.ext_getElem?
      intro i
      rw [List.getElem?_take, List.getElem?_drop, List.getElem?_map]
      by_cases hi : i < xs.length
      · rw [if_pos hi, hx i hi, List.getElem?_eq_getElem hi]; rfl
      · rw [if_neg hi, List.getElem?_eq_none (by omega)]; rfl
theorem Ints.bytes {s : AS} {v : Value} {xs : List Int} (h : Ints s .u8 v xs) (hb : Bytes xs) : convStr .bytes v s = .ok (.string ⟨(xs.map fun x => UInt8.ofNat x.toNat).toArray⟩) := by
  have ht : ∀ ys : List Int, Bytes ys → toBytes (ys.map (.int .u8)) = some (ys.map fun x => UInt8.ofNat x.toNat) := by
    intro ys
    induction ys with
    | nil => intro _; rfl
    | cons y r ih =>
      intro h
      have h1 := ih fun x hx => h x (List.mem_cons_of_mem _ hx)
      obtain ⟨m, rfl⟩ := Int.eq_ofNat_of_zero_le (h y (List.mem_cons_self ..)).1
      show (match toBytes (r.map (.int .u8)) with | none => none | some r' => (match toByte (.int .u8 (m : Int)) with | none => none | some b => some (b :: r'))) = _
      rw [h1]
      rfl
  obtain ⟨h1, h2⟩ := h.cells
  rcases h with ⟨rfl, rfl⟩ | ⟨b, off, c, cs, el, ro, rfl, _⟩
  · rfl
  · simp only [convStr, h2, ht xs hb]
theorem bin_str {qk : QK} {t : TypeId} {x y : Operand} {a : ByteArray} {s : AS} : doBin Pz .eql (binK .eql) qk t x y (.string a) (.string a) s = .ok (.bool true) := by
  have : fastF (binK .eql) (.string a) (.string a) = .v (.bool true) := by
    show BR.v (.bool (eqL8 a.data.toList a.data.toList)) = _
    rw [eqL8_eq]; simp
  simp only [doBin, this]
theorem res14 {v l : L} {s : AS} : resOf Pz 19 Go.Proofs.Tryz.f14 v l s = .ret (lkL 4 v poison) s := res1 (by kernel_rfl) (by kernel_rfl)
set_option maxRecDepth 100000 in
theorem sameBytes_ok {lf n : Nat} (hn : 1 ≤ n) {s : AS} {va vb : Value} {xs : List Int} (ha : Ints s .u8 va xs) (hb : Ints s .u8 vb xs) (hx : Bytes xs) :
    (aCall Pz masks lf n).call 14 [va, vb] s = .ret (.bool true) s := by
  obtain ⟨n, rfl⟩ : ∃ m, n = m + 1 := ⟨n - 1, by omega⟩
  suffices h : ((aCall Pz masks lf (n + 1)).call 14 [va, vb] s).P fun x s' => x = .bool true ∧ s' = s by
    obtain ⟨x, s', h1, h2, h3⟩ := h.inv
    rw [h1, h2, h3]
  rewrite [aCall_succ]
  rewrite [fn14, c14]
  refine P_aft ?_
  have h1 := ha.bytes hx
  have h2 := hb.bytes hx
  simp -implicitDefEqProofs only [aft_normal, aft_ret, bV_ok, bC_ret, bA_val, bA_enter, bDC_ret, bDA_val, bDA_enter, guard_b, guard_undef, seq_normal, seq_exit, seq_ret, seq_panic, cond_b, block_normal, block_exit, block_ret, block_panic, lkL_cons, lkL_setL, Nat.reduceEqDiff, if_true, if_false, ↓reduceIte, decide_true, decide_false, Bool.true_eq_false, Bool.false_eq_true, bin_add, bin_sub, bin_mul, bin_and, bin_or, bin_eql, bin_neq, bin_lss, bin_leq, bin_gtr, bin_geq, un_not, pick_b, len_slice, nilc, fieldA, conv_int, P_normal, P_ret, P_exit, ne_eq, not_true_eq_false, not_false_eq_true, Bool.not_true, Bool.not_false, true_and, and_true, q14_0_0, q14_0_1, q14_1_0, q14_1_6, h1, h2, bin_str, res14]
  exact fun _ => ⟨rfl, rfl⟩
theorem res19 {v l : L} {s : AS} : resOf Pz 5 Go.Proofs.Tryz.f19 v l s = .ret (lkL 2 v poison) s := res1 (by kernel_rfl) (by kernel_rfl)
set_option maxRecDepth 100000 in
theorem copyBytes_ok {lf n : Nat} (hn : 1 ≤ n) {s : AS} {v : Value} {xs : List Int} (hv : Ints s .u8 v xs) (hF : s.F) (h0 : 0 < xs.length) (hlen : xs.length < 1000000000) :
    (Cl lf n 19 [v] s).P fun x s' => Own s' .u8 5 x xs ∧ Fr (fun _ => False) s s' ∧ s'.F ∧ Far s.next x := by
  obtain ⟨n, rfl⟩ : ∃ m, n = m + 1 := ⟨n - 1, by omega⟩
  rewrite [Cl, aCall_succ]
  rewrite [fn19, c19]
  refine P_aft ?_
  have hbs : doBuildSlice 5 1 0 (zerosK [.int .u8 0] 0) [] s = .val (.slice (some ⟨s.next, 0, none⟩) 0 0) (s.new (.row [] 5 false)) := rfl
  obtain ⟨c1, c2⟩ := (hv.new hF (.row [] 5 false)).cells
  have hF1 : (s.new (.row [] 5 false)).F := hF.new _
  have hfr := Fr.new (fun _ => False) s (.row [] 5 false)
  have hap : appendV 1 5 (.slice (some ⟨s.next, 0, none⟩) 0 0) v (s.new (.row [] 5 false)) = .val (.slice (some ⟨s.next + 1, 0, none⟩) xs.length (2 * xs.length + 1)) ((s.new (.row [] 5 false)).new (.row (xs.map (.int .u8)) 5 false)) := by
    have e1 : Nat.ble (Nat.add 0 xs.length) (half 0) = false := by
      rw [← Bool.not_eq_true, Nat.ble_eq]; show ¬ (0 + xs.length ≤ 0 / 2); omega
    have e2 : cellsV (s.new (.row [] 5 false)) 1 0 (.slice (some ⟨s.next, 0, none⟩) 0 0) = some [] := rfl
    have e3 : Nat.ble (Nat.add 0 xs.length) 1000000000 = true := by rw [Nat.ble_eq]; show 0 + xs.length ≤ _; omega
    have e4 : exactB 0 = true := rfl
    simp only [appendV, c1, c2, append0, e1, bif_eq, Bool.false_eq_true, if_false, e3, if_true, e2, append1, e4, append2, appK_eq]
    simp
    rfl
  simp -implicitDefEqProofs only [aft_normal, aft_ret, bV_ok, bC_ret, bA_val, bA_enter, bDC_ret, bDA_val, bDA_enter, guard_b, guard_undef, seq_normal, seq_exit, seq_ret, seq_panic, cond_b, block_normal, block_exit, block_ret, block_panic, lkL_cons, lkL_setL, Nat.reduceEqDiff, if_true, if_false, ↓reduceIte, decide_true, decide_false, Bool.true_eq_false, Bool.false_eq_true, bin_add, bin_sub, bin_mul, bin_and, bin_or, bin_eql, bin_neq, bin_lss, bin_leq, bin_gtr, bin_geq, un_not, pick_b, len_slice, nilc, fieldA, conv_int, P_normal, P_ret, P_exit, ne_eq, not_true_eq_false, not_false_eq_true, Bool.not_true, Bool.not_false, true_and, and_true, q19_0_0, q19_0_1, q19_1_0, q19_1_4, hbs, hap, res19]
  exact fun _ => ⟨.inr ⟨s.next + 1, rfl, new_get (s.new (.row [] 5 false)) _⟩, hfr.trans (Fr.new _ _ _), hF1.new _, fun b n c h => by cases h; omega⟩
theorem res17 {v l : L} {s : AS} : resOf Pz 7 Go.Proofs.Tryz.f17 v l s = .ret (lkL 2 v poison) s := res1 (by kernel_rfl) (by kernel_rfl)
set_option maxRecDepth 100000 in
theorem long_ok {lf n : Nat} (hn : 1 ≤ n) {s : AS} {f : Fd} {va vb vc vs : Value} (h : FAt s f va vb vc vs) (hF : s.F) :
    (Cl lf n 17 [.agg (f.cells va vb vc vs).toArray] s).P fun x s' => (∃ b, x = .bool b) ∧ Fr (fun _ => False) s s' ∧ s'.F := by
  obtain ⟨n, rfl⟩ : ∃ m, n = m + 1 := ⟨n - 1, by omega⟩
  rewrite [Cl, aCall_succ]
  rewrite [fn17, c17]
  refine P_aft ?_
  have h1 : doBox 38 (.agg (f.cells va vb vc vs).toArray) s = .val (.pointer (some ⟨s.next, 0, none⟩)) (s.new (.row (f.cells va vb vc vs) 38 false)) := rfl
  have fr : Fr (fun _ => False) s (s.new (.row (f.cells va vb vc vs) 38 false)) := Fr.new _ s _
  have F1 : (s.new (.row (f.cells va vb vc vs) 38 false)).F := hF.new _
  have g1 : (s.new (.row (f.cells va vb vc vs) 38 false)).get s.next = some (.row (f.cells va vb vc vs) 38 false) := new_get s _
  have i1 := h.fr hF fr (fun _ _ _ h => h)
  generalize s.new (.row (f.cells va vb vc vs) 38 false) = s1 at *
  have a0 : load1 (.pointer (some ⟨s.next, 0, none⟩)) s1 = .ok va := load1_of g1 rfl
  have a1 : load1 (.pointer (some ⟨s.next, 1, none⟩)) s1 = .ok vb := load1_of g1 rfl
  have a2 : load1 (.pointer (some ⟨s.next, 2, none⟩)) s1 = .ok vc := load1_of g1 rfl
  have a9 : load1 (.pointer (some ⟨s.next, 6 + 3, none⟩)) s1 = .ok vs := load1_of g1 rfl
  have n1 := i1.ia.len
  have n2 := i1.ib.len
  have n3 := i1.ic.len
  have n4 := i1.id.len
  simp -implicitDefEqProofs only [aft_normal, aft_ret, bV_ok, bC_ret, bA_val, bA_enter, bDC_ret, bDA_val, bDA_enter, guard_b, guard_undef, seq_normal, seq_exit, seq_ret, seq_panic, cond_b, block_normal, block_exit, block_ret, block_panic, lkL_cons, lkL_setL, Nat.reduceEqDiff, if_true, if_false, ↓reduceIte, decide_true, decide_false, Bool.true_eq_false, Bool.false_eq_true, bin_add, bin_sub, bin_mul, bin_and, bin_or, bin_eql, bin_neq, bin_lss, bin_leq, bin_gtr, bin_geq, un_not, pick_b, len_slice, nilc, fieldA, conv_int, P_normal, P_ret, P_exit, ne_eq, not_true_eq_false, not_false_eq_true, Bool.not_true, Bool.not_false, true_and, and_true, q17_0_0, q17_0_1, q17_0_2, q17_1_0, q17_1_18, Nat.zero_add, h1, a0, a1, a2, a9, n1, n2, n3, n4, res17]
  exact fun _ => ⟨⟨_, rfl⟩, fr, F1⟩
end Go.Proofs.YtbbknbmmpkpgdaaGreatDoor.KAb
namespace Go.Proofs.YtbbknbmmpkpgdaaGreatDoor.KAb
/-! The plain law: what is read back. -/
theorem rsGo_enc : ∀ (k n i acc : Nat) (ys : List Int), n < 128 ^ (k + 1) → n * 2 ^ (7 * i) < 18446744073709551616 → (0 < i → 0 < n) → rsGo (encS n ++ ys) i acc = some (acc + n * 2 ^ (7 * i), i + (encS n).length) := by
  intro k
  induction k with
  | zero =>
    intro n i acc ys hn hb hi
    rw [encS, if_neg (by omega)]
    have h9 : ¬ (9 < i ∨ (i = 9 ∧ 1 < (n : Int))) := by
      rintro (h | ⟨h, h1⟩)
      · have h0 := hi (by omega)
        have : 2 ^ 70 ≤ 2 ^ (7 * i) := Nat.pow_le_pow_right (by omega) (by omega)
        have := Nat.mul_le_mul h0 this
        have : (2 : Nat) ^ 70 = 1180591620717411303424 := by decide
        omega
      · subst h
        have : (2 : Nat) ^ (7 * 9) = 9223372036854775808 := by decide
        omega
    show rsGo ((n : Int) :: ys) i acc = _
    rw [rsGo, if_neg h9, if_pos (by omega), if_neg (by omega)]
    have : ((n : Int) % 128).toNat = n := by omega
    rw [this]; rfl
  | succ k ih =>
    intro n i acc ys hn hb hi
    by_cases h : 127 < n
    · rw [encS, if_pos h]
      have h9 : ¬ (9 < i ∨ (i = 9 ∧ 1 < ((n % 128 : Nat) : Int) + 128)) := by
        rintro (h' | ⟨h', h1⟩)
        · have : 2 ^ 70 ≤ 2 ^ (7 * i) := Nat.pow_le_pow_right (by omega) (by omega)
          have := Nat.mul_le_mul (show 1 ≤ n by omega) this
          have : (2 : Nat) ^ 70 = 1180591620717411303424 := by decide
          omega
        · subst h'
          have : (2 : Nat) ^ (7 * 9) = 9223372036854775808 := by decide
          omega
      have hp : 2 ^ (7 * (i + 1)) = 128 * 2 ^ (7 * i) := by rw [show 7 * (i + 1) = 7 + 7 * i by omega, Nat.pow_add]
      have hd : n / 128 * (128 * 2 ^ (7 * i)) + n % 128 * 2 ^ (7 * i) = n * 2 ^ (7 * i) := by
        rw [← Nat.mul_assoc, ← Nat.add_mul]; congr 1; omega
      have := ih (n / 128) (i + 1) (acc + n % 128 * 2 ^ (7 * i)) ys (by rw [Nat.pow_succ] at hn; omega) (by rw [hp]; omega) (by omega)
      show rsGo ((((n % 128 : Nat) : Int) + 128) :: (encS (n / 128) ++ ys)) i acc = _
      rw [rsGo, if_neg h9, if_neg (by omega)]
      have e : ((((n % 128 : Nat) : Int) + 128) % 128).toNat = n % 128 := by omega
      rw [e, this, hp]
      simp only [List.length_cons]
      congr 2
      · omega
      · omega
    · exact ih n i acc ys (by have : 128 ^ 1 ≤ 128 ^ (k + 1) := Nat.pow_le_pow_right (by omega) (by omega)
                              omega) hb hi
theorem rsGo_sound : ∀ (xs : List Int) (i acc n u : Nat), Bytes xs → rsGo xs i acc = some (n, u) → ∃ m, n = acc + m * 2 ^ (7 * i) ∧ encS m = xs.take (u - i) ∧ (0 < i → 0 < m) ∧ i < u := by
  intro xs
  induction xs with
  | nil => intro i acc n u _ h; cases h
  | cons c r ih =>
    intro i acc n u hb h
    obtain ⟨c0, c1⟩ := hb c (List.mem_cons_self ..)
    rw [rsGo] at h
    split at h
    · cases h
    · split at h
      · rename_i hc
        split at h
        · cases h
        · rename_i h0
          cases h
          refine ⟨c.toNat, ?_, ?_, fun hi => by omega, by omega⟩
          · congr 2; omega
          · rw [encS, if_neg (by omega), show i + 1 - i = 1 by omega]
            simp; omega
      · rename_i hc
        obtain ⟨m, h1, h2, h3, h4⟩ := ih _ _ _ _ (fun x hx => hb x (List.mem_cons_of_mem _ hx)) h
        have hm := h3 (by omega)
        have hp : 2 ^ (7 * (i + 1)) = 128 * 2 ^ (7 * i) := by rw [show 7 * (i + 1) = 7 + 7 * i by omega, Nat.pow_add]
        refine ⟨(c % 128).toNat + 128 * m, ?_, ?_, fun _ => by omega, by omega⟩
        · rw [h1, hp, Nat.add_mul, Nat.add_assoc, ← Nat.mul_assoc, Nat.mul_comm 128 m]
        · rw [encS, if_pos (by omega), show u - i = (u - (i + 1)) + 1 by omega, List.take_succ_cons, ← h2]
          congr 1
          · omega
          · congr 1; omega
theorem numF_enc {most n : Nat} (h : n ≤ most) (hn : n < 18446744073709551616) (ys : List Int) : numF most (encS n ++ ys) false = (n, ys, false) := by
  have := rsGo_enc 9 n 0 0 ys (by omega) (by simpa using hn) (by omega)
  simp only [Nat.mul_zero, Nat.pow_zero, Nat.mul_one, Nat.zero_add] at this
  rw [numF, this]
  dsimp only
  rw [if_neg (by simp; omega)]
  simp
theorem numF_sound {most : Nat} {xs : List Int} {bad : Bool} (hb : Bytes xs) (h : (numF most xs bad).2.2 = false) : bad = false ∧ xs = encS (numF most xs bad).1 ++ (numF most xs bad).2.1 := by
  unfold numF at h ⊢
  split
  · rename_i n u hr
    rw [hr] at h
    dsimp only at h ⊢
    split at h
    · cases h
    · rename_i hc
      rw [if_neg hc]
      obtain ⟨m, h1, h2, _, h4⟩ := rsGo_sound xs 0 0 n u hb hr
      refine ⟨?_, ?_⟩
      · cases bad with
        | true => simp at hc
        | false => rfl
      · have : n = m := by simpa using h1
        subst this
        simp only [Nat.sub_zero] at h2
        dsimp only
        rw [h2, List.take_append_drop]
  · rename_i hr
    rw [hr] at h
    cases h
theorem toNat_cast {x : Int} (h : 0 ≤ x) : ((x.toNat : Nat) : Int) = x := by omega
theorem encAll_cons (x : Int) (xs : List Int) : encAll (x :: xs) = encS x.toNat ++ encAll xs := by simp [encAll]
theorem encAll_nil : encAll [] = [] := rfl
theorem schedF_enc : ∀ (xs ys : List Int), allB 0 15 xs = true → schedF xs.length (encAll xs ++ ys) false = (xs, ys, false) := by
  intro xs
  induction xs with
  | nil => intro ys _; rfl
  | cons x r ih =>
    intro ys h
    obtain ⟨h0, h1⟩ := allB_mem h x (List.mem_cons_self ..)
    rw [allB_cons, Bool.and_eq_true] at h
    rw [encAll_cons, List.append_assoc]
    have hn := numF_enc (most := 15) (n := x.toNat) (by omega) (by omega) (encAll r ++ ys)
    simp only [List.length_cons, schedF, Bool.false_eq_true, if_false, hn, ih ys h.2, toNat_cast h0]
theorem schedF_bad (i : Nat) (xs : List Int) : schedF i xs true = ([], xs, true) := by cases i <;> simp [schedF]
theorem schedF_sound : ∀ (i : Nat) (xs : List Int) (bad : Bool), Bytes xs → (schedF i xs bad).2.2 = false → bad = false ∧ xs = encAll (schedF i xs bad).1 ++ (schedF i xs bad).2.1 ∧ (schedF i xs bad).1.length = i := by
  intro i
  induction i with
  | zero => intro xs bad _ h; exact ⟨h, rfl, rfl⟩
  | succ i ih =>
    intro xs bad hb h
    cases bad with
    | true => rw [schedF_bad] at h; cases h
    | false =>
      have e : schedF (i + 1) xs false = ((((numF 15 xs false).1 : Nat) : Int) :: (schedF i (numF 15 xs false).2.1 (numF 15 xs false).2.2).1, (schedF i (numF 15 xs false).2.1 (numF 15 xs false).2.2).2.1, (schedF i (numF 15 xs false).2.1 (numF 15 xs false).2.2).2.2) := rfl
      rw [e] at h ⊢
      obtain ⟨h1, h2, h3⟩ := ih _ _ (numF_bytes hb) h
      obtain ⟨_, h4⟩ := numF_sound hb h1
      refine ⟨rfl, ?_, by simp [h3]⟩
      dsimp only
      rw [encAll_cons, List.append_assoc, Int.toNat_natCast, ← h2]
      exact h4
theorem tripF_enc : ∀ (a b c ys : List Int), b.length = a.length → c.length = a.length → allB 0 15 a = true → allB 0 65535 b = true → allB 0 65535 c = true → tripF a.length (encT a b c ++ ys) false = (a, b, c, ys, false)
  | [], [], [], ys, _, _, _, _, _ => rfl
  | x :: a, y :: b, z :: c, ys, hb, hc, h1, h2, h3 => by
    obtain ⟨x0, x1⟩ := allB_mem h1 x (List.mem_cons_self ..)
    obtain ⟨y0, y1⟩ := allB_mem h2 y (List.mem_cons_self ..)
    obtain ⟨z0, z1⟩ := allB_mem h3 z (List.mem_cons_self ..)
    rw [allB_cons, Bool.and_eq_true] at h1 h2 h3
    simp only [List.length_cons] at hb hc
    have ih := tripF_enc a b c ys (by omega) (by omega) h1.2 h2.2 h3.2
    rw [encT, encAll_cons, encAll_cons, encAll_cons, encAll_nil, List.append_nil, List.append_assoc, List.append_assoc, List.append_assoc]
    have n1 := numF_enc (most := 15) (n := x.toNat) (by omega) (by omega) (encS y.toNat ++ (encS z.toNat ++ (encT a b c ++ ys)))
    have n2 := numF_enc (most := 65535) (n := y.toNat) (by omega) (by omega) (encS z.toNat ++ (encT a b c ++ ys))
    have n3 := numF_enc (most := 65535) (n := z.toNat) (by omega) (by omega) (encT a b c ++ ys)
    simp only [List.length_cons, tripF_succ, n1, n2, n3, ih, toNat_cast x0, toNat_cast y0, toNat_cast z0]
  | [], _ :: _, _, _, h, _, _, _, _ => by simp at h
  | [], [], _ :: _, _, _, h, _, _, _ => by simp at h
  | _ :: _, [], _, _, h, _, _, _, _ => by simp at h
  | _ :: _, _ :: _, [], _, _, h, _, _, _ => by simp at h
theorem tripF_bad (i : Nat) (xs : List Int) : tripF i xs true = ([], [], [], xs, true) := by cases i <;> simp [tripF]
theorem tripF_sound : ∀ (i : Nat) (xs : List Int) (bad : Bool), Bytes xs → (tripF i xs bad).2.2.2.2 = false → bad = false ∧ xs = encT (tripF i xs bad).1 (tripF i xs bad).2.1 (tripF i xs bad).2.2.1 ++ (tripF i xs bad).2.2.2.1 ∧ (tripF i xs bad).1.length = i := by
  intro i
  induction i with
  | zero => intro xs bad _ h; exact ⟨h, rfl, rfl⟩
  | succ i ih =>
    intro xs bad hb h
    cases bad with
    | true => rw [tripF_bad] at h; cases h
    | false =>
      rw [tripF_succ] at h ⊢
      have b1 := numF_bytes (most := 15) (bad := false) hb
      have b2 := numF_bytes (most := 65535) (bad := (numF 15 xs false).2.2) b1
      have b3 := numF_bytes (most := 65535) (bad := (numF 65535 (numF 15 xs false).2.1 (numF 15 xs false).2.2).2.2) b2
      obtain ⟨h1, h2, h3⟩ := ih _ _ b3 h
      obtain ⟨h4, h5⟩ := numF_sound b2 h1
      obtain ⟨h6, h7⟩ := numF_sound b1 h4
      obtain ⟨_, h8⟩ := numF_sound hb h6
      refine ⟨rfl, ?_, by simp [h3]⟩
      dsimp only
      rw [encT, encAll_cons, encAll_cons, encAll_cons, encAll_nil, List.append_nil, List.append_assoc, List.append_assoc, List.append_assoc, Int.toNat_natCast, Int.toNat_natCast, Int.toNat_natCast, ← h2, ← h5, ← h7]
      exact h8
theorem verdF_enc {d : Vd} (h : okV d = true) (ys : List Int) : verdF (encV d ++ ys) false = (d, ys, false) := by
  obtain ⟨⟨k0, k1⟩, f2, f3⟩ := okV_facts h
  by_cases hk : d.kind = 2
  · obtain ⟨g1, g2, g3, g4, g5, g6, _⟩ := f2 hk
    have e : encV d ++ ys = encS d.kind.toNat ++ (encS d.how.toNat ++ (encS (d.who + 1).toNat ++ (encS ((d.sched.length : Int)).toNat ++ (encAll d.sched ++ ys)))) := by
      rw [encV, if_pos hk]
      simp only [encAll_cons, encAll_nil, List.append_nil, List.append_assoc]
    rw [e]
    have n1 := numF_enc (most := 3) (n := d.kind.toNat) (by omega) (by omega) (encS d.how.toNat ++ (encS (d.who + 1).toNat ++ (encS ((d.sched.length : Int)).toNat ++ (encAll d.sched ++ ys))))
    have n2 := numF_enc (most := 5) (n := d.how.toNat) (by omega) (by omega) (encS (d.who + 1).toNat ++ (encS ((d.sched.length : Int)).toNat ++ (encAll d.sched ++ ys)))
    have n3 := numF_enc (most := 16) (n := (d.who + 1).toNat) (by omega) (by omega) (encS ((d.sched.length : Int)).toNat ++ (encAll d.sched ++ ys))
    have n4 := numF_enc (most := 1048577) (n := ((d.sched.length : Int)).toNat) (by omega) (by omega) (encAll d.sched ++ ys)
    have n5 := schedF_enc d.sched ys g6
    have hk2 : d.kind.toNat = 2 := by omega
    rw [Int.toNat_natCast] at n4
    simp only [hk2, Int.toNat_natCast] at n1 n2 n3
    simp only [verdF, n1, n2, n3, hk2, if_true, Int.toNat_natCast, n4, n5]
    obtain ⟨a1, a2, a3, a4⟩ := d
    simp only at hk g1 g3 ⊢
    congr 2
    · exact hk.symm
    · omega
    · omega
  · obtain ⟨g1, g2, g3⟩ := f3 hk
    rw [encV, if_neg hk, List.append_nil, encAll_cons, encAll_nil, List.append_nil]
    have n1 := numF_enc (most := 3) (n := d.kind.toNat) (by omega) (by omega) ys
    have hk2 : ¬ d.kind.toNat = 2 := by omega
    simp only [verdF, n1, hk2, if_false]
    obtain ⟨a1, a2, a3, a4⟩ := d
    simp only at g1 g2 g3 k0 ⊢
    subst g1 g2 g3
    rw [toNat_cast k0]
theorem verdF_sound {xs : List Int} (hb : Bytes xs) (h : (verdF xs false).2.2 = false) : xs = encV (verdF xs false).1 ++ (verdF xs false).2.1 := by
  unfold verdF at h ⊢
  dsimp only at h ⊢
  have b1 := numF_bytes (most := 3) (bad := false) hb
  split
  · rename_i hk
    rw [if_pos hk] at h
    dsimp only at h ⊢
    have b2 := numF_bytes (most := 5) (bad := (numF 3 xs false).2.2) b1
    have s1 := numF_sound (most := 3) (bad := false) hb
    generalize numF 3 xs false = p at *
    have s2 := numF_sound (most := 5) (bad := p.2.2) b1
    generalize numF 5 p.2.1 p.2.2 = q at *
    have b3 := numF_bytes (most := 16) (bad := q.2.2) b2
    have s3 := numF_sound (most := 16) (bad := q.2.2) b2
    generalize numF 16 q.2.1 q.2.2 = r at *
    have b4 := numF_bytes (most := 1048577) (bad := r.2.2) b3
    have s4 := numF_sound (most := 1048577) (bad := r.2.2) b3
    generalize numF 1048577 r.2.1 r.2.2 = t at *
    obtain ⟨z1, z2, z3⟩ := schedF_sound t.1 t.2.1 t.2.2 b4 h
    generalize schedF t.1 t.2.1 t.2.2 = w at *
    obtain ⟨z4, z5⟩ := s4 z1
    obtain ⟨z6, z7⟩ := s3 z4
    obtain ⟨z8, z9⟩ := s2 z6
    obtain ⟨_, z10⟩ := s1 z8
    rw [encV, if_pos rfl]
    dsimp only
    simp only [encAll_cons, encAll_nil, List.append_nil, List.append_assoc]
    rw [z3, Int.toNat_natCast, Int.toNat_natCast, show ((r.1 : Int) - 1 + 1).toNat = r.1 by omega, ← z2, ← z5, ← z7, ← z9]
    rw [z10, hk]; rfl
  · rename_i hk
    rw [if_neg hk] at h
    dsimp only at h ⊢
    obtain ⟨_, z1⟩ := numF_sound hb h
    rw [encV, if_neg (by dsimp only; omega)]
    dsimp only
    rw [encAll_cons, encAll_nil, List.append_nil, List.append_nil, Int.toNat_natCast]
    exact z1
theorem readR_enc {f : Fd} (h : okF f = true) (ys : List Int) : readR (encF f ++ ys) = (f, ys, false) := by
  obtain ⟨o1, ⟨o2, o3, o4, o5⟩, o6, o7, o8, o9⟩ := okF_facts h
  by_cases hk : f.d.kind = 0
  · obtain ⟨r1, r2, r3, r4, r5, r6, r7⟩ := o8 hk
    have e : encF f ++ ys = encV f.d ++ (encS f.p.toNat ++ (encS f.q.toNat ++ (encS f.a.length ++ (encT f.a f.b f.c ++ (encS f.m.toNat ++ ys))))) := by
      rw [encF, if_pos hk]
      simp only [encAll_cons, encAll_nil, List.append_nil, List.append_assoc, Int.toNat_natCast]
    rw [e]
    have n0 := verdF_enc o1 (encS f.p.toNat ++ (encS f.q.toNat ++ (encS f.a.length ++ (encT f.a f.b f.c ++ (encS f.m.toNat ++ ys)))))
    have n1 := numF_enc (most := 4611686018427387904) (n := f.p.toNat) (by omega) (by omega) (encS f.q.toNat ++ (encS f.a.length ++ (encT f.a f.b f.c ++ (encS f.m.toNat ++ ys))))
    have n2 := numF_enc (most := 4611686018427387904) (n := f.q.toNat) (by omega) (by omega) (encS f.a.length ++ (encT f.a f.b f.c ++ (encS f.m.toNat ++ ys)))
    have n3 := numF_enc (most := 1048577) (n := f.a.length) (by omega) (by omega) (encT f.a f.b f.c ++ (encS f.m.toNat ++ ys))
    have n4 := tripF_enc f.a f.b f.c (encS f.m.toNat ++ ys) o6 o7 r3 r4 r5
    have n5 := numF_enc (most := 8192) (n := f.m.toNat) (by omega) (by omega) ys
    simp only [readR, n0, n1, n2, hk, if_true, n3, n4, n5, toNat_cast o2, toNat_cast o4, toNat_cast r6]
  · obtain ⟨r1, r2, r3, r4⟩ := o9 hk
    have e : encF f ++ ys = encV f.d ++ (encS f.p.toNat ++ (encS f.q.toNat ++ ys)) := by
      rw [encF, if_neg hk]
      simp only [encAll_cons, encAll_nil, List.append_nil, List.append_assoc]
    rw [e]
    have n0 := verdF_enc o1 (encS f.p.toNat ++ (encS f.q.toNat ++ ys))
    have n1 := numF_enc (most := 4611686018427387904) (n := f.p.toNat) (by omega) (by omega) (encS f.q.toNat ++ ys)
    have n2 := numF_enc (most := 4611686018427387904) (n := f.q.toNat) (by omega) (by omega) ys
    simp only [readR, n0, n1, n2, hk, if_false, toNat_cast o2, toNat_cast o4]
    obtain ⟨a, b, c, m, p, q, d⟩ := f
    simp only at r1 r2 r3 r4
    subst r1 r2 r3 r4
    rfl
theorem readR_sound {xs : List Int} (hb : Bytes xs) (h : (readR xs).2.2 = false) : xs = encF (readR xs).1 ++ (readR xs).2.1 := by
  unfold readR at h ⊢
  dsimp only at h ⊢
  have b1 := (verdF_keep (bad := false) hb).1
  have s0 := verdF_sound hb
  generalize verdF xs false = v at *
  have b2 := numF_bytes (most := 4611686018427387904) (bad := v.2.2) b1
  have s1 := numF_sound (most := 4611686018427387904) (bad := v.2.2) b1
  generalize numF 4611686018427387904 v.2.1 v.2.2 = p at *
  have b3 := numF_bytes (most := 4611686018427387904) (bad := p.2.2) b2
  have s2 := numF_sound (most := 4611686018427387904) (bad := p.2.2) b2
  generalize numF 4611686018427387904 p.2.1 p.2.2 = q at *
  split
  · rename_i hk
    rw [if_pos hk] at h
    dsimp only at h ⊢
    have b4 := numF_bytes (most := 1048577) (bad := q.2.2) b3
    have s3 := numF_sound (most := 1048577) (bad := q.2.2) b3
    generalize numF 1048577 q.2.1 q.2.2 = k at *
    have s4 := tripF_sound k.1 k.2.1 k.2.2 b4
    have b5 := (tripF_keep k.1 (bad := k.2.2) b4).1
    generalize tripF k.1 k.2.1 k.2.2 = t at *
    obtain ⟨z1, z2⟩ := numF_sound (most := 8192) (bad := t.2.2.2.2) b5 h
    generalize numF 8192 t.2.2.2.1 t.2.2.2.2 = m at *
    obtain ⟨z3, z4, z5⟩ := s4 z1
    obtain ⟨z6, z7⟩ := s3 z3
    obtain ⟨z8, z9⟩ := s2 z6
    obtain ⟨z10, z11⟩ := s1 z8
    rw [encF, if_pos hk]
    dsimp only
    simp only [encAll_cons, encAll_nil, List.append_nil, List.append_assoc, Int.toNat_natCast]
    rw [z5, ← z2, ← z4, ← z7, ← z9, ← z11]
    exact s0 z10
  · rename_i hk
    rw [if_neg hk] at h
    dsimp only at h ⊢
    obtain ⟨z8, z9⟩ := s2 h
    obtain ⟨z10, z11⟩ := s1 z8
    rw [encF, if_neg hk]
    dsimp only
    simp only [encAll_cons, encAll_nil, List.append_nil, List.append_assoc, Int.toNat_natCast]
    rw [← z9, ← z11]
    exact s0 z10
theorem good_facts {xs : List Int} (hb : Bytes xs) (h : goodR (readR xs) = true) : okF (readR xs).1 = true ∧ encF (readR xs).1 = xs := by
  unfold goodR at h
  split at h
  · rename_i h1
    rw [Bool.and_eq_true] at h1
    have h2 : (readR xs).2.1 = [] := of_decide_eq_true h1.2
    have h3 := readR_sound hb (by simpa using h1.1)
    rw [h2, List.append_nil] at h3
    exact ⟨h, h3.symm⟩
  · cases h
theorem good_enc {f : Fd} (h : okF f = true) : readR (encF f) = (f, [], false) := by
  have := readR_enc h []
  rwa [List.append_nil] at this
theorem good_long {f : Fd} (h : okF f = true) : goodR (readR (encF f ++ [0])) = false := by
  rw [readR_enc h, goodR]; simp
theorem encS_bytes : ∀ (k n : Nat), n < 128 ^ (k + 1) → Bytes (encS n) := by
  intro k
  induction k with
  | zero =>
    intro n hn
    rw [encS, if_neg (by omega)]
    intro x hx; simp only [List.mem_singleton] at hx; omega
  | succ k ih =>
    intro n hn
    rw [encS]
    split
    · have := ih (n / 128) (by rw [Nat.pow_succ] at hn; omega)
      intro x hx
      rcases List.mem_cons.1 hx with rfl | hx
      · omega
      · exact this x hx
    · intro x hx; simp only [List.mem_singleton] at hx; omega
theorem encS_byte (n : Nat) : Bytes (encS n) := encS_bytes n n (by
  have : n < 2 ^ n := Nat.lt_two_pow_self
  have h2 : 2 ^ n ≤ 128 ^ n := Nat.pow_le_pow_left (by omega) n
  have h3 : 128 ^ n ≤ 128 ^ (n + 1) := Nat.pow_le_pow_right (by omega) (by omega)
  omega)
theorem Bytes.append {xs ys : List Int} (h : Bytes xs) (h' : Bytes ys) : Bytes (xs ++ ys) := fun x hx => (List.mem_append.1 hx).elim (h x) (h' x)
theorem bytes_nil : Bytes [] := fun x hx => by cases hx
theorem encAll_bytes (xs : List Int) : Bytes (encAll xs) := by
  induction xs with
  | nil => exact bytes_nil
  | cons x r ih => rw [encAll_cons]; exact (encS_byte _).append ih
theorem encT_bytes : ∀ (a b c : List Int), Bytes (encT a b c)
  | [], _, _ => by simp only [encT]; exact bytes_nil
  | _ :: _, [], _ => by simp only [encT]; exact bytes_nil
  | _ :: _, _ :: _, [] => by simp only [encT]; exact bytes_nil
  | x :: a, y :: b, z :: c => by simp only [encT]; exact (encAll_bytes _).append (encT_bytes a b c)
theorem encF_bytes (f : Fd) : Bytes (encF f) := by
  unfold encF encV
  refine (Bytes.append (Bytes.append (encAll_bytes _) ?_) (encAll_bytes _)).append ?_
  · split
    · exact (encAll_bytes _).append (encAll_bytes _)
    · exact bytes_nil
  · split
    · exact ((encAll_bytes _).append (encT_bytes _ _ _)).append (encAll_bytes _)
    · exact bytes_nil
theorem encF_ne (f : Fd) : encF f ≠ [] := by
  unfold encF encV
  rw [encAll_cons]
  have := encS_ne f.d.kind.toNat
  simp [this]
theorem good_short {f : Fd} (h : okF f = true) : goodR (readR ((encF f).take ((encF f).length - 1))) = false := by
  have hne := encF_ne f
  have hb : Bytes ((encF f).take ((encF f).length - 1)) := fun x hx => encF_bytes f x (List.mem_of_mem_take hx)
  rcases hg : goodR (readR ((encF f).take ((encF f).length - 1))) with _ | _
  · rfl
  · obtain ⟨g1, g2⟩ := good_facts hb hg
    generalize (readR ((encF f).take ((encF f).length - 1))).1 = g at *
    have h1 : encF f = encF g ++ (encF f).drop ((encF f).length - 1) := by rw [g2, List.take_append_drop]
    have h2 := readR_enc g1 ((encF f).drop ((encF f).length - 1))
    rw [← h1, good_enc h] at h2
    have h3 : (encF f).drop ((encF f).length - 1) = [] := by
      have := congrArg (fun p => p.2.1) h2
      exact this.symm
    have := congrArg List.length h3
    simp only [List.length_drop, List.length_nil] at this
    have := List.length_pos_iff.2 hne
    omega
theorem encF_len {f : Fd} (h : okF f = true) : (encF f).length < 100000000 := by
  obtain ⟨o1, ⟨o2, o3, o4, o5⟩, o6, o7, o8, o9⟩ := okF_facts h
  have h1 := encV_len o1
  have h2 := okV_sched o1
  have h3 := encAll_len (xs := [f.p, f.q]) (by intro x hx; simp only [List.mem_cons, List.not_mem_nil, or_false] at hx; omega)
  unfold encF
  split
  · rename_i hk
    obtain ⟨r1, r2, r3, r4, r5, r6, r7⟩ := o8 hk
    have h4 := encAll_len (xs := [(f.a.length : Int)]) (by intro x hx; simp only [List.mem_singleton] at hx; omega)
    have h5 := encAll_len (xs := [f.m]) (by intro x hx; simp only [List.mem_singleton] at hx; omega)
    have h6 := encT_len r3 r4 r5
    simp only [List.length_append, List.length_cons, List.length_nil] at *
    omega
  · simp only [List.length_append, List.length_cons, List.length_nil] at *
    omega
end Go.Proofs.YtbbknbmmpkpgdaaGreatDoor.KAb
namespace Go.Proofs.YtbbknbmmpkpgdaaGreatDoor.KAb
noncomputable def x3 : Sum := ⟨3, [], [], .bool true⟩
/-- The call of a known law is known; the rest as before. -/
noncomputable def cfB (lf n : Nat) : CF := withSum x3 (aCall Pz masks lf n)
theorem cfB_call {lf n : Nat} {f : FuncId} (h : f ≠ 3) (args : List Value) (s : AS) : (cfB lf n).call f args s = (aCall Pz masks lf n).call f args s := by
  show withSum1 x3 _ f args s = _
  have : Nat.beq f x3.f = false := by rw [← Bool.not_eq_true, Nat.beq_eq]; exact h
  simp only [withSum1, this]
/-- The three tables stand. -/
def Alive (s : AS) : Prop := alive s 0 = true ∧ alive s 1 = true ∧ alive s 2 = true
theorem cfB_known {lf n : Nat} {s : AS} (h : Alive s) : (cfB lf n).call 3 [] s = .ret (.bool true) s := by
  show withSum1 x3 _ 3 [] s = _
  have h1 : rowsOk s x3.rows = true := by
    show bif' (allK (rowIs s) []) (bif' (alive s 0) (bif' (alive s 1) (alive s 2) false) false) false = true
    rw [h.1, h.2.1, h.2.2]; rfl
  have h2 : Nat.beq 3 x3.f = true := rfl
  have h3 : valsEq [] x3.args = true := rfl
  simp only [withSum1, h1, h2, h3]
  rfl
theorem read_keep {lf n : Nat} (hn : 4 ≤ n) {s : AS} {xs : List Int} {vx : Value} (hx : Ints s .u8 vx xs) (hb : Bytes xs) (hlen : xs.length < 1000000000) (hF : s.F) (hlf : 1000000000 ≤ lf) :
    ∃ (cs : List Value) (e : Int) (s1 s2 : AS), (cfB lf n).call 11 [vx] s = .ret (.tuple #[.agg cs.toArray, .int .i64 e]) s1 ∧
      doNew [(.slice none 0 0), (.slice none 0 0), (.slice none 0 0), (.int .i64 0), (.int .i64 0), (.int .i64 0), (.int .i64 0), (.int .i64 0), (.int .i64 0), (.slice none 0 0)] 38 s1 = .val (.pointer (some ⟨s1.next, 0, none⟩)) (s1.new (.row zero10 38 false)) ∧
      doStore 10 (.pointer (some ⟨s1.next, 0, none⟩)) (.agg cs.toArray) (s1.new (.row zero10 38 false)) = .val undef s2 ∧ Fr (fun _ => False) s s2 ∧ s2.F ∧ s2.get s1.next = some (.row cs 38 false) ∧
      (goodR (readR xs) = true → e = 0 ∧ ∃ va vb vc vs, cs = (readR xs).1.cells va vb vc vs ∧ FAt s2 (readR xs).1 va vb vc vs) ∧ (goodR (readR xs) = false → e = 4) := by
  obtain ⟨x, s1, hc, hR, hfr, hF1⟩ := (read_ok (lf := lf) (n := n) hn hx hb hlen hF hlf).inv
  have hc' := (cfB_call (lf := lf) (n := n) (by decide) [vx] s).trans hc
  have key : ∀ (cs : List Value), cs.length = 10 → cs.all scal = true → ∃ s2, doStore 10 (.pointer (some ⟨s1.next, 0, none⟩)) (.agg cs.toArray) (s1.new (.row zero10 38 false)) = .val undef s2 ∧ Fr (fun _ => False) s1 s2 ∧ s2.F ∧ s2.get s1.next = some (.row cs 38 false) := by
    intro cs h1 h2
    refine ⟨(s1.new (.row zero10 38 false)).put s1.next (.row cs 38 false), ?_, ⟨Nat.le_succ _, fun b hb _ => (put_ne _ _ (by omega)).trans (new_ne s1 _ (by omega))⟩, (hF1.new _).put (Nat.lt_succ_self _) _, put_get _ _ _⟩
    rw [storeN (new_get _ _) (by simpa using h1) (by decide) (by simpa using h2)]
    rw [List.drop_of_length_le (by decide)]
    simp
  unfold ReadOut at hR
  by_cases hg : goodR (readR xs) = true
  · rw [if_pos hg] at hR
    obtain ⟨va, vb, vc, vs, rfl, hFA⟩ := hR
    obtain ⟨s2, k1, k2, k3, k4⟩ := key ((readR xs).1.cells va vb vc vs) (by simp [Fd.cells, Vd.cells]) hFA.scal
    exact ⟨_, 0, s1, s2, hc', rfl, k1, hfr.trans k2, k3, k4, fun _ => ⟨rfl, va, vb, vc, vs, rfl, hFA.fr hF1 k2 (fun _ _ _ h => h)⟩, fun h => by rw [hg] at h; cases h⟩
  · rw [if_neg hg] at hR
    subst hR
    obtain ⟨s2, k1, k2, k3, k4⟩ := key zero10 (by decide) (by decide)
    exact ⟨_, 4, s1, s2, hc', rfl, k1, hfr.trans k2, k3, k4, fun h => absurd h hg, fun _ => rfl⟩
theorem res4 {v l : L} {s : AS} : resOf Pz 257015 Go.Proofs.Tryz.f4 v l s = .ret (lkL 4 v poison) s := res1 (by kernel_rfl) (by kernel_rfl)
theorem len10 {f : Fd} {va vb vc vs : Value} : (f.cells va vb vc vs).length = 10 := by simp [Fd.cells, Vd.cells]
theorem load10 {s : AS} {b : Nat} {cs : List Value} (hg : s.get b = some (.row cs 38 false)) (h : cs.length = 10) : loadN 10 (.pointer (some ⟨b, 0, none⟩)) s = .ok (.agg cs.toArray) := by
  rw [loadN_of hg (by omega), List.drop_zero, List.take_of_length_le (by omega)]
set_option maxRecDepth 100000 in
/-- From where the bytes that were given are read. -/
theorem tail4 {lf n : Nat} (hn : 4 ≤ n) (hlf : 1000000000 ≤ lf) {s : AS} {bs : List Int} {vb : Value} {v : L} (hx : Ints s .u8 vb bs) (hb : Bytes bs) (hlen : bs.length < 1000000000) (hF : s.F) (h1 : lkL 1 v poison = vb) (h5 : lkL 5 v poison = .bool true) :
    (seqK ((o4_13 0).run (cfB lf n) v .nil [] s) fun v l ds s => seqK (seqK ((o4_14 0).run (cfB lf n) v .nil ds s) fun v l ds s => condK (lkL 85 l poison) (seqK ((o4_15 0).run (cfB lf n) v .nil ds s) fun v l ds s => .ret v l ds s) (.normal v l ds s)) fun v l ds s => seqK ((o4_16 0).run (cfB lf n) v .nil ds s) fun v l ds s => seqK ((o4_17 0).run (cfB lf n) v .nil ds s) fun v l ds s => .ret v l ds s).P
      (Aft Pz 257015 Go.Proofs.Tryz.f4 fun x _ => x = .bool true) := by
  obtain ⟨cs, e, s1, s2, hc, hnw, hst, hfr, hF2, hg, hgood, hbad⟩ := read_keep (lf := lf) hn hx hb hlen hF hlf
  have t0 : doExtract (.tuple #[.agg cs.toArray, .int .i64 e]) 0 = .ok (.agg cs.toArray) := extract_tup rfl
  have t1 : doExtract (.tuple #[.agg cs.toArray, .int .i64 e]) 1 = .ok (.int .i64 e) := extract_tup rfl
  by_cases hgd : goodR (readR bs) = true
  case neg =>
    have he := hbad (by simpa using hgd)
    subst he
    have e4 : decide ((4 : Int) = 0) = false := rfl
    simp -implicitDefEqProofs only [aft_normal, aft_ret, bV_ok, bC_ret, bA_val, bA_enter, bDC_ret, bDA_val, bDA_enter, guard_b, guard_undef, seq_normal, seq_exit, seq_ret, seq_panic, cond_b, block_normal, block_exit, block_ret, block_panic, lkL_cons, lkL_setL, Nat.reduceEqDiff, if_true, if_false, ↓reduceIte, decide_true, decide_false, Bool.true_eq_false, Bool.false_eq_true, bin_add, bin_sub, bin_mul, bin_and, bin_or, bin_eql, bin_neq, bin_lss, bin_leq, bin_gtr, bin_geq, un_not, pick_b, len_slice, nilc, fieldA, conv_int, P_normal, P_ret, P_exit, ne_eq, not_true_eq_false, not_false_eq_true, Bool.not_true, Bool.not_false, true_and, and_true, q4_0_0, q4_0_1, q4_0_2, q4_1_0, q4_1_2, q4_2_0, q4_2_3, q4_2_4, q4_2_5, q4_2_6, q4_2_7, q4_3_0, q4_3_2, q4_4_0, q4_4_6, q4_4_7, q4_5_0, q4_5_3, q4_5_4, q4_5_5, q4_5_6, q4_5_7, q4_6_0, q4_6_1, q4_7_0, q4_7_2, q4_8_0, q4_8_6, q4_8_8, q4_9_0, q4_9_12, q4_10_0, q4_10_11, q4_11_0, q4_11_3, q4_11_4, q4_11_5, q4_11_6, q4_11_7, q4_11_9, q4_11_10, q4_11_11, q4_11_13, q4_11_14, q4_11_15, q4_11_16, q4_12_0, q4_12_1, q4_13_0, q4_13_6, q4_13_8, q4_14_0, q4_14_2, q4_15_0, q4_15_2, q4_16_0, q4_16_6, q4_16_7, q4_17_0, q4_17_2, q4_17_3, q4_17_4, q4_17_6, q4_17_7, q4_17_8, q4_17_9, q4_17_11, Nat.zero_add, h1, hc, t0, t1, hnw, hst, e4, h5, res4]
    exact fun _ => rfl
  obtain ⟨rfl, va, vb', vc, vs, rfl, hFA⟩ := hgood hgd
  obtain ⟨ho, hen⟩ := good_facts hb hgd
  have l10 := load10 hg len10
  obtain ⟨x, s3, hc3, hR3, hfr3, hF3⟩ := (bytes_ok (lf := lf) (n := n) hn hFA hF2 hlf).inv
  rw [BytesOut, if_pos ho] at hR3
  obtain ⟨vy, rfl, hown⟩ := hR3
  have hc3' := (cfB_call (lf := lf) (n := n) (by decide) [.agg ((readR bs).1.cells va vb' vc vs).toArray] s2).trans hc3
  have u0 : doExtract (.tuple #[vy, .int .i64 0]) 0 = .ok vy := extract_tup rfl
  have u1 : doExtract (.tuple #[vy, .int .i64 0]) 1 = .ok (.int .i64 0) := extract_tup rfl
  have e0 : decide ((0 : Int) = 0) = true := rfl
  rw [hen] at hown
  have hx3 : Ints s3 .u8 vb bs := (hx.fr hF hfr (fun _ _ _ h => h)).fr hF2 hfr3 (fun _ _ _ h => h)
  have hsame := (cfB_call (lf := lf) (n := n) (f := 14) (by decide) [vy, vb] s3).trans (sameBytes_ok (lf := lf) (n := n) (by omega) (hown.ints (by kernel_rfl)) hx3 hb)
  simp -implicitDefEqProofs only [aft_normal, aft_ret, bV_ok, bC_ret, bA_val, bA_enter, bDC_ret, bDA_val, bDA_enter, guard_b, guard_undef, seq_normal, seq_exit, seq_ret, seq_panic, cond_b, block_normal, block_exit, block_ret, block_panic, lkL_cons, lkL_setL, Nat.reduceEqDiff, if_true, if_false, ↓reduceIte, decide_true, decide_false, Bool.true_eq_false, Bool.false_eq_true, bin_add, bin_sub, bin_mul, bin_and, bin_or, bin_eql, bin_neq, bin_lss, bin_leq, bin_gtr, bin_geq, un_not, pick_b, len_slice, nilc, fieldA, conv_int, P_normal, P_ret, P_exit, ne_eq, not_true_eq_false, not_false_eq_true, Bool.not_true, Bool.not_false, true_and, and_true, q4_0_0, q4_0_1, q4_0_2, q4_1_0, q4_1_2, q4_2_0, q4_2_3, q4_2_4, q4_2_5, q4_2_6, q4_2_7, q4_3_0, q4_3_2, q4_4_0, q4_4_6, q4_4_7, q4_5_0, q4_5_3, q4_5_4, q4_5_5, q4_5_6, q4_5_7, q4_6_0, q4_6_1, q4_7_0, q4_7_2, q4_8_0, q4_8_6, q4_8_8, q4_9_0, q4_9_12, q4_10_0, q4_10_11, q4_11_0, q4_11_3, q4_11_4, q4_11_5, q4_11_6, q4_11_7, q4_11_9, q4_11_10, q4_11_11, q4_11_13, q4_11_14, q4_11_15, q4_11_16, q4_12_0, q4_12_1, q4_13_0, q4_13_6, q4_13_8, q4_14_0, q4_14_2, q4_15_0, q4_15_2, q4_16_0, q4_16_6, q4_16_7, q4_17_0, q4_17_2, q4_17_3, q4_17_4, q4_17_6, q4_17_7, q4_17_8, q4_17_9, q4_17_11, Nat.zero_add, h1, hc, t0, t1, hnw, hst, e0, h5, l10, hc3', u0, u1, hsame, res4]
  exact fun _ => rfl
set_option maxRecDepth 100000 in
theorem law4_ok {lf n : Nat} (hn : 4 ≤ n) (hlf : 1000000000 ≤ lf) {s : AS} {f : Fd} {va vb vc vs vx : Value} {bs : List Int} (hI : FAt s f va vb vc vs) (hx : Ints s .u8 vx bs) (hb : Bytes bs) (hF : s.F) (hA : Alive s) :
    ((fnK Pz masks lf 4).run (cfB lf n) [.agg (f.cells va vb vc vs).toArray, vx] s).P fun x _ => x = .bool true := by
  rewrite [fn4, c4]
  refine P_aft ?_
  have hbx : doBox 38 (.agg (f.cells va vb vc vs).toArray) s = .val (.pointer (some ⟨s.next, 0, none⟩)) (s.new (.row (f.cells va vb vc vs) 38 false)) := rfl
  have fr1 : Fr (fun _ => False) s (s.new (.row (f.cells va vb vc vs) 38 false)) := Fr.new _ s _
  have F1 : (s.new (.row (f.cells va vb vc vs) 38 false)).F := hF.new _
  have g1 : (s.new (.row (f.cells va vb vc vs) 38 false)).get s.next = some (.row (f.cells va vb vc vs) 38 false) := new_get s _
  have A1 : Alive (s.new (.row (f.cells va vb vc vs) 38 false)) := by
    have : ∀ b, alive s b = true → alive (s.new (.row (f.cells va vb vc vs) 38 false)) b = true := by
      intro b h
      obtain ⟨cs, el, ro, h'⟩ := alive_ok h
      have : (s.new (.row (f.cells va vb vc vs) 38 false)).get b = some (.row cs el ro) := (new_ne s _ (by have := hF.lt h'; omega)).trans h'
      simp [alive, this]
    exact ⟨this 0 hA.1, this 1 hA.2.1, this 2 hA.2.2⟩
  have i1 := hI.fr hF fr1 (fun _ _ _ h => h)
  have x1 := hx.fr hF fr1 (fun _ _ _ h => h)
  generalize s.new (.row (f.cells va vb vc vs) 38 false) = s1 at *
  have hk := cfB_known (lf := lf) (n := n) A1
  have l1 := load10 g1 len10
  obtain ⟨x, s2, hl, ⟨bl, rfl⟩, fr2, F2⟩ := (long_ok (lf := lf) (n := n) (by omega) i1 F1).inv
  have hl' := (cfB_call (lf := lf) (n := n) (by decide) [.agg (f.cells va vb vc vs).toArray] s1).trans hl
  have x2 := x1.fr F1 fr2 (fun _ _ _ h => h)
  have nx := x2.len
  cases bl with
  | true =>
    simp -implicitDefEqProofs only [aft_normal, aft_ret, bV_ok, bC_ret, bA_val, bA_enter, bDC_ret, bDA_val, bDA_enter, guard_b, guard_undef, seq_normal, seq_exit, seq_ret, seq_panic, cond_b, block_normal, block_exit, block_ret, block_panic, lkL_cons, lkL_setL, Nat.reduceEqDiff, if_true, if_false, ↓reduceIte, decide_true, decide_false, Bool.true_eq_false, Bool.false_eq_true, bin_add, bin_sub, bin_mul, bin_and, bin_or, bin_eql, bin_neq, bin_lss, bin_leq, bin_gtr, bin_geq, un_not, pick_b, len_slice, nilc, fieldA, conv_int, P_normal, P_ret, P_exit, ne_eq, not_true_eq_false, not_false_eq_true, Bool.not_true, Bool.not_false, true_and, and_true, q4_0_0, q4_0_1, q4_0_2, q4_1_0, q4_1_2, q4_2_0, q4_2_3, q4_2_4, q4_2_5, q4_2_6, q4_2_7, q4_3_0, q4_3_2, q4_4_0, q4_4_6, q4_4_7, q4_5_0, q4_5_3, q4_5_4, q4_5_5, q4_5_6, q4_5_7, q4_6_0, q4_6_1, q4_7_0, q4_7_2, q4_8_0, q4_8_6, q4_8_8, q4_9_0, q4_9_12, q4_10_0, q4_10_11, q4_11_0, q4_11_3, q4_11_4, q4_11_5, q4_11_6, q4_11_7, q4_11_9, q4_11_10, q4_11_11, q4_11_13, q4_11_14, q4_11_15, q4_11_16, q4_12_0, q4_12_1, q4_13_0, q4_13_6, q4_13_8, q4_14_0, q4_14_2, q4_15_0, q4_15_2, q4_16_0, q4_16_6, q4_16_7, q4_17_0, q4_17_2, q4_17_3, q4_17_4, q4_17_6, q4_17_7, q4_17_8, q4_17_9, q4_17_11, Nat.zero_add, hbx, hk, l1, hl', res4]
    exact fun _ => rfl
  | false =>
    by_cases h2 : 20000 < bs.length
    · have h2' : (20000 : Int) < bs.length := by omega
      simp -implicitDefEqProofs only [aft_normal, aft_ret, bV_ok, bC_ret, bA_val, bA_enter, bDC_ret, bDA_val, bDA_enter, guard_b, guard_undef, seq_normal, seq_exit, seq_ret, seq_panic, cond_b, block_normal, block_exit, block_ret, block_panic, lkL_cons, lkL_setL, Nat.reduceEqDiff, if_true, if_false, ↓reduceIte, decide_true, decide_false, Bool.true_eq_false, Bool.false_eq_true, bin_add, bin_sub, bin_mul, bin_and, bin_or, bin_eql, bin_neq, bin_lss, bin_leq, bin_gtr, bin_geq, un_not, pick_b, len_slice, nilc, fieldA, conv_int, P_normal, P_ret, P_exit, ne_eq, not_true_eq_false, not_false_eq_true, Bool.not_true, Bool.not_false, true_and, and_true, q4_0_0, q4_0_1, q4_0_2, q4_1_0, q4_1_2, q4_2_0, q4_2_3, q4_2_4, q4_2_5, q4_2_6, q4_2_7, q4_3_0, q4_3_2, q4_4_0, q4_4_6, q4_4_7, q4_5_0, q4_5_3, q4_5_4, q4_5_5, q4_5_6, q4_5_7, q4_6_0, q4_6_1, q4_7_0, q4_7_2, q4_8_0, q4_8_6, q4_8_8, q4_9_0, q4_9_12, q4_10_0, q4_10_11, q4_11_0, q4_11_3, q4_11_4, q4_11_5, q4_11_6, q4_11_7, q4_11_9, q4_11_10, q4_11_11, q4_11_13, q4_11_14, q4_11_15, q4_11_16, q4_12_0, q4_12_1, q4_13_0, q4_13_6, q4_13_8, q4_14_0, q4_14_2, q4_15_0, q4_15_2, q4_16_0, q4_16_6, q4_16_7, q4_17_0, q4_17_2, q4_17_3, q4_17_4, q4_17_6, q4_17_7, q4_17_8, q4_17_9, q4_17_11, Nat.zero_add, hbx, hk, l1, hl', nx, h2', res4]
      exact fun _ => rfl
    have h2' : ¬ (20000 : Int) < bs.length := by omega
    have g2 := (fr2.same _ (F1.lt g1) id).trans g1
    have l2 := load10 g2 len10
    have i2 := i1.fr F1 fr2 (fun _ _ _ h => h)
    obtain ⟨x, s3, hc3, hR3, fr3, F3⟩ := (bytes_ok (lf := lf) (n := n) hn i2 F2 hlf).inv
    have hc3' := (cfB_call (lf := lf) (n := n) (by decide) [.agg (f.cells va vb vc vs).toArray] s2).trans hc3
    have x3 := x2.fr F2 fr3 (fun _ _ _ h => h)
    by_cases ho : okF f = true
    case neg =>
      rw [BytesOut, if_neg ho] at hR3
      subst hR3
      have u0 : doExtract (.tuple #[.slice none 0 0, .int .i64 2]) 0 = .ok (.slice none 0 0) := extract_tup rfl
      have u1 : doExtract (.tuple #[.slice none 0 0, .int .i64 2]) 1 = .ok (.int .i64 2) := extract_tup rfl
      have e2 : decide ((2 : Int) = 0) = false := rfl
      simp -implicitDefEqProofs only [aft_normal, aft_ret, bV_ok, bC_ret, bA_val, bA_enter, bDC_ret, bDA_val, bDA_enter, guard_b, guard_undef, seq_normal, seq_exit, seq_ret, seq_panic, cond_b, block_normal, block_exit, block_ret, block_panic, lkL_cons, lkL_setL, Nat.reduceEqDiff, if_true, if_false, ↓reduceIte, decide_true, decide_false, Bool.true_eq_false, Bool.false_eq_true, bin_add, bin_sub, bin_mul, bin_and, bin_or, bin_eql, bin_neq, bin_lss, bin_leq, bin_gtr, bin_geq, un_not, pick_b, len_slice, nilc, fieldA, conv_int, P_normal, P_ret, P_exit, ne_eq, not_true_eq_false, not_false_eq_true, Bool.not_true, Bool.not_false, true_and, and_true, q4_0_0, q4_0_1, q4_0_2, q4_1_0, q4_1_2, q4_2_0, q4_2_3, q4_2_4, q4_2_5, q4_2_6, q4_2_7, q4_3_0, q4_3_2, q4_4_0, q4_4_6, q4_4_7, q4_5_0, q4_5_3, q4_5_4, q4_5_5, q4_5_6, q4_5_7, q4_6_0, q4_6_1, q4_7_0, q4_7_2, q4_8_0, q4_8_6, q4_8_8, q4_9_0, q4_9_12, q4_10_0, q4_10_11, q4_11_0, q4_11_3, q4_11_4, q4_11_5, q4_11_6, q4_11_7, q4_11_9, q4_11_10, q4_11_11, q4_11_13, q4_11_14, q4_11_15, q4_11_16, q4_12_0, q4_12_1, Nat.zero_add, hbx, hk, l1, hl', nx, h2', l2, hc3', u0, u1, e2]
      exact tail4 hn hlf x3 hb (by omega) F3 rfl rfl
    rw [BytesOut, if_pos ho] at hR3
    obtain ⟨vy, rfl, hown⟩ := hR3
    have u0 : doExtract (.tuple #[vy, .int .i64 0]) 0 = .ok vy := extract_tup rfl
    have u1 : doExtract (.tuple #[vy, .int .i64 0]) 1 = .ok (.int .i64 0) := extract_tup rfl
    have e0 : decide ((0 : Int) = 0) = true := rfl
    have e4 : decide ((4 : Int) = 4) = true := rfl
    have y3 : Ints s3 .u8 vy (encF f) := hown.ints (by kernel_rfl)
    have ny := y3.len
    have hel := encF_len ho
    have hep : 0 < (encF f).length := List.length_pos_iff.2 (encF_ne f)
    have en : decide (((encF f).length : Int) = 0) = false := decide_eq_false (by omega)
    have g3 := (fr3.same _ (F2.lt g2) id).trans g2
    have i3 := i2.fr F2 fr3 (fun _ _ _ h => h)
    -- as it was written
    obtain ⟨cs4, e4', s4a, s4, hc4, hnw4, hst4, fr4, F4, g4, good4, _⟩ := read_keep (lf := lf) hn y3 (encF_bytes f) (by omega) F3 hlf
    rw [good_enc ho] at good4
    obtain ⟨rfl, wa, wb, wc, ws, rfl, iw4⟩ := good4 (by simp [goodR, ho])
    have t40 : doExtract (.tuple #[.agg (f.cells wa wb wc ws).toArray, .int .i64 0]) 0 = .ok (.agg (f.cells wa wb wc ws).toArray) := extract_tup rfl
    have t41 : doExtract (.tuple #[.agg (f.cells wa wb wc ws).toArray, .int .i64 0]) 1 = .ok (.int .i64 0) := extract_tup rfl
    have y4 := y3.fr F3 fr4 (fun _ _ _ h => h)
    have ny4 := y4.len
    -- cut short
    have hw1 : IntKind.i64.wrap (((encF f).length : Int) - 1) = (((encF f).length - 1 : Nat) : Int) := by rw [wrap64_in (by omega) (by omega)]; omega
    obtain ⟨vz, hsl, hz4, _⟩ := y4.slice none (some (.int .i64 (((encF f).length - 1 : Nat) : Int))) 0 ((encF f).length - 1) (.inl rfl) (.inl (by simp only [onat, natOf_int]; rw [if_pos (by omega)]; simp)) (by omega) (by omega)
    rw [List.drop_zero] at hz4
    obtain ⟨cs5, e5, s5a, s5, hc5, hnw5, hst5, fr5, F5, g5, _, bad5⟩ := read_keep (lf := lf) hn hz4 (fun x hx => encF_bytes f x (List.mem_of_mem_take hx)) (by simp; omega) F4 hlf
    have := bad5 (good_short ho)
    subst this
    have t50 : doExtract (.tuple #[.agg cs5.toArray, .int .i64 4]) 0 = .ok (.agg cs5.toArray) := extract_tup rfl
    have t51 : doExtract (.tuple #[.agg cs5.toArray, .int .i64 4]) 1 = .ok (.int .i64 4) := extract_tup rfl
    have y5 := y4.fr F4 fr5 (fun _ _ _ h => h)
    -- one byte more
    obtain ⟨vc6, s6, hc6, own6, fr6, F6, far6⟩ := (copyBytes_ok (lf := lf) (n := n) (by omega) y5 F5 hep (by omega)).inv
    have hc6' := (cfB_call (lf := lf) (n := n) (by decide) [vy] s5).trans hc6
    obtain ⟨v7, s7, a1, a2, a3, a4, a5, a6⟩ := own_push own6 0 (by omega) F6
    have hbs : doBuildSlice 5 1 1 (zerosK [.int .u8 0] 1) [(0, .int .u8 0)] s6 = .val (.slice (some ⟨s6.next, 0, none⟩) 1 2) (s6.new (.row [.int .u8 0] 5 false)) := rfl
    have fr67 : Fr (fun _ => False) s5 s7 := ⟨Nat.le_trans fr6.next a5, fun b hb hx => (a6 b (Nat.lt_of_lt_of_le hb fr6.next) fun n c h => by have := far6 b n c h; omega).trans (fr6.same b hb hx)⟩
    obtain ⟨cs8, e8, s8a, s8, hc8, hnw8, hst8, fr8, F8, g8, _, bad8⟩ := read_keep (lf := lf) hn (a2.ints (by kernel_rfl)) ((encF_bytes f).append (fun x hx => by simp only [List.mem_singleton] at hx; omega)) (by simp only [List.length_append, List.length_cons, List.length_nil]; omega) a3 hlf
    have := bad8 (good_long ho)
    subst this
    have t80 : doExtract (.tuple #[.agg cs8.toArray, .int .i64 4]) 0 = .ok (.agg cs8.toArray) := extract_tup rfl
    have t81 : doExtract (.tuple #[.agg cs8.toArray, .int .i64 4]) 1 = .ok (.int .i64 4) := extract_tup rfl
    -- what was read is what was written
    have fr48 : Fr (fun _ => False) s4 s8 := (fr5.trans fr67).trans fr8
    have fr38 : Fr (fun _ => False) s3 s8 := fr4.trans fr48
    have l8 := load10 ((fr48.same _ (F4.lt g4) id).trans g4) len10
    have l82 := load10 ((fr38.same _ (F3.lt g3) id).trans g3) len10
    obtain ⟨fl1, fl2, fl3, fl4⟩ : f.a.length < 1000000000 ∧ f.b.length < 1000000000 ∧ f.c.length < 1000000000 ∧ f.d.sched.length < 1000000000 := by
      obtain ⟨o1, _, o6, o7, o8, o9⟩ := okF_facts ho
      have := okV_sched o1
      by_cases hk0 : f.d.kind = 0
      · have := (o8 hk0).2.1
        omega
      · obtain ⟨r1, r2, r3, _⟩ := o9 hk0
        rw [r1, r2, r3]; simp; omega
    obtain ⟨x, s9, hc9, rfl, fr9, F9⟩ := (sameF_ok (lf := lf) (n := n) (by omega) (iw4.fr F4 fr48 (fun _ _ _ h => h)) (i3.fr F3 fr38 (fun _ _ _ h => h)) F8 fl1 fl2 fl3 fl4 hlf).inv
    have hc9' := (cfB_call (lf := lf) (n := n) (by decide) [.agg (f.cells wa wb wc ws).toArray, .agg (f.cells va vb vc vs).toArray] s8).trans hc9
    simp -implicitDefEqProofs only [aft_normal, aft_ret, bV_ok, bC_ret, bA_val, bA_enter, bDC_ret, bDA_val, bDA_enter, guard_b, guard_undef, seq_normal, seq_exit, seq_ret, seq_panic, cond_b, block_normal, block_exit, block_ret, block_panic, lkL_cons, lkL_setL, Nat.reduceEqDiff, if_true, if_false, ↓reduceIte, decide_true, decide_false, Bool.true_eq_false, Bool.false_eq_true, bin_add, bin_sub, bin_mul, bin_and, bin_or, bin_eql, bin_neq, bin_lss, bin_leq, bin_gtr, bin_geq, un_not, pick_b, len_slice, nilc, fieldA, conv_int, P_normal, P_ret, P_exit, ne_eq, not_true_eq_false, not_false_eq_true, Bool.not_true, Bool.not_false, true_and, and_true, q4_0_0, q4_0_1, q4_0_2, q4_1_0, q4_1_2, q4_2_0, q4_2_3, q4_2_4, q4_2_5, q4_2_6, q4_2_7, q4_3_0, q4_3_2, q4_4_0, q4_4_6, q4_4_7, q4_5_0, q4_5_3, q4_5_4, q4_5_5, q4_5_6, q4_5_7, q4_6_0, q4_6_1, q4_7_0, q4_7_2, q4_8_0, q4_8_6, q4_8_8, q4_9_0, q4_9_12, q4_10_0, q4_10_11, q4_11_0, q4_11_3, q4_11_4, q4_11_5, q4_11_6, q4_11_7, q4_11_9, q4_11_10, q4_11_11, q4_11_13, q4_11_14, q4_11_15, q4_11_16, q4_12_0, q4_12_1, Nat.zero_add, hbx, hk, l1, hl', nx, h2', l2, hc3', u0, u1, e0, ny, en, hc4, hnw4, hst4, t40, t41, ny4, hw1, hsl, hc5, hnw5, hst5, t50, t51, hc6', hbs, a1, hc8, hnw8, hst8, t80, t81, l8, l82, hc9', e4]
    exact tail4 hn hlf ((x3.fr F3 fr38 (fun _ _ _ h => h)).fr F8 fr9 (fun _ _ _ h => h)) hb (by omega) F9 rfl rfl
end Go.Proofs.YtbbknbmmpkpgdaaGreatDoor.KAb
namespace Go.Proofs.YtbbknbmmpkpgdaaGreatDoor.KAb
/-! The arguments, as they read. -/
section
variable {H : Type} {enc : TypeId × Value → H} {W : World} {fuel : Nat} {cs : List Value} {x : DataW H × List MemPlace} {held : Bool}
theorem abs1_slice {b o n c : Nat} (hc : c ≠ 0) (h : cellsAtB W b = true) : abs1 W (.slice (some ⟨b, o, none⟩) n c) = .slice (some ⟨b, o, none⟩) n (2 * c) := by
  cases c with
  | zero => exact absurd rfl hc
  | succ c => simp only [abs1, h, if_true]
theorem mirror_row {b : Nat} {C : Array Value} {el : TypeId} {fz : Nat × Nat} (h : W.heap[b]? = some (.cells C el fz)) : (mirror W).get b = some (.row (C.toList.map (abs1 W)) el true) := by
  rw [mirror_get, mirO, h]
theorem slice_reads {t e : TypeId} {k : IntKind} (ht : Pz.underlying t = some (.slice e)) (he : Pz.underlying e = some (.int k)) (hc : Pz.cellsOf e = 1) (h0 : cellsAtB W 0 = true)
    (h : DataW.trod enc Pz W 0 (fun _ => true) held fuel t cs = some x) : ∃ v xs, cs = [v] ∧ Ints (mirror W) k (abs1 W v) xs ∧ (∀ n ∈ xs, (Lit.int k n).wf = true) := by
  rcases ChangeShapes.open_ints ht he hc h with ⟨rfl, _⟩ | ⟨a, len, cap, zs, rfl, _, hl, hm, hz, _, hcell, hwf⟩
  · exact ⟨_, [], rfl, Ints.nil, fun n hn => by cases hn⟩
  · refine ⟨_, zs.take len, rfl, ?_, fun n hn => hwf n (List.mem_of_mem_take hn)⟩
    simp only [if_true] at hz
    by_cases hcap : cap = 0
    · subst hcap
      have : len = 0 := by omega
      subst this
      unfold cellsAtB at h0
      split at h0
      · rename_i C el fz hh
        refine .inr ⟨0, 0, 0, _, el, true, by simp [abs1], by simp, mirror_row hh, fun h => (by cases h), fun i hi => (by simp at hi)⟩
      · cases h0
    · obtain ⟨b, off, rfl, hcc⟩ := ints_at hcell (by omega)
      have hcl : cellsAtB W b = true ∧ ∃ C el fz, W.heap[b]? = some (.cells C el fz) := by
        have := hcc 0 (by omega)
        unfold World.cell? at this
        unfold cellsAtB
        dsimp only at this
        split at this
        · rename_i C el fz hh
          rw [hh]; exact ⟨rfl, C, el, fz, rfl⟩
        · cases this
      obtain ⟨hb, C, el, fz, hh⟩ := hcl
      have hlen : (zs.take len).length = len := by simp; omega
      refine .inr ⟨b, off, 2 * cap, _, el, true, ?_, ?_, mirror_row hh, fun h => (by rw [exact2] at h; cases h), fun i hi => ?_⟩
      · rw [hlen]; exact abs1_slice hcap hb
      · rw [hlen]; show len ≤ 2 * cap / 2; omega
      · have hi' : i < zs.length := by omega
        have := hcc i hi'
        unfold World.cell? at this
        dsimp only at this
        rw [hh] at this
        simp only [Option.isSome_none, Bool.false_eq_true, if_false] at this
        rw [List.getElem?_map, Array.getElem?_toList, this]
        simp only [Option.map_some, abs1, List.getElem_take]
        rw [List.getD_eq_getElem?_getD, List.getElem?_eq_getElem hi']; rfl
theorem one_of {l : List Value} {n : Nat} {v : Value} {L : List Value} (hL : l = L) (h : (L.drop n).take 1 = [v]) : l[n]? = some v := by
  subst hL; exact WideShapes.cell_of_cut h
theorem list4 {l : List Value} (h : l.length = 4) : ∃ a b c d, l = [a, b, c, d] := by
  match l, h with
  | [a, b, c, d], _ => exact ⟨a, b, c, d, rfl⟩
theorem list10 {l : List Value} (h : l.length = 10) : ∃ a b c d e f g i j k, l = [a, b, c, d, e, f, g, i, j, k] := by
  match l, h with
  | [a, b, c, d, e, f, g, i, j, k], _ => exact ⟨a, b, c, d, e, f, g, i, j, k, rfl⟩
theorem struct_field {fs : Array Field} {n : Nat} {cs : List Value} {xs : List (DataW H × List MemPlace)} (hf : ∀ (i : Nat) (f : Field), fs[i]? = some f → DataW.trod enc Pz W 0 (fun _ => true) held n f.type ((cs.drop f.offset).take (Pz.cellsOf f.type)) = xs[i]?) (i t o : Nat)
    (hh : ((fs[i]?).map fun f => (f.type, f.offset)) = some (t, o)) : DataW.trod enc Pz W 0 (fun _ => true) held n t ((cs.drop o).take (Pz.cellsOf t)) = xs[i]? := by
  rw [Option.map_eq_some_iff] at hh
  obtain ⟨f, h1, h2⟩ := hh
  cases h2
  exact hf i f h1
/-- A verdict reads: three numbers and a slice. -/
theorem vd_reads (h0 : cellsAtB W 0 = true) (h : DataW.trod enc Pz W 0 (fun _ => true) held fuel 36 cs = some x) : ∃ (d : Vd) (vs : Value), cs.map (abs1 W) = d.cells vs ∧ Ints (mirror W) .i64 vs d.sched := by
  obtain ⟨xs, n, rfl, _, hl, hxl, hf⟩ := DataW.trod_struct (show Pz.underlying 36 = _ from Go.Proofs.Tryz.underlying36) h
  have hl4 : cs.length = 4 := by rw [hl]; kernel_rfl
  have hx4 : xs.length = 4 := hxl
  obtain ⟨c0, c1, c2, c3, rfl⟩ := list4 hl4
  have s1 : Pz.cellsOf 3 = 1 := by kernel_rfl
  have s34 : Pz.cellsOf 34 = 1 := by kernel_rfl
  have k0 := struct_field hf 0 3 0 rfl
  have k1 := struct_field hf 1 3 1 rfl
  have k2 := struct_field hf 2 3 2 rfl
  have k3 := struct_field hf 3 34 3 rfl
  rw [s1] at k0 k1 k2
  rw [s34] at k3
  rw [List.getElem?_eq_getElem (by omega)] at k0 k1 k2 k3
  obtain ⟨n0, e0, _, _⟩ := DataW.trod_int (show Pz.underlying 3 = _ from Go.Proofs.Tryz.underlying3) k0
  obtain ⟨n1, e1, _, _⟩ := DataW.trod_int (show Pz.underlying 3 = _ from Go.Proofs.Tryz.underlying3) k1
  obtain ⟨n2, e2, _, _⟩ := DataW.trod_int (show Pz.underlying 3 = _ from Go.Proofs.Tryz.underlying3) k2
  obtain ⟨v, zs, e3, hI, _⟩ := slice_reads (show Pz.underlying 34 = _ from Go.Proofs.Tryz.underlying34) (show Pz.underlying 3 = _ from Go.Proofs.Tryz.underlying3) s1 h0 k3
  simp only [List.drop_zero, List.drop_succ_cons, List.take_succ_cons, List.take_zero, List.cons.injEq, and_true] at e0 e1 e2 e3
  subst e0 e1 e2 e3
  exact ⟨⟨n0, n1, n2, zs⟩, abs1 W c3, rfl, hI⟩
theorem fd_reads (h0 : cellsAtB W 0 = true) (h : DataW.trod enc Pz W 0 (fun _ => true) held fuel 38 cs = some x) : ∃ (f : Fd) (va vb vc vs : Value), cs.map (abs1 W) = f.cells va vb vc vs ∧ FAt (mirror W) f va vb vc vs := by
  obtain ⟨xs, n, rfl, _, hl, hxl, hf⟩ := DataW.trod_struct (show Pz.underlying 38 = _ from Go.Proofs.Tryz.underlying38) h
  have hl10 : cs.length = 10 := by rw [hl]; kernel_rfl
  have hx7 : xs.length = 7 := hxl
  obtain ⟨c0, c1, c2, c3, c4, c5, c6, c7, c8, c9, rfl⟩ := list10 hl10
  have s1 : Pz.cellsOf 3 = 1 := by kernel_rfl
  have s34 : Pz.cellsOf 34 = 1 := by kernel_rfl
  have s36 : Pz.cellsOf 36 = 4 := by kernel_rfl
  have k0 := struct_field hf 0 34 0 rfl
  have k1 := struct_field hf 1 34 1 rfl
  have k2 := struct_field hf 2 34 2 rfl
  have k3 := struct_field hf 3 3 3 rfl
  have k4 := struct_field hf 4 3 4 rfl
  have k5 := struct_field hf 5 3 5 rfl
  have k6 := struct_field hf 6 36 6 rfl
  rw [s34] at k0 k1 k2
  rw [s1] at k3 k4 k5
  rw [s36] at k6
  rw [List.getElem?_eq_getElem (by omega)] at k0 k1 k2 k3 k4 k5 k6
  obtain ⟨v0, z0, e0, i0, _⟩ := slice_reads (show Pz.underlying 34 = _ from Go.Proofs.Tryz.underlying34) (show Pz.underlying 3 = _ from Go.Proofs.Tryz.underlying3) s1 h0 k0
  obtain ⟨v1, z1, e1, i1, _⟩ := slice_reads (show Pz.underlying 34 = _ from Go.Proofs.Tryz.underlying34) (show Pz.underlying 3 = _ from Go.Proofs.Tryz.underlying3) s1 h0 k1
  obtain ⟨v2, z2, e2, i2, _⟩ := slice_reads (show Pz.underlying 34 = _ from Go.Proofs.Tryz.underlying34) (show Pz.underlying 3 = _ from Go.Proofs.Tryz.underlying3) s1 h0 k2
  obtain ⟨n3, e3, _, _⟩ := DataW.trod_int (show Pz.underlying 3 = _ from Go.Proofs.Tryz.underlying3) k3
  obtain ⟨n4, e4, _, _⟩ := DataW.trod_int (show Pz.underlying 3 = _ from Go.Proofs.Tryz.underlying3) k4
  obtain ⟨n5, e5, _, _⟩ := DataW.trod_int (show Pz.underlying 3 = _ from Go.Proofs.Tryz.underlying3) k5
  obtain ⟨d, vs, e6, i6⟩ := vd_reads h0 k6
  simp only [List.drop_zero, List.drop_succ_cons, List.take_succ_cons, List.take_zero, List.cons.injEq, and_true] at e0 e1 e2 e3 e4 e5 e6
  subst e0 e1 e2 e3 e4 e5
  refine ⟨⟨z0, z1, z2, n3, n4, n5, d⟩, abs1 W c0, abs1 W c1, abs1 W c2, vs, ?_, i0, i1, i2, i6⟩
  show abs1 W c0 :: abs1 W c1 :: abs1 W c2 :: .int .i64 n3 :: .int .i64 n4 :: .int .i64 n5 :: [c6, c7, c8, c9].map (abs1 W) = _
  rw [e6]; rfl
end
end Go.Proofs.YtbbknbmmpkpgdaaGreatDoor.KAb
