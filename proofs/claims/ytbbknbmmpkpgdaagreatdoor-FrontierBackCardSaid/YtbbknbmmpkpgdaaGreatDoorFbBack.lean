/- A frontier read back from its bytes. -/
import Derived.Test.YtbbknbmmpkpgdaaGreatDoorFbWrite
set_option linter.unusedSimpArgs false
set_option linter.unusedVariables false
namespace Go.Proofs.YtbbknbmmpkpgdaaGreatDoor.KAb
def Blk (v : Value) (b : Nat) : Prop := ∃ n c, v = .slice (some ⟨b, 0, none⟩) n c
theorem Own.same {s s' : AS} {k : IntKind} {el : TypeId} {v : Value} {xs : List Int} (h : Own s k el v xs) (hk : ∀ b, Blk v b → s'.get b = s.get b) : Own s' k el v xs := by
  rcases h with ⟨h1, h2⟩ | ⟨b, h1, h2⟩
  · exact .inl ⟨h1, h2⟩
  · exact .inr ⟨b, h1, (hk b ⟨_, _, h1⟩).trans h2⟩
theorem Own.lt {s : AS} {k : IntKind} {el : TypeId} {v : Value} {xs : List Int} (h : Own s k el v xs) (hF : s.F) {b : Nat} (hb : Blk v b) : b < s.next := by
  obtain ⟨n, c, hb⟩ := hb
  rcases h with ⟨h1, h2⟩ | ⟨b', h1, h2⟩
  · rw [h1] at hb; cases hb
  · rw [h1] at hb; cases hb; exact hF.lt h2
theorem blk_nil {b : Nat} : ¬ Blk (.slice none 0 0) b := by rintro ⟨n, c, h⟩; cases h
theorem Own.scal {s : AS} {k : IntKind} {el : TypeId} {v : Value} {xs : List Int} (h : Own s k el v xs) : KAb.scal v = true := by
  rcases h with ⟨rfl, _⟩ | ⟨_, rfl, _⟩ <;> rfl
/-- While a frontier is read. -/
structure M11 (s0 : AS) (b5 : Nat) (s : AS) (xs : List Int) (bad : Bool) (cs : List Value) : Prop where
  rdr : RdAt (s0.next + 2) s (s0.next + 1) xs bad
  F : s.F
  g2 : ∃ zs, s.get s0.next = some (.row zs 38 false) ∧ zs.length = 10
  g5 : s.get b5 = some (.row cs 38 false)
  old : ∀ b, b < s0.next → s.get b = s0.get b
  nx : b5 < s.next
  ge : s0.next + 2 ≤ b5
theorem M11.only {s0 s s' : AS} {b5 : Nat} {xs xs' : List Int} {bad bad' : Bool} {cs : List Value} (h : M11 s0 b5 s xs bad cs) (ho : OnlyAt (s0.next + 1) s s') (hr : RdAt (s0.next + 2) s' (s0.next + 1) xs' bad') : M11 s0 b5 s' xs' bad' cs := by
  have h1 := h.nx
  have h2 := h.ge
  obtain ⟨zs, hz, hz2⟩ := h.g2
  exact ⟨hr, ho.F h.F (by omega), ⟨zs, (ho.2 _ (by omega)).trans hz, hz2⟩, (ho.2 _ (by omega)).trans h.g5, fun b hb => (ho.2 _ (by omega)).trans (h.old b hb), by rw [ho.1]; exact h1, h2⟩
/-- What is newer is not minded. -/
theorem M11.step {s0 s s' : AS} {b5 : Nat} {xs : List Int} {bad : Bool} {cs : List Value} (h : M11 s0 b5 s xs bad cs) (hF : s'.F) (hn : s.next ≤ s'.next) (hs : ∀ b, b ≤ b5 → (b < s0.next + 2 ∨ b = b5) → s'.get b = s.get b) : M11 s0 b5 s' xs bad cs := by
  have h1 := h.nx
  have h2 := h.ge
  obtain ⟨zs, hz, hz2⟩ := h.g2
  obtain ⟨vb, el, k1, k2, k3⟩ := h.rdr
  refine ⟨⟨vb, el, (hs _ (by omega) (by omega)).trans k1, k2.keep fun b off n c hv => hs _ (by have := (k3 b off n c hv).2; omega) (by have := (k3 b off n c hv).2; omega), k3⟩, hF, ⟨zs, (hs _ (by omega) (by omega)).trans hz, hz2⟩, (hs _ (by omega) (by omega)).trans h.g5, fun b hb => (hs _ (by omega) (by omega)).trans (h.old b hb), by omega, h2⟩
theorem M11.num {s0 s : AS} {b5 : Nat} {xs : List Int} {bad : Bool} {cs : List Value} (h : M11 s0 b5 s xs bad cs) {lf n most : Nat} (hn : 2 ≤ n) (hb : Bytes xs) (hlen : xs.length < 1000000000) (hmost : most < 9223372036854775808) (hlf : 1000000000 ≤ lf) :
    ∃ s', (aCall Pz masks lf n).call 48 [.pointer (some ⟨s0.next + 1, 0, none⟩), .int .i64 (most : Int)] s = .ret (.int .i64 ((numF most xs bad).1 : Int)) s' ∧ M11 s0 b5 s' (numF most xs bad).2.1 (numF most xs bad).2.2 cs ∧ OnlyAt (s0.next + 1) s s' := by
  obtain ⟨x, s', h1, rfl, h2, h3⟩ := (number_ok (B := s0.next + 2) hn h.rdr hb hlen hmost hlf).inv
  exact ⟨s', h1, h.only h3 h2, h3⟩
theorem M11.push {s0 s : AS} {b5 : Nat} {xs : List Int} {bad : Bool} {cs : List Value} (h : M11 s0 b5 s xs bad cs) {v : Value} {zs : List Int} (ho : Own s .i64 3 v zs) (hv : ∀ b, Blk v b → b5 < b) (z : Int) (hl : zs.length + 1 ≤ 1000000000) :
    ∃ v' s', appendV 1 3 v (.slice (some ⟨s.next, 0, none⟩) 1 2) (s.new (.row [.int .i64 z] 3 false)) = .val v' s' ∧ Own s' .i64 3 v' (zs ++ [z]) ∧ M11 s0 b5 s' xs bad cs ∧ M11 s0 b5 (s.new (.row [.int .i64 z] 3 false)) xs bad cs ∧ (∀ b, Blk v' b → s.next ≤ b) ∧ s.next ≤ s'.next ∧ ∀ b, b < s.next → ¬ Blk v b → s'.get b = s.get b := by
  have h1 := h.nx
  have h2 := h.ge
  obtain ⟨v', s', a1, a2, a3, a4, a5, a6⟩ := own_push ho z hl h.F
  have a6' : ∀ b, b < s.next → ¬ Blk v b → s'.get b = s.get b := fun b hb hn => a6 b hb fun n c e => hn ⟨n, c, e⟩
  exact ⟨v', s', a1, a2, h.step a3 a5 (fun b hb _ => a6' b (by omega) fun hk => by have := hv b hk; omega), h.step (h.F.new _) (Nat.le_succ _) (fun b hb _ => new_ne s _ (by omega)), fun b ⟨n, c, e⟩ => a4 b n c e, a5, a6'⟩
theorem M11.put {s0 s : AS} {b5 : Nat} {xs : List Int} {bad : Bool} {cs : List Value} (h : M11 s0 b5 s xs bad cs) (cs' : List Value) : M11 s0 b5 (s.put b5 (.row cs' 38 false)) xs bad cs' := by
  have h1 := h.nx
  have h2 := h.ge
  obtain ⟨zs, hz, hz2⟩ := h.g2
  exact ⟨h.rdr.put _ (by omega) (by omega), h.F.put h1 _, ⟨zs, (put_ne _ _ (by omega)).trans hz, hz2⟩, put_get _ _ _, fun b hb => (put_ne _ _ (by omega)).trans (h.old b hb), h1, h2⟩
/-- The three slices and the schedule of what is being read. -/
structure J11 (s0 : AS) (b5 : Nat) (s : AS) (xs : List Int) (bad : Bool) (f : Fd) (va vb vc vs : Value) : Prop where
  m : M11 s0 b5 s xs bad (f.cells va vb vc vs)
  oa : Own s .i64 3 va f.a
  ob : Own s .i64 3 vb f.b
  oc : Own s .i64 3 vc f.c
  od : Own s .i64 3 vs f.d.sched
  fa : ∀ b, Blk va b → b5 < b
  fb : ∀ b, Blk vb b → b5 < b
  fc : ∀ b, Blk vc b → b5 < b
  fd : ∀ b, Blk vs b → s0.next + 2 ≤ b ∧ b < b5
  dab : ∀ b, Blk va b → ¬ Blk vb b
  dac : ∀ b, Blk va b → ¬ Blk vc b
  dbc : ∀ b, Blk vb b → ¬ Blk vc b
theorem J11.only {s0 s s' : AS} {b5 : Nat} {xs xs' : List Int} {bad bad' : Bool} {f : Fd} {va vb vc vs : Value} (h : J11 s0 b5 s xs bad f va vb vc vs) (ho : OnlyAt (s0.next + 1) s s') (hm : M11 s0 b5 s' xs' bad' (f.cells va vb vc vs)) : J11 s0 b5 s' xs' bad' f va vb vc vs := by
  have h2 := h.m.ge
  exact ⟨hm, h.oa.same fun b hb => ho.2 b (by have := h.fa b hb; omega), h.ob.same fun b hb => ho.2 b (by have := h.fb b hb; omega), h.oc.same fun b hb => ho.2 b (by have := h.fc b hb; omega), h.od.same fun b hb => ho.2 b (by have := h.fd b hb; omega), h.fa, h.fb, h.fc, h.fd, h.dab, h.dac, h.dbc⟩
theorem J11.num {s0 s : AS} {b5 : Nat} {xs : List Int} {bad : Bool} {f : Fd} {va vb vc vs : Value} (h : J11 s0 b5 s xs bad f va vb vc vs) {lf n most : Nat} (hn : 2 ≤ n) (hb : Bytes xs) (hlen : xs.length < 1000000000) (hmost : most < 9223372036854775808) (hlf : 1000000000 ≤ lf) :
    ∃ s', (aCall Pz masks lf n).call 48 [.pointer (some ⟨s0.next + 1, 0, none⟩), .int .i64 (most : Int)] s = .ret (.int .i64 ((numF most xs bad).1 : Int)) s' ∧ J11 s0 b5 s' (numF most xs bad).2.1 (numF most xs bad).2.2 f va vb vc vs := by
  obtain ⟨s', h1, h2, h3⟩ := h.m.num (lf := lf) (n := n) hn hb hlen hmost hlf
  exact ⟨s', h1, h.only h3 h2⟩
/-- Storing numbers in it. -/
theorem J11.set {s0 s : AS} {b5 : Nat} {xs : List Int} {bad : Bool} {f f' : Fd} {va vb vc vs : Value} (h : J11 s0 b5 s xs bad f va vb vc vs) {cs : List Value} (hc : cs = f'.cells va vb vc vs) (ha : f'.a = f.a) (hb : f'.b = f.b) (hcc : f'.c = f.c) (hd : f'.d = f.d) : J11 s0 b5 (s.put b5 (.row cs 38 false)) xs bad f' va vb vc vs := by
  have p : ∀ b, b ≠ b5 → (s.put b5 (.row cs 38 false)).get b = s.get b := fun b hb => put_ne s _ hb
  refine ⟨hc ▸ h.m.put _, ha ▸ h.oa.same fun b hb => p b (by have := h.fa b hb; omega), hb ▸ h.ob.same fun b hb => p b (by have := h.fb b hb; omega), hcc ▸ h.oc.same fun b hb => p b (by have := h.fc b hb; omega), hd ▸ h.od.same fun b hb => p b (by have := h.fd b hb; omega), h.fa, h.fb, h.fc, h.fd, h.dab, h.dac, h.dbc⟩
/-- So many triples. -/
def tripF : Nat → List Int → Bool → List Int × List Int × List Int × List Int × Bool
  | 0, xs, bad => ([], [], [], xs, bad)
  | i + 1, xs, bad => if bad = true then ([], [], [], xs, bad) else
    let p := numF 15 xs bad
    let q := numF 65535 p.2.1 p.2.2
    let r := numF 65535 q.2.1 q.2.2
    let t := tripF i r.2.1 r.2.2
    (p.1 :: t.1, q.1 :: t.2.1, r.1 :: t.2.2.1, t.2.2.2.1, t.2.2.2.2)
end Go.Proofs.YtbbknbmmpkpgdaaGreatDoor.KAb
namespace Go.Proofs.YtbbknbmmpkpgdaaGreatDoor.KAb
theorem M11.l {s0 s : AS} {b5 : Nat} {xs : List Int} {bad : Bool} {va vb vc : Value} {r : List Value} (h : M11 s0 b5 s xs bad (va :: vb :: vc :: r)) : load1 (.pointer (some ⟨b5, 0, none⟩)) s = .ok va ∧ load1 (.pointer (some ⟨b5, 1, none⟩)) s = .ok vb ∧ load1 (.pointer (some ⟨b5, 2, none⟩)) s = .ok vc :=
  ⟨load1_of h.g5 rfl, load1_of h.g5 rfl, load1_of h.g5 rfl⟩
theorem tripF_succ (i : Nat) (xs : List Int) : tripF (i + 1) xs false = (((((numF 15 xs false).1 : Nat) : Int) :: (tripF i (numF 65535 (numF 65535 (numF 15 xs false).2.1 (numF 15 xs false).2.2).2.1 (numF 65535 (numF 15 xs false).2.1 (numF 15 xs false).2.2).2.2).2.1 (numF 65535 (numF 65535 (numF 15 xs false).2.1 (numF 15 xs false).2.2).2.1 (numF 65535 (numF 15 xs false).2.1 (numF 15 xs false).2.2).2.2).2.2).1),
  ((((numF 65535 (numF 15 xs false).2.1 (numF 15 xs false).2.2).1 : Nat) : Int) :: (tripF i (numF 65535 (numF 65535 (numF 15 xs false).2.1 (numF 15 xs false).2.2).2.1 (numF 65535 (numF 15 xs false).2.1 (numF 15 xs false).2.2).2.2).2.1 (numF 65535 (numF 65535 (numF 15 xs false).2.1 (numF 15 xs false).2.2).2.1 (numF 65535 (numF 15 xs false).2.1 (numF 15 xs false).2.2).2.2).2.2).2.1),
  ((((numF 65535 (numF 65535 (numF 15 xs false).2.1 (numF 15 xs false).2.2).2.1 (numF 65535 (numF 15 xs false).2.1 (numF 15 xs false).2.2).2.2).1 : Nat) : Int) :: (tripF i (numF 65535 (numF 65535 (numF 15 xs false).2.1 (numF 15 xs false).2.2).2.1 (numF 65535 (numF 15 xs false).2.1 (numF 15 xs false).2.2).2.2).2.1 (numF 65535 (numF 65535 (numF 15 xs false).2.1 (numF 15 xs false).2.2).2.1 (numF 65535 (numF 15 xs false).2.1 (numF 15 xs false).2.2).2.2).2.2).2.2.1),
  (tripF i (numF 65535 (numF 65535 (numF 15 xs false).2.1 (numF 15 xs false).2.2).2.1 (numF 65535 (numF 15 xs false).2.1 (numF 15 xs false).2.2).2.2).2.1 (numF 65535 (numF 65535 (numF 15 xs false).2.1 (numF 15 xs false).2.2).2.1 (numF 65535 (numF 15 xs false).2.1 (numF 15 xs false).2.2).2.2).2.2).2.2.2) := rfl
set_option maxRecDepth 100000 in
theorem loop11 {lf n : Nat} (hn : 2 ≤ n) (hlf : 1000000000 ≤ lf) {s0 : AS} {b5 : Nat} {f : Fd} {vs : Value} : ∀ (i : Nat) (s : AS) (xs : List Int) (bad : Bool) (a b c : List Int) (va vb vc : Value) (v l : L) (fuel : Nat), i < fuel → i ≤ 1048577 → J11 s0 b5 s xs bad { f with a := a, b := b, c := c } va vb vc vs → Bytes xs → xs.length < 1000000000 → a.length + i < 900000000 → b.length + i < 900000000 → c.length + i < 900000000 →
    lkL 2 v poison = .pointer (some ⟨s0.next, 0, none⟩) → lkL 4 v poison = .pointer (some ⟨s0.next + 1, 0, none⟩) → lkL 5 v poison = .pointer (some ⟨b5, 0, none⟩) → lkL 6 v poison = .int .i64 (i : Int) →
    (iterK (l11_9 lf (aCall Pz masks lf n)) fuel v l [] s).P fun e v ds s => match e with
      | .exit 0 => ds = [] ∧ lkL 2 v poison = .pointer (some ⟨s0.next, 0, none⟩) ∧ lkL 4 v poison = .pointer (some ⟨s0.next + 1, 0, none⟩) ∧ lkL 5 v poison = .pointer (some ⟨b5, 0, none⟩) ∧
          ∃ va vb vc, J11 s0 b5 s (tripF i xs bad).2.2.2.1 (tripF i xs bad).2.2.2.2 { f with a := a ++ (tripF i xs bad).1, b := b ++ (tripF i xs bad).2.1, c := c ++ (tripF i xs bad).2.2.1 } va vb vc vs
      | _ => False := by
  intro i
  induction i with
  | zero =>
    intro s xs bad a b c va vb vc v l fuel hf _ hJ hb hlen ha hbl hc h2 h4 h5 h6
    obtain ⟨fuel, rfl⟩ : ∃ m, fuel = m + 1 := ⟨fuel - 1, by omega⟩
    rewrite [iter_succ, l11_9]
    have e : ¬ (0 : Int) < ((0 : Nat) : Int) := by omega
    simp -implicitDefEqProofs only [bV_ok, bC_ret, bA_val, bA_enter, bDC_ret, bDA_val, bDA_enter, guard_b, guard_undef, seq_normal, seq_exit, seq_ret, seq_panic, cond_b, block_normal, block_exit, block_ret, block_panic, lkL_cons, lkL_setL, Nat.reduceEqDiff, if_true, if_false, ↓reduceIte, decide_true, decide_false, Bool.true_eq_false, Bool.false_eq_true, bin_add, bin_sub, bin_mul, bin_and, bin_or, bin_eql, bin_neq, bin_lss, bin_leq, bin_gtr, bin_geq, un_not, pick_b, len_slice, nilc, fieldA, conv_int, P_normal, P_ret, P_exit, ne_eq, not_true_eq_false, not_false_eq_true, Bool.not_true, Bool.not_false, true_and, and_true, q11_0_0, q11_0_1, q11_0_2, q11_1_0, q11_1_5, q11_2_0, q11_2_4, q11_2_5, q11_3_0, q11_3_1, q11_3_2, q11_3_3, q11_3_4, q11_3_5, q11_3_6, q11_3_7, q11_3_8, q11_3_9, q11_3_10, q11_3_11, q11_3_12, q11_4_0, q11_4_4, q11_5_0, q11_5_5, q11_6_0, q11_6_3, q11_6_4, q11_6_5, q11_6_6, q11_6_7, q11_6_8, q11_6_9, q11_6_10, q11_7_0, q11_7_1, q11_7_2, q11_7_3, q11_7_4, q11_7_5, q11_7_6, q11_7_7, q11_7_8, q11_7_9, q11_7_10, q11_7_11, q11_7_12, q11_7_13, q11_7_14, q11_7_15, q11_7_16, q11_7_17, q11_7_18, q11_7_19, q11_7_20, q11_7_21, q11_7_22, q11_7_23, q11_7_24, q11_7_25, q11_7_26, q11_7_27, q11_7_28, q11_7_29, q11_7_30, q11_8_0, q11_8_3, q11_10_0, q11_10_6, q11_11_0, q11_11_4, q11_11_5, q11_11_6, q11_11_7, q11_11_8, q11_12_0, q11_12_3, q11_13_0, q11_13_3, h4, h6, e]
    exact ⟨h2, h5, va, vb, vc, by simpa [tripF] using hJ⟩
  | succ i ih =>
    intro s xs bad a b c va vb vc v l fuel hf hi hJ hb hlen ha hbl hcl h2 h4 h5 h6
    obtain ⟨fuel, rfl⟩ : ∃ m, fuel = m + 1 := ⟨fuel - 1, by omega⟩
    rewrite [iter_succ, l11_9]
    have e : (0 : Int) < ((i + 1 : Nat) : Int) := by omega
    obtain ⟨wb, wel, wg, wI, wne⟩ := hJ.m.rdr
    have hbad : load1 (.pointer (some ⟨s0.next + 1, 1, none⟩)) s = .ok (.bool bad) := load1_of wg rfl
    cases bad with
    | true =>
      simp -implicitDefEqProofs only [bV_ok, bC_ret, bA_val, bA_enter, bDC_ret, bDA_val, bDA_enter, guard_b, guard_undef, seq_normal, seq_exit, seq_ret, seq_panic, cond_b, block_normal, block_exit, block_ret, block_panic, lkL_cons, lkL_setL, Nat.reduceEqDiff, if_true, if_false, ↓reduceIte, decide_true, decide_false, Bool.true_eq_false, Bool.false_eq_true, bin_add, bin_sub, bin_mul, bin_and, bin_or, bin_eql, bin_neq, bin_lss, bin_leq, bin_gtr, bin_geq, un_not, pick_b, len_slice, nilc, fieldA, conv_int, P_normal, P_ret, P_exit, ne_eq, not_true_eq_false, not_false_eq_true, Bool.not_true, Bool.not_false, true_and, and_true, q11_0_0, q11_0_1, q11_0_2, q11_1_0, q11_1_5, q11_2_0, q11_2_4, q11_2_5, q11_3_0, q11_3_1, q11_3_2, q11_3_3, q11_3_4, q11_3_5, q11_3_6, q11_3_7, q11_3_8, q11_3_9, q11_3_10, q11_3_11, q11_3_12, q11_4_0, q11_4_4, q11_5_0, q11_5_5, q11_6_0, q11_6_3, q11_6_4, q11_6_5, q11_6_6, q11_6_7, q11_6_8, q11_6_9, q11_6_10, q11_7_0, q11_7_1, q11_7_2, q11_7_3, q11_7_4, q11_7_5, q11_7_6, q11_7_7, q11_7_8, q11_7_9, q11_7_10, q11_7_11, q11_7_12, q11_7_13, q11_7_14, q11_7_15, q11_7_16, q11_7_17, q11_7_18, q11_7_19, q11_7_20, q11_7_21, q11_7_22, q11_7_23, q11_7_24, q11_7_25, q11_7_26, q11_7_27, q11_7_28, q11_7_29, q11_7_30, q11_8_0, q11_8_3, q11_10_0, q11_10_6, q11_11_0, q11_11_4, q11_11_5, q11_11_6, q11_11_7, q11_11_8, q11_12_0, q11_12_3, q11_13_0, q11_13_3, h4, h6, e, Nat.zero_add, hbad]
      exact ⟨h2, h5, va, vb, vc, by simpa [tripF] using hJ⟩
    | false =>
      have hge := hJ.m.ge
      have hs := tripF_succ i xs
      obtain ⟨s1, c1, J1⟩ := hJ.num (lf := lf) (n := n) hn hb hlen (most := 15) (by omega) hlf
      have hb1 : Bytes (numF 15 xs false).2.1 := numF_bytes hb
      have hl1 : (numF 15 xs false).2.1.length < 1000000000 := Nat.lt_of_le_of_lt numF_len hlen
      have c1' : (aCall Pz masks lf n).call 48 [.pointer (some ⟨s0.next + 1, 0, none⟩), .int .i64 15] s = .ret (.int .i64 ((numF 15 xs false).1 : Int)) s1 := c1
      generalize numF 15 xs false = p at *
      obtain ⟨w1, s2, a1, o1, m2, m1n, f1, n1, k1⟩ := J1.m.push J1.oa J1.fa (p.1 : Int) (by show a.length + 1 ≤ _; omega)
      obtain ⟨s3, c2, m3, t3⟩ := m2.num (lf := lf) (n := n) hn hb1 hl1 (most := 65535) (by omega) hlf
      have hb2 : Bytes (numF 65535 p.2.1 p.2.2).2.1 := numF_bytes hb1
      have hl2 : (numF 65535 p.2.1 p.2.2).2.1.length < 1000000000 := Nat.lt_of_le_of_lt numF_len hl1
      have c2' : (aCall Pz masks lf n).call 48 [.pointer (some ⟨s0.next + 1, 0, none⟩), .int .i64 65535] s2 = .ret (.int .i64 ((numF 65535 p.2.1 p.2.2).1 : Int)) s3 := c2
      generalize numF 65535 p.2.1 p.2.2 = q at *
      -- what stays in s3
      have lta : ∀ b, Blk va b → b < s1.next := fun b h => J1.oa.lt J1.m.F h
      have ltb : ∀ b, Blk vb b → b < s1.next := fun b h => J1.ob.lt J1.m.F h
      have ltc : ∀ b, Blk vc b → b < s1.next := fun b h => J1.oc.lt J1.m.F h
      have lts : ∀ b, Blk vs b → b < s1.next := fun b h => J1.od.lt J1.m.F h
      have nb : b5 < s1.next := J1.m.nx
      have ob3 : Own s3 .i64 3 vb b := (J1.ob.same fun b h => k1 b (ltb b h) fun h' => J1.dab b h' h).same fun b h => t3.2 b (by have := J1.fb b h; omega)
      have oc3 : Own s3 .i64 3 vc c := (J1.oc.same fun b h => k1 b (ltc b h) fun h' => J1.dac b h' h).same fun b h => t3.2 b (by have := J1.fc b h; omega)
      have od3 : Own s3 .i64 3 vs f.d.sched := (J1.od.same fun b h => k1 b (lts b h) fun h' => by have := J1.fa b h'; have := J1.fd b h; omega).same fun b h => t3.2 b (by have := J1.fd b h; omega)
      have o13 : Own s3 .i64 3 w1 (a ++ [(p.1 : Int)]) := o1.same fun b h => t3.2 b (by have := f1 b h; omega)
      have n3 : s3.next = s2.next := t3.1
      obtain ⟨w2, s4, a2, o2, m4, m3n, f2, n2, k2⟩ := m3.push ob3 J1.fb (q.1 : Int) (by omega)
      obtain ⟨s5, c3, m5, t5⟩ := m4.num (lf := lf) (n := n) hn hb2 hl2 (most := 65535) (by omega) hlf
      have hb3 : Bytes (numF 65535 q.2.1 q.2.2).2.1 := numF_bytes hb2
      have hl3 : (numF 65535 q.2.1 q.2.2).2.1.length < 1000000000 := Nat.lt_of_le_of_lt numF_len hl2
      have c3' : (aCall Pz masks lf n).call 48 [.pointer (some ⟨s0.next + 1, 0, none⟩), .int .i64 65535] s4 = .ret (.int .i64 ((numF 65535 q.2.1 q.2.2).1 : Int)) s5 := c3
      generalize numF 65535 q.2.1 q.2.2 = r at *
      have lt13 : ∀ b, Blk w1 b → b < s3.next := fun b h => o13.lt m3.F h
      have oc5 : Own s5 .i64 3 vc c := (oc3.same fun b h => k2 b (oc3.lt m3.F h) fun h' => J1.dbc b h' h).same fun b h => t5.2 b (by have := J1.fc b h; omega)
      have od5 : Own s5 .i64 3 vs f.d.sched := (od3.same fun b h => k2 b (od3.lt m3.F h) fun h' => by have := J1.fb b h'; have := J1.fd b h; omega).same fun b h => t5.2 b (by have := J1.fd b h; omega)
      have o15 : Own s5 .i64 3 w1 (a ++ [(p.1 : Int)]) := (o13.same fun b h => k2 b (lt13 b h) fun h' => by have := ltb b h'; have := f1 b h; omega).same fun b h => t5.2 b (by have := f1 b h; omega)
      have o25 : Own s5 .i64 3 w2 (b ++ [(q.1 : Int)]) := o2.same fun b h => t5.2 b (by have := f2 b h; omega)
      have n5 : s5.next = s4.next := t5.1
      obtain ⟨w3, s6, a3, o3, m6, m5n, f3, n6, k3⟩ := m5.push oc5 J1.fc (r.1 : Int) (by omega)
      have od6 : Own s6 .i64 3 vs f.d.sched := od5.same fun b h => k3 b (od5.lt m5.F h) fun h' => by have := J1.fc b h'; have := J1.fd b h; omega
      have o16 : Own s6 .i64 3 w1 (a ++ [(p.1 : Int)]) := o15.same fun b h => k3 b (o15.lt m5.F h) fun h' => by have := ltc b h'; have := f1 b h; omega
      have o26 : Own s6 .i64 3 w2 (b ++ [(q.1 : Int)]) := o25.same fun b h => k3 b (o25.lt m5.F h) fun h' => by have := ltc b h'; have := f2 b h; omega
      have hbs1 : doBuildSlice 3 1 1 (zerosK [.int .i64 0] 1) [(0, .int .i64 (p.1 : Int))] s1 = .val (.slice (some ⟨s1.next, 0, none⟩) 1 2) (s1.new (.row [.int .i64 (p.1 : Int)] 3 false)) := rfl
      have hbs2 : doBuildSlice 3 1 1 (zerosK [.int .i64 0] 1) [(0, .int .i64 (q.1 : Int))] s3 = .val (.slice (some ⟨s3.next, 0, none⟩) 1 2) (s3.new (.row [.int .i64 (q.1 : Int)] 3 false)) := rfl
      have hbs3 : doBuildSlice 3 1 1 (zerosK [.int .i64 0] 1) [(0, .int .i64 (r.1 : Int))] s5 = .val (.slice (some ⟨s5.next, 0, none⟩) 1 2) (s5.new (.row [.int .i64 (r.1 : Int)] 3 false)) := rfl
      have st0 := store1 (o := 0) (u := w1) m6.g5 (by simp [Fd.cells]) o16.scal
      have m7 := m6.put ((({ f with a := a, b := b, c := c } : Fd).cells va vb vc vs).set 0 w1)
      have st1 := store1 (o := 1) (u := w2) m7.g5 (by simp [Fd.cells]) o26.scal
      have m8 := m7.put (((({ f with a := a, b := b, c := c } : Fd).cells va vb vc vs).set 0 w1).set 1 w2)
      have st2 := store1 (o := 2) (u := w3) m8.g5 (by simp [Fd.cells]) o3.scal
      have m9 := m8.put ((((({ f with a := a, b := b, c := c } : Fd).cells va vb vc vs).set 0 w1).set 1 w2).set 2 w3)
      have sorry0 : True := trivial
      have p9 : ∀ bb, bb ≠ b5 → (((s6.put b5 (.row ((({ f with a := a, b := b, c := c } : Fd).cells va vb vc vs).set 0 w1) 38 false)).put b5 (.row (((({ f with a := a, b := b, c := c } : Fd).cells va vb vc vs).set 0 w1).set 1 w2) 38 false)).put b5 (.row ((((({ f with a := a, b := b, c := c } : Fd).cells va vb vc vs).set 0 w1).set 1 w2).set 2 w3) 38 false)).get bb = s6.get bb := fun b h => (put_ne _ _ h).trans ((put_ne _ _ h).trans (put_ne _ _ h))
      obtain ⟨g00, g01, g02⟩ := hJ.m.l
      obtain ⟨g10, g11, g12⟩ := J1.m.l
      obtain ⟨gn0, gn1, gn2⟩ := m1n.l
      obtain ⟨g20, g21, g22⟩ := m2.l
      obtain ⟨g30, g31, g32⟩ := m3.l
      obtain ⟨gm0, gm1, gm2⟩ := m3n.l
      obtain ⟨g40, g41, g42⟩ := m4.l
      obtain ⟨g50, g51, g52⟩ := m5.l
      obtain ⟨gk0, gk1, gk2⟩ := m5n.l
      obtain ⟨g60, g61, g62⟩ := m6.l
      have hw := sub_one (i := i) (by omega)
      have va1 := J1.oa.valEq
      have va2 := J1.ob.valEq
      have va3 := J1.oc.valEq
      simp -implicitDefEqProofs only [bV_ok, bC_ret, bA_val, bA_enter, bDC_ret, bDA_val, bDA_enter, guard_b, guard_undef, seq_normal, seq_exit, seq_ret, seq_panic, cond_b, block_normal, block_exit, block_ret, block_panic, lkL_cons, lkL_setL, Nat.reduceEqDiff, if_true, if_false, ↓reduceIte, decide_true, decide_false, Bool.true_eq_false, Bool.false_eq_true, bin_add, bin_sub, bin_mul, bin_and, bin_or, bin_eql, bin_neq, bin_lss, bin_leq, bin_gtr, bin_geq, un_not, pick_b, len_slice, nilc, fieldA, conv_int, P_normal, P_ret, P_exit, ne_eq, not_true_eq_false, not_false_eq_true, Bool.not_true, Bool.not_false, true_and, and_true, q11_0_0, q11_0_1, q11_0_2, q11_1_0, q11_1_5, q11_2_0, q11_2_4, q11_2_5, q11_3_0, q11_3_1, q11_3_2, q11_3_3, q11_3_4, q11_3_5, q11_3_6, q11_3_7, q11_3_8, q11_3_9, q11_3_10, q11_3_11, q11_3_12, q11_4_0, q11_4_4, q11_5_0, q11_5_5, q11_6_0, q11_6_3, q11_6_4, q11_6_5, q11_6_6, q11_6_7, q11_6_8, q11_6_9, q11_6_10, q11_7_0, q11_7_1, q11_7_2, q11_7_3, q11_7_4, q11_7_5, q11_7_6, q11_7_7, q11_7_8, q11_7_9, q11_7_10, q11_7_11, q11_7_12, q11_7_13, q11_7_14, q11_7_15, q11_7_16, q11_7_17, q11_7_18, q11_7_19, q11_7_20, q11_7_21, q11_7_22, q11_7_23, q11_7_24, q11_7_25, q11_7_26, q11_7_27, q11_7_28, q11_7_29, q11_7_30, q11_8_0, q11_8_3, q11_10_0, q11_10_6, q11_11_0, q11_11_4, q11_11_5, q11_11_6, q11_11_7, q11_11_8, q11_12_0, q11_12_3, q11_13_0, q11_13_3, h4, h5, h6, e, Nat.zero_add, hbad, c1', c2', c3', hbs1, hbs2, hbs3, a1, a2, a3, st0, st1, st2, g00, g01, g02, g10, g11, g12, gn0, gn1, gn2, g20, g21, g22, g30, g31, g32, gm0, gm1, gm2, g40, g41, g42, g50, g51, g52, gk0, gk1, gk2, g60, g61, g62, bif_eq, allK_eq, lenK_eq, chkOk, chkAt, dropK_eq, takeK_eq, List.length_cons, List.length_nil, List.all_cons, List.all_nil, Nat.reduceAdd, Nat.reduceSub, Nat.sub_eq, Nat.add_eq, Nat.reduceLeDiff, Nat.ble_eq, List.drop_succ_cons, List.drop_zero, List.take_succ_cons, List.take_zero, Bool.and_true, Bool.true_and, valEq_ptr, valEq_int, valEq_bool, va1, va2, va3, hw]
      have J9 : J11 s0 b5 (((s6.put b5 (.row ((({ f with a := a, b := b, c := c } : Fd).cells va vb vc vs).set 0 w1) 38 false)).put b5 (.row (((({ f with a := a, b := b, c := c } : Fd).cells va vb vc vs).set 0 w1).set 1 w2) 38 false)).put b5 (.row ((((({ f with a := a, b := b, c := c } : Fd).cells va vb vc vs).set 0 w1).set 1 w2).set 2 w3) 38 false)) r.2.1 r.2.2 { f with a := a ++ [(p.1 : Int)], b := b ++ [(q.1 : Int)], c := c ++ [(r.1 : Int)] } w1 w2 w3 vs := by
        have x1 : ∀ b, Blk w1 b → b5 < b := fun b h => by have := f1 b h; omega
        have x2 : ∀ b, Blk w2 b → b5 < b := fun b h => by have := f2 b h; omega
        have x3 : ∀ b, Blk w3 b → b5 < b := fun b h => by have := f3 b h; omega
        refine ⟨m9, o16.same fun b h => p9 b (by have := x1 b h; omega), o26.same fun b h => p9 b (by have := x2 b h; omega), o3.same fun b h => p9 b (by have := x3 b h; omega), od6.same fun b h => p9 b (by have := J1.fd b h; omega), x1, x2, x3, J1.fd, fun b h h' => ?_, fun b h h' => ?_, fun b h h' => ?_⟩
        · have := lt13 b h; have := f2 b h'; omega
        · have := o15.lt m5.F h; have := f3 b h'; omega
        · have := o25.lt m5.F h; have := f3 b h'; omega
      have := fun l => ih _ r.2.1 r.2.2 _ _ _ w1 w2 w3 (setL 6 (.int .i64 (i : Int)) v) l fuel (by omega) (by omega) J9 hb3 hl3 (by simp only [List.length_append, List.length_cons, List.length_nil]; omega) (by simp only [List.length_append, List.length_cons, List.length_nil]; omega) (by simp only [List.length_append, List.length_cons, List.length_nil]; omega) (by simp only [lkL_setL, Nat.reduceEqDiff, if_false, h2]) (by simp only [lkL_setL, Nat.reduceEqDiff, if_false, h4]) (by simp only [lkL_setL, Nat.reduceEqDiff, if_false, h5]) (by simp only [lkL_setL, if_true])
      refine (this _).mono fun e v ds s h => ?_
      match e, h with
      | .exit 0, ⟨q1, q2, q3, q4, va', vb', vc', q5⟩ =>
        refine ⟨q1, q2, q3, q4, va', vb', vc', ?_⟩
        rw [hs]
        simpa using q5
end Go.Proofs.YtbbknbmmpkpgdaaGreatDoor.KAb
namespace Go.Proofs.YtbbknbmmpkpgdaaGreatDoor.KAb
def zeroF : Fd := ⟨[], [], [], 0, 0, 0, ⟨0, 0, 0, []⟩⟩
def zero10 : List Value := zeroF.cells (.slice none 0 0) (.slice none 0 0) (.slice none 0 0) (.slice none 0 0)
/-- What is read: a frontier, what is left, whether the reader is bad. -/
def readR (xs : List Int) : Fd × List Int × Bool :=
  let v := verdF xs false
  let p := numF 4611686018427387904 v.2.1 v.2.2
  let q := numF 4611686018427387904 p.2.1 p.2.2
  if v.1.kind = 0 then
    let k := numF 1048577 q.2.1 q.2.2
    let t := tripF k.1 k.2.1 k.2.2
    let m := numF 8192 t.2.2.2.1 t.2.2.2.2
    (⟨t.1, t.2.1, t.2.2.1, m.1, p.1, q.1, v.1⟩, m.2.1, m.2.2)
  else (⟨[], [], [], 0, p.1, q.1, v.1⟩, q.2.1, q.2.2)
def goodR (r : Fd × List Int × Bool) : Bool := if (!r.2.2 && decide (r.2.1 = [])) = true then okF r.1 else false
def ReadOut (xs : List Int) (x : Value) (s' : AS) : Prop := if goodR (readR xs) = true then ∃ va vb vc vs, x = .tuple #[.agg ((readR xs).1.cells va vb vc vs).toArray, .int .i64 0] ∧ FAt s' (readR xs).1 va vb vc vs else x = .tuple #[.agg zero10.toArray, .int .i64 4]
theorem res11 {v l : L} {s : AS} {vs : Array Value} (h : loadN 10 (lkL 2 v poison) s = .ok (.agg vs)) : resOf Pz 125 Go.Proofs.Tryz.f11 v l s = .ret (.tuple #[.agg vs, lkL 3 v poison]) s := by
  have hr : Go.Proofs.Tryz.f11.results.toList = [.cell 2 38, .tmp 3] := by kernel_rfl
  have ht : tkind Pz 38 = .agg 10 := by kernel_rfl
  have hb : (opd 125 (.tmp 2)).get v l = lkL 2 v poison := by rw [opd_tmp, if_pos (by kernel_rfl)]
  have hb3 : (opd 125 (.tmp 3)).get v l = lkL 3 v poison := by rw [opd_tmp, if_pos (by kernel_rfl)]
  simp only [resOf, hr, resL_cons, ht, hb, h, hb3]
  rfl
theorem J11.ok {s0 s : AS} {b5 : Nat} {xs : List Int} {bad : Bool} {f : Fd} {va vb vc vs : Value} (h : J11 s0 b5 s xs bad f va vb vc vs) : FAt s f va vb vc vs :=
  ⟨h.oa.ints (by kernel_rfl), h.ob.ints (by kernel_rfl), h.oc.ints (by kernel_rfl), h.od.ints (by kernel_rfl)⟩
theorem FAt.scal {s : AS} {f : Fd} {va vb vc vs : Value} (h : FAt s f va vb vc vs) : (f.cells va vb vc vs).all KAb.scal = true := by
  simp only [Fd.cells, Vd.cells, List.all_cons, List.all_nil, h.ia.scal, h.ib.scal, h.ic.scal, h.id.scal, Bool.and_true, Bool.true_and]
  rfl
set_option maxRecDepth 100000 in
theorem fin11 {lf n : Nat} (hn : 3 ≤ n) (hlf : 1000000000 ≤ lf) {s0 : AS} {b5 : Nat} {s' : AS} {xs xs' : List Int} {bad : Bool} {f : Fd} {va vb vc vs : Value} {v : L} (hJ : J11 s0 b5 s' xs' bad f va vb vc vs) (hr : readR xs = (f, xs', bad)) (h2 : lkL 2 v poison = .pointer (some ⟨s0.next, 0, none⟩)) (h4 : lkL 4 v poison = .pointer (some ⟨s0.next + 1, 0, none⟩)) (h5 : lkL 5 v poison = .pointer (some ⟨b5, 0, none⟩)) :
    (seqK (seqK ((o11_11 0).run (aCall Pz masks lf n) v .nil [] s') fun v l ds s => condK (lkL 83 l poison) (seqK ((o11_12 0).run (aCall Pz masks lf n) v .nil ds s) fun v l ds s => .ret v l ds s) (.normal v l ds s)) fun v l ds s => seqK ((o11_13 0).run (aCall Pz masks lf n) v .nil ds s) fun v l ds s => .ret v l ds s).P
      (Aft Pz 125 Go.Proofs.Tryz.f11 fun x s' => ReadOut xs x s' ∧ Fr (fun _ => False) s0 s' ∧ s'.F) := by
  have hge := hJ.m.ge
  have hnx := hJ.m.nx
  obtain ⟨zs, hz, hz2⟩ := hJ.m.g2
  obtain ⟨x, s1, hw, rfl, hs1⟩ := (whole_ok (lf := lf) (n := n) (by omega) hJ.m.rdr).inv
  rw [hs1] at hw
  have hw' : (aCall Pz masks lf n).call 49 [.pointer (some ⟨s0.next + 1, 0, none⟩)] s' = .ret (.bool (!bad && decide (xs' = []))) s' := hw
  have fr0 : Fr (fun _ => False) s0 s' := ⟨by omega, fun b hb _ => hJ.m.old b hb⟩
  -- the bad way
  have badWay : ∀ {s2 : AS}, s2.get s0.next = some (.row zs 38 false) → Fr (fun _ => False) s0 s2 → s2.F → goodR (readR xs) = false →
      doStore 10 (.pointer (some ⟨s0.next, 0, none⟩)) (.agg zero10.toArray) s2 = .val undef (s2.put s0.next (.row zero10 38 false)) ∧ loadN 10 (.pointer (some ⟨s0.next, 0, none⟩)) (s2.put s0.next (.row zero10 38 false)) = .ok (.agg zero10.toArray) ∧ (ReadOut xs (.tuple #[.agg zero10.toArray, .int .i64 4]) (s2.put s0.next (.row zero10 38 false)) ∧ Fr (fun _ => False) s0 (s2.put s0.next (.row zero10 38 false)) ∧ (s2.put s0.next (.row zero10 38 false)).F) := by
    intro s2 hg hf hF hb
    refine ⟨?_, loadN_of (put_get _ _ _) (by decide), by rw [ReadOut, hb]; simp, ⟨hf.next, fun b hb hx => (put_ne _ _ (by omega)).trans (hf.same b hb hx)⟩, hF.put (hF.lt hg) _⟩
    rw [storeN hg (by rfl) (by omega) (by rfl)]
    rw [List.drop_of_length_le (by omega)]
    simp
  have hbd : doBuild ⟨fun i => nthK i [(0, 1), (1, 1), (2, 1), (3, 1), (4, 1), (5, 1), (6, 4)]⟩ [(.slice none 0 0), (.slice none 0 0), (.slice none 0 0), (.int .i64 0), (.int .i64 0), (.int .i64 0), (.int .i64 0), (.int .i64 0), (.int .i64 0), (.slice none 0 0)] [] = .ok (.agg zero10.toArray) := rfl
  by_cases hwh : (!bad && decide (xs' = [])) = true
  case neg =>
    have hwh' : (!bad && decide (xs' = [])) = false := by simpa using hwh
    rw [hwh'] at hw'
    obtain ⟨b1, b2, b3⟩ := badWay hz fr0 hJ.m.F (by rw [hr, goodR, if_neg hwh])
    simp -implicitDefEqProofs only [aft_normal, aft_ret, bV_ok, bC_ret, bA_val, bA_enter, bDC_ret, bDA_val, bDA_enter, guard_b, guard_undef, seq_normal, seq_exit, seq_ret, seq_panic, cond_b, block_normal, block_exit, block_ret, block_panic, lkL_cons, lkL_setL, Nat.reduceEqDiff, if_true, if_false, ↓reduceIte, decide_true, decide_false, Bool.true_eq_false, Bool.false_eq_true, bin_add, bin_sub, bin_mul, bin_and, bin_or, bin_eql, bin_neq, bin_lss, bin_leq, bin_gtr, bin_geq, un_not, pick_b, len_slice, nilc, fieldA, conv_int, P_normal, P_ret, P_exit, ne_eq, not_true_eq_false, not_false_eq_true, Bool.not_true, Bool.not_false, true_and, and_true, q11_0_0, q11_0_1, q11_0_2, q11_1_0, q11_1_5, q11_2_0, q11_2_4, q11_2_5, q11_3_0, q11_3_1, q11_3_2, q11_3_3, q11_3_4, q11_3_5, q11_3_6, q11_3_7, q11_3_8, q11_3_9, q11_3_10, q11_3_11, q11_3_12, q11_4_0, q11_4_4, q11_5_0, q11_5_5, q11_6_0, q11_6_3, q11_6_4, q11_6_5, q11_6_6, q11_6_7, q11_6_8, q11_6_9, q11_6_10, q11_7_0, q11_7_1, q11_7_2, q11_7_3, q11_7_4, q11_7_5, q11_7_6, q11_7_7, q11_7_8, q11_7_9, q11_7_10, q11_7_11, q11_7_12, q11_7_13, q11_7_14, q11_7_15, q11_7_16, q11_7_17, q11_7_18, q11_7_19, q11_7_20, q11_7_21, q11_7_22, q11_7_23, q11_7_24, q11_7_25, q11_7_26, q11_7_27, q11_7_28, q11_7_29, q11_7_30, q11_8_0, q11_8_3, q11_10_0, q11_10_6, q11_11_0, q11_11_4, q11_11_5, q11_11_6, q11_11_7, q11_11_8, q11_12_0, q11_12_3, q11_13_0, q11_13_3, Nat.zero_add, h2, h4, hw', hbd, b1]
    exact fun _ => by rw [res11 (by simp only [lkL_setL, Nat.reduceEqDiff, if_false, h2]; exact b2), lkL_setL, if_pos rfl]; exact b3
  rw [hwh] at hw'
  have l10 : loadN 10 (.pointer (some ⟨b5, 0, none⟩)) s' = .ok (.agg (f.cells va vb vc vs).toArray) := loadN_of hJ.m.g5 (by simp [Fd.cells, Vd.cells])
  obtain ⟨x, s2, hc, rfl, hfr, hF2⟩ := (okF_ok (lf := lf) (n := n) hn hJ.ok hJ.m.F hlf).inv
  have hc' : (aCall Pz masks lf n).call 50 [.agg (f.cells va vb vc vs).toArray] s' = .ret (.bool (okF f)) s2 := hc
  have fr2 := fr0.trans hfr
  have hz' := (hfr.same _ (by omega) id).trans hz
  have hg5 := (hfr.same _ hnx id).trans hJ.m.g5
  have hFA := hJ.ok.fr hJ.m.F hfr (fun _ _ _ h => h)
  by_cases ho : okF f = true
  case neg =>
    have ho' : okF f = false := by simpa using ho
    rw [ho'] at hc'
    obtain ⟨b1, b2, b3⟩ := badWay hz' fr2 hF2 (by rw [hr, goodR, if_pos hwh]; exact ho')
    simp -implicitDefEqProofs only [aft_normal, aft_ret, bV_ok, bC_ret, bA_val, bA_enter, bDC_ret, bDA_val, bDA_enter, guard_b, guard_undef, seq_normal, seq_exit, seq_ret, seq_panic, cond_b, block_normal, block_exit, block_ret, block_panic, lkL_cons, lkL_setL, Nat.reduceEqDiff, if_true, if_false, ↓reduceIte, decide_true, decide_false, Bool.true_eq_false, Bool.false_eq_true, bin_add, bin_sub, bin_mul, bin_and, bin_or, bin_eql, bin_neq, bin_lss, bin_leq, bin_gtr, bin_geq, un_not, pick_b, len_slice, nilc, fieldA, conv_int, P_normal, P_ret, P_exit, ne_eq, not_true_eq_false, not_false_eq_true, Bool.not_true, Bool.not_false, true_and, and_true, q11_0_0, q11_0_1, q11_0_2, q11_1_0, q11_1_5, q11_2_0, q11_2_4, q11_2_5, q11_3_0, q11_3_1, q11_3_2, q11_3_3, q11_3_4, q11_3_5, q11_3_6, q11_3_7, q11_3_8, q11_3_9, q11_3_10, q11_3_11, q11_3_12, q11_4_0, q11_4_4, q11_5_0, q11_5_5, q11_6_0, q11_6_3, q11_6_4, q11_6_5, q11_6_6, q11_6_7, q11_6_8, q11_6_9, q11_6_10, q11_7_0, q11_7_1, q11_7_2, q11_7_3, q11_7_4, q11_7_5, q11_7_6, q11_7_7, q11_7_8, q11_7_9, q11_7_10, q11_7_11, q11_7_12, q11_7_13, q11_7_14, q11_7_15, q11_7_16, q11_7_17, q11_7_18, q11_7_19, q11_7_20, q11_7_21, q11_7_22, q11_7_23, q11_7_24, q11_7_25, q11_7_26, q11_7_27, q11_7_28, q11_7_29, q11_7_30, q11_8_0, q11_8_3, q11_10_0, q11_10_6, q11_11_0, q11_11_4, q11_11_5, q11_11_6, q11_11_7, q11_11_8, q11_12_0, q11_12_3, q11_13_0, q11_13_3, Nat.zero_add, h2, h4, h5, hw', l10, hc', hbd, b1]
    exact fun _ => by rw [res11 (by simp only [lkL_setL, Nat.reduceEqDiff, if_false, h2]; exact b2), lkL_setL, if_pos rfl]; exact b3
  rw [ho] at hc'
  have hgd : goodR (readR xs) = true := by rw [hr, goodR, if_pos hwh]; exact ho
  have l10' : loadN 10 (.pointer (some ⟨b5, 0, none⟩)) s2 = .ok (.agg (f.cells va vb vc vs).toArray) := loadN_of hg5 (by simp [Fd.cells, Vd.cells])
  have hst : doStore 10 (.pointer (some ⟨s0.next, 0, none⟩)) (.agg (f.cells va vb vc vs).toArray) s2 = .val undef (s2.put s0.next (.row (f.cells va vb vc vs) 38 false)) := by
    rw [storeN hz' (by simp [Fd.cells, Vd.cells]) (by omega) (by simpa using hFA.scal)]
    rw [List.drop_of_length_le (by omega)]
    simp
  have hld : loadN 10 (.pointer (some ⟨s0.next, 0, none⟩)) (s2.put s0.next (.row (f.cells va vb vc vs) 38 false)) = .ok (.agg (f.cells va vb vc vs).toArray) := loadN_of (put_get _ _ _) (by simp [Fd.cells, Vd.cells])
  simp -implicitDefEqProofs only [aft_normal, aft_ret, bV_ok, bC_ret, bA_val, bA_enter, bDC_ret, bDA_val, bDA_enter, guard_b, guard_undef, seq_normal, seq_exit, seq_ret, seq_panic, cond_b, block_normal, block_exit, block_ret, block_panic, lkL_cons, lkL_setL, Nat.reduceEqDiff, if_true, if_false, ↓reduceIte, decide_true, decide_false, Bool.true_eq_false, Bool.false_eq_true, bin_add, bin_sub, bin_mul, bin_and, bin_or, bin_eql, bin_neq, bin_lss, bin_leq, bin_gtr, bin_geq, un_not, pick_b, len_slice, nilc, fieldA, conv_int, P_normal, P_ret, P_exit, ne_eq, not_true_eq_false, not_false_eq_true, Bool.not_true, Bool.not_false, true_and, and_true, q11_0_0, q11_0_1, q11_0_2, q11_1_0, q11_1_5, q11_2_0, q11_2_4, q11_2_5, q11_3_0, q11_3_1, q11_3_2, q11_3_3, q11_3_4, q11_3_5, q11_3_6, q11_3_7, q11_3_8, q11_3_9, q11_3_10, q11_3_11, q11_3_12, q11_4_0, q11_4_4, q11_5_0, q11_5_5, q11_6_0, q11_6_3, q11_6_4, q11_6_5, q11_6_6, q11_6_7, q11_6_8, q11_6_9, q11_6_10, q11_7_0, q11_7_1, q11_7_2, q11_7_3, q11_7_4, q11_7_5, q11_7_6, q11_7_7, q11_7_8, q11_7_9, q11_7_10, q11_7_11, q11_7_12, q11_7_13, q11_7_14, q11_7_15, q11_7_16, q11_7_17, q11_7_18, q11_7_19, q11_7_20, q11_7_21, q11_7_22, q11_7_23, q11_7_24, q11_7_25, q11_7_26, q11_7_27, q11_7_28, q11_7_29, q11_7_30, q11_8_0, q11_8_3, q11_10_0, q11_10_6, q11_11_0, q11_11_4, q11_11_5, q11_11_6, q11_11_7, q11_11_8, q11_12_0, q11_12_3, q11_13_0, q11_13_3, Nat.zero_add, h2, h4, h5, hw', l10, hc', l10', hst]
  refine fun _ => ?_
  rw [res11 (by simp only [lkL_setL, Nat.reduceEqDiff, if_false, h2]; exact hld), lkL_setL, if_pos rfl]
  refine ⟨?_, ⟨fr2.next, fun b hb hx => (put_ne _ _ (by omega)).trans (fr2.same b hb hx)⟩, hF2.put (hF2.lt hz') _⟩
  rw [ReadOut, if_pos hgd, hr]
  -- the slices lie elsewhere
  have far : ∀ {w : Value} {ys : List Int}, Own s' .i64 3 w ys → (∀ b, Blk w b → s0.next + 2 ≤ b) → Ints s2 .i64 w ys → Ints (s2.put s0.next (.row (f.cells va vb vc vs) 38 false)) .i64 w ys := by
    intro w ys ho hb hi
    refine hi.keep fun b off n c hv => put_ne _ _ ?_
    rcases ho with ⟨h, _⟩ | ⟨b', h, _⟩
    · rw [h] at hv; cases hv
    · have := hb b' ⟨_, _, h⟩
      rw [h] at hv; cases hv; omega
  exact ⟨va, vb, vc, vs, rfl, far hJ.oa (fun b h => by have := hJ.fa b h; omega) hFA.ia, far hJ.ob (fun b h => by have := hJ.fb b h; omega) hFA.ib, far hJ.oc (fun b h => by have := hJ.fc b h; omega) hFA.ic, far hJ.od (fun b h => (hJ.fd b h).1) hFA.id⟩
end Go.Proofs.YtbbknbmmpkpgdaaGreatDoor.KAb
namespace Go.Proofs.YtbbknbmmpkpgdaaGreatDoor.KAb
theorem tripF_keep : ∀ (i : Nat) {xs : List Int} {bad : Bool}, Bytes xs → Bytes (tripF i xs bad).2.2.2.1 ∧ (tripF i xs bad).2.2.2.1.length ≤ xs.length := by
  intro i
  induction i with
  | zero => intro xs bad h; exact ⟨h, Nat.le_refl _⟩
  | succ i ih =>
    intro xs bad h
    cases bad with
    | true => exact ⟨h, Nat.le_refl _⟩
    | false =>
      rw [tripF_succ]
      have := ih (bad := (numF 65535 (numF 65535 (numF 15 xs false).2.1 (numF 15 xs false).2.2).2.1 (numF 65535 (numF 15 xs false).2.1 (numF 15 xs false).2.2).2.2).2.2) (numF_bytes (most := 65535) (bad := (numF 65535 (numF 15 xs false).2.1 (numF 15 xs false).2.2).2.2) (numF_bytes (most := 65535) (bad := (numF 15 xs false).2.2) (numF_bytes (most := 15) (bad := false) h)))
      exact ⟨this.1, Nat.le_trans this.2 (Nat.le_trans numF_len (Nat.le_trans numF_len numF_len))⟩
theorem schedF_keep : ∀ (i : Nat) {xs : List Int} {bad : Bool}, Bytes xs → Bytes (schedF i xs bad).2.1 ∧ (schedF i xs bad).2.1.length ≤ xs.length := by
  intro i
  induction i with
  | zero => intro xs bad h; exact ⟨h, Nat.le_refl _⟩
  | succ i ih =>
    intro xs bad h
    cases bad with
    | true => exact ⟨h, Nat.le_refl _⟩
    | false =>
      have := ih (bad := (numF 15 xs false).2.2) (numF_bytes (most := 15) (bad := false) h)
      exact ⟨this.1, Nat.le_trans this.2 numF_len⟩
theorem verdF_keep {xs : List Int} {bad : Bool} (h : Bytes xs) : Bytes (verdF xs bad).2.1 ∧ (verdF xs bad).2.1.length ≤ xs.length := by
  unfold verdF
  dsimp only
  split
  · have := schedF_keep (numF 1048577 (numF 16 (numF 5 (numF 3 xs bad).2.1 (numF 3 xs bad).2.2).2.1 (numF 5 (numF 3 xs bad).2.1 (numF 3 xs bad).2.2).2.2).2.1 (numF 16 (numF 5 (numF 3 xs bad).2.1 (numF 3 xs bad).2.2).2.1 (numF 5 (numF 3 xs bad).2.1 (numF 3 xs bad).2.2).2.2).2.2).1 (bad := (numF 1048577 (numF 16 (numF 5 (numF 3 xs bad).2.1 (numF 3 xs bad).2.2).2.1 (numF 5 (numF 3 xs bad).2.1 (numF 3 xs bad).2.2).2.2).2.1 (numF 16 (numF 5 (numF 3 xs bad).2.1 (numF 3 xs bad).2.2).2.1 (numF 5 (numF 3 xs bad).2.1 (numF 3 xs bad).2.2).2.2).2.2).2.2) (numF_bytes (most := 1048577) (bad := (numF 16 (numF 5 (numF 3 xs bad).2.1 (numF 3 xs bad).2.2).2.1 (numF 5 (numF 3 xs bad).2.1 (numF 3 xs bad).2.2).2.2).2.2) (numF_bytes (most := 16) (bad := (numF 5 (numF 3 xs bad).2.1 (numF 3 xs bad).2.2).2.2) (numF_bytes (most := 5) (bad := (numF 3 xs bad).2.2) (numF_bytes (most := 3) (bad := bad) h))))
    exact ⟨this.1, Nat.le_trans this.2 (Nat.le_trans numF_len (Nat.le_trans numF_len (Nat.le_trans numF_len numF_len)))⟩
  · exact ⟨numF_bytes h, numF_len⟩
set_option maxRecDepth 100000 in
theorem read_ok {lf n : Nat} (hn : 4 ≤ n) {s : AS} {xs : List Int} {vx : Value} (hx : Ints s .u8 vx xs) (hb : Bytes xs) (hlen : xs.length < 1000000000) (hF : s.F) (hlf : 1000000000 ≤ lf) :
    (Cl lf n 11 [vx] s).P fun x s' => ReadOut xs x s' ∧ Fr (fun _ => False) s s' ∧ s'.F := by
  obtain ⟨n, rfl⟩ : ∃ m, n = m + 1 := ⟨n - 1, by omega⟩
  have hxb : ∀ b off n c, vx = .slice (some ⟨b, off, none⟩) n c → b < s.next := fun b off n c h => hx.inX hF (Nat.le_refl _) b off n c h
  obtain ⟨o, nn, c, rfl⟩ : ∃ o n c, vx = .slice o n c := by rcases hx with ⟨h, _⟩ | ⟨_, _, _, _, _, _, h, _⟩ <;> exact ⟨_, _, _, h⟩
  rewrite [Cl, aCall_succ]
  rewrite [fn11, c11]
  refine P_aft ?_
  have hnw : doNew [(.slice none 0 0), (.slice none 0 0), (.slice none 0 0), (.int .i64 0), (.int .i64 0), (.int .i64 0), (.int .i64 0), (.int .i64 0), (.int .i64 0), (.slice none 0 0)] 38 s = .val (.pointer (some ⟨s.next, 0, none⟩)) (s.new (.row zero10 38 false)) := rfl
  have hbd1 : doBuild ⟨fun i => nthK i [(0, 1), (1, 1)]⟩ [(.slice none 0 0), (.bool false)] [(0, .slice o nn c)] = .ok (.agg #[.slice o nn c, .bool false]) := rfl
  have hbd2 : doBuild ⟨fun i => nthK i [(0, 2)]⟩ [(.slice none 0 0), (.bool false)] [(0, .agg #[.slice o nn c, .bool false])] = .ok (.agg #[.slice o nn c, .bool false]) := rfl
  have hbx : doBox 111 (.agg #[.slice o nn c, .bool false]) (s.new (.row zero10 38 false)) = .val (.pointer (some ⟨s.next + 1, 0, none⟩)) ((s.new (.row zero10 38 false)).new (.row [.slice o nn c, .bool false] 111 false)) := rfl
  have hF2 : ((s.new (.row zero10 38 false)).new (.row [.slice o nn c, .bool false] 111 false)).F := (hF.new _).new _
  have hx2 := (hx.new hF (.row zero10 38 false)).new (hF.new _) (.row [.slice o nn c, .bool false] 111 false)
  have g2 : ((s.new (.row zero10 38 false)).new (.row [.slice o nn c, .bool false] 111 false)).get (s.next + 1) = some (.row [.slice o nn c, .bool false] 111 false) := new_get (s.new (.row zero10 38 false)) _
  have g1 : ((s.new (.row zero10 38 false)).new (.row [.slice o nn c, .bool false] 111 false)).get s.next = some (.row zero10 38 false) := (new_ne _ _ (by show s.next ≠ s.next + 1; omega)).trans (new_get s _)
  have n2 : ((s.new (.row zero10 38 false)).new (.row [.slice o nn c, .bool false] 111 false)).next = s.next + 2 := rfl
  have old2 : ∀ b, b < s.next → ((s.new (.row zero10 38 false)).new (.row [.slice o nn c, .bool false] 111 false)).get b = s.get b := fun b h => (new_ne _ _ (by show b ≠ s.next + 1; omega)).trans (new_ne s _ (by omega))
  generalize (s.new (.row zero10 38 false)).new (.row [.slice o nn c, .bool false] 111 false) = s2 at *
  have hR2 : RdAt s2.next s2 (s.next + 1) xs false := ⟨_, 111, g2, hx2, fun b off n c h => by have := hxb b off n c h; omega⟩
  obtain ⟨x, s3, hc, ⟨vs, rfl, hV⟩⟩ := (verdict_ok (lf := lf) (n := n) (by omega) hR2 hF2 hb hlen hlf).inv
  have hc' : (aCall Pz masks lf n).call 47 [.pointer (some ⟨s.next + 1, 0, none⟩)] s2 = .ret (.agg ((verdF xs false).1.cells vs).toArray) s3 := hc
  obtain ⟨kb, kl⟩ := verdF_keep (bad := false) hb
  have kl' := Nat.lt_of_le_of_lt kl hlen
  generalize hv : verdF xs false = V at *
  obtain ⟨d, xs1, bad1⟩ := V
  simp only at hc hc' hV kb kl kl'
  have hbd3 : doBuild ⟨fun i => nthK i [(0, 1), (1, 1), (2, 1), (3, 1), (4, 1), (5, 1), (6, 4)]⟩ [(.slice none 0 0), (.slice none 0 0), (.slice none 0 0), (.int .i64 0), (.int .i64 0), (.int .i64 0), (.int .i64 0), (.int .i64 0), (.int .i64 0), (.slice none 0 0)] [(6, .agg (d.cells vs).toArray)] = .ok (.agg ((⟨[], [], [], 0, 0, 0, d⟩ : Fd).cells (.slice none 0 0) (.slice none 0 0) (.slice none 0 0) vs).toArray) := rfl
  have hnw3 : doNew [(.slice none 0 0), (.slice none 0 0), (.slice none 0 0), (.int .i64 0), (.int .i64 0), (.int .i64 0), (.int .i64 0), (.int .i64 0), (.int .i64 0), (.slice none 0 0)] 38 s3 = .val (.pointer (some ⟨s3.next, 0, none⟩)) (s3.new (.row zero10 38 false)) := rfl
  have n3 : s2.next ≤ s3.next := hV.fr.next
  have g3 : (s3.new (.row zero10 38 false)).get s3.next = some (.row zero10 38 false) := new_get _ _
  have hst3 : doStore 10 (.pointer (some ⟨s3.next, 0, none⟩)) (.agg ((⟨[], [], [], 0, 0, 0, d⟩ : Fd).cells (.slice none 0 0) (.slice none 0 0) (.slice none 0 0) vs).toArray) (s3.new (.row zero10 38 false)) = .val undef ((s3.new (.row zero10 38 false)).put s3.next (.row ((⟨[], [], [], 0, 0, 0, d⟩ : Fd).cells (.slice none 0 0) (.slice none 0 0) (.slice none 0 0) vs) 38 false)) := by
    rw [storeN g3 (by rfl) (by decide) (by
      have := Vd.scal hV.own
      simp only [List.toList_toArray, Fd.cells, List.all_cons, this, Bool.and_true, Bool.true_and]
      rfl)]
    rfl
  have hJ : J11 s s3.next ((s3.new (.row zero10 38 false)).put s3.next (.row ((⟨[], [], [], 0, 0, 0, d⟩ : Fd).cells (.slice none 0 0) (.slice none 0 0) (.slice none 0 0) vs) 38 false)) xs1 bad1 ⟨[], [], [], 0, 0, 0, d⟩ (.slice none 0 0) (.slice none 0 0) (.slice none 0 0) vs := by
    have p : ∀ b, b < s3.next → ((s3.new (.row zero10 38 false)).put s3.next (.row ((⟨[], [], [], 0, 0, 0, d⟩ : Fd).cells (.slice none 0 0) (.slice none 0 0) (.slice none 0 0) vs) 38 false)).get b = s3.get b := fun b h => (put_ne _ _ (by omega)).trans (new_ne s3 _ (by omega))
    have hr := hV.rdr
    rw [n2] at hr
    refine ⟨⟨(hr.new hV.F _).put _ (by omega) (by omega), (hV.F.new _).put (Nat.lt_succ_self _) _, ⟨zero10, (p _ (by omega)).trans ((hV.fr.same _ (by omega) (by show ¬ s.next = s.next + 1; omega)).trans g1), rfl⟩, put_get _ _ _, fun b h => (p _ (by omega)).trans ((hV.fr.same _ (by omega) (by show ¬ b = s.next + 1; omega)).trans (old2 b h)), Nat.lt_succ_self _, by omega⟩, Own.nil, Own.nil, Own.nil, hV.own.same fun b h => p b (hV.own.lt hV.F h), fun b h => (blk_nil h).elim, fun b h => (blk_nil h).elim, fun b h => (blk_nil h).elim, fun b h => ⟨by obtain ⟨m, c', h'⟩ := h; have := hV.far b m c' h'; omega, hV.own.lt hV.F h⟩, fun b h => (blk_nil h).elim, fun b h => (blk_nil h).elim, fun b h => (blk_nil h).elim⟩
  generalize (s3.new (.row zero10 38 false)).put s3.next (.row ((⟨[], [], [], 0, 0, 0, d⟩ : Fd).cells (.slice none 0 0) (.slice none 0 0) (.slice none 0 0) vs) 38 false) = s4 at *
  generalize s3.next = b5 at *
  obtain ⟨s5, c5, J5⟩ := hJ.num (lf := lf) (n := n) (by omega) kb kl' (most := 4611686018427387904) (by omega) hlf
  have kb1 : Bytes (numF 4611686018427387904 xs1 bad1).2.1 := numF_bytes kb
  have kl1 : (numF 4611686018427387904 xs1 bad1).2.1.length < 1000000000 := Nat.lt_of_le_of_lt numF_len kl'
  generalize hp : numF 4611686018427387904 xs1 bad1 = p at *
  obtain ⟨s6, c6, J6⟩ := J5.num (lf := lf) (n := n) (by omega) kb1 kl1 (most := 4611686018427387904) (by omega) hlf
  have kb2 : Bytes (numF 4611686018427387904 p.2.1 p.2.2).2.1 := numF_bytes kb1
  have kl2 : (numF 4611686018427387904 p.2.1 p.2.2).2.1.length < 1000000000 := Nat.lt_of_le_of_lt numF_len kl1
  generalize hq : numF 4611686018427387904 p.2.1 p.2.2 = q at *
  have c5' : (aCall Pz masks lf n).call 48 [.pointer (some ⟨s.next + 1, 0, none⟩), .int .i64 4611686018427387904] s4 = .ret (.int .i64 (p.1 : Int)) s5 := c5
  have c6' : (aCall Pz masks lf n).call 48 [.pointer (some ⟨s.next + 1, 0, none⟩), .int .i64 4611686018427387904] s5 = .ret (.int .i64 (q.1 : Int)) s6 := c6
  have st6 := store1 (o := 4) (u := .int .i64 (p.1 : Int)) J6.m.g5 (by simp [Fd.cells]) rfl
  have J7 := J6.set (f' := ⟨[], [], [], 0, p.1, 0, d⟩) (cs := ((⟨[], [], [], 0, 0, 0, d⟩ : Fd).cells (.slice none 0 0) (.slice none 0 0) (.slice none 0 0) vs).set 4 (.int .i64 (p.1 : Int))) rfl rfl rfl rfl rfl
  generalize s6.put b5 (.row (((⟨[], [], [], 0, 0, 0, d⟩ : Fd).cells (.slice none 0 0) (.slice none 0 0) (.slice none 0 0) vs).set 4 (.int .i64 (p.1 : Int))) 38 false) = s7 at *
  have st7 := store1 (o := 5) (u := .int .i64 (q.1 : Int)) J7.m.g5 (by simp [Fd.cells]) rfl
  have J8 := J7.set (f' := ⟨[], [], [], 0, p.1, q.1, d⟩) (cs := ((⟨[], [], [], 0, p.1, 0, d⟩ : Fd).cells (.slice none 0 0) (.slice none 0 0) (.slice none 0 0) vs).set 5 (.int .i64 (q.1 : Int))) rfl rfl rfl rfl rfl
  generalize s7.put b5 (.row (((⟨[], [], [], 0, p.1, 0, d⟩ : Fd).cells (.slice none 0 0) (.slice none 0 0) (.slice none 0 0) vs).set 5 (.int .i64 (q.1 : Int))) 38 false) = s8 at *
  have l86 : load1 (.pointer (some ⟨b5, 6, none⟩)) s8 = .ok (.int .i64 d.kind) := load1_of J8.m.g5 rfl
  by_cases hk : d.kind = 0
  case neg =>
    have e : decide (d.kind = 0) = false := decide_eq_false hk
    have hrd : readR xs = (⟨[], [], [], 0, p.1, q.1, d⟩, q.2.1, q.2.2) := by simp only [readR, hv, hp, hq, if_neg hk]
    simp -implicitDefEqProofs only [aft_normal, aft_ret, bV_ok, bC_ret, bA_val, bA_enter, bDC_ret, bDA_val, bDA_enter, guard_b, guard_undef, seq_normal, seq_exit, seq_ret, seq_panic, cond_b, block_normal, block_exit, block_ret, block_panic, lkL_cons, lkL_setL, Nat.reduceEqDiff, if_true, if_false, ↓reduceIte, decide_true, decide_false, Bool.true_eq_false, Bool.false_eq_true, bin_add, bin_sub, bin_mul, bin_and, bin_or, bin_eql, bin_neq, bin_lss, bin_leq, bin_gtr, bin_geq, un_not, pick_b, len_slice, nilc, fieldA, conv_int, P_normal, P_ret, P_exit, ne_eq, not_true_eq_false, not_false_eq_true, Bool.not_true, Bool.not_false, true_and, and_true, q11_0_0, q11_0_1, q11_0_2, q11_1_0, q11_1_5, q11_2_0, q11_2_4, q11_2_5, q11_3_0, q11_3_1, q11_3_2, q11_3_3, q11_3_4, q11_3_5, q11_3_6, q11_3_7, q11_3_8, q11_3_9, q11_3_10, q11_3_11, q11_3_12, q11_4_0, q11_4_4, q11_5_0, q11_5_5, q11_6_0, q11_6_3, q11_6_4, q11_6_5, q11_6_6, q11_6_7, q11_6_8, q11_6_9, q11_6_10, q11_7_0, q11_7_1, q11_7_2, q11_7_3, q11_7_4, q11_7_5, q11_7_6, q11_7_7, q11_7_8, q11_7_9, q11_7_10, q11_7_11, q11_7_12, q11_7_13, q11_7_14, q11_7_15, q11_7_16, q11_7_17, q11_7_18, q11_7_19, q11_7_20, q11_7_21, q11_7_22, q11_7_23, q11_7_24, q11_7_25, q11_7_26, q11_7_27, q11_7_28, q11_7_29, q11_7_30, q11_8_0, q11_8_3, q11_10_0, q11_10_6, Nat.zero_add, hnw, hbd1, hbd2, hbx, hc', hbd3, hnw3, hst3, c5', c6', st6, st7, bif_eq, allK_eq, lenK_eq, chkOk, chkAt, dropK_eq, takeK_eq, List.length_cons, List.length_nil, List.all_cons, List.all_nil, Nat.reduceAdd, Nat.reduceSub, Nat.sub_eq, Nat.add_eq, Nat.reduceLeDiff, Nat.ble_eq, List.drop_succ_cons, List.drop_zero, List.take_succ_cons, List.take_zero, Bool.and_true, Bool.true_and, valEq_ptr, valEq_int, valEq_bool, l86, e]
    exact fin11 (by omega) hlf J8 hrd rfl rfl rfl
  have e : decide (d.kind = 0) = true := decide_eq_true hk
  obtain ⟨s9, c9, J9⟩ := J8.num (lf := lf) (n := n) (by omega) kb2 kl2 (most := 1048577) (by omega) hlf
  have kb3 : Bytes (numF 1048577 q.2.1 q.2.2).2.1 := numF_bytes kb2
  have kl3 : (numF 1048577 q.2.1 q.2.2).2.1.length < 1000000000 := Nat.lt_of_le_of_lt numF_len kl2
  have km := numF_mono (most := 1048577) (xs := q.2.1) (bad := q.2.2)
  generalize hkk : numF 1048577 q.2.1 q.2.2 = k at *
  have c9' : (aCall Pz masks lf n).call 48 [.pointer (some ⟨s.next + 1, 0, none⟩), .int .i64 1048577] s8 = .ret (.int .i64 (k.1 : Int)) s9 := c9
  obtain ⟨kb4, kl4⟩ := tripF_keep k.1 (bad := k.2.2) kb3
  have hL := fun v h2 h4 h5 h6 l => loop11 (lf := lf) (n := n) (by omega) hlf (f := ⟨[], [], [], 0, p.1, q.1, d⟩) k.1 s9 k.2.1 k.2.2 [] [] [] (.slice none 0 0) (.slice none 0 0) (.slice none 0 0) v l lf (by omega) km J9 kb3 kl3 (by simp only [List.length_nil]; omega) (by simp only [List.length_nil]; omega) (by simp only [List.length_nil]; omega) h2 h4 h5 h6
  simp -implicitDefEqProofs only [aft_normal, aft_ret, bV_ok, bC_ret, bA_val, bA_enter, bDC_ret, bDA_val, bDA_enter, guard_b, guard_undef, seq_normal, seq_exit, seq_ret, seq_panic, cond_b, block_normal, block_exit, block_ret, block_panic, lkL_cons, lkL_setL, Nat.reduceEqDiff, if_true, if_false, ↓reduceIte, decide_true, decide_false, Bool.true_eq_false, Bool.false_eq_true, bin_add, bin_sub, bin_mul, bin_and, bin_or, bin_eql, bin_neq, bin_lss, bin_leq, bin_gtr, bin_geq, un_not, pick_b, len_slice, nilc, fieldA, conv_int, P_normal, P_ret, P_exit, ne_eq, not_true_eq_false, not_false_eq_true, Bool.not_true, Bool.not_false, true_and, and_true, q11_0_0, q11_0_1, q11_0_2, q11_1_0, q11_1_5, q11_2_0, q11_2_4, q11_2_5, q11_3_0, q11_3_1, q11_3_2, q11_3_3, q11_3_4, q11_3_5, q11_3_6, q11_3_7, q11_3_8, q11_3_9, q11_3_10, q11_3_11, q11_3_12, q11_4_0, q11_4_4, q11_5_0, q11_5_5, q11_6_0, q11_6_3, q11_6_4, q11_6_5, q11_6_6, q11_6_7, q11_6_8, q11_6_9, q11_6_10, q11_7_0, q11_7_1, q11_7_2, q11_7_3, q11_7_4, q11_7_5, q11_7_6, q11_7_7, q11_7_8, q11_7_9, q11_7_10, q11_7_11, q11_7_12, q11_7_13, q11_7_14, q11_7_15, q11_7_16, q11_7_17, q11_7_18, q11_7_19, q11_7_20, q11_7_21, q11_7_22, q11_7_23, q11_7_24, q11_7_25, q11_7_26, q11_7_27, q11_7_28, q11_7_29, q11_7_30, q11_8_0, q11_8_3, Nat.zero_add, hnw, hbd1, hbd2, hbx, hc', hbd3, hnw3, hst3, c5', c6', st6, st7, bif_eq, allK_eq, lenK_eq, chkOk, chkAt, dropK_eq, takeK_eq, List.length_cons, List.length_nil, List.all_cons, List.all_nil, Nat.reduceAdd, Nat.reduceSub, Nat.sub_eq, Nat.add_eq, Nat.reduceLeDiff, Nat.ble_eq, List.drop_succ_cons, List.drop_zero, List.take_succ_cons, List.take_zero, Bool.and_true, Bool.true_and, valEq_ptr, valEq_int, valEq_bool, l86, e, c9']
  refine P_seq (P_seq (P_block ((hL _ rfl rfl rfl rfl _).mono fun e v ds s' h => ?_)))
  match e, h with
  | .exit 0, ⟨q1, q2, q4, q5, va, vb, vc, JL⟩ =>
    subst q1
    intro l
    generalize ht : tripF k.1 k.2.1 k.2.2 = t at *
    obtain ⟨s10, c10, J10⟩ := JL.num (lf := lf) (n := n) (by omega) kb4 (by omega) (most := 8192) (by omega) hlf
    generalize hm : numF 8192 t.2.2.2.1 t.2.2.2.2 = m at *
    have c10' : (aCall Pz masks lf n).call 48 [.pointer (some ⟨s.next + 1, 0, none⟩), .int .i64 8192] s' = .ret (.int .i64 (m.1 : Int)) s10 := c10
    have st10 := store1 (o := 3) (u := .int .i64 (m.1 : Int)) J10.m.g5 (by simp [Fd.cells]) rfl
    have J11' := J10.set (f' := ⟨t.1, t.2.1, t.2.2.1, m.1, p.1, q.1, d⟩) rfl rfl rfl rfl rfl
    have hrd : readR xs = (⟨t.1, t.2.1, t.2.2.1, m.1, p.1, q.1, d⟩, m.2.1, m.2.2) := by simp only [readR, hv, hp, hq, hkk, ht, hm, if_pos hk]
    simp -implicitDefEqProofs only [bV_ok, bC_ret, bA_val, bA_enter, bDC_ret, bDA_val, bDA_enter, guard_b, guard_undef, seq_normal, seq_exit, seq_ret, seq_panic, cond_b, block_normal, block_exit, block_ret, block_panic, lkL_cons, lkL_setL, Nat.reduceEqDiff, if_true, if_false, ↓reduceIte, decide_true, decide_false, Bool.true_eq_false, Bool.false_eq_true, bin_add, bin_sub, bin_mul, bin_and, bin_or, bin_eql, bin_neq, bin_lss, bin_leq, bin_gtr, bin_geq, un_not, pick_b, len_slice, nilc, fieldA, conv_int, P_normal, P_ret, P_exit, ne_eq, not_true_eq_false, not_false_eq_true, Bool.not_true, Bool.not_false, true_and, and_true, q11_0_0, q11_0_1, q11_0_2, q11_1_0, q11_1_5, q11_2_0, q11_2_4, q11_2_5, q11_3_0, q11_3_1, q11_3_2, q11_3_3, q11_3_4, q11_3_5, q11_3_6, q11_3_7, q11_3_8, q11_3_9, q11_3_10, q11_3_11, q11_3_12, q11_4_0, q11_4_4, q11_5_0, q11_5_5, q11_6_0, q11_6_3, q11_6_4, q11_6_5, q11_6_6, q11_6_7, q11_6_8, q11_6_9, q11_6_10, q11_7_0, q11_7_1, q11_7_2, q11_7_3, q11_7_4, q11_7_5, q11_7_6, q11_7_7, q11_7_8, q11_7_9, q11_7_10, q11_7_11, q11_7_12, q11_7_13, q11_7_14, q11_7_15, q11_7_16, q11_7_17, q11_7_18, q11_7_19, q11_7_20, q11_7_21, q11_7_22, q11_7_23, q11_7_24, q11_7_25, q11_7_26, q11_7_27, q11_7_28, q11_7_29, q11_7_30, q11_8_0, q11_8_3, q11_10_0, q11_10_6, Nat.zero_add, q4, q5, c10', st10]
    exact fun _ => fin11 (by omega) hlf J11' hrd q2 q4 q5
end Go.Proofs.YtbbknbmmpkpgdaaGreatDoor.KAb
