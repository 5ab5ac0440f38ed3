/- Printed by a program of ours: what the evaluator does at each step of the functions that FrontierBack reaches; each line is checked by the kernel. -/
import Derived.Test.YtbbknbmmpkpgdaaGreatDoorFbKit
set_option linter.unusedSimpArgs false
set_option linter.unusedVariables false
namespace Go.Proofs.YtbbknbmmpkpgdaaGreatDoor.KAb
variable (lf : Nat) (cf : CF) (base : Nat) (v l : L) (ds : DS) (s : AS) (hist : List AS) (chks : List Chk)
/-! 102: assize/frontier.all -/
noncomputable def b102 : Code := match Go.Proofs.Tryz.f102.body with | some c => c | none => .skip
noncomputable def o102_0 := oR Pz 3911 24 (subC b102 [0])
theorem q102_0_0 : (o102_0 0).run cf v l ds s = (o102_0 1).run cf (setL 6 (.bool false) v) l ds s := by kernel_rfl
theorem q102_0_1 : (o102_0 1).run cf v l ds s = .normal v l ds s := by kernel_rfl
noncomputable def o102_1 := oR Pz 3911 24 (subC b102 [1, 0, 0])
theorem q102_1_0 : (o102_1 0).run cf v l ds s = (o102_1 1).run cf (setL 9 (lkL 0 v poison) v) l ds s := by kernel_rfl
theorem q102_1_1 : (o102_1 1).run cf v l ds s = bV (doLen .slice (lkL 9 v poison) s) fun x1 => (o102_1 2).run cf (setL 10 x1 v) l ds s := by kernel_rfl
theorem q102_1_2 : (o102_1 2).run cf v l ds s = (o102_1 3).run cf (setL 11 (.int .i64 0) v) l ds s := by kernel_rfl
theorem q102_1_3 : (o102_1 3).run cf v l ds s = .normal v l ds s := by kernel_rfl
noncomputable def o102_2 := oR Pz 3911 24 (subC b102 [1, 0, 1, 0, 0, 0])
theorem q102_2_0 : (o102_2 0).run cf v l ds s = bV (doBin Pz .lss (binK .lss) .bad 3 (.tmp 11) (.tmp 10) (lkL 11 v poison) (lkL 10 v poison) s) fun x0 => (o102_2 1).run cf v (.cons 12 x0 l) ds s := by kernel_rfl
theorem q102_2_1 : (o102_2 1).run cf v l ds s = .normal v l ds s := by kernel_rfl
noncomputable def o102_3 := oR Pz 3911 24 (subC b102 [1, 0, 1, 0, 0, 1, 1, 0, 0, 0])
theorem q102_3_0 : (o102_3 0).run cf v l ds s = bV (indexAddrS 1 (lkL 9 v poison) (lkL 11 v poison)) fun x0 => bV (load1 x0 s) fun x1 => (o102_3 3).run cf (setL 8 x1 v) (.cons 14 x1 (.cons 13 x0 l)) ds s := by kernel_rfl
theorem q102_3_3 : (o102_3 3).run cf v l ds s = .normal v l ds s := by kernel_rfl
noncomputable def o102_4 := oR Pz 3911 24 (subC b102 [1, 0, 1, 0, 0, 1, 1, 0, 0, 1, 0])
theorem q102_4_0 : (o102_4 0).run cf v l ds s = bV (doBin Pz .lss (binK .lss) .bad 3 (.tmp 15) (.tmp 16) (lkL 8 v poison) (lkL 1 v poison) s) fun x2 => (o102_4 4).run cf v (.cons 18 x2 (.cons 17 x2 (.cons 16 (lkL 1 v poison) (.cons 15 (lkL 8 v poison) l)))) ds s := by kernel_rfl
theorem q102_4_4 : (o102_4 4).run cf v l ds s = guardRun (wantB false (lkL 18 l poison)) ((o102_4 5).run cf v (.cons 19 (lkL 8 v poison) l) ds s) ((o102_4 5).run cf v (.cons 19 undef l) ds s) := by kernel_rfl
theorem q102_4_5 : (o102_4 5).run cf v l ds s = guardRun (wantB false (lkL 18 l poison)) ((o102_4 6).run cf v (.cons 20 (lkL 2 v poison) l) ds s) ((o102_4 6).run cf v (.cons 20 undef l) ds s) := by kernel_rfl
theorem q102_4_6 : (o102_4 6).run cf v l ds s = guardRun (wantB false (lkL 18 l poison)) (bV (doBin Pz .gtr (binK .gtr) .bad 3 (.tmp 19) (.tmp 20) (lkL 19 l poison) (lkL 20 l poison) s) fun x6 => (o102_4 7).run cf v (.cons 21 x6 l) ds s) ((o102_4 7).run cf v (.cons 21 undef l) ds s) := by kernel_rfl
theorem q102_4_7 : (o102_4 7).run cf v l ds s = bV (doPick (lkL 18 l poison) (.bool true) (lkL 21 l poison)) fun x7 => (o102_4 8).run cf v (.cons 22 x7 l) ds s := by kernel_rfl
theorem q102_4_8 : (o102_4 8).run cf v l ds s = .normal v l ds s := by kernel_rfl
noncomputable def o102_5 := oR Pz 3911 24 (subC b102 [1, 0, 1, 0, 0, 1, 1, 0, 0, 1, 1, 0, 0])
theorem q102_5_0 : (o102_5 0).run cf v l ds s = (o102_5 1).run cf (setL 6 (.bool false) v) l ds s := by kernel_rfl
theorem q102_5_1 : (o102_5 1).run cf v l ds s = .normal v l ds s := by kernel_rfl
noncomputable def o102_6 := oR Pz 3911 24 (subC b102 [1, 0, 1, 0, 0, 1, 1, 1])
theorem q102_6_0 : (o102_6 0).run cf v l ds s = bV (doBin Pz .add (binK .add) .bad 3 (.tmp 11) (.const (.int .i64 1)) (lkL 11 v poison) (.int .i64 1) s) fun x0 => (o102_6 2).run cf (setL 11 x0 v) (.cons 23 x0 l) ds s := by kernel_rfl
theorem q102_6_2 : (o102_6 2).run cf v l ds s = .normal v l ds s := by kernel_rfl
noncomputable def l102_7 (lf : Nat) (cf : CF) (v l : L) (ds : DS) (s : AS) : Out := seqK ((o102_2 0).run cf v .nil ds s) fun v l ds s => seqK (condK (lkL 12 l poison) (.normal v l ds s) (.exit 0 v l ds s)) fun v l ds s => seqK (blockK 1 (seqK ((o102_3 0).run cf v .nil ds s) fun v l ds s => seqK ((o102_4 0).run cf v .nil ds s) fun v l ds s => condK (lkL 22 l poison) (seqK ((o102_5 0).run cf v .nil ds s) fun v l ds s => .ret v l ds s) (.normal v l ds s))) fun v l ds s => (o102_6 0).run cf v .nil ds s
noncomputable def o102_8 := oR Pz 3911 24 (subC b102 [1, 1, 0])
theorem q102_8_0 : (o102_8 0).run cf v l ds s = (o102_8 1).run cf (setL 6 (.bool true) v) l ds s := by kernel_rfl
theorem q102_8_1 : (o102_8 1).run cf v l ds s = .normal v l ds s := by kernel_rfl
noncomputable def c102 (lf : Nat) (cf : CF) (v l : L) (ds : DS) (s : AS) : Out := seqK ((o102_0 0).run cf v .nil ds s) fun v l ds s => seqK (seqK ((o102_1 0).run cf v .nil ds s) fun v l ds s => blockK 0 (iterK (l102_7 lf cf) lf v l ds s)) fun v l ds s => seqK ((o102_8 0).run cf v .nil ds s) fun v l ds s => .ret v l ds s
theorem fn102 (a0 a1 a2 : Value) : (fnK Pz masks lf 102).run cf [a0, a1, a2] s = afterBody Pz masks 3911 cf lf Go.Proofs.Tryz.f102 (c102 lf cf (.cons 0 a0 (.cons 1 a1 (.cons 2 a2 .nil))) .nil [] s) := by
  rw [fnK_of (P := Pz) Go.Proofs.Tryz.func102 (show Go.Proofs.Tryz.f102.body = some b102 by kernel_rfl), show masks 102 = 3911 by kernel_rfl]; kernel_rfl
/-! 103: assize/octet.ReadShort -/
noncomputable def b103 : Code := match Go.Proofs.Tryz.f103.body with | some c => c | none => .skip
noncomputable def o103_0 := oR Pz 2045 45 (subC b103 [0])
theorem q103_0_0 : (o103_0 0).run cf v l ds s = (o103_0 1).run cf (setL 2 (.int .u64 0) v) l ds s := by kernel_rfl
theorem q103_0_1 : (o103_0 1).run cf v l ds s = (o103_0 2).run cf (setL 3 (.int .i64 0) v) l ds s := by kernel_rfl
theorem q103_0_2 : (o103_0 2).run cf v l ds s = (o103_0 3).run cf (setL 4 (.int .i64 0) v) l ds s := by kernel_rfl
theorem q103_0_3 : (o103_0 3).run cf v l ds s = .normal v l ds s := by kernel_rfl
noncomputable def o103_1 := oR Pz 2045 45 (subC b103 [1, 0])
theorem q103_1_0 : (o103_1 0).run cf v l ds s = (o103_1 1).run cf (setL 5 (.int .u64 0) v) l ds s := by kernel_rfl
theorem q103_1_1 : (o103_1 1).run cf v l ds s = .normal v l ds s := by kernel_rfl
noncomputable def o103_2 := oR Pz 2045 45 (subC b103 [1, 1, 0, 0])
theorem q103_2_0 : (o103_2 0).run cf v l ds s = (o103_2 1).run cf (setL 8 (lkL 0 v poison) v) l ds s := by kernel_rfl
theorem q103_2_1 : (o103_2 1).run cf v l ds s = bV (doLen .slice (lkL 8 v poison) s) fun x1 => (o103_2 2).run cf (setL 9 x1 v) l ds s := by kernel_rfl
theorem q103_2_2 : (o103_2 2).run cf v l ds s = (o103_2 3).run cf (setL 10 (.int .i64 0) v) l ds s := by kernel_rfl
theorem q103_2_3 : (o103_2 3).run cf v l ds s = .normal v l ds s := by kernel_rfl
noncomputable def o103_3 := oR Pz 2045 45 (subC b103 [1, 1, 0, 1, 0, 0, 0])
theorem q103_3_0 : (o103_3 0).run cf v l ds s = bV (doBin Pz .lss (binK .lss) .bad 3 (.tmp 10) (.tmp 9) (lkL 10 v poison) (lkL 9 v poison) s) fun x0 => (o103_3 1).run cf v (.cons 11 x0 l) ds s := by kernel_rfl
theorem q103_3_1 : (o103_3 1).run cf v l ds s = .normal v l ds s := by kernel_rfl
noncomputable def o103_4 := oR Pz 2045 45 (subC b103 [1, 1, 0, 1, 0, 0, 1, 1, 0, 0, 0])
theorem q103_4_0 : (o103_4 0).run cf v l ds s = bV (indexAddrS 1 (lkL 8 v poison) (lkL 10 v poison)) fun x1 => bV (load1 x1 s) fun x2 => (o103_4 4).run cf (setL 6 (lkL 10 v poison) v) (.cons 14 x2 (.cons 13 x1 (.cons 12 (lkL 10 v poison) l))) ds s := by kernel_rfl
theorem q103_4_4 : (o103_4 4).run cf v l ds s = (o103_4 5).run cf (setL 7 (lkL 14 l poison) v) l ds s := by kernel_rfl
theorem q103_4_5 : (o103_4 5).run cf v l ds s = .normal v l ds s := by kernel_rfl
noncomputable def o103_5 := oR Pz 2045 45 (subC b103 [1, 1, 0, 1, 0, 0, 1, 1, 0, 0, 1, 0, 0])
theorem q103_5_0 : (o103_5 0).run cf v l ds s = bV (doBin Pz .gtr (binK .gtr) .bad 3 (.tmp 15) (.const (.int .i64 9)) (lkL 6 v poison) (.int .i64 9) s) fun x1 => (o103_5 3).run cf v (.cons 17 x1 (.cons 16 x1 (.cons 15 (lkL 6 v poison) l))) ds s := by kernel_rfl
theorem q103_5_3 : (o103_5 3).run cf v l ds s = guardRun (wantB false (lkL 17 l poison)) ((o103_5 4).run cf v (.cons 18 (lkL 6 v poison) l) ds s) ((o103_5 4).run cf v (.cons 18 undef l) ds s) := by kernel_rfl
theorem q103_5_4 : (o103_5 4).run cf v l ds s = guardRun (wantB false (lkL 17 l poison)) (bV (doBin Pz .eql (binK .eql) .bad 3 (.tmp 18) (.const (.int .i64 9)) (lkL 18 l poison) (.int .i64 9) s) fun x4 => (o103_5 5).run cf v (.cons 19 x4 l) ds s) ((o103_5 5).run cf v (.cons 19 undef l) ds s) := by kernel_rfl
theorem q103_5_5 : (o103_5 5).run cf v l ds s = guardRun (wantB false (lkL 17 l poison)) ((o103_5 6).run cf v (.cons 20 (lkL 19 l poison) l) ds s) ((o103_5 6).run cf v (.cons 20 undef l) ds s) := by kernel_rfl
theorem q103_5_6 : (o103_5 6).run cf v l ds s = guardRun (wantB true (lkL 20 l poison)) ((o103_5 7).run cf v (.cons 21 (lkL 7 v poison) l) ds s) ((o103_5 7).run cf v (.cons 21 undef l) ds s) := by kernel_rfl
theorem q103_5_7 : (o103_5 7).run cf v l ds s = guardRun (wantB true (lkL 20 l poison)) (bV (doBin Pz .gtr (binK .gtr) .bad 5 (.tmp 21) (.const (.int .u8 1)) (lkL 21 l poison) (.int .u8 1) s) fun x7 => (o103_5 8).run cf v (.cons 22 x7 l) ds s) ((o103_5 8).run cf v (.cons 22 undef l) ds s) := by kernel_rfl
theorem q103_5_8 : (o103_5 8).run cf v l ds s = guardRun (wantB false (lkL 17 l poison)) (bV (doPick (lkL 20 l poison) (lkL 22 l poison) (.bool false)) fun x8 => (o103_5 9).run cf v (.cons 23 x8 l) ds s) ((o103_5 9).run cf v (.cons 23 undef l) ds s) := by kernel_rfl
theorem q103_5_9 : (o103_5 9).run cf v l ds s = bV (doPick (lkL 17 l poison) (.bool true) (lkL 23 l poison)) fun x9 => (o103_5 10).run cf v (.cons 24 x9 l) ds s := by kernel_rfl
theorem q103_5_10 : (o103_5 10).run cf v l ds s = .normal v l ds s := by kernel_rfl
noncomputable def o103_6 := oR Pz 2045 45 (subC b103 [1, 1, 0, 1, 0, 0, 1, 1, 0, 0, 1, 1, 0])
theorem q103_6_0 : (o103_6 0).run cf v l ds s = bV (doBin Pz .and (binK .and) .bad 5 (.tmp 26) (.const (.int .u8 127)) (lkL 7 v poison) (.int .u8 127) s) fun x2 => bV (convInt Pz 5 62 .u64 x2) fun x3 => bV (doBin Pz .mul (binK .mul) .bad 3 (.const (.int .i64 7)) (.tmp 29) (.int .i64 7) (lkL 6 v poison) s) fun x5 => bV (doBin Pz .shl (binK .shl) .bad 62 (.tmp 28) (.tmp 30) x3 x5 s) fun x6 => bV (doBin Pz .or (binK .or) .bad 62 (.tmp 25) (.tmp 31) (lkL 5 v poison) x6 s) fun x7 => (o103_6 9).run cf (setL 5 x7 v) (.cons 32 x7 (.cons 31 x6 (.cons 30 x5 (.cons 29 (lkL 6 v poison) (.cons 28 x3 (.cons 27 x2 (.cons 26 (lkL 7 v poison) (.cons 25 (lkL 5 v poison) l)))))))) ds s := by kernel_rfl
theorem q103_6_9 : (o103_6 9).run cf v l ds s = .normal v l ds s := by kernel_rfl
noncomputable def o103_7 := oR Pz 2045 45 (subC b103 [1, 1, 0, 1, 0, 0, 1, 1, 0, 0, 1, 1, 1, 0])
theorem q103_7_0 : (o103_7 0).run cf v l ds s = bV (doBin Pz .lss (binK .lss) .bad 5 (.tmp 33) (.const (.int .u8 128)) (lkL 7 v poison) (.int .u8 128) s) fun x1 => (o103_7 2).run cf v (.cons 34 x1 (.cons 33 (lkL 7 v poison) l)) ds s := by kernel_rfl
theorem q103_7_2 : (o103_7 2).run cf v l ds s = .normal v l ds s := by kernel_rfl
noncomputable def o103_8 := oR Pz 2045 45 (subC b103 [1, 1, 0, 1, 0, 0, 1, 1, 0, 0, 1, 1, 1, 1, 0, 0, 0])
theorem q103_8_0 : (o103_8 0).run cf v l ds s = bV (doBin Pz .eql (binK .eql) .bad 5 (.tmp 35) (.const (.int .u8 0)) (lkL 7 v poison) (.int .u8 0) s) fun x1 => (o103_8 3).run cf v (.cons 37 x1 (.cons 36 x1 (.cons 35 (lkL 7 v poison) l))) ds s := by kernel_rfl
theorem q103_8_3 : (o103_8 3).run cf v l ds s = guardRun (wantB true (lkL 37 l poison)) ((o103_8 4).run cf v (.cons 38 (lkL 6 v poison) l) ds s) ((o103_8 4).run cf v (.cons 38 undef l) ds s) := by kernel_rfl
theorem q103_8_4 : (o103_8 4).run cf v l ds s = guardRun (wantB true (lkL 37 l poison)) (bV (doBin Pz .gtr (binK .gtr) .bad 3 (.tmp 38) (.const (.int .i64 0)) (lkL 38 l poison) (.int .i64 0) s) fun x4 => (o103_8 5).run cf v (.cons 39 x4 l) ds s) ((o103_8 5).run cf v (.cons 39 undef l) ds s) := by kernel_rfl
theorem q103_8_5 : (o103_8 5).run cf v l ds s = bV (doPick (lkL 37 l poison) (lkL 39 l poison) (.bool false)) fun x5 => (o103_8 6).run cf v (.cons 40 x5 l) ds s := by kernel_rfl
theorem q103_8_6 : (o103_8 6).run cf v l ds s = .normal v l ds s := by kernel_rfl
noncomputable def o103_9 := oR Pz 2045 45 (subC b103 [1, 1, 0, 1, 0, 0, 1, 1, 0, 0, 1, 1, 1, 1, 0, 1, 0])
theorem q103_9_0 : (o103_9 0).run cf v l ds s = bV (doBin Pz .add (binK .add) .bad 3 (.tmp 42) (.const (.int .i64 1)) (lkL 6 v poison) (.int .i64 1) s) fun x2 => (o103_9 4).run cf (setL 2 (lkL 5 v poison) v) (.cons 43 x2 (.cons 42 (lkL 6 v poison) (.cons 41 (lkL 5 v poison) l))) ds s := by kernel_rfl
theorem q103_9_4 : (o103_9 4).run cf v l ds s = (o103_9 5).run cf (setL 3 (lkL 43 l poison) v) l ds s := by kernel_rfl
theorem q103_9_5 : (o103_9 5).run cf v l ds s = (o103_9 6).run cf (setL 4 (.int .i64 0) v) l ds s := by kernel_rfl
theorem q103_9_6 : (o103_9 6).run cf v l ds s = .normal v l ds s := by kernel_rfl
noncomputable def o103_10 := oR Pz 2045 45 (subC b103 [1, 1, 0, 1, 0, 0, 1, 1, 1])
theorem q103_10_0 : (o103_10 0).run cf v l ds s = bV (doBin Pz .add (binK .add) .bad 3 (.tmp 10) (.const (.int .i64 1)) (lkL 10 v poison) (.int .i64 1) s) fun x0 => (o103_10 2).run cf (setL 10 x0 v) (.cons 44 x0 l) ds s := by kernel_rfl
theorem q103_10_2 : (o103_10 2).run cf v l ds s = .normal v l ds s := by kernel_rfl
noncomputable def l103_11 (lf : Nat) (cf : CF) (v l : L) (ds : DS) (s : AS) : Out := seqK ((o103_3 0).run cf v .nil ds s) fun v l ds s => seqK (condK (lkL 11 l poison) (.normal v l ds s) (.exit 0 v l ds s)) fun v l ds s => seqK (blockK 1 (seqK ((o103_4 0).run cf v .nil ds s) fun v l ds s => seqK (seqK ((o103_5 0).run cf v .nil ds s) fun v l ds s => condK (lkL 24 l poison) (.exit 0 v l ds s) (.normal v l ds s)) fun v l ds s => seqK ((o103_6 0).run cf v .nil ds s) fun v l ds s => seqK ((o103_7 0).run cf v .nil ds s) fun v l ds s => condK (lkL 34 l poison) (seqK (seqK ((o103_8 0).run cf v .nil ds s) fun v l ds s => condK (lkL 40 l poison) (.exit 0 v l ds s) (.normal v l ds s)) fun v l ds s => seqK ((o103_9 0).run cf v .nil ds s) fun v l ds s => .ret v l ds s) (.normal v l ds s))) fun v l ds s => (o103_10 0).run cf v .nil ds s
noncomputable def o103_12 := oR Pz 2045 45 (subC b103 [1, 1, 1, 0])
theorem q103_12_0 : (o103_12 0).run cf v l ds s = (o103_12 1).run cf (setL 2 (.int .u64 0) v) l ds s := by kernel_rfl
theorem q103_12_1 : (o103_12 1).run cf v l ds s = (o103_12 2).run cf (setL 3 (.int .i64 0) v) l ds s := by kernel_rfl
theorem q103_12_2 : (o103_12 2).run cf v l ds s = (o103_12 3).run cf (setL 4 (.int .i64 4) v) l ds s := by kernel_rfl
theorem q103_12_3 : (o103_12 3).run cf v l ds s = .normal v l ds s := by kernel_rfl
noncomputable def c103 (lf : Nat) (cf : CF) (v l : L) (ds : DS) (s : AS) : Out := seqK ((o103_0 0).run cf v .nil ds s) fun v l ds s => seqK ((o103_1 0).run cf v .nil ds s) fun v l ds s => seqK (seqK ((o103_2 0).run cf v .nil ds s) fun v l ds s => blockK 0 (iterK (l103_11 lf cf) lf v l ds s)) fun v l ds s => seqK ((o103_12 0).run cf v .nil ds s) fun v l ds s => .ret v l ds s
theorem fn103 (a0 : Value) : (fnK Pz masks lf 103).run cf [a0] s = afterBody Pz masks 2045 cf lf Go.Proofs.Tryz.f103 (c103 lf cf (.cons 0 a0 .nil) .nil [] s) := by
  rw [fnK_of (P := Pz) Go.Proofs.Tryz.func103 (show Go.Proofs.Tryz.f103.body = some b103 by kernel_rfl), show masks 103 = 2045 by kernel_rfl]; kernel_rfl
/-! 54: (*assize/frontier.writer).put -/
noncomputable def b54 : Code := match Go.Proofs.Tryz.f54.body with | some c => c | none => .skip
noncomputable def o54_0 := oR Pz 483 24 (subC b54 [0])
theorem q54_0_0 : (o54_0 0).run cf v l ds s = (o54_0 1).run cf (setL 6 (lkL 1 v poison) v) l ds s := by kernel_rfl
theorem q54_0_1 : (o54_0 1).run cf v l ds s = bV (doLen .slice (lkL 6 v poison) s) fun x1 => (o54_0 2).run cf (setL 7 x1 v) l ds s := by kernel_rfl
theorem q54_0_2 : (o54_0 2).run cf v l ds s = (o54_0 3).run cf (setL 8 (.int .i64 0) v) l ds s := by kernel_rfl
theorem q54_0_3 : (o54_0 3).run cf v l ds s = .normal v l ds s := by kernel_rfl
noncomputable def o54_1 := oR Pz 483 24 (subC b54 [1, 0, 0, 0])
theorem q54_1_0 : (o54_1 0).run cf v l ds s = bV (doBin Pz .lss (binK .lss) .bad 3 (.tmp 8) (.tmp 7) (lkL 8 v poison) (lkL 7 v poison) s) fun x0 => (o54_1 1).run cf v (.cons 9 x0 l) ds s := by kernel_rfl
theorem q54_1_1 : (o54_1 1).run cf v l ds s = .normal v l ds s := by kernel_rfl
noncomputable def o54_2 := oR Pz 483 24 (subC b54 [1, 0, 0, 1, 1, 0, 0, 0])
theorem q54_2_0 : (o54_2 0).run cf v l ds s = bV (indexAddrS 1 (lkL 6 v poison) (lkL 8 v poison)) fun x0 => bV (load1 x0 s) fun x1 => (o54_2 3).run cf (setL 5 x1 v) (.cons 11 x1 (.cons 10 x0 l)) ds s := by kernel_rfl
theorem q54_2_3 : (o54_2 3).run cf v l ds s = .normal v l ds s := by kernel_rfl
noncomputable def a54_3 := aR Pz 483 (subC b54 [1, 0, 0, 1, 1, 0, 0, 1])
noncomputable def d54_3 (j : Nat) : DK := dgo 483 24 a54_3 (dropK j a54_3) j
theorem q54_3_0 : (d54_3 0).run cf base v l ds s hist chks = (d54_3 1).run cf base v (.cons 12 (lkL 0 v poison) l) ds s hist chks := by kernel_rfl
theorem q54_3_1 : (d54_3 1).run cf base v l ds s hist chks = (d54_3 2).run cf base v (.cons 13 (lkL 0 v poison) l) ds s hist chks := by kernel_rfl
theorem q54_3_2 : (d54_3 2).run cf base v l ds s hist chks = bV (doNilCheck (lkL 13 l poison)) fun x => (d54_3 3).run cf base v (.cons 14 x l) ds s hist (⟨0, 1, fun s => doNilCheck (lkL 13 l poison), x⟩ :: chks) := by kernel_rfl
theorem q54_3_3 : (d54_3 3).run cf base v l ds s hist chks = bV (doFieldAddr 0 (lkL 14 l poison)) fun x => (d54_3 4).run cf base v (.cons 15 x l) ds s hist (⟨0, 1, fun s => doFieldAddr 0 (lkL 14 l poison), x⟩ :: chks) := by kernel_rfl
theorem q54_3_4 : (d54_3 4).run cf base v l ds s hist chks = bV (load1 (lkL 15 l poison) s) fun x => (d54_3 5).run cf base v (.cons 16 x l) ds s hist (⟨0, 1, fun s => load1 (lkL 15 l poison) s, x⟩ :: chks) := by kernel_rfl
theorem q54_3_5 : (d54_3 5).run cf base v l ds s hist chks = (d54_3 6).run cf base v (.cons 17 (lkL 5 v poison) l) ds s hist chks := by kernel_rfl
theorem q54_3_6 : (d54_3 6).run cf base v l ds s hist chks = bV (convInt Pz 3 62 .u64 (lkL 17 l poison)) fun x => (d54_3 7).run cf base v (.cons 18 x l) ds s hist chks := by kernel_rfl
theorem q54_3_7 : (d54_3 7).run cf base v l ds s hist chks = bDC (panicK 483 7 (atD a54_3 7) a54_3) base v ds (s :: hist) chks (cf.call 110 [(lkL 18 l poison)] s) fun x s2 => (d54_3 8).run cf base v (.cons 19 x l) ds s2 (s :: hist) chks := by kernel_rfl
theorem q54_3_8 : (d54_3 8).run cf base v l ds s hist chks = bDA (panicK 483 8 (atD a54_3 8) a54_3) cf base v ds (s :: hist) chks (appendV 1 5 (lkL 16 l poison) (lkL 19 l poison) s) fun x s2 => (d54_3 9).run cf base v (.cons 20 x l) ds s2 (s :: hist) chks := by kernel_rfl
theorem q54_3_9 : (d54_3 9).run cf base v l ds s hist chks = bV (doNilCheck (lkL 12 l poison)) fun x => (d54_3 10).run cf base v (.cons 21 x l) ds s hist chks := by kernel_rfl
theorem q54_3_10 : (d54_3 10).run cf base v l ds s hist chks = bV (doFieldAddr 0 (lkL 21 l poison)) fun x => (d54_3 11).run cf base v (.cons 22 x l) ds s hist chks := by kernel_rfl
theorem q54_3_11 : (d54_3 11).run cf base v l ds s hist chks = bDA (panicK 483 11 (atD a54_3 11) a54_3) cf base v ds (s :: hist) chks (doStore 1 (lkL 22 l poison) (lkL 20 l poison) s) fun x s2 => (d54_3 12).run cf base v l ds s2 (s :: hist) chks := by kernel_rfl
theorem q54_3_12 : (d54_3 12).run cf base v l ds s hist chks = bif' (allK (chkOk (lenK hist) (s :: hist)) chks) (.normal v l ds s) (.fail "draw: it hangs on the order") := by kernel_rfl
noncomputable def o54_4 := oR Pz 483 24 (subC b54 [1, 0, 0, 1, 1, 1])
theorem q54_4_0 : (o54_4 0).run cf v l ds s = bV (doBin Pz .add (binK .add) .bad 3 (.tmp 8) (.const (.int .i64 1)) (lkL 8 v poison) (.int .i64 1) s) fun x0 => (o54_4 2).run cf (setL 8 x0 v) (.cons 23 x0 l) ds s := by kernel_rfl
theorem q54_4_2 : (o54_4 2).run cf v l ds s = .normal v l ds s := by kernel_rfl
noncomputable def l54_5 (lf : Nat) (cf : CF) (v l : L) (ds : DS) (s : AS) : Out := seqK ((o54_1 0).run cf v .nil ds s) fun v l ds s => seqK (condK (lkL 9 l poison) (.normal v l ds s) (.exit 0 v l ds s)) fun v l ds s => seqK (blockK 1 (seqK ((o54_2 0).run cf v .nil ds s) fun v l ds s => (d54_3 0).run cf s.next v .nil ds s [] [])) fun v l ds s => (o54_4 0).run cf v .nil ds s
noncomputable def c54 (lf : Nat) (cf : CF) (v l : L) (ds : DS) (s : AS) : Out := seqK ((o54_0 0).run cf v .nil ds s) fun v l ds s => blockK 0 (iterK (l54_5 lf cf) lf v l ds s)
theorem fn54 (a0 a1 : Value) : (fnK Pz masks lf 54).run cf [a0, a1] s = afterBody Pz masks 483 cf lf Go.Proofs.Tryz.f54 (c54 lf cf (.cons 0 a0 (.cons 1 a1 .nil)) .nil [] s) := by
  rw [fnK_of (P := Pz) Go.Proofs.Tryz.func54 (show Go.Proofs.Tryz.f54.body = some b54 by kernel_rfl), show masks 54 = 483 by kernel_rfl]; kernel_rfl
end Go.Proofs.YtbbknbmmpkpgdaaGreatDoor.KAb
namespace Go.Proofs.YtbbknbmmpkpgdaaGreatDoor.KAb
variable (lf : Nat) (cf : CF) (base : Nat) (v l : L) (ds : DS) (s : AS) (hist : List AS) (chks : List Chk)
/-! 48: (*assize/frontier.reader).number -/
noncomputable def b48 : Code := match Go.Proofs.Tryz.f48.body with | some c => c | none => .skip
noncomputable def o48_0 := oR Pz 243 45 (subC b48 [0])
theorem q48_0_0 : (o48_0 0).run cf v l ds s = (o48_0 1).run cf (setL 4 (.int .i64 0) v) l ds s := by kernel_rfl
theorem q48_0_1 : (o48_0 1).run cf v l ds s = .normal v l ds s := by kernel_rfl
noncomputable def o48_1 := oR Pz 243 45 (subC b48 [1, 0])
theorem q48_1_0 : (o48_1 0).run cf v l ds s = bV (doNilCheck (lkL 0 v poison)) fun x1 => bV (doFieldAddr 0 x1) fun x2 => bV (load1 x2 s) fun x3 => bC v (.cons 12 x3 (.cons 11 x2 (.cons 10 x1 (.cons 9 (lkL 0 v poison) l)))) ds (cf.call 103 [x3] s) fun x4 s => bV (doExtract x4 0) fun x6 => bV (doExtract x4 1) fun x7 => bV (doExtract x4 2) fun x8 => (o48_1 10).run cf (setL 5 x6 v) (.cons 16 x8 (.cons 15 x7 (.cons 14 x6 (.cons 8 x4 (.cons 13 x4 (.cons 12 x3 (.cons 11 x2 (.cons 10 x1 (.cons 9 (lkL 0 v poison) l))))))))) ds s := by kernel_rfl
theorem q48_1_10 : (o48_1 10).run cf v l ds s = (o48_1 11).run cf (setL 6 (lkL 15 l poison) v) l ds s := by kernel_rfl
theorem q48_1_11 : (o48_1 11).run cf v l ds s = (o48_1 12).run cf (setL 7 (lkL 16 l poison) v) l ds s := by kernel_rfl
theorem q48_1_12 : (o48_1 12).run cf v l ds s = .normal v l ds s := by kernel_rfl
noncomputable def o48_2 := oR Pz 243 45 (subC b48 [1, 1, 0, 0])
theorem q48_2_0 : (o48_2 0).run cf v l ds s = bV (doNilCheck (lkL 0 v poison)) fun x1 => bV (doFieldAddr 1 x1) fun x2 => bV (load1 x2 s) fun x3 => (o48_2 5).run cf v (.cons 21 x3 (.cons 20 x3 (.cons 19 x2 (.cons 18 x1 (.cons 17 (lkL 0 v poison) l))))) ds s := by kernel_rfl
theorem q48_2_5 : (o48_2 5).run cf v l ds s = guardRun (wantB false (lkL 21 l poison)) ((o48_2 6).run cf v (.cons 22 (lkL 7 v poison) l) ds s) ((o48_2 6).run cf v (.cons 22 undef l) ds s) := by kernel_rfl
theorem q48_2_6 : (o48_2 6).run cf v l ds s = guardRun (wantB false (lkL 21 l poison)) (bV (doBin Pz .neq (binK .neq) .bad 28 (.tmp 22) (.const (.int .i64 0)) (lkL 22 l poison) (.int .i64 0) s) fun x6 => (o48_2 7).run cf v (.cons 23 x6 l) ds s) ((o48_2 7).run cf v (.cons 23 undef l) ds s) := by kernel_rfl
theorem q48_2_7 : (o48_2 7).run cf v l ds s = bV (doPick (lkL 21 l poison) (.bool true) (lkL 23 l poison)) fun x7 => (o48_2 9).run cf v (.cons 25 x7 (.cons 24 x7 l)) ds s := by kernel_rfl
theorem q48_2_9 : (o48_2 9).run cf v l ds s = guardRun (wantB false (lkL 25 l poison)) ((o48_2 10).run cf v (.cons 26 (lkL 5 v poison) l) ds s) ((o48_2 10).run cf v (.cons 26 undef l) ds s) := by kernel_rfl
theorem q48_2_10 : (o48_2 10).run cf v l ds s = guardRun (wantB false (lkL 25 l poison)) ((o48_2 11).run cf v (.cons 27 (lkL 1 v poison) l) ds s) ((o48_2 11).run cf v (.cons 27 undef l) ds s) := by kernel_rfl
theorem q48_2_11 : (o48_2 11).run cf v l ds s = guardRun (wantB false (lkL 25 l poison)) (bV (convInt Pz 3 62 .u64 (lkL 27 l poison)) fun x11 => (o48_2 12).run cf v (.cons 28 x11 l) ds s) ((o48_2 12).run cf v (.cons 28 undef l) ds s) := by kernel_rfl
theorem q48_2_12 : (o48_2 12).run cf v l ds s = guardRun (wantB false (lkL 25 l poison)) (bV (doBin Pz .gtr (binK .gtr) .bad 62 (.tmp 26) (.tmp 28) (lkL 26 l poison) (lkL 28 l poison) s) fun x12 => (o48_2 13).run cf v (.cons 29 x12 l) ds s) ((o48_2 13).run cf v (.cons 29 undef l) ds s) := by kernel_rfl
theorem q48_2_13 : (o48_2 13).run cf v l ds s = bV (doPick (lkL 25 l poison) (.bool true) (lkL 29 l poison)) fun x13 => (o48_2 14).run cf v (.cons 30 x13 l) ds s := by kernel_rfl
theorem q48_2_14 : (o48_2 14).run cf v l ds s = .normal v l ds s := by kernel_rfl
noncomputable def o48_3 := oR Pz 243 45 (subC b48 [1, 1, 0, 1, 0, 0])
theorem q48_3_0 : (o48_3 0).run cf v l ds s = bV (doNilCheck (lkL 0 v poison)) fun x1 => bV (doFieldAddr 1 x1) fun x2 => bA cf v (.cons 33 x2 (.cons 32 x1 (.cons 31 (lkL 0 v poison) l))) ds (doStore 1 x2 (.bool true) s) fun ds x3 s => (o48_3 4).run cf v (.cons 33 x2 (.cons 32 x1 (.cons 31 (lkL 0 v poison) l))) ds s := by kernel_rfl
theorem q48_3_4 : (o48_3 4).run cf v l ds s = .normal v l ds s := by kernel_rfl
noncomputable def o48_4 := oR Pz 243 45 (subC b48 [1, 1, 0, 1, 0, 1, 0])
theorem q48_4_0 : (o48_4 0).run cf v l ds s = (o48_4 1).run cf (setL 4 (.int .i64 0) v) l ds s := by kernel_rfl
theorem q48_4_1 : (o48_4 1).run cf v l ds s = .normal v l ds s := by kernel_rfl
noncomputable def o48_5 := oR Pz 243 45 (subC b48 [1, 1, 1, 0])
theorem q48_5_0 : (o48_5 0).run cf v l ds s = bV (doNilCheck (lkL 0 v poison)) fun x2 => bV (doFieldAddr 0 x2) fun x3 => bV (load1 x3 s) fun x4 => bV (doSlice Pz (.slice 1) x4 (some (lkL 6 v poison)) none none s) fun x6 => bV (doNilCheck (lkL 0 v poison)) fun x7 => bV (doFieldAddr 0 x7) fun x8 => bA cf v (.cons 42 x8 (.cons 41 x7 (.cons 40 x6 (.cons 39 (lkL 6 v poison) (.cons 38 x4 (.cons 37 x3 (.cons 36 x2 (.cons 35 (lkL 0 v poison) (.cons 34 (lkL 0 v poison) l))))))))) ds (doStore 1 x8 x6 s) fun ds x9 s => (o48_5 10).run cf v (.cons 42 x8 (.cons 41 x7 (.cons 40 x6 (.cons 39 (lkL 6 v poison) (.cons 38 x4 (.cons 37 x3 (.cons 36 x2 (.cons 35 (lkL 0 v poison) (.cons 34 (lkL 0 v poison) l))))))))) ds s := by kernel_rfl
theorem q48_5_10 : (o48_5 10).run cf v l ds s = .normal v l ds s := by kernel_rfl
noncomputable def o48_6 := oR Pz 243 45 (subC b48 [1, 1, 1, 1, 0])
theorem q48_6_0 : (o48_6 0).run cf v l ds s = bV (convInt Pz 62 3 .i64 (lkL 5 v poison)) fun x1 => (o48_6 3).run cf (setL 4 x1 v) (.cons 44 x1 (.cons 43 (lkL 5 v poison) l)) ds s := by kernel_rfl
theorem q48_6_3 : (o48_6 3).run cf v l ds s = .normal v l ds s := by kernel_rfl
noncomputable def c48 (lf : Nat) (cf : CF) (v l : L) (ds : DS) (s : AS) : Out := seqK ((o48_0 0).run cf v .nil ds s) fun v l ds s => seqK ((o48_1 0).run cf v .nil ds s) fun v l ds s => seqK (seqK ((o48_2 0).run cf v .nil ds s) fun v l ds s => condK (lkL 30 l poison) (seqK ((o48_3 0).run cf v .nil ds s) fun v l ds s => seqK ((o48_4 0).run cf v .nil ds s) fun v l ds s => .ret v l ds s) (.normal v l ds s)) fun v l ds s => seqK ((o48_5 0).run cf v .nil ds s) fun v l ds s => seqK ((o48_6 0).run cf v .nil ds s) fun v l ds s => .ret v l ds s
theorem fn48 (a0 a1 : Value) : (fnK Pz masks lf 48).run cf [a0, a1] s = afterBody Pz masks 243 cf lf Go.Proofs.Tryz.f48 (c48 lf cf (.cons 0 a0 (.cons 1 a1 .nil)) .nil [] s) := by
  rw [fnK_of (P := Pz) Go.Proofs.Tryz.func48 (show Go.Proofs.Tryz.f48.body = some b48 by kernel_rfl), show masks 48 = 243 by kernel_rfl]; kernel_rfl
/-! 49: (*assize/frontier.scan).whole -/
noncomputable def b49 : Code := match Go.Proofs.Tryz.f49.body with | some c => c | none => .skip
noncomputable def o49_0 := oR Pz 5 18 (subC b49 [0])
theorem q49_0_0 : (o49_0 0).run cf v l ds s = (o49_0 1).run cf (setL 2 (.bool false) v) l ds s := by kernel_rfl
theorem q49_0_1 : (o49_0 1).run cf v l ds s = .normal v l ds s := by kernel_rfl
noncomputable def o49_1 := oR Pz 5 18 (subC b49 [1, 0])
theorem q49_1_0 : (o49_1 0).run cf v l ds s = bV (doNilCheck (lkL 0 v poison)) fun x1 => bV (doFieldAddr 0 x1) fun x2 => bV (doFieldAddr 1 x2) fun x3 => bV (load1 x3 s) fun x4 => bV (doUn Pz .not x4) fun x5 => (o49_1 7).run cf v (.cons 9 x5 (.cons 8 x5 (.cons 7 x4 (.cons 6 x3 (.cons 5 x2 (.cons 4 x1 (.cons 3 (lkL 0 v poison) l))))))) ds s := by kernel_rfl
theorem q49_1_7 : (o49_1 7).run cf v l ds s = guardRun (wantB true (lkL 9 l poison)) ((o49_1 8).run cf v (.cons 10 (lkL 0 v poison) l) ds s) ((o49_1 8).run cf v (.cons 10 undef l) ds s) := by kernel_rfl
theorem q49_1_8 : (o49_1 8).run cf v l ds s = guardRun (wantB true (lkL 9 l poison)) (bV (doNilCheck (lkL 10 l poison)) fun x8 => (o49_1 9).run cf v (.cons 11 x8 l) ds s) ((o49_1 9).run cf v (.cons 11 undef l) ds s) := by kernel_rfl
theorem q49_1_9 : (o49_1 9).run cf v l ds s = guardRun (wantB true (lkL 9 l poison)) (bV (doFieldAddr 0 (lkL 11 l poison)) fun x9 => (o49_1 10).run cf v (.cons 12 x9 l) ds s) ((o49_1 10).run cf v (.cons 12 undef l) ds s) := by kernel_rfl
theorem q49_1_10 : (o49_1 10).run cf v l ds s = guardRun (wantB true (lkL 9 l poison)) (bV (doFieldAddr 0 (lkL 12 l poison)) fun x10 => (o49_1 11).run cf v (.cons 13 x10 l) ds s) ((o49_1 11).run cf v (.cons 13 undef l) ds s) := by kernel_rfl
theorem q49_1_11 : (o49_1 11).run cf v l ds s = guardRun (wantB true (lkL 9 l poison)) (bV (load1 (lkL 13 l poison) s) fun x11 => (o49_1 12).run cf v (.cons 14 x11 l) ds s) ((o49_1 12).run cf v (.cons 14 undef l) ds s) := by kernel_rfl
theorem q49_1_12 : (o49_1 12).run cf v l ds s = guardRun (wantB true (lkL 9 l poison)) (bV (doLen .slice (lkL 14 l poison) s) fun x12 => (o49_1 13).run cf v (.cons 15 x12 l) ds s) ((o49_1 13).run cf v (.cons 15 undef l) ds s) := by kernel_rfl
theorem q49_1_13 : (o49_1 13).run cf v l ds s = guardRun (wantB true (lkL 9 l poison)) (bV (doBin Pz .eql (binK .eql) .bad 3 (.tmp 15) (.const (.int .i64 0)) (lkL 15 l poison) (.int .i64 0) s) fun x13 => (o49_1 14).run cf v (.cons 16 x13 l) ds s) ((o49_1 14).run cf v (.cons 16 undef l) ds s) := by kernel_rfl
theorem q49_1_14 : (o49_1 14).run cf v l ds s = bV (doPick (lkL 9 l poison) (lkL 16 l poison) (.bool false)) fun x14 => (o49_1 16).run cf (setL 2 x14 v) (.cons 17 x14 l) ds s := by kernel_rfl
theorem q49_1_16 : (o49_1 16).run cf v l ds s = .normal v l ds s := by kernel_rfl
noncomputable def c49 (lf : Nat) (cf : CF) (v l : L) (ds : DS) (s : AS) : Out := seqK ((o49_0 0).run cf v .nil ds s) fun v l ds s => seqK ((o49_1 0).run cf v .nil ds s) fun v l ds s => .ret v l ds s
theorem fn49 (a0 : Value) : (fnK Pz masks lf 49).run cf [a0] s = afterBody Pz masks 5 cf lf Go.Proofs.Tryz.f49 (c49 lf cf (.cons 0 a0 .nil) .nil [] s) := by
  rw [fnK_of (P := Pz) Go.Proofs.Tryz.func49 (show Go.Proofs.Tryz.f49.body = some b49 by kernel_rfl), show masks 49 = 5 by kernel_rfl]; kernel_rfl
/-! 45: assize/frontier.verdict -/
noncomputable def b45 : Code := match Go.Proofs.Tryz.f45.body with | some c => c | none => .skip
noncomputable def o45_0 := oR Pz 15 65 (subC b45 [0])
theorem q45_0_0 : (o45_0 0).run cf v l ds s = bA cf v l ds (doBox 36 (lkL 0 v poison) s) fun ds x0 s => (o45_0 1).run cf (setL 1 x0 v) l ds s := by kernel_rfl
theorem q45_0_1 : (o45_0 1).run cf v l ds s = (o45_0 2).run cf (setL 2 (.bool false) v) l ds s := by kernel_rfl
theorem q45_0_2 : (o45_0 2).run cf v l ds s = .normal v l ds s := by kernel_rfl
noncomputable def o45_1 := oR Pz 15 65 (subC b45 [1, 0, 0])
theorem q45_1_0 : (o45_1 0).run cf v l ds s = bV (doFieldAddr 0 (lkL 1 v poison)) fun x0 => bV (load1 x0 s) fun x1 => bV (doBin Pz .lss (binK .lss) .bad 3 (.tmp 5) (.const (.int .i64 0)) x1 (.int .i64 0) s) fun x2 => (o45_1 4).run cf v (.cons 7 x2 (.cons 6 x2 (.cons 5 x1 (.cons 4 x0 l)))) ds s := by kernel_rfl
theorem q45_1_4 : (o45_1 4).run cf v l ds s = guardRun (wantB false (lkL 7 l poison)) (bV (doFieldAddr 0 (lkL 1 v poison)) fun x4 => (o45_1 5).run cf v (.cons 8 x4 l) ds s) ((o45_1 5).run cf v (.cons 8 undef l) ds s) := by kernel_rfl
theorem q45_1_5 : (o45_1 5).run cf v l ds s = guardRun (wantB false (lkL 7 l poison)) (bV (load1 (lkL 8 l poison) s) fun x5 => (o45_1 6).run cf v (.cons 9 x5 l) ds s) ((o45_1 6).run cf v (.cons 9 undef l) ds s) := by kernel_rfl
theorem q45_1_6 : (o45_1 6).run cf v l ds s = guardRun (wantB false (lkL 7 l poison)) (bV (doBin Pz .gtr (binK .gtr) .bad 3 (.tmp 9) (.const (.int .i64 3)) (lkL 9 l poison) (.int .i64 3) s) fun x6 => (o45_1 7).run cf v (.cons 10 x6 l) ds s) ((o45_1 7).run cf v (.cons 10 undef l) ds s) := by kernel_rfl
theorem q45_1_7 : (o45_1 7).run cf v l ds s = bV (doPick (lkL 7 l poison) (.bool true) (lkL 10 l poison)) fun x7 => (o45_1 8).run cf v (.cons 11 x7 l) ds s := by kernel_rfl
theorem q45_1_8 : (o45_1 8).run cf v l ds s = .normal v l ds s := by kernel_rfl
noncomputable def o45_2 := oR Pz 15 65 (subC b45 [1, 0, 1, 0, 0])
theorem q45_2_0 : (o45_2 0).run cf v l ds s = (o45_2 1).run cf (setL 2 (.bool false) v) l ds s := by kernel_rfl
theorem q45_2_1 : (o45_2 1).run cf v l ds s = .normal v l ds s := by kernel_rfl
noncomputable def o45_3 := oR Pz 15 65 (subC b45 [1, 1, 0, 0])
theorem q45_3_0 : (o45_3 0).run cf v l ds s = bV (doFieldAddr 0 (lkL 1 v poison)) fun x0 => bV (load1 x0 s) fun x1 => bV (doBin Pz .neq (binK .neq) .bad 3 (.tmp 13) (.const (.int .i64 2)) x1 (.int .i64 2) s) fun x2 => (o45_3 3).run cf v (.cons 14 x2 (.cons 13 x1 (.cons 12 x0 l))) ds s := by kernel_rfl
theorem q45_3_3 : (o45_3 3).run cf v l ds s = .normal v l ds s := by kernel_rfl
noncomputable def o45_4 := oR Pz 15 65 (subC b45 [1, 1, 0, 1, 0, 0])
theorem q45_4_0 : (o45_4 0).run cf v l ds s = bV (doFieldAddr 1 (lkL 1 v poison)) fun x0 => bV (load1 x0 s) fun x1 => bV (doBin Pz .eql (binK .eql) .bad 3 (.tmp 16) (.const (.int .i64 0)) x1 (.int .i64 0) s) fun x2 => (o45_4 4).run cf v (.cons 18 x2 (.cons 17 x2 (.cons 16 x1 (.cons 15 x0 l)))) ds s := by kernel_rfl
theorem q45_4_4 : (o45_4 4).run cf v l ds s = guardRun (wantB true (lkL 18 l poison)) (bV (doFieldAddr 2 (lkL 1 v poison)) fun x4 => (o45_4 5).run cf v (.cons 19 x4 l) ds s) ((o45_4 5).run cf v (.cons 19 undef l) ds s) := by kernel_rfl
theorem q45_4_5 : (o45_4 5).run cf v l ds s = guardRun (wantB true (lkL 18 l poison)) (bV (load1 (lkL 19 l poison) s) fun x5 => (o45_4 6).run cf v (.cons 20 x5 l) ds s) ((o45_4 6).run cf v (.cons 20 undef l) ds s) := by kernel_rfl
theorem q45_4_6 : (o45_4 6).run cf v l ds s = guardRun (wantB true (lkL 18 l poison)) (bV (doBin Pz .eql (binK .eql) .bad 3 (.tmp 20) (.const (.int .i64 0)) (lkL 20 l poison) (.int .i64 0) s) fun x6 => (o45_4 7).run cf v (.cons 21 x6 l) ds s) ((o45_4 7).run cf v (.cons 21 undef l) ds s) := by kernel_rfl
theorem q45_4_7 : (o45_4 7).run cf v l ds s = bV (doPick (lkL 18 l poison) (lkL 21 l poison) (.bool false)) fun x7 => (o45_4 9).run cf v (.cons 23 x7 (.cons 22 x7 l)) ds s := by kernel_rfl
theorem q45_4_9 : (o45_4 9).run cf v l ds s = guardRun (wantB true (lkL 23 l poison)) (bV (doFieldAddr 3 (lkL 1 v poison)) fun x9 => (o45_4 10).run cf v (.cons 24 x9 l) ds s) ((o45_4 10).run cf v (.cons 24 undef l) ds s) := by kernel_rfl
theorem q45_4_10 : (o45_4 10).run cf v l ds s = guardRun (wantB true (lkL 23 l poison)) (bV (load1 (lkL 24 l poison) s) fun x10 => (o45_4 11).run cf v (.cons 25 x10 l) ds s) ((o45_4 11).run cf v (.cons 25 undef l) ds s) := by kernel_rfl
theorem q45_4_11 : (o45_4 11).run cf v l ds s = guardRun (wantB true (lkL 23 l poison)) (bV (doLen .slice (lkL 25 l poison) s) fun x11 => (o45_4 12).run cf v (.cons 26 x11 l) ds s) ((o45_4 12).run cf v (.cons 26 undef l) ds s) := by kernel_rfl
theorem q45_4_12 : (o45_4 12).run cf v l ds s = guardRun (wantB true (lkL 23 l poison)) (bV (doBin Pz .eql (binK .eql) .bad 3 (.tmp 26) (.const (.int .i64 0)) (lkL 26 l poison) (.int .i64 0) s) fun x12 => (o45_4 13).run cf v (.cons 27 x12 l) ds s) ((o45_4 13).run cf v (.cons 27 undef l) ds s) := by kernel_rfl
theorem q45_4_13 : (o45_4 13).run cf v l ds s = bV (doPick (lkL 23 l poison) (lkL 27 l poison) (.bool false)) fun x13 => (o45_4 15).run cf (setL 2 x13 v) (.cons 28 x13 l) ds s := by kernel_rfl
theorem q45_4_15 : (o45_4 15).run cf v l ds s = .normal v l ds s := by kernel_rfl
noncomputable def o45_5 := oR Pz 15 65 (subC b45 [1, 1, 1, 0])
theorem q45_5_0 : (o45_5 0).run cf v l ds s = bV (doFieldAddr 2 (lkL 1 v poison)) fun x0 => bV (load1 x0 s) fun x1 => bV (doBin Pz .geq (binK .geq) .bad 3 (.tmp 30) (.const (.int .i64 0)) x1 (.int .i64 0) s) fun x2 => (o45_5 4).run cf v (.cons 32 x2 (.cons 31 x2 (.cons 30 x1 (.cons 29 x0 l)))) ds s := by kernel_rfl
theorem q45_5_4 : (o45_5 4).run cf v l ds s = guardRun (wantB true (lkL 32 l poison)) (bV (doFieldAddr 2 (lkL 1 v poison)) fun x4 => (o45_5 5).run cf v (.cons 33 x4 l) ds s) ((o45_5 5).run cf v (.cons 33 undef l) ds s) := by kernel_rfl
theorem q45_5_5 : (o45_5 5).run cf v l ds s = guardRun (wantB true (lkL 32 l poison)) (bV (load1 (lkL 33 l poison) s) fun x5 => (o45_5 6).run cf v (.cons 34 x5 l) ds s) ((o45_5 6).run cf v (.cons 34 undef l) ds s) := by kernel_rfl
theorem q45_5_6 : (o45_5 6).run cf v l ds s = guardRun (wantB true (lkL 32 l poison)) (bV (doBin Pz .lss (binK .lss) .bad 3 (.tmp 34) (.const (.int .i64 16)) (lkL 34 l poison) (.int .i64 16) s) fun x6 => (o45_5 7).run cf v (.cons 35 x6 l) ds s) ((o45_5 7).run cf v (.cons 35 undef l) ds s) := by kernel_rfl
theorem q45_5_7 : (o45_5 7).run cf v l ds s = bV (doPick (lkL 32 l poison) (lkL 35 l poison) (.bool false)) fun x7 => (o45_5 9).run cf (setL 3 x7 v) (.cons 36 x7 l) ds s := by kernel_rfl
theorem q45_5_9 : (o45_5 9).run cf v l ds s = .normal v l ds s := by kernel_rfl
noncomputable def o45_6 := oR Pz 15 65 (subC b45 [1, 1, 1, 1, 0, 0])
theorem q45_6_0 : (o45_6 0).run cf v l ds s = bV (doFieldAddr 1 (lkL 1 v poison)) fun x0 => bV (load1 x0 s) fun x1 => bV (doBin Pz .eql (binK .eql) .bad 3 (.tmp 38) (.const (.int .i64 4)) x1 (.int .i64 4) s) fun x2 => (o45_6 3).run cf v (.cons 39 x2 (.cons 38 x1 (.cons 37 x0 l))) ds s := by kernel_rfl
theorem q45_6_3 : (o45_6 3).run cf v l ds s = .normal v l ds s := by kernel_rfl
noncomputable def o45_7 := oR Pz 15 65 (subC b45 [1, 1, 1, 1, 0, 1, 0])
theorem q45_7_0 : (o45_7 0).run cf v l ds s = bV (doFieldAddr 2 (lkL 1 v poison)) fun x0 => bV (load1 x0 s) fun x1 => bV (doBin Pz .eql (binK .eql) .bad 3 (.tmp 41) (.const (.int .i64 (-1))) x1 (.int .i64 (-1)) s) fun x2 => (o45_7 4).run cf (setL 3 x2 v) (.cons 42 x2 (.cons 41 x1 (.cons 40 x0 l))) ds s := by kernel_rfl
theorem q45_7_4 : (o45_7 4).run cf v l ds s = .normal v l ds s := by kernel_rfl
noncomputable def o45_8 := oR Pz 15 65 (subC b45 [1, 1, 1, 1, 1, 0])
theorem q45_8_0 : (o45_8 0).run cf v l ds s = bV (doFieldAddr 1 (lkL 1 v poison)) fun x0 => bV (load1 x0 s) fun x1 => bV (doBin Pz .geq (binK .geq) .bad 3 (.tmp 44) (.const (.int .i64 2)) x1 (.int .i64 2) s) fun x2 => (o45_8 4).run cf v (.cons 46 x2 (.cons 45 x2 (.cons 44 x1 (.cons 43 x0 l)))) ds s := by kernel_rfl
theorem q45_8_4 : (o45_8 4).run cf v l ds s = guardRun (wantB true (lkL 46 l poison)) (bV (doFieldAddr 1 (lkL 1 v poison)) fun x4 => (o45_8 5).run cf v (.cons 47 x4 l) ds s) ((o45_8 5).run cf v (.cons 47 undef l) ds s) := by kernel_rfl
theorem q45_8_5 : (o45_8 5).run cf v l ds s = guardRun (wantB true (lkL 46 l poison)) (bV (load1 (lkL 47 l poison) s) fun x5 => (o45_8 6).run cf v (.cons 48 x5 l) ds s) ((o45_8 6).run cf v (.cons 48 undef l) ds s) := by kernel_rfl
theorem q45_8_6 : (o45_8 6).run cf v l ds s = guardRun (wantB true (lkL 46 l poison)) (bV (doBin Pz .leq (binK .leq) .bad 3 (.tmp 48) (.const (.int .i64 5)) (lkL 48 l poison) (.int .i64 5) s) fun x6 => (o45_8 7).run cf v (.cons 49 x6 l) ds s) ((o45_8 7).run cf v (.cons 49 undef l) ds s) := by kernel_rfl
theorem q45_8_7 : (o45_8 7).run cf v l ds s = bV (doPick (lkL 46 l poison) (lkL 49 l poison) (.bool false)) fun x7 => (o45_8 9).run cf v (.cons 51 x7 (.cons 50 x7 l)) ds s := by kernel_rfl
theorem q45_8_9 : (o45_8 9).run cf v l ds s = guardRun (wantB true (lkL 51 l poison)) ((o45_8 10).run cf v (.cons 52 (lkL 3 v poison) l) ds s) ((o45_8 10).run cf v (.cons 52 undef l) ds s) := by kernel_rfl
theorem q45_8_10 : (o45_8 10).run cf v l ds s = bV (doPick (lkL 51 l poison) (lkL 52 l poison) (.bool false)) fun x10 => (o45_8 12).run cf v (.cons 54 x10 (.cons 53 x10 l)) ds s := by kernel_rfl
theorem q45_8_12 : (o45_8 12).run cf v l ds s = guardRun (wantB true (lkL 54 l poison)) (bV (doFieldAddr 3 (lkL 1 v poison)) fun x12 => (o45_8 13).run cf v (.cons 55 x12 l) ds s) ((o45_8 13).run cf v (.cons 55 undef l) ds s) := by kernel_rfl
theorem q45_8_13 : (o45_8 13).run cf v l ds s = guardRun (wantB true (lkL 54 l poison)) (bV (load1 (lkL 55 l poison) s) fun x13 => (o45_8 14).run cf v (.cons 56 x13 l) ds s) ((o45_8 14).run cf v (.cons 56 undef l) ds s) := by kernel_rfl
theorem q45_8_14 : (o45_8 14).run cf v l ds s = guardRun (wantB true (lkL 54 l poison)) (bV (doLen .slice (lkL 56 l poison) s) fun x14 => (o45_8 15).run cf v (.cons 57 x14 l) ds s) ((o45_8 15).run cf v (.cons 57 undef l) ds s) := by kernel_rfl
theorem q45_8_15 : (o45_8 15).run cf v l ds s = guardRun (wantB true (lkL 54 l poison)) (bV (doBin Pz .leq (binK .leq) .bad 3 (.tmp 57) (.const (.int .i64 1048577)) (lkL 57 l poison) (.int .i64 1048577) s) fun x15 => (o45_8 16).run cf v (.cons 58 x15 l) ds s) ((o45_8 16).run cf v (.cons 58 undef l) ds s) := by kernel_rfl
theorem q45_8_16 : (o45_8 16).run cf v l ds s = bV (doPick (lkL 54 l poison) (lkL 58 l poison) (.bool false)) fun x16 => (o45_8 18).run cf v (.cons 60 x16 (.cons 59 x16 l)) ds s := by kernel_rfl
theorem q45_8_18 : (o45_8 18).run cf v l ds s = guardRun (wantB true (lkL 60 l poison)) (bV (doFieldAddr 3 (lkL 1 v poison)) fun x18 => (o45_8 19).run cf v (.cons 61 x18 l) ds s) ((o45_8 19).run cf v (.cons 61 undef l) ds s) := by kernel_rfl
theorem q45_8_19 : (o45_8 19).run cf v l ds s = guardRun (wantB true (lkL 60 l poison)) (bV (load1 (lkL 61 l poison) s) fun x19 => (o45_8 20).run cf v (.cons 62 x19 l) ds s) ((o45_8 20).run cf v (.cons 62 undef l) ds s) := by kernel_rfl
theorem q45_8_20 : (o45_8 20).run cf v l ds s = guardRun (wantB true (lkL 60 l poison)) (bC v l ds (cf.call 102 [(lkL 62 l poison), (.int .i64 0), (.int .i64 15)] s) fun x20 s => (o45_8 21).run cf v (.cons 63 x20 l) ds s) ((o45_8 21).run cf v (.cons 63 undef l) ds s) := by kernel_rfl
theorem q45_8_21 : (o45_8 21).run cf v l ds s = bV (doPick (lkL 60 l poison) (lkL 63 l poison) (.bool false)) fun x21 => (o45_8 23).run cf (setL 2 x21 v) (.cons 64 x21 l) ds s := by kernel_rfl
theorem q45_8_23 : (o45_8 23).run cf v l ds s = .normal v l ds s := by kernel_rfl
noncomputable def c45 (lf : Nat) (cf : CF) (v l : L) (ds : DS) (s : AS) : Out := seqK ((o45_0 0).run cf v .nil ds s) fun v l ds s => seqK (seqK ((o45_1 0).run cf v .nil ds s) fun v l ds s => condK (lkL 11 l poison) (seqK ((o45_2 0).run cf v .nil ds s) fun v l ds s => .ret v l ds s) (.normal v l ds s)) fun v l ds s => seqK (seqK ((o45_3 0).run cf v .nil ds s) fun v l ds s => condK (lkL 14 l poison) (seqK ((o45_4 0).run cf v .nil ds s) fun v l ds s => .ret v l ds s) (.normal v l ds s)) fun v l ds s => seqK ((o45_5 0).run cf v .nil ds s) fun v l ds s => seqK (seqK ((o45_6 0).run cf v .nil ds s) fun v l ds s => condK (lkL 39 l poison) ((o45_7 0).run cf v .nil ds s) (.normal v l ds s)) fun v l ds s => seqK ((o45_8 0).run cf v .nil ds s) fun v l ds s => .ret v l ds s
theorem fn45 (a0 : Value) : (fnK Pz masks lf 45).run cf [a0] s = afterBody Pz masks 15 cf lf Go.Proofs.Tryz.f45 (c45 lf cf (.cons 0 a0 .nil) .nil [] s) := by
  rw [fnK_of (P := Pz) Go.Proofs.Tryz.func45 (show Go.Proofs.Tryz.f45.body = some b45 by kernel_rfl), show masks 45 = 15 by kernel_rfl]; kernel_rfl
/-! 50: assize/frontier.frontier -/
noncomputable def b50 : Code := match Go.Proofs.Tryz.f50.body with | some c => c | none => .skip
noncomputable def o50_0 := oR Pz 15 74 (subC b50 [0])
theorem q50_0_0 : (o50_0 0).run cf v l ds s = bA cf v l ds (doBox 38 (lkL 0 v poison) s) fun ds x0 s => (o50_0 1).run cf (setL 1 x0 v) l ds s := by kernel_rfl
theorem q50_0_1 : (o50_0 1).run cf v l ds s = (o50_0 2).run cf (setL 2 (.bool false) v) l ds s := by kernel_rfl
theorem q50_0_2 : (o50_0 2).run cf v l ds s = .normal v l ds s := by kernel_rfl
noncomputable def o50_1 := oR Pz 15 74 (subC b50 [1, 0, 0])
theorem q50_1_0 : (o50_1 0).run cf v l ds s = bV (doFieldAddr 6 (lkL 1 v poison)) fun x0 => bV (loadN 4 x0 s) fun x1 => bC v (.cons 5 x1 (.cons 4 x0 l)) ds (cf.call 45 [x1] s) fun x2 s => bV (doUn Pz .not x2) fun x3 => (o50_1 5).run cf v (.cons 8 x3 (.cons 7 x3 (.cons 6 x2 (.cons 5 x1 (.cons 4 x0 l))))) ds s := by kernel_rfl
theorem q50_1_5 : (o50_1 5).run cf v l ds s = guardRun (wantB false (lkL 8 l poison)) (bV (doFieldAddr 4 (lkL 1 v poison)) fun x5 => (o50_1 6).run cf v (.cons 9 x5 l) ds s) ((o50_1 6).run cf v (.cons 9 undef l) ds s) := by kernel_rfl
theorem q50_1_6 : (o50_1 6).run cf v l ds s = guardRun (wantB false (lkL 8 l poison)) (bV (load1 (lkL 9 l poison) s) fun x6 => (o50_1 7).run cf v (.cons 10 x6 l) ds s) ((o50_1 7).run cf v (.cons 10 undef l) ds s) := by kernel_rfl
theorem q50_1_7 : (o50_1 7).run cf v l ds s = guardRun (wantB false (lkL 8 l poison)) (bV (doFieldAddr 5 (lkL 1 v poison)) fun x7 => (o50_1 8).run cf v (.cons 11 x7 l) ds s) ((o50_1 8).run cf v (.cons 11 undef l) ds s) := by kernel_rfl
theorem q50_1_8 : (o50_1 8).run cf v l ds s = guardRun (wantB false (lkL 8 l poison)) (bV (load1 (lkL 11 l poison) s) fun x8 => (o50_1 9).run cf v (.cons 12 x8 l) ds s) ((o50_1 9).run cf v (.cons 12 undef l) ds s) := by kernel_rfl
theorem q50_1_9 : (o50_1 9).run cf v l ds s = guardRun (wantB false (lkL 8 l poison)) (bA cf v l ds (doBuildSlice 3 1 2 (zerosK [(.int .i64 0)] 2) [(0, (lkL 10 l poison)), (1, (lkL 12 l poison))] s) fun ds x9 s => (o50_1 10).run cf v (.cons 13 x9 l) ds s) ((o50_1 10).run cf v (.cons 13 undef l) ds s) := by kernel_rfl
theorem q50_1_10 : (o50_1 10).run cf v l ds s = guardRun (wantB false (lkL 8 l poison)) (bC v l ds (cf.call 102 [(lkL 13 l poison), (.int .i64 0), (.int .i64 4611686018427387904)] s) fun x10 s => (o50_1 11).run cf v (.cons 14 x10 l) ds s) ((o50_1 11).run cf v (.cons 14 undef l) ds s) := by kernel_rfl
theorem q50_1_11 : (o50_1 11).run cf v l ds s = guardRun (wantB false (lkL 8 l poison)) (bV (doUn Pz .not (lkL 14 l poison)) fun x11 => (o50_1 12).run cf v (.cons 15 x11 l) ds s) ((o50_1 12).run cf v (.cons 15 undef l) ds s) := by kernel_rfl
theorem q50_1_12 : (o50_1 12).run cf v l ds s = bV (doPick (lkL 8 l poison) (.bool true) (lkL 15 l poison)) fun x12 => (o50_1 13).run cf v (.cons 16 x12 l) ds s := by kernel_rfl
theorem q50_1_13 : (o50_1 13).run cf v l ds s = .normal v l ds s := by kernel_rfl
noncomputable def o50_2 := oR Pz 15 74 (subC b50 [1, 0, 1, 0, 0])
theorem q50_2_0 : (o50_2 0).run cf v l ds s = (o50_2 1).run cf (setL 2 (.bool false) v) l ds s := by kernel_rfl
theorem q50_2_1 : (o50_2 1).run cf v l ds s = .normal v l ds s := by kernel_rfl
noncomputable def o50_3 := oR Pz 15 74 (subC b50 [1, 1, 0])
theorem q50_3_0 : (o50_3 0).run cf v l ds s = bV (doFieldAddr 0 (lkL 1 v poison)) fun x0 => bV (load1 x0 s) fun x1 => bV (doLen .slice x1 s) fun x2 => (o50_3 4).run cf (setL 3 x2 v) (.cons 19 x2 (.cons 18 x1 (.cons 17 x0 l))) ds s := by kernel_rfl
theorem q50_3_4 : (o50_3 4).run cf v l ds s = .normal v l ds s := by kernel_rfl
noncomputable def o50_4 := oR Pz 15 74 (subC b50 [1, 1, 1, 0, 0])
theorem q50_4_0 : (o50_4 0).run cf v l ds s = bV (doFieldAddr 1 (lkL 1 v poison)) fun x0 => bV (load1 x0 s) fun x1 => bV (doLen .slice x1 s) fun x2 => bV (doBin Pz .neq (binK .neq) .bad 3 (.tmp 22) (.tmp 23) x2 (lkL 3 v poison) s) fun x4 => (o50_4 6).run cf v (.cons 25 x4 (.cons 24 x4 (.cons 23 (lkL 3 v poison) (.cons 22 x2 (.cons 21 x1 (.cons 20 x0 l)))))) ds s := by kernel_rfl
theorem q50_4_6 : (o50_4 6).run cf v l ds s = guardRun (wantB false (lkL 25 l poison)) (bV (doFieldAddr 2 (lkL 1 v poison)) fun x6 => (o50_4 7).run cf v (.cons 26 x6 l) ds s) ((o50_4 7).run cf v (.cons 26 undef l) ds s) := by kernel_rfl
theorem q50_4_7 : (o50_4 7).run cf v l ds s = guardRun (wantB false (lkL 25 l poison)) (bV (load1 (lkL 26 l poison) s) fun x7 => (o50_4 8).run cf v (.cons 27 x7 l) ds s) ((o50_4 8).run cf v (.cons 27 undef l) ds s) := by kernel_rfl
theorem q50_4_8 : (o50_4 8).run cf v l ds s = guardRun (wantB false (lkL 25 l poison)) (bV (doLen .slice (lkL 27 l poison) s) fun x8 => (o50_4 9).run cf v (.cons 28 x8 l) ds s) ((o50_4 9).run cf v (.cons 28 undef l) ds s) := by kernel_rfl
theorem q50_4_9 : (o50_4 9).run cf v l ds s = guardRun (wantB false (lkL 25 l poison)) ((o50_4 10).run cf v (.cons 29 (lkL 3 v poison) l) ds s) ((o50_4 10).run cf v (.cons 29 undef l) ds s) := by kernel_rfl
theorem q50_4_10 : (o50_4 10).run cf v l ds s = guardRun (wantB false (lkL 25 l poison)) (bV (doBin Pz .neq (binK .neq) .bad 3 (.tmp 28) (.tmp 29) (lkL 28 l poison) (lkL 29 l poison) s) fun x10 => (o50_4 11).run cf v (.cons 30 x10 l) ds s) ((o50_4 11).run cf v (.cons 30 undef l) ds s) := by kernel_rfl
theorem q50_4_11 : (o50_4 11).run cf v l ds s = bV (doPick (lkL 25 l poison) (.bool true) (lkL 30 l poison)) fun x11 => (o50_4 12).run cf v (.cons 31 x11 l) ds s := by kernel_rfl
theorem q50_4_12 : (o50_4 12).run cf v l ds s = .normal v l ds s := by kernel_rfl
noncomputable def o50_5 := oR Pz 15 74 (subC b50 [1, 1, 1, 0, 1, 0, 0])
theorem q50_5_0 : (o50_5 0).run cf v l ds s = (o50_5 1).run cf (setL 2 (.bool false) v) l ds s := by kernel_rfl
theorem q50_5_1 : (o50_5 1).run cf v l ds s = .normal v l ds s := by kernel_rfl
noncomputable def o50_6 := oR Pz 15 74 (subC b50 [1, 1, 1, 1, 0, 0])
theorem q50_6_0 : (o50_6 0).run cf v l ds s = bV (doFieldAddr 6 (lkL 1 v poison)) fun x0 => bV (doFieldAddr 0 x0) fun x1 => bV (load1 x1 s) fun x2 => bV (doBin Pz .neq (binK .neq) .bad 3 (.tmp 34) (.const (.int .i64 0)) x2 (.int .i64 0) s) fun x3 => (o50_6 4).run cf v (.cons 35 x3 (.cons 34 x2 (.cons 33 x1 (.cons 32 x0 l)))) ds s := by kernel_rfl
theorem q50_6_4 : (o50_6 4).run cf v l ds s = .normal v l ds s := by kernel_rfl
noncomputable def o50_7 := oR Pz 15 74 (subC b50 [1, 1, 1, 1, 0, 1, 0, 0])
theorem q50_7_0 : (o50_7 0).run cf v l ds s = bV (doBin Pz .eql (binK .eql) .bad 3 (.tmp 36) (.const (.int .i64 0)) (lkL 3 v poison) (.int .i64 0) s) fun x1 => (o50_7 3).run cf v (.cons 38 x1 (.cons 37 x1 (.cons 36 (lkL 3 v poison) l))) ds s := by kernel_rfl
theorem q50_7_3 : (o50_7 3).run cf v l ds s = guardRun (wantB true (lkL 38 l poison)) (bV (doFieldAddr 3 (lkL 1 v poison)) fun x3 => (o50_7 4).run cf v (.cons 39 x3 l) ds s) ((o50_7 4).run cf v (.cons 39 undef l) ds s) := by kernel_rfl
theorem q50_7_4 : (o50_7 4).run cf v l ds s = guardRun (wantB true (lkL 38 l poison)) (bV (load1 (lkL 39 l poison) s) fun x4 => (o50_7 5).run cf v (.cons 40 x4 l) ds s) ((o50_7 5).run cf v (.cons 40 undef l) ds s) := by kernel_rfl
theorem q50_7_5 : (o50_7 5).run cf v l ds s = guardRun (wantB true (lkL 38 l poison)) (bV (doBin Pz .eql (binK .eql) .bad 3 (.tmp 40) (.const (.int .i64 0)) (lkL 40 l poison) (.int .i64 0) s) fun x5 => (o50_7 6).run cf v (.cons 41 x5 l) ds s) ((o50_7 6).run cf v (.cons 41 undef l) ds s) := by kernel_rfl
theorem q50_7_6 : (o50_7 6).run cf v l ds s = bV (doPick (lkL 38 l poison) (lkL 41 l poison) (.bool false)) fun x6 => (o50_7 8).run cf (setL 2 x6 v) (.cons 42 x6 l) ds s := by kernel_rfl
theorem q50_7_8 : (o50_7 8).run cf v l ds s = .normal v l ds s := by kernel_rfl
noncomputable def o50_8 := oR Pz 15 74 (subC b50 [1, 1, 1, 1, 1, 0])
theorem q50_8_0 : (o50_8 0).run cf v l ds s = bV (doBin Pz .geq (binK .geq) .bad 3 (.tmp 43) (.const (.int .i64 1)) (lkL 3 v poison) (.int .i64 1) s) fun x1 => (o50_8 3).run cf v (.cons 45 x1 (.cons 44 x1 (.cons 43 (lkL 3 v poison) l))) ds s := by kernel_rfl
theorem q50_8_3 : (o50_8 3).run cf v l ds s = guardRun (wantB true (lkL 45 l poison)) ((o50_8 4).run cf v (.cons 46 (lkL 3 v poison) l) ds s) ((o50_8 4).run cf v (.cons 46 undef l) ds s) := by kernel_rfl
theorem q50_8_4 : (o50_8 4).run cf v l ds s = guardRun (wantB true (lkL 45 l poison)) (bV (doBin Pz .leq (binK .leq) .bad 3 (.tmp 46) (.const (.int .i64 1048577)) (lkL 46 l poison) (.int .i64 1048577) s) fun x4 => (o50_8 5).run cf v (.cons 47 x4 l) ds s) ((o50_8 5).run cf v (.cons 47 undef l) ds s) := by kernel_rfl
theorem q50_8_5 : (o50_8 5).run cf v l ds s = bV (doPick (lkL 45 l poison) (lkL 47 l poison) (.bool false)) fun x5 => (o50_8 7).run cf v (.cons 49 x5 (.cons 48 x5 l)) ds s := by kernel_rfl
theorem q50_8_7 : (o50_8 7).run cf v l ds s = guardRun (wantB true (lkL 49 l poison)) (bV (doFieldAddr 0 (lkL 1 v poison)) fun x7 => (o50_8 8).run cf v (.cons 50 x7 l) ds s) ((o50_8 8).run cf v (.cons 50 undef l) ds s) := by kernel_rfl
theorem q50_8_8 : (o50_8 8).run cf v l ds s = guardRun (wantB true (lkL 49 l poison)) (bV (load1 (lkL 50 l poison) s) fun x8 => (o50_8 9).run cf v (.cons 51 x8 l) ds s) ((o50_8 9).run cf v (.cons 51 undef l) ds s) := by kernel_rfl
theorem q50_8_9 : (o50_8 9).run cf v l ds s = guardRun (wantB true (lkL 49 l poison)) (bC v l ds (cf.call 102 [(lkL 51 l poison), (.int .i64 0), (.int .i64 15)] s) fun x9 s => (o50_8 10).run cf v (.cons 52 x9 l) ds s) ((o50_8 10).run cf v (.cons 52 undef l) ds s) := by kernel_rfl
theorem q50_8_10 : (o50_8 10).run cf v l ds s = bV (doPick (lkL 49 l poison) (lkL 52 l poison) (.bool false)) fun x10 => (o50_8 12).run cf v (.cons 54 x10 (.cons 53 x10 l)) ds s := by kernel_rfl
theorem q50_8_12 : (o50_8 12).run cf v l ds s = guardRun (wantB true (lkL 54 l poison)) (bV (doFieldAddr 1 (lkL 1 v poison)) fun x12 => (o50_8 13).run cf v (.cons 55 x12 l) ds s) ((o50_8 13).run cf v (.cons 55 undef l) ds s) := by kernel_rfl
theorem q50_8_13 : (o50_8 13).run cf v l ds s = guardRun (wantB true (lkL 54 l poison)) (bV (load1 (lkL 55 l poison) s) fun x13 => (o50_8 14).run cf v (.cons 56 x13 l) ds s) ((o50_8 14).run cf v (.cons 56 undef l) ds s) := by kernel_rfl
theorem q50_8_14 : (o50_8 14).run cf v l ds s = guardRun (wantB true (lkL 54 l poison)) (bC v l ds (cf.call 102 [(lkL 56 l poison), (.int .i64 0), (.int .i64 65535)] s) fun x14 s => (o50_8 15).run cf v (.cons 57 x14 l) ds s) ((o50_8 15).run cf v (.cons 57 undef l) ds s) := by kernel_rfl
theorem q50_8_15 : (o50_8 15).run cf v l ds s = bV (doPick (lkL 54 l poison) (lkL 57 l poison) (.bool false)) fun x15 => (o50_8 17).run cf v (.cons 59 x15 (.cons 58 x15 l)) ds s := by kernel_rfl
theorem q50_8_17 : (o50_8 17).run cf v l ds s = guardRun (wantB true (lkL 59 l poison)) (bV (doFieldAddr 2 (lkL 1 v poison)) fun x17 => (o50_8 18).run cf v (.cons 60 x17 l) ds s) ((o50_8 18).run cf v (.cons 60 undef l) ds s) := by kernel_rfl
theorem q50_8_18 : (o50_8 18).run cf v l ds s = guardRun (wantB true (lkL 59 l poison)) (bV (load1 (lkL 60 l poison) s) fun x18 => (o50_8 19).run cf v (.cons 61 x18 l) ds s) ((o50_8 19).run cf v (.cons 61 undef l) ds s) := by kernel_rfl
theorem q50_8_19 : (o50_8 19).run cf v l ds s = guardRun (wantB true (lkL 59 l poison)) (bC v l ds (cf.call 102 [(lkL 61 l poison), (.int .i64 0), (.int .i64 65535)] s) fun x19 s => (o50_8 20).run cf v (.cons 62 x19 l) ds s) ((o50_8 20).run cf v (.cons 62 undef l) ds s) := by kernel_rfl
theorem q50_8_20 : (o50_8 20).run cf v l ds s = bV (doPick (lkL 59 l poison) (lkL 62 l poison) (.bool false)) fun x20 => (o50_8 22).run cf v (.cons 64 x20 (.cons 63 x20 l)) ds s := by kernel_rfl
theorem q50_8_22 : (o50_8 22).run cf v l ds s = guardRun (wantB true (lkL 64 l poison)) (bV (doFieldAddr 3 (lkL 1 v poison)) fun x22 => (o50_8 23).run cf v (.cons 65 x22 l) ds s) ((o50_8 23).run cf v (.cons 65 undef l) ds s) := by kernel_rfl
theorem q50_8_23 : (o50_8 23).run cf v l ds s = guardRun (wantB true (lkL 64 l poison)) (bV (load1 (lkL 65 l poison) s) fun x23 => (o50_8 24).run cf v (.cons 66 x23 l) ds s) ((o50_8 24).run cf v (.cons 66 undef l) ds s) := by kernel_rfl
theorem q50_8_24 : (o50_8 24).run cf v l ds s = guardRun (wantB true (lkL 64 l poison)) (bV (doBin Pz .geq (binK .geq) .bad 3 (.tmp 66) (.const (.int .i64 0)) (lkL 66 l poison) (.int .i64 0) s) fun x24 => (o50_8 25).run cf v (.cons 67 x24 l) ds s) ((o50_8 25).run cf v (.cons 67 undef l) ds s) := by kernel_rfl
theorem q50_8_25 : (o50_8 25).run cf v l ds s = bV (doPick (lkL 64 l poison) (lkL 67 l poison) (.bool false)) fun x25 => (o50_8 27).run cf v (.cons 69 x25 (.cons 68 x25 l)) ds s := by kernel_rfl
theorem q50_8_27 : (o50_8 27).run cf v l ds s = guardRun (wantB true (lkL 69 l poison)) (bV (doFieldAddr 3 (lkL 1 v poison)) fun x27 => (o50_8 28).run cf v (.cons 70 x27 l) ds s) ((o50_8 28).run cf v (.cons 70 undef l) ds s) := by kernel_rfl
theorem q50_8_28 : (o50_8 28).run cf v l ds s = guardRun (wantB true (lkL 69 l poison)) (bV (load1 (lkL 70 l poison) s) fun x28 => (o50_8 29).run cf v (.cons 71 x28 l) ds s) ((o50_8 29).run cf v (.cons 71 undef l) ds s) := by kernel_rfl
theorem q50_8_29 : (o50_8 29).run cf v l ds s = guardRun (wantB true (lkL 69 l poison)) (bV (doBin Pz .leq (binK .leq) .bad 3 (.tmp 71) (.const (.int .i64 8192)) (lkL 71 l poison) (.int .i64 8192) s) fun x29 => (o50_8 30).run cf v (.cons 72 x29 l) ds s) ((o50_8 30).run cf v (.cons 72 undef l) ds s) := by kernel_rfl
theorem q50_8_30 : (o50_8 30).run cf v l ds s = bV (doPick (lkL 69 l poison) (lkL 72 l poison) (.bool false)) fun x30 => (o50_8 32).run cf (setL 2 x30 v) (.cons 73 x30 l) ds s := by kernel_rfl
theorem q50_8_32 : (o50_8 32).run cf v l ds s = .normal v l ds s := by kernel_rfl
noncomputable def c50 (lf : Nat) (cf : CF) (v l : L) (ds : DS) (s : AS) : Out := seqK ((o50_0 0).run cf v .nil ds s) fun v l ds s => seqK (seqK ((o50_1 0).run cf v .nil ds s) fun v l ds s => condK (lkL 16 l poison) (seqK ((o50_2 0).run cf v .nil ds s) fun v l ds s => .ret v l ds s) (.normal v l ds s)) fun v l ds s => seqK ((o50_3 0).run cf v .nil ds s) fun v l ds s => seqK (seqK ((o50_4 0).run cf v .nil ds s) fun v l ds s => condK (lkL 31 l poison) (seqK ((o50_5 0).run cf v .nil ds s) fun v l ds s => .ret v l ds s) (.normal v l ds s)) fun v l ds s => seqK (seqK ((o50_6 0).run cf v .nil ds s) fun v l ds s => condK (lkL 35 l poison) (seqK ((o50_7 0).run cf v .nil ds s) fun v l ds s => .ret v l ds s) (.normal v l ds s)) fun v l ds s => seqK ((o50_8 0).run cf v .nil ds s) fun v l ds s => .ret v l ds s
theorem fn50 (a0 : Value) : (fnK Pz masks lf 50).run cf [a0] s = afterBody Pz masks 15 cf lf Go.Proofs.Tryz.f50 (c50 lf cf (.cons 0 a0 .nil) .nil [] s) := by
  rw [fnK_of (P := Pz) Go.Proofs.Tryz.func50 (show Go.Proofs.Tryz.f50.body = some b50 by kernel_rfl), show masks 50 = 15 by kernel_rfl]; kernel_rfl
/-! 46: (*assize/frontier.writer).verdict -/
noncomputable def b46 : Code := match Go.Proofs.Tryz.f46.body with | some c => c | none => .skip
noncomputable def o46_0 := oR Pz 11 27 (subC b46 [0])
theorem q46_0_0 : (o46_0 0).run cf v l ds s = bA cf v l ds (doBox 36 (lkL 1 v poison) s) fun ds x0 s => (o46_0 1).run cf (setL 3 x0 v) l ds s := by kernel_rfl
theorem q46_0_1 : (o46_0 1).run cf v l ds s = .normal v l ds s := by kernel_rfl
noncomputable def o46_1 := oR Pz 11 27 (subC b46 [1, 0])
theorem q46_1_0 : (o46_1 0).run cf v l ds s = bV (doFieldAddr 0 (lkL 3 v poison)) fun x1 => bV (load1 x1 s) fun x2 => bA cf v (.cons 6 x2 (.cons 5 x1 (.cons 4 (lkL 0 v poison) l))) ds (doBuildSlice 3 1 1 (zerosK [(.int .i64 0)] 1) [(0, x2)] s) fun ds x3 s => bC v (.cons 7 x3 (.cons 6 x2 (.cons 5 x1 (.cons 4 (lkL 0 v poison) l)))) ds (cf.call 54 [(lkL 0 v poison), x3] s) fun x4 s => (o46_1 5).run cf v (.cons 8 x4 (.cons 7 x3 (.cons 6 x2 (.cons 5 x1 (.cons 4 (lkL 0 v poison) l))))) ds s := by kernel_rfl
theorem q46_1_5 : (o46_1 5).run cf v l ds s = .normal v l ds s := by kernel_rfl
noncomputable def o46_2 := oR Pz 11 27 (subC b46 [1, 1, 0])
theorem q46_2_0 : (o46_2 0).run cf v l ds s = bV (doFieldAddr 0 (lkL 3 v poison)) fun x0 => bV (load1 x0 s) fun x1 => bV (doBin Pz .eql (binK .eql) .bad 3 (.tmp 10) (.const (.int .i64 2)) x1 (.int .i64 2) s) fun x2 => (o46_2 3).run cf v (.cons 11 x2 (.cons 10 x1 (.cons 9 x0 l))) ds s := by kernel_rfl
theorem q46_2_3 : (o46_2 3).run cf v l ds s = .normal v l ds s := by kernel_rfl
noncomputable def o46_3 := oR Pz 11 27 (subC b46 [1, 1, 1, 0, 0])
theorem q46_3_0 : (o46_3 0).run cf v l ds s = bV (doFieldAddr 1 (lkL 3 v poison)) fun x1 => bV (load1 x1 s) fun x2 => bV (doFieldAddr 2 (lkL 3 v poison)) fun x3 => bV (load1 x3 s) fun x4 => bV (doBin Pz .add (binK .add) .bad 3 (.tmp 16) (.const (.int .i64 1)) x4 (.int .i64 1) s) fun x5 => bV (doFieldAddr 3 (lkL 3 v poison)) fun x6 => bV (load1 x6 s) fun x7 => bV (doLen .slice x7 s) fun x8 => bA cf v (.cons 20 x8 (.cons 19 x7 (.cons 18 x6 (.cons 17 x5 (.cons 16 x4 (.cons 15 x3 (.cons 14 x2 (.cons 13 x1 (.cons 12 (lkL 0 v poison) l))))))))) ds (doBuildSlice 3 1 3 (zerosK [(.int .i64 0)] 3) [(0, x2), (1, x5), (2, x8)] s) fun ds x9 s => bC v (.cons 21 x9 (.cons 20 x8 (.cons 19 x7 (.cons 18 x6 (.cons 17 x5 (.cons 16 x4 (.cons 15 x3 (.cons 14 x2 (.cons 13 x1 (.cons 12 (lkL 0 v poison) l)))))))))) ds (cf.call 54 [(lkL 0 v poison), x9] s) fun x10 s => (o46_3 11).run cf v (.cons 22 x10 (.cons 21 x9 (.cons 20 x8 (.cons 19 x7 (.cons 18 x6 (.cons 17 x5 (.cons 16 x4 (.cons 15 x3 (.cons 14 x2 (.cons 13 x1 (.cons 12 (lkL 0 v poison) l))))))))))) ds s := by kernel_rfl
theorem q46_3_11 : (o46_3 11).run cf v l ds s = .normal v l ds s := by kernel_rfl
noncomputable def o46_4 := oR Pz 11 27 (subC b46 [1, 1, 1, 0, 1])
theorem q46_4_0 : (o46_4 0).run cf v l ds s = bV (doFieldAddr 3 (lkL 3 v poison)) fun x1 => bV (load1 x1 s) fun x2 => bC v (.cons 25 x2 (.cons 24 x1 (.cons 23 (lkL 0 v poison) l))) ds (cf.call 54 [(lkL 0 v poison), x2] s) fun x3 s => (o46_4 4).run cf v (.cons 26 x3 (.cons 25 x2 (.cons 24 x1 (.cons 23 (lkL 0 v poison) l)))) ds s := by kernel_rfl
theorem q46_4_4 : (o46_4 4).run cf v l ds s = .normal v l ds s := by kernel_rfl
noncomputable def c46 (lf : Nat) (cf : CF) (v l : L) (ds : DS) (s : AS) : Out := seqK ((o46_0 0).run cf v .nil ds s) fun v l ds s => seqK ((o46_1 0).run cf v .nil ds s) fun v l ds s => seqK ((o46_2 0).run cf v .nil ds s) fun v l ds s => condK (lkL 11 l poison) (seqK ((o46_3 0).run cf v .nil ds s) fun v l ds s => (o46_4 0).run cf v .nil ds s) (.normal v l ds s)
theorem fn46 (a0 a1 : Value) : (fnK Pz masks lf 46).run cf [a0, a1] s = afterBody Pz masks 11 cf lf Go.Proofs.Tryz.f46 (c46 lf cf (.cons 0 a0 (.cons 1 a1 .nil)) .nil [] s) := by
  rw [fnK_of (P := Pz) Go.Proofs.Tryz.func46 (show Go.Proofs.Tryz.f46.body = some b46 by kernel_rfl), show masks 46 = 11 by kernel_rfl]; kernel_rfl
/-! 110: assize/octet.Short -/
noncomputable def b110 : Code := match Go.Proofs.Tryz.f110.body with | some c => c | none => .skip
noncomputable def o110_0 := oR Pz 13 19 (subC b110 [0])
theorem q110_0_0 : (o110_0 0).run cf v l ds s = (o110_0 1).run cf (setL 2 (.slice none 0 0) v) l ds s := by kernel_rfl
theorem q110_0_1 : (o110_0 1).run cf v l ds s = .normal v l ds s := by kernel_rfl
noncomputable def o110_1 := oR Pz 13 19 (subC b110 [1, 0])
theorem q110_1_0 : (o110_1 0).run cf v l ds s = (o110_1 1).run cf (setL 3 (.slice none 0 0) v) l ds s := by kernel_rfl
theorem q110_1_1 : (o110_1 1).run cf v l ds s = .normal v l ds s := by kernel_rfl
noncomputable def o110_2 := oR Pz 13 19 (subC b110 [1, 1, 0, 0, 0, 0, 0])
theorem q110_2_0 : (o110_2 0).run cf v l ds s = bV (doBin Pz .gtr (binK .gtr) .bad 62 (.tmp 4) (.const (.int .u64 127)) (lkL 0 v poison) (.int .u64 127) s) fun x1 => (o110_2 2).run cf v (.cons 5 x1 (.cons 4 (lkL 0 v poison) l)) ds s := by kernel_rfl
theorem q110_2_2 : (o110_2 2).run cf v l ds s = .normal v l ds s := by kernel_rfl
noncomputable def o110_3 := oR Pz 13 19 (subC b110 [1, 1, 0, 0, 0, 1, 0, 0])
theorem q110_3_0 : (o110_3 0).run cf v l ds s = bV (convInt Pz 62 5 .u8 (lkL 0 v poison)) fun x2 => bV (doBin Pz .or (binK .or) .bad 5 (.tmp 10) (.const (.int .u8 128)) x2 (.int .u8 128) s) fun x3 => bA cf v (.cons 11 x3 (.cons 10 x2 (.cons 9 (lkL 0 v poison) (.cons 8 (lkL 3 v poison) l)))) ds (doBuildSlice 5 1 1 (zerosK [(.int .u8 0)] 1) [(0, x3)] s) fun ds x4 s => bA cf v (.cons 12 x4 (.cons 11 x3 (.cons 10 x2 (.cons 9 (lkL 0 v poison) (.cons 8 (lkL 3 v poison) l))))) ds (appendV 1 5 (lkL 3 v poison) x4 s) fun ds x5 s => (o110_3 7).run cf (setL 3 x5 v) (.cons 13 x5 (.cons 12 x4 (.cons 11 x3 (.cons 10 x2 (.cons 9 (lkL 0 v poison) (.cons 8 (lkL 3 v poison) l)))))) ds s := by kernel_rfl
theorem q110_3_7 : (o110_3 7).run cf v l ds s = .normal v l ds s := by kernel_rfl
noncomputable def o110_4 := oR Pz 13 19 (subC b110 [1, 1, 0, 0, 0, 1, 1])
theorem q110_4_0 : (o110_4 0).run cf v l ds s = bV (doBin Pz .shr (binK .shr) .bad 62 (.tmp 6) (.const (.int .u64 7)) (lkL 0 v poison) (.int .u64 7) s) fun x1 => (o110_4 3).run cf (setL 0 x1 v) (.cons 7 x1 (.cons 6 (lkL 0 v poison) l)) ds s := by kernel_rfl
theorem q110_4_3 : (o110_4 3).run cf v l ds s = .normal v l ds s := by kernel_rfl
noncomputable def l110_5 (lf : Nat) (cf : CF) (v l : L) (ds : DS) (s : AS) : Out := seqK (seqK ((o110_2 0).run cf v .nil ds s) fun v l ds s => condK (lkL 5 l poison) (.normal v l ds s) (.exit 0 v l ds s)) fun v l ds s => seqK (blockK 1 ((o110_3 0).run cf v .nil ds s)) fun v l ds s => (o110_4 0).run cf v .nil ds s
noncomputable def o110_6 := oR Pz 13 19 (subC b110 [1, 1, 1, 0])
theorem q110_6_0 : (o110_6 0).run cf v l ds s = bV (convInt Pz 62 5 .u8 (lkL 0 v poison)) fun x2 => bA cf v (.cons 16 x2 (.cons 15 (lkL 0 v poison) (.cons 14 (lkL 3 v poison) l))) ds (doBuildSlice 5 1 1 (zerosK [(.int .u8 0)] 1) [(0, x2)] s) fun ds x3 s => bA cf v (.cons 17 x3 (.cons 16 x2 (.cons 15 (lkL 0 v poison) (.cons 14 (lkL 3 v poison) l)))) ds (appendV 1 5 (lkL 3 v poison) x3 s) fun ds x4 s => (o110_6 6).run cf (setL 2 x4 v) (.cons 18 x4 (.cons 17 x3 (.cons 16 x2 (.cons 15 (lkL 0 v poison) (.cons 14 (lkL 3 v poison) l))))) ds s := by kernel_rfl
theorem q110_6_6 : (o110_6 6).run cf v l ds s = .normal v l ds s := by kernel_rfl
noncomputable def c110 (lf : Nat) (cf : CF) (v l : L) (ds : DS) (s : AS) : Out := seqK ((o110_0 0).run cf v .nil ds s) fun v l ds s => seqK ((o110_1 0).run cf v .nil ds s) fun v l ds s => seqK (blockK 0 (iterK (l110_5 lf cf) lf v l ds s)) fun v l ds s => seqK ((o110_6 0).run cf v .nil ds s) fun v l ds s => .ret v l ds s
theorem fn110 (a0 : Value) : (fnK Pz masks lf 110).run cf [a0] s = afterBody Pz masks 13 cf lf Go.Proofs.Tryz.f110 (c110 lf cf (.cons 0 a0 .nil) .nil [] s) := by
  rw [fnK_of (P := Pz) Go.Proofs.Tryz.func110 (show Go.Proofs.Tryz.f110.body = some b110 by kernel_rfl), show masks 110 = 13 by kernel_rfl]; kernel_rfl
end Go.Proofs.YtbbknbmmpkpgdaaGreatDoor.KAb
namespace Go.Proofs.YtbbknbmmpkpgdaaGreatDoor.KAb
variable (lf : Nat) (cf : CF) (base : Nat) (v l : L) (ds : DS) (s : AS) (hist : List AS) (chks : List Chk)
/-! 47: (*assize/frontier.scan).verdict -/
noncomputable def b47 : Code := match Go.Proofs.Tryz.f47.body with | some c => c | none => .skip
noncomputable def o47_0 := oR Pz 29 50 (subC b47 [0])
theorem q47_0_0 : (o47_0 0).run cf v l ds s = bA cf v l ds (doNew [(.int .i64 0), (.int .i64 0), (.int .i64 0), (.slice none 0 0)] 36 s) fun ds x0 s => (o47_0 1).run cf (setL 2 x0 v) l ds s := by kernel_rfl
theorem q47_0_1 : (o47_0 1).run cf v l ds s = .normal v l ds s := by kernel_rfl
noncomputable def o47_1 := oR Pz 29 50 (subC b47 [1, 0])
theorem q47_1_0 : (o47_1 0).run cf v l ds s = bV (doNilCheck (lkL 0 v poison)) fun x1 => bV (doFieldAddr 0 x1) fun x2 => bC v (.cons 7 x2 (.cons 6 x1 (.cons 5 (lkL 0 v poison) l))) ds (cf.call 48 [x2, (.int .i64 3)] s) fun x3 s => bV (doBuild ⟨fun i => nthK i [(0, 1), (1, 1), (2, 1), (3, 1)]⟩ [(.int .i64 0), (.int .i64 0), (.int .i64 0), (.slice none 0 0)] [(0, x3)]) fun x4 => bA cf v (.cons 9 x4 (.cons 8 x3 (.cons 7 x2 (.cons 6 x1 (.cons 5 (lkL 0 v poison) l))))) ds (doNew [(.int .i64 0), (.int .i64 0), (.int .i64 0), (.slice none 0 0)] 36 s) fun ds x5 s => (o47_1 6).run cf (setL 3 x5 v) (.cons 9 x4 (.cons 8 x3 (.cons 7 x2 (.cons 6 x1 (.cons 5 (lkL 0 v poison) l))))) ds s := by kernel_rfl
theorem q47_1_6 : (o47_1 6).run cf v l ds s = bA cf v l ds (doStore 4 (lkL 3 v poison) (lkL 9 l poison) s) fun ds x6 s => (o47_1 7).run cf v l ds s := by kernel_rfl
theorem q47_1_7 : (o47_1 7).run cf v l ds s = .normal v l ds s := by kernel_rfl
noncomputable def o47_2 := oR Pz 29 50 (subC b47 [1, 1, 0, 0])
theorem q47_2_0 : (o47_2 0).run cf v l ds s = bV (doFieldAddr 0 (lkL 3 v poison)) fun x0 => bV (load1 x0 s) fun x1 => bV (doBin Pz .eql (binK .eql) .bad 3 (.tmp 11) (.const (.int .i64 2)) x1 (.int .i64 2) s) fun x2 => (o47_2 3).run cf v (.cons 12 x2 (.cons 11 x1 (.cons 10 x0 l))) ds s := by kernel_rfl
theorem q47_2_3 : (o47_2 3).run cf v l ds s = .normal v l ds s := by kernel_rfl
noncomputable def o47_3 := oR Pz 29 50 (subC b47 [1, 1, 0, 1, 0, 0])
theorem q47_3_0 : (o47_3 0).run cf v l ds s = bV (doNilCheck (lkL 0 v poison)) fun x1 => bV (doFieldAddr 0 x1) fun x2 => bC v (.cons 15 x2 (.cons 14 x1 (.cons 13 (lkL 0 v poison) l))) ds (cf.call 48 [x2, (.int .i64 5)] s) fun x3 s => bV (doFieldAddr 1 (lkL 3 v poison)) fun x4 => bA cf v (.cons 17 x4 (.cons 16 x3 (.cons 15 x2 (.cons 14 x1 (.cons 13 (lkL 0 v poison) l))))) ds (doStore 1 x4 x3 s) fun ds x5 s => (o47_3 6).run cf v (.cons 17 x4 (.cons 16 x3 (.cons 15 x2 (.cons 14 x1 (.cons 13 (lkL 0 v poison) l))))) ds s := by kernel_rfl
theorem q47_3_6 : (o47_3 6).run cf v l ds s = .normal v l ds s := by kernel_rfl
noncomputable def o47_4 := oR Pz 29 50 (subC b47 [1, 1, 0, 1, 0, 1, 0])
theorem q47_4_0 : (o47_4 0).run cf v l ds s = bV (doNilCheck (lkL 0 v poison)) fun x1 => bV (doFieldAddr 0 x1) fun x2 => bC v (.cons 20 x2 (.cons 19 x1 (.cons 18 (lkL 0 v poison) l))) ds (cf.call 48 [x2, (.int .i64 16)] s) fun x3 s => bV (doBin Pz .sub (binK .sub) .bad 3 (.tmp 21) (.const (.int .i64 1)) x3 (.int .i64 1) s) fun x4 => bV (doFieldAddr 2 (lkL 3 v poison)) fun x5 => bA cf v (.cons 23 x5 (.cons 22 x4 (.cons 21 x3 (.cons 20 x2 (.cons 19 x1 (.cons 18 (lkL 0 v poison) l)))))) ds (doStore 1 x5 x4 s) fun ds x6 s => (o47_4 7).run cf v (.cons 23 x5 (.cons 22 x4 (.cons 21 x3 (.cons 20 x2 (.cons 19 x1 (.cons 18 (lkL 0 v poison) l)))))) ds s := by kernel_rfl
theorem q47_4_7 : (o47_4 7).run cf v l ds s = .normal v l ds s := by kernel_rfl
noncomputable def o47_5 := oR Pz 29 50 (subC b47 [1, 1, 0, 1, 0, 1, 1, 0])
theorem q47_5_0 : (o47_5 0).run cf v l ds s = bV (doNilCheck (lkL 0 v poison)) fun x1 => bV (doFieldAddr 0 x1) fun x2 => bC v (.cons 26 x2 (.cons 25 x1 (.cons 24 (lkL 0 v poison) l))) ds (cf.call 48 [x2, (.int .i64 1048577)] s) fun x3 s => (o47_5 5).run cf (setL 4 x3 v) (.cons 27 x3 (.cons 26 x2 (.cons 25 x1 (.cons 24 (lkL 0 v poison) l)))) ds s := by kernel_rfl
theorem q47_5_5 : (o47_5 5).run cf v l ds s = .normal v l ds s := by kernel_rfl
noncomputable def o47_6 := oR Pz 29 50 (subC b47 [1, 1, 0, 1, 0, 1, 1, 1, 0, 0, 0, 0])
theorem q47_6_0 : (o47_6 0).run cf v l ds s = bV (doBin Pz .gtr (binK .gtr) .bad 3 (.tmp 28) (.const (.int .i64 0)) (lkL 4 v poison) (.int .i64 0) s) fun x1 => (o47_6 3).run cf v (.cons 30 x1 (.cons 29 x1 (.cons 28 (lkL 4 v poison) l))) ds s := by kernel_rfl
theorem q47_6_3 : (o47_6 3).run cf v l ds s = guardRun (wantB true (lkL 30 l poison)) ((o47_6 4).run cf v (.cons 31 (lkL 0 v poison) l) ds s) ((o47_6 4).run cf v (.cons 31 undef l) ds s) := by kernel_rfl
theorem q47_6_4 : (o47_6 4).run cf v l ds s = guardRun (wantB true (lkL 30 l poison)) (bV (doNilCheck (lkL 31 l poison)) fun x4 => (o47_6 5).run cf v (.cons 32 x4 l) ds s) ((o47_6 5).run cf v (.cons 32 undef l) ds s) := by kernel_rfl
theorem q47_6_5 : (o47_6 5).run cf v l ds s = guardRun (wantB true (lkL 30 l poison)) (bV (doFieldAddr 0 (lkL 32 l poison)) fun x5 => (o47_6 6).run cf v (.cons 33 x5 l) ds s) ((o47_6 6).run cf v (.cons 33 undef l) ds s) := by kernel_rfl
theorem q47_6_6 : (o47_6 6).run cf v l ds s = guardRun (wantB true (lkL 30 l poison)) (bV (doFieldAddr 1 (lkL 33 l poison)) fun x6 => (o47_6 7).run cf v (.cons 34 x6 l) ds s) ((o47_6 7).run cf v (.cons 34 undef l) ds s) := by kernel_rfl
theorem q47_6_7 : (o47_6 7).run cf v l ds s = guardRun (wantB true (lkL 30 l poison)) (bV (load1 (lkL 34 l poison) s) fun x7 => (o47_6 8).run cf v (.cons 35 x7 l) ds s) ((o47_6 8).run cf v (.cons 35 undef l) ds s) := by kernel_rfl
theorem q47_6_8 : (o47_6 8).run cf v l ds s = guardRun (wantB true (lkL 30 l poison)) (bV (doUn Pz .not (lkL 35 l poison)) fun x8 => (o47_6 9).run cf v (.cons 36 x8 l) ds s) ((o47_6 9).run cf v (.cons 36 undef l) ds s) := by kernel_rfl
theorem q47_6_9 : (o47_6 9).run cf v l ds s = bV (doPick (lkL 30 l poison) (lkL 36 l poison) (.bool false)) fun x9 => (o47_6 10).run cf v (.cons 37 x9 l) ds s := by kernel_rfl
theorem q47_6_10 : (o47_6 10).run cf v l ds s = .normal v l ds s := by kernel_rfl
noncomputable def a47_7 := aR Pz 29 (subC b47 [1, 1, 0, 1, 0, 1, 1, 1, 0, 0, 1, 0, 0])
noncomputable def d47_7 (j : Nat) : DK := dgo 29 50 a47_7 (dropK j a47_7) j
theorem q47_7_0 : (d47_7 0).run cf base v l ds s hist chks = bV (doFieldAddr 3 (lkL 3 v poison)) fun x => (d47_7 1).run cf base v (.cons 40 x l) ds s hist (⟨0, 2, fun s => doFieldAddr 3 (lkL 3 v poison), x⟩ :: chks) := by kernel_rfl
theorem q47_7_1 : (d47_7 1).run cf base v l ds s hist chks = bV (load1 (lkL 40 l poison) s) fun x => (d47_7 2).run cf base v (.cons 41 x l) ds s hist (⟨0, 2, fun s => load1 (lkL 40 l poison) s, x⟩ :: chks) := by kernel_rfl
theorem q47_7_2 : (d47_7 2).run cf base v l ds s hist chks = (d47_7 3).run cf base v (.cons 42 (lkL 0 v poison) l) ds s hist chks := by kernel_rfl
theorem q47_7_3 : (d47_7 3).run cf base v l ds s hist chks = bV (doNilCheck (lkL 42 l poison)) fun x => (d47_7 4).run cf base v (.cons 43 x l) ds s hist chks := by kernel_rfl
theorem q47_7_4 : (d47_7 4).run cf base v l ds s hist chks = bV (doFieldAddr 0 (lkL 43 l poison)) fun x => (d47_7 5).run cf base v (.cons 44 x l) ds s hist chks := by kernel_rfl
theorem q47_7_5 : (d47_7 5).run cf base v l ds s hist chks = bDC (panicK 29 5 (atD a47_7 5) a47_7) base v ds (s :: hist) chks (cf.call 48 [(lkL 44 l poison), (.int .i64 15)] s) fun x s2 => (d47_7 6).run cf base v (.cons 45 x l) ds s2 (s :: hist) chks := by kernel_rfl
theorem q47_7_6 : (d47_7 6).run cf base v l ds s hist chks = bDA (panicK 29 6 (atD a47_7 6) a47_7) cf base v ds (s :: hist) chks (doBuildSlice 3 1 1 (zerosK [(.int .i64 0)] 1) [(0, (lkL 45 l poison))] s) fun x s2 => (d47_7 7).run cf base v (.cons 46 x l) ds s2 (s :: hist) chks := by kernel_rfl
theorem q47_7_7 : (d47_7 7).run cf base v l ds s hist chks = bDA (panicK 29 7 (atD a47_7 7) a47_7) cf base v ds (s :: hist) chks (appendV 1 3 (lkL 41 l poison) (lkL 46 l poison) s) fun x s2 => (d47_7 8).run cf base v (.cons 47 x l) ds s2 (s :: hist) chks := by kernel_rfl
theorem q47_7_8 : (d47_7 8).run cf base v l ds s hist chks = bV (doFieldAddr 3 (lkL 3 v poison)) fun x => (d47_7 9).run cf base v (.cons 48 x l) ds s hist chks := by kernel_rfl
theorem q47_7_9 : (d47_7 9).run cf base v l ds s hist chks = bDA (panicK 29 9 (atD a47_7 9) a47_7) cf base v ds (s :: hist) chks (doStore 1 (lkL 48 l poison) (lkL 47 l poison) s) fun x s2 => (d47_7 10).run cf base v l ds s2 (s :: hist) chks := by kernel_rfl
theorem q47_7_10 : (d47_7 10).run cf base v l ds s hist chks = bif' (allK (chkOk (lenK hist) (s :: hist)) chks) (.normal v l ds s) (.fail "draw: it hangs on the order") := by kernel_rfl
noncomputable def o47_8 := oR Pz 29 50 (subC b47 [1, 1, 0, 1, 0, 1, 1, 1, 0, 0, 1, 1])
theorem q47_8_0 : (o47_8 0).run cf v l ds s = bV (doBin Pz .sub (binK .sub) .bad 3 (.tmp 38) (.const (.int .i64 1)) (lkL 4 v poison) (.int .i64 1) s) fun x1 => (o47_8 3).run cf (setL 4 x1 v) (.cons 39 x1 (.cons 38 (lkL 4 v poison) l)) ds s := by kernel_rfl
theorem q47_8_3 : (o47_8 3).run cf v l ds s = .normal v l ds s := by kernel_rfl
noncomputable def l47_9 (lf : Nat) (cf : CF) (v l : L) (ds : DS) (s : AS) : Out := seqK (seqK ((o47_6 0).run cf v .nil ds s) fun v l ds s => condK (lkL 37 l poison) (.normal v l ds s) (.exit 0 v l ds s)) fun v l ds s => seqK (blockK 1 ((d47_7 0).run cf s.next v .nil ds s [] [])) fun v l ds s => (o47_8 0).run cf v .nil ds s
noncomputable def o47_10 := oR Pz 29 50 (subC b47 [1, 1, 1, 0])
theorem q47_10_0 : (o47_10 0).run cf v l ds s = bV (loadN 4 (lkL 3 v poison) s) fun x0 => bA cf v (.cons 49 x0 l) ds (doStore 4 (lkL 2 v poison) x0 s) fun ds x1 s => (o47_10 2).run cf v (.cons 49 x0 l) ds s := by kernel_rfl
theorem q47_10_2 : (o47_10 2).run cf v l ds s = .normal v l ds s := by kernel_rfl
noncomputable def c47 (lf : Nat) (cf : CF) (v l : L) (ds : DS) (s : AS) : Out := seqK ((o47_0 0).run cf v .nil ds s) fun v l ds s => seqK ((o47_1 0).run cf v .nil ds s) fun v l ds s => seqK (seqK ((o47_2 0).run cf v .nil ds s) fun v l ds s => condK (lkL 12 l poison) (seqK ((o47_3 0).run cf v .nil ds s) fun v l ds s => seqK ((o47_4 0).run cf v .nil ds s) fun v l ds s => seqK ((o47_5 0).run cf v .nil ds s) fun v l ds s => blockK 0 (iterK (l47_9 lf cf) lf v l ds s)) (.normal v l ds s)) fun v l ds s => seqK ((o47_10 0).run cf v .nil ds s) fun v l ds s => .ret v l ds s
theorem fn47 (a0 : Value) : (fnK Pz masks lf 47).run cf [a0] s = afterBody Pz masks 29 cf lf Go.Proofs.Tryz.f47 (c47 lf cf (.cons 0 a0 .nil) .nil [] s) := by
  rw [fnK_of (P := Pz) Go.Proofs.Tryz.func47 (show Go.Proofs.Tryz.f47.body = some b47 by kernel_rfl), show masks 47 = 29 by kernel_rfl]; kernel_rfl
/-! 11: assize/frontier.Read -/
noncomputable def b11 : Code := match Go.Proofs.Tryz.f11.body with | some c => c | none => .skip
noncomputable def o11_0 := oR Pz 125 86 (subC b11 [0])
theorem q11_0_0 : (o11_0 0).run cf v l ds s = bA cf v l ds (doNew [(.slice none 0 0), (.slice none 0 0), (.slice none 0 0), (.int .i64 0), (.int .i64 0), (.int .i64 0), (.int .i64 0), (.int .i64 0), (.int .i64 0), (.slice none 0 0)] 38 s) fun ds x0 s => (o11_0 1).run cf (setL 2 x0 v) l ds s := by kernel_rfl
theorem q11_0_1 : (o11_0 1).run cf v l ds s = (o11_0 2).run cf (setL 3 (.int .i64 0) v) l ds s := by kernel_rfl
theorem q11_0_2 : (o11_0 2).run cf v l ds s = .normal v l ds s := by kernel_rfl
noncomputable def o11_1 := oR Pz 125 86 (subC b11 [1, 0])
theorem q11_1_0 : (o11_1 0).run cf v l ds s = bV (doBuild ⟨fun i => nthK i [(0, 1), (1, 1)]⟩ [(.slice none 0 0), (.bool false)] [(0, (lkL 0 v poison))]) fun x1 => bV (doBuild ⟨fun i => nthK i [(0, 2)]⟩ [(.slice none 0 0), (.bool false)] [(0, x1)]) fun x2 => bA cf v (.cons 9 x2 (.cons 8 x1 (.cons 7 (lkL 0 v poison) l))) ds (doBox 111 x2 s) fun ds x3 s => (o11_1 5).run cf (setL 4 x3 v) (.cons 10 x3 (.cons 9 x2 (.cons 8 x1 (.cons 7 (lkL 0 v poison) l)))) ds s := by kernel_rfl
theorem q11_1_5 : (o11_1 5).run cf v l ds s = .normal v l ds s := by kernel_rfl
noncomputable def o11_2 := oR Pz 125 86 (subC b11 [1, 1, 0])
theorem q11_2_0 : (o11_2 0).run cf v l ds s = bC v (.cons 11 (lkL 4 v poison) l) ds (cf.call 47 [(lkL 4 v poison)] s) fun x1 s => bV (doBuild ⟨fun i => nthK i [(0, 1), (1, 1), (2, 1), (3, 1), (4, 1), (5, 1), (6, 4)]⟩ [(.slice none 0 0), (.slice none 0 0), (.slice none 0 0), (.int .i64 0), (.int .i64 0), (.int .i64 0), (.int .i64 0), (.int .i64 0), (.int .i64 0), (.slice none 0 0)] [(6, x1)]) fun x2 => bA cf v (.cons 13 x2 (.cons 12 x1 (.cons 11 (lkL 4 v poison) l))) ds (doNew [(.slice none 0 0), (.slice none 0 0), (.slice none 0 0), (.int .i64 0), (.int .i64 0), (.int .i64 0), (.int .i64 0), (.int .i64 0), (.int .i64 0), (.slice none 0 0)] 38 s) fun ds x3 s => (o11_2 4).run cf (setL 5 x3 v) (.cons 13 x2 (.cons 12 x1 (.cons 11 (lkL 4 v poison) l))) ds s := by kernel_rfl
theorem q11_2_4 : (o11_2 4).run cf v l ds s = bA cf v l ds (doStore 10 (lkL 5 v poison) (lkL 13 l poison) s) fun ds x4 s => (o11_2 5).run cf v l ds s := by kernel_rfl
theorem q11_2_5 : (o11_2 5).run cf v l ds s = .normal v l ds s := by kernel_rfl
noncomputable def a11_3 := aR Pz 125 (subC b11 [1, 1, 1, 0])
noncomputable def d11_3 (j : Nat) : DK := dgo 125 86 a11_3 (dropK j a11_3) j
theorem q11_3_0 : (d11_3 0).run cf base v l ds s hist chks = (d11_3 1).run cf base v (.cons 14 (lkL 4 v poison) l) ds s hist chks := by kernel_rfl
theorem q11_3_1 : (d11_3 1).run cf base v l ds s hist chks = bV (doNilCheck (lkL 14 l poison)) fun x => (d11_3 2).run cf base v (.cons 15 x l) ds s hist chks := by kernel_rfl
theorem q11_3_2 : (d11_3 2).run cf base v l ds s hist chks = bV (doFieldAddr 0 (lkL 15 l poison)) fun x => (d11_3 3).run cf base v (.cons 16 x l) ds s hist chks := by kernel_rfl
theorem q11_3_3 : (d11_3 3).run cf base v l ds s hist chks = bDC (panicK 125 3 (atD a11_3 3) a11_3) base v ds (s :: hist) chks (cf.call 48 [(lkL 16 l poison), (.int .i64 4611686018427387904)] s) fun x s2 => (d11_3 4).run cf base v (.cons 17 x l) ds s2 (s :: hist) chks := by kernel_rfl
theorem q11_3_4 : (d11_3 4).run cf base v l ds s hist chks = (d11_3 5).run cf base v (.cons 18 (lkL 4 v poison) l) ds s hist chks := by kernel_rfl
theorem q11_3_5 : (d11_3 5).run cf base v l ds s hist chks = bV (doNilCheck (lkL 18 l poison)) fun x => (d11_3 6).run cf base v (.cons 19 x l) ds s hist (⟨0, 1, fun s => doNilCheck (lkL 18 l poison), x⟩ :: chks) := by kernel_rfl
theorem q11_3_6 : (d11_3 6).run cf base v l ds s hist chks = bV (doFieldAddr 0 (lkL 19 l poison)) fun x => (d11_3 7).run cf base v (.cons 20 x l) ds s hist (⟨0, 1, fun s => doFieldAddr 0 (lkL 19 l poison), x⟩ :: chks) := by kernel_rfl
theorem q11_3_7 : (d11_3 7).run cf base v l ds s hist chks = bDC (panicK 125 7 (atD a11_3 7) a11_3) base v ds (s :: hist) chks (cf.call 48 [(lkL 20 l poison), (.int .i64 4611686018427387904)] s) fun x s2 => (d11_3 8).run cf base v (.cons 21 x l) ds s2 (s :: hist) chks := by kernel_rfl
theorem q11_3_8 : (d11_3 8).run cf base v l ds s hist chks = bV (doFieldAddr 4 (lkL 5 v poison)) fun x => (d11_3 9).run cf base v (.cons 22 x l) ds s hist (⟨1, 2, fun s => doFieldAddr 4 (lkL 5 v poison), x⟩ :: chks) := by kernel_rfl
theorem q11_3_9 : (d11_3 9).run cf base v l ds s hist chks = bDA (panicK 125 9 (atD a11_3 9) a11_3) cf base v ds (s :: hist) chks (doStore 1 (lkL 22 l poison) (lkL 17 l poison) s) fun x s2 => (d11_3 10).run cf base v l ds s2 (s :: hist) chks := by kernel_rfl
theorem q11_3_10 : (d11_3 10).run cf base v l ds s hist chks = bV (doFieldAddr 5 (lkL 5 v poison)) fun x => (d11_3 11).run cf base v (.cons 23 x l) ds s hist chks := by kernel_rfl
theorem q11_3_11 : (d11_3 11).run cf base v l ds s hist chks = bDA (panicK 125 11 (atD a11_3 11) a11_3) cf base v ds (s :: hist) chks (doStore 1 (lkL 23 l poison) (lkL 21 l poison) s) fun x s2 => (d11_3 12).run cf base v l ds s2 (s :: hist) chks := by kernel_rfl
theorem q11_3_12 : (d11_3 12).run cf base v l ds s hist chks = bif' (allK (chkOk (lenK hist) (s :: hist)) chks) (.normal v l ds s) (.fail "draw: it hangs on the order") := by kernel_rfl
noncomputable def o11_4 := oR Pz 125 86 (subC b11 [1, 1, 1, 1, 0, 0])
theorem q11_4_0 : (o11_4 0).run cf v l ds s = bV (doFieldAddr 6 (lkL 5 v poison)) fun x0 => bV (doFieldAddr 0 x0) fun x1 => bV (load1 x1 s) fun x2 => bV (doBin Pz .eql (binK .eql) .bad 3 (.tmp 26) (.const (.int .i64 0)) x2 (.int .i64 0) s) fun x3 => (o11_4 4).run cf v (.cons 27 x3 (.cons 26 x2 (.cons 25 x1 (.cons 24 x0 l)))) ds s := by kernel_rfl
theorem q11_4_4 : (o11_4 4).run cf v l ds s = .normal v l ds s := by kernel_rfl
noncomputable def o11_5 := oR Pz 125 86 (subC b11 [1, 1, 1, 1, 0, 1, 0, 0, 0])
theorem q11_5_0 : (o11_5 0).run cf v l ds s = bV (doNilCheck (lkL 4 v poison)) fun x1 => bV (doFieldAddr 0 x1) fun x2 => bC v (.cons 30 x2 (.cons 29 x1 (.cons 28 (lkL 4 v poison) l))) ds (cf.call 48 [x2, (.int .i64 1048577)] s) fun x3 s => (o11_5 5).run cf (setL 6 x3 v) (.cons 31 x3 (.cons 30 x2 (.cons 29 x1 (.cons 28 (lkL 4 v poison) l)))) ds s := by kernel_rfl
theorem q11_5_5 : (o11_5 5).run cf v l ds s = .normal v l ds s := by kernel_rfl
noncomputable def o11_6 := oR Pz 125 86 (subC b11 [1, 1, 1, 1, 0, 1, 0, 0, 1, 0, 0, 0, 0])
theorem q11_6_0 : (o11_6 0).run cf v l ds s = bV (doBin Pz .gtr (binK .gtr) .bad 3 (.tmp 32) (.const (.int .i64 0)) (lkL 6 v poison) (.int .i64 0) s) fun x1 => (o11_6 3).run cf v (.cons 34 x1 (.cons 33 x1 (.cons 32 (lkL 6 v poison) l))) ds s := by kernel_rfl
theorem q11_6_3 : (o11_6 3).run cf v l ds s = guardRun (wantB true (lkL 34 l poison)) ((o11_6 4).run cf v (.cons 35 (lkL 4 v poison) l) ds s) ((o11_6 4).run cf v (.cons 35 undef l) ds s) := by kernel_rfl
theorem q11_6_4 : (o11_6 4).run cf v l ds s = guardRun (wantB true (lkL 34 l poison)) (bV (doNilCheck (lkL 35 l poison)) fun x4 => (o11_6 5).run cf v (.cons 36 x4 l) ds s) ((o11_6 5).run cf v (.cons 36 undef l) ds s) := by kernel_rfl
theorem q11_6_5 : (o11_6 5).run cf v l ds s = guardRun (wantB true (lkL 34 l poison)) (bV (doFieldAddr 0 (lkL 36 l poison)) fun x5 => (o11_6 6).run cf v (.cons 37 x5 l) ds s) ((o11_6 6).run cf v (.cons 37 undef l) ds s) := by kernel_rfl
theorem q11_6_6 : (o11_6 6).run cf v l ds s = guardRun (wantB true (lkL 34 l poison)) (bV (doFieldAddr 1 (lkL 37 l poison)) fun x6 => (o11_6 7).run cf v (.cons 38 x6 l) ds s) ((o11_6 7).run cf v (.cons 38 undef l) ds s) := by kernel_rfl
theorem q11_6_7 : (o11_6 7).run cf v l ds s = guardRun (wantB true (lkL 34 l poison)) (bV (load1 (lkL 38 l poison) s) fun x7 => (o11_6 8).run cf v (.cons 39 x7 l) ds s) ((o11_6 8).run cf v (.cons 39 undef l) ds s) := by kernel_rfl
theorem q11_6_8 : (o11_6 8).run cf v l ds s = guardRun (wantB true (lkL 34 l poison)) (bV (doUn Pz .not (lkL 39 l poison)) fun x8 => (o11_6 9).run cf v (.cons 40 x8 l) ds s) ((o11_6 9).run cf v (.cons 40 undef l) ds s) := by kernel_rfl
theorem q11_6_9 : (o11_6 9).run cf v l ds s = bV (doPick (lkL 34 l poison) (lkL 40 l poison) (.bool false)) fun x9 => (o11_6 10).run cf v (.cons 41 x9 l) ds s := by kernel_rfl
theorem q11_6_10 : (o11_6 10).run cf v l ds s = .normal v l ds s := by kernel_rfl
noncomputable def a11_7 := aR Pz 125 (subC b11 [1, 1, 1, 1, 0, 1, 0, 0, 1, 0, 0, 1, 0, 0])
noncomputable def d11_7 (j : Nat) : DK := dgo 125 86 a11_7 (dropK j a11_7) j
theorem q11_7_0 : (d11_7 0).run cf base v l ds s hist chks = bV (doFieldAddr 0 (lkL 5 v poison)) fun x => (d11_7 1).run cf base v (.cons 44 x l) ds s hist (⟨0, 2, fun s => doFieldAddr 0 (lkL 5 v poison), x⟩ :: chks) := by kernel_rfl
theorem q11_7_1 : (d11_7 1).run cf base v l ds s hist chks = bV (load1 (lkL 44 l poison) s) fun x => (d11_7 2).run cf base v (.cons 45 x l) ds s hist (⟨0, 2, fun s => load1 (lkL 44 l poison) s, x⟩ :: chks) := by kernel_rfl
theorem q11_7_2 : (d11_7 2).run cf base v l ds s hist chks = (d11_7 3).run cf base v (.cons 46 (lkL 4 v poison) l) ds s hist chks := by kernel_rfl
theorem q11_7_3 : (d11_7 3).run cf base v l ds s hist chks = bV (doNilCheck (lkL 46 l poison)) fun x => (d11_7 4).run cf base v (.cons 47 x l) ds s hist chks := by kernel_rfl
theorem q11_7_4 : (d11_7 4).run cf base v l ds s hist chks = bV (doFieldAddr 0 (lkL 47 l poison)) fun x => (d11_7 5).run cf base v (.cons 48 x l) ds s hist chks := by kernel_rfl
theorem q11_7_5 : (d11_7 5).run cf base v l ds s hist chks = bDC (panicK 125 5 (atD a11_7 5) a11_7) base v ds (s :: hist) chks (cf.call 48 [(lkL 48 l poison), (.int .i64 15)] s) fun x s2 => (d11_7 6).run cf base v (.cons 49 x l) ds s2 (s :: hist) chks := by kernel_rfl
theorem q11_7_6 : (d11_7 6).run cf base v l ds s hist chks = bDA (panicK 125 6 (atD a11_7 6) a11_7) cf base v ds (s :: hist) chks (doBuildSlice 3 1 1 (zerosK [(.int .i64 0)] 1) [(0, (lkL 49 l poison))] s) fun x s2 => (d11_7 7).run cf base v (.cons 50 x l) ds s2 (s :: hist) chks := by kernel_rfl
theorem q11_7_7 : (d11_7 7).run cf base v l ds s hist chks = bDA (panicK 125 7 (atD a11_7 7) a11_7) cf base v ds (s :: hist) chks (appendV 1 3 (lkL 45 l poison) (lkL 50 l poison) s) fun x s2 => (d11_7 8).run cf base v (.cons 51 x l) ds s2 (s :: hist) chks := by kernel_rfl
theorem q11_7_8 : (d11_7 8).run cf base v l ds s hist chks = bV (doFieldAddr 1 (lkL 5 v poison)) fun x => (d11_7 9).run cf base v (.cons 52 x l) ds s hist (⟨0, 5, fun s => doFieldAddr 1 (lkL 5 v poison), x⟩ :: chks) := by kernel_rfl
theorem q11_7_9 : (d11_7 9).run cf base v l ds s hist chks = bV (load1 (lkL 52 l poison) s) fun x => (d11_7 10).run cf base v (.cons 53 x l) ds s hist (⟨0, 5, fun s => load1 (lkL 52 l poison) s, x⟩ :: chks) := by kernel_rfl
theorem q11_7_10 : (d11_7 10).run cf base v l ds s hist chks = (d11_7 11).run cf base v (.cons 54 (lkL 4 v poison) l) ds s hist chks := by kernel_rfl
theorem q11_7_11 : (d11_7 11).run cf base v l ds s hist chks = bV (doNilCheck (lkL 54 l poison)) fun x => (d11_7 12).run cf base v (.cons 55 x l) ds s hist (⟨0, 3, fun s => doNilCheck (lkL 54 l poison), x⟩ :: chks) := by kernel_rfl
theorem q11_7_12 : (d11_7 12).run cf base v l ds s hist chks = bV (doFieldAddr 0 (lkL 55 l poison)) fun x => (d11_7 13).run cf base v (.cons 56 x l) ds s hist (⟨0, 3, fun s => doFieldAddr 0 (lkL 55 l poison), x⟩ :: chks) := by kernel_rfl
theorem q11_7_13 : (d11_7 13).run cf base v l ds s hist chks = bDC (panicK 125 13 (atD a11_7 13) a11_7) base v ds (s :: hist) chks (cf.call 48 [(lkL 56 l poison), (.int .i64 65535)] s) fun x s2 => (d11_7 14).run cf base v (.cons 57 x l) ds s2 (s :: hist) chks := by kernel_rfl
theorem q11_7_14 : (d11_7 14).run cf base v l ds s hist chks = bDA (panicK 125 14 (atD a11_7 14) a11_7) cf base v ds (s :: hist) chks (doBuildSlice 3 1 1 (zerosK [(.int .i64 0)] 1) [(0, (lkL 57 l poison))] s) fun x s2 => (d11_7 15).run cf base v (.cons 58 x l) ds s2 (s :: hist) chks := by kernel_rfl
theorem q11_7_15 : (d11_7 15).run cf base v l ds s hist chks = bDA (panicK 125 15 (atD a11_7 15) a11_7) cf base v ds (s :: hist) chks (appendV 1 3 (lkL 53 l poison) (lkL 58 l poison) s) fun x s2 => (d11_7 16).run cf base v (.cons 59 x l) ds s2 (s :: hist) chks := by kernel_rfl
theorem q11_7_16 : (d11_7 16).run cf base v l ds s hist chks = bV (doFieldAddr 2 (lkL 5 v poison)) fun x => (d11_7 17).run cf base v (.cons 60 x l) ds s hist (⟨0, 8, fun s => doFieldAddr 2 (lkL 5 v poison), x⟩ :: chks) := by kernel_rfl
theorem q11_7_17 : (d11_7 17).run cf base v l ds s hist chks = bV (load1 (lkL 60 l poison) s) fun x => (d11_7 18).run cf base v (.cons 61 x l) ds s hist (⟨0, 8, fun s => load1 (lkL 60 l poison) s, x⟩ :: chks) := by kernel_rfl
theorem q11_7_18 : (d11_7 18).run cf base v l ds s hist chks = (d11_7 19).run cf base v (.cons 62 (lkL 4 v poison) l) ds s hist chks := by kernel_rfl
theorem q11_7_19 : (d11_7 19).run cf base v l ds s hist chks = bV (doNilCheck (lkL 62 l poison)) fun x => (d11_7 20).run cf base v (.cons 63 x l) ds s hist (⟨0, 6, fun s => doNilCheck (lkL 62 l poison), x⟩ :: chks) := by kernel_rfl
theorem q11_7_20 : (d11_7 20).run cf base v l ds s hist chks = bV (doFieldAddr 0 (lkL 63 l poison)) fun x => (d11_7 21).run cf base v (.cons 64 x l) ds s hist (⟨0, 6, fun s => doFieldAddr 0 (lkL 63 l poison), x⟩ :: chks) := by kernel_rfl
theorem q11_7_21 : (d11_7 21).run cf base v l ds s hist chks = bDC (panicK 125 21 (atD a11_7 21) a11_7) base v ds (s :: hist) chks (cf.call 48 [(lkL 64 l poison), (.int .i64 65535)] s) fun x s2 => (d11_7 22).run cf base v (.cons 65 x l) ds s2 (s :: hist) chks := by kernel_rfl
theorem q11_7_22 : (d11_7 22).run cf base v l ds s hist chks = bDA (panicK 125 22 (atD a11_7 22) a11_7) cf base v ds (s :: hist) chks (doBuildSlice 3 1 1 (zerosK [(.int .i64 0)] 1) [(0, (lkL 65 l poison))] s) fun x s2 => (d11_7 23).run cf base v (.cons 66 x l) ds s2 (s :: hist) chks := by kernel_rfl
theorem q11_7_23 : (d11_7 23).run cf base v l ds s hist chks = bDA (panicK 125 23 (atD a11_7 23) a11_7) cf base v ds (s :: hist) chks (appendV 1 3 (lkL 61 l poison) (lkL 66 l poison) s) fun x s2 => (d11_7 24).run cf base v (.cons 67 x l) ds s2 (s :: hist) chks := by kernel_rfl
theorem q11_7_24 : (d11_7 24).run cf base v l ds s hist chks = bV (doFieldAddr 0 (lkL 5 v poison)) fun x => (d11_7 25).run cf base v (.cons 68 x l) ds s hist (⟨3, 9, fun s => doFieldAddr 0 (lkL 5 v poison), x⟩ :: chks) := by kernel_rfl
theorem q11_7_25 : (d11_7 25).run cf base v l ds s hist chks = bDA (panicK 125 25 (atD a11_7 25) a11_7) cf base v ds (s :: hist) chks (doStore 1 (lkL 68 l poison) (lkL 51 l poison) s) fun x s2 => (d11_7 26).run cf base v l ds s2 (s :: hist) chks := by kernel_rfl
theorem q11_7_26 : (d11_7 26).run cf base v l ds s hist chks = bV (doFieldAddr 1 (lkL 5 v poison)) fun x => (d11_7 27).run cf base v (.cons 69 x l) ds s hist chks := by kernel_rfl
theorem q11_7_27 : (d11_7 27).run cf base v l ds s hist chks = bDA (panicK 125 27 (atD a11_7 27) a11_7) cf base v ds (s :: hist) chks (doStore 1 (lkL 69 l poison) (lkL 59 l poison) s) fun x s2 => (d11_7 28).run cf base v l ds s2 (s :: hist) chks := by kernel_rfl
theorem q11_7_28 : (d11_7 28).run cf base v l ds s hist chks = bV (doFieldAddr 2 (lkL 5 v poison)) fun x => (d11_7 29).run cf base v (.cons 70 x l) ds s hist chks := by kernel_rfl
theorem q11_7_29 : (d11_7 29).run cf base v l ds s hist chks = bDA (panicK 125 29 (atD a11_7 29) a11_7) cf base v ds (s :: hist) chks (doStore 1 (lkL 70 l poison) (lkL 67 l poison) s) fun x s2 => (d11_7 30).run cf base v l ds s2 (s :: hist) chks := by kernel_rfl
theorem q11_7_30 : (d11_7 30).run cf base v l ds s hist chks = bif' (allK (chkOk (lenK hist) (s :: hist)) chks) (.normal v l ds s) (.fail "draw: it hangs on the order") := by kernel_rfl
noncomputable def o11_8 := oR Pz 125 86 (subC b11 [1, 1, 1, 1, 0, 1, 0, 0, 1, 0, 0, 1, 1])
theorem q11_8_0 : (o11_8 0).run cf v l ds s = bV (doBin Pz .sub (binK .sub) .bad 3 (.tmp 42) (.const (.int .i64 1)) (lkL 6 v poison) (.int .i64 1) s) fun x1 => (o11_8 3).run cf (setL 6 x1 v) (.cons 43 x1 (.cons 42 (lkL 6 v poison) l)) ds s := by kernel_rfl
theorem q11_8_3 : (o11_8 3).run cf v l ds s = .normal v l ds s := by kernel_rfl
noncomputable def l11_9 (lf : Nat) (cf : CF) (v l : L) (ds : DS) (s : AS) : Out := seqK (seqK ((o11_6 0).run cf v .nil ds s) fun v l ds s => condK (lkL 41 l poison) (.normal v l ds s) (.exit 0 v l ds s)) fun v l ds s => seqK (blockK 1 ((d11_7 0).run cf s.next v .nil ds s [] [])) fun v l ds s => (o11_8 0).run cf v .nil ds s
noncomputable def o11_10 := oR Pz 125 86 (subC b11 [1, 1, 1, 1, 0, 1, 0, 1])
theorem q11_10_0 : (o11_10 0).run cf v l ds s = bV (doNilCheck (lkL 4 v poison)) fun x1 => bV (doFieldAddr 0 x1) fun x2 => bC v (.cons 73 x2 (.cons 72 x1 (.cons 71 (lkL 4 v poison) l))) ds (cf.call 48 [x2, (.int .i64 8192)] s) fun x3 s => bV (doFieldAddr 3 (lkL 5 v poison)) fun x4 => bA cf v (.cons 75 x4 (.cons 74 x3 (.cons 73 x2 (.cons 72 x1 (.cons 71 (lkL 4 v poison) l))))) ds (doStore 1 x4 x3 s) fun ds x5 s => (o11_10 6).run cf v (.cons 75 x4 (.cons 74 x3 (.cons 73 x2 (.cons 72 x1 (.cons 71 (lkL 4 v poison) l))))) ds s := by kernel_rfl
theorem q11_10_6 : (o11_10 6).run cf v l ds s = .normal v l ds s := by kernel_rfl
noncomputable def o11_11 := oR Pz 125 86 (subC b11 [1, 1, 1, 1, 1, 0, 0])
theorem q11_11_0 : (o11_11 0).run cf v l ds s = bC v (.cons 76 (lkL 4 v poison) l) ds (cf.call 49 [(lkL 4 v poison)] s) fun x1 s => bV (doUn Pz .not x1) fun x2 => (o11_11 4).run cf v (.cons 79 x2 (.cons 78 x2 (.cons 77 x1 (.cons 76 (lkL 4 v poison) l)))) ds s := by kernel_rfl
theorem q11_11_4 : (o11_11 4).run cf v l ds s = guardRun (wantB false (lkL 79 l poison)) (bV (loadN 10 (lkL 5 v poison) s) fun x4 => (o11_11 5).run cf v (.cons 80 x4 l) ds s) ((o11_11 5).run cf v (.cons 80 undef l) ds s) := by kernel_rfl
theorem q11_11_5 : (o11_11 5).run cf v l ds s = guardRun (wantB false (lkL 79 l poison)) (bC v l ds (cf.call 50 [(lkL 80 l poison)] s) fun x5 s => (o11_11 6).run cf v (.cons 81 x5 l) ds s) ((o11_11 6).run cf v (.cons 81 undef l) ds s) := by kernel_rfl
theorem q11_11_6 : (o11_11 6).run cf v l ds s = guardRun (wantB false (lkL 79 l poison)) (bV (doUn Pz .not (lkL 81 l poison)) fun x6 => (o11_11 7).run cf v (.cons 82 x6 l) ds s) ((o11_11 7).run cf v (.cons 82 undef l) ds s) := by kernel_rfl
theorem q11_11_7 : (o11_11 7).run cf v l ds s = bV (doPick (lkL 79 l poison) (.bool true) (lkL 82 l poison)) fun x7 => (o11_11 8).run cf v (.cons 83 x7 l) ds s := by kernel_rfl
theorem q11_11_8 : (o11_11 8).run cf v l ds s = .normal v l ds s := by kernel_rfl
noncomputable def o11_12 := oR Pz 125 86 (subC b11 [1, 1, 1, 1, 1, 0, 1, 0, 0])
theorem q11_12_0 : (o11_12 0).run cf v l ds s = bV (doBuild ⟨fun i => nthK i [(0, 1), (1, 1), (2, 1), (3, 1), (4, 1), (5, 1), (6, 4)]⟩ [(.slice none 0 0), (.slice none 0 0), (.slice none 0 0), (.int .i64 0), (.int .i64 0), (.int .i64 0), (.int .i64 0), (.int .i64 0), (.int .i64 0), (.slice none 0 0)] []) fun x0 => bA cf v (.cons 84 x0 l) ds (doStore 10 (lkL 2 v poison) x0 s) fun ds x1 s => (o11_12 3).run cf (setL 3 (.int .i64 4) v) (.cons 84 x0 l) ds s := by kernel_rfl
theorem q11_12_3 : (o11_12 3).run cf v l ds s = .normal v l ds s := by kernel_rfl
noncomputable def o11_13 := oR Pz 125 86 (subC b11 [1, 1, 1, 1, 1, 1, 0])
theorem q11_13_0 : (o11_13 0).run cf v l ds s = bV (loadN 10 (lkL 5 v poison) s) fun x0 => bA cf v (.cons 85 x0 l) ds (doStore 10 (lkL 2 v poison) x0 s) fun ds x1 s => (o11_13 3).run cf (setL 3 (.int .i64 0) v) (.cons 85 x0 l) ds s := by kernel_rfl
theorem q11_13_3 : (o11_13 3).run cf v l ds s = .normal v l ds s := by kernel_rfl
noncomputable def c11 (lf : Nat) (cf : CF) (v l : L) (ds : DS) (s : AS) : Out := seqK ((o11_0 0).run cf v .nil ds s) fun v l ds s => seqK ((o11_1 0).run cf v .nil ds s) fun v l ds s => seqK ((o11_2 0).run cf v .nil ds s) fun v l ds s => seqK ((d11_3 0).run cf s.next v .nil ds s [] []) fun v l ds s => seqK (seqK ((o11_4 0).run cf v .nil ds s) fun v l ds s => condK (lkL 27 l poison) (seqK (seqK ((o11_5 0).run cf v .nil ds s) fun v l ds s => blockK 0 (iterK (l11_9 lf cf) lf v l ds s)) fun v l ds s => (o11_10 0).run cf v .nil ds s) (.normal v l ds s)) fun v l ds s => seqK (seqK ((o11_11 0).run cf v .nil ds s) fun v l ds s => condK (lkL 83 l poison) (seqK ((o11_12 0).run cf v .nil ds s) fun v l ds s => .ret v l ds s) (.normal v l ds s)) fun v l ds s => seqK ((o11_13 0).run cf v .nil ds s) fun v l ds s => .ret v l ds s
theorem fn11 (a0 : Value) : (fnK Pz masks lf 11).run cf [a0] s = afterBody Pz masks 125 cf lf Go.Proofs.Tryz.f11 (c11 lf cf (.cons 0 a0 .nil) .nil [] s) := by
  rw [fnK_of (P := Pz) Go.Proofs.Tryz.func11 (show Go.Proofs.Tryz.f11.body = some b11 by kernel_rfl), show masks 11 = 125 by kernel_rfl]; kernel_rfl
/-! 18: assize/frontier.Bytes -/
noncomputable def b18 : Code := match Go.Proofs.Tryz.f18.body with | some c => c | none => .skip
noncomputable def o18_0 := oR Pz 1610612799 57 (subC b18 [0])
theorem q18_0_0 : (o18_0 0).run cf v l ds s = bA cf v l ds (doBox 38 (lkL 0 v poison) s) fun ds x0 s => (o18_0 1).run cf (setL 1 x0 v) l ds s := by kernel_rfl
theorem q18_0_1 : (o18_0 1).run cf v l ds s = (o18_0 2).run cf (setL 2 (.slice none 0 0) v) l ds s := by kernel_rfl
theorem q18_0_2 : (o18_0 2).run cf v l ds s = (o18_0 3).run cf (setL 3 (.int .i64 0) v) l ds s := by kernel_rfl
theorem q18_0_3 : (o18_0 3).run cf v l ds s = .normal v l ds s := by kernel_rfl
noncomputable def o18_1 := oR Pz 1610612799 57 (subC b18 [1, 0, 0])
theorem q18_1_0 : (o18_1 0).run cf v l ds s = bV (loadN 10 (lkL 1 v poison) s) fun x0 => bC v (.cons 6 x0 l) ds (cf.call 50 [x0] s) fun x1 s => bV (doUn Pz .not x1) fun x2 => (o18_1 3).run cf v (.cons 8 x2 (.cons 7 x1 (.cons 6 x0 l))) ds s := by kernel_rfl
theorem q18_1_3 : (o18_1 3).run cf v l ds s = .normal v l ds s := by kernel_rfl
noncomputable def o18_2 := oR Pz 1610612799 57 (subC b18 [1, 0, 1, 0, 0])
theorem q18_2_0 : (o18_2 0).run cf v l ds s = (o18_2 1).run cf (setL 2 (.slice none 0 0) v) l ds s := by kernel_rfl
theorem q18_2_1 : (o18_2 1).run cf v l ds s = (o18_2 2).run cf (setL 3 (.int .i64 2) v) l ds s := by kernel_rfl
theorem q18_2_2 : (o18_2 2).run cf v l ds s = .normal v l ds s := by kernel_rfl
noncomputable def o18_3 := oR Pz 1610612799 57 (subC b18 [1, 1, 0])
theorem q18_3_0 : (o18_3 0).run cf v l ds s = bA cf v l ds (doNew [(.slice none 0 0)] 105 s) fun ds x0 s => (o18_3 1).run cf (setL 4 x0 v) l ds s := by kernel_rfl
theorem q18_3_1 : (o18_3 1).run cf v l ds s = .normal v l ds s := by kernel_rfl
noncomputable def o18_4 := oR Pz 1610612799 57 (subC b18 [1, 1, 1, 0])
theorem q18_4_0 : (o18_4 0).run cf v l ds s = bV (doFieldAddr 6 (lkL 1 v poison)) fun x0 => bV (loadN 4 x0 s) fun x1 => bC v (.cons 10 x1 (.cons 9 x0 l)) ds (cf.call 46 [(lkL 4 v poison), x1] s) fun x2 s => (o18_4 3).run cf v (.cons 11 x2 (.cons 10 x1 (.cons 9 x0 l))) ds s := by kernel_rfl
theorem q18_4_3 : (o18_4 3).run cf v l ds s = .normal v l ds s := by kernel_rfl
noncomputable def o18_5 := oR Pz 1610612799 57 (subC b18 [1, 1, 1, 1, 0])
theorem q18_5_0 : (o18_5 0).run cf v l ds s = bV (doFieldAddr 4 (lkL 1 v poison)) fun x0 => bV (load1 x0 s) fun x1 => bV (doFieldAddr 5 (lkL 1 v poison)) fun x2 => bV (load1 x2 s) fun x3 => bA cf v (.cons 15 x3 (.cons 14 x2 (.cons 13 x1 (.cons 12 x0 l)))) ds (doBuildSlice 3 1 2 (zerosK [(.int .i64 0)] 2) [(0, x1), (1, x3)] s) fun ds x4 s => bC v (.cons 16 x4 (.cons 15 x3 (.cons 14 x2 (.cons 13 x1 (.cons 12 x0 l))))) ds (cf.call 54 [(lkL 4 v poison), x4] s) fun x5 s => (o18_5 6).run cf v (.cons 17 x5 (.cons 16 x4 (.cons 15 x3 (.cons 14 x2 (.cons 13 x1 (.cons 12 x0 l)))))) ds s := by kernel_rfl
theorem q18_5_6 : (o18_5 6).run cf v l ds s = .normal v l ds s := by kernel_rfl
noncomputable def o18_6 := oR Pz 1610612799 57 (subC b18 [1, 1, 1, 1, 1, 0, 0])
theorem q18_6_0 : (o18_6 0).run cf v l ds s = bV (doFieldAddr 6 (lkL 1 v poison)) fun x0 => bV (doFieldAddr 0 x0) fun x1 => bV (load1 x1 s) fun x2 => bV (doBin Pz .eql (binK .eql) .bad 3 (.tmp 20) (.const (.int .i64 0)) x2 (.int .i64 0) s) fun x3 => (o18_6 4).run cf v (.cons 21 x3 (.cons 20 x2 (.cons 19 x1 (.cons 18 x0 l)))) ds s := by kernel_rfl
theorem q18_6_4 : (o18_6 4).run cf v l ds s = .normal v l ds s := by kernel_rfl
noncomputable def o18_7 := oR Pz 1610612799 57 (subC b18 [1, 1, 1, 1, 1, 0, 1, 0, 0])
theorem q18_7_0 : (o18_7 0).run cf v l ds s = bV (doFieldAddr 0 (lkL 1 v poison)) fun x0 => bV (load1 x0 s) fun x1 => bV (doLen .slice x1 s) fun x2 => bA cf v (.cons 24 x2 (.cons 23 x1 (.cons 22 x0 l))) ds (doBuildSlice 3 1 1 (zerosK [(.int .i64 0)] 1) [(0, x2)] s) fun ds x3 s => bC v (.cons 25 x3 (.cons 24 x2 (.cons 23 x1 (.cons 22 x0 l)))) ds (cf.call 54 [(lkL 4 v poison), x3] s) fun x4 s => (o18_7 5).run cf v (.cons 26 x4 (.cons 25 x3 (.cons 24 x2 (.cons 23 x1 (.cons 22 x0 l))))) ds s := by kernel_rfl
theorem q18_7_5 : (o18_7 5).run cf v l ds s = .normal v l ds s := by kernel_rfl
noncomputable def o18_8 := oR Pz 1610612799 57 (subC b18 [1, 1, 1, 1, 1, 0, 1, 0, 1, 0, 0])
theorem q18_8_0 : (o18_8 0).run cf v l ds s = bV (doFieldAddr 0 (lkL 1 v poison)) fun x0 => bV (load1 x0 s) fun x1 => bV (doLen .slice x1 s) fun x2 => (o18_8 3).run cf (setL 29 x2 v) (.cons 28 x1 (.cons 27 x0 l)) ds s := by kernel_rfl
theorem q18_8_3 : (o18_8 3).run cf v l ds s = (o18_8 4).run cf (setL 30 (.int .i64 0) v) l ds s := by kernel_rfl
theorem q18_8_4 : (o18_8 4).run cf v l ds s = .normal v l ds s := by kernel_rfl
noncomputable def o18_9 := oR Pz 1610612799 57 (subC b18 [1, 1, 1, 1, 1, 0, 1, 0, 1, 0, 1, 0, 0, 0])
theorem q18_9_0 : (o18_9 0).run cf v l ds s = bV (doBin Pz .lss (binK .lss) .bad 3 (.tmp 30) (.tmp 29) (lkL 30 v poison) (lkL 29 v poison) s) fun x0 => (o18_9 1).run cf v (.cons 31 x0 l) ds s := by kernel_rfl
theorem q18_9_1 : (o18_9 1).run cf v l ds s = .normal v l ds s := by kernel_rfl
noncomputable def o18_10 := oR Pz 1610612799 57 (subC b18 [1, 1, 1, 1, 1, 0, 1, 0, 1, 0, 1, 0, 0, 1, 1, 0, 0, 0])
theorem q18_10_0 : (o18_10 0).run cf v l ds s = (o18_10 2).run cf (setL 5 (lkL 30 v poison) v) (.cons 32 (lkL 30 v poison) l) ds s := by kernel_rfl
theorem q18_10_2 : (o18_10 2).run cf v l ds s = .normal v l ds s := by kernel_rfl
noncomputable def a18_11 := aR Pz 1610612799 (subC b18 [1, 1, 1, 1, 1, 0, 1, 0, 1, 0, 1, 0, 0, 1, 1, 0, 0, 1])
noncomputable def d18_11 (j : Nat) : DK := dgo 1610612799 57 a18_11 (dropK j a18_11) j
theorem q18_11_0 : (d18_11 0).run cf base v l ds s hist chks = bV (doFieldAddr 0 (lkL 1 v poison)) fun x => (d18_11 1).run cf base v (.cons 33 x l) ds s hist chks := by kernel_rfl
theorem q18_11_1 : (d18_11 1).run cf base v l ds s hist chks = bV (load1 (lkL 33 l poison) s) fun x => (d18_11 2).run cf base v (.cons 34 x l) ds s hist chks := by kernel_rfl
theorem q18_11_2 : (d18_11 2).run cf base v l ds s hist chks = (d18_11 3).run cf base v (.cons 35 (lkL 5 v poison) l) ds s hist chks := by kernel_rfl
theorem q18_11_3 : (d18_11 3).run cf base v l ds s hist chks = bV (indexAddrS 1 (lkL 34 l poison) (lkL 35 l poison)) fun x => (d18_11 4).run cf base v (.cons 36 x l) ds s hist chks := by kernel_rfl
theorem q18_11_4 : (d18_11 4).run cf base v l ds s hist chks = bV (load1 (lkL 36 l poison) s) fun x => (d18_11 5).run cf base v (.cons 37 x l) ds s hist chks := by kernel_rfl
theorem q18_11_5 : (d18_11 5).run cf base v l ds s hist chks = bV (doFieldAddr 1 (lkL 1 v poison)) fun x => (d18_11 6).run cf base v (.cons 38 x l) ds s hist chks := by kernel_rfl
theorem q18_11_6 : (d18_11 6).run cf base v l ds s hist chks = bV (load1 (lkL 38 l poison) s) fun x => (d18_11 7).run cf base v (.cons 39 x l) ds s hist chks := by kernel_rfl
theorem q18_11_7 : (d18_11 7).run cf base v l ds s hist chks = (d18_11 8).run cf base v (.cons 40 (lkL 5 v poison) l) ds s hist chks := by kernel_rfl
theorem q18_11_8 : (d18_11 8).run cf base v l ds s hist chks = bV (indexAddrS 1 (lkL 39 l poison) (lkL 40 l poison)) fun x => (d18_11 9).run cf base v (.cons 41 x l) ds s hist chks := by kernel_rfl
theorem q18_11_9 : (d18_11 9).run cf base v l ds s hist chks = bV (load1 (lkL 41 l poison) s) fun x => (d18_11 10).run cf base v (.cons 42 x l) ds s hist chks := by kernel_rfl
theorem q18_11_10 : (d18_11 10).run cf base v l ds s hist chks = bV (doFieldAddr 2 (lkL 1 v poison)) fun x => (d18_11 11).run cf base v (.cons 43 x l) ds s hist chks := by kernel_rfl
theorem q18_11_11 : (d18_11 11).run cf base v l ds s hist chks = bV (load1 (lkL 43 l poison) s) fun x => (d18_11 12).run cf base v (.cons 44 x l) ds s hist chks := by kernel_rfl
theorem q18_11_12 : (d18_11 12).run cf base v l ds s hist chks = (d18_11 13).run cf base v (.cons 45 (lkL 5 v poison) l) ds s hist chks := by kernel_rfl
theorem q18_11_13 : (d18_11 13).run cf base v l ds s hist chks = bV (indexAddrS 1 (lkL 44 l poison) (lkL 45 l poison)) fun x => (d18_11 14).run cf base v (.cons 46 x l) ds s hist chks := by kernel_rfl
theorem q18_11_14 : (d18_11 14).run cf base v l ds s hist chks = bV (load1 (lkL 46 l poison) s) fun x => (d18_11 15).run cf base v (.cons 47 x l) ds s hist chks := by kernel_rfl
theorem q18_11_15 : (d18_11 15).run cf base v l ds s hist chks = bDA (panicK 1610612799 15 (atD a18_11 15) a18_11) cf base v ds (s :: hist) chks (doBuildSlice 3 1 3 (zerosK [(.int .i64 0)] 3) [(0, (lkL 37 l poison)), (1, (lkL 42 l poison)), (2, (lkL 47 l poison))] s) fun x s2 => (d18_11 16).run cf base v (.cons 48 x l) ds s2 (s :: hist) chks := by kernel_rfl
theorem q18_11_16 : (d18_11 16).run cf base v l ds s hist chks = bDC (panicK 1610612799 16 (atD a18_11 16) a18_11) base v ds (s :: hist) chks (cf.call 54 [(lkL 4 v poison), (lkL 48 l poison)] s) fun x s2 => (d18_11 17).run cf base v (.cons 49 x l) ds s2 (s :: hist) chks := by kernel_rfl
theorem q18_11_17 : (d18_11 17).run cf base v l ds s hist chks = bif' (allK (chkOk (lenK hist) (s :: hist)) chks) (.normal v l ds s) (.fail "draw: it hangs on the order") := by kernel_rfl
noncomputable def o18_12 := oR Pz 1610612799 57 (subC b18 [1, 1, 1, 1, 1, 0, 1, 0, 1, 0, 1, 0, 0, 1, 1, 1])
theorem q18_12_0 : (o18_12 0).run cf v l ds s = bV (doBin Pz .add (binK .add) .bad 3 (.tmp 30) (.const (.int .i64 1)) (lkL 30 v poison) (.int .i64 1) s) fun x0 => (o18_12 2).run cf (setL 30 x0 v) (.cons 50 x0 l) ds s := by kernel_rfl
theorem q18_12_2 : (o18_12 2).run cf v l ds s = .normal v l ds s := by kernel_rfl
noncomputable def l18_13 (lf : Nat) (cf : CF) (v l : L) (ds : DS) (s : AS) : Out := seqK ((o18_9 0).run cf v .nil ds s) fun v l ds s => seqK (condK (lkL 31 l poison) (.normal v l ds s) (.exit 0 v l ds s)) fun v l ds s => seqK (blockK 1 (seqK ((o18_10 0).run cf v .nil ds s) fun v l ds s => (d18_11 0).run cf s.next v .nil ds s [] [])) fun v l ds s => (o18_12 0).run cf v .nil ds s
noncomputable def o18_14 := oR Pz 1610612799 57 (subC b18 [1, 1, 1, 1, 1, 0, 1, 0, 1, 1])
theorem q18_14_0 : (o18_14 0).run cf v l ds s = bV (doFieldAddr 3 (lkL 1 v poison)) fun x0 => bV (load1 x0 s) fun x1 => bA cf v (.cons 52 x1 (.cons 51 x0 l)) ds (doBuildSlice 3 1 1 (zerosK [(.int .i64 0)] 1) [(0, x1)] s) fun ds x2 s => bC v (.cons 53 x2 (.cons 52 x1 (.cons 51 x0 l))) ds (cf.call 54 [(lkL 4 v poison), x2] s) fun x3 s => (o18_14 4).run cf v (.cons 54 x3 (.cons 53 x2 (.cons 52 x1 (.cons 51 x0 l)))) ds s := by kernel_rfl
theorem q18_14_4 : (o18_14 4).run cf v l ds s = .normal v l ds s := by kernel_rfl
noncomputable def o18_15 := oR Pz 1610612799 57 (subC b18 [1, 1, 1, 1, 1, 1, 0])
theorem q18_15_0 : (o18_15 0).run cf v l ds s = bV (doFieldAddr 0 (lkL 4 v poison)) fun x0 => bV (load1 x0 s) fun x1 => (o18_15 3).run cf (setL 2 x1 v) (.cons 56 x1 (.cons 55 x0 l)) ds s := by kernel_rfl
theorem q18_15_3 : (o18_15 3).run cf v l ds s = (o18_15 4).run cf (setL 3 (.int .i64 0) v) l ds s := by kernel_rfl
theorem q18_15_4 : (o18_15 4).run cf v l ds s = .normal v l ds s := by kernel_rfl
noncomputable def c18 (lf : Nat) (cf : CF) (v l : L) (ds : DS) (s : AS) : Out := seqK ((o18_0 0).run cf v .nil ds s) fun v l ds s => seqK (seqK ((o18_1 0).run cf v .nil ds s) fun v l ds s => condK (lkL 8 l poison) (seqK ((o18_2 0).run cf v .nil ds s) fun v l ds s => .ret v l ds s) (.normal v l ds s)) fun v l ds s => seqK ((o18_3 0).run cf v .nil ds s) fun v l ds s => seqK ((o18_4 0).run cf v .nil ds s) fun v l ds s => seqK ((o18_5 0).run cf v .nil ds s) fun v l ds s => seqK (seqK ((o18_6 0).run cf v .nil ds s) fun v l ds s => condK (lkL 21 l poison) (seqK ((o18_7 0).run cf v .nil ds s) fun v l ds s => seqK (seqK ((o18_8 0).run cf v .nil ds s) fun v l ds s => blockK 0 (iterK (l18_13 lf cf) lf v l ds s)) fun v l ds s => (o18_14 0).run cf v .nil ds s) (.normal v l ds s)) fun v l ds s => seqK ((o18_15 0).run cf v .nil ds s) fun v l ds s => .ret v l ds s
theorem fn18 (a0 : Value) : (fnK Pz masks lf 18).run cf [a0] s = afterBody Pz masks 1610612799 cf lf Go.Proofs.Tryz.f18 (c18 lf cf (.cons 0 a0 .nil) .nil [] s) := by
  rw [fnK_of (P := Pz) Go.Proofs.Tryz.func18 (show Go.Proofs.Tryz.f18.body = some b18 by kernel_rfl), show masks 18 = 1610612799 by kernel_rfl]; kernel_rfl
/-! 17: assize/assizelaw17.long -/
noncomputable def b17 : Code := match Go.Proofs.Tryz.f17.body with | some c => c | none => .skip
noncomputable def o17_0 := oR Pz 7 20 (subC b17 [0])
theorem q17_0_0 : (o17_0 0).run cf v l ds s = bA cf v l ds (doBox 38 (lkL 0 v poison) s) fun ds x0 s => (o17_0 1).run cf (setL 1 x0 v) l ds s := by kernel_rfl
theorem q17_0_1 : (o17_0 1).run cf v l ds s = (o17_0 2).run cf (setL 2 (.bool false) v) l ds s := by kernel_rfl
theorem q17_0_2 : (o17_0 2).run cf v l ds s = .normal v l ds s := by kernel_rfl
noncomputable def o17_1 := oR Pz 7 20 (subC b17 [1, 0])
theorem q17_1_0 : (o17_1 0).run cf v l ds s = bV (doFieldAddr 0 (lkL 1 v poison)) fun x0 => bV (load1 x0 s) fun x1 => bV (doLen .slice x1 s) fun x2 => bV (doFieldAddr 1 (lkL 1 v poison)) fun x3 => bV (load1 x3 s) fun x4 => bV (doLen .slice x4 s) fun x5 => bV (doBin Pz .add (binK .add) .bad 3 (.tmp 5) (.tmp 8) x2 x5 s) fun x6 => bV (doFieldAddr 2 (lkL 1 v poison)) fun x7 => bV (load1 x7 s) fun x8 => bV (doLen .slice x8 s) fun x9 => bV (doBin Pz .add (binK .add) .bad 3 (.tmp 9) (.tmp 12) x6 x9 s) fun x10 => bV (doFieldAddr 6 (lkL 1 v poison)) fun x11 => bV (doFieldAddr 3 x11) fun x12 => bV (load1 x12 s) fun x13 => bV (doLen .slice x13 s) fun x14 => bV (doBin Pz .add (binK .add) .bad 3 (.tmp 13) (.tmp 17) x10 x14 s) fun x15 => bV (doBin Pz .gtr (binK .gtr) .bad 3 (.tmp 18) (.const (.int .i64 4000)) x15 (.int .i64 4000) s) fun x16 => (o17_1 18).run cf (setL 2 x16 v) (.cons 19 x16 (.cons 18 x15 (.cons 17 x14 (.cons 16 x13 (.cons 15 x12 (.cons 14 x11 (.cons 13 x10 (.cons 12 x9 (.cons 11 x8 (.cons 10 x7 (.cons 9 x6 (.cons 8 x5 (.cons 7 x4 (.cons 6 x3 (.cons 5 x2 (.cons 4 x1 (.cons 3 x0 l))))))))))))))))) ds s := by kernel_rfl
theorem q17_1_18 : (o17_1 18).run cf v l ds s = .normal v l ds s := by kernel_rfl
noncomputable def c17 (lf : Nat) (cf : CF) (v l : L) (ds : DS) (s : AS) : Out := seqK ((o17_0 0).run cf v .nil ds s) fun v l ds s => seqK ((o17_1 0).run cf v .nil ds s) fun v l ds s => .ret v l ds s
theorem fn17 (a0 : Value) : (fnK Pz masks lf 17).run cf [a0] s = afterBody Pz masks 7 cf lf Go.Proofs.Tryz.f17 (c17 lf cf (.cons 0 a0 .nil) .nil [] s) := by
  rw [fnK_of (P := Pz) Go.Proofs.Tryz.func17 (show Go.Proofs.Tryz.f17.body = some b17 by kernel_rfl), show masks 17 = 7 by kernel_rfl]; kernel_rfl
/-! 19: assize/assizekit.CopyBytes -/
noncomputable def b19 : Code := match Go.Proofs.Tryz.f19.body with | some c => c | none => .skip
noncomputable def o19_0 := oR Pz 5 6 (subC b19 [0])
theorem q19_0_0 : (o19_0 0).run cf v l ds s = (o19_0 1).run cf (setL 2 (.slice none 0 0) v) l ds s := by kernel_rfl
theorem q19_0_1 : (o19_0 1).run cf v l ds s = .normal v l ds s := by kernel_rfl
noncomputable def o19_1 := oR Pz 5 6 (subC b19 [1, 0])
theorem q19_1_0 : (o19_1 0).run cf v l ds s = bA cf v l ds (doBuildSlice 5 1 0 (zerosK [(.int .u8 0)] 0) [] s) fun ds x0 s => bA cf v (.cons 4 (lkL 0 v poison) (.cons 3 x0 l)) ds (appendV 1 5 x0 (lkL 0 v poison) s) fun ds x2 s => (o19_1 4).run cf (setL 2 x2 v) (.cons 5 x2 (.cons 4 (lkL 0 v poison) (.cons 3 x0 l))) ds s := by kernel_rfl
theorem q19_1_4 : (o19_1 4).run cf v l ds s = .normal v l ds s := by kernel_rfl
noncomputable def c19 (lf : Nat) (cf : CF) (v l : L) (ds : DS) (s : AS) : Out := seqK ((o19_0 0).run cf v .nil ds s) fun v l ds s => seqK ((o19_1 0).run cf v .nil ds s) fun v l ds s => .ret v l ds s
theorem fn19 (a0 : Value) : (fnK Pz masks lf 19).run cf [a0] s = afterBody Pz masks 5 cf lf Go.Proofs.Tryz.f19 (c19 lf cf (.cons 0 a0 .nil) .nil [] s) := by
  rw [fnK_of (P := Pz) Go.Proofs.Tryz.func19 (show Go.Proofs.Tryz.f19.body = some b19 by kernel_rfl), show masks 19 = 5 by kernel_rfl]; kernel_rfl
end Go.Proofs.YtbbknbmmpkpgdaaGreatDoor.KAb
namespace Go.Proofs.YtbbknbmmpkpgdaaGreatDoor.KAb
variable (lf : Nat) (cf : CF) (base : Nat) (v l : L) (ds : DS) (s : AS) (hist : List AS) (chks : List Chk)
/-! 20: assize/assizekit.SameFrontier -/
noncomputable def b20 : Code := match Go.Proofs.Tryz.f20.body with | some c => c | none => .skip
noncomputable def o20_0 := oR Pz 31 52 (subC b20 [0])
theorem q20_0_0 : (o20_0 0).run cf v l ds s = bA cf v l ds (doBox 38 (lkL 0 v poison) s) fun ds x0 s => (o20_0 1).run cf (setL 2 x0 v) l ds s := by kernel_rfl
theorem q20_0_1 : (o20_0 1).run cf v l ds s = bA cf v l ds (doBox 38 (lkL 1 v poison) s) fun ds x1 s => (o20_0 2).run cf (setL 3 x1 v) l ds s := by kernel_rfl
theorem q20_0_2 : (o20_0 2).run cf v l ds s = (o20_0 3).run cf (setL 4 (.bool false) v) l ds s := by kernel_rfl
theorem q20_0_3 : (o20_0 3).run cf v l ds s = .normal v l ds s := by kernel_rfl
noncomputable def o20_1 := oR Pz 31 52 (subC b20 [1, 0])
theorem q20_1_0 : (o20_1 0).run cf v l ds s = bV (doFieldAddr 0 (lkL 2 v poison)) fun x0 => bV (load1 x0 s) fun x1 => bV (doFieldAddr 0 (lkL 3 v poison)) fun x2 => bV (load1 x2 s) fun x3 => bC v (.cons 8 x3 (.cons 7 x2 (.cons 6 x1 (.cons 5 x0 l)))) ds (cf.call 34 [x1, x3] s) fun x4 s => (o20_1 6).run cf v (.cons 10 x4 (.cons 9 x4 (.cons 8 x3 (.cons 7 x2 (.cons 6 x1 (.cons 5 x0 l)))))) ds s := by kernel_rfl
theorem q20_1_6 : (o20_1 6).run cf v l ds s = guardRun (wantB true (lkL 10 l poison)) (bV (doFieldAddr 1 (lkL 2 v poison)) fun x6 => (o20_1 7).run cf v (.cons 11 x6 l) ds s) ((o20_1 7).run cf v (.cons 11 undef l) ds s) := by kernel_rfl
theorem q20_1_7 : (o20_1 7).run cf v l ds s = guardRun (wantB true (lkL 10 l poison)) (bV (load1 (lkL 11 l poison) s) fun x7 => (o20_1 8).run cf v (.cons 12 x7 l) ds s) ((o20_1 8).run cf v (.cons 12 undef l) ds s) := by kernel_rfl
theorem q20_1_8 : (o20_1 8).run cf v l ds s = guardRun (wantB true (lkL 10 l poison)) (bV (doFieldAddr 1 (lkL 3 v poison)) fun x8 => (o20_1 9).run cf v (.cons 13 x8 l) ds s) ((o20_1 9).run cf v (.cons 13 undef l) ds s) := by kernel_rfl
theorem q20_1_9 : (o20_1 9).run cf v l ds s = guardRun (wantB true (lkL 10 l poison)) (bV (load1 (lkL 13 l poison) s) fun x9 => (o20_1 10).run cf v (.cons 14 x9 l) ds s) ((o20_1 10).run cf v (.cons 14 undef l) ds s) := by kernel_rfl
theorem q20_1_10 : (o20_1 10).run cf v l ds s = guardRun (wantB true (lkL 10 l poison)) (bC v l ds (cf.call 34 [(lkL 12 l poison), (lkL 14 l poison)] s) fun x10 s => (o20_1 11).run cf v (.cons 15 x10 l) ds s) ((o20_1 11).run cf v (.cons 15 undef l) ds s) := by kernel_rfl
theorem q20_1_11 : (o20_1 11).run cf v l ds s = bV (doPick (lkL 10 l poison) (lkL 15 l poison) (.bool false)) fun x11 => (o20_1 13).run cf v (.cons 17 x11 (.cons 16 x11 l)) ds s := by kernel_rfl
theorem q20_1_13 : (o20_1 13).run cf v l ds s = guardRun (wantB true (lkL 17 l poison)) (bV (doFieldAddr 2 (lkL 2 v poison)) fun x13 => (o20_1 14).run cf v (.cons 18 x13 l) ds s) ((o20_1 14).run cf v (.cons 18 undef l) ds s) := by kernel_rfl
theorem q20_1_14 : (o20_1 14).run cf v l ds s = guardRun (wantB true (lkL 17 l poison)) (bV (load1 (lkL 18 l poison) s) fun x14 => (o20_1 15).run cf v (.cons 19 x14 l) ds s) ((o20_1 15).run cf v (.cons 19 undef l) ds s) := by kernel_rfl
theorem q20_1_15 : (o20_1 15).run cf v l ds s = guardRun (wantB true (lkL 17 l poison)) (bV (doFieldAddr 2 (lkL 3 v poison)) fun x15 => (o20_1 16).run cf v (.cons 20 x15 l) ds s) ((o20_1 16).run cf v (.cons 20 undef l) ds s) := by kernel_rfl
theorem q20_1_16 : (o20_1 16).run cf v l ds s = guardRun (wantB true (lkL 17 l poison)) (bV (load1 (lkL 20 l poison) s) fun x16 => (o20_1 17).run cf v (.cons 21 x16 l) ds s) ((o20_1 17).run cf v (.cons 21 undef l) ds s) := by kernel_rfl
theorem q20_1_17 : (o20_1 17).run cf v l ds s = guardRun (wantB true (lkL 17 l poison)) (bC v l ds (cf.call 34 [(lkL 19 l poison), (lkL 21 l poison)] s) fun x17 s => (o20_1 18).run cf v (.cons 22 x17 l) ds s) ((o20_1 18).run cf v (.cons 22 undef l) ds s) := by kernel_rfl
theorem q20_1_18 : (o20_1 18).run cf v l ds s = bV (doPick (lkL 17 l poison) (lkL 22 l poison) (.bool false)) fun x18 => (o20_1 20).run cf v (.cons 24 x18 (.cons 23 x18 l)) ds s := by kernel_rfl
theorem q20_1_20 : (o20_1 20).run cf v l ds s = guardRun (wantB true (lkL 24 l poison)) (bV (doFieldAddr 3 (lkL 2 v poison)) fun x20 => (o20_1 21).run cf v (.cons 25 x20 l) ds s) ((o20_1 21).run cf v (.cons 25 undef l) ds s) := by kernel_rfl
theorem q20_1_21 : (o20_1 21).run cf v l ds s = guardRun (wantB true (lkL 24 l poison)) (bV (load1 (lkL 25 l poison) s) fun x21 => (o20_1 22).run cf v (.cons 26 x21 l) ds s) ((o20_1 22).run cf v (.cons 26 undef l) ds s) := by kernel_rfl
theorem q20_1_22 : (o20_1 22).run cf v l ds s = guardRun (wantB true (lkL 24 l poison)) (bV (doFieldAddr 3 (lkL 3 v poison)) fun x22 => (o20_1 23).run cf v (.cons 27 x22 l) ds s) ((o20_1 23).run cf v (.cons 27 undef l) ds s) := by kernel_rfl
theorem q20_1_23 : (o20_1 23).run cf v l ds s = guardRun (wantB true (lkL 24 l poison)) (bV (load1 (lkL 27 l poison) s) fun x23 => (o20_1 24).run cf v (.cons 28 x23 l) ds s) ((o20_1 24).run cf v (.cons 28 undef l) ds s) := by kernel_rfl
theorem q20_1_24 : (o20_1 24).run cf v l ds s = guardRun (wantB true (lkL 24 l poison)) (bV (doBin Pz .eql (binK .eql) .bad 3 (.tmp 26) (.tmp 28) (lkL 26 l poison) (lkL 28 l poison) s) fun x24 => (o20_1 25).run cf v (.cons 29 x24 l) ds s) ((o20_1 25).run cf v (.cons 29 undef l) ds s) := by kernel_rfl
theorem q20_1_25 : (o20_1 25).run cf v l ds s = bV (doPick (lkL 24 l poison) (lkL 29 l poison) (.bool false)) fun x25 => (o20_1 27).run cf v (.cons 31 x25 (.cons 30 x25 l)) ds s := by kernel_rfl
theorem q20_1_27 : (o20_1 27).run cf v l ds s = guardRun (wantB true (lkL 31 l poison)) (bV (doFieldAddr 4 (lkL 2 v poison)) fun x27 => (o20_1 28).run cf v (.cons 32 x27 l) ds s) ((o20_1 28).run cf v (.cons 32 undef l) ds s) := by kernel_rfl
theorem q20_1_28 : (o20_1 28).run cf v l ds s = guardRun (wantB true (lkL 31 l poison)) (bV (load1 (lkL 32 l poison) s) fun x28 => (o20_1 29).run cf v (.cons 33 x28 l) ds s) ((o20_1 29).run cf v (.cons 33 undef l) ds s) := by kernel_rfl
theorem q20_1_29 : (o20_1 29).run cf v l ds s = guardRun (wantB true (lkL 31 l poison)) (bV (doFieldAddr 4 (lkL 3 v poison)) fun x29 => (o20_1 30).run cf v (.cons 34 x29 l) ds s) ((o20_1 30).run cf v (.cons 34 undef l) ds s) := by kernel_rfl
theorem q20_1_30 : (o20_1 30).run cf v l ds s = guardRun (wantB true (lkL 31 l poison)) (bV (load1 (lkL 34 l poison) s) fun x30 => (o20_1 31).run cf v (.cons 35 x30 l) ds s) ((o20_1 31).run cf v (.cons 35 undef l) ds s) := by kernel_rfl
theorem q20_1_31 : (o20_1 31).run cf v l ds s = guardRun (wantB true (lkL 31 l poison)) (bV (doBin Pz .eql (binK .eql) .bad 3 (.tmp 33) (.tmp 35) (lkL 33 l poison) (lkL 35 l poison) s) fun x31 => (o20_1 32).run cf v (.cons 36 x31 l) ds s) ((o20_1 32).run cf v (.cons 36 undef l) ds s) := by kernel_rfl
theorem q20_1_32 : (o20_1 32).run cf v l ds s = bV (doPick (lkL 31 l poison) (lkL 36 l poison) (.bool false)) fun x32 => (o20_1 34).run cf v (.cons 38 x32 (.cons 37 x32 l)) ds s := by kernel_rfl
theorem q20_1_34 : (o20_1 34).run cf v l ds s = guardRun (wantB true (lkL 38 l poison)) (bV (doFieldAddr 5 (lkL 2 v poison)) fun x34 => (o20_1 35).run cf v (.cons 39 x34 l) ds s) ((o20_1 35).run cf v (.cons 39 undef l) ds s) := by kernel_rfl
theorem q20_1_35 : (o20_1 35).run cf v l ds s = guardRun (wantB true (lkL 38 l poison)) (bV (load1 (lkL 39 l poison) s) fun x35 => (o20_1 36).run cf v (.cons 40 x35 l) ds s) ((o20_1 36).run cf v (.cons 40 undef l) ds s) := by kernel_rfl
theorem q20_1_36 : (o20_1 36).run cf v l ds s = guardRun (wantB true (lkL 38 l poison)) (bV (doFieldAddr 5 (lkL 3 v poison)) fun x36 => (o20_1 37).run cf v (.cons 41 x36 l) ds s) ((o20_1 37).run cf v (.cons 41 undef l) ds s) := by kernel_rfl
theorem q20_1_37 : (o20_1 37).run cf v l ds s = guardRun (wantB true (lkL 38 l poison)) (bV (load1 (lkL 41 l poison) s) fun x37 => (o20_1 38).run cf v (.cons 42 x37 l) ds s) ((o20_1 38).run cf v (.cons 42 undef l) ds s) := by kernel_rfl
theorem q20_1_38 : (o20_1 38).run cf v l ds s = guardRun (wantB true (lkL 38 l poison)) (bV (doBin Pz .eql (binK .eql) .bad 3 (.tmp 40) (.tmp 42) (lkL 40 l poison) (lkL 42 l poison) s) fun x38 => (o20_1 39).run cf v (.cons 43 x38 l) ds s) ((o20_1 39).run cf v (.cons 43 undef l) ds s) := by kernel_rfl
theorem q20_1_39 : (o20_1 39).run cf v l ds s = bV (doPick (lkL 38 l poison) (lkL 43 l poison) (.bool false)) fun x39 => (o20_1 41).run cf v (.cons 45 x39 (.cons 44 x39 l)) ds s := by kernel_rfl
theorem q20_1_41 : (o20_1 41).run cf v l ds s = guardRun (wantB true (lkL 45 l poison)) (bV (doFieldAddr 6 (lkL 2 v poison)) fun x41 => (o20_1 42).run cf v (.cons 46 x41 l) ds s) ((o20_1 42).run cf v (.cons 46 undef l) ds s) := by kernel_rfl
theorem q20_1_42 : (o20_1 42).run cf v l ds s = guardRun (wantB true (lkL 45 l poison)) (bV (loadN 4 (lkL 46 l poison) s) fun x42 => (o20_1 43).run cf v (.cons 47 x42 l) ds s) ((o20_1 43).run cf v (.cons 47 undef l) ds s) := by kernel_rfl
theorem q20_1_43 : (o20_1 43).run cf v l ds s = guardRun (wantB true (lkL 45 l poison)) (bV (doFieldAddr 6 (lkL 3 v poison)) fun x43 => (o20_1 44).run cf v (.cons 48 x43 l) ds s) ((o20_1 44).run cf v (.cons 48 undef l) ds s) := by kernel_rfl
theorem q20_1_44 : (o20_1 44).run cf v l ds s = guardRun (wantB true (lkL 45 l poison)) (bV (loadN 4 (lkL 48 l poison) s) fun x44 => (o20_1 45).run cf v (.cons 49 x44 l) ds s) ((o20_1 45).run cf v (.cons 49 undef l) ds s) := by kernel_rfl
theorem q20_1_45 : (o20_1 45).run cf v l ds s = guardRun (wantB true (lkL 45 l poison)) (bC v l ds (cf.call 55 [(lkL 47 l poison), (lkL 49 l poison)] s) fun x45 s => (o20_1 46).run cf v (.cons 50 x45 l) ds s) ((o20_1 46).run cf v (.cons 50 undef l) ds s) := by kernel_rfl
theorem q20_1_46 : (o20_1 46).run cf v l ds s = bV (doPick (lkL 45 l poison) (lkL 50 l poison) (.bool false)) fun x46 => (o20_1 48).run cf (setL 4 x46 v) (.cons 51 x46 l) ds s := by kernel_rfl
theorem q20_1_48 : (o20_1 48).run cf v l ds s = .normal v l ds s := by kernel_rfl
noncomputable def c20 (lf : Nat) (cf : CF) (v l : L) (ds : DS) (s : AS) : Out := seqK ((o20_0 0).run cf v .nil ds s) fun v l ds s => seqK ((o20_1 0).run cf v .nil ds s) fun v l ds s => .ret v l ds s
theorem fn20 (a0 a1 : Value) : (fnK Pz masks lf 20).run cf [a0, a1] s = afterBody Pz masks 31 cf lf Go.Proofs.Tryz.f20 (c20 lf cf (.cons 0 a0 (.cons 1 a1 .nil)) .nil [] s) := by
  rw [fnK_of (P := Pz) Go.Proofs.Tryz.func20 (show Go.Proofs.Tryz.f20.body = some b20 by kernel_rfl), show masks 20 = 31 by kernel_rfl]; kernel_rfl
/-! 34: assize/assizekit.SameInts -/
noncomputable def b34 : Code := match Go.Proofs.Tryz.f34.body with | some c => c | none => .skip
noncomputable def o34_0 := oR Pz 51 26 (subC b34 [0])
theorem q34_0_0 : (o34_0 0).run cf v l ds s = (o34_0 1).run cf (setL 4 (.bool false) v) l ds s := by kernel_rfl
theorem q34_0_1 : (o34_0 1).run cf v l ds s = .normal v l ds s := by kernel_rfl
noncomputable def o34_1 := oR Pz 51 26 (subC b34 [1, 0, 0])
theorem q34_1_0 : (o34_1 0).run cf v l ds s = bV (doLen .slice (lkL 0 v poison) s) fun x1 => bV (doLen .slice (lkL 1 v poison) s) fun x3 => bV (doBin Pz .neq (binK .neq) .bad 3 (.tmp 7) (.tmp 9) x1 x3 s) fun x4 => (o34_1 5).run cf v (.cons 10 x4 (.cons 9 x3 (.cons 8 (lkL 1 v poison) (.cons 7 x1 (.cons 6 (lkL 0 v poison) l))))) ds s := by kernel_rfl
theorem q34_1_5 : (o34_1 5).run cf v l ds s = .normal v l ds s := by kernel_rfl
noncomputable def o34_2 := oR Pz 51 26 (subC b34 [1, 0, 1, 0, 0])
theorem q34_2_0 : (o34_2 0).run cf v l ds s = (o34_2 1).run cf (setL 4 (.bool false) v) l ds s := by kernel_rfl
theorem q34_2_1 : (o34_2 1).run cf v l ds s = .normal v l ds s := by kernel_rfl
noncomputable def o34_3 := oR Pz 51 26 (subC b34 [1, 1, 0, 0])
theorem q34_3_0 : (o34_3 0).run cf v l ds s = (o34_3 1).run cf (setL 5 (.int .i64 0) v) l ds s := by kernel_rfl
theorem q34_3_1 : (o34_3 1).run cf v l ds s = .normal v l ds s := by kernel_rfl
noncomputable def o34_4 := oR Pz 51 26 (subC b34 [1, 1, 0, 1, 0, 0, 0, 0])
theorem q34_4_0 : (o34_4 0).run cf v l ds s = bV (doLen .slice (lkL 0 v poison) s) fun x2 => bV (doBin Pz .lss (binK .lss) .bad 3 (.tmp 11) (.tmp 13) (lkL 5 v poison) x2 s) fun x3 => (o34_4 4).run cf v (.cons 14 x3 (.cons 13 x2 (.cons 12 (lkL 0 v poison) (.cons 11 (lkL 5 v poison) l)))) ds s := by kernel_rfl
theorem q34_4_4 : (o34_4 4).run cf v l ds s = .normal v l ds s := by kernel_rfl
noncomputable def a34_5 := aR Pz 51 (subC b34 [1, 1, 0, 1, 0, 0, 1, 0, 0, 0])
noncomputable def d34_5 (j : Nat) : DK := dgo 51 26 a34_5 (dropK j a34_5) j
theorem q34_5_0 : (d34_5 0).run cf base v l ds s hist chks = (d34_5 1).run cf base v (.cons 17 (lkL 0 v poison) l) ds s hist chks := by kernel_rfl
theorem q34_5_1 : (d34_5 1).run cf base v l ds s hist chks = (d34_5 2).run cf base v (.cons 18 (lkL 5 v poison) l) ds s hist chks := by kernel_rfl
theorem q34_5_2 : (d34_5 2).run cf base v l ds s hist chks = bV (indexAddrS 1 (lkL 17 l poison) (lkL 18 l poison)) fun x => (d34_5 3).run cf base v (.cons 19 x l) ds s hist chks := by kernel_rfl
theorem q34_5_3 : (d34_5 3).run cf base v l ds s hist chks = bV (load1 (lkL 19 l poison) s) fun x => (d34_5 4).run cf base v (.cons 20 x l) ds s hist chks := by kernel_rfl
theorem q34_5_4 : (d34_5 4).run cf base v l ds s hist chks = (d34_5 5).run cf base v (.cons 21 (lkL 1 v poison) l) ds s hist chks := by kernel_rfl
theorem q34_5_5 : (d34_5 5).run cf base v l ds s hist chks = (d34_5 6).run cf base v (.cons 22 (lkL 5 v poison) l) ds s hist chks := by kernel_rfl
theorem q34_5_6 : (d34_5 6).run cf base v l ds s hist chks = bV (indexAddrS 1 (lkL 21 l poison) (lkL 22 l poison)) fun x => (d34_5 7).run cf base v (.cons 23 x l) ds s hist chks := by kernel_rfl
theorem q34_5_7 : (d34_5 7).run cf base v l ds s hist chks = bV (load1 (lkL 23 l poison) s) fun x => (d34_5 8).run cf base v (.cons 24 x l) ds s hist chks := by kernel_rfl
theorem q34_5_8 : (d34_5 8).run cf base v l ds s hist chks = bV (doBin Pz .neq (binK .neq) .bad 3 (.tmp 20) (.tmp 24) (lkL 20 l poison) (lkL 24 l poison) s) fun x => (d34_5 9).run cf base v (.cons 25 x l) ds s hist chks := by kernel_rfl
theorem q34_5_9 : (d34_5 9).run cf base v l ds s hist chks = bif' (allK (chkOk (lenK hist) (s :: hist)) chks) (.normal v l ds s) (.fail "draw: it hangs on the order") := by kernel_rfl
noncomputable def o34_6 := oR Pz 51 26 (subC b34 [1, 1, 0, 1, 0, 0, 1, 0, 0, 1, 0, 0])
theorem q34_6_0 : (o34_6 0).run cf v l ds s = (o34_6 1).run cf (setL 4 (.bool false) v) l ds s := by kernel_rfl
theorem q34_6_1 : (o34_6 1).run cf v l ds s = .normal v l ds s := by kernel_rfl
noncomputable def o34_7 := oR Pz 51 26 (subC b34 [1, 1, 0, 1, 0, 0, 1, 1])
theorem q34_7_0 : (o34_7 0).run cf v l ds s = bV (doBin Pz .add (binK .add) .bad 3 (.tmp 15) (.const (.int .i64 1)) (lkL 5 v poison) (.int .i64 1) s) fun x1 => (o34_7 3).run cf (setL 5 x1 v) (.cons 16 x1 (.cons 15 (lkL 5 v poison) l)) ds s := by kernel_rfl
theorem q34_7_3 : (o34_7 3).run cf v l ds s = .normal v l ds s := by kernel_rfl
noncomputable def l34_8 (lf : Nat) (cf : CF) (v l : L) (ds : DS) (s : AS) : Out := seqK (seqK ((o34_4 0).run cf v .nil ds s) fun v l ds s => condK (lkL 14 l poison) (.normal v l ds s) (.exit 0 v l ds s)) fun v l ds s => seqK (blockK 1 (seqK ((d34_5 0).run cf s.next v .nil ds s [] []) fun v l ds s => condK (lkL 25 l poison) (seqK ((o34_6 0).run cf v .nil ds s) fun v l ds s => .ret v l ds s) (.normal v l ds s))) fun v l ds s => (o34_7 0).run cf v .nil ds s
noncomputable def o34_9 := oR Pz 51 26 (subC b34 [1, 1, 1, 0])
theorem q34_9_0 : (o34_9 0).run cf v l ds s = (o34_9 1).run cf (setL 4 (.bool true) v) l ds s := by kernel_rfl
theorem q34_9_1 : (o34_9 1).run cf v l ds s = .normal v l ds s := by kernel_rfl
noncomputable def c34 (lf : Nat) (cf : CF) (v l : L) (ds : DS) (s : AS) : Out := seqK ((o34_0 0).run cf v .nil ds s) fun v l ds s => seqK (seqK ((o34_1 0).run cf v .nil ds s) fun v l ds s => condK (lkL 10 l poison) (seqK ((o34_2 0).run cf v .nil ds s) fun v l ds s => .ret v l ds s) (.normal v l ds s)) fun v l ds s => seqK (seqK ((o34_3 0).run cf v .nil ds s) fun v l ds s => blockK 0 (iterK (l34_8 lf cf) lf v l ds s)) fun v l ds s => seqK ((o34_9 0).run cf v .nil ds s) fun v l ds s => .ret v l ds s
theorem fn34 (a0 a1 : Value) : (fnK Pz masks lf 34).run cf [a0, a1] s = afterBody Pz masks 51 cf lf Go.Proofs.Tryz.f34 (c34 lf cf (.cons 0 a0 (.cons 1 a1 .nil)) .nil [] s) := by
  rw [fnK_of (P := Pz) Go.Proofs.Tryz.func34 (show Go.Proofs.Tryz.f34.body = some b34 by kernel_rfl), show masks 34 = 51 by kernel_rfl]; kernel_rfl
/-! 55: assize/assizekit.SameVerdict -/
noncomputable def b55 : Code := match Go.Proofs.Tryz.f55.body with | some c => c | none => .skip
noncomputable def o55_0 := oR Pz 31 31 (subC b55 [0])
theorem q55_0_0 : (o55_0 0).run cf v l ds s = bA cf v l ds (doBox 36 (lkL 0 v poison) s) fun ds x0 s => (o55_0 1).run cf (setL 2 x0 v) l ds s := by kernel_rfl
theorem q55_0_1 : (o55_0 1).run cf v l ds s = bA cf v l ds (doBox 36 (lkL 1 v poison) s) fun ds x1 s => (o55_0 2).run cf (setL 3 x1 v) l ds s := by kernel_rfl
theorem q55_0_2 : (o55_0 2).run cf v l ds s = (o55_0 3).run cf (setL 4 (.bool false) v) l ds s := by kernel_rfl
theorem q55_0_3 : (o55_0 3).run cf v l ds s = .normal v l ds s := by kernel_rfl
noncomputable def o55_1 := oR Pz 31 31 (subC b55 [1, 0])
theorem q55_1_0 : (o55_1 0).run cf v l ds s = bV (doFieldAddr 0 (lkL 2 v poison)) fun x0 => bV (load1 x0 s) fun x1 => bV (doFieldAddr 0 (lkL 3 v poison)) fun x2 => bV (load1 x2 s) fun x3 => bV (doBin Pz .eql (binK .eql) .bad 3 (.tmp 6) (.tmp 8) x1 x3 s) fun x4 => (o55_1 6).run cf v (.cons 10 x4 (.cons 9 x4 (.cons 8 x3 (.cons 7 x2 (.cons 6 x1 (.cons 5 x0 l)))))) ds s := by kernel_rfl
theorem q55_1_6 : (o55_1 6).run cf v l ds s = guardRun (wantB true (lkL 10 l poison)) (bV (doFieldAddr 1 (lkL 2 v poison)) fun x6 => (o55_1 7).run cf v (.cons 11 x6 l) ds s) ((o55_1 7).run cf v (.cons 11 undef l) ds s) := by kernel_rfl
theorem q55_1_7 : (o55_1 7).run cf v l ds s = guardRun (wantB true (lkL 10 l poison)) (bV (load1 (lkL 11 l poison) s) fun x7 => (o55_1 8).run cf v (.cons 12 x7 l) ds s) ((o55_1 8).run cf v (.cons 12 undef l) ds s) := by kernel_rfl
theorem q55_1_8 : (o55_1 8).run cf v l ds s = guardRun (wantB true (lkL 10 l poison)) (bV (doFieldAddr 1 (lkL 3 v poison)) fun x8 => (o55_1 9).run cf v (.cons 13 x8 l) ds s) ((o55_1 9).run cf v (.cons 13 undef l) ds s) := by kernel_rfl
theorem q55_1_9 : (o55_1 9).run cf v l ds s = guardRun (wantB true (lkL 10 l poison)) (bV (load1 (lkL 13 l poison) s) fun x9 => (o55_1 10).run cf v (.cons 14 x9 l) ds s) ((o55_1 10).run cf v (.cons 14 undef l) ds s) := by kernel_rfl
theorem q55_1_10 : (o55_1 10).run cf v l ds s = guardRun (wantB true (lkL 10 l poison)) (bV (doBin Pz .eql (binK .eql) .bad 3 (.tmp 12) (.tmp 14) (lkL 12 l poison) (lkL 14 l poison) s) fun x10 => (o55_1 11).run cf v (.cons 15 x10 l) ds s) ((o55_1 11).run cf v (.cons 15 undef l) ds s) := by kernel_rfl
theorem q55_1_11 : (o55_1 11).run cf v l ds s = bV (doPick (lkL 10 l poison) (lkL 15 l poison) (.bool false)) fun x11 => (o55_1 13).run cf v (.cons 17 x11 (.cons 16 x11 l)) ds s := by kernel_rfl
theorem q55_1_13 : (o55_1 13).run cf v l ds s = guardRun (wantB true (lkL 17 l poison)) (bV (doFieldAddr 2 (lkL 2 v poison)) fun x13 => (o55_1 14).run cf v (.cons 18 x13 l) ds s) ((o55_1 14).run cf v (.cons 18 undef l) ds s) := by kernel_rfl
theorem q55_1_14 : (o55_1 14).run cf v l ds s = guardRun (wantB true (lkL 17 l poison)) (bV (load1 (lkL 18 l poison) s) fun x14 => (o55_1 15).run cf v (.cons 19 x14 l) ds s) ((o55_1 15).run cf v (.cons 19 undef l) ds s) := by kernel_rfl
theorem q55_1_15 : (o55_1 15).run cf v l ds s = guardRun (wantB true (lkL 17 l poison)) (bV (doFieldAddr 2 (lkL 3 v poison)) fun x15 => (o55_1 16).run cf v (.cons 20 x15 l) ds s) ((o55_1 16).run cf v (.cons 20 undef l) ds s) := by kernel_rfl
theorem q55_1_16 : (o55_1 16).run cf v l ds s = guardRun (wantB true (lkL 17 l poison)) (bV (load1 (lkL 20 l poison) s) fun x16 => (o55_1 17).run cf v (.cons 21 x16 l) ds s) ((o55_1 17).run cf v (.cons 21 undef l) ds s) := by kernel_rfl
theorem q55_1_17 : (o55_1 17).run cf v l ds s = guardRun (wantB true (lkL 17 l poison)) (bV (doBin Pz .eql (binK .eql) .bad 3 (.tmp 19) (.tmp 21) (lkL 19 l poison) (lkL 21 l poison) s) fun x17 => (o55_1 18).run cf v (.cons 22 x17 l) ds s) ((o55_1 18).run cf v (.cons 22 undef l) ds s) := by kernel_rfl
theorem q55_1_18 : (o55_1 18).run cf v l ds s = bV (doPick (lkL 17 l poison) (lkL 22 l poison) (.bool false)) fun x18 => (o55_1 20).run cf v (.cons 24 x18 (.cons 23 x18 l)) ds s := by kernel_rfl
theorem q55_1_20 : (o55_1 20).run cf v l ds s = guardRun (wantB true (lkL 24 l poison)) (bV (doFieldAddr 3 (lkL 2 v poison)) fun x20 => (o55_1 21).run cf v (.cons 25 x20 l) ds s) ((o55_1 21).run cf v (.cons 25 undef l) ds s) := by kernel_rfl
theorem q55_1_21 : (o55_1 21).run cf v l ds s = guardRun (wantB true (lkL 24 l poison)) (bV (load1 (lkL 25 l poison) s) fun x21 => (o55_1 22).run cf v (.cons 26 x21 l) ds s) ((o55_1 22).run cf v (.cons 26 undef l) ds s) := by kernel_rfl
theorem q55_1_22 : (o55_1 22).run cf v l ds s = guardRun (wantB true (lkL 24 l poison)) (bV (doFieldAddr 3 (lkL 3 v poison)) fun x22 => (o55_1 23).run cf v (.cons 27 x22 l) ds s) ((o55_1 23).run cf v (.cons 27 undef l) ds s) := by kernel_rfl
theorem q55_1_23 : (o55_1 23).run cf v l ds s = guardRun (wantB true (lkL 24 l poison)) (bV (load1 (lkL 27 l poison) s) fun x23 => (o55_1 24).run cf v (.cons 28 x23 l) ds s) ((o55_1 24).run cf v (.cons 28 undef l) ds s) := by kernel_rfl
theorem q55_1_24 : (o55_1 24).run cf v l ds s = guardRun (wantB true (lkL 24 l poison)) (bC v l ds (cf.call 34 [(lkL 26 l poison), (lkL 28 l poison)] s) fun x24 s => (o55_1 25).run cf v (.cons 29 x24 l) ds s) ((o55_1 25).run cf v (.cons 29 undef l) ds s) := by kernel_rfl
theorem q55_1_25 : (o55_1 25).run cf v l ds s = bV (doPick (lkL 24 l poison) (lkL 29 l poison) (.bool false)) fun x25 => (o55_1 27).run cf (setL 4 x25 v) (.cons 30 x25 l) ds s := by kernel_rfl
theorem q55_1_27 : (o55_1 27).run cf v l ds s = .normal v l ds s := by kernel_rfl
noncomputable def c55 (lf : Nat) (cf : CF) (v l : L) (ds : DS) (s : AS) : Out := seqK ((o55_0 0).run cf v .nil ds s) fun v l ds s => seqK ((o55_1 0).run cf v .nil ds s) fun v l ds s => .ret v l ds s
theorem fn55 (a0 a1 : Value) : (fnK Pz masks lf 55).run cf [a0, a1] s = afterBody Pz masks 31 cf lf Go.Proofs.Tryz.f55 (c55 lf cf (.cons 0 a0 (.cons 1 a1 .nil)) .nil [] s) := by
  rw [fnK_of (P := Pz) Go.Proofs.Tryz.func55 (show Go.Proofs.Tryz.f55.body = some b55 by kernel_rfl), show masks 55 = 31 by kernel_rfl]; kernel_rfl
/-! 14: assize/assizekit.SameBytes -/
noncomputable def b14 : Code := match Go.Proofs.Tryz.f14.body with | some c => c | none => .skip
noncomputable def o14_0 := oR Pz 19 10 (subC b14 [0])
theorem q14_0_0 : (o14_0 0).run cf v l ds s = (o14_0 1).run cf (setL 4 (.bool false) v) l ds s := by kernel_rfl
theorem q14_0_1 : (o14_0 1).run cf v l ds s = .normal v l ds s := by kernel_rfl
noncomputable def o14_1 := oR Pz 19 10 (subC b14 [1, 0])
theorem q14_1_0 : (o14_1 0).run cf v l ds s = bV (convStr .bytes (lkL 0 v poison) s) fun x1 => bV (convStr .bytes (lkL 1 v poison) s) fun x3 => bV (doBin Pz .eql (binK .eql) .bad 9 (.tmp 6) (.tmp 8) x1 x3 s) fun x4 => (o14_1 6).run cf (setL 4 x4 v) (.cons 9 x4 (.cons 8 x3 (.cons 7 (lkL 1 v poison) (.cons 6 x1 (.cons 5 (lkL 0 v poison) l))))) ds s := by kernel_rfl
theorem q14_1_6 : (o14_1 6).run cf v l ds s = .normal v l ds s := by kernel_rfl
noncomputable def c14 (lf : Nat) (cf : CF) (v l : L) (ds : DS) (s : AS) : Out := seqK ((o14_0 0).run cf v .nil ds s) fun v l ds s => seqK ((o14_1 0).run cf v .nil ds s) fun v l ds s => .ret v l ds s
theorem fn14 (a0 a1 : Value) : (fnK Pz masks lf 14).run cf [a0, a1] s = afterBody Pz masks 19 cf lf Go.Proofs.Tryz.f14 (c14 lf cf (.cons 0 a0 (.cons 1 a1 .nil)) .nil [] s) := by
  rw [fnK_of (P := Pz) Go.Proofs.Tryz.func14 (show Go.Proofs.Tryz.f14.body = some b14 by kernel_rfl), show masks 14 = 19 by kernel_rfl]; kernel_rfl
/-! 4: assize/assizelaw17.FrontierBack -/
noncomputable def b4 : Code := match Go.Proofs.Tryz.f4.body with | some c => c | none => .skip
noncomputable def o4_0 := oR Pz 257015 102 (subC b4 [0])
theorem q4_0_0 : (o4_0 0).run cf v l ds s = bA cf v l ds (doBox 38 (lkL 0 v poison) s) fun ds x0 s => (o4_0 1).run cf (setL 2 x0 v) l ds s := by kernel_rfl
theorem q4_0_1 : (o4_0 1).run cf v l ds s = (o4_0 2).run cf (setL 4 (.bool false) v) l ds s := by kernel_rfl
theorem q4_0_2 : (o4_0 2).run cf v l ds s = .normal v l ds s := by kernel_rfl
noncomputable def o4_1 := oR Pz 257015 102 (subC b4 [1, 0])
theorem q4_1_0 : (o4_1 0).run cf v l ds s = bC v l ds (cf.call 3 [] s) fun x0 s => (o4_1 2).run cf (setL 5 x0 v) (.cons 18 x0 l) ds s := by kernel_rfl
theorem q4_1_2 : (o4_1 2).run cf v l ds s = .normal v l ds s := by kernel_rfl
noncomputable def o4_2 := oR Pz 257015 102 (subC b4 [1, 1, 0, 0])
theorem q4_2_0 : (o4_2 0).run cf v l ds s = bV (loadN 10 (lkL 2 v poison) s) fun x0 => bC v (.cons 19 x0 l) ds (cf.call 17 [x0] s) fun x1 s => (o4_2 3).run cf v (.cons 21 x1 (.cons 20 x1 (.cons 19 x0 l))) ds s := by kernel_rfl
theorem q4_2_3 : (o4_2 3).run cf v l ds s = guardRun (wantB false (lkL 21 l poison)) ((o4_2 4).run cf v (.cons 22 (lkL 1 v poison) l) ds s) ((o4_2 4).run cf v (.cons 22 undef l) ds s) := by kernel_rfl
theorem q4_2_4 : (o4_2 4).run cf v l ds s = guardRun (wantB false (lkL 21 l poison)) (bV (doLen .slice (lkL 22 l poison) s) fun x4 => (o4_2 5).run cf v (.cons 23 x4 l) ds s) ((o4_2 5).run cf v (.cons 23 undef l) ds s) := by kernel_rfl
theorem q4_2_5 : (o4_2 5).run cf v l ds s = guardRun (wantB false (lkL 21 l poison)) (bV (doBin Pz .gtr (binK .gtr) .bad 3 (.tmp 23) (.const (.int .i64 20000)) (lkL 23 l poison) (.int .i64 20000) s) fun x5 => (o4_2 6).run cf v (.cons 24 x5 l) ds s) ((o4_2 6).run cf v (.cons 24 undef l) ds s) := by kernel_rfl
theorem q4_2_6 : (o4_2 6).run cf v l ds s = bV (doPick (lkL 21 l poison) (.bool true) (lkL 24 l poison)) fun x6 => (o4_2 7).run cf v (.cons 25 x6 l) ds s := by kernel_rfl
theorem q4_2_7 : (o4_2 7).run cf v l ds s = .normal v l ds s := by kernel_rfl
noncomputable def o4_3 := oR Pz 257015 102 (subC b4 [1, 1, 0, 1, 0, 0])
theorem q4_3_0 : (o4_3 0).run cf v l ds s = (o4_3 2).run cf (setL 4 (lkL 5 v poison) v) (.cons 26 (lkL 5 v poison) l) ds s := by kernel_rfl
theorem q4_3_2 : (o4_3 2).run cf v l ds s = .normal v l ds s := by kernel_rfl
noncomputable def o4_4 := oR Pz 257015 102 (subC b4 [1, 1, 1, 0])
theorem q4_4_0 : (o4_4 0).run cf v l ds s = bV (loadN 10 (lkL 2 v poison) s) fun x0 => bC v (.cons 28 x0 l) ds (cf.call 18 [x0] s) fun x1 s => bV (doExtract x1 0) fun x3 => bV (doExtract x1 1) fun x4 => (o4_4 6).run cf (setL 6 x3 v) (.cons 31 x4 (.cons 30 x3 (.cons 27 x1 (.cons 29 x1 (.cons 28 x0 l))))) ds s := by kernel_rfl
theorem q4_4_6 : (o4_4 6).run cf v l ds s = (o4_4 7).run cf (setL 7 (lkL 31 l poison) v) l ds s := by kernel_rfl
theorem q4_4_7 : (o4_4 7).run cf v l ds s = .normal v l ds s := by kernel_rfl
noncomputable def o4_5 := oR Pz 257015 102 (subC b4 [1, 1, 1, 1, 0, 0])
theorem q4_5_0 : (o4_5 0).run cf v l ds s = bV (doBin Pz .eql (binK .eql) .bad 28 (.tmp 32) (.const (.int .i64 0)) (lkL 7 v poison) (.int .i64 0) s) fun x1 => (o4_5 3).run cf v (.cons 34 x1 (.cons 33 x1 (.cons 32 (lkL 7 v poison) l))) ds s := by kernel_rfl
theorem q4_5_3 : (o4_5 3).run cf v l ds s = guardRun (wantB true (lkL 34 l poison)) ((o4_5 4).run cf v (.cons 35 (lkL 6 v poison) l) ds s) ((o4_5 4).run cf v (.cons 35 undef l) ds s) := by kernel_rfl
theorem q4_5_4 : (o4_5 4).run cf v l ds s = guardRun (wantB true (lkL 34 l poison)) (bV (doLen .slice (lkL 35 l poison) s) fun x4 => (o4_5 5).run cf v (.cons 36 x4 l) ds s) ((o4_5 5).run cf v (.cons 36 undef l) ds s) := by kernel_rfl
theorem q4_5_5 : (o4_5 5).run cf v l ds s = guardRun (wantB true (lkL 34 l poison)) (bV (doBin Pz .eql (binK .eql) .bad 3 (.tmp 36) (.const (.int .i64 0)) (lkL 36 l poison) (.int .i64 0) s) fun x5 => (o4_5 6).run cf v (.cons 37 x5 l) ds s) ((o4_5 6).run cf v (.cons 37 undef l) ds s) := by kernel_rfl
theorem q4_5_6 : (o4_5 6).run cf v l ds s = bV (doPick (lkL 34 l poison) (lkL 37 l poison) (.bool false)) fun x6 => (o4_5 7).run cf v (.cons 38 x6 l) ds s := by kernel_rfl
theorem q4_5_7 : (o4_5 7).run cf v l ds s = .normal v l ds s := by kernel_rfl
noncomputable def o4_6 := oR Pz 257015 102 (subC b4 [1, 1, 1, 1, 0, 1, 0, 0])
theorem q4_6_0 : (o4_6 0).run cf v l ds s = (o4_6 1).run cf (setL 4 (.bool false) v) l ds s := by kernel_rfl
theorem q4_6_1 : (o4_6 1).run cf v l ds s = .normal v l ds s := by kernel_rfl
noncomputable def o4_7 := oR Pz 257015 102 (subC b4 [1, 1, 1, 1, 1, 0, 0])
theorem q4_7_0 : (o4_7 0).run cf v l ds s = bV (doBin Pz .eql (binK .eql) .bad 28 (.tmp 39) (.const (.int .i64 0)) (lkL 7 v poison) (.int .i64 0) s) fun x1 => (o4_7 2).run cf v (.cons 40 x1 (.cons 39 (lkL 7 v poison) l)) ds s := by kernel_rfl
theorem q4_7_2 : (o4_7 2).run cf v l ds s = .normal v l ds s := by kernel_rfl
noncomputable def o4_8 := oR Pz 257015 102 (subC b4 [1, 1, 1, 1, 1, 0, 1, 0, 0])
theorem q4_8_0 : (o4_8 0).run cf v l ds s = bC v (.cons 42 (lkL 6 v poison) l) ds (cf.call 11 [(lkL 6 v poison)] s) fun x1 s => bV (doExtract x1 0) fun x3 => bV (doExtract x1 1) fun x4 => bA cf v (.cons 45 x4 (.cons 44 x3 (.cons 41 x1 (.cons 43 x1 (.cons 42 (lkL 6 v poison) l))))) ds (doNew [(.slice none 0 0), (.slice none 0 0), (.slice none 0 0), (.int .i64 0), (.int .i64 0), (.int .i64 0), (.int .i64 0), (.int .i64 0), (.int .i64 0), (.slice none 0 0)] 38 s) fun ds x5 s => (o4_8 6).run cf (setL 8 x5 v) (.cons 45 x4 (.cons 44 x3 (.cons 41 x1 (.cons 43 x1 (.cons 42 (lkL 6 v poison) l))))) ds s := by kernel_rfl
theorem q4_8_6 : (o4_8 6).run cf v l ds s = bA cf v l ds (doStore 10 (lkL 8 v poison) (lkL 44 l poison) s) fun ds x6 s => (o4_8 8).run cf (setL 9 (lkL 45 l poison) v) l ds s := by kernel_rfl
theorem q4_8_8 : (o4_8 8).run cf v l ds s = .normal v l ds s := by kernel_rfl
noncomputable def o4_9 := oR Pz 257015 102 (subC b4 [1, 1, 1, 1, 1, 0, 1, 0, 1, 0])
theorem q4_9_0 : (o4_9 0).run cf v l ds s = bV (doLen .slice (lkL 6 v poison) s) fun x2 => bV (doBin Pz .sub (binK .sub) .bad 3 (.tmp 49) (.const (.int .i64 1)) x2 (.int .i64 1) s) fun x3 => bV (doSlice Pz (.slice 1) (lkL 6 v poison) none (some x3) none s) fun x4 => bC v (.cons 51 x4 (.cons 50 x3 (.cons 49 x2 (.cons 48 (lkL 6 v poison) (.cons 47 (lkL 6 v poison) l))))) ds (cf.call 11 [x4] s) fun x5 s => bV (doExtract x5 0) fun x7 => bV (doExtract x5 1) fun x8 => bA cf v (.cons 54 x8 (.cons 53 x7 (.cons 46 x5 (.cons 52 x5 (.cons 51 x4 (.cons 50 x3 (.cons 49 x2 (.cons 48 (lkL 6 v poison) (.cons 47 (lkL 6 v poison) l))))))))) ds (doNew [(.slice none 0 0), (.slice none 0 0), (.slice none 0 0), (.int .i64 0), (.int .i64 0), (.int .i64 0), (.int .i64 0), (.int .i64 0), (.int .i64 0), (.slice none 0 0)] 38 s) fun ds x9 s => bA cf v (.cons 10 x9 (.cons 54 x8 (.cons 53 x7 (.cons 46 x5 (.cons 52 x5 (.cons 51 x4 (.cons 50 x3 (.cons 49 x2 (.cons 48 (lkL 6 v poison) (.cons 47 (lkL 6 v poison) l)))))))))) ds (doStore 10 x9 x7 s) fun ds x10 s => (o4_9 12).run cf (setL 11 x8 v) (.cons 10 x9 (.cons 54 x8 (.cons 53 x7 (.cons 46 x5 (.cons 52 x5 (.cons 51 x4 (.cons 50 x3 (.cons 49 x2 (.cons 48 (lkL 6 v poison) (.cons 47 (lkL 6 v poison) l)))))))))) ds s := by kernel_rfl
theorem q4_9_12 : (o4_9 12).run cf v l ds s = .normal v l ds s := by kernel_rfl
noncomputable def o4_10 := oR Pz 257015 102 (subC b4 [1, 1, 1, 1, 1, 0, 1, 0, 1, 1, 0])
theorem q4_10_0 : (o4_10 0).run cf v l ds s = bC v (.cons 56 (lkL 6 v poison) l) ds (cf.call 19 [(lkL 6 v poison)] s) fun x1 s => bA cf v (.cons 57 x1 (.cons 56 (lkL 6 v poison) l)) ds (doBuildSlice 5 1 1 (zerosK [(.int .u8 0)] 1) [(0, (.int .u8 0))] s) fun ds x2 s => bA cf v (.cons 58 x2 (.cons 57 x1 (.cons 56 (lkL 6 v poison) l))) ds (appendV 1 5 x1 x2 s) fun ds x3 s => bC v (.cons 59 x3 (.cons 58 x2 (.cons 57 x1 (.cons 56 (lkL 6 v poison) l)))) ds (cf.call 11 [x3] s) fun x4 s => bV (doExtract x4 0) fun x6 => bV (doExtract x4 1) fun x7 => bA cf v (.cons 62 x7 (.cons 61 x6 (.cons 55 x4 (.cons 60 x4 (.cons 59 x3 (.cons 58 x2 (.cons 57 x1 (.cons 56 (lkL 6 v poison) l)))))))) ds (doNew [(.slice none 0 0), (.slice none 0 0), (.slice none 0 0), (.int .i64 0), (.int .i64 0), (.int .i64 0), (.int .i64 0), (.int .i64 0), (.int .i64 0), (.slice none 0 0)] 38 s) fun ds x8 s => bA cf v (.cons 12 x8 (.cons 62 x7 (.cons 61 x6 (.cons 55 x4 (.cons 60 x4 (.cons 59 x3 (.cons 58 x2 (.cons 57 x1 (.cons 56 (lkL 6 v poison) l))))))))) ds (doStore 10 x8 x6 s) fun ds x9 s => (o4_10 11).run cf (setL 13 x7 v) (.cons 12 x8 (.cons 62 x7 (.cons 61 x6 (.cons 55 x4 (.cons 60 x4 (.cons 59 x3 (.cons 58 x2 (.cons 57 x1 (.cons 56 (lkL 6 v poison) l))))))))) ds s := by kernel_rfl
theorem q4_10_11 : (o4_10 11).run cf v l ds s = .normal v l ds s := by kernel_rfl
noncomputable def o4_11 := oR Pz 257015 102 (subC b4 [1, 1, 1, 1, 1, 0, 1, 0, 1, 1, 1, 0])
theorem q4_11_0 : (o4_11 0).run cf v l ds s = bV (doBin Pz .neq (binK .neq) .bad 28 (.tmp 63) (.const (.int .i64 0)) (lkL 9 v poison) (.int .i64 0) s) fun x1 => (o4_11 3).run cf v (.cons 65 x1 (.cons 64 x1 (.cons 63 (lkL 9 v poison) l))) ds s := by kernel_rfl
theorem q4_11_3 : (o4_11 3).run cf v l ds s = guardRun (wantB false (lkL 65 l poison)) (bV (loadN 10 (lkL 8 v poison) s) fun x3 => (o4_11 4).run cf v (.cons 66 x3 l) ds s) ((o4_11 4).run cf v (.cons 66 undef l) ds s) := by kernel_rfl
theorem q4_11_4 : (o4_11 4).run cf v l ds s = guardRun (wantB false (lkL 65 l poison)) (bV (loadN 10 (lkL 2 v poison) s) fun x4 => (o4_11 5).run cf v (.cons 67 x4 l) ds s) ((o4_11 5).run cf v (.cons 67 undef l) ds s) := by kernel_rfl
theorem q4_11_5 : (o4_11 5).run cf v l ds s = guardRun (wantB false (lkL 65 l poison)) (bC v l ds (cf.call 20 [(lkL 66 l poison), (lkL 67 l poison)] s) fun x5 s => (o4_11 6).run cf v (.cons 68 x5 l) ds s) ((o4_11 6).run cf v (.cons 68 undef l) ds s) := by kernel_rfl
theorem q4_11_6 : (o4_11 6).run cf v l ds s = guardRun (wantB false (lkL 65 l poison)) (bV (doUn Pz .not (lkL 68 l poison)) fun x6 => (o4_11 7).run cf v (.cons 69 x6 l) ds s) ((o4_11 7).run cf v (.cons 69 undef l) ds s) := by kernel_rfl
theorem q4_11_7 : (o4_11 7).run cf v l ds s = bV (doPick (lkL 65 l poison) (.bool true) (lkL 69 l poison)) fun x7 => (o4_11 9).run cf v (.cons 71 x7 (.cons 70 x7 l)) ds s := by kernel_rfl
theorem q4_11_9 : (o4_11 9).run cf v l ds s = guardRun (wantB false (lkL 71 l poison)) ((o4_11 10).run cf v (.cons 72 (lkL 11 v poison) l) ds s) ((o4_11 10).run cf v (.cons 72 undef l) ds s) := by kernel_rfl
theorem q4_11_10 : (o4_11 10).run cf v l ds s = guardRun (wantB false (lkL 71 l poison)) (bV (doBin Pz .neq (binK .neq) .bad 28 (.tmp 72) (.const (.int .i64 4)) (lkL 72 l poison) (.int .i64 4) s) fun x10 => (o4_11 11).run cf v (.cons 73 x10 l) ds s) ((o4_11 11).run cf v (.cons 73 undef l) ds s) := by kernel_rfl
theorem q4_11_11 : (o4_11 11).run cf v l ds s = bV (doPick (lkL 71 l poison) (.bool true) (lkL 73 l poison)) fun x11 => (o4_11 13).run cf v (.cons 75 x11 (.cons 74 x11 l)) ds s := by kernel_rfl
theorem q4_11_13 : (o4_11 13).run cf v l ds s = guardRun (wantB false (lkL 75 l poison)) ((o4_11 14).run cf v (.cons 76 (lkL 13 v poison) l) ds s) ((o4_11 14).run cf v (.cons 76 undef l) ds s) := by kernel_rfl
theorem q4_11_14 : (o4_11 14).run cf v l ds s = guardRun (wantB false (lkL 75 l poison)) (bV (doBin Pz .neq (binK .neq) .bad 28 (.tmp 76) (.const (.int .i64 4)) (lkL 76 l poison) (.int .i64 4) s) fun x14 => (o4_11 15).run cf v (.cons 77 x14 l) ds s) ((o4_11 15).run cf v (.cons 77 undef l) ds s) := by kernel_rfl
theorem q4_11_15 : (o4_11 15).run cf v l ds s = bV (doPick (lkL 75 l poison) (.bool true) (lkL 77 l poison)) fun x15 => (o4_11 16).run cf v (.cons 78 x15 l) ds s := by kernel_rfl
theorem q4_11_16 : (o4_11 16).run cf v l ds s = .normal v l ds s := by kernel_rfl
noncomputable def o4_12 := oR Pz 257015 102 (subC b4 [1, 1, 1, 1, 1, 0, 1, 0, 1, 1, 1, 1, 0, 0])
theorem q4_12_0 : (o4_12 0).run cf v l ds s = (o4_12 1).run cf (setL 4 (.bool false) v) l ds s := by kernel_rfl
theorem q4_12_1 : (o4_12 1).run cf v l ds s = .normal v l ds s := by kernel_rfl
noncomputable def o4_13 := oR Pz 257015 102 (subC b4 [1, 1, 1, 1, 1, 1, 0])
theorem q4_13_0 : (o4_13 0).run cf v l ds s = bC v (.cons 80 (lkL 1 v poison) l) ds (cf.call 11 [(lkL 1 v poison)] s) fun x1 s => bV (doExtract x1 0) fun x3 => bV (doExtract x1 1) fun x4 => bA cf v (.cons 83 x4 (.cons 82 x3 (.cons 79 x1 (.cons 81 x1 (.cons 80 (lkL 1 v poison) l))))) ds (doNew [(.slice none 0 0), (.slice none 0 0), (.slice none 0 0), (.int .i64 0), (.int .i64 0), (.int .i64 0), (.int .i64 0), (.int .i64 0), (.int .i64 0), (.slice none 0 0)] 38 s) fun ds x5 s => (o4_13 6).run cf (setL 14 x5 v) (.cons 83 x4 (.cons 82 x3 (.cons 79 x1 (.cons 81 x1 (.cons 80 (lkL 1 v poison) l))))) ds s := by kernel_rfl
theorem q4_13_6 : (o4_13 6).run cf v l ds s = bA cf v l ds (doStore 10 (lkL 14 v poison) (lkL 82 l poison) s) fun ds x6 s => (o4_13 8).run cf (setL 15 (lkL 83 l poison) v) l ds s := by kernel_rfl
theorem q4_13_8 : (o4_13 8).run cf v l ds s = .normal v l ds s := by kernel_rfl
noncomputable def o4_14 := oR Pz 257015 102 (subC b4 [1, 1, 1, 1, 1, 1, 1, 0, 0])
theorem q4_14_0 : (o4_14 0).run cf v l ds s = bV (doBin Pz .neq (binK .neq) .bad 28 (.tmp 84) (.const (.int .i64 0)) (lkL 15 v poison) (.int .i64 0) s) fun x1 => (o4_14 2).run cf v (.cons 85 x1 (.cons 84 (lkL 15 v poison) l)) ds s := by kernel_rfl
theorem q4_14_2 : (o4_14 2).run cf v l ds s = .normal v l ds s := by kernel_rfl
noncomputable def o4_15 := oR Pz 257015 102 (subC b4 [1, 1, 1, 1, 1, 1, 1, 0, 1, 0, 0])
theorem q4_15_0 : (o4_15 0).run cf v l ds s = (o4_15 2).run cf (setL 4 (lkL 5 v poison) v) (.cons 86 (lkL 5 v poison) l) ds s := by kernel_rfl
theorem q4_15_2 : (o4_15 2).run cf v l ds s = .normal v l ds s := by kernel_rfl
noncomputable def o4_16 := oR Pz 257015 102 (subC b4 [1, 1, 1, 1, 1, 1, 1, 1, 0])
theorem q4_16_0 : (o4_16 0).run cf v l ds s = bV (loadN 10 (lkL 14 v poison) s) fun x0 => bC v (.cons 88 x0 l) ds (cf.call 18 [x0] s) fun x1 s => bV (doExtract x1 0) fun x3 => bV (doExtract x1 1) fun x4 => (o4_16 6).run cf (setL 16 x3 v) (.cons 91 x4 (.cons 90 x3 (.cons 87 x1 (.cons 89 x1 (.cons 88 x0 l))))) ds s := by kernel_rfl
theorem q4_16_6 : (o4_16 6).run cf v l ds s = (o4_16 7).run cf (setL 17 (lkL 91 l poison) v) l ds s := by kernel_rfl
theorem q4_16_7 : (o4_16 7).run cf v l ds s = .normal v l ds s := by kernel_rfl
noncomputable def o4_17 := oR Pz 257015 102 (subC b4 [1, 1, 1, 1, 1, 1, 1, 1, 1, 0])
theorem q4_17_0 : (o4_17 0).run cf v l ds s = (o4_17 2).run cf v (.cons 93 (lkL 5 v poison) (.cons 92 (lkL 5 v poison) l)) ds s := by kernel_rfl
theorem q4_17_2 : (o4_17 2).run cf v l ds s = guardRun (wantB true (lkL 93 l poison)) ((o4_17 3).run cf v (.cons 94 (lkL 17 v poison) l) ds s) ((o4_17 3).run cf v (.cons 94 undef l) ds s) := by kernel_rfl
theorem q4_17_3 : (o4_17 3).run cf v l ds s = guardRun (wantB true (lkL 93 l poison)) (bV (doBin Pz .eql (binK .eql) .bad 28 (.tmp 94) (.const (.int .i64 0)) (lkL 94 l poison) (.int .i64 0) s) fun x3 => (o4_17 4).run cf v (.cons 95 x3 l) ds s) ((o4_17 4).run cf v (.cons 95 undef l) ds s) := by kernel_rfl
theorem q4_17_4 : (o4_17 4).run cf v l ds s = bV (doPick (lkL 93 l poison) (lkL 95 l poison) (.bool false)) fun x4 => (o4_17 6).run cf v (.cons 97 x4 (.cons 96 x4 l)) ds s := by kernel_rfl
theorem q4_17_6 : (o4_17 6).run cf v l ds s = guardRun (wantB true (lkL 97 l poison)) ((o4_17 7).run cf v (.cons 98 (lkL 16 v poison) l) ds s) ((o4_17 7).run cf v (.cons 98 undef l) ds s) := by kernel_rfl
theorem q4_17_7 : (o4_17 7).run cf v l ds s = guardRun (wantB true (lkL 97 l poison)) ((o4_17 8).run cf v (.cons 99 (lkL 1 v poison) l) ds s) ((o4_17 8).run cf v (.cons 99 undef l) ds s) := by kernel_rfl
theorem q4_17_8 : (o4_17 8).run cf v l ds s = guardRun (wantB true (lkL 97 l poison)) (bC v l ds (cf.call 14 [(lkL 98 l poison), (lkL 99 l poison)] s) fun x8 s => (o4_17 9).run cf v (.cons 100 x8 l) ds s) ((o4_17 9).run cf v (.cons 100 undef l) ds s) := by kernel_rfl
theorem q4_17_9 : (o4_17 9).run cf v l ds s = bV (doPick (lkL 97 l poison) (lkL 100 l poison) (.bool false)) fun x9 => (o4_17 11).run cf (setL 4 x9 v) (.cons 101 x9 l) ds s := by kernel_rfl
theorem q4_17_11 : (o4_17 11).run cf v l ds s = .normal v l ds s := by kernel_rfl
noncomputable def c4 (lf : Nat) (cf : CF) (v l : L) (ds : DS) (s : AS) : Out := seqK ((o4_0 0).run cf v .nil ds s) fun v l ds s => seqK ((o4_1 0).run cf v .nil ds s) fun v l ds s => seqK (seqK ((o4_2 0).run cf v .nil ds s) fun v l ds s => condK (lkL 25 l poison) (seqK ((o4_3 0).run cf v .nil ds s) fun v l ds s => .ret v l ds s) (.normal v l ds s)) fun v l ds s => seqK ((o4_4 0).run cf v .nil ds s) fun v l ds s => seqK (seqK ((o4_5 0).run cf v .nil ds s) fun v l ds s => condK (lkL 38 l poison) (seqK ((o4_6 0).run cf v .nil ds s) fun v l ds s => .ret v l ds s) (.normal v l ds s)) fun v l ds s => seqK (seqK ((o4_7 0).run cf v .nil ds s) fun v l ds s => condK (lkL 40 l poison) (seqK ((o4_8 0).run cf v .nil ds s) fun v l ds s => seqK ((o4_9 0).run cf v .nil ds s) fun v l ds s => seqK ((o4_10 0).run cf v .nil ds s) fun v l ds s => seqK ((o4_11 0).run cf v .nil ds s) fun v l ds s => condK (lkL 78 l poison) (seqK ((o4_12 0).run cf v .nil ds s) fun v l ds s => .ret v l ds s) (.normal v l ds s)) (.normal v l ds s)) fun v l ds s => seqK ((o4_13 0).run cf v .nil ds s) fun v l ds s => seqK (seqK ((o4_14 0).run cf v .nil ds s) fun v l ds s => condK (lkL 85 l poison) (seqK ((o4_15 0).run cf v .nil ds s) fun v l ds s => .ret v l ds s) (.normal v l ds s)) fun v l ds s => seqK ((o4_16 0).run cf v .nil ds s) fun v l ds s => seqK ((o4_17 0).run cf v .nil ds s) fun v l ds s => .ret v l ds s
theorem fn4 (a0 a1 : Value) : (fnK Pz masks lf 4).run cf [a0, a1] s = afterBody Pz masks 257015 cf lf Go.Proofs.Tryz.f4 (c4 lf cf (.cons 0 a0 (.cons 1 a1 .nil)) .nil [] s) := by
  rw [fnK_of (P := Pz) Go.Proofs.Tryz.func4 (show Go.Proofs.Tryz.f4.body = some b4 by kernel_rfl), show masks 4 = 257015 by kernel_rfl]; kernel_rfl
end Go.Proofs.YtbbknbmmpkpgdaaGreatDoor.KAb
