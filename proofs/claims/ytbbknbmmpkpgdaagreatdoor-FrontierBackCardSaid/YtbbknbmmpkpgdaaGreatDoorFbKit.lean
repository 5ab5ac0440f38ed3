/- The evaluator over the machine's own memory, and the laws by which its equations are walked. -/
import Derived.Test.YtbbknbmmpkpgdaaGreatDoorKSum
import Derived.Test.YtbbknbmmpkpgdaaGreatDoorKGood
import Derived.Test.YtbbknbmmpkpgdaaGreatDoorMasks
import Derived.Test.YtbbknbmmpkpgdaaGreatDoorProg
import Derived.KernelRfl
set_option linter.unusedSimpArgs false
set_option linter.unusedVariables false
namespace Go.Proofs.YtbbknbmmpkpgdaaGreatDoor.KAb
/-! Calls with arguments of any type: the evaluator's memory is the machine's own, read-only. -/
def cellsAtB (W : World) (b : Nat) : Bool := match W.heap[b]? with | some (.cells _ _ _) => true | _ => false
/-- A value of the machine's, as the evaluator sees it. -/
def abs1 (W : World) : Value → Value
  | .bool b => .bool b
  | .int k n => .int k n
  | .float k x => .float k x
  | .string s => .string s
  | .nilFunc => .nilFunc
  | .nilIface => .nilIface
  | .pointer none => .pointer none
  | .map none => .map none
  | .pointer (some ⟨b, o, none⟩) => if cellsAtB W b = true then .pointer (some ⟨b, o, none⟩) else poison
  | .slice none 0 0 => .slice none 0 0
  | .slice (some _) 0 0 => .slice (some ⟨0, 0, none⟩) 0 0
  | .slice (some ⟨b, o, none⟩) n c => if cellsAtB W b = true then .slice (some ⟨b, o, none⟩) n (2 * c) else poison
  | _ => poison
def absV (W : World) (v : Value) : Value := match v with
  | .agg xs => .agg (xs.map (abs1 W))
  | v => abs1 W v
def mirO (W : World) (b : Nat) : Option AObj := match W.heap[b]? with
  | some (.cells C el _) => some (.row (C.toList.map (abs1 W)) el true)
  | _ => none
noncomputable def mirT (W : World) : Nat → U AObj
  | 0 => .nil
  | n + 1 => match mirO W n with
    | some o => setU (n + 1) (mirT W n) n o
    | none => mirT W n
noncomputable def mirror (W : World) : AS := { heap := mirT W W.heap.size, next := W.heap.size }
theorem mirT_get (W : World) : ∀ n b, getU (mirT W n) b = if b < n then mirO W b else none := by
  intro n
  induction n with
  | zero => intro b; simp [mirT, getU_nil]
  | succ n ih =>
    intro b
    simp only [mirT]
    split
    · rename_i o ho
      rw [getU_setU _ _ _ _ (Nat.lt_succ_self n), ih b]
      by_cases e : b = n
      · subst e; simp [ho]
      · rw [if_neg e]
        by_cases h : b < n
        · rw [if_pos h, if_pos (by omega)]
        · rw [if_neg h, if_neg (by omega)]
    · rename_i ho
      rw [ih b]
      by_cases e : b = n
      · subst e; simp [ho]
      · by_cases h : b < n
        · rw [if_pos h, if_pos (by omega)]
        · rw [if_neg h, if_neg (by omega)]
theorem mirror_get (W : World) (b : Nat) : (mirror W).get b = mirO W b := by
  show getU (mirT W W.heap.size) b = _
  rw [mirT_get]
  by_cases h : b < W.heap.size
  · rw [if_pos h]
  · rw [if_neg h]
    have : W.heap[b]? = none := by simp; omega
    simp [mirO, this]
theorem mirror_next (W : World) : (mirror W).next = W.heap.size := rfl
section
variable {P : Program} {W : World}
def mirM (P : Program) (W : World) : Mp := fun b => match W.heap[b]? with
  | some (.cells C el _) => some (b, C.size, P.cellsOf el)
  | _ => none
theorem mirM_of {b : Nat} (h : cellsAtB W b = true) : ∃ C el fz, W.heap[b]? = some (.cells C el fz) ∧ mirM P W b = some (b, C.size, P.cellsOf el) := by
  unfold cellsAtB at h
  split at h
  · rename_i C el fz e; exact ⟨C, el, fz, e, by simp [mirM, e]⟩
  · cases h
theorem abs1_rel (dead : Nat → Prop) (v : Value) : VRel (mirM P W) dead (abs1 W v) v := by
  unfold abs1
  split
  all_goals first | exact .flat _ rfl | exact .poison _ | exact .sliceE 0 0 0 _ rfl | skip
  · split
    · rename_i h
      obtain ⟨C, el, fz, _, hm⟩ := mirM_of (P := P) h
      exact .ptr _ _ _ _ _ hm
    · exact .poison _
  · rename_i b o n c hne
    split
    · rename_i h
      obtain ⟨C, el, fz, _, hm⟩ := mirM_of (P := P) h
      exact .slice _ _ _ _ _ _ _ _ hm (fun _ => (half2 c).symm) (Nat.le_of_eq (half2 c)) (fun h => by rw [exact2] at h; cases h)
    · exact .poison _
theorem abs1_lrel (dead : Nat → Prop) (l : List Value) : LRel (mirM P W) dead (l.map (abs1 W)) l := by
  induction l with
  | nil => exact .nil
  | cons v l ih => exact .cons (abs1_rel dead v) ih
theorem absV_rel (dead : Nat → Prop) (v : Value) : VRel (mirM P W) dead (absV W v) v := by
  unfold absV
  split
  · rename_i xs
    refine vrel_agg ?_
    rw [Array.toList_map]
    exact abs1_lrel dead _
  · exact abs1_rel dead v
theorem absV_lrel (dead : Nat → Prop) (l : List Value) : LRel (mirM P W) dead (l.map (absV W)) l := by
  induction l with
  | nil => exact .nil
  | cons v l ih => exact .cons (absV_rel dead v) ih
theorem mirror_dead (b : Nat) : ¬ (mirror W).dead b := by
  rw [AS.dead, mirror_get]
  unfold mirO
  split <;> simp
/-- The machine's memory, as it is, stands for itself. -/
theorem mirror_rel (hg : ∀ g, g < nGlob → cellsAtB W g = true) : Rel P (fun i => i < W.heap.size) W (fun _ => False) (mirror W) (mirM P W) W := by
  have hm : ∀ b c N z, mirM P W b = some (c, N, z) → b = c ∧ b < W.heap.size := by
    intro b c N z h
    unfold mirM at h
    split at h
    · rename_i C el fz e
      cases h
      exact ⟨rfl, (Array.getElem?_eq_some_iff.1 e).1⟩
    · cases h
  constructor
  · intro b o h
    rw [mirror_get] at h
    unfold mirO at h
    split at h
    · rename_i C el fz e; exact (Array.getElem?_eq_some_iff.1 e).1
    · cases h
  · intro b o h _
    rw [mirror_get] at h
    unfold mirO at h
    split at h
    · rename_i C el fz e
      cases h
      refine ⟨b, C, fz, by simp [mirM, e], e, (fun h => by cases h), ?_⟩
      have := abs1_lrel (P := P) (W := W) (mirror W).dead C.toList
      rw [List.length_map, List.take_length]
      exact this
    · cases h
  · exact fun _ h => h.elim
  · exact fun _ h => h.elim
  · intro b c N z h
    obtain ⟨rfl, hb⟩ := hm b c N z h
    exact ⟨hb, hb⟩
  · intro b b' c N z N' z' h h' _ _
    rw [(hm b c N z h).1, (hm b' c N' z' h').1]
  · exact fun _ _ => rfl
  · exact fun _ h => h
  · rfl
  · rfl
  · intro g hgl
    obtain ⟨C, el, fz, _, h⟩ := mirM_of (P := P) (hg g hgl)
    exact ⟨_, _, h⟩
/-- WHAT THE EVALUATOR SAYS OF A CALL, whatever the arguments: an evaluator that knows calls. -/
theorem openCall (hg : ∀ g, g < nGlob → cellsAtB W g = true) {cf : CF} (hcf : CFS P (fun i => i < W.heap.size) W cf) {f : FuncId} {us : Array Value} {args : List Value} (ha : us.toList.map (absV W) = args) {s' : AS} (h : cf.call f args (mirror W) = .ret (.bool true) s') :
    Calls P f us W fun e W' => e = .returned (.bool true) ∧ Old W W' := by
  have hc := hcf.call (fun _ => False) _ _ W f args us (mirror_rel hg) (ha ▸ absV_lrel _ us.toList)
  rw [h] at hc
  refine hc _ fun m' w' u hR' _ hu => ?_
  have := hu.bool_inv
  subst this
  exact ⟨rfl, hR'.os, hR'.out, le_of_all hR'.size, hR'.old⟩
end
end Go.Proofs.YtbbknbmmpkpgdaaGreatDoor.KAb
namespace Go.Proofs.YtbbknbmmpkpgdaaGreatDoor.KAb
/-! The evaluator's code as equations. -/
def subC (c : Code) (p : List Nat) : Code := match p with
  | [] => c
  | i :: p => match c with
    | .seq a b => subC (match i with | 0 => a | _ => b) p
    | .cond _ a b => subC (match i with | 0 => a | _ => b) p
    | .block _ a => subC a p
    | .loop a => subC a p
    | .scope a => subC a p
    | c => c
def opsC (c : Code) : Array Oper := match c with | .region _ ops _ => ops | _ => #[]
noncomputable def extOf (P : Program) (g : FuncId) : Array Value → Sem Value := match ekind P g with | .other e => e | _ => fun _ => pure undef
noncomputable def oR (P : Program) (mask nt : Nat) (c : Code) (j : Nat) : K := opsK P mask nt (opsC c) (dropK j (opsC c).toList)
noncomputable def aR (P : Program) (mask : Nat) (c : Code) : List DI := (infosOf P false mask (opsC c) (opsC c).toList).getD []
def atD (l : List DI) (j : Nat) : DI := l.getD j ⟨0, 0, 0, false, .bad, none, none⟩
def bV (r : V) (k : Value → Out) : Out := match r with | .ok v => k v | .fail w => .fail w
def bC (v l : L) (ds : DS) (r : CRes) (k : Value → AS → Out) : Out := match r with | .ret x s => k x s | .panic x s => .panic x v l ds s | .fail w => .fail w
def bA (cf : CF) (v l : L) (ds : DS) (r : R) (k : DS → Value → AS → Out) : Out := match r with
  | .val x s => k ds x s
  | .enter f args s => bC v l ds (cf.call f args s) (k ds)
  | .yield b args s => bC v l ds (cf.yld b args s) (k ds)
  | .defer f args s => k ((f, args) :: ds) undef s
  | .panic x s => .panic x v l ds s
  | .fail w => .fail w
noncomputable def bDC (pk : PanK) (base : Nat) (v : L) (ds : DS) (hist : List AS) (chks : List Chk) (r : CRes) (k : Value → AS → Out) : Out := match r with
  | .ret x s => k x s
  | .panic x s => pk.run base v ds hist chks x s
  | .fail w => .fail w
noncomputable def bDA (pk : PanK) (cf : CF) (base : Nat) (v : L) (ds : DS) (hist : List AS) (chks : List Chk) (r : R) (k : Value → AS → Out) : Out := match r with
  | .val x s => k x s
  | .enter f args s => bDC pk base v ds hist chks (cf.call f args s) k
  | .yield b args s => bDC pk base v ds hist chks (cf.yld b args s) k
  | .defer _ _ _ => .fail "draw: defer"
  | .panic _ _ => .fail "draw: panic"
  | .fail w => .fail w
theorem fnK_of {P : Program} {masks : Nat → Nat} {lf : Nat} {f : FuncId} {fn : Func} {c : Code} (hf : P.funcs[f]? = some fn) (hb : fn.body = some c) (cf : CF) (args : List Value) (s : AS) :
    (fnK P masks lf f).run cf args s = bif' (bif' (Nat.ble (lenK args) fn.ntmps) (bitsTo (masks f) (lenK args)) false) (afterBody P masks (masks f) cf lf fn ((codeK P (masks f) fn.ntmps lf c).run cf (argsL args) .nil [] s)) (.fail "aCall: args") := by
  unfold fnK
  simp only [hf, hb]
end Go.Proofs.YtbbknbmmpkpgdaaGreatDoor.KAb
namespace Go.Proofs.YtbbknbmmpkpgdaaGreatDoor.KAb
/-! Laws of the evaluator's parts, for walks with unknown data. -/
theorem bif_eq {α : Type} (b : Bool) (x y : α) : bif' b x y = if b = true then x else y := by cases b <;> rfl
theorem bV_ok (x : Value) (k : Value → Out) : bV (.ok x) k = k x := rfl
theorem bC_ret (v l : L) (ds : DS) (x : Value) (s : AS) (k : Value → AS → Out) : bC v l ds (.ret x s) k = k x s := rfl
theorem bC_panic (v l : L) (ds : DS) (x : Value) (s : AS) (k : Value → AS → Out) : bC v l ds (.panic x s) k = .panic x v l ds s := rfl
theorem bA_val (cf : CF) (v l : L) (ds : DS) (x : Value) (s : AS) (k : DS → Value → AS → Out) : bA cf v l ds (.val x s) k = k ds x s := rfl
theorem bA_enter (cf : CF) (v l : L) (ds : DS) (f : FuncId) (args : List Value) (s : AS) (k : DS → Value → AS → Out) : bA cf v l ds (.enter f args s) k = bC v l ds (cf.call f args s) (k ds) := rfl
theorem bA_defer (cf : CF) (v l : L) (ds : DS) (f : FuncId) (args : List Value) (s : AS) (k : DS → Value → AS → Out) : bA cf v l ds (.defer f args s) k = k ((f, args) :: ds) undef s := rfl
theorem bA_panic (cf : CF) (v l : L) (ds : DS) (x : Value) (s : AS) (k : DS → Value → AS → Out) : bA cf v l ds (.panic x s) k = .panic x v l ds s := rfl
theorem bDC_ret (pk : PanK) (base : Nat) (v : L) (ds : DS) (hist : List AS) (chks : List Chk) (x : Value) (s : AS) (k : Value → AS → Out) : bDC pk base v ds hist chks (.ret x s) k = k x s := rfl
theorem bDA_val (pk : PanK) (cf : CF) (base : Nat) (v : L) (ds : DS) (hist : List AS) (chks : List Chk) (x : Value) (s : AS) (k : Value → AS → Out) : bDA pk cf base v ds hist chks (.val x s) k = k x s := rfl
theorem bDA_enter (pk : PanK) (cf : CF) (base : Nat) (v : L) (ds : DS) (hist : List AS) (chks : List Chk) (f : FuncId) (args : List Value) (s : AS) (k : Value → AS → Out) : bDA pk cf base v ds hist chks (.enter f args s) k = bDC pk base v ds hist chks (cf.call f args s) k := rfl
theorem guard_b (w b : Bool) (x y : Out) : guardRun (wantB w (.bool b)) x y = if b = w then x else y := by cases w <;> cases b <;> rfl
theorem guard_undef (w : Bool) (x y : Out) : guardRun (wantB w undef) x y = y := rfl
theorem seq_normal (v l : L) (ds : DS) (s : AS) (k : L → L → DS → AS → Out) : seqK (.normal v l ds s) k = k v l ds s := rfl
theorem seq_exit (i : Nat) (v l : L) (ds : DS) (s : AS) (k : L → L → DS → AS → Out) : seqK (.exit i v l ds s) k = .exit i v l ds s := rfl
theorem seq_ret (v l : L) (ds : DS) (s : AS) (k : L → L → DS → AS → Out) : seqK (.ret v l ds s) k = .ret v l ds s := rfl
theorem seq_panic (x : Value) (v l : L) (ds : DS) (s : AS) (k : L → L → DS → AS → Out) : seqK (.panic x v l ds s) k = .panic x v l ds s := rfl
theorem cond_b (b : Bool) (x y : Out) : condK (.bool b) x y = if b = true then x else y := by cases b <;> rfl
theorem block_normal (i : Nat) (v l : L) (ds : DS) (s : AS) : blockK i (.normal v l ds s) = .normal v l ds s := rfl
theorem block_exit (i j : Nat) (v l : L) (ds : DS) (s : AS) : blockK i (.exit j v l ds s) = if j = i then .normal v l ds s else .exit j v l ds s := by
  show bif' (Nat.beq j i) (Out.normal v l ds s) (.exit j v l ds s) = _
  rw [bif_eq]; simp only [Nat.beq_eq]
theorem block_ret (i : Nat) (v l : L) (ds : DS) (s : AS) : blockK i (.ret v l ds s) = .ret v l ds s := rfl
theorem block_panic (i : Nat) (x : Value) (v l : L) (ds : DS) (s : AS) : blockK i (.panic x v l ds s) = .panic x v l ds s := rfl
theorem iter_succ (body : L → L → DS → AS → Out) (n : Nat) (v l : L) (ds : DS) (s : AS) : iterK body (n + 1) v l ds s = seqK (body v l ds s) (iterK body n) := iterK_succ body n v l ds s
/-! Numbers. -/
theorem natOf_int (k : IntKind) (z : Int) : natOf (.int k z) = if 0 ≤ z then some z.toNat else none := by
  cases z with
  | ofNat m => rfl
  | negSucc m => rfl
theorem eqI_dec (a b : Int) : eqI a b = decide (a = b) := by
  by_cases h : a = b
  · subst h
    cases a <;> simp [eqI]
  · rw [decide_eq_false h]
    cases hb : eqI a b with
    | false => rfl
    | true => exact absurd (eqI_ok hb) h
theorem leI_dec (a b : Int) : leI a b = decide (a ≤ b) := by
  cases a with
  | ofNat m => cases b with
    | ofNat n => rw [Bool.eq_iff_iff]; simp [leI]
    | negSucc n =>
      have : ¬ (Int.ofNat m ≤ Int.negSucc n) := by have := Int.negSucc_lt_zero n; simp; omega
      rw [decide_eq_false this]; rfl
  | negSucc m => cases b with
    | ofNat n =>
      have : Int.negSucc m ≤ Int.ofNat n := by have := Int.negSucc_lt_zero m; simp; omega
      rw [decide_eq_true this]; rfl
    | negSucc n =>
      have : (Int.negSucc m ≤ Int.negSucc n) ↔ n ≤ m := by rw [Int.negSucc_eq, Int.negSucc_eq]; omega
      rw [Bool.eq_iff_iff, decide_eq_true_eq, this]; show Nat.ble n m = true ↔ _; rw [Nat.ble_eq]
theorem ikN_self (k : IntKind) : Nat.beq (ikN k) (ikN k) = true := by rw [Nat.beq_eq]
section
variable {P : Program} {qk : QK} {t : TypeId} {x y : Operand} {k : IntKind} {a b : Int} {s : AS}
theorem bin_fast {op : BinOp} {v : Value} (h : (binK op).int k a b = .v v) : doBin P op (binK op) qk t x y (.int k a) (.int k b) s = .ok v := by
  simp only [doBin, fastF, ikN_self, bif', h]
theorem bin_add : doBin P .add (binK .add) qk t x y (.int k a) (.int k b) s = .ok (.int k (k.wrap (a + b))) := by
  rw [bin_fast (v := .int k (wrapF k (addI a b))) rfl, wrapF_eq, addI_eq]
theorem bin_sub : doBin P .sub (binK .sub) qk t x y (.int k a) (.int k b) s = .ok (.int k (k.wrap (a - b))) := by
  rw [bin_fast (v := .int k (wrapF k (subI a b))) rfl, wrapF_eq, subI_eq]
theorem bin_eql : doBin P .eql (binK .eql) qk t x y (.int k a) (.int k b) s = .ok (.bool (decide (a = b))) := by
  rw [bin_fast (v := .bool (eqI a b)) rfl, eqI_dec]
theorem bin_neq : doBin P .neq (binK .neq) qk t x y (.int k a) (.int k b) s = .ok (.bool (!decide (a = b))) := by
  rw [bin_fast (v := .bool (notB (eqI a b))) rfl, eqI_dec, notB_eq]
theorem bin_lss : doBin P .lss (binK .lss) qk t x y (.int k a) (.int k b) s = .ok (.bool (decide (a < b))) := by
  rw [bin_fast (v := .bool (notB (leI b a))) rfl, leI_dec, notB_eq]
  congr 2
  rw [Bool.eq_iff_iff]; simp
theorem bin_leq : doBin P .leq (binK .leq) qk t x y (.int k a) (.int k b) s = .ok (.bool (decide (a ≤ b))) := by
  rw [bin_fast (v := .bool (leI a b)) rfl, leI_dec]
theorem bin_gtr : doBin P .gtr (binK .gtr) qk t x y (.int k a) (.int k b) s = .ok (.bool (decide (b < a))) := by
  rw [bin_fast (v := .bool (notB (leI a b))) rfl, leI_dec, notB_eq]
  congr 2
  rw [Bool.eq_iff_iff]; simp
theorem bin_geq : doBin P .geq (binK .geq) qk t x y (.int k a) (.int k b) s = .ok (.bool (decide (b ≤ a))) := by
  rw [bin_fast (v := .bool (leI b a)) rfl, leI_dec]
theorem un_not (b : Bool) : doUn P .not (.bool b) = .ok (.bool (!b)) := by
  show V.ok (.bool (notB b)) = _; rw [notB_eq]
theorem pick_b (c : Bool) (u v : Value) : doPick (.bool c) u v = .ok (if c = true then u else v) := by cases c <;> rfl
theorem len_slice (o : Option Addr) (n c : Nat) : doLen .slice (.slice o n c) s = .ok (.int .i64 (n : Int)) := rfl
theorem indexAddr_s {sz bl off n c : Nat} {i : Int} (h0 : 0 ≤ i) (h1 : i < n) : indexAddrS sz (.slice (some ⟨bl, off, none⟩) n c) (.int k i) = .ok (.pointer (some ⟨bl, off + i.toNat * sz, none⟩)) := by
  simp only [indexAddrS, natOf_int, if_pos h0, bif_eq]
  rw [if_pos (by rw [Nat.ble_eq]; show i.toNat + 1 ≤ n; omega)]
  rfl
theorem load1_of {bl o : Nat} {cs : List Value} {el : TypeId} {ro : Bool} {u : Value} (hg : s.get bl = some (.row cs el ro)) (hu : cs[o]? = some u) : load1 (.pointer (some ⟨bl, o, none⟩)) s = .ok u := by
  simp only [load1, hg, nthK_eq, hu]
end
section
variable {P : Program} {qk : QK} {t : TypeId} {x y : Operand} {k : IntKind} {a b : Int} {s : AS}
theorem pure_flat {v : Value} (h : flat v = true) : pureRun P (pure v) = .ok v := by
  show Bool.rec (motive := fun _ => V) (.fail "pureRun") (.ok v) (flat v) = _
  rw [h]
theorem bin_slow {op : BinOp} {u : Value} (h : (binK op).int k a b = .slow) (he : (do eqGuard op t x y (.int k a) (.int k b); binOp op t (.int k a) (.int k b)) = (pure u : Sem Value)) (hu : flat u = true) : doBin P op (binK op) qk t x y (.int k a) (.int k b) s = .ok u := by
  simp only [doBin, fastF, ikN_self, bif', h, he, pure_flat hu, flat, flat1]
theorem bin_mul : doBin P .mul (binK .mul) qk t x y (.int k a) (.int k b) s = .ok (.int k (k.wrap (a * b))) :=
  bin_slow rfl (by cases k <;> rfl) rfl
theorem bin_and : doBin P .and (binK .and) qk t x y (.int k a) (.int k b) s = .ok (.int k (k.wrap (BitVec.ofInt k.bits a &&& BitVec.ofInt k.bits b).toNat)) :=
  bin_slow rfl (by cases k <;> rfl) rfl
theorem bin_or : doBin P .or (binK .or) qk t x y (.int k a) (.int k b) s = .ok (.int k (k.wrap (BitVec.ofInt k.bits a ||| BitVec.ofInt k.bits b).toNat)) :=
  bin_slow rfl (by cases k <;> rfl) rfl
theorem bin_sh {op : BinOp} {k2 : IntKind} {u : Value} (h : fastF (binK op) (.int k a) (.int k2 b) = .slow) (he : (do eqGuard op t x y (.int k a) (.int k2 b); binOp op t (.int k a) (.int k2 b)) = (pure u : Sem Value)) (hu : flat u = true) : doBin P op (binK op) qk t x y (.int k a) (.int k2 b) s = .ok u := by
  simp only [doBin, h, bif', he, pure_flat hu, flat, flat1]
theorem bin_shl {k2 : IntKind} (hb : 0 ≤ b) : doBin P .shl (binK .shl) qk t x y (.int k a) (.int k2 b) s = .ok (.int k (k.wrap (a * 2 ^ (min b.toNat k.bits)))) := by
  refine bin_sh (by cases k <;> cases k2 <;> rfl) ?_ rfl
  show Op.shift .shl k a k2 b = _
  simp only [Op.shift]
  rw [if_neg (by omega)]
theorem bin_shr {k2 : IntKind} (hb : 0 ≤ b) : doBin P .shr (binK .shr) qk t x y (.int k a) (.int k2 b) s = .ok (.int k (a.fdiv (2 ^ (min b.toNat k.bits)))) := by
  refine bin_sh (by cases k <;> cases k2 <;> rfl) ?_ rfl
  show Op.shift .shr k a k2 b = _
  simp only [Op.shift]
  rw [if_neg (by omega)]
theorem conv_int {src dst : TypeId} {k2 : IntKind} : convInt P src dst k (.int k2 a) = .ok (.int k (k.wrap a)) := by
  simp only [convInt, wrapF_eq]
theorem extract_tup {vs : Array Value} {i : Nat} {v : Value} (h : vs[i]? = some v) : doExtract (.tuple vs) i = .ok v := by
  simp only [doExtract, part1, nthK_eq]
  rw [Array.getElem?_toList, h]
theorem nilc {a : Addr} : doNilCheck (.pointer (some a)) = .ok (.pointer (some a)) := rfl
theorem fieldA {o bl off : Nat} : doFieldAddr o (.pointer (some ⟨bl, off, none⟩)) = .ok (.pointer (some ⟨bl, off + o, none⟩)) := rfl
end
end Go.Proofs.YtbbknbmmpkpgdaaGreatDoor.KAb
namespace Go.Proofs.YtbbknbmmpkpgdaaGreatDoor.KAb
/-! What an outcome must satisfy. -/
inductive Ex where | normal | exit (i : Nat) | ret | panic (x : Value)
def Out.P (o : Out) (Q : Ex → L → DS → AS → Prop) : Prop := match o with
  | .normal v _ ds s => Q .normal v ds s
  | .exit i v _ ds s => Q (.exit i) v ds s
  | .ret v _ ds s => Q .ret v ds s
  | .panic x v _ ds s => Q (.panic x) v ds s
  | .fail _ => False
def CRes.P (r : CRes) (Q : Value → AS → Prop) : Prop := match r with | .ret x s => Q x s | _ => False
/-- A call that is left by a panic. -/
def CRes.X (r : CRes) (Q : Value → AS → Prop) : Prop := match r with | .panic x s => Q x s | _ => False
section
variable {Q : Ex → L → DS → AS → Prop} {v l : L} {ds : DS} {s : AS}
theorem P_normal : (Out.normal v l ds s).P Q = Q .normal v ds s := rfl
theorem P_exit {i : Nat} : (Out.exit i v l ds s).P Q = Q (.exit i) v ds s := rfl
theorem P_ret : (Out.ret v l ds s).P Q = Q .ret v ds s := rfl
theorem P_panic {x : Value} : (Out.panic x v l ds s).P Q = Q (.panic x) v ds s := rfl
theorem CRes.P.inv {r : CRes} {R : Value → AS → Prop} (h : r.P R) : ∃ x s, r = .ret x s ∧ R x s := by
  cases r with
  | ret x s => exact ⟨x, s, rfl, h⟩
  | panic _ _ => exact h.elim
  | fail _ => exact h.elim
theorem CRes.X.inv {r : CRes} {R : Value → AS → Prop} (h : r.X R) : ∃ x s, r = .panic x s ∧ R x s := by
  cases r with
  | panic x s => exact ⟨x, s, rfl, h⟩
  | ret _ _ => exact h.elim
  | fail _ => exact h.elim
theorem Out.P.mono {o : Out} {Q' : Ex → L → DS → AS → Prop} (h : o.P Q) (hq : ∀ e v ds s, Q e v ds s → Q' e v ds s) : o.P Q' := by
  cases o with
  | fail _ => exact h
  | _ => exact hq _ _ _ _ h
theorem P_seq {o : Out} {k : L → L → DS → AS → Out} (h : o.P fun e v ds s => match e with | .normal => ∀ l, (k v l ds s).P Q | e => Q e v ds s) : (seqK o k).P Q := by
  cases o with
  | normal v l ds s => exact h l
  | exit i v l ds s => exact h
  | ret v l ds s => exact h
  | panic x v l ds s => exact h
  | fail _ => exact h
theorem P_block {o : Out} {i : Nat} (h : o.P fun e v ds s => match e with | .exit j => if j = i then Q .normal v ds s else Q (.exit j) v ds s | e => Q e v ds s) : (blockK i o).P Q := by
  cases o with
  | exit j v l ds s =>
    rw [block_exit]
    have h' : if j = i then Q .normal v ds s else Q (.exit j) v ds s := h
    split at h'
    · rename_i e; rw [if_pos e]; exact h'
    · rename_i e; rw [if_neg e]; exact h'
  | normal v l ds s => exact h
  | ret v l ds s => exact h
  | panic x v l ds s => exact h
  | fail _ => exact h
/-- A loop: what holds at each round's begin, with a number that goes down. -/
theorem P_iter {body : L → L → DS → AS → Out} (I : Nat → L → DS → AS → Prop)
    (hb : ∀ k v l ds s, I k v ds s → (body v l ds s).P fun e v ds s => match e with | .normal => ∃ k', k' < k ∧ I k' v ds s | e => Q e v ds s) :
    ∀ (fuel k : Nat) (v l : L) (ds : DS) (s : AS), k < fuel → I k v ds s → (iterK body fuel v l ds s).P Q := by
  intro fuel
  induction fuel with
  | zero => intro k v l ds s h; omega
  | succ fuel ih =>
    intro k v l ds s hk hI
    rw [iter_succ]
    refine P_seq ((hb k v l ds s hI).mono fun e v ds s h => ?_)
    cases e with
    | normal =>
      obtain ⟨k', h1, h2⟩ := h
      exact fun l => ih k' v l ds s (by omega) h2
    | exit i => exact h
    | ret => exact h
    | panic x => exact h
theorem P_ite {c : Prop} [Decidable c] {a b : Out} (h1 : c → a.P Q) (h2 : ¬ c → b.P Q) : (if c then a else b).P Q := by
  split
  · exact h1 ‹_›
  · exact h2 ‹_›
/-- A call within a region. -/
theorem P_bC {r : CRes} {k : Value → AS → Out} {R : Value → AS → Prop} (h : r.P R) (hk : ∀ x s, R x s → (k x s).P Q) : (bC v l ds r k).P Q := by
  obtain ⟨x, s, rfl, hr⟩ := h.inv
  exact hk x s hr
end
section
variable {P : Program} {masks : Nat → Nat} {m : Nat} {cf : CF} {lf : Nat} {fn : Func} {R : Value → AS → Prop}
/-- A function's results: each lies in a temporary that lives longer than a region. -/
theorem P_after {o : Out} (h : o.P fun e v ds s => match e with | .normal => ds = [] ∧ ∀ l, (resOf P m fn v l s).P R | .ret => ds = [] ∧ ∀ l, (resOf P m fn v l s).P R | _ => False) : (afterBody P masks m cf lf fn o).P R := by
  cases o with
  | normal v l ds s => obtain ⟨rfl, h⟩ := h; exact h l
  | ret v l ds s => obtain ⟨rfl, h⟩ := h; exact h l
  | exit i v l ds s => exact h.elim
  | panic x v l ds s => exact h.elim
  | fail _ => exact h.elim
theorem P_after_panic {o : Out} (h : o.P fun e _ ds s => match e with | .panic x => ds = [] ∧ R x s | _ => False) : (afterBody P masks m cf lf fn o).X R := by
  cases o with
  | panic x v l ds s => obtain ⟨rfl, h⟩ := h; exact h
  | normal v l ds s => exact h.elim
  | ret v l ds s => exact h.elim
  | exit i v l ds s => exact h.elim
  | fail _ => exact h.elim
theorem res0 (hr : fn.results.toList = []) {v l : L} {s : AS} : resOf P m fn v l s = .ret (.tuple #[]) s := by
  simp only [resOf, hr]; rfl
theorem res1 {t : Nat} (hr : fn.results.toList = [.tmp t]) (hb : bit m t = true) {v l : L} {s : AS} : resOf P m fn v l s = .ret (lkL t v poison) s := by
  simp only [resOf, hr, resL_cons]
  show CRes.ret ((opd m (.tmp t)).get v l) s = _
  rw [opd_tmp, if_pos hb]
theorem res2 {t u : Nat} (hr : fn.results.toList = [.tmp t, .tmp u]) (hb : bit m t = true) (hc : bit m u = true) {v l : L} {s : AS} : resOf P m fn v l s = .ret (.tuple #[lkL t v poison, lkL u v poison]) s := by
  simp only [resOf, hr, resL_cons]
  show CRes.ret (.tuple #[(opd m (.tmp t)).get v l, (opd m (.tmp u)).get v l]) s = _
  rw [opd_tmp, opd_tmp, if_pos hb, if_pos hc]
theorem res3 {t u w : Nat} (hr : fn.results.toList = [.tmp t, .tmp u, .tmp w]) (hb : bit m t = true) (hc : bit m u = true) (hd : bit m w = true) {v l : L} {s : AS} : resOf P m fn v l s = .ret (.tuple #[lkL t v poison, lkL u v poison, lkL w v poison]) s := by
  simp only [resOf, hr, resL_cons]
  show CRes.ret (.tuple #[(opd m (.tmp t)).get v l, (opd m (.tmp u)).get v l, (opd m (.tmp w)).get v l]) s = _
  rw [opd_tmp, opd_tmp, opd_tmp, if_pos hb, if_pos hc, if_pos hd]
end
/-! Memory. -/
theorem store1 {s : AS} {bl o : Nat} {cs : List Value} {el : TypeId} {u : Value} (hg : s.get bl = some (.row cs el false)) (ho : o < cs.length) (hu : scal u = true) : doStore 1 (.pointer (some ⟨bl, o, none⟩)) u s = .val undef (s.put bl (.row (cs.set o u) el false)) := by
  have hc : u.cells.toList = [u] := by cases u <;> first | rfl | cases hu
  have hw : wr s bl o [u] = some (s.put bl (.row (cs.set o u) el false)) := by
    rw [wr_eq]
    simp only [hg, List.all_cons, hu, List.all_nil, Bool.and_true, if_true, List.length_cons, List.length_nil]
    rw [if_pos (by omega), splice_eq]
    congr 3
    apply List.ext_getElem?
    intro i
    simp only [List.getElem?_append, List.getElem?_take, List.getElem?_set, List.length_take, List.length_cons, List.length_nil, List.getElem?_drop]
    by_cases h1 : i < o
    · simp [h1, show i < min o cs.length by omega, show ¬ o = i by omega]
    · by_cases h2 : i = o
      · subst h2; simp [show ¬ i < min i cs.length by omega, show i - min i cs.length = 0 by omega, ho]
      · simp [show ¬ i < min o cs.length by omega, show ¬ i - min o cs.length < 1 by omega, show ¬ o = i by omega, show o + 1 + (i - min o cs.length - 1) = i by omega]
  have hl : Nat.beq (lenK [u]) 1 = true := rfl
  simp only [doStore, hc, hl, bif_eq, if_true, hw]
theorem put_get (s : AS) (b : Nat) (o : AObj) : (s.put b o).get b = some o := by rw [AS.get_put, if_pos rfl]
theorem put_ne (s : AS) {b b' : Nat} (o : AObj) (h : b' ≠ b) : (s.put b o).get b' = s.get b' := by rw [AS.get_put, if_neg h]
theorem new_get (s : AS) (o : AObj) : (s.new o).get s.next = some o := by rw [AS.get_new, if_pos rfl]
theorem new_ne (s : AS) (o : AObj) {b : Nat} (h : b ≠ s.next) : (s.new o).get b = s.get b := by rw [AS.get_new, if_neg h]
theorem aCall_succ (P : Program) (masks : Nat → Nat) (lf n : Nat) (f : FuncId) (args : List Value) (s : AS) : (aCall P masks lf (n + 1)).call f args s = (fnK P masks lf f).run (aCall P masks lf n) args s := rfl
theorem wrap64_in {z : Int} (h0 : -9223372036854775808 ≤ z) (h1 : z ≤ 9223372036854775807) : IntKind.i64.wrap z = z := by
  simp only [IntKind.wrap, IntKind.bits, IntKind.signed, Bool.true_and, decide_eq_true_eq, show ((2 : Int) ^ 64) = 18446744073709551616 from rfl, show ((2 : Int) ^ (64 - 1)) = 9223372036854775808 from rfl]
  split <;> omega
end Go.Proofs.YtbbknbmmpkpgdaaGreatDoor.KAb
namespace Go.Proofs.YtbbknbmmpkpgdaaGreatDoor.KAb
/-! More laws of memory. -/
theorem new_eq (cs : List Value) (t : TypeId) (s : AS) : doNew cs t s = .val (.pointer (some ⟨s.next, 0, none⟩)) (s.new (.row cs t false)) := rfl
theorem box_agg (t : TypeId) (cs : Array Value) (s : AS) : doBox t (.agg cs) s = .val (.pointer (some ⟨s.next, 0, none⟩)) (s.new (.row cs.toList t false)) := rfl
theorem loadN_of {s : AS} {bl o n : Nat} {cs : List Value} {el : TypeId} {ro : Bool} (hg : s.get bl = some (.row cs el ro)) (h : o + n ≤ cs.length) : loadN n (.pointer (some ⟨bl, o, none⟩)) s = .ok (.agg ((cs.drop o).take n).toArray) := by
  simp only [loadN, rd_eq, hg, if_pos h]
theorem wr_of {s : AS} {bl o : Nat} {cs vs : List Value} {el : TypeId} (hg : s.get bl = some (.row cs el false)) (h : o + vs.length ≤ cs.length) (hs : vs.all scal = true) : wr s bl o vs = some (s.put bl (.row (cs.take o ++ (vs ++ cs.drop (o + vs.length))) el false)) := by
  rw [wr_eq]
  simp only [hg, hs, if_true, if_pos h, splice_eq]
theorem storeN {s : AS} {bl o n : Nat} {cs : List Value} {el : TypeId} {vs : Array Value} (hg : s.get bl = some (.row cs el false)) (hn : vs.size = n) (h : o + n ≤ cs.length) (hs : vs.toList.all scal = true) : doStore n (.pointer (some ⟨bl, o, none⟩)) (.agg vs) s = .val undef (s.put bl (.row (cs.take o ++ (vs.toList ++ cs.drop (o + n))) el false)) := by
  have hl : vs.toList.length = n := by simpa using hn
  have hc : (Value.agg vs).cells.toList = vs.toList := rfl
  have hb : Nat.beq (lenK vs.toList) n = true := by rw [lenK_eq, hl, Nat.beq_eq]
  have hw := wr_of (o := o) hg (by omega) hs
  rw [hl] at hw
  simp only [doStore, hc, hb, bif_eq, if_true, hw]
theorem valEq_ptr {b o : Nat} : valEq (.pointer (some ⟨b, o, none⟩)) (.pointer (some ⟨b, o, none⟩)) = true := by
  show bif' (Nat.beq b b) (Nat.beq o o) false = true
  rw [bif_eq, if_pos (by rw [Nat.beq_eq]), Nat.beq_eq]
theorem eqA_self {b o : Nat} : eqA ⟨b, o, none⟩ ⟨b, o, none⟩ = true := valEq_ptr
theorem beq_self (n : Nat) : Nat.beq n n = true := by rw [Nat.beq_eq]
theorem valEq_slice {o : Option (Nat × Nat)} {n c : Nat} : valEq (.slice (o.map fun p => ⟨p.1, p.2, none⟩) n c) (.slice (o.map fun p => ⟨p.1, p.2, none⟩) n c) = true := by
  cases o with
  | none =>
    show bif' (Nat.beq n n) (Nat.beq c c) false = true
    rw [beq_self, beq_self]
  | some p =>
    show bif' (eqA ⟨p.1, p.2, none⟩ ⟨p.1, p.2, none⟩) (bif' (Nat.beq n n) (Nat.beq c c) false) false = true
    rw [eqA_self, beq_self, beq_self]
theorem valEq_int {k : IntKind} {z : Int} : valEq (.int k z) (.int k z) = true := by
  show bif' (Nat.beq (ikN k) (ikN k)) (eqI z z) false = true
  rw [beq_self, eqI_dec, decide_eq_true rfl]
theorem valEq_bool {b : Bool} : valEq (.bool b) (.bool b) = true := by cases b <;> rfl
/-- What was there stays, but for some blocks; new ones come behind. -/
structure Fr (X : Nat → Prop) (s s' : AS) : Prop where
  next : s.next ≤ s'.next
  same : ∀ b, b < s.next → ¬ X b → s'.get b = s.get b
/-- No block lies behind the next one. -/
def AS.F (s : AS) : Prop := ∀ b, s.next ≤ b → s.get b = none
theorem AS.F.put {s : AS} (h : s.F) {b : Nat} (hb : b < s.next) (o : AObj) : (s.put b o).F := fun b' hb' => by
  rw [put_ne s o (by have : s.next ≤ b' := hb'; omega)]; exact h b' hb'
theorem AS.F.new {s : AS} (h : s.F) (o : AObj) : (s.new o).F := fun b hb => by
  have hb : s.next + 1 ≤ b := hb
  rw [new_ne s o (by omega)]; exact h b (by omega)
theorem AS.F.lt {s : AS} (h : s.F) {b : Nat} {o : AObj} (hg : s.get b = some o) : b < s.next := by
  rcases Nat.lt_or_ge b s.next with h' | h'
  · exact h'
  · rw [h b h'] at hg; cases hg
theorem Fr.refl (X : Nat → Prop) (s : AS) : Fr X s s := ⟨Nat.le_refl _, fun _ _ _ => rfl⟩
theorem Fr.trans {X : Nat → Prop} {s s' s'' : AS} (h : Fr X s s') (h' : Fr X s' s'') : Fr X s s'' :=
  ⟨Nat.le_trans h.next h'.next, fun b hb hx => (h'.same b (Nat.lt_of_lt_of_le hb h.next) hx).trans (h.same b hb hx)⟩
theorem Fr.new (X : Nat → Prop) (s : AS) (o : AObj) : Fr X s (s.new o) := ⟨by rw [AS.new_next]; omega, fun b hb _ => new_ne s o (by omega)⟩
theorem Fr.put {X : Nat → Prop} (s : AS) {b : Nat} (o : AObj) (h : X b ∨ s.next ≤ b) : Fr X s (s.put b o) := ⟨Nat.le_refl _, fun b' hb hx => put_ne s o (fun e => by subst e; rcases h with h | h; exact hx h; omega)⟩
theorem Fr.mono {X Y : Nat → Prop} {s s' : AS} (h : Fr X s s') (hxy : ∀ b, b < s.next → X b → Y b) : Fr Y s s' := ⟨h.next, fun b hb hy => h.same b hb fun hx => hy (hxy b hb hx)⟩
/-- Behind an older state: what is newer than it may be written. -/
theorem Fr.trans' {X Y : Nat → Prop} {s s' s'' : AS} (h : Fr X s s') (h' : Fr Y s' s'') (hxy : ∀ b, b < s.next → Y b → X b) : Fr X s s'' :=
  ⟨Nat.le_trans h.next h'.next, fun b hb hx => (h'.same b (Nat.lt_of_lt_of_le hb h.next) fun hy => hx (hxy b hb hy)).trans (h.same b hb hx)⟩
/-- A slice of numbers that the code itself has made by appending. -/
def Own (s : AS) (k : IntKind) (el : TypeId) (v : Value) (xs : List Int) : Prop := (v = .slice none 0 0 ∧ xs = []) ∨
  ∃ b, v = .slice (some ⟨b, 0, none⟩) xs.length (2 * xs.length + 1) ∧ s.get b = some (.row (xs.map (.int k)) el false)
theorem Own.nil {s : AS} {k : IntKind} {el : TypeId} : Own s k el (.slice none 0 0) [] := .inl ⟨rfl, rfl⟩
theorem Own.keep {s s' : AS} {k : IntKind} {el : TypeId} {v : Value} {xs : List Int} (h : Own s k el v xs) (hk : ∀ b off n c, v = .slice (some ⟨b, off, none⟩) n c → s'.get b = s.get b) : Own s' k el v xs := by
  rcases h with ⟨h1, h2⟩ | ⟨b, h1, h2⟩
  · exact .inl ⟨h1, h2⟩
  · exact .inr ⟨b, h1, (hk b 0 _ _ h1).trans h2⟩
theorem Own.valEq {s : AS} {k : IntKind} {el : TypeId} {v : Value} {xs : List Int} (h : Own s k el v xs) : KAb.valEq v v = true := by
  rcases h with ⟨rfl, _⟩ | ⟨b, rfl, _⟩
  · exact valEq_slice (o := none)
  · exact valEq_slice (o := some (b, 0))
theorem rd_all {s : AS} {b n : Nat} {cs : List Value} {el : TypeId} {ro : Bool} (hg : s.get b = some (.row cs el ro)) (hn : n = cs.length) : rd s b 0 n = some cs := by
  subst hn
  simp only [rd_eq, hg, Nat.zero_add, Nat.le_refl, if_true, List.drop_zero, List.take_length]
theorem scal_ints (k : IntKind) (xs : List Int) : (xs.map (Value.int k)).all scal = true := by
  rw [List.all_eq_true]; intro v hv; obtain ⟨z, _, rfl⟩ := List.mem_map.1 hv; rfl
theorem own_append {s : AS} {k : IntKind} {el : TypeId} {v x : Value} {xs ys : List Int} (h : Own s k el v xs) (hx : lenV x = some ys.length) (hc : cellsV s 1 ys.length x = some (ys.map (.int k))) (hy : ys ≠ []) (hs : xs.length + ys.length ≤ 1000000000) (hF : s.F) :
    ∃ s', appendV 1 el v x s = .val (.slice (some ⟨s.next, 0, none⟩) (xs ++ ys).length (2 * (xs ++ ys).length + 1)) s' ∧ s'.get s.next = some (.row ((xs ++ ys).map (.int k)) el false) ∧ s'.next = s.next + 1 ∧ s'.F ∧
      ∀ b, b ≠ s.next → (∀ n c, v ≠ .slice (some ⟨b, 0, none⟩) n c) → s'.get b = s.get b := by
  have hyl : 0 < ys.length := List.length_pos_iff.2 hy
  have hlen : (xs ++ ys).length = xs.length + ys.length := by simp
  have h9 : Nat.ble (xs.length + ys.length) 1000000000 = true := by rw [Nat.ble_eq]; exact hs
  rcases h with ⟨rfl, rfl⟩ | ⟨b, rfl, hg⟩
  · refine ⟨s.new (.row (ys.map (.int k)) el false), ?_, new_get _ _, rfl, hF.new _, fun b hb _ => new_ne s _ hb⟩
    have e1 : Nat.ble (Nat.add 0 ys.length) (half 0) = false := by
      rw [← Bool.not_eq_true, Nat.ble_eq]; show ¬ (0 + ys.length ≤ 0 / 2); omega
    have e2 : cellsV s 1 0 (.slice none 0 0) = some [] := rfl
    have e3 : Nat.ble (Nat.add 0 ys.length) 1000000000 = true := by rw [Nat.ble_eq]; show 0 + ys.length ≤ _; simp at hs; omega
    simp only [appendV, hx, hc, append0, e1, bif_eq, Bool.false_eq_true, if_false, e3, if_true, e2, append1, append2, appK_eq]
    simp
  · refine ⟨(s.put b .dead).new (.row ((xs ++ ys).map (.int k)) el false), ?_, new_get (s.put b .dead) _, rfl, (hF.put (hF.lt hg) _).new _, fun b' hb hv => ?_⟩
    · have e1 : Nat.ble (Nat.add xs.length ys.length) (half (2 * xs.length + 1)) = false := by
        rw [← Bool.not_eq_true, Nat.ble_eq, half21]; show ¬ (xs.length + ys.length ≤ _); omega
      have e2 : cellsV s 1 xs.length (.slice (some ⟨b, 0, none⟩) xs.length (2 * xs.length + 1)) = some (xs.map (.int k)) := by
        simp only [cellsV, bif_eq, Nat.beq_eq]
        split
        · rename_i h0; rw [List.eq_nil_of_length_eq_zero h0]; rfl
        · exact rd_all hg (by simp)
      have e3 : Nat.ble (Nat.add xs.length ys.length) 1000000000 = true := h9
      have e4 : allK scal (ys.map (Value.int k)) = true := by rw [allK_eq]; exact scal_ints k ys
      simp only [appendV, hx, hc, append0, e1, bif_eq, Bool.false_eq_true, if_false, e3, if_true, e2, append1, exact21, hg, beq_self, e4, append2, appK_eq, hlen, List.map_append]
      rfl
    · have h1 : b' ≠ (s.put b .dead).next := hb
      rw [new_ne _ _ h1, put_ne s _ (fun e => hv _ _ (by rw [e]))]
end Go.Proofs.YtbbknbmmpkpgdaaGreatDoor.KAb
namespace Go.Proofs.YtbbknbmmpkpgdaaGreatDoor.KAb
noncomputable def Pz : Program := Go.Proofs.Tryz.prog
end Go.Proofs.YtbbknbmmpkpgdaaGreatDoor.KAb
