/- The closed laws of this seat: what every one of them needs. The tables, the world of the witness, and: what a function without parameters hands that leaves the old memory as it was. -/
import Derived.Test.YtbbknbmmpkpgdaaGreatDoorKGood
import Derived.Test.YtbbknbmmpkpgdaaGreatDoorKSum
import Derived.Test.YtbbknbmmpkpgdaaGreatDoorCards
import Derived.Test.YtbbknbmmpkpgdaaGreatDoorTie
import Derived.WalkKit
import Derived.ProofKit
import Derived.OpenShut
import Derived.Below
import Derived.WideKeyArgs
import Derived.Deep.DeepHandedRow
import Derived.Lib.LaidTab
import Derived.Stop.LaidErr
import Derived.Test.YtbbknbmmpkpgdaaGreatDoorMasks
namespace Go.Proofs.YtbbknbmmpkpgdaaGreatDoor.KAb
open Go.ChangeShapes Go.WideShapes Go.ChangeAt Go.RowKit
theorem good : Good Tryz.prog := good_of (by kernel_rfl) (by kernel_rfl)
theorem laidOut : laidOutB Tryz.prog = true := by kernel_rfl
theorem own : ownKnob Tryz.prog.godebug = none := by kernel_rfl
theorem g0 : Tryz.prog.globalNamed "math/bits.deBruijn32tab" = some 0 := by kernel_rfl
theorem g1 : Tryz.prog.globalNamed "math/bits.deBruijn64tab" = some 1 := by kernel_rfl
theorem g2 : Tryz.prog.globalNamed "internal/strconv.uint64pow10" = some 2 := by kernel_rfl
theorem t0 : (Tryz.prog.globals[0]?).map (·.type) = some 327 := by kernel_rfl
theorem t1 : (Tryz.prog.globals[1]?).map (·.type) = some 328 := by kernel_rfl
theorem t2 : (Tryz.prog.globals[2]?).map (·.type) = some 445 := by kernel_rfl
def d32 : List Int := [0,1,28,2,29,14,24,3,30,22,20,15,25,17,4,8,31,27,13,23,21,19,16,7,26,12,18,6,11,5,10,9]
def d64 : List Int := [0,1,56,2,57,49,28,3,61,58,42,50,38,29,17,4,62,47,59,36,45,43,51,22,53,39,33,30,24,18,12,5,63,55,48,27,60,41,37,16,46,35,44,21,52,32,23,11,54,26,40,15,34,20,31,10,25,14,19,9,13,8,7,6]
def p10 : List Int := [1,10,100,1000,10000,100000,1000000,10000000,100000000,1000000000,10000000000,100000000000,1000000000000,10000000000000,100000000000000,1000000000000000,10000000000000000,100000000000000000,1000000000000000000,10000000000000000000]
def laid : List (String × DataW Unit) := [("math/bits.deBruijn32tab", Rows.laid_math_bits_deBruijn32tab), ("math/bits.deBruijn64tab", Rows.laid_math_bits_deBruijn64tab), ("internal/strconv.uint64pow10", Rows.laid_internal_strconv_uint64pow10)]
def cells (k : IntKind) (l : List Int) : List Value := l.map fun z => .int k z
/-- What the row lists: the three tables' blocks. -/
theorem tables {W : World} (h : laidMetH Tryz.prog laid W) : ∃ C0 C1 C2 e0 e1 e2 f0 f1 f2, W.heap[0]? = some (.cells C0 e0 f0) ∧ W.heap[1]? = some (.cells C1 e1 f1) ∧ W.heap[2]? = some (.cells C2 e2 f2) ∧
    C0.toList = cells .u8 d32 ∧ C1.toList = cells .u8 d64 ∧ C2.toList = cells .u64 p10 := by
  have hm : laidMet Tryz.prog laid W := h
  have a0 : Lib.TabIs Tryz.prog W "math/bits.deBruijn32tab" .u8 d32 := Lib.tabIs_of_head g0 t0 (t := 327) (e := 5) (n := 32) (by kernel_rfl) (by kernel_rfl) (by kernel_rfl) (by kernel_rfl) hm
  have a1 : Lib.TabIs Tryz.prog W "math/bits.deBruijn64tab" .u8 d64 := Lib.tabIs_of_head g1 t1 (t := 328) (e := 5) (n := 64) (by kernel_rfl) (by kernel_rfl) (by kernel_rfl) (by kernel_rfl) hm.tail
  have a2 : Lib.TabIs Tryz.prog W "internal/strconv.uint64pow10" .u64 p10 := Lib.tabIs_of_head g2 t2 (t := 445) (e := 62) (n := 20) (by kernel_rfl) (by kernel_rfl) (by kernel_rfl) (by kernel_rfl) hm.tail.tail
  have key : ∀ {name : String} {g : Nat} {k : IntKind} {l : List Int}, Tryz.prog.globalNamed name = some g → Lib.TabIs Tryz.prog W name k l → ∃ C e f, W.heap[g]? = some (.cells C e f) ∧ C.toList = cells k l := by
    intro name g k l hg ht
    unfold Lib.TabIs World.var? at ht
    rw [hg] at ht
    simp only [Option.bind_some] at ht
    split at ht
    · rename_i C e f hh
      exact ⟨C, e, f, hh, by rw [Option.some.inj ht]; rfl⟩
    · cases ht
  obtain ⟨C0, e0, f0, x0, y0⟩ := key g0 a0
  obtain ⟨C1, e1, f1, x1, y1⟩ := key g1 a1
  obtain ⟨C2, e2, f2, x2, y2⟩ := key g2 a2
  exact ⟨C0, C1, C2, e0, e1, e2, f0, f1, f2, x0, x1, x2, y0, y1, y2⟩
/-- A closed function that the evaluator says is true. -/
theorem runs {f : FuncId} (hrun : ∀ e0 e1 e2, isTrue ((aCall Tryz.prog masks 100000 1000).call f [] (start (cells .u8 d32) (cells .u8 d64) (cells .u64 p10) e0 e1 e2)) = true) {W : World} (h : laidMetH Tryz.prog laid W) :
    Calls Tryz.prog f #[] W fun e W' => e = .returned (.bool true) ∧ Old W W' := by
  obtain ⟨C0, C1, C2, e0, e1, e2, f0, f1, f2, x0, x1, x2, y0, y1, y2⟩ := tables h
  exact closed good x0 x1 x2 y0 y1 y2 (by decide) (by decide) (by decide) (hrun e0 e1 e2)
/-- The same, of whose arguments nothing is known. -/
theorem runsA {f : FuncId} {us : Array Value} {args : List Value} (ha : mapK (fun _ => poison) us.toList = args) (hrun : ∀ e0 e1 e2, isTrue ((aCall Tryz.prog masks 100000 1000).call f args (start (cells .u8 d32) (cells .u8 d64) (cells .u64 p10) e0 e1 e2)) = true) {W : World} (h : laidMetH Tryz.prog laid W) :
    Calls Tryz.prog f us W fun e W' => e = .returned (.bool true) ∧ Old W W' := by
  obtain ⟨C0, C1, C2, e0, e1, e2, f0, f1, f2, x0, x1, x2, y0, y1, y2⟩ := tables h
  exact closedA good x0 x1 x2 y0 y1 y2 (by decide) (by decide) (by decide) (by rw [ha]; exact hrun e0 e1 e2)
/-- The same, with calls that were worked out alone. -/
theorem runsS {f : FuncId} {us : Array Value} {args : List Value} {xs : List Sum} {nx k : Nat} (hx : ∀ x ∈ xs, SumOf Tryz.prog masks 100000 1000 nx (cells .u8 d32) (cells .u8 d64) (cells .u64 p10) x) (ha : mapK (fun _ => poison) us.toList = args)
    (hrun : ∀ e0 e1 e2, isTrue ((aCallS Tryz.prog masks 100000 xs k).call f args (start (cells .u8 d32) (cells .u8 d64) (cells .u64 p10) e0 e1 e2)) = true) {W : World} (h : laidMetH Tryz.prog laid W) :
    Calls Tryz.prog f us W fun e W' => e = .returned (.bool true) ∧ Old W W' := by
  obtain ⟨C0, C1, C2, e0, e1, e2, f0, f1, f2, x0, x1, x2, y0, y1, y2⟩ := tables h
  exact closedS good hx x0 x1 x2 y0 y1 y2 (by decide) (by decide) (by decide) (by rw [ha]; exact hrun e0 e1 e2)
theorem Old.kept {W W' : World} (h : Old W W') (may : MemPlace → Prop) : W.keptBut W' may := by
  obtain ⟨h1, h2, h3, h4⟩ := h
  refine ⟨h1, h2, fun i hi => ?_⟩
  rw [h4 i hi]
  split
  · rename_i c t fr c' t' fr' e1 e2
    rw [e1] at e2
    cases e2
    exact ⟨rfl, rfl, rfl, fun _ _ => rfl⟩
  · rename_i es clock es' clock' e1 e2
    rw [e1] at e2
    cases e2
    exact .inr ⟨rfl, rfl⟩
  · rfl
theorem Old.frz {W W' : World} (h : Old W W') (a : Addr) (ha : a.block < W.heap.size) : W'.frozen? a = W.frozen? a := by
  unfold World.frozen?
  rw [h.2.2.2 a.block ha]
theorem Old.same {W W' : World} (h : Old W W') {p : MemPlace} (hp : p.block < W.heap.size) : W.sameAt W' p := by
  cases p with
  | cell b o => exact World.cell?_of_block (w := W) (h.2.2.2 b hp)
  | map b => exact h.2.2.2 b hp
/-- The arguments read as they did. -/
theorem Old.args {H : Type} {enc : TypeId × Value → H} {P : Program} (hl : laidOutB P = true) {W W' : World} (ho : Old W W') {sp : Nat → Bool} : ∀ {ts : List TypeId} {vs : List Value} {ds : List (DataW H)} {ps : List MemPlace},
    (ts.all fun t => P.readableRec t && decide (t < P.types.size)) = true → DataW.TrodAll enc P W 0 (fun _ => true) true ts vs ds ps → (∀ p ∈ ps, p.block < W.heap.size) → (∀ p ∈ ps, sp p.block = true) → DataW.TrodAll enc P W' 0 sp true ts vs ds ps := by
  intro ts
  induction ts with
  | nil => intro vs ds ps _ h _ _; obtain ⟨rfl, rfl, rfl⟩ := trodAll_nil h; exact trodAll_mk0
  | cons t ts ih =>
    intro vs ds ps hr h hb hs
    obtain ⟨v, vs, d, ds, p, q, rfl, rfl, rfl, h1, h2⟩ := trodAll_cons h
    simp only [List.all_cons, Bool.and_eq_true, decide_eq_true_eq] at hr
    exact trodAll_cons_mk (WideElems.Trod_stays hl hr.1.1 hr.1.2 h1 (fun x hx => ho.same (hb x (List.mem_append_left _ hx))) fun x hx => hs x (List.mem_append_left _ hx))
      (ih (by simpa using hr.2) h2 (fun x hx => hb x (List.mem_append_right _ hx)) fun x hx => hs x (List.mem_append_right _ hx))
section
variable {H : Type} {enc : TypeId × Value → H} {P : Program}
/-- As the guide's 'post_of_same', of a function that may freeze new blocks. -/
theorem post_of_old {f : Func} {s : ChangeSpec} {apart fresh handsOn again : Bool} {W W' : World} {args : Array Value} {v : Value} {ds gs : List (DataW H)} {before pa pv : List MemPlace}
    (hW : DataW.Whole enc P f.params.toList s.vars apart W args.toList ds gs before)
    (hres : ∀ (b : Nat) (sp : Nat → Bool) (hd : Bool), DataW.TrodAll enc P W' b sp hd f.resultTypes.toList (v.resultList f.resultTypes.size) (s.fn H (ds ++ gs)).results [])
    (hargs : ∀ sp : Nat → Bool, (∀ p ∈ before, sp p.block = true) → DataW.TrodAll enc P W' 0 sp true f.params.toList args.toList (s.fn H (ds ++ gs)).args pa)
    (hvars : ∀ sp : Nat → Bool, (∀ p ∈ before, sp p.block = true) → DataW.TrodVars enc P W' sp s.vars (s.fn H (ds ++ gs)).vars pv)
    (hps : before = pa ++ pv) (hk : W.keptBut W' (· ∈ before)) (hfz : ∀ a : Addr, a.block < W.heap.size → W'.frozen? a = W.frozen? a)
    (hok : ∀ (j : Nat) (t : TypeId) (r : Value), f.resultTypes[j]? = some t → (v.resultList f.resultTypes.size)[j]? = some r → Value.okWide P W' .any 0 t r) :
    s.post enc P f apart fresh handsOn again W args v W' := by
  have hlt : ∀ p ∈ before, p.block < W.heap.size := fun p hp => hW.lt p hp
  have hold : ∀ p ∈ before, (fun b => decide (b < W.heap.size)) p.block = true := fun p hp => by simpa using hlt p hp
  refine ⟨ds, gs, before, [], pa, pv, hW, hres _ _ _, hargs _ hold, hvars _ hold, World.keptBut_mono (fun p hp => ⟨hp, ?_⟩) hk, fun _ => ?_⟩
  · rw [hps, List.mem_append] at hp
    exact Or.inr hp
  · obtain ⟨_, _, _, _, _, hz, hn⟩ := hW
    refine ⟨hok, _, _, ([] ++ pa) ++ pv, ⟨[] ++ pa, pv, trodAll_append (hargs _ (fun _ _ => rfl)) (hres _ _ _), hvars _ (fun _ _ => rfl), rfl, ?_, ?_⟩, ?_⟩
    · intro b off hp
      have hmem : MemPlace.cell b off ∈ before := by rw [hps]; simpa using hp
      rw [hfz _ (hlt _ hmem)]
      exact hz b off hmem
    · intro ha
      have := hn ha
      rw [hps] at this
      simpa using this
    · intro p hp _
      rw [hps]
      simpa using hp
end
/-- A table laid into its block. -/
def lay (l : List Value) (o : Obj) : Obj := match o with
  | .cells _ t frozen => .cells l.toArray t frozen
  | o => o
/-- A world for the witness: the settled one, the tables holding what their initialisers lay. -/
noncomputable def laidWorld (os : Os) : World :=
  { World.holding Tryz.prog os ⟨#[], #[], []⟩ with heap := (((World.holding Tryz.prog os ⟨#[], #[], []⟩).heap.modify 0 (lay (cells .u8 d32))).modify 1 (lay (cells .u8 d64))).modify 2 (lay (cells .u64 p10)) }
theorem laid_met (os : Os) : laidMet Tryz.prog laid ((laidWorld os).forCall (fun _ _ => 0) ⟨#[], #[], []⟩).memory :=
  laidMet_of_run' 70 (by kernel_rfl) (by kernel_rfl)
end Go.Proofs.YtbbknbmmpkpgdaaGreatDoor.KAb
