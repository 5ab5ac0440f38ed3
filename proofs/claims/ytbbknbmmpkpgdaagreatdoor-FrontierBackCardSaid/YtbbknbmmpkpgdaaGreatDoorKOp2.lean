import Derived.Test.YtbbknbmmpkpgdaaGreatDoorKOp
namespace Go.Proofs.YtbbknbmmpkpgdaaGreatDoor.KAb
section
variable {P : Program} {B : Nat → Prop} {W0 : World} {pend : Nat → Prop} {s : AS} {m : Mp} {w : World} {mask nt : Nat} {vars loc : L} {ds : DS} {a : Act}
theorem plain_bif {b : Bool} {x y : R} (h1 : x.plain) (h2 : y.plain) : (bif' b x y).plain := by cases b <;> assumption
theorem plain_box (t : TypeId) (x : Value) (s : AS) : (doBox t x s).plain := by
  simp only [doBox, bif', brec]; split <;> trivial
theorem plain_buildSlice (e size n : Nat) (z : List Value) (p : List (Nat × Value)) (s : AS) : (doBuildSlice e size n z p s).plain := by
  unfold doBuildSlice; split <;> trivial
theorem plain_store (n : Nat) (x y : Value) (s : AS) : (doStore n x y s).plain := by
  unfold doStore; split
  · simp only [bif', brec]; split
    · split <;> trivial
    · trivial
  · trivial
theorem plain_append2 (s : AS) (elem need : Nat) (old new : List Value) : (append2 s elem need old new).plain := trivial
theorem plain_append1 (s : AS) (elem need code : Nat) (base : Option Addr) (old new : List Value) : (append1 s elem need code base old new).plain := by
  unfold append1; split
  · trivial
  · refine plain_bif trivial ?_
    split
    · exact plain_bif trivial trivial
    · trivial
theorem plain_append (size elem : Nat) (d x : Value) (s : AS) : (appendV size elem d x s).plain := by
  unfold appendV; split
  · split
    · trivial
    · split
      · trivial
      · unfold append0
        simp only [bif', brec]
        split
        · split
          · trivial
          · split
            · trivial
            · split <;> trivial
          · trivial
        · split
          · split
            · trivial
            · exact plain_append1 _ _ _ _ _ _ _
          · trivial
  · trivial
theorem plain_copy (size : Nat) (d x : Value) (s : AS) : (doCopy size d x s).plain := by
  unfold doCopy; split
  · split
    · refine plain_bif trivial ?_
      split
      · split
        · split <;> trivial
        · trivial
      · trivial
    · trivial
  · trivial
theorem plain_bytes (e : TypeId) (x : Value) (s : AS) : (convBytes e x s).plain := by
  unfold convBytes; split <;> trivial
theorem plain_make (e : TypeId) (z : List Value) (l c : Value) (s : AS) : (doMakeSlice e z l c s).plain := by
  unfold doMakeSlice; split
  · trivial
  · split
    · trivial
    · exact plain_bif trivial trivial
theorem plain_update (x k v : Value) (s : AS) : (doMapUpdate x k v s).plain := by
  unfold doMapUpdate; split
  · split
    · simp only [bif', brec]; split
      · split <;> trivial
      · trivial
    · trivial
  · trivial
theorem plain_us (P : Program) (u : TypeId) (p n : Value) (s : AS) : (unsafeStr P u p n s).plain := by
  unfold unsafeStr; split
  · trivial
  · split
    · simp only [bif', brec]; split <;> trivial
    · simp only [bif', brec]; split
      · trivial
      · split
        · unfold unsafeS1; split
          · simp only [bif', brec]; split
            · split
              · split <;> trivial
              · trivial
            · trivial
          · trivial
        · trivial
    · trivial
theorem plain_mz (e : TypeId) (args : List Value) (s : AS) : (makeNZ e args s).plain := by
  unfold makeNZ; split
  · simp only [bif', brec]; split <;> trivial
  · trivial

theorem pick_ok {c x y : Value} {c' x' y' : Value} (hc : VRel m s.dead c c') (hx : VRel m s.dead x x') (hy : VRel m s.dead y y') {v : Value} (h : doPick c x y = .ok v) :
    ∃ b, c' = .bool b ∧ VRel m s.dead v (if b then x' else y') := by
  unfold doPick at h
  split at h
  · rename_i b
    cases h
    have := hc.bool_inv; subst this
    refine ⟨b, rfl, ?_⟩
    cases b
    · exact hy
    · exact hx
  · cases h
theorem flatCall_ls {e : Array Value → Sem Value} {args us : List Value} (ha : LRel m s.dead args us) : LS P s m w (flatCall P e args) (e us.toArray) := by
  intro x h
  unfold flatCall at h
  cases hf : allK flat1 args with
  | false => rw [hf] at h; cases h
  | true =>
    rw [hf] at h
    rw [allK_eq] at hf
    rw [all_flat1 ha hf]
    exact pureRun_ls x h
theorem one1_ls {args us : List Value} (ha : LRel m s.dead args us) : LS P s m w (one1 args) (Extern.AbiNoEscape.same us.toArray) := by
  intro x h
  unfold one1 at h
  split at h
  · cases h
    obtain ⟨u, us', rfl, h1, h2⟩ := ha.inv_cons
    have := h2.inv_nil; subst this
    exact ⟨u, rfl, h1⟩
  · cases h
/-- A function without a body, and one that has one. -/
inductive EKs (P : Program) (f : FuncId) : EK → Prop
  | go (fn : Func) (c : Code) (h : P.funcs[f]? = some fn) (hb : fn.body = some c) : EKs P f .go
  | noEscape (fn : Func) (h : P.funcs[f]? = some fn) (hb : fn.body = none) (hn : fn.name = "internal/abi.NoEscape") : EKs P f .noEscape
  | mz (fn : Func) (t e : TypeId) (h : P.funcs[f]? = some fn) (hb : fn.body = none) (hn : fn.name = "internal/bytealg.MakeNoZero") (ht : fn.resultTypes[0]? = some t) (he : sliceElem P t = some e) (hc : P.cellsOf e = 1) : EKs P f (.makeNoZero e)
  | other (fn : Func) (e : Array Value → Sem Value) (h : P.funcs[f]? = some fn) (hb : fn.body = none) (h1 : Extern.findNext fn = none) (h2 : Extern.find fn = some e) : EKs P f (.other e)
  | bad : EKs P f .bad
theorem ekind_ok (P : Program) (f : FuncId) : EKs P f (ekind P f) := by
  unfold ekind
  split
  · exact .bad
  · rename_i fn hf
    split
    · rename_i c hc; exact .go fn c hf hc
    · rename_i hb
      split
      · rename_i hn; exact .noEscape fn hf hb hn
      · split
        · rename_i hn
          unfold mzElem
          split
          · rename_i t ht
            split
            · rename_i e he
              simp only [bif', brec, Nat.beq_eq]
              split
              · rename_i hc; exact .mz fn t e hf hb hn ht he hc
              · exact .bad
            · exact .bad
          · exact .bad
        · split
          · exact .bad
          · rename_i h1
            split
            · rename_i e h2; exact .other fn e hf hb h1 h2
            · exact .bad
theorem callFunc_go (hG : Good P) {f : FuncId} {fn : Func} {c : Code} (h : P.funcs[f]? = some fn) (hb : fn.body = some c) (args : Array Value) (w : World) : (callFunc f args).run P w = .ok (.enter f args) w := by
  have hn : ¬ fn.name = "runtime.NumGoroutine" := by simpa using hG.ng f fn h
  simp [callFunc, h, hn, hb]
theorem callFunc_ext (hG : Good P) {f : FuncId} {fn : Func} (h : P.funcs[f]? = some fn) (hb : fn.body = none) {e : Array Value → Sem Value} (h1 : Extern.findNext fn = none) (h2 : Extern.find fn = some e) (args : Array Value) (w : World) :
    (callFunc f args).run P w = ((e args).run P w).andThen fun v w' => .ok (.value v) w' := by
  have hn : ¬ fn.name = "runtime.NumGoroutine" := by simpa using hG.ng f fn h
  simp [callFunc, h, hn, hb, h1, h2]
/-- A call of a function that is known. -/
theorem callF_ok (hG : Good P) (hR : Rel P B W0 pend s m w) {f : FuncId} {args : List Value} {us : Array Value} (ha : LRel m s.dead args us.toList) : AR P B W0 pend s m w (callF P f args s) ((callFunc f us).run P w) := by
  have he := ekind_ok P f
  unfold callF
  generalize ekind P f = k at he
  cases he with
  | go fn c h hb => exact ⟨rfl, us, callFunc_go hG h hb us w, ha⟩
  | noEscape fn h hb hn =>
    obtain ⟨h1, h2⟩ := hG.esc f fn h hb hn
    show AR P B W0 pend s m w (toR (one1 args) s) _
    cases hv : one1 args with
    | fail _ => exact True.intro
    | ok v =>
      obtain ⟨u, g1, g2⟩ := one1_ls (P := P) (w := w) ha v hv
      exact ⟨m, w, u, .inl (by rw [callFunc_ext hG h hb h1 h2]; simp only [Array.toArray_toList] at g1; rw [g1]; rfl), hR, Ext.refl _ _, g2⟩
  | mz fn t e h hb hn ht he hc =>
    obtain ⟨h1, h2⟩ := hG.mnz f fn h hb hn
    have hv := makeNZ_av (w := w) hR ha (params := fn.params) ht he hc
    show AR P B W0 pend s m w (makeNZ e args s) _
    have hp := plain_mz e args s
    cases hr : makeNZ e args s with
    | fail _ => exact True.intro
    | val v s' =>
      obtain ⟨m', w', u, g1, g2, g3, g4⟩ := hv v s' hr
      exact ⟨m', w', u, .inl (by rw [callFunc_ext hG h hb h1 h2]; simp only [Array.toArray_toList] at g1; rw [g1]; rfl), g2, g3, g4⟩
    | _ => rw [hr] at hp; cases hp
  | other fn e h hb h1 h2 =>
    show AR P B W0 pend s m w (toR (flatCall P e args) s) _
    cases hv : flatCall P e args with
    | fail _ => exact True.intro
    | ok v =>
      obtain ⟨u, g1, g2⟩ := flatCall_ls (P := P) (w := w) (e := e) ha v hv
      exact ⟨m, w, u, .inl (by rw [callFunc_ext hG h hb h1 h2]; simp only [Array.toArray_toList] at g1; rw [g1]; rfl), hR, Ext.refl _ _, g2⟩
  | bad => exact True.intro
end
end Go.Proofs.YtbbknbmmpkpgdaaGreatDoor.KAb
