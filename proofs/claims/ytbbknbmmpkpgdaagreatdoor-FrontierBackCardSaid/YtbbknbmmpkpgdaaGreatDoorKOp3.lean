import Derived.Test.YtbbknbmmpkpgdaaGreatDoorKOp2
namespace Go.Proofs.YtbbknbmmpkpgdaaGreatDoor.KAb
section
variable {P : Program} {B : Nat → Prop} {W0 : World} {pend : Nat → Prop} {s : AS} {m : Mp} {w : World} {mask nt : Nat} {vars loc : L} {ds : DS} {a : Act}
theorem arr1 {α : Type} {xs : Array α} {x : α} (h : xs.toList = [x]) : xs = #[x] := by
  apply Array.ext'; simpa using h
theorem arr2 {α : Type} {xs : Array α} {x y : α} (h : xs.toList = [x, y]) : xs = #[x, y] := by
  apply Array.ext'; simpa using h
theorem map1 {α β : Type} (f : α → β) (x : α) : (#[x] : Array α).map f = #[f x] := by simp
theorem map2 {α β : Type} (f : α → β) (x y : α) : (#[x, y] : Array α).map f = #[f x, f y] := by simp
/-- A call of a value. -/
theorem callV_ok (hG : Good P) (hR : Rel P B W0 pend s m w) {f u : Value} (hf : VRel m s.dead f u) {args : List Value} {us : Array Value} (ha : LRel m s.dead args us.toList) :
    AR P B W0 pend s m w (doCallV P f args s) ((do let d ← Deferred.ofValue u us; invoke d.target d.args : Sem Next).run P w) := by
  unfold doCallV
  split
  · rename_i g first captured
    obtain ⟨fs, cs, rfl, h1, h2⟩ := hf.func_inv
    have hl : LRel m s.dead (appK first.toList (appK args captured.toList)) (fs ++ us ++ cs).toList := by
      rw [appK_eq, appK_eq, Array.toList_append, Array.toList_append, List.append_assoc]
      exact h1.append (ha.append h2)
    have := callF_ok hG hR (f := g) hl
    exact this
  · rename_i b f0 c0
    obtain ⟨l, N, z, rfl, hm⟩ := hf.yld_inv
    exact ⟨rfl, us, l, N, z, hm, by simp [Deferred.ofValue, invoke], ha⟩
  · exact True.intro
theorem defer_ok {f u : Value} (hf : VRel m s.dead f u) {args : List Value} {us : Array Value} (ha : LRel m s.dead args us.toList) :
    AR P B W0 pend s m w (doDefer f args s) ((do pure (.defer (← Deferred.ofValue u us)) : Sem Next).run P w) := by
  unfold doDefer
  split
  · rename_i g first captured
    obtain ⟨fs, cs, rfl, h1, h2⟩ := hf.func_inv
    cases hk : Nat.beq g markId with
    | true => exact True.intro
    | false =>
      have hne : g ≠ markId := fun e => by rw [e, show Nat.beq markId markId = true from by rw [Nat.beq_eq]] at hk; cases hk
      refine ⟨rfl, { target := .fn (.func g) cs, args := fs ++ us }, rfl, hne, cs, rfl, ?_⟩
      rw [appK_eq, appK_eq, Array.toList_append, List.append_assoc]
      exact h1.append (ha.append h2)
  · exact True.intro
theorem panic_ok {x u : Value} (hx : VRel m s.dead x u) : AR P B W0 pend s m w (doPanic x s) ((do pure (.value (← Instr.panic u)) : Sem Next).run P w) := by
  unfold doPanic
  split
  · obtain ⟨y, rfl, h⟩ := hx.iface_inv
    exact ⟨rfl, _, by simp [Instr.panic], .iface _ _ _ h⟩
  · exact True.intro
theorem method_run {t : TypeId} {n : String} {f : FuncId} (h : methodAt P t n = some f) (fuel : Nat) (v : Value) (w : World) : (method (fuel + 1) t v n).run P w = .ok (f, v) w := by
  unfold methodAt at h
  split at h
  · rename_i i hi
    split at h
    · rename_i m hm
      split at h
      · rename_i hp
        have hp' : m.path = #[] := by apply Array.ext'; simpa using hp
        split at h
        · rename_i q hq
          obtain ⟨g, ptr⟩ := q
          unfold isPtrT at h
          split at h
          · rename_i b hb
            split at hb
            · rename_i e hu
              cases hb
              cases ptr with
              | false => cases h
              | true =>
                have : g = f := by simpa [bif'] using h
                subst this
                simp [method, run_info hi, hm, hp', follow, hq, receiverAt, run_underlying hu, Place.get]
            · rename_i d hne hu
              cases hb
              cases ptr with
              | true => cases h
              | false =>
                have : g = f := by simpa [bif'] using h
                subst this
                simp only [method, Sem.run_bind, run_info hi, Result.andThen_ok, hm, hp', follow, hq, receiverAt, run_underlying hu, Sem.run_pure]
                cases d with
                | pointer e => exact (hne e rfl).elim
                | _ => simp [Place.get]
            · cases hb
          · cases h
        · cases h
      · cases h
    · cases h
  · cases h
/-- A call through an interface. -/
theorem invoke_ok (hG : Good P) (hR : Rel P B W0 pend s m w) {r u : Value} (hr : VRel m s.dead r u) {n : String} {args : List Value} {us : Array Value} (ha : LRel m s.dead args us.toList) :
    AR P B W0 pend s m w (doInvoke P n r args s) ((invoke (.fn (.method n) #[]) (#[u] ++ us)).run P w) := by
  unfold doInvoke
  split
  · rename_i t x
    obtain ⟨y, rfl, hx⟩ := hr.iface_inv
    split
    · rename_i f hf
      have hrun : (invoke (.fn (.method n) #[]) (#[.iface t y] ++ us)).run P w = (callFunc f (#[y] ++ us)).run P w := by
        have h0 : (#[Value.iface t y] ++ us)[0]? = some (.iface t y) := by rw [← Array.getElem?_toList, Array.toList_append]; rfl
        have h1 : (#[Value.iface t y] ++ us).extract 1 (#[Value.iface t y] ++ us).size = us := by
          apply Array.ext'; simp
        have hm := method_run hf (P.types.size + Made.depth - 1) y w
        have hfu : P.types.size + Made.depth - 1 + 1 = P.types.size + Made.depth := by have : Made.depth = 100 := rfl; omega
        rw [hfu] at hm
        have hp : program.run P w = .ok P w := rfl
        simp only [invoke, h0, h1, callMethod, Sem.run_bind, hp, Result.andThen_ok, hm]
      rw [hrun]
      exact callF_ok hG hR (by rw [Array.toList_append]; exact LRel.cons hx ha)
    · exact True.intro
  · exact True.intro
theorem cCall_ok (hG : Good P) (hR : Rel P B W0 pend s m w) (dst : Option Tmp) (c : Call) (hO : OpR m s.dead mask vars loc a c.operands.toList) (type : TypeId) (pos : String) (after : Array Edge) (guard : Option (Nat × Bool)) :
    COS P B W0 pend s m w vars loc (cCall P mask c type) ((execOp a.eval ⟨dst, .call c, type, pos, after, guard⟩).run P w) := by
  obtain ⟨callee, args, argTypes⟩ := c
  have hargs := opds_array (l := args) (fun x hx => hO x (by simp only [Call.operands, Array.toList_append, List.mem_append]; exact .inr hx))
  cases callee with
  | invoke r n => exact invoke_ok hG hR (hO r (by simp [Call.operands])) hargs
  | value f =>
    have gen : COS P B W0 pend s m w vars loc (.act fun v l s => doCallV P ((opd mask f).get v l) ((opds mask args.toList).get v l) s) ((execOp a.eval ⟨dst, .call ⟨.value f, args, argTypes⟩, type, pos, after, guard⟩).run P w) :=
      callV_ok hG hR (hO f (by simp [Call.operands])) hargs
    cases f with
    | func g =>
      have hrun : (execOp a.eval ⟨dst, .call ⟨.value (.func g), args, argTypes⟩, type, pos, after, guard⟩).run P w = (callFunc g (args.map a.eval)).run P w := by
        show (callFunc g (#[] ++ args.map a.eval ++ #[])).run P w = _
        simp
      rw [hrun]
      have h := callF_ok hG hR (f := g) hargs
      have hd : cCall P mask ⟨.value (.func g), args, argTypes⟩ type = (match ekind P g with
        | .go => .act fun v l s => .enter g ((opds mask args.toList).get v l) s
        | .noEscape => .look fun v l _ => one1 ((opds mask args.toList).get v l)
        | .makeNoZero e => .act fun v l s => makeNZ e ((opds mask args.toList).get v l) s
        | .other e => .look fun v l _ => flatCall P e ((opds mask args.toList).get v l)
        | .bad => .bad "call") := rfl
      rw [hd]
      have hk := ekind_ok P g
      unfold callF at h
      generalize ekind P g = k at h hk
      cases hk with
      | go fn c h1 h2 => exact h
      | noEscape fn h0 hb hn =>
        intro x hx
        obtain ⟨h1, h2⟩ := hG.esc g fn h0 hb hn
        obtain ⟨u, g1, g2⟩ := one1_ls (P := P) (w := w) hargs x hx
        exact ⟨u, by rw [callFunc_ext hG h0 hb h1 h2]; simp only [Array.toArray_toList] at g1; rw [g1]; rfl, g2⟩
      | mz fn t e h0 hb hn ht he hc => exact h
      | other fn e h0 hb h1 h2 =>
        intro x hx
        obtain ⟨u, g1, g2⟩ := flatCall_ls (P := P) (w := w) (e := e) hargs x hx
        exact ⟨u, by rw [callFunc_ext hG h0 hb h1 h2]; simp only [Array.toArray_toList] at g1; rw [g1]; rfl, g2⟩
      | bad => exact True.intro
    | _ => exact gen
  | builtin b =>
    cases b with
    | recover => exact True.intro
    | len =>
      simp only [cCall]
      split
      · rename_i x hx
        have := arr1 hx; subst this
        show COS P B W0 pend s m w vars loc _ ((do pure (.value (← Builtin.len_ argTypes type ((#[x] : Array Operand).map a.eval))) : Sem Next).run P w)
        rw [map1]
        intro y hy
        exact look_val (len_ls hR (hO x (by simp [Call.operands]))) hy
      · exact True.intro
    | cap =>
      simp only [cCall]
      split
      · rename_i x hx
        have := arr1 hx; subst this
        show COS P B W0 pend s m w vars loc _ ((do pure (.value (← Builtin.cap_ argTypes type ((#[x] : Array Operand).map a.eval))) : Sem Next).run P w)
        rw [map1]
        split
        · rename_i t ht
          split
          · rename_i e he
            intro y hy
            exact look_val (doCap_ls ht (sliceElem_some he) (hO x (by simp [Call.operands]))) hy
          · exact True.intro
        · exact True.intro
      · exact True.intro
    | unsafeSliceData =>
      simp only [cCall]
      split
      · rename_i x hx
        have := arr1 hx; subst this
        show COS P B W0 pend s m w vars loc _ ((do pure (.value (← Builtin.unsafeSliceData_ argTypes type ((#[x] : Array Operand).map a.eval))) : Sem Next).run P w)
        rw [map1]
        intro y hy
        exact look_val (sliceData_ls (hO x (by simp [Call.operands]))) hy
      · exact True.intro
    | append =>
      simp only [cCall]
      split
      · rename_i d x hx
        have := arr2 hx; subst this
        show COS P B W0 pend s m w vars loc _ ((do pure (.value (← Builtin.append_ argTypes type ((#[d, x] : Array Operand).map a.eval))) : Sem Next).run P w)
        rw [map2]
        split
        · rename_i t ht
          split
          · rename_i e he
            split
            · rename_i size z hel
              split
              · rename_i hni
                exact act_val (append_av hR ht he hel hni (hO d (by simp [Call.operands])) (hO x (by simp [Call.operands]))) (plain_append _ _ _ _ _)
              · exact True.intro
            · exact True.intro
          · exact True.intro
        · exact True.intro
      · exact True.intro
    | copy =>
      simp only [cCall]
      split
      · rename_i d x hx
        have := arr2 hx; subst this
        show COS P B W0 pend s m w vars loc _ ((do pure (.value (← Builtin.copy_ argTypes type ((#[d, x] : Array Operand).map a.eval))) : Sem Next).run P w)
        rw [map2]
        split
        · rename_i t ht
          split
          · rename_i e he
            split
            · rename_i size hs
              exact act_val (copy_av hR ht he hs (hO d (by simp [Call.operands])) (hO x (by simp [Call.operands]))) (plain_copy _ _ _ _)
            · exact True.intro
          · exact True.intro
        · exact True.intro
      · exact True.intro
    | unsafeString =>
      simp only [cCall]
      split
      · rename_i p n hx
        have := arr2 hx; subst this
        show COS P B W0 pend s m w vars loc _ ((do pure (.value (← Builtin.unsafeString_ argTypes type ((#[p, n] : Array Operand).map a.eval))) : Sem Next).run P w)
        rw [map2]
        split
        · rename_i t ht
          split
          · rename_i u hu
            exact act_val (unsafeStr_av hR ht hu (hO p (by simp [Call.operands])) (hO n (by simp [Call.operands]))) (plain_us _ _ _ _ _)
          · exact True.intro
        · exact True.intro
      · exact True.intro
    | max =>
      intro y hy
      have hl := flatCall_ls (P := P) (w := w) (e := fun a => Builtin.max_ argTypes type a) hargs
      simp only [Array.toArray_toList] at hl
      exact look_val hl hy
    | min =>
      intro y hy
      have hl := flatCall_ls (P := P) (w := w) (e := fun a => Builtin.min_ argTypes type a) hargs
      simp only [Array.toArray_toList] at hl
      exact look_val hl hy
    | _ => exact True.intro
end
end Go.Proofs.YtbbknbmmpkpgdaaGreatDoor.KAb
