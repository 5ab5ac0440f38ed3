import Derived.Test.YtbbknbmmpkpgdaaGreatDoorKCode2
import Derived.RangeFuncLeaves
import Derived.RecoverIn
import Derived.DefersIn
namespace Go.Proofs.YtbbknbmmpkpgdaaGreatDoor.KAb
section
variable {P : Program} {B : Nat → Prop} {W0 : World} {pend : Nat → Prop} {s : AS} {m : Mp} {w : World} {mask nt : Nat} {vars loc : L} {ds : DS} {a : Act} {Q : Exit → Act → World → Prop}
def resStep (tmps : Array Value) : ResultVar → Sem Value
  | .tmp t => pure (tmps.getD t undef)
  | .cell a t => do loadVar t (← asAddr (tmps.getD a undef))
theorem resL_cons (P : Program) (mask : Nat) (vars loc : L) (s : AS) (r : ResultVar) (l : List ResultVar) : resL P mask vars loc s (r :: l) = match resL P mask vars loc s l with
    | none => none
    | some vs => match r with
      | .tmp t => some ((opd mask (.tmp t)).get vars loc :: vs)
      | .cell a t => (match tkind P t with
        | .one => (match load1 ((opd mask (.tmp a)).get vars loc) s with | .ok v => some (v :: vs) | .fail _ => none)
        | .agg n => (match loadN n ((opd mask (.tmp a)).get vars loc) s with | .ok v => some (v :: vs) | .fail _ => none)
        | .bad => none) := rfl
theorem resL_ok (hR : Rel P B W0 pend s m w) (hF : FRel mask nt m s.dead vars loc ds a) : ∀ (l : List ResultVar) (vs : List Value), resL P mask vars loc s l = some vs → ∃ us, (l.mapM (resStep a.tmps)).run P w = .ok us w ∧ LRel m s.dead vs us := by
  intro l
  induction l with
  | nil => intro vs h; cases h; exact ⟨[], rfl, .nil⟩
  | cons r l ih =>
    intro vs h
    rw [resL_cons] at h
    cases hr : resL P mask vars loc s l with
    | none => rw [hr] at h; cases h
    | some ws =>
      rw [hr] at h
      obtain ⟨us, h1, h2⟩ := ih ws hr
      have fin : ∀ v, vs = v :: ws → (∃ u, (resStep a.tmps r).run P w = .ok u w ∧ VRel m s.dead v u) → ∃ us, ((r :: l).mapM (resStep a.tmps)).run P w = .ok us w ∧ LRel m s.dead vs us := by
        rintro v rfl ⟨u, g1, g2⟩
        exact ⟨u :: us, by simp [List.mapM_cons, g1, h1], LRel.cons g2 h2⟩
      cases r with
      | tmp t => cases h; exact fin _ rfl ⟨_, rfl, hF.tm t⟩
      | cell b t =>
        simp only at h
        have ht := hF.tm b
        split at h
        · rename_i hk
          split at h
          · rename_i v hv
            cases h
            obtain ⟨c, off, y, e1, e2, e3⟩ := load1_ok hR hk ht hv
            exact fin _ rfl ⟨y, by simp only [resStep, e1, asAddr, Sem.run_bind, Sem.run_pure, Result.andThen_ok, e2], e3⟩
          · cases h
        · rename_i n hk
          split at h
          · rename_i v hv
            cases h
            obtain ⟨c, off, y, e1, e2, e3⟩ := loadN_ok hR hk ht hv
            exact fin _ rfl ⟨y, by simp only [resStep, e1, asAddr, Sem.run_bind, Sem.run_pure, Result.andThen_ok, e2], e3⟩
          · cases h
        · cases h
theorem results_def (fn : Func) (tmps : Array Value) : results fn tmps = (do
    let vs ← fn.results.toList.mapM (resStep tmps)
    pure (if h : vs.toArray.size = 1 then vs.toArray[0] else .tuple vs.toArray)) := by
  have h : results fn tmps = (do
      let vs ← fn.results.mapM (resStep tmps)
      pure (if h : vs.size = 1 then vs[0] else .tuple vs)) := by
    unfold results
    congr 1
  rw [h, Array.mapM_eq_mapM_toList]
  simp
/-- What a function hands. -/
theorem resOf_ok (hR : Rel P B W0 pend s m w) (hF : FRel mask nt m s.dead vars loc ds a) {fn : Func} : match resOf P mask fn vars loc s with
    | .ret v s' => s' = s ∧ ∃ u, (results fn a.tmps).run P w = .ok u w ∧ VRel m s.dead v u
    | .panic _ _ => False
    | .fail _ => True := by
  have key : ∀ vs, resL P mask vars loc s fn.results.toList = some vs → ∃ us : List Value, vs.length = us.length ∧ LRel m s.dead vs us ∧ (results fn a.tmps).run P w = .ok (if h : us.toArray.size = 1 then us.toArray[0] else .tuple us.toArray) w := by
    intro vs h
    obtain ⟨us, h1, h2⟩ := resL_ok hR hF _ vs h
    refine ⟨us, h2.1, h2, ?_⟩
    rw [results_def]
    simp only [Sem.run_bind, h1, Result.andThen_ok, Sem.run_pure]
  unfold resOf
  cases hv : resL P mask vars loc s fn.results.toList with
  | none => trivial
  | some vs =>
    obtain ⟨us, h1, h2, h3⟩ := key _ hv
    have many : (∀ v, vs ≠ [v]) → ∃ u, (results fn a.tmps).run P w = .ok u w ∧ VRel m s.dead (.tuple vs.toArray) u := by
      intro hne
      refine ⟨.tuple us.toArray, ?_, vrel_tuple (by simpa using h2)⟩
      rw [h3, dif_neg]
      intro h
      have : us.length = 1 := by simpa using h
      match vs, h1, hne with
      | [v], _, hne => exact hne v rfl
      | [], h1, _ => simp at h1; omega
      | _ :: _ :: _, h1, _ => simp at h1; omega
    match vs, h1, h2, many with
    | [v], h1, h2, _ =>
      obtain ⟨u, us', rfl, g1, g2⟩ := h2.inv_cons
      have := g2.inv_nil; subst this
      exact ⟨rfl, u, by rw [h3]; simp, g1⟩
    | [], _, _, many => exact ⟨rfl, many (fun v h => by cases h)⟩
    | _ :: _ :: _, _, _, many => exact ⟨rfl, many (fun v h => by cases h)⟩
theorem argsL_get (args : List Value) : ∀ (i t : Nat), lkL t ((List.rec (motive := fun _ => Nat → L) (fun _ => .nil) (fun v _ ih i => .cons i v (ih (Nat.add i 1))) args) i) poison = if i ≤ t then (args[t - i]?).getD poison else poison := by
  induction args with
  | nil => intro i t; show poison = _; split <;> simp
  | cons v args ih =>
    intro i t
    show lkL t (.cons i v ((List.rec (motive := fun _ => Nat → L) (fun _ => .nil) (fun v _ ih i => .cons i v (ih (Nat.add i 1))) args) (i + 1))) poison = _
    rw [lkL_cons, ih]
    by_cases h : t = i
    · subst h; simp
    · rw [if_neg h]
      by_cases h1 : i + 1 ≤ t
      · rw [if_pos h1, if_pos (by omega)]
        have : t - i = (t - (i + 1)) + 1 := by omega
        rw [this, List.getElem?_cons_succ]
      · rw [if_neg h1, if_neg (by omega)]
/-- The frame at a function's begin. -/
theorem begin_ok {dead : Nat → Prop} {args : List Value} {us : Array Value} (ha : LRel m dead args us.toList) : FRel mask nt m dead (argsL args) .nil [] { tmps := us ++ Array.replicate (nt - us.size) undef, defers := [] } := by
  refine ⟨fun t => ?_, by simp; omega, .nil⟩
  rw [opd_tmp]
  split
  · have := argsL_get args 0 t
    rw [show lkL t (argsL args) poison = _ from this, if_pos (Nat.zero_le t), Nat.sub_zero]
    cases hx : args[t]? with
    | none => exact .poison _
    | some v =>
      obtain ⟨u, h1, h2⟩ := ha.get hx
      have hlt : t < us.size := by have := (List.getElem?_eq_some_iff.1 h1).1; simpa using this
      have : (us ++ Array.replicate (nt - us.size) undef).getD t undef = u := by
        rw [Array.getD_eq_getD_getElem?, Array.getElem?_append, if_pos hlt]
        have : us[t]? = some u := by simpa using h1
        rw [this]; rfl
      simp only [this]
      exact h2
  · exact .poison _
theorem DsR.nil_inv {dead : Nat → Prop} {l : List Deferred} (h : DsR m dead [] l) : l = [] := by cases h; rfl
/-- Whether a panic is on. -/
inductive PVR (m : Mp) (dead : Nat → Prop) : PV → FrameMode → Prop
  | none : PVR m dead .none .returning
  | some (v u : Value) (h : VRel m dead v u) : PVR m dead (.some v) (.panicking [{ v := u, recovered := false }])
theorem PVR.mono {m m' : Mp} {dead dead' : Nat → Prop} (hm : ∀ b x, m b = Option.some x → m' b = Option.some x) (hd : ∀ b, dead b → dead' b) {v : PV} {u : FrameMode} (h : PVR m dead v u) : PVR m' dead' v u := by
  cases h with
  | none => exact .none
  | some v u h => exact .some v u (h.mono hm hd)
theorem isRecover_ok {ops : Array Oper} {dst : Option Tmp} (h : isRecover ops = some dst) : ∃ c type pos after, ops = #[⟨dst, .call c, type, pos, after, none⟩] ∧ c.callee = .builtin .recover := by
  unfold isRecover at h
  split at h
  · rename_i d c t p af hl
    split at h
    · rename_i hc
      cases h
      exact ⟨c, t, p, af, arr1 hl, hc⟩
    · cases h
  · cases h
theorem dkind_ok {f : FuncId} {n : Nat} {dst : Option Tmp} {rest : Code} (h : dkind P f = .ok n dst rest) : ∃ fn id c type pos after, P.funcs[f]? = some fn ∧ fn.results = #[] ∧ fn.ntmps = n ∧
    fn.body = some (.seq (.region id #[⟨dst, .call c, type, pos, after, none⟩] false) rest) ∧ c.callee = .builtin .recover := by
  unfold dkind at h
  split at h
  · rename_i fn hf
    split at h
    · rename_i hr
      split at h
      · rename_i id ops rest' hb
        split at h
        · rename_i d hd
          cases h
          obtain ⟨c, t, p, af, rfl, hc⟩ := isRecover_ok hd
          exact ⟨fn, id, c, t, p, af, hf, Array.ext' hr, rfl, hb, hc⟩
        · cases h
      · cases h
    · cases h
  · cases h
/-- A deferred call. -/
theorem aDefer_ok (hG : Good P) (hD : DrawS P B W0) {cf : CF} (hcf : CFS P B W0 cf) {masks : Nat → Nat} {lf : Nat} (hR : Rel P B W0 pend s m w) {f : FuncId} {args : List Value} {us : Array Value} (ha : LRel m s.dead args us.toList)
    {pv : PV} {u : FrameMode} (hp : PVR m s.dead pv u) {s' : AS} (h : aDefer P masks cf lf f args pv.val s = .ok s') :
    CallsDIn (fen none) 0 P f us u w fun e u' w' => (∃ v, e = .returned v) ∧ settle u' = .returning ∧ ∃ m', Rel P B W0 pend s' m' w' ∧ Ext s m s' m' := by
  unfold aDefer at h
  split at h
  · rename_i n dst rest hk
    obtain ⟨fn, id, c, type, pos, after, hf, hres, rfl, hb, hc⟩ := dkind_ok hk
    cases hck : bif' (Nat.ble (lenK args) fn.ntmps) (bitsTo (masks f) (lenK args)) false with
    | false => rw [hck] at h; cases h
    | true =>
      rw [hck] at h
      have h' : deferOut ((putK (masks f) fn.ntmps dst).run (codeK P (masks f) fn.ntmps lf rest).run cf (argsL args) .nil [] s pv.val) = .ok s' := h
      refine callsDIn_of_wpSIn hf hb trivial fun c₀ cs hm => wpSIn_seq (wpSIn_region ?_)
      have hF0 : FRel (masks f) fn.ntmps m s.dead (argsL args) .nil [] { tmps := us ++ Array.replicate (fn.ntmps - us.size) undef, defers := [] } := begin_ok ha
      have hrec : ∀ a : Act, (execOp a.eval ⟨dst, .call c, type, pos, after, none⟩).run P w = .ok .recover w := by
        intro a
        obtain ⟨callee, cargs, at'⟩ := c
        simp only at hc
        subst hc
        rfl
      -- what the first operation hands, and how the frames lie behind it
      have step : ∃ (cv : Value) (u' : FrameMode), settle u' = .returning ∧ VRel m s.dead pv.val cv ∧
          (match recoverD (c₀ :: cs) with | some (v, cs') => v = cv ∧ cs' = { c₀ with mode := u' } :: cs | none => cv = .nilIface ∧ c₀ :: cs = { c₀ with mode := u' } :: cs) := by
        cases hp with
        | none => exact ⟨.nilIface, .returning, rfl, .flat _ rfl, by
          have e : recoverD (c₀ :: cs) = none := by simp only [recoverD, hm]
          rw [e]; exact ⟨rfl, by rw [← hm]⟩⟩
        | some v x hx => exact ⟨x, .panicking [{ v := x, recovered := true }], rfl, hx, by
          have e : recoverD (c₀ :: cs) = Option.some (x, { c₀ with mode := .panicking [{ v := x, recovered := true }] } :: cs) := by simp only [recoverD, hm]
          rw [e]; exact ⟨rfl, rfl⟩⟩
      obtain ⟨cv, u', hset, hcv, hstep⟩ := step
      -- the rest
      have fin : ∀ a : Act, (∃ vars loc, FRel (masks f) fn.ntmps m s.dead vars loc [] a ∧ (codeK P (masks f) fn.ntmps lf rest).run cf vars loc [] s = (putK (masks f) fn.ntmps dst).run (codeK P (masks f) fn.ntmps lf rest).run cf (argsL args) .nil [] s pv.val) →
          rest.wpSIn (fen none) 0 P (bodyPostS P fn c₀ cs fun e u' w' => (∃ v, e = .returned v) ∧ settle u' = .returning ∧ ∃ m', Rel P B W0 pend s' m' w' ∧ Ext s m s' m') a ({ c₀ with mode := u' } :: cs) w := by
        rintro a ⟨vars, loc, hF, hrun⟩
        refine wpSIn_of_wpIn rfl (code_ok (lf := lf) hG hD hcf rest none 0 (.inl rfl) pend vars loc [] s m w a _ hR hF ?_)
        rw [hrun]
        have hresr : ∀ (a' : Act) (w' : World), (results fn a'.tmps).run P w' = .ok (.tuple #[]) w' := by
          intro a' w'; rw [results_def, hres]; rfl
        generalize (putK (masks f) fn.ntmps dst).run (codeK P (masks f) fn.ntmps lf rest).run cf (argsL args) .nil [] s pv.val = out at h'
        cases out with
        | normal v l d s1 =>
          cases d with
          | cons _ _ => cases h'
          | nil =>
            cases h'
            intro m' a' w' h1 h2 h3
            have hd : a'.defers = [] := h3.df.nil_inv
            exact ⟨hd, u', rfl, _, hresr a' w', ⟨_, rfl⟩, hset, m', h1, h2⟩
        | ret v l d s1 =>
          cases d with
          | cons _ _ => cases h'
          | nil =>
            cases h'
            intro m' a' w' h1 h2 h3
            have hd : a'.defers = [] := h3.df.nil_inv
            exact ⟨hd, u', rfl, _, hresr a' w', ⟨_, rfl⟩, hset, m', h1, h2⟩
        | _ => cases h'
      have hF1 : ∃ vars loc, FRel (masks f) fn.ntmps m s.dead vars loc [] (({ tmps := us ++ Array.replicate (fn.ntmps - us.size) undef, defers := [] } : Act).put dst cv) ∧
          (codeK P (masks f) fn.ntmps lf rest).run cf vars loc [] s = (putK (masks f) fn.ntmps dst).run (codeK P (masks f) fn.ntmps lf rest).run cf (argsL args) .nil [] s pv.val := by
        rcases put_eq hF0 hcv dst (codeK P (masks f) fn.ntmps lf rest).run cf s with ⟨x, hx⟩ | ⟨v', l', h1, h2⟩
        · rw [hx] at h'; cases h'
        · exact ⟨v', l', h2, h1.symm⟩
      have hsize : List.range (#[(⟨dst, .call c, type, pos, after, none⟩ : Oper)]).size = [0] := rfl
      rw [hsize]
      have h0 : (#[(⟨dst, .call c, type, pos, after, none⟩ : Oper)])[0]? = some ⟨dst, .call c, type, pos, after, none⟩ := rfl
      have hw0 : ∀ y, Region.wanted (⟨dst, .call c, type, pos, after, none⟩ : Oper) y = true := fun y => rfl
      simp only [wpOpsSIn, h0, hw0, if_true, hrec]
      refine ⟨fun _ _ => trivial, ?_⟩
      cases hr : recoverD (c₀ :: cs) with
      | none =>
        rw [hr] at hstep
        obtain ⟨rfl, e⟩ := hstep
        simp only
        rw [e]
        exact fin _ hF1
      | some x =>
        obtain ⟨x1, x2⟩ := x
        rw [hr] at hstep
        obtain ⟨rfl, rfl⟩ := hstep
        exact fin _ hF1
  · cases h
theorem runDefers_cons (P : Program) (masks : Nat → Nat) (cf : CF) (lf : Nat) (d : FuncId × List Value) (ds : DS) (pv : PV) (s : AS) : runDefers P masks cf lf (d :: ds) pv s = if d.1 = markId then (match markDefer d.2 s with
    | .ok s' => runDefers P masks cf lf ds pv s'
    | .fail w => .fail w) else match aDefer P masks cf lf d.1 d.2 pv.val s with
    | .ok s' => runDefers P masks cf lf ds .none s'
    | .fail w => .fail w := by
  show @Bool.rec (fun _ => RD) (match aDefer P masks cf lf d.1 d.2 pv.val s with
    | .ok s' => runDefers P masks cf lf ds .none s'
    | .fail w => .fail w) (markNext pv (runDefers P masks cf lf ds) (markDefer d.2 s)) (Nat.beq d.1 markId) = _
  by_cases h : d.1 = markId
  · rw [if_pos h, show Nat.beq d.1 markId = true from by rw [Nat.beq_eq]; exact h]
    cases markDefer d.2 s <;> rfl
  · rw [if_neg h, show Nat.beq d.1 markId = false from by rw [← Bool.not_eq_true, Nat.beq_eq]; exact h]
/-- The deferred calls of a range's rounds are taken over: there is none. -/
theorem markDefer_ok (hR : Rel P B W0 pend s m w) {b D N z : Nat} (hm : m b = some (D, N, z)) {s' : AS} (h : markDefer [.map (some b)] s = .ok s') :
    ∃ w', (Instr.takeDeferred D).run P w = .ok [] w' ∧ Rel P B W0 pend s' m w' ∧ Ext s m s' m := by
  have h' : (match s.get b with | some (.df false) => DR.ok (s.put b (.df true)) | _ => .fail "mark") = .ok s' := h
  split at h'
  · rename_i hg
    cases h'
    obtain ⟨c, hd⟩ := hR.live b _ hg (hR.not_pend hm)
    obtain ⟨N', z', hmb⟩ := hd.mb
    rw [hm] at hmb
    cases hmb
    have hc : w.heap[D]? = some (.deferred (some [])) := hd.hc
    have hlt : D < w.heap.size := (Array.getElem?_eq_some_iff.1 hc).1
    have hnd : ¬ s.dead b := by simp [AS.dead, hg]
    refine ⟨{ w with heap := w.heap.setIfInBounds D (.deferred none) }, ?_, ?_, Ext.put hR hnd _ (fun k hk => by rw [hg] at hk; cases hk)⟩
    · simp [Instr.takeDeferred, getObj, setObj, Sem.run, hc]
    · exact hR.setBlock (ob := .deferred none) hm hnd hd.fr _ (by simp) (by simp [hlt]) (fun k hk => by simp [Ne.symm hk]) (by simp) rfl rfl ⟨D, ⟨_, _, hm⟩, by simp [hlt], hd.fr⟩
  · cases h'
theorem PVR.run {dead : Nat → Prop} {pv : PV} {u : FrameMode} (h : PVR m dead pv u) : u ≠ .run := by cases h <;> (intro h; cases h)
theorem dkind_body {f : FuncId} {n : Nat} {dst : Option Tmp} {rest : Code} (h : dkind P f = .ok n dst rest) : ∃ fn c, P.funcs[f]? = some fn ∧ fn.body = some c := by
  obtain ⟨fn, id, c, type, pos, after, hf, hres, rfl, hb, hc⟩ := dkind_ok h
  exact ⟨fn, _, hf, hb⟩
theorem aDefer_body {cf : CF} {masks : Nat → Nat} {lf : Nat} {f : FuncId} {args : List Value} {x : Value} {s' : AS} (h : aDefer P masks cf lf f args x s = .ok s') : ∃ fn c, P.funcs[f]? = some fn ∧ fn.body = some c := by
  unfold aDefer at h
  split at h
  · rename_i n dst rest hk; exact dkind_body hk
  · cases h
/-- The calls that were put off. -/
theorem runDefers_ok (hG : Good P) (hD : DrawS P B W0) {cf : CF} (hcf : CFS P B W0 cf) {masks : Nat → Nat} {lf : Nat} {fn : Func} {tmps : Array Value} {R : Ending → World → Prop} {pv' : PV} {s' : AS} : ∀ (ds : DS) (defers : List Deferred) (pv : PV) (u : FrameMode) (s : AS) (m : Mp) (w : World),
    DsR m s.dead ds defers → Rel P B W0 pend s m w → PVR m s.dead pv u → runDefers P masks cf lf ds pv s = .ok pv' s' →
    (∀ m' w' u', Rel P B W0 pend s' m' w' → Ext s m s' m' → PVR m' s'.dead pv' u' → LeavesInM (fen none) 0 P fn tmps R [] u' w') → LeavesInM (fen none) 0 P fn tmps R defers u w := by
  intro ds
  induction ds with
  | nil =>
    intro defers pv u s m w hd hR hp h hfin
    cases h
    rw [hd.nil_inv]
    exact hfin m w u hR (Ext.refl _ _) hp
  | cons d ds ih =>
    intro defers pv u s m w hd hR hp h hfin
    rw [runDefers_cons] at h
    cases hd with
    | cons _ e _ es he hes =>
      obtain ⟨hmk, cap, ht, hl⟩ := he
      · rw [if_neg hmk] at h
        cases hx : aDefer P masks cf lf d.1 d.2 pv.val s with
        | fail _ => rw [hx] at h; cases h
        | ok s1 =>
          rw [hx] at h
          obtain ⟨fb, c, hf, hb⟩ := aDefer_body hx
          have hl' : LRel m s.dead d.2 (e.args ++ cap).toList := by rw [Array.toList_append]; exact hl
          have hcall := aDefer_ok hG hD hcf hR hl' hp hx
          obtain ⟨tg, eargs⟩ := e
          simp only at ht
          subst ht
          refine ⟨hp.run, .inr ⟨fun h => (by cases h), _, _, _, _, rfl, callFunc_go hG hf hb (eargs ++ cap) w, fun _ _ => trivial, CallsDIn.mono hcall ?_⟩⟩
          rintro en u' w' ⟨⟨v, rfl⟩, hset, m', hR', hE⟩
          simp only
          rw [hset]
          exact ih es .none .returning s1 m' w' (hes.mono hE.mp hE.dead) hR' .none h (fun m2 w2 u2 h1 h2 h3 => hfin m2 w2 u2 h1 (hE.trans h2) h3)
    | mark b D N z _ es hm hes =>
      rw [if_pos rfl] at h
      cases hx : markDefer [.map (some b)] s with
      | fail _ => simp only [hx] at h; cases h
      | ok s1 =>
        simp only [hx] at h
        obtain ⟨w1, h1, h2, h3⟩ := markDefer_ok hR hm hx
        refine ⟨hp.run, .inl ⟨D, w1, rfl, h1, ?_⟩⟩
        exact ih es pv u s1 m w1 (hes.mono h3.mp h3.dead) h2 (hp.mono h3.mp h3.dead) h (fun m2 w2 u2 g1 g2 g3 => hfin m2 w2 u2 g1 (h3.trans g2) g3)
/-- A CALL. -/
theorem fn_ok (hG : Good P) (hD : DrawS P B W0) {cf : CF} (hcf : CFS P B W0 cf) {masks : Nat → Nat} {lf : Nat} : CallS P B W0 fun f args s => (fnK P masks lf f).run cf args s := by
  intro pend s m w f args us hR ha
  cases hf : P.funcs[f]? with
  | none => simp only [fnK, hf]
  | some fn =>
    cases hb : fn.body with
    | none => simp only [fnK, hf, hb]
    | some c =>
      simp only [fnK, hf, hb]
      cases hck : bif' (Nat.ble (lenK args) fn.ntmps) (bitsTo (masks f) (lenK args)) false with
      | false => exact True.intro
      | true =>
        have hF := begin_ok (nt := fn.ntmps) (mask := masks f) ha
        have key : ∀ (R : Ending → World → Prop), OS P B W0 pend (masks f) fn.ntmps s m ((codeK P (masks f) fn.ntmps lf c).run cf (argsL args) .nil [] s) (bodyPostM (fen none) 0 P fn R) → Calls P f us w R :=
          fun R h => callsIn_fen.1 (callsIn_of_wp_marks (F := fen none) (n := 0) hf hb trivial (code_ok hG hD hcf c none 0 (.inl rfl) _ _ _ _ _ _ _ _ _ hR hF h))
        show match afterBody P masks (masks f) cf lf fn ((codeK P (masks f) fn.ntmps lf c).run cf (argsL args) .nil [] s) with
          | .ret v s' => ∀ R : Ending → World → Prop, (∀ m' w' u, Rel P B W0 pend s' m' w' → Ext s m s' m' → VRel m' s'.dead v u → R (.returned u) w') → Calls P f us w R
          | .panic v s' => ∀ R : Ending → World → Prop, (∀ m' w' u, Rel P B W0 pend s' m' w' → Ext s m s' m' → VRel m' s'.dead v u → R (.panicked [{ v := u, recovered := false }]) w') → Calls P f us w R
          | .fail _ => True
        generalize (codeK P (masks f) fn.ntmps lf c).run cf (argsL args) .nil [] s = out at key
        -- what follows on the body's end
        have fin : ∀ (vars loc : L) (ds : DS) (s1 : AS) (pv : PV), (∀ (R : Ending → World → Prop), (∀ m1 a1 w1 u, Rel P B W0 pend s1 m1 w1 → Ext s m s1 m1 → FRel (masks f) fn.ntmps m1 s1.dead vars loc ds a1 → PVR m1 s1.dead pv u → LeavesInM (fen none) 0 P fn a1.tmps R a1.defers u w1) → Calls P f us w R) →
            match finish P (masks f) fn vars loc (runDefers P masks cf lf ds pv s1) with
            | .ret v s' => ∀ R : Ending → World → Prop, (∀ m' w' u, Rel P B W0 pend s' m' w' → Ext s m s' m' → VRel m' s'.dead v u → R (.returned u) w') → Calls P f us w R
            | .panic v s' => ∀ R : Ending → World → Prop, (∀ m' w' u, Rel P B W0 pend s' m' w' → Ext s m s' m' → VRel m' s'.dead v u → R (.panicked [{ v := u, recovered := false }]) w') → Calls P f us w R
            | .fail _ => True := by
          intro vars loc ds s1 pv hk
          cases hr : runDefers P masks cf lf ds pv s1 with
          | fail _ => exact True.intro
          | ok pv' s2 =>
            cases pv' with
            | some v =>
              intro R hRf
              refine hk R fun m1 a1 w1 u h1 h2 h3 h4 => runDefers_ok hG hD hcf ds a1.defers pv u s1 m1 w1 h3.df h1 h4 hr fun m2 w2 u2 g1 g2 g3 => ?_
              cases g3 with
              | some _ x hx => exact hRf m2 w2 x g1 (h2.trans g2) hx
            | none =>
              simp only [finish]
              cases hres : resOf P (masks f) fn vars loc s2 with
              | fail _ => exact True.intro
              | panic v s3 =>
                exfalso
                unfold resOf at hres
                split at hres <;> cases hres
              | ret v s3 =>
                intro R hRf
                refine hk R fun m1 a1 w1 u h1 h2 h3 h4 => runDefers_ok hG hD hcf ds a1.defers pv u s1 m1 w1 h3.df h1 h4 hr fun m2 w2 u2 g1 g2 g3 => ?_
                cases g3 with
                | none =>
                  have hro := resOf_ok (fn := fn) g1 (h3.mono g2.mp g2.dead)
                  rw [hres] at hro
                  obtain ⟨rfl, x, hx1, hx2⟩ := hro
                  exact ⟨x, hx1, hRf m2 w2 x g1 (h2.trans g2) hx2⟩
        cases out with
        | normal vars loc ds s1 => exact fin vars loc ds s1 .none fun R h => key R fun m1 a1 w1 h1 h2 h3 => h m1 a1 w1 .returning h1 h2 h3 .none
        | ret vars loc ds s1 => exact fin vars loc ds s1 .none fun R h => key R fun m1 a1 w1 h1 h2 h3 => h m1 a1 w1 .returning h1 h2 h3 .none
        | panic v vars loc ds s1 => exact fin vars loc ds s1 (.some v) fun R h => key R fun m1 a1 w1 u h1 h2 h3 h4 => h m1 a1 w1 _ h1 h2 h3 (.some v u h4)
        | exit _ _ _ _ _ => exact True.intro
        | fail _ => exact True.intro
theorem putAll_nil (mask nt : Nat) (args : List Value) (vars : L) : putAll mask nt [] args vars = match args with | [] => some vars | _ :: _ => none := by cases args <;> rfl
theorem putAll_cons (mask nt : Nat) (p : Tmp) (ps : List Tmp) (args : List Value) (vars : L) : putAll mask nt (p :: ps) args vars = match args with
    | [] => none
    | x :: r => if bit mask p = true ∧ p < nt then putAll mask nt ps r (setL p x vars) else none := by
  cases args with
  | nil => rfl
  | cons x r =>
    show bif' (bif' (bit mask p) (Nat.ble (Nat.add p 1) nt) false) (putAll mask nt ps r (setL p x vars)) none = _
    simp only [bif', brec]
    cases hb : bit mask p with
    | false => simp
    | true =>
      simp only [if_true, true_and, Nat.ble_eq]
      rfl
theorem putAll_ok {dead : Nat → Prop} : ∀ (ps : List Tmp) (args us : List Value) (vars vars' : L) (tmps : Array Value), putAll mask nt ps args vars = some vars' → LRel m dead args us → (∀ t, VRel m dead ((opd mask (.tmp t)).get vars .nil) (tmps.getD t undef)) → nt ≤ tmps.size →
    ps.length = us.length ∧ (∀ t, VRel m dead ((opd mask (.tmp t)).get vars' .nil) (((ps.zip us).foldl (fun tmps (q : Tmp × Value) => tmps.setIfInBounds q.1 q.2) tmps).getD t undef)) ∧ nt ≤ ((ps.zip us).foldl (fun tmps (q : Tmp × Value) => tmps.setIfInBounds q.1 q.2) tmps).size := by
  intro ps
  induction ps with
  | nil =>
    intro args us vars vars' tmps h hl ht hs
    rw [putAll_nil] at h
    split at h
    · cases h
      rw [hl.inv_nil]
      exact ⟨rfl, ht, hs⟩
    · cases h
  | cons p ps ih =>
    intro args us vars vars' tmps h hl ht hs
    rw [putAll_cons] at h
    split at h
    · cases h
    · rename_i x r
      split at h
      · rename_i hp
        obtain ⟨u, us, rfl, h1, h2⟩ := hl.inv_cons
        have hlt : p < tmps.size := Nat.lt_of_lt_of_le hp.2 hs
        obtain ⟨g1, g2, g3⟩ := ih r us (setL p x vars) vars' (tmps.setIfInBounds p u) h h2 (fun t => by
          have := ht t
          rw [opd_tmp] at this ⊢
          rw [put_getD _ _ _ _ hlt]
          by_cases e : t = p
          · subst e; rw [if_pos hp.1, lkL_setL, if_pos rfl, if_pos rfl]; exact h1
          · rw [if_neg e, lkL_setL, if_neg e]; exact this) (by simpa using hs)
        exact ⟨by simp [g1], g2, g3⟩
      · cases h
theorem endRound_inv (b : Nat) (out : Out) : (∃ x, endRound b out = .fail x) ∨ ∃ vars loc ds s k, out = .normal vars loc ds s ∧ s.get b = some (.lp k) ∧ endRound b out = .ret (.bool true) (s.put b (.lp (k.to 0))) := by
  cases out with
  | normal vars loc ds s =>
    cases hg : s.get b with
    | none => exact .inl ⟨_, by simp only [endRound, hg]; rfl⟩
    | some o =>
      cases o with
      | lp k => exact .inr ⟨vars, loc, ds, s, k, rfl, hg, by simp only [endRound, hg]⟩
      | _ => exact .inl ⟨_, by simp only [endRound, hg]; rfl⟩
  | _ => exact .inl ⟨_, rfl⟩
theorem midRound_inv (b : Nat) (body : K) (cf : CF) (out : Out) : (∃ x, midRound b body cf out = .fail x) ∨ ∃ vars loc ds s k, out = .normal vars loc ds s ∧ s.get b = some (.lp k) ∧ k.st = 0 ∧ midRound b body cf out = endRound b (body.run cf vars loc ds (s.put b (.lp (k.to 1)))) := by
  cases out with
  | normal vars loc ds s =>
    cases hg : s.get b with
    | none => exact .inl ⟨_, by simp only [midRound, hg]; rfl⟩
    | some o =>
      cases o with
      | lp k =>
        by_cases h0 : k.st = 0
        · exact .inr ⟨vars, loc, ds, s, k, rfl, hg, h0, by simp only [midRound, hg, bif', brec, Nat.beq_eq, if_pos h0]⟩
        · exact .inl ⟨_, by simp only [midRound, hg, bif', brec, Nat.beq_eq, if_neg h0]; rfl⟩
      | _ => exact .inl ⟨_, by simp only [midRound, hg]; rfl⟩
  | _ => exact .inl ⟨_, rfl⟩
theorem roundK_inv (mask nt : Nat) (ps : List Tmp) (vars : L) (assign body : K) (cf : CF) (b : Nat) (args : List Value) (s : AS) : (∃ x, roundK mask nt ps vars assign body cf b args s = .fail x) ∨ ∃ vars', putAll mask nt ps args vars = some vars' ∧ roundK mask nt ps vars assign body cf b args s = midRound b body cf (assign.run cf vars' .nil [] s) := by
  cases h : putAll mask nt ps args vars with
  | none => exact .inl ⟨_, by simp only [roundK, h]; rfl⟩
  | some vars' => exact .inr ⟨vars', rfl, by simp only [roundK, h]⟩
theorem yldK_inv (P : Program) (lf : Nat) (cf : CF) (b : Nat) (args : List Value) (s : AS) : (∃ x, yldK P lf cf b args s = .fail x) ∨ ∃ k, s.get b = some (.lp k) ∧ plainC k.assign = true ∧ plainC k.body = true ∧
    yldK P lf cf b args s = roundK k.mask k.nt k.params k.vars (codeK P k.mask k.nt lf k.assign) (codeK P k.mask k.nt lf k.body) cf b args s := by
  cases hg : s.get b with
  | none => exact .inl ⟨_, by simp only [yldK, hg]; rfl⟩
  | some o =>
    cases o with
    | lp k =>
      cases h1 : plainC k.assign with
      | false => exact .inl ⟨_, by simp only [yldK, hg, h1]; rfl⟩
      | true =>
        cases h2 : plainC k.body with
        | false => exact .inl ⟨_, by simp only [yldK, hg, h1, h2]; rfl⟩
        | true => exact .inr ⟨k, rfl, h1, h2, by simp only [yldK, hg, h1, h2]⟩
    | _ => exact .inl ⟨_, by simp only [yldK, hg]; rfl⟩
/-- A ROUND. -/
theorem yld_ok (hG : Good P) (hD : DrawS P B W0) {cf : CF} (hcf : CFS P B W0 cf) {lf : Nat} (b : Nat) : YldS P B W0 b (yldK P lf cf b) := by
  intro pend s m w args us l N z hR hm hl
  rcases yldK_inv P lf cf b args s with ⟨x, hx⟩ | ⟨k, hg, hp1, hp2, hx⟩
  · rw [hx]; exact True.intro
  rcases roundK_inv k.mask k.nt k.params k.vars (codeK P k.mask k.nt lf k.assign) (codeK P k.mask k.nt lf k.body) cf b args s with ⟨x, hy⟩ | ⟨vars', hput, hy⟩
  · rw [hx, hy]; exact True.intro
  rcases midRound_inv b (codeK P k.mask k.nt lf k.body) cf ((codeK P k.mask k.nt lf k.assign).run cf vars' .nil [] s) with ⟨x, hz⟩ | ⟨vars1, loc1, ds1, s1, k1, ho, hg1, hst, hz⟩
  · rw [hx, hy, hz]; exact True.intro
  rcases endRound_inv b ((codeK P k.mask k.nt lf k.body).run cf vars1 loc1 ds1 (s1.put b (.lp (k1.to 1)))) with ⟨x, he⟩ | ⟨vars2, loc2, ds2, s2, k2, ho2, hg2, he⟩
  · rw [hx, hy, hz, he]; exact True.intro
  rw [hx, hy, hz, he]
  intro R hRR
  obtain ⟨r, hc, hB, hL⟩ := hR.loopAt hm hg
  obtain ⟨q1, q2, q3⟩ := putAll_ok (m := m) (dead := s.dead) k.params args us.toList k.vars vars' r.tmps hput hl hL.tm hL.sz
  have hyr := run_yield (P := P) (args := us) hc (by rw [← Array.length_toList, ← Array.length_toList, hL.params]; exact q1.symm)
  have hfold : (r.params.zip us).foldl (fun tmps (x : Tmp × Value) => tmps.setIfInBounds x.1 x.2) r.tmps = (k.params.zip us.toList).foldl (fun tmps (x : Tmp × Value) => tmps.setIfInBounds x.1 x.2) r.tmps := by
    rw [← Array.foldl_toList, Array.toList_zip, hL.params]
  refine ⟨r.fn, _, r.assign, r.body, w, hyr, ?_⟩
  have hF0 : FRel k.mask k.nt m s.dead vars' .nil [] { tmps := (r.params.zip us).foldl (fun tmps (x : Tmp × Value) => tmps.setIfInBounds x.1 x.2) r.tmps, defers := [] } :=
    ⟨fun t => by rw [hfold]; exact q2 t, by rw [hfold]; exact q3, .nil⟩
  refine roundIn_of_wpIn trivial ?_
  rw [hL.assign, hL.body]
  refine code_ok (lf := lf) hG hD hcf k.assign (some l) 0 (.inr hp1) pend vars' .nil [] s m w _ _ hR hF0 ?_
  rw [ho]
  intro m1 a1 w1 r1 x1 f1
  have hm1 := x1.mp _ _ hm
  obtain ⟨r', c1, B1, L1⟩ := r1.loopAt hm1 hg1
  obtain ⟨p1, p2⟩ := r1.putLoop hm1 hg1 c1 B1 L1 (st := 1) (ls := .busy) rfl
  refine ⟨_, run_beginRound c1 (by rw [L1.state, if_pos hst]), ?_⟩
  refine code_ok (lf := lf) hG hD hcf k.body (some l) 0 (.inr hp2) pend vars1 loc1 ds1 _ m1 _ a1 _ p1 (f1.mono p2.mp p2.dead) ?_
  rw [ho2]
  intro m2 a2 w2 r2 x2 f2
  have hm2 := x2.mp _ _ hm1
  obtain ⟨r'', c2, B2, L2⟩ := r2.loopAt hm2 hg2
  obtain ⟨p3, p4⟩ := r2.putLoop hm2 hg2 c2 B2 L2 (st := 0) (ls := .ready) rfl
  refine ⟨_, _, run_endRound none c2, ?_⟩
  have e : ({ r'' with state := LoopState.ready, pending := none } : Loop) = { r'' with state := .ready } := by
    rw [← L2.pending]
  show R (.returned (.bool true)) (w2.putObj l (.loop { r'' with state := LoopState.ready, pending := none }))
  rw [e]
  exact hRR m2 _ _ p3 (((x1.trans p2).trans x2).trans p4) (vrel_flat rfl)
theorem noCF_ok : CFS P B W0 noCF :=
  ⟨fun _ _ _ _ _ _ _ _ _ => True.intro, fun _ _ _ _ _ _ _ _ _ _ _ _ _ => True.intro⟩
theorem stepCF_ok (hG : Good P) (hD : DrawS P B W0) {cf : CF} (hcf : CFS P B W0 cf) {masks : Nat → Nat} {lf : Nat} : CFS P B W0 (stepCF P masks lf cf) :=
  ⟨fn_ok hG hD hcf, fun b => yld_ok hG hD hcf b⟩
theorem aCall_ok (hG : Good P) (hD : DrawS P B W0) {masks : Nat → Nat} {lf : Nat} : ∀ n, CFS P B W0 (aCall P masks lf n) := by
  intro n
  induction n with
  | zero => exact noCF_ok
  | succ n ih => exact stepCF_ok hG hD ih
end
end Go.Proofs.YtbbknbmmpkpgdaaGreatDoor.KAb
