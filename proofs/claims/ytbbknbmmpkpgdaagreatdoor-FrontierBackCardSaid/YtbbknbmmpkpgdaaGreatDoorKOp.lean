import Derived.Test.YtbbknbmmpkpgdaaGreatDoorKAct3
namespace Go.Proofs.YtbbknbmmpkpgdaaGreatDoor.KAb
/-- A call that is put off. -/
def DefR (m : Mp) (dead : Nat → Prop) (x : FuncId × List Value) (d : Deferred) : Prop := x.1 ≠ markId ∧ ∃ cap, d.target = .fn (.func x.1) cap ∧ LRel m dead x.2 (d.args.toList ++ cap.toList)
inductive DsR (m : Mp) (dead : Nat → Prop) : DS → List Deferred → Prop
  | nil : DsR m dead [] []
  | cons (x : FuncId × List Value) (d : Deferred) (xs : DS) (ds : List Deferred) (h : DefR m dead x d) (hs : DsR m dead xs ds) : DsR m dead (x :: xs) (d :: ds)
  | mark (b D N z : Nat) (xs : DS) (ds : List Deferred) (h : m b = some (D, N, z)) (hs : DsR m dead xs ds) : DsR m dead ((markId, [.map (some b)]) :: xs) ({ target := .collected D, args := #[] } :: ds)
theorem DsR.mono {m m' : Mp} {dead dead' : Nat → Prop} (hm : ∀ b x, m b = some x → m' b = some x) (hd : ∀ b, dead b → dead' b) {xs : DS} {ds : List Deferred} (h : DsR m dead xs ds) : DsR m' dead' xs ds := by
  induction h with
  | nil => exact .nil
  | cons x d xs ds h _ ih => exact .cons x d xs ds (let ⟨hn, c, h1, h2⟩ := h; ⟨hn, c, h1, h2.mono hm hd⟩) ih
  | mark b D N z xs ds h _ ih => exact .mark b D N z xs ds (hm _ _ h) ih
/-- A frame of the evaluator's and the machine's. -/
structure FRel (mask nt : Nat) (m : Mp) (dead : Nat → Prop) (vars loc : L) (ds : DS) (a : Act) : Prop where
  tm : ∀ t, VRel m dead ((opd mask (.tmp t)).get vars loc) (a.tmps.getD t undef)
  sz : nt ≤ a.tmps.size
  df : DsR m dead ds a.defers
theorem FRel.mono {mask nt : Nat} {m m' : Mp} {dead dead' : Nat → Prop} (hm : ∀ b x, m b = some x → m' b = some x) (hd : ∀ b, dead b → dead' b) {vars loc : L} {ds : DS} {a : Act} (h : FRel mask nt m dead vars loc ds a) : FRel mask nt m' dead' vars loc ds a :=
  ⟨fun t => (h.tm t).mono hm hd, h.sz, h.df.mono hm hd⟩
/-- What an operation of the evaluator's says the machine says, too. -/
def AR (P : Program) (B : Nat → Prop) (W0 : World) (pend : Nat → Prop) (s : AS) (m : Mp) (w : World) (r : R) (res : Result Next) : Prop := match r with
  | .val v s' => ∃ m' w' u, (res = .ok (.value u) w' ∨ (res = .ok .skip w' ∧ u = undef)) ∧ Rel P B W0 pend s' m' w' ∧ Ext s m s' m' ∧ VRel m' s'.dead v u
  | .enter f args s' => s' = s ∧ ∃ us : Array Value, res = .ok (.enter f us) w ∧ LRel m s.dead args us.toList
  | .defer f args s' => s' = s ∧ ∃ d, res = .ok (.defer d) w ∧ DefR m s.dead (f, args) d
  | .panic v s' => s' = s ∧ ∃ u, res = .halt (.panic u) w ∧ VRel m s.dead v u
  | .yield b args s' => s' = s ∧ ∃ (us : Array Value) (l N z : Nat), m b = some (l, N, z) ∧ res = (Instr.yield l us).run P w ∧ LRel m s.dead args us.toList
  | .fail _ => True
def COS (P : Program) (B : Nat → Prop) (W0 : World) (pend : Nat → Prop) (s : AS) (m : Mp) (w : World) (vars loc : L) (c : CO) (res : Result Next) : Prop := match c with
  | .val g => ∃ u, res = .ok (.value u) w ∧ VRel m s.dead (g vars loc) u
  | .look g => ∀ x, g vars loc s = .ok x → ∃ u, res = .ok (.value u) w ∧ VRel m s.dead x u
  | .act g => AR P B W0 pend s m w (g vars loc s) res
  | .recover => True
  | .bad _ => True
/-- What the program must be like: its functions without bodies are the model's. -/
structure Good (P : Program) : Prop where
  ng : ∀ (f : FuncId) (fn : Func), P.funcs[f]? = some fn → (fn.name == "runtime.NumGoroutine") = false
  esc : ∀ (f : FuncId) (fn : Func), P.funcs[f]? = some fn → fn.body = none → fn.name = "internal/abi.NoEscape" → Extern.findNext fn = none ∧ Extern.find fn = some Extern.AbiNoEscape.same
  mnz : ∀ (f : FuncId) (fn : Func), P.funcs[f]? = some fn → fn.body = none → fn.name = "internal/bytealg.MakeNoZero" → Extern.findNext fn = none ∧ Extern.find fn = some (Extern.BytealgMakeNoZero.makeNoZero fn.params fn.resultTypes)
  mixed : P.follows .mixedOrders = true
section
variable {P : Program} {B : Nat → Prop} {W0 : World} {pend : Nat → Prop} {s : AS} {m : Mp} {w : World} {mask nt : Nat} {vars loc : L} {ds : DS} {a : Act}

theorem opd_ok (hR : Rel P B W0 pend s m w) (hF : FRel mask nt m s.dead vars loc ds a) (x : Operand) : VRel m s.dead ((opd mask x).get vars loc) (a.eval x) := by
  cases x with
  | tmp t => exact hF.tm t
  | const v =>
    show VRel m s.dead ((@Bool.rec (fun _ => G) _ _ (flat v)).get vars loc) v
    cases hf : flat v with
    | true => exact vrel_flat hf
    | false => exact .poison v
  | global g =>
    show VRel m s.dead ((@Bool.rec (fun _ => G) _ _ (Nat.ble (Nat.add g 1) nGlob)).get vars loc) (.pointer (some ⟨g, 0, none⟩))
    cases hf : Nat.ble (Nat.add g 1) nGlob with
    | true =>
      obtain ⟨N, z, h⟩ := hR.glob g (by rw [Nat.ble_eq] at hf; exact hf)
      exact .ptr _ _ _ _ _ h
    | false => exact .poison _
  | func f => exact .func _ _ _ _ _ rfl (by simp) rfl (by simp) rfl
/-- The operands of an operation are known on both sides. -/
def OpR (m : Mp) (dead : Nat → Prop) (mask : Nat) (vars loc : L) (a : Act) (l : List Operand) : Prop := ∀ x ∈ l, VRel m dead ((opd mask x).get vars loc) (a.eval x)
theorem opds_ok {l : List Operand} (h : OpR m s.dead mask vars loc a l) : LRel m s.dead ((opds mask l).get vars loc) (l.map a.eval) := by
  induction l with
  | nil => exact .nil
  | cons x l ih => exact LRel.cons (h x (by simp)) (ih fun y hy => h y (by simp [hy]))
theorem opdp_ok {l : List (Nat × Operand)} (h : OpR m s.dead mask vars loc a (l.map (·.2))) : PRel m s.dead ((opdp mask l).get vars loc) (l.map fun p => (p.1, a.eval p.2)) := by
  induction l with
  | nil => exact .nil
  | cons x l ih => exact .cons _ _ _ _ _ (h x.2 (by simp)) (ih fun y hy => h y (by simp at hy ⊢; exact .inr hy))
theorem opdo_ok {o : Option Operand} (h : ∀ x, o = some x → VRel m s.dead ((opd mask x).get vars loc) (a.eval x)) : OV m s.dead ((opdo mask o).get vars loc) (o.map a.eval) := by
  cases o with
  | none => exact .no
  | some x => exact .yes _ _ (h x rfl)
theorem opds_array {l : Array Operand} (h : OpR m s.dead mask vars loc a l.toList) : LRel m s.dead ((opds mask l.toList).get vars loc) (l.map a.eval).toList := by
  rw [Array.toList_map]; exact opds_ok h
theorem VRel.func' {dead : Nat → Prop} {fn : Fn} (hn : isYield fn = false) {f c : List Value} {g d : Array Value} (h1 : LRel m dead f g.toList) (h2 : LRel m dead c d.toList) : VRel m dead (.func fn f.toArray c.toArray) (.func fn g d) :=
  .func _ _ _ _ _ (by simpa using h1.1) (fun i v u hv hu => h1.2 i v u (by simpa using hv) (by simpa using hu)) (by simpa using h2.1) (fun i v u hv hu => h2.2 i v u (by simpa using hv) (by simpa using hu)) hn

/-- A look, as an operation. -/
theorem look_val {r : V} {e : Sem Value} {x : Value} (h : LS P s m w r e) (hx : r = .ok x) : ∃ u, ((do pure (.value (← e)) : Sem Next)).run P w = .ok (.value u) w ∧ VRel m s.dead x u := by
  obtain ⟨u, h1, h2⟩ := h x hx
  exact ⟨u, by simp [h1], h2⟩
theorem act_val {r : R} {e : Sem Value} (h : AV P B W0 pend s m w r e) (hp : r.plain) : AR P B W0 pend s m w r ((do pure (.value (← e)) : Sem Next).run P w) := by
  cases r with
  | val v s' =>
    obtain ⟨m', w', u, h1, h2, h3, h4⟩ := h v s' rfl
    exact ⟨m', w', u, .inl (by simp [h1]), h2, h3, h4⟩
  | fail _ => trivial
  | _ => cases hp
theorem act_unit {r : R} {e : Sem Unit} (h : AU P B W0 pend s m w r e) (hp : r.plain) : AR P B W0 pend s m w r ((do e; pure .skip : Sem Next).run P w) := by
  cases r with
  | val v s' =>
    obtain ⟨rfl, m', w', h1, h2, h3⟩ := h v s' rfl
    exact ⟨m', w', undef, .inr ⟨by simp [h1], rfl⟩, h2, h3, vrel_flat rfl⟩
  | fail _ => trivial
  | _ => cases hp
end
end Go.Proofs.YtbbknbmmpkpgdaaGreatDoor.KAb
