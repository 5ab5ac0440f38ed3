import Derived.Test.YtbbknbmmpkpgdaaGreatDoorKOp4
import Derived.LoopN
import Derived.Defers
import Derived.Recover
import Derived.Laws.Entries
import Derived.CallsIn
import Derived.OrdersIn
import Derived.LoopNIn
import Derived.RangeFuncIn
namespace Go.Proofs.YtbbknbmmpkpgdaaGreatDoor.KAb
/-- What an outcome of the evaluator's asks of what follows. -/
def OS (P : Program) (B : Nat → Prop) (W0 : World) (pend : Nat → Prop) (mask nt : Nat) (s : AS) (m : Mp) (out : Out) (Q : Exit → Act → World → Prop) : Prop := match out with
  | .normal vars loc ds s' => ∀ m' a w, Rel P B W0 pend s' m' w → Ext s m s' m' → FRel mask nt m' s'.dead vars loc ds a → Q .normal a w
  | .exit id vars loc ds s' => ∀ m' a w, Rel P B W0 pend s' m' w → Ext s m s' m' → FRel mask nt m' s'.dead vars loc ds a → Q (.exit id) a w
  | .ret vars loc ds s' => ∀ m' a w, Rel P B W0 pend s' m' w → Ext s m s' m' → FRel mask nt m' s'.dead vars loc ds a → Q .ret a w
  | .panic v vars loc ds s' => ∀ m' a w u, Rel P B W0 pend s' m' w → Ext s m s' m' → FRel mask nt m' s'.dead vars loc ds a → VRel m' s'.dead v u → Q (.panic [{ v := u, recovered := false }]) a w
  | .fail _ => False
/-- The fence that lets in all; 'r': the round that the frame is of. -/
def fen (r : Option Nat) : Fence := { Fence.wide with round := r }
theorem callsIn_fen {r : Option Nat} {n : Nat} {P : Program} {f : FuncId} {args : Array Value} {w : World} {R : Ending → World → Prop} : CallsIn (fen r) n P f args w R ↔ Calls P f args w R := (callsIn_wide (n := n) : CallsIn Fence.wide n P f args w R ↔ _)
theorem wpIn_fen {n : Nat} {P : Program} {c : Code} {Q : Exit → Act → World → Prop} {a : Act} {w : World} : c.wpIn (fen none) n P Q a w ↔ c.wp P Q a w := wpIn_wide
theorem roundIn_fen {r : Option Nat} {n : Nat} {P : Program} {l : Nat} {f : FuncId} {tmps : Array Value} {assign body : Code} {w : World} {R : Ending → World → Prop} (h : RoundIn Fence.wide 0 P l f tmps assign body w R) : RoundIn (fen r) n P l f tmps assign body w R :=
  ⟨trivial, fun c cs _ => h.2 c cs (room_wide _)⟩
/-- What a call of the evaluator's says of the machine's. -/
def CallS (P : Program) (B : Nat → Prop) (W0 : World) (call : FuncId → List Value → AS → CRes) : Prop := ∀ (pend : Nat → Prop) (s : AS) (m : Mp) (w : World) (f : FuncId) (args : List Value) (us : Array Value),
  Rel P B W0 pend s m w → LRel m s.dead args us.toList → match call f args s with
  | .ret v s' => ∀ R : Ending → World → Prop, (∀ m' w' u, Rel P B W0 pend s' m' w' → Ext s m s' m' → VRel m' s'.dead v u → R (.returned u) w') → Calls P f us w R
  | .panic v s' => ∀ R : Ending → World → Prop, (∀ m' w' u, Rel P B W0 pend s' m' w' → Ext s m s' m' → VRel m' s'.dead v u → R (.panicked [{ v := u, recovered := false }]) w') → Calls P f us w R
  | .fail _ => True
/-- What a round of the evaluator's says of the machine's. -/
def YldS (P : Program) (B : Nat → Prop) (W0 : World) (b : Nat) (h : List Value → AS → CRes) : Prop := ∀ (pend : Nat → Prop) (s : AS) (m : Mp) (w : World) (args : List Value) (us : Array Value) (l N z : Nat),
  Rel P B W0 pend s m w → m b = some (l, N, z) → LRel m s.dead args us.toList → match h args s with
  | .ret v s' => ∀ R : Ending → World → Prop, (∀ m' w' u, Rel P B W0 pend s' m' w' → Ext s m s' m' → VRel m' s'.dead v u → R (.returned u) w') →
      ∃ f tmps assign body w1, (Instr.yield l us).run P w = .ok (.round l f tmps assign body) w1 ∧ RoundIn Fence.wide 0 P l f tmps assign body w1 R
  | .panic _ _ => False
  | .fail _ => True
structure CFS (P : Program) (B : Nat → Prop) (W0 : World) (cf : CF) : Prop where
  call : CallS P B W0 cf.call
  yld : ∀ b, YldS P B W0 b (cf.yld b)
section
variable {P : Program} {B : Nat → Prop} {W0 : World} {pend : Nat → Prop} {s : AS} {m : Mp} {w : World} {mask nt : Nat} {vars loc : L} {ds : DS} {a : Act} {Q : Exit → Act → World → Prop}
theorem OS.ext {s1 : AS} {m1 : Mp} (h : Ext s m s1 m1) {out : Out} (ho : OS P B W0 pend mask nt s m out Q) : OS P B W0 pend mask nt s1 m1 out Q := by
  cases out with
  | normal v l d s' => exact fun m' a w h1 h2 h3 => ho m' a w h1 (h.trans h2) h3
  | exit id v l d s' => exact fun m' a w h1 h2 h3 => ho m' a w h1 (h.trans h2) h3
  | ret v l d s' => exact fun m' a w h1 h2 h3 => ho m' a w h1 (h.trans h2) h3
  | panic x v l d s' => exact fun m' a w u h1 h2 h3 h4 => ho m' a w u h1 (h.trans h2) h3 h4
  | fail _ => exact ho
theorem lkL_nil (t : Nat) (d : Value) : lkL t .nil d = d := rfl
theorem lkL_cons (t k : Nat) (v : Value) (r : L) (d : Value) : lkL t (.cons k v r) d = if t = k then v else lkL t r d := by
  show @Bool.rec (fun _ => Value) (lkL t r d) v (Nat.beq t k) = _
  rw [brec]; simp only [Nat.beq_eq]
theorem setL_nil (t : Nat) (x : Value) : setL t x .nil = .cons t x .nil := rfl
theorem setL_cons (t k : Nat) (x v : Value) (r : L) : setL t x (.cons k v r) = if t = k then .cons t x r else .cons k v (setL t x r) := by
  show @Bool.rec (fun _ => L) (.cons k v (setL t x r)) (.cons t x r) (Nat.beq t k) = _
  rw [brec]; simp only [Nat.beq_eq]
theorem lkL_setL (t k : Nat) (x : Value) (l : L) (d : Value) : lkL t (setL k x l) d = if t = k then x else lkL t l d := by
  induction l with
  | nil => rw [setL_nil, lkL_cons]
  | cons j v r ih =>
    rw [setL_cons]
    by_cases h : k = j
    · rw [if_pos h, lkL_cons, lkL_cons]
      by_cases e : t = k
      · rw [if_pos e, if_pos e]
      · rw [if_neg e, if_neg e, if_neg (fun h' => e (h'.trans h.symm))]
    · rw [if_neg h, lkL_cons, lkL_cons, ih]
      by_cases e : t = j
      · rw [if_pos e, if_pos e, if_neg (fun h' => h (h'.symm.trans e))]
      · rw [if_neg e, if_neg e]
theorem opd_tmp (mask t : Nat) (vars loc : L) : (opd mask (.tmp t)).get vars loc = if bit mask t = true then lkL t vars poison else lkL t loc poison := by
  show (@Bool.rec (fun _ => G) _ _ (bit mask t)).get vars loc = _
  cases bit mask t <;> rfl
theorem put_getD (tmps : Array Value) (d t : Nat) (u : Value) (h : d < tmps.size) : (tmps.setIfInBounds d u).getD t undef = if t = d then u else tmps.getD t undef := by
  simp only [Array.getD_eq_getD_getElem?, Array.getElem?_setIfInBounds]
  by_cases e : t = d
  · subst e; simp [h]
  · simp [e, Ne.symm e]
/-- A value that is put. -/
theorem put_eq (hF : FRel mask nt m s.dead vars loc ds a) {v u : Value} (hv : VRel m s.dead v u) (dst : Option Tmp) (next : Run) (cf : CF) (s1 : AS) :
    (∃ x, (putK mask nt dst).run next cf vars loc ds s1 v = .fail x) ∨ ∃ vars' loc', (putK mask nt dst).run next cf vars loc ds s1 v = next cf vars' loc' ds s1 ∧ FRel mask nt m s.dead vars' loc' ds (a.put dst u) := by
  cases dst with
  | none => exact .inr ⟨vars, loc, rfl, hF⟩
  | some d =>
    have he : (putK mask nt (some d)).run next cf vars loc ds s1 v = ((@Bool.rec (fun _ => PutK) ⟨fun _ _ _ _ _ _ _ => .fail "put"⟩
      (@Bool.rec (fun _ => PutK) ⟨fun next cf vars loc ds s v => next cf vars (.cons d v loc) ds s⟩ ⟨fun next cf vars loc ds s v => next cf (setL d v vars) loc ds s⟩ (bit mask d)) (Nat.ble (Nat.add d 1) nt)).run next cf vars loc ds s1 v) := rfl
    rw [he]
    cases hb : Nat.ble (Nat.add d 1) nt with
    | false => exact .inl ⟨_, rfl⟩
    | true =>
      have hlt : d < a.tmps.size := Nat.lt_of_lt_of_le (by rw [Nat.ble_eq] at hb; exact hb) hF.sz
      have hsz : nt ≤ (a.put (some d) u).tmps.size := by simp only [Act.put, Array.size_setIfInBounds]; exact hF.sz
      cases hd : bit mask d with
      | true =>
        refine .inr ⟨_, _, rfl, ⟨fun t => ?_, hsz, hF.df⟩⟩
        have ht := hF.tm t
        rw [opd_tmp] at ht ⊢
        simp only [Act.put]
        rw [put_getD _ _ _ _ hlt]
        by_cases e : t = d
        · subst e; rw [if_pos hd, lkL_setL, if_pos rfl, if_pos rfl]; exact hv
        · rw [if_neg e, lkL_setL, if_neg e]; exact ht
      | false =>
        refine .inr ⟨_, _, rfl, ⟨fun t => ?_, hsz, hF.df⟩⟩
        have ht := hF.tm t
        rw [opd_tmp] at ht ⊢
        simp only [Act.put]
        rw [put_getD _ _ _ _ hlt]
        by_cases e : t = d
        · subst e; rw [if_neg (by rw [hd]; simp), lkL_cons, if_pos rfl, if_pos rfl]; exact hv
        · rw [if_neg e, lkL_cons, if_neg e]; exact ht
theorem put_ok (hF : FRel mask nt m s.dead vars loc ds a) {v u : Value} (hv : VRel m s.dead v u) {dst : Option Tmp} {next : Run} {cf : CF}
    {s0 : AS} {m0 : Mp} (h : OS P B W0 pend mask nt s0 m0 ((putK mask nt dst).run next cf vars loc ds s v) Q) :
    ∃ vars' loc', OS P B W0 pend mask nt s0 m0 (next cf vars' loc' ds s) Q ∧ FRel mask nt m s.dead vars' loc' ds (a.put dst u) := by
  rcases put_eq hF hv dst next cf s with ⟨x, hx⟩ | ⟨v', l', h1, h2⟩
  · rw [hx] at h; exact h.elim
  · rw [h1] at h; exact ⟨v', l', h, h2⟩
/-- One operation that is carried out. -/
theorem opK_ok {r : Option Nat} {n : Nat} (hR : Rel P B W0 pend s m w) (hF : FRel mask nt m s.dead vars loc ds a) {cf : CF} (hcf : CFS P B W0 cf) {o : Oper} {c : CO} {res : Result Next} (hc : COS P B W0 pend s m w vars loc c res) {next : K} {Kn : Act → World → Prop}
    (hnext : ∀ vars loc ds s m w a, Rel P B W0 pend s m w → FRel mask nt m s.dead vars loc ds a → OS P B W0 pend mask nt s m (next.run cf vars loc ds s) Q → Kn a w)
    (h : OS P B W0 pend mask nt s m ((opK (putK mask nt o.dst) c next).run cf vars loc ds s) Q) : o.uponIn (fen r) n P a Kn Q res := by
  cases c with
  | val g =>
    obtain ⟨u, rfl, hu⟩ := hc
    obtain ⟨v', l', h1, h2⟩ := put_ok hF hu h
    exact hnext _ _ _ _ _ _ _ hR h2 h1
  | look g =>
    have h' : OS P B W0 pend mask nt s m (afterLook (putK mask nt o.dst) next.run cf vars loc ds s (g vars loc s)) Q := h
    cases hg : g vars loc s with
    | fail _ => rw [hg] at h'; exact h'.elim
    | ok x =>
      rw [hg] at h'
      obtain ⟨u, rfl, hu⟩ := hc x hg
      obtain ⟨v', l', h1, h2⟩ := put_ok hF hu h'
      exact hnext _ _ _ _ _ _ _ hR h2 h1
  | act g =>
    have h' : OS P B W0 pend mask nt s m (afterAct (putK mask nt o.dst) next.run cf vars loc ds (g vars loc s)) Q := h
    have hc' : AR P B W0 pend s m w (g vars loc s) res := hc
    cases hg : g vars loc s with
    | val v s' =>
      rw [hg] at h' hc'
      obtain ⟨m', w', u, hres, hR', hE, hu⟩ := hc'
      obtain ⟨v', l', h1, h2⟩ := put_ok (hF.mono hE.mp hE.dead) hu h'
      have := hnext _ _ _ _ _ _ _ hR' h2 (h1.ext hE)
      rcases hres with rfl | ⟨rfl, rfl⟩
      · exact this
      · exact this
    | enter f args s' =>
      rw [hg] at h' hc'
      obtain ⟨rfl, us, rfl, hl⟩ := hc'
      have h2 : OS P B W0 pend mask nt s' m (afterCall (putK mask nt o.dst) next.run cf vars loc ds (cf.call f args s')) Q := h'
      have hcall := hcf.call pend s' m w f args us hR hl
      refine ⟨fun h => (by cases h), callsIn_fen.2 ?_⟩
      cases hr : cf.call f args s' with
      | ret v s2 =>
        rw [hr] at h2 hcall
        refine hcall _ fun m' w' u hR' hE hu => ?_
        obtain ⟨v', l', h3, h4⟩ := put_ok (hF.mono hE.mp hE.dead) hu h2
        exact hnext _ _ _ _ _ _ _ hR' h4 (h3.ext hE)
      | panic v s2 =>
        rw [hr] at h2 hcall
        refine hcall _ fun m' w' u hR' hE hu => ?_
        exact h2 m' a w' u hR' hE (hF.mono hE.mp hE.dead) hu
      | fail _ => rw [hr] at h2; exact h2.elim
    | defer f args s' =>
      rw [hg] at h' hc'
      obtain ⟨rfl, d, rfl, hd⟩ := hc'
      have hF' : FRel mask nt m s'.dead vars loc ((f, args) :: ds) { a with defers := d :: a.defers } := ⟨hF.tm, hF.sz, .cons _ _ _ _ hd hF.df⟩
      obtain ⟨v', l', h1, h2⟩ := put_ok hF' (vrel_flat (v := undef) rfl) h'
      exact hnext _ _ _ _ _ _ _ hR h2 h1
    | panic v s' =>
      rw [hg] at h' hc'
      obtain ⟨rfl, u, rfl, hu⟩ := hc'
      exact h' m a w u hR (Ext.refl _ _) hF hu
    | yield b args s' =>
      rw [hg] at h' hc'
      obtain ⟨rfl, us, l, N, z, hm, rfl, hl⟩ := hc'
      have h2 : OS P B W0 pend mask nt s' m (afterCall (putK mask nt o.dst) next.run cf vars loc ds (cf.yld b args s')) Q := h'
      have hy := hcf.yld b pend s' m w args us l N z hR hm hl
      cases hr : cf.yld b args s' with
      | ret v s2 =>
        rw [hr] at h2 hy
        obtain ⟨f, tmps, assign, body, w1, h3, h4⟩ := hy (fun e w'' => match e with
          | .returned v => Kn (a.put o.dst v) w''
          | .panicked chain => Q (.panic chain) a w''
          | .outgrown => LetsOut Q) fun m' w' u hR' hE hu => by
            obtain ⟨v', l', h5, h6⟩ := put_ok (hF.mono hE.mp hE.dead) hu h2
            exact hnext _ _ _ _ _ _ _ hR' h6 (h5.ext hE)
        rw [h3]
        refine ⟨fun h => (by cases h), (roundIn_fen h4).mono fun e w'' he => ?_⟩
        cases e <;> exact he
      | panic v s2 => rw [hr] at hy; exact hy.elim
      | fail _ => rw [hr] at h2; exact h2.elim
    | fail _ => rw [hg] at h'; exact h'.elim
  | recover => exact h.elim
  | bad _ => exact h.elim
end
end Go.Proofs.YtbbknbmmpkpgdaaGreatDoor.KAb
