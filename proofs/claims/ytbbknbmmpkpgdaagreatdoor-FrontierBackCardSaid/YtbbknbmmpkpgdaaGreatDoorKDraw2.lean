import Derived.Test.YtbbknbmmpkpgdaaGreatDoorKDraw1
namespace Go.Proofs.YtbbknbmmpkpgdaaGreatDoor.KAb
/-- The evaluator's state within a region. -/
structure DSt where
  vars : L
  loc : L
  s : AS
  hist : List AS
  chks : List Chk
noncomputable def DSt.get (mask : Nat) (x : DSt) (t : Nat) : Value := (opd mask (.tmp t)).get x.vars x.loc
section
variable {P : Program} {mask nt : Nat} {ops : Array Oper} {cf : CF} {base : Nat} {ds : DS}
/-- An operation that is carried out. -/
def ValP (cf : CF) (base : Nat) (all : List DI) (i : Nat) (d : DI) (x y : DSt) (v : Value) : Prop := match d.cd with
  | .val g => v = g x.vars x.loc ∧ y.s = x.s ∧ y.hist = x.hist ∧ y.chks = x.chks
  | .look g => g x.vars x.loc x.s = .ok v ∧ y.s = x.s ∧ y.hist = x.hist ∧ y.chks = dChk (loOf d all) (hiOf i all) (g x.vars x.loc) v x.chks
  | .alloc z t => preAt (Nat.add base (preNo (takeK i all))) z t x.s = .ok v ∧ y.s = x.s ∧ y.hist = x.hist ∧ y.chks = dChk (loOf d all) (hiOf i all) (preAt (Nat.add base (preNo (takeK i all))) z t) v x.chks
  | .lay e n g => layAt (Nat.add base (preNo (takeK i all))) e n (g x.vars x.loc) x.s = .ok v ∧ y.s = x.s ∧ y.hist = x.hist ∧ y.chks = dChk (loOf d all) (hiOf i all) (layAt (Nat.add base (preNo (takeK i all))) e n (g x.vars x.loc)) v x.chks
  | .act g => (g x.vars x.loc x.s = .val v y.s ∨ (∃ f args s1, g x.vars x.loc x.s = .enter f args s1 ∧ cf.call f args s1 = .ret v y.s) ∨ ∃ b args s1, g x.vars x.loc x.s = .yield b args s1 ∧ cf.yld b args s1 = .ret v y.s) ∧ y.hist = x.s :: x.hist ∧ y.chks = x.chks
  | .bad => False
/-- An act whose call is left by a panic. -/
def PanicP (mask : Nat) (cf : CF) (base : Nat) (ds : DS) (all : List DI) (i : Nat) (d : DI) (x : DSt) (out : Out) : Prop := ∃ g v s', d.cd = .act g ∧
  ((∃ f args s1, g x.vars x.loc x.s = .enter f args s1 ∧ cf.call f args s1 = .panic v s') ∨ ∃ b args s1, g x.vars x.loc x.s = .yield b args s1 ∧ cf.yld b args s1 = .panic v s') ∧
  (d.guard = none ∨ ∃ t want, d.guard = some (t, want) ∧ wantB want (x.get mask t) = .yes) ∧ (panicK mask i d all).run base x.vars ds (x.s :: x.hist) x.chks v s' = out
def DStep (mask nt : Nat) (cf : CF) (base : Nat) (all : List DI) (i : Nat) (d : DI) (x y : DSt) : Prop := ∃ v, (∀ t, d.dst = some t → t < nt) ∧ (∀ t, y.get mask t = if d.dst = some t then v else x.get mask t) ∧
  ((∃ t want, d.guard = some (t, want) ∧ wantB want (x.get mask t) = .no ∧ v = undef ∧ isAlloc d.cd = false ∧ y.s = x.s ∧ y.hist = (if d.act = true then x.s :: x.hist else x.hist) ∧ y.chks = x.chks) ∨
   ((d.guard = none ∨ ∃ t want, d.guard = some (t, want) ∧ wantB want (x.get mask t) = .yes) ∧ ValP cf base all i d x y v))
theorem putK_put {dst : Option Tmp} {next : Run} {vars loc : L} {s : AS} {v : Value} {out : Out} (h : (putK mask nt dst).run next cf vars loc ds s v = out) (hf : ∀ w, out ≠ .fail w) :
    ∃ vars' loc', next cf vars' loc' ds s = out ∧ (∀ t, dst = some t → t < nt) ∧ ∀ t, (opd mask (.tmp t)).get vars' loc' = if dst = some t then v else (opd mask (.tmp t)).get vars loc := by
  cases dst with
  | none => exact ⟨vars, loc, h, fun t h => (by cases h), fun t => (by simp)⟩
  | some d =>
    have h' : ((@Bool.rec (fun _ => PutK) ⟨fun _ _ _ _ _ _ _ => .fail "put"⟩
      (@Bool.rec (fun _ => PutK) ⟨fun next cf vars loc ds s v => next cf vars (.cons d v loc) ds s⟩ ⟨fun next cf vars loc ds s v => next cf (setL d v vars) loc ds s⟩ (bit mask d)) (Nat.ble (Nat.add d 1) nt)).run next cf vars loc ds s v) = out := h
    cases hb : Nat.ble (Nat.add d 1) nt with
    | false => rw [hb] at h'; exact absurd h'.symm (hf _)
    | true =>
      rw [hb] at h'
      have hlt : d < nt := by rw [Nat.ble_eq] at hb; exact hb
      cases hd : bit mask d with
      | true =>
        rw [hd] at h'
        refine ⟨_, _, h', fun t ht => by cases ht; exact hlt, fun t => ?_⟩
        rw [opd_tmp, opd_tmp]
        by_cases e : t = d
        · subst e; rw [if_pos hd, lkL_setL, if_pos rfl, if_pos rfl]
        · have hne : ¬ (some d = some t) := fun h => e (by injection h with h; exact h.symm)
          rw [lkL_setL, if_neg e, if_neg hne]
      | false =>
        rw [hd] at h'
        refine ⟨_, _, h', fun t ht => by cases ht; exact hlt, fun t => ?_⟩
        rw [opd_tmp, opd_tmp]
        by_cases e : t = d
        · subst e; rw [if_neg (by rw [hd]; simp), lkL_cons, if_pos rfl, if_pos rfl]
        · have hne : ¬ (some d = some t) := fun h => e (by injection h with h; exact h.symm)
          rw [lkL_cons, if_neg e, if_neg hne]
/-- One operation of a region's. -/
theorem dOp_step {all : List DI} {i : Nat} {d : DI} {next : DK} {x : DSt} {out : Out} (hf : ∀ w, out ≠ .fail w) (hgd : d.guard = none ∨ ∃ t want, d.guard = some (t, want) ∧ wantB want (x.get mask t) = .yes)
    (h : (dOp (panicK mask i d all) (putK mask nt d.dst) next (loOf d all) (hiOf i all) (preNo (takeK i all)) d.cd).run cf base x.vars x.loc ds x.s x.hist x.chks = out) :
    (∃ y v, next.run cf base y.vars y.loc ds y.s y.hist y.chks = out ∧ (∀ t, d.dst = some t → t < nt) ∧ (∀ t, y.get mask t = if d.dst = some t then v else x.get mask t) ∧ ValP cf base all i d x y v) ∨ PanicP mask cf base ds all i d x out := by
  unfold ValP
  cases hc : d.cd with
  | val g =>
    rw [hc] at h
    obtain ⟨v', l', h1, h2, h3⟩ := putK_put h hf
    exact .inl ⟨⟨v', l', x.s, x.hist, x.chks⟩, _, h1, h2, h3, rfl, rfl, rfl, rfl⟩
  | look g =>
    rw [hc] at h
    have h' : dLook (putK mask nt d.dst) next (loOf d all) (hiOf i all) cf base x.vars x.loc ds x.s x.hist x.chks (g x.vars x.loc) (g x.vars x.loc x.s) = out := h
    cases hg : g x.vars x.loc x.s with
    | fail w => rw [hg] at h'; exact absurd h'.symm (hf _)
    | ok v =>
      rw [hg] at h'
      obtain ⟨v', l', h1, h2, h3⟩ := putK_put h' hf
      exact .inl ⟨⟨v', l', x.s, x.hist, _⟩, _, h1, h2, h3, hg, rfl, rfl, rfl⟩
  | alloc z t =>
    rw [hc] at h
    have h' : dLook (putK mask nt d.dst) next (loOf d all) (hiOf i all) cf base x.vars x.loc ds x.s x.hist x.chks (preAt (Nat.add base (preNo (takeK i all))) z t) (preAt (Nat.add base (preNo (takeK i all))) z t x.s) = out := h
    cases hg : preAt (Nat.add base (preNo (takeK i all))) z t x.s with
    | fail w => rw [hg] at h'; exact absurd h'.symm (hf _)
    | ok v =>
      rw [hg] at h'
      obtain ⟨v', l', h1, h2, h3⟩ := putK_put h' hf
      exact .inl ⟨⟨v', l', x.s, x.hist, _⟩, _, h1, h2, h3, hg, rfl, rfl, rfl⟩
  | lay e n g =>
    rw [hc] at h
    have h' : dLook (putK mask nt d.dst) next (loOf d all) (hiOf i all) cf base x.vars x.loc ds x.s x.hist x.chks (layAt (Nat.add base (preNo (takeK i all))) e n (g x.vars x.loc)) (layAt (Nat.add base (preNo (takeK i all))) e n (g x.vars x.loc) x.s) = out := h
    cases hg : layAt (Nat.add base (preNo (takeK i all))) e n (g x.vars x.loc) x.s with
    | fail w => rw [hg] at h'; exact absurd h'.symm (hf _)
    | ok v =>
      rw [hg] at h'
      obtain ⟨v', l', h1, h2, h3⟩ := putK_put h' hf
      exact .inl ⟨⟨v', l', x.s, x.hist, _⟩, _, h1, h2, h3, hg, rfl, rfl, rfl⟩
  | act g =>
    rw [hc] at h
    have h' : dAct (panicK mask i d all) (putK mask nt d.dst) next cf base x.vars x.loc ds (x.s :: x.hist) x.chks (g x.vars x.loc x.s) = out := h
    cases hg : g x.vars x.loc x.s with
    | fail w => rw [hg] at h'; exact absurd h'.symm (hf _)
    | val v s' =>
      rw [hg] at h'
      obtain ⟨v', l', h1, h2, h3⟩ := putK_put h' hf
      exact .inl ⟨⟨v', l', s', _, x.chks⟩, _, h1, h2, h3, .inl hg, rfl, rfl⟩
    | enter f args s1 =>
      rw [hg] at h'
      have h2' : dCall (panicK mask i d all) (putK mask nt d.dst) next cf base x.vars x.loc ds (x.s :: x.hist) x.chks (cf.call f args s1) = out := h'
      cases hr : cf.call f args s1 with
      | fail w => rw [hr] at h2'; exact absurd h2'.symm (hf _)
      | panic v s' => rw [hr] at h2'; exact .inr ⟨g, v, s', hc, .inl ⟨f, args, s1, hg, hr⟩, hgd, h2'⟩
      | ret v s' =>
        rw [hr] at h2'
        obtain ⟨v', l', h1, h2, h3⟩ := putK_put h2' hf
        exact .inl ⟨⟨v', l', s', _, x.chks⟩, _, h1, h2, h3, .inr (.inl ⟨f, args, s1, hg, hr⟩), rfl, rfl⟩
    | yield b args s1 =>
      rw [hg] at h'
      have h2' : dCall (panicK mask i d all) (putK mask nt d.dst) next cf base x.vars x.loc ds (x.s :: x.hist) x.chks (cf.yld b args s1) = out := h'
      cases hr : cf.yld b args s1 with
      | fail w => rw [hr] at h2'; exact absurd h2'.symm (hf _)
      | panic v s' => rw [hr] at h2'; exact .inr ⟨g, v, s', hc, .inr ⟨b, args, s1, hg, hr⟩, hgd, h2'⟩
      | ret v s' =>
        rw [hr] at h2'
        obtain ⟨v', l', h1, h2, h3⟩ := putK_put h2' hf
        exact .inl ⟨⟨v', l', s', _, x.chks⟩, _, h1, h2, h3, .inr (.inr ⟨b, args, s1, hg, hr⟩), rfl, rfl⟩
    | defer f args s1 => rw [hg] at h'; exact absurd h'.symm (hf _)
    | panic v s1 => rw [hg] at h'; exact absurd h'.symm (hf _)
  | bad => rw [hc] at h; exact absurd h.symm (hf _)
theorem dGuard_step {all : List DI} {i : Nat} {d : DI} {next : DK} {x : DSt} {out : Out} (hf : ∀ w, out ≠ .fail w)
    (h : (dGuard mask (putK mask nt d.dst) d.cd d.act d.guard (dOp (panicK mask i d all) (putK mask nt d.dst) next (loOf d all) (hiOf i all) (preNo (takeK i all)) d.cd) next).run cf base x.vars x.loc ds x.s x.hist x.chks = out) :
    (∃ y, next.run cf base y.vars y.loc ds y.s y.hist y.chks = out ∧ DStep mask nt cf base all i d x y) ∨ PanicP mask cf base ds all i d x out := by
  cases hg : d.guard with
  | none =>
    rw [hg] at h
    rcases dOp_step hf (.inl hg) h with ⟨y, v, h1, h2, h3, h4⟩ | hp
    · exact .inl ⟨y, h1, v, h2, h3, .inr ⟨.inl hg, h4⟩⟩
    · exact .inr hp
  | some q =>
    obtain ⟨t, want⟩ := q
    rw [hg] at h
    have h' : guardRun (wantB want (x.get mask t)) ((dOp (panicK mask i d all) (putK mask nt d.dst) next (loOf d all) (hiOf i all) (preNo (takeK i all)) d.cd).run cf base x.vars x.loc ds x.s x.hist x.chks)
      (bif' (isAlloc d.cd) (.fail "draw: an alloc that is left out") ((putK mask nt d.dst).run (fun cf vars loc ds s => next.run cf base vars loc ds s (bif' d.act (s :: x.hist) x.hist) x.chks) cf x.vars x.loc ds x.s undef)) = out := h
    cases hw : wantB want (x.get mask t) with
    | yes =>
      rw [hw] at h'
      rcases dOp_step hf (.inr ⟨t, want, hg, hw⟩) h' with ⟨y, v, h1, h2, h3, h4⟩ | hp
      · exact .inl ⟨y, h1, v, h2, h3, .inr ⟨.inr ⟨t, want, hg, hw⟩, h4⟩⟩
      · exact .inr hp
    | no =>
      rw [hw] at h'
      cases ha : isAlloc d.cd with
      | true => rw [ha] at h'; exact absurd h'.symm (hf _)
      | false =>
        rw [ha] at h'
        obtain ⟨v', l', h1, h2, h3⟩ := putK_put h' hf
        refine .inl ⟨⟨v', l', x.s, bif' d.act (x.s :: x.hist) x.hist, x.chks⟩, h1, undef, h2, h3, .inl ⟨t, want, hg, hw, rfl, ha, rfl, ?_, rfl⟩⟩
        show @Bool.rec (fun _ => List AS) _ _ d.act = _
        rw [brec]
    | bad => rw [hw] at h'; exact absurd h'.symm (hf _)
noncomputable def dgo (mask nt : Nat) (all : List DI) (l : List DI) : Nat → DK := List.rec (motive := fun _ => Nat → DK) (fun _ => endDK)
    (fun d _ ih i => dGuard mask (putK mask nt d.dst) d.cd d.act d.guard (dOp (panicK mask i d all) (putK mask nt d.dst) (ih (Nat.add i 1)) (loOf d all) (hiOf i all) (preNo (takeK i all)) d.cd) (ih (Nat.add i 1))) l
/-- The states that the evaluator goes through: to the end, or to an act that is left by a panic. -/
theorem dgo_trace {all : List DI} {out : Out} (hf : ∀ w, out ≠ .fail w) : ∀ (l : List DI) (i : Nat) (x : DSt), (dgo mask nt all l i).run cf base x.vars x.loc ds x.s x.hist x.chks = out →
    ∃ (st : Nat → DSt) (N : Nat), st 0 = x ∧ N ≤ l.length ∧ (∀ k d, k < N → l[k]? = some d → DStep mask nt cf base all (i + k) d (st k) (st (k + 1))) ∧
      ((N = l.length ∧ out = .normal (st N).vars (st N).loc ds (st N).s ∧ (st N).chks.all (chkOk (lenK (st N).hist) ((st N).s :: (st N).hist)) = true) ∨
       ∃ d, l[N]? = some d ∧ PanicP mask cf base ds all (i + N) d (st N) out) := by
  intro l
  induction l with
  | nil =>
    intro i x h
    have h' : bif' (allK (chkOk (lenK x.hist) (x.s :: x.hist)) x.chks) (.normal x.vars x.loc ds x.s) (.fail "draw: it hangs on the order") = out := h
    cases hc : allK (chkOk (lenK x.hist) (x.s :: x.hist)) x.chks with
    | false => rw [hc] at h'; exact absurd h'.symm (hf _)
    | true =>
      rw [hc] at h'
      rw [allK_eq] at hc
      exact ⟨fun _ => x, 0, rfl, Nat.le_refl _, fun k d hk => absurd hk (Nat.not_lt_zero _), .inl ⟨rfl, h'.symm, hc⟩⟩
  | cons d l ih =>
    intro i x h
    rcases dGuard_step hf (next := dgo mask nt all l (i + 1)) h with ⟨y, h1, h2⟩ | hp
    · obtain ⟨st, N, g1, g0, g2, g3⟩ := ih (i + 1) y h1
      refine ⟨fun k => match k with | 0 => x | k + 1 => st k, N + 1, rfl, by simp only [List.length_cons]; omega, ?_, ?_⟩
      · intro k d' hkN hk
        cases k with
        | zero => simp at hk; subst hk; simp only [g1]; exact h2
        | succ k =>
          have := g2 k d' (by omega) (by simpa using hk)
          rw [show i + (k + 1) = i + 1 + k by omega]; exact this
      · rcases g3 with ⟨e1, e2⟩ | ⟨d', e1, e2⟩
        · exact .inl ⟨by simp [e1], e2⟩
        · exact .inr ⟨d', by simpa using e1, by rw [show i + (N + 1) = i + 1 + N by omega]; exact e2⟩
    · exact ⟨fun _ => x, 0, rfl, Nat.zero_le _, fun k d hk => absurd hk (Nat.not_lt_zero _), .inr ⟨d, rfl, hp⟩⟩
end
end Go.Proofs.YtbbknbmmpkpgdaaGreatDoor.KAb
