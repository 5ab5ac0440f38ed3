import Derived.Test.YtbbknbmmpkpgdaaGreatDoorKDraw3
namespace Go.Proofs.YtbbknbmmpkpgdaaGreatDoor.KAb
section
variable {P : Program} {B : Nat → Prop} {W0 : World} {mask nt : Nat} {ops : Array Oper} {cf : CF} {base : Nat} {ds : DS} {infos : List DI} {N : Nat} {st : Nat → DSt} {pend : Nat → Prop} {s0 : AS} {m0 : Mp}
/-- The blocks that the machine has not yet. -/
def pendD (pend : Nat → Prop) (infos : List DI) (base : Nat) (D : Nat → Bool) (b : Nat) : Prop := pend b ∨ ∃ i d, infos[i]? = some d ∧ isAlloc d.cd = true ∧ D i = false ∧ b = base + preNo (infos.take i)
/-- Where the operations of D are done. -/
structure Inv (P : Program) (B : Nat → Prop) (W0 : World) (mask nt : Nat) (base : Nat) (ds : DS) (infos : List DI) (N : Nat) (st : Nat → DSt) (pend : Nat → Prop) (s0 : AS) (m0 : Mp) (D : Nat → Bool) (a : Act) (w : World) (m : Mp) (p : Nat) : Prop where
  pn : p ≤ N
  acts : ∀ j d, infos[j]? = some d → d.act = true → (D j = true ↔ j < p)
  rel : Rel P B W0 (pendD pend infos base D) (st p).s m w
  ext : Ext s0 m0 (st p).s m
  tm : ∀ t, ∃ q, q ≤ N ∧ (∀ j d, infos[j]? = some d → d.dst = some t → (D j = true ↔ j < q)) ∧ VRel m (st p).s.dead ((st q).get mask t) (a.tmps.getD t undef)
  sz : nt ≤ a.tmps.size
  df : DsR m (st p).s.dead ds a.defers
  cl : ∀ i d, infos[i]? = some d → D i = true → ∀ j, bit d.bef j = true → D j = true
  dn : ∀ j, D j = true → j < N
/-- One more is done. -/
def more (D : Nat → Bool) (i : Nat) (j : Nat) : Bool := if j = i then true else D j
theorem more_self (D : Nat → Bool) (i : Nat) : more D i i = true := by simp [more]
theorem more_ne {D : Nat → Bool} {i j : Nat} (h : j ≠ i) : more D i j = D j := by simp [more, h]
variable {D : Nat → Bool} {a : Act} {w : World} {m : Mp} {p i : Nat} {d : DI} {o : Oper}
theorem clash_w1 {e d : DI} {t : Nat} (h1 : bit e.wrt t = true) (h2 : bit d.tch t = true) : clash e d = true := by
  cases h : clash e d with
  | true => rfl
  | false => exact absurd ⟨h1, h2⟩ ((clash_ok h).1 t)
theorem clash_w2 {e d : DI} {t : Nat} (h1 : bit e.tch t = true) (h2 : bit d.wrt t = true) : clash e d = true := by
  cases h : clash e d with
  | true => rfl
  | false => exact absurd ⟨h1, h2⟩ ((clash_ok h).2.1 t)
theorem clash_act {e d : DI} (h1 : e.act = true) (h2 : d.act = true) : clash e d = true := by
  cases h : clash e d with
  | true => rfl
  | false => exact absurd ⟨h1, h2⟩ (clash_ok h).2.2
/-- Those that clash with an operation that is ready are done if and only if they go ahead of it in the text. -/
theorem Inv.clashing (hT : Trace P mask nt ops cf base infos N st) (hI : Inv P B W0 mask nt base ds infos N st pend s0 m0 D a w m p) (hd : infos[i]? = some d) (hDi : D i = false) (hbef : ∀ j, bit d.bef j = true → D j = true)
    {j : Nat} {e : DI} (he : infos[j]? = some e) (hc1 : clash e d = true) (hc2 : clash d e = true) : D j = true ↔ j < i := by
  constructor
  · intro hj
    rcases Nat.lt_trichotomy j i with h | h | h
    · exact h
    · subst h; rw [hDi] at hj; cases hj
    · exfalso
      have := hI.cl j e he hj i (hT.kn.ord j i d e h hd he hc2)
      rw [hDi] at this; cases this
  · intro hj
    exact hbef j (hT.kn.ord i j e d hj he hd hc1)
/-- A temporary that the operation names. -/
theorem Inv.named (hT : Trace P mask nt ops cf base infos N st) (hI : Inv P B W0 mask nt base ds infos N st pend s0 m0 D a w m p) (hil : i ≤ N) (hd : infos[i]? = some d) (hDi : D i = false) (hbef : ∀ j, bit d.bef j = true → D j = true)
    {t : Nat} (ht : bit d.tch t = true) : VRel m (st p).s.dead ((st i).get mask t) (a.tmps.getD t undef) := by
  obtain ⟨q, hq, hw, hv⟩ := hI.tm t
  have key : ∀ j e, infos[j]? = some e → e.dst = some t → (j < q ↔ j < i) := by
    intro j e he het
    obtain ⟨o', _, hi'⟩ := hT.kn.infoAt he
    obtain ⟨o2, _, hi2⟩ := hT.kn.infoAt hd
    rw [← hw j e he het]
    exact hI.clashing hT hd hDi hbef he (clash_w1 ((hi'.wrt t).2 het) ht) (clash_w2 ht ((hi'.wrt t).2 het))
  have : (st q).get mask t = (st i).get mask t := by
    rcases Nat.le_total q i with h | h
    · exact (hT.get_same h hil fun k e hk1 hk2 he het => by have := (key k e he het).2 hk2; omega).symm
    · exact hT.get_same h hq fun k e hk1 hk2 he het => by have := (key k e he het).1 hk2; omega
  rw [← this]; exact hv
theorem Inv.operands (hT : Trace P mask nt ops cf base infos N st) (hI : Inv P B W0 mask nt base ds infos N st pend s0 m0 D a w m p) (hil : i ≤ N) (hd : infos[i]? = some d) (hi : InfoAt P mask ops infos i o d) (hDi : D i = false) (hbef : ∀ j, bit d.bef j = true → D j = true) :
    OpR m (st p).s.dead mask (st i).vars (st i).loc a o.op.operands.toList := by
  intro x hx
  cases x with
  | tmp t => exact hI.named hT hil hd hDi hbef (hi.top t hx)
  | const v =>
    show VRel m _ ((@Bool.rec (fun _ => G) _ _ (flat v)).get _ _) v
    cases hf : flat v with
    | true => exact vrel_flat hf
    | false => exact .poison v
  | global g =>
    show VRel m _ ((@Bool.rec (fun _ => G) _ _ (Nat.ble (Nat.add g 1) nGlob)).get _ _) (.pointer (some ⟨g, 0, none⟩))
    cases hf : Nat.ble (Nat.add g 1) nGlob with
    | true =>
      obtain ⟨N, z, h⟩ := hI.rel.glob g (by rw [Nat.ble_eq] at hf; exact hf)
      exact .ptr _ _ _ _ _ h
    | false => exact .poison _
  | func f => exact .func _ _ _ _ _ rfl (by simp) rfl (by simp) rfl
/-- Behind an operation. -/
theorem Inv.put (hT : Trace P mask nt ops cf base infos N st) (hI : Inv P B W0 mask nt base ds infos N st pend s0 m0 D a w m p) (hil : i < N) (hd : infos[i]? = some d) (hi : InfoAt P mask ops infos i o d) (hDi : D i = false) (hbef : ∀ j, bit d.bef j = true → D j = true)
    {v u : Value} (hlt : ∀ t, d.dst = some t → t < nt) (hget : ∀ t, (st (i + 1)).get mask t = if d.dst = some t then v else (st i).get mask t)
    {m' : Mp} {p' : Nat} {w' : World} (hpn : p' ≤ N) (hacts : ∀ j d, infos[j]? = some d → d.act = true → (more D i j = true ↔ j < p')) (hrel : Rel P B W0 (pendD pend infos base (more D i)) (st p').s m' w')
    (hext : Ext s0 m0 (st p').s m') (hmp : ∀ b x, m b = some x → m' b = some x) (hdead : ∀ b, (st p).s.dead b → (st p').s.dead b) (hu : VRel m' (st p').s.dead v u) :
    Inv P B W0 mask nt base ds infos N st pend s0 m0 (more D i) (a.put o.dst u) w' m' p' := by
  refine ⟨hpn, hacts, hrel, hext, ?_, ?_, ?_, ?_, fun j hj => ?_⟩
  · intro t
    by_cases hdt : d.dst = some t
    · refine ⟨i + 1, hil, ?_, ?_⟩
      · intro j e he het
        by_cases hj : j = i
        · subst hj; simp [more_self]
        · rw [more_ne hj]
          obtain ⟨o', _, hi'⟩ := hT.kn.infoAt he
          have := hI.clashing hT hd hDi hbef he (clash_w1 ((hi'.wrt t).2 het) (hi.tdst t hdt)) (clash_w2 (hi.tdst t hdt) ((hi'.wrt t).2 het))
          rw [this]; omega
      · rw [hget t, if_pos hdt]
        have e : (a.put o.dst u).tmps.getD t undef = u := by
          rw [← hi.dst, hdt]
          simp only [Act.put]
          rw [put_getD _ _ _ _ (Nat.lt_of_lt_of_le (hlt t hdt) hI.sz), if_pos rfl]
        rw [e]; exact hu
    · obtain ⟨q, hq, hw, hv⟩ := hI.tm t
      refine ⟨q, hq, fun j e he het => ?_, ?_⟩
      · rw [more_ne (fun h => hdt (by subst h; rw [hd] at he; cases he; exact het))]
        exact hw j e he het
      · have e : (a.put o.dst u).tmps.getD t undef = a.tmps.getD t undef := by
          cases hod : o.dst with
          | none => rfl
          | some k =>
            have hk := hlt k (by rw [hi.dst, hod])
            simp only [Act.put]
            rw [put_getD _ _ _ _ (Nat.lt_of_lt_of_le hk hI.sz), if_neg (fun h => hdt (by rw [hi.dst, hod, h]))]
        rw [e]; exact hv.mono hmp hdead
  · cases o.dst with
    | none => exact hI.sz
    | some k => simp only [Act.put, Array.size_setIfInBounds]; exact hI.sz
  · have : (a.put o.dst u).defers = a.defers := by cases o.dst <;> rfl
    rw [this]; exact hI.df.mono hmp hdead
  · intro j e he hj k hk
    by_cases hji : j = i
    · subst hji
      rw [hd] at he; cases he
      have hk' := hbef k hk
      by_cases hki : k = j
      · subst hki; exact more_self _ _
      · rw [more_ne hki]; exact hk'
    · rw [more_ne hji] at hj
      have := hI.cl j e he hj k hk
      by_cases hki : k = i
      · subst hki; exact more_self _ _
      · rw [more_ne hki]; exact this
  · by_cases hji : j = i
    · rw [hji]; exact hil
    · rw [more_ne hji] at hj; exact hI.dn j hj
/-- The memory stays as it is for an operation that does not act. -/
theorem Inv.still (hI : Inv P B W0 mask nt base ds infos N st pend s0 m0 D a w m p) (hd : infos[i]? = some d) (hna : d.act = false) : ∀ j d, infos[j]? = some d → d.act = true → (more D i j = true ↔ j < p) := by
  intro j e he hea
  rw [more_ne (fun h => by subst h; rw [hd] at he; cases he; rw [hna] at hea; cases hea)]
  exact hI.acts j e he hea
theorem pend_more (hd : infos[i]? = some d) (hna : isAlloc d.cd = false) : pendD pend infos base (more D i) = pendD pend infos base D := by
  funext b
  apply propext
  constructor
  · rintro (h | ⟨j, e, h1, h2, h3, h4⟩)
    · exact .inl h
    · by_cases hj : j = i
      · subst hj; rw [more_self] at h3; cases h3
      · rw [more_ne hj] at h3; exact .inr ⟨j, e, h1, h2, h3, h4⟩
  · rintro (h | ⟨j, e, h1, h2, h3, h4⟩)
    · exact .inl h
    · by_cases hj : j = i
      · subst hj; rw [hd] at h1; cases h1; rw [hna] at h2; cases h2
      · exact .inr ⟨j, e, h1, h2, by rw [more_ne hj]; exact h3, h4⟩
/-- The window holds. -/
theorem Inv.look (hT : Trace P mask nt ops cf base infos N st) (hI : Inv P B W0 mask nt base ds infos N st pend s0 m0 D a w m p) (hil : i < N) (hd : infos[i]? = some d) (hDi : D i = false) (hbef : ∀ j, bit d.bef j = true → D j = true)
    {g : AS → V} {v : Value} (hg : g (st i).s = .ok v) (hc : (st (i + 1)).chks = dChk (loOf d infos) (hiOf i infos) g v (st i).chks) : g (st p).s = .ok v := by
  refine hT.window hil hd hg hc hI.pn ?_ ?_ ?_ ?_
  · exact lo_le d infos 0 p fun j e he hea hb => (hI.acts j e he hea).1 (hbef j (by simpa using hb))
  · refine hi_ge i infos p fun j e he hea hj => ?_
    cases hb : bit e.bef i with
    | false => rfl
    | true =>
      have := hI.cl j e he ((hI.acts j e he hea).2 hj) i hb
      rw [hDi] at this; cases this
  · exact lo_le d infos 0 i fun j e he hea hb => hT.kn.lt i d hd j (by simpa using hb)
  · refine hi_ge i infos i fun j e he hea hj => ?_
    cases hb : bit e.bef i with
    | false => rfl
    | true => have := hT.kn.lt j e he i hb; omega
/-- An act is carried out in the memory that the text's order gives it. -/
theorem Inv.act (hT : Trace P mask nt ops cf base infos N st) (hI : Inv P B W0 mask nt base ds infos N st pend s0 m0 D a w m p) (hil : i ≤ N) (hd : infos[i]? = some d) (hDi : D i = false) (hbef : ∀ j, bit d.bef j = true → D j = true) (ha : d.act = true) :
    (st p).s = (st i).s ∧ ∀ j d, infos[j]? = some d → d.act = true → (more D i j = true ↔ j < i + 1) := by
  have key : ∀ j e, infos[j]? = some e → e.act = true → (D j = true ↔ j < i) := fun j e he hea => hI.clashing hT hd hDi hbef he (clash_act hea ha) (clash_act ha hea)
  have key2 : ∀ j e, infos[j]? = some e → e.act = true → (j < p ↔ j < i) := fun j e he hea => (hI.acts j e he hea).symm.trans (key j e he hea)
  constructor
  · rcases Nat.le_total p i with h | h
    · refine (hT.heap_same h hil fun k e hk1 hk2 he => ?_).symm
      cases hea : e.act with
      | false => rfl
      | true => have := (key2 k e he hea).2 hk2; omega
    · refine hT.heap_same h hI.pn fun k e hk1 hk2 he => ?_
      cases hea : e.act with
      | false => rfl
      | true => have := (key2 k e he hea).1 hk2; omega
  · intro j e he hea
    by_cases hj : j = i
    · subst hj; simp [more_self]
    · rw [more_ne hj, key j e he hea]; omega
end
end Go.Proofs.YtbbknbmmpkpgdaaGreatDoor.KAb
