import Derived.Test.YtbbknbmmpkpgdaaGreatDoorKCall
import Derived.Orders
namespace Go.Proofs.YtbbknbmmpkpgdaaGreatDoor.KAb
/-! Bits. -/
theorem bit_eq (m t : Nat) : bit m t = m.testBit t := by
  rw [Nat.testBit_eq_decide_div_mod_eq, Bool.eq_iff_iff, decide_eq_true_iff]
  show Nat.beq ((m >>> t) % 2) 1 = true ↔ _
  rw [Nat.beq_eq, Nat.shiftRight_eq_div_pow]
theorem bit_zero (t : Nat) : bit 0 t = false := by rw [bit_eq]; simp
theorem bit_lor (a b t : Nat) : bit (Nat.lor a b) t = (bit a t || bit b t) := by
  rw [bit_eq, bit_eq, bit_eq]; exact Nat.testBit_or a b t
theorem bit_one (k t : Nat) : bit (Nat.shiftLeft 1 k) t = true ↔ t = k := by
  rw [bit_eq]
  show (1 <<< k).testBit t = true ↔ _
  rw [Nat.one_shiftLeft, Nat.testBit_two_pow]
  simp [eq_comm]
theorem land_zero {a b t : Nat} (h : Nat.beq (Nat.land a b) 0 = true) : ¬ (bit a t = true ∧ bit b t = true) := by
  rintro ⟨h1, h2⟩
  rw [Nat.beq_eq] at h
  rw [bit_eq] at h1 h2
  have : (a &&& b).testBit t = true := by rw [Nat.testBit_and, h1, h2]; rfl
  rw [show (a &&& b) = 0 from h] at this
  simp at this
theorem tmpBits_cons (x : Operand) (l : List Operand) : tmpBits (x :: l) = (match x with | .tmp t => Nat.lor (tmpBits l) (Nat.shiftLeft 1 t) | _ => tmpBits l) := rfl
theorem tmpBits_ok (l : List Operand) (t : Nat) (h : Operand.tmp t ∈ l) : bit (tmpBits l) t = true := by
  induction l with
  | nil => cases h
  | cons x l ih =>
    rw [tmpBits_cons]
    rcases List.mem_cons.1 h with rfl | hm
    · simp only; rw [bit_lor, (bit_one t t).2 rfl, Bool.or_true]
    · have hi := ih hm
      cases x with
      | tmp t' => simp only; rw [bit_lor, hi, Bool.true_or]
      | _ => exact hi
theorem dstBits_ok (d : Option Tmp) (t : Nat) : bit (dstBits d) t = true ↔ d = some t := by
  cases d with
  | none => simp only [dstBits, bit_zero]; simp
  | some k => simp only [dstBits, bit_one, Option.some.injEq]; exact eq_comm

section
variable {P : Program} {mask nt : Nat} {ops : Array Oper}
theorem befOf_cons (infos : List DI) (i : Nat) (e : Edge) (l : List Edge) : befOf infos i (e :: l) = match befOf infos i l with
    | none => none
    | some m => Bool.rec (motive := fun _ => Option Nat) (some m) (match nthK e.on infos with
      | some d => bif' (Nat.ble (Nat.add e.on 1) i) (some (Nat.lor m (Nat.lor (Nat.shiftLeft 1 e.on) d.bef))) none
      | none => none) (bindsB e) := rfl
theorem befOf_ok (infos : List DI) (i : Nat) : ∀ (l : List Edge) (m : Nat), befOf infos i l = some m →
    (∀ e ∈ l, bindsB e = true → e.on < i) ∧ ∀ j, bit m j = true → ∃ e ∈ l, bindsB e = true ∧ (j = e.on ∨ ∃ d, infos[e.on]? = some d ∧ bit d.bef j = true) := by
  intro l
  induction l with
  | nil => intro m h; cases h; exact ⟨fun e he => (by cases he), fun j hj => by rw [bit_zero] at hj; cases hj⟩
  | cons e l ih =>
    intro m h
    rw [befOf_cons] at h
    cases hb : befOf infos i l with
    | none => rw [hb] at h; cases h
    | some m0 =>
      rw [hb] at h
      obtain ⟨h1, h2⟩ := ih m0 hb
      cases hbind : bindsB e with
      | false =>
        rw [hbind] at h
        cases h
        refine ⟨fun x hx hxb => ?_, fun j hj => ?_⟩
        · rcases List.mem_cons.1 hx with rfl | hx
          · rw [hbind] at hxb; cases hxb
          · exact h1 x hx hxb
        · obtain ⟨x, hx, r⟩ := h2 j hj; exact ⟨x, List.mem_cons_of_mem _ hx, r⟩
      | true =>
        rw [hbind] at h
        cases hn : nthK e.on infos with
        | none => simp only [hn] at h; cases h
        | some d =>
          simp only [hn] at h
          cases hlt : Nat.ble (Nat.add e.on 1) i with
          | false => rw [hlt] at h; cases h
          | true =>
            rw [hlt] at h
            cases h
            rw [nthK_eq] at hn
            refine ⟨fun x hx hxb => ?_, fun j hj => ?_⟩
            · rcases List.mem_cons.1 hx with rfl | hx
              · rw [Nat.ble_eq] at hlt; exact hlt
              · exact h1 x hx hxb
            · rw [bit_lor, bit_lor, Bool.or_eq_true, Bool.or_eq_true] at hj
              rcases hj with hj | hj | hj
              · obtain ⟨x, hx, r⟩ := h2 j hj; exact ⟨x, List.mem_cons_of_mem _ hx, r⟩
              · exact ⟨e, List.mem_cons_self, hbind, .inl ((bit_one _ _).1 hj)⟩
              · exact ⟨e, List.mem_cons_self, hbind, .inr ⟨d, hn, hj⟩⟩
theorem ordered_ok (d : DI) : ∀ (infos : List DI) (k : Nat), (List.rec (motive := fun _ => Nat → Bool) (fun _ => true)
  (fun e _ ih j => bif' (clash e d) (bif' (bit d.bef j) (ih (Nat.add j 1)) false) (ih (Nat.add j 1))) infos) k = true →
    ∀ j e, infos[j]? = some e → clash e d = true → bit d.bef (k + j) = true := by
  intro infos
  induction infos with
  | nil => intro k h j e he; simp at he
  | cons x infos ih =>
    intro k h j e he hc
    have h' : bif' (clash x d) (bif' (bit d.bef k) ((List.rec (motive := fun _ => Nat → Bool) (fun _ => true)
      (fun e _ ih j => bif' (clash e d) (bif' (bit d.bef j) (ih (Nat.add j 1)) false) (ih (Nat.add j 1))) infos) (k + 1)) false) ((List.rec (motive := fun _ => Nat → Bool) (fun _ => true)
      (fun e _ ih j => bif' (clash e d) (bif' (bit d.bef j) (ih (Nat.add j 1)) false) (ih (Nat.add j 1))) infos) (k + 1)) = true := h
    cases j with
    | zero =>
      simp at he
      subst he
      rw [hc] at h'
      rw [Nat.add_zero]
      cases hb : bit d.bef k with
      | true => rfl
      | false => rw [hb] at h'; cases h'
    | succ j =>
      have hrest : (List.rec (motive := fun _ => Nat → Bool) (fun _ => true)
        (fun e _ ih j => bif' (clash e d) (bif' (bit d.bef j) (ih (Nat.add j 1)) false) (ih (Nat.add j 1))) infos) (k + 1) = true := by
        cases hcx : clash x d with
        | false => rw [hcx] at h'; exact h'
        | true =>
          rw [hcx] at h'
          cases hb : bit d.bef k with
          | true => rw [hb] at h'; exact h'
          | false => rw [hb] at h'; cases h'
      have := ih (k + 1) hrest j e (by simpa using he) hc
      rw [show k + (j + 1) = k + 1 + j by omega]; exact this
theorem clash_ok {e d : DI} (h : clash e d = false) : (∀ t, ¬ (bit e.wrt t = true ∧ bit d.tch t = true)) ∧ (∀ t, ¬ (bit e.tch t = true ∧ bit d.wrt t = true)) ∧ ¬ (e.act = true ∧ d.act = true) := by
  unfold clash at h
  cases h1 : Nat.beq (Nat.land e.wrt d.tch) 0 with
  | false => rw [h1] at h; cases h
  | true =>
    cases h2 : Nat.beq (Nat.land e.tch d.wrt) 0 with
    | false => rw [h1, h2] at h; cases h
    | true =>
      rw [h1, h2] at h
      refine ⟨fun t => land_zero h1, fun t => land_zero h2, ?_⟩
      rintro ⟨h3, h4⟩
      rw [h3, h4] at h
      cases h
/-- What is known of one operation ahead. -/
structure InfoAt (P : Program) (mask : Nat) (ops : Array Oper) (infos : List DI) (i : Nat) (o : Oper) (d : DI) : Prop where
  dst : d.dst = o.dst
  cd : ∃ md, d.cd = cOpD P md mask o.op o.type
  act : d.act = isAct d.cd
  wrt : ∀ t, bit d.wrt t = true ↔ d.dst = some t
  tdst : ∀ t, d.dst = some t → bit d.tch t = true
  top : ∀ t, Operand.tmp t ∈ o.op.operands.toList → bit d.tch t = true
  grd : (o.guard = none ∧ d.guard = none) ∨ ∃ j want t, o.guard = some (j, want) ∧ dstAt ops j = some t ∧ d.guard = some (t, want) ∧ bit d.tch t = true
  edge : ∀ e ∈ o.after.toList, bindsB e = true → e.on < i
  bef : ∀ j, bit d.bef j = true → ∃ e ∈ o.after.toList, bindsB e = true ∧ (j = e.on ∨ ∃ d', infos[e.on]? = some d' ∧ bit d'.bef j = true)
theorem infoOf_ok {md : Bool} {infos : List DI} {i : Nat} {o : Oper} {d : DI} (h : infoOf P md mask ops infos i o = some d) : InfoAt P mask ops infos i o d := by
  unfold infoOf at h
  split at h
  · cases h
  · rename_i m hm
    obtain ⟨h1, h2⟩ := befOf_ok infos i _ m hm
    unfold guardAt at h
    cases hg : o.guard with
    | none =>
      rw [hg] at h
      cases h
      exact ⟨rfl, ⟨md, rfl⟩, rfl, fun t => dstBits_ok _ _, fun t ht => by simp only [bit_lor, (dstBits_ok _ _).2 ht, Bool.true_or], fun t ht => by simp only [bit_lor, tmpBits_ok _ _ ht, Bool.or_true], .inl ⟨hg, rfl⟩, h1, h2⟩
    | some q =>
      obtain ⟨j, want⟩ := q
      rw [hg] at h
      simp only at h
      cases hd : dstAt ops j with
      | none => rw [hd] at h; cases h
      | some t =>
        rw [hd] at h
        cases h
        exact ⟨rfl, ⟨md, rfl⟩, rfl, fun t => dstBits_ok _ _, fun t ht => by simp only [bit_lor, (dstBits_ok _ _).2 ht, Bool.true_or, Bool.or_true], fun t ht => by simp only [bit_lor, tmpBits_ok _ _ ht, Bool.or_true],
          .inr ⟨j, want, t, hg, hd, rfl, by simp only [bit_lor, (bit_one t t).2 rfl, Bool.true_or]⟩, h1, h2⟩
theorem infosOf_ok {md : Bool} : ∀ (l : List Oper) (infos0 : List DI) (i : Nat) (infos : List DI), (List.rec (motive := fun _ => List DI → Nat → Option (List DI)) (fun infos _ => some infos)
    (fun o _ ih infos i => match infoOf P md mask ops infos i o with
      | some d => bif' (ordered d infos) (ih (appK infos [d]) (Nat.add i 1)) none
      | none => none) l) infos0 i = some infos → infos0.length = i →
    ∃ tail, infos = infos0 ++ tail ∧ tail.length = l.length ∧ ∀ k o, l[k]? = some o → ∃ d, tail[k]? = some d ∧ InfoAt P mask ops (infos0 ++ tail.take k) (i + k) o d ∧
      ∀ j e, (infos0 ++ tail.take k)[j]? = some e → clash e d = true → bit d.bef j = true := by
  intro l
  induction l with
  | nil => intro infos0 i infos h hl; cases h; exact ⟨[], by simp, rfl, fun k o h => by simp at h⟩
  | cons o l ih =>
    intro infos0 i infos h hl
    have h' : (match infoOf P md mask ops infos0 i o with
      | some d => bif' (ordered d infos0) ((List.rec (motive := fun _ => List DI → Nat → Option (List DI)) (fun infos _ => some infos)
        (fun o _ ih infos i => match infoOf P md mask ops infos i o with
          | some d => bif' (ordered d infos) (ih (appK infos [d]) (Nat.add i 1)) none
          | none => none) l) (appK infos0 [d]) (i + 1)) none
      | none => none) = some infos := h
    cases hi : infoOf P md mask ops infos0 i o with
    | none => rw [hi] at h'; cases h'
    | some d =>
      rw [hi] at h'
      simp only at h'
      cases ho : ordered d infos0 with
      | false => rw [ho] at h'; cases h'
      | true =>
        rw [ho] at h'
        obtain ⟨tail, h1, h2, h3⟩ := ih (appK infos0 [d]) (i + 1) infos h' (by rw [appK_eq]; simp [hl])
        rw [appK_eq] at h1 h3
        refine ⟨d :: tail, by rw [h1]; simp, by simp [h2], fun k o' hk => ?_⟩
        cases k with
        | zero =>
          simp at hk
          subst hk
          refine ⟨d, rfl, by simpa using infoOf_ok hi, fun j e he hc => ?_⟩
          have := ordered_ok d infos0 0 ho j e (by simpa using he) hc
          simpa using this
        | succ k =>
          obtain ⟨d', g1, g2, g3⟩ := h3 k o' (by simpa using hk)
          refine ⟨d', by simpa using g1, ?_, fun j e he hc => g3 j e (by simpa using he) hc⟩
          have e1 : infos0 ++ (d :: tail).take (k + 1) = infos0 ++ [d] ++ tail.take k := by simp
          rw [e1, show i + (k + 1) = i + 1 + k by omega]
          exact g2
/-- All that is known ahead of a region that draws its order. -/
structure Known (P : Program) (mask : Nat) (ops : Array Oper) (infos : List DI) : Prop where
  len : infos.length = ops.size
  at_ : ∀ (i : Nat) (o : Oper), ops[i]? = some o → ∃ d, infos[i]? = some d ∧ InfoAt P mask ops infos i o d
  lt : ∀ (i : Nat) (d : DI), infos[i]? = some d → ∀ j, bit d.bef j = true → j < i
  ord : ∀ (i j : Nat) (e d : DI), j < i → infos[j]? = some e → infos[i]? = some d → clash e d = true → bit d.bef j = true
theorem infos_known {md : Bool} {infos : List DI} (h : infosOf P md mask ops ops.toList = some infos) : Known P mask ops infos := by
  obtain ⟨tail, h1, h2, h3⟩ := infosOf_ok (P := P) (md := md) (mask := mask) (ops := ops) ops.toList [] 0 infos h rfl
  simp only [List.nil_append, Nat.zero_add] at h1 h3
  subst h1
  have hop : ∀ i, i < infos.length → ∃ o, ops[i]? = some o := fun i hi => ⟨_, Array.getElem?_eq_getElem (by rw [h2] at hi; simpa using hi)⟩
  have htake : ∀ {i j : Nat} {e : DI}, (infos.take i)[j]? = some e → infos[j]? = some e := fun {i j e} h => by
    rw [List.getElem?_take] at h
    split at h
    · exact h
    · cases h
  have hat : ∀ (i : Nat) (o : Oper), ops[i]? = some o → ∃ d, infos[i]? = some d ∧ InfoAt P mask ops infos i o d := fun i o ho => by
    obtain ⟨d, g1, g2, _⟩ := h3 i o (by simpa using ho)
    refine ⟨d, g1, ⟨g2.dst, g2.cd, g2.act, g2.wrt, g2.tdst, g2.top, g2.grd, g2.edge, fun j hj => ?_⟩⟩
    obtain ⟨e, he, hb, r⟩ := g2.bef j hj
    exact ⟨e, he, hb, r.imp id fun ⟨d', h1, h2⟩ => ⟨d', htake h1, h2⟩⟩
  refine ⟨by rw [h2]; simp, hat, ?_, ?_⟩
  · intro i
    induction i using Nat.strongRecOn with
    | _ i ih =>
      intro d hd j hj
      obtain ⟨o, ho⟩ := hop i (List.getElem?_eq_some_iff.1 hd).1
      obtain ⟨d', g1, g2⟩ := hat i o ho
      rw [hd] at g1
      cases g1
      obtain ⟨e, he, hb, r⟩ := g2.bef j hj
      have hlt := g2.edge e he hb
      rcases r with rfl | ⟨d', h1, h2⟩
      · exact hlt
      · exact Nat.lt_trans (ih e.on hlt d' h1 j h2) hlt
  · intro i j e d hji he hd hc
    obtain ⟨o, ho⟩ := hop i (List.getElem?_eq_some_iff.1 hd).1
    obtain ⟨d', g1, _, g3⟩ := h3 i o (by simpa using ho)
    rw [hd] at g1
    cases g1
    exact g3 j e (by rw [List.getElem?_take, if_pos hji]; exact he) hc
end
end Go.Proofs.YtbbknbmmpkpgdaaGreatDoor.KAb
