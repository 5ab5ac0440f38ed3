import Derived.Test.YtbbknbmmpkpgdaaGreatDoorKDraw5
namespace Go.Proofs.YtbbknbmmpkpgdaaGreatDoor.KAb
section
variable {P : Program} {B : Nat → Prop} {W0 : World} {mask nt : Nat} {ops : Array Oper} {cf : CF} {base : Nat} {ds : DS} {infos : List DI} {N : Nat} {st : Nat → DSt} {pend : Nat → Prop} {s s0 : AS} {m m0 : Mp} {w : World}
  {D : Nat → Bool} {a : Act} {p i : Nat} {d : DI} {o : Oper}
def CDs (P : Program) (mask : Nat) (op : Op) (type : TypeId) (c : CD) : Prop := match c with
  | .val g => cOp P mask op type = .val g
  | .look g => cOp P mask op type = .look g
  | .act g => cOp P mask op type = .act g
  | .alloc z t => op = .alloc t ∧ ∃ zv, tzero P t = some zv ∧ z = zv.cells.toList
  | .lay e n g => ∃ t parts size z, op = .buildSlice t n parts ∧ sliceElem P t = some e ∧ elemOk P e = .ok size z ∧ n * size ≤ 10000 ∧ g = fun v l => fillK (fun i => some (Nat.mul i size, size)) ((opdp mask parts.toList).get v l) (zerosK z n)
  | .bad => True
theorem cOpO_ok (P : Program) (mask : Nat) (op : Op) (type : TypeId) : CDs P mask op type (cOpO (cOp P mask op type)) := by
  unfold cOpO
  cases h : cOp P mask op type with
  | val g => exact h
  | look g => exact h
  | act g => exact h
  | recover => exact True.intro
  | bad _ => exact True.intro
theorem cOpD_ok (P : Program) (md : Bool) (mask : Nat) (op : Op) (type : TypeId) : CDs P mask op type (cOpD P md mask op type) := by
  cases op with
  | alloc t =>
    simp only [cOpD]
    split
    · rename_i z hz; exact ⟨rfl, z, hz, rfl⟩
    · exact True.intro
  | buildSlice t n parts =>
    cases md with
    | false => exact cOpO_ok P mask _ type
    | true =>
      show CDs P mask (.buildSlice t n parts) type (match sliceElem P t with
        | some e => (match elemOk P e with
          | .ok size z => bif' (Nat.ble (Nat.mul n size) 10000) (.lay e n fun v l => fillK (fun i => some (Nat.mul i size, size)) ((opdp mask parts.toList).get v l) (zerosK z n)) .bad
          | .bad => .bad)
        | none => .bad)
      split
      · rename_i e he
        split
        · rename_i size z hel
          cases hle : Nat.ble (Nat.mul n size) 10000 with
          | false => exact True.intro
          | true => exact ⟨t, parts, size, z, rfl, he, hel, by rw [Nat.ble_eq] at hle; exact hle, rfl⟩
        · exact True.intro
      · exact True.intro
  | _ => exact cOpO_ok P mask _ type
theorem layAt_ok {b e n : Nat} {o : Option (List Value)} {s : AS} {v : Value} (h : layAt b e n o s = .ok v) : ∃ z, o = some z ∧ s.get b = some (.row z e false) ∧ v = .slice (some ⟨b, 0, none⟩) n (Nat.mul 2 n) := by
  unfold layAt at h
  split at h
  · rename_i z
    split at h
    · rename_i cs el hg
      cases hc : bif' (Nat.beq el e) (valEqL cs z) false with
      | false => rw [hc] at h; cases h
      | true =>
        rw [hc] at h
        cases h
        obtain ⟨h1, h2⟩ := bif_true hc
        rw [Nat.beq_eq] at h1
        rw [← h1, ← valEqL_ok h2]
        exact ⟨cs, rfl, hg, rfl⟩
    · cases h
  · cases h
theorem preAt_ok {b : Nat} {z : List Value} {t : TypeId} {s : AS} {v : Value} (h : preAt b z t s = .ok v) : s.get b = some (.row z t false) ∧ v = .pointer (some ⟨b, 0, none⟩) := by
  unfold preAt at h
  split at h
  · rename_i cs el hg
    cases hc : bif' (Nat.beq el t) (valEqL cs z) false with
    | false => rw [hc] at h; cases h
    | true =>
      rw [hc] at h
      cases h
      obtain ⟨h1, h2⟩ := bif_true hc
      rw [Nat.beq_eq] at h1
      rw [← h1, ← valEqL_ok h2]
      exact ⟨hg, rfl⟩
  · cases h
theorem alloc_run {t : TypeId} {ti : TypeInfo} {z : Value} (hop : o.op = .alloc t) (hti : P.info? t = some ti) (hz : ti.zero = some z) : (execOp a.eval o).run P w = .ok (.value (.pointer (some ⟨w.heap.size, 0, none⟩))) { w with heap := w.heap.push (.cells z.cells t) } := by
  obtain ⟨dst, op, type, pos, after, guard⟩ := o
  simp only at hop
  subst hop
  simp [execOp, Instr.alloc, newVar, newRow, run_zero hti hz]
/-- One operation that is ready. -/
theorem Inv.step {r : Option Nat} {n : Nat} (hG : Good P) (hcf : CFS P B W0 cf) (hbase : base = s0.next) (hpl : ∀ b, pend b → b < s0.next) (hT : Trace P mask nt ops cf base infos N st) (hI : Inv P B W0 mask nt base ds infos N st pend s0 m0 D a w m p) (hil : i < N) (ho : ops[i]? = some o) (hd : infos[i]? = some d) (hDi : D i = false) (hrd : r = none ∨ isDefer o.op = false)
    (hbef : ∀ j, bit d.bef j = true → D j = true) {Q : Exit → Act → World → Prop} {Kn : Act → World → Prop}
    (hK : ∀ a' w' m' p', Inv P B W0 mask nt base ds infos N st pend s0 m0 (more D i) a' w' m' p' → Kn a' w') : wpOpIn (fen r) n P ops Q i Kn a w := by
  obtain ⟨o', ho', hi⟩ := hT.kn.infoAt hd
  rw [ho] at ho'
  cases ho'
  obtain ⟨v, hlt, hget, hr⟩ := hT.step i d hil hd
  unfold wpOpIn
  rw [ho]
  simp only
  rcases hr with ⟨t, want, hgd, hw, hvu, hna, hs, hh, hc⟩ | ⟨hgd, hv⟩
  · -- it is left out
    have hgrd : ∃ j, o.guard = some (j, want) ∧ dstAt ops j = some t ∧ bit d.tch t = true := by
      rcases hi.grd with ⟨_, h⟩ | ⟨j, w2, t2, h1, h2, h3, h4⟩
      · rw [h] at hgd; cases hgd
      · rw [h3] at hgd; cases hgd; exact ⟨j, h1, h2, h4⟩
    obtain ⟨j, g1, g2, g3⟩ := hgrd
    have hval := want_val (want := want) (hI.named hT (Nat.le_of_lt hil) hd hDi hbef g3) g2
    rw [hw] at hval
    have hwd : Region.wanted o (yielded ops a.tmps) = false := by simp only [Region.wanted, g1]; exact hval
    rw [if_neg (by rw [hwd]; simp)]
    have hu : VRel m (st p).s.dead v undef := by rw [hvu]; exact vrel_flat rfl
    cases hact : d.act with
    | false => exact ⟨fun _ _ => trivial, hK _ _ m p (hI.put hT hil hd hi hDi hbef hlt hget hI.pn (hI.still hd hact) (by rw [pend_more hd hna]; exact hI.rel) hI.ext (fun _ _ h => h) (fun _ h => h) hu)⟩
    | true =>
      obtain ⟨e1, e2⟩ := hI.act hT (Nat.le_of_lt hil) hd hDi hbef hact
      have e3 : (st (i + 1)).s = (st p).s := by rw [hs, e1]
      exact ⟨fun _ _ => trivial, hK _ _ m (i + 1) (hI.put hT hil hd hi hDi hbef hlt hget hil e2 (by rw [pend_more hd hna, e3]; exact hI.rel) (by rw [e3]; exact hI.ext) (fun _ _ h => h) (fun b h => by rw [e3]; exact h) (by rw [e3]; exact hu))⟩
  · -- it is carried out
    have hwd : Region.wanted o (yielded ops a.tmps) = true := by
      rcases hi.grd with ⟨h1, _⟩ | ⟨j, w2, t2, h1, h2, h3, h4⟩
      · simp [Region.wanted, h1]
      · rcases hgd with h | ⟨t, want, h, hw⟩
        · rw [h3] at h; cases h
        · rw [h3] at h
          cases h
          have hval := want_val (want := w2) (hI.named hT (Nat.le_of_lt hil) hd hDi hbef h4) h2
          rw [hw] at hval
          simp only [Region.wanted, h1]; exact hval
    rw [if_pos hwd]
    refine ⟨fun _ _ => trivial, ?_⟩
    have hsem : o.semAt (fen r).round a.eval = execOp a.eval o := by
      rcases hrd with rfl | hd'
      · rfl
      · exact Oper.semAt_eq _ _ _ (fun c e => by rw [e] at hd'; cases hd')
    rw [hsem]
    have hO := hI.operands hT (Nat.le_of_lt hil) hd hi hDi hbef
    have hcos : COS P B W0 (pendD pend infos base D) (st p).s m w (st i).vars (st i).loc (cOp P mask o.op o.type) ((execOp a.eval o).run P w) := cOp_ok hG hI.rel o.dst o.op hO o.type o.pos o.after o.guard
    obtain ⟨md, hmd⟩ := hi.cd
    have hcd := cOpD_ok P md mask o.op o.type
    rw [← hmd] at hcd
    -- a block that was laid ahead
    have comes : isAlloc d.cd = true → (∀ x, pendD pend infos base (more D i) x ↔ (pendD pend infos base D x ∧ x ≠ base + preNo (infos.take i))) ∧ pendD pend infos base D (base + preNo (infos.take i)) := by
      intro hal
      have hge : base ≤ base + preNo (infos.take i) := by omega
      refine ⟨fun x => ?_, .inr ⟨i, d, hd, hal, hDi, rfl⟩⟩
      constructor
      · rintro (h | ⟨j, e, h1, h2, h3, h4⟩)
        · exact ⟨.inl h, fun e => by have := hpl x h; omega⟩
        · have hj : j ≠ i := fun e => by rw [e, more_self] at h3; cases h3
          rw [more_ne hj] at h3
          refine ⟨.inr ⟨j, e, h1, h2, h3, h4⟩, fun e' => ?_⟩
          rcases Nat.lt_or_gt_of_ne hj with h | h
          · have := preNo_take infos j i e h h1 h2; omega
          · have := preNo_take infos i j d h hd hal; omega
      · rintro ⟨h | ⟨j, e, h1, h2, h3, h4⟩, hx⟩
        · exact .inl h
        · have hj : j ≠ i := fun e' => hx (by rw [h4, e'])
          exact .inr ⟨j, e, h1, h2, by rw [more_ne hj]; exact h3, h4⟩
    have hact := hi.act
    unfold ValP at hv
    cases hc : d.cd with
    | val g =>
      rw [hc] at hv hcd hact
      have hcd' : cOp P mask o.op o.type = .val g := hcd
      rw [hcd'] at hcos
      obtain ⟨u, hrun, hu⟩ := hcos
      obtain ⟨rfl, _⟩ := hv
      rw [hrun]
      exact hK _ _ m p (hI.put hT hil hd hi hDi hbef hlt hget hI.pn (hI.still hd hact) (by rw [pend_more hd (by rw [hc]; rfl)]; exact hI.rel) hI.ext (fun _ _ h => h) (fun _ h => h) hu)
    | look g =>
      rw [hc] at hv hcd hact
      have hcd' : cOp P mask o.op o.type = .look g := hcd
      rw [hcd'] at hcos
      obtain ⟨hg, _, _, hch⟩ := hv
      obtain ⟨u, hrun, hu⟩ := hcos v (hI.look hT hil hd hDi hbef hg hch)
      rw [hrun]
      exact hK _ _ m p (hI.put hT hil hd hi hDi hbef hlt hget hI.pn (hI.still hd hact) (by rw [pend_more hd (by rw [hc]; rfl)]; exact hI.rel) hI.ext (fun _ _ h => h) (fun _ h => h) hu)
    | act g =>
      rw [hc] at hv hcd hact
      have hcd' : cOp P mask o.op o.type = .act g := hcd
      rw [hcd'] at hcos
      have hact' : d.act = true := hact
      obtain ⟨e1, e2⟩ := hI.act hT (Nat.le_of_lt hil) hd hDi hbef hact'
      have har : AR P B W0 (pendD pend infos base D) (st p).s m w (g (st i).vars (st i).loc (st p).s) ((execOp a.eval o).run P w) := hcos
      rw [e1] at har
      have hpm := pend_more (pend := pend) (base := base) (D := D) hd (by rw [hc]; rfl)
      have hrel0 := hI.rel
      have hext0 := hI.ext
      rw [e1] at hrel0 hext0
      obtain ⟨hv1, _⟩ := hv
      rcases hv1 with hg | ⟨f, args, s1, hg, hr⟩ | ⟨b, args, s1, hg, hr⟩
      · rw [hg] at har
        obtain ⟨m', w', u, hres, hR', hE, hu⟩ := har
        have hfin := hK _ w' m' (i + 1) (hI.put hT hil hd hi hDi hbef hlt hget hil e2 (by rw [hpm]; exact hR') (hext0.trans hE) hE.mp (fun b h => by rw [e1] at h; exact hE.dead b h) hu)
        rcases hres with h | ⟨h, rfl⟩
        · rw [h]; exact hfin
        · rw [h]; exact hfin
      · rw [hg] at har
        obtain ⟨rfl, us, hres, hl⟩ := har
        rw [hres]
        have hcall := hcf.call (pendD pend infos base D) (st i).s m w f args us hrel0 hl
        rw [hr] at hcall
        refine ⟨fun h => (by cases h), callsIn_fen.2 (hcall _ fun m' w' u hR' hE hu => ?_)⟩
        exact hK _ w' m' (i + 1) (hI.put hT hil hd hi hDi hbef hlt hget hil e2 (by rw [hpm]; exact hR') (hext0.trans hE) hE.mp (fun b h => by rw [e1] at h; exact hE.dead b h) hu)
      · rw [hg] at har
        obtain ⟨rfl, us, l, N, z, hm, hres, hl⟩ := har
        have hy := hcf.yld b (pendD pend infos base D) (st i).s m w args us l N z hrel0 hm hl
        rw [hr] at hy
        obtain ⟨f, tmps, assign, body, w1, h3, h4⟩ := hy (fun e w'' => match e with
          | .returned v => Kn (a.put o.dst v) w''
          | .panicked chain => Q (.panic chain) a w''
          | .outgrown => LetsOut Q) fun m' w' u hR' hE hu => hK _ w' m' (i + 1) (hI.put hT hil hd hi hDi hbef hlt hget hil e2 (by rw [hpm]; exact hR') (hext0.trans hE) hE.mp (fun b h => by rw [e1] at h; exact hE.dead b h) hu)
        rw [hres, h3]
        refine ⟨fun h => (by cases h), (roundIn_fen h4).mono fun e w'' he => ?_⟩
        cases e <;> exact he
    | alloc z t =>
      rw [hc] at hv hcd hact
      obtain ⟨hop, zv, hz, rfl⟩ := hcd
      obtain ⟨hg, _, _, hch⟩ := hv
      obtain ⟨hg', rfl⟩ := preAt_ok (hI.look hT hil hd hDi hbef hg hch)
      obtain ⟨ti, hti, hz', hfl⟩ := tzero_some hz
      have hal : isAlloc d.cd = true := by rw [hc]; rfl
      have hbe : Nat.add base (preNo (takeK i infos)) = base + preNo (infos.take i) := by rw [takeK_eq]; rfl
      rw [hbe] at hg'
      obtain ⟨hpend, hmem⟩ := comes hal
      obtain ⟨m', q1, q2, q3, q4⟩ := hI.rel.comes hmem hpend hg' (C := zv.cells) (fun m' _ => lrel_cells (vrel_flat hfl) (by rintro rfl; cases hfl))
      rw [alloc_run hop hti hz', Oper.uponIn_value]
      exact hK _ _ m' p (hI.put hT hil hd hi hDi hbef hlt hget hI.pn (hI.still hd hact) q2
        ⟨fun b x h => q3 b x (hI.ext.mp b x h), fun b hb => (q4 b (by omega)).trans (hI.ext.same b hb), hI.ext.dead, hI.ext.next, hI.ext.lps⟩ q3 (fun _ h => h) (by rw [hbe]; exact .ptr _ _ _ _ _ q1))
    | lay e n g =>
      rw [hc] at hv hcd hact
      obtain ⟨t, parts, size, z, hop, he, hel, hle, rfl⟩ := hcd
      obtain ⟨hg, _, _, hch⟩ := hv
      obtain ⟨cs, hfill, hg', rfl⟩ := layAt_ok (hI.look hT hil hd hDi hbef hg hch)
      have hal : isAlloc d.cd = true := by rw [hc]; rfl
      have hbe : Nat.add base (preNo (takeK i infos)) = base + preNo (infos.take i) := by rw [takeK_eq]; rfl
      rw [hbe] at hg'
      obtain ⟨hpend, hmem⟩ := comes hal
      have hp : PRel m (st p).s.dead ((opdp mask parts.toList).get (st i).vars (st i).loc) (parts.map fun q => (q.1, a.eval q.2)).toList := by
        rw [Array.toList_map]
        exact opdp_ok (fun x hx => hO x (by rw [hop]; simpa [Op.operands] using hx))
      obtain ⟨es, g3, hrun⟩ := buildSlice_run (w := w) he hel hle hp hfill
      obtain ⟨m', q1, q2, q3, q4⟩ := hI.rel.comes hmem hpend hg' (C := es) (fun m' hm => g3.mono hm fun _ h => h)
      have hrun' : (execOp a.eval o).run P w = .ok (.value (.slice (some ⟨w.heap.size, 0, none⟩) n n)) { w with heap := w.heap.push (.cells es e) } := by
        obtain ⟨dst, op, type, pos, after, guard⟩ := o
        simp only at hop
        subst hop
        show ((do pure (.value (← Instr.buildSlice t n (parts.map fun q => (q.1, a.eval q.2)))) : Sem Next)).run P w = _
        simp [hrun]
      rw [hrun', Oper.uponIn_value]
      exact hK _ _ m' p (hI.put hT hil hd hi hDi hbef hlt hget hI.pn (hI.still hd hact) q2
        ⟨fun b x h => q3 b x (hI.ext.mp b x h), fun b hb => (q4 b (by omega)).trans (hI.ext.same b hb), hI.ext.dead, hI.ext.next, hI.ext.lps⟩ q3 (fun _ h => h) (by
          rw [hbe]
          exact .slice _ _ _ _ _ _ _ _ q1 (fun _ => (half2 n).symm) (Nat.le_of_eq (half2 n)) (fun h => by rw [show Nat.mul 2 n = 2 * n from rfl, exact2] at h; cases h)))
    | bad => rw [hc] at hv; exact hv.elim
end
end Go.Proofs.YtbbknbmmpkpgdaaGreatDoor.KAb
