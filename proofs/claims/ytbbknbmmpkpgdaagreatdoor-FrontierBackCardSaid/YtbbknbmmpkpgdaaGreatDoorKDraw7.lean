import Derived.Test.YtbbknbmmpkpgdaaGreatDoorKDraw6
namespace Go.Proofs.YtbbknbmmpkpgdaaGreatDoor.KAb
theorem binds_any (e : Edge) : Region.binds .any e = bindsB e := by
  unfold Region.binds bindsB
  cases e.ground <;> rfl
theorem set_count : ∀ (l : List Bool) (i : Nat), l[i]? = some false → ((l.set i true).filter (!·)).length + 1 = (l.filter (!·)).length := by
  intro l
  induction l with
  | nil => intro i h; simp at h
  | cons b l ih =>
    intro i h
    cases i with
    | zero => simp at h; subst h; simp
    | succ i =>
      have := ih i (by simpa using h)
      cases b <;> simp at this ⊢ <;> omega
section
variable {P : Program} {B : Nat → Prop} {W0 : World} {mask nt : Nat} {ops : Array Oper} {cf : CF} {base : Nat} {ds : DS} {infos : List DI} {N : Nat} {st : Nat → DSt} {pend : Nat → Prop} {s s0 : AS} {m m0 : Mp} {w : World}
  {a : Act} {p i : Nat} {d : DI} {o : Oper}
theorem any_ok {r : Option Nat} {n : Nat} (hG : Good P) (hcf : CFS P B W0 cf) (hbase : base = s0.next) (hpl : ∀ b, pend b → b < s0.next) (hT : Trace P mask nt ops cf base infos N st) (hrd : r = none ∨ ∀ o ∈ ops.toList, isDefer o.op = false) {Q : Exit → Act → World → Prop}
    (hlate : N < infos.length → ∀ j d, infos[j]? = some d → N < j → bit d.bef N = true)
    (hpan : ∀ (D : Nat → Bool) a w m p o d Kn, Inv P B W0 mask nt base ds infos N st pend s0 m0 D a w m p → ops[N]? = some o → infos[N]? = some d → (∀ j, bit d.bef j = true → D j = true) → wpOpIn (fen r) n P ops Q N Kn a w)
    (hfin : ∀ (D : Nat → Bool) a w m p, (∀ j, j < infos.length → D j = true) → Inv P B W0 mask nt base ds infos N st pend s0 m0 D a w m p → Q .normal a w) : ∀ (fuel : Nat) (listed : Array Bool) (a : Act) (w : World) (m : Mp) (p : Nat),
    listed.size = ops.size → (listed.toList.filter (!·)).length ≤ fuel → Inv P B W0 mask nt base ds infos N st pend s0 m0 (fun j => listed.getD j false) a w m p → wpAnyIn (fen r) n P .any ops Q fuel listed a w := by
  -- nothing is ready: all is done
  have done : ∀ (listed : Array Bool), listed.size = ops.size → Region.ready .any ops listed = [] → ∀ j, j < infos.length → listed.getD j false = true := by
    intro listed hsz hr j
    induction j using Nat.strongRecOn with
    | _ j ih =>
      intro hj
      have hjo : j < ops.size := by rw [← hT.kn.len]; exact hj
      cases hl : listed[j]'(by omega) with
      | true => rw [Array.getD_eq_getD_getElem?, Array.getElem?_eq_getElem (by omega), hl]; rfl
      | false =>
        exfalso
        obtain ⟨d, hd, hi⟩ := hT.kn.at_ j ops[j] (Array.getElem?_eq_getElem hjo)
        have : j ∈ Region.ready .any ops listed := by
          rw [mem_ready]
          refine ⟨by rw [Array.getD_eq_getD_getElem?, Array.getElem?_eq_getElem (by omega), hl]; rfl, ops[j], Array.getElem?_eq_getElem hjo, fun e he hb => ?_⟩
          rw [binds_any] at hb
          have hlt := hi.edge e (by simpa using he) hb
          exact ih e.on hlt (by omega)
        rw [hr] at this
        cases this
  intro fuel
  induction fuel with
  | zero =>
    intro listed a w m p hsz hc hI
    have hnil : Region.ready .any ops listed = [] := by
      cases hr : Region.ready .any ops listed with
      | nil => rfl
      | cons x xs =>
        exfalso
        have hx : x ∈ Region.ready .any ops listed := by rw [hr]; exact List.mem_cons_self
        obtain ⟨h1, o, ho, _⟩ := mem_ready.1 hx
        have hlt : x < listed.size := by rw [hsz]; exact (Array.getElem?_eq_some_iff.1 ho).1
        rw [Array.getD_eq_getD_getElem?, Array.getElem?_eq_getElem hlt] at h1
        have hf : listed[x] = false := h1
        have hmem : false ∈ listed.toList.filter (!·) := by
          rw [List.mem_filter]
          exact ⟨by rw [← hf]; exact Array.getElem_mem_toList _, rfl⟩
        have := List.length_pos_of_mem hmem
        omega
    exact ⟨hnil, hfin _ a w m p (done listed hsz hnil) hI⟩
  | succ fuel ih =>
    intro listed a w m p hsz hc hI
    refine ⟨fun hnil => hfin _ a w m p (done listed hsz hnil) hI, fun i hi => ?_⟩
    obtain ⟨h1, o, ho, h2⟩ := mem_ready.1 hi
    have hlt : i < listed.size := by rw [hsz]; exact (Array.getElem?_eq_some_iff.1 ho).1
    have hf : listed[i]? = some false := by
      rw [Array.getD_eq_getD_getElem?, Array.getElem?_eq_getElem hlt] at h1
      rw [Array.getElem?_eq_getElem hlt]
      exact congrArg some h1
    obtain ⟨d, hd, hinf⟩ := hT.kn.at_ i o ho
    have hDi : (fun j => listed.getD j false) i = false := by
      show listed.getD i false = false
      rw [Array.getD_eq_getD_getElem?, hf]; rfl
    have hbef : ∀ j, bit d.bef j = true → (fun j => listed.getD j false) j = true := by
      intro j hj
      obtain ⟨e, he, hb, r⟩ := hinf.bef j hj
      have hon : listed.getD e.on false = true := h2 e (by simpa using he) (by rw [binds_any]; exact hb)
      rcases r with rfl | ⟨d', g1, g2⟩
      · exact hon
      · exact hI.cl e.on d' g1 hon j g2
    have hmore : more (fun j => listed.getD j false) i = fun j => (listed.setIfInBounds i true).getD j false := by
      funext j
      simp only [more]
      rw [Array.getD_eq_getD_getElem?, Array.getD_eq_getD_getElem?, Array.getElem?_setIfInBounds]
      by_cases e : j = i
      · subst e; simp [hlt]
      · simp [e, Ne.symm e]
    have hilen : i < infos.length := (List.getElem?_eq_some_iff.1 hd).1
    rcases Nat.lt_trichotomy i N with hiN | hiN | hiN
    rotate_left
    · subst hiN
      exact hpan _ a w m p o d _ hI ho hd hbef
    · have h1 := hI.dn N (hbef N (hlate (by omega) i d hd hiN))
      omega
    refine hI.step hG hcf hbase hpl hT hiN ho hd hDi (hrd.imp (fun h => h) fun h => h o (by rw [← Array.getElem?_toList] at ho; exact List.mem_of_getElem? ho)) hbef fun a' w' m' p' hI' => ?_
    rw [hmore] at hI'
    refine ih _ a' w' m' p' (by simp [hsz]) ?_ hI'
    have := set_count listed.toList i (by simpa using hf)
    rw [Array.toList_setIfInBounds]
    omega
/-! A panic within a region. -/
theorem panicK_out {v : Value} {vars : L} {hist : List AS} {chks : List Chk} {s' : AS} {all : List DI} {out : Out} (hf : ∀ w, out ≠ .fail w) (h : (panicK mask i d all).run base vars ds hist chks v s' = out) :
    (∀ j e, all[j]? = some e → i < j → bit e.bef i = true) ∧ chks.all (chkOk (hist.length - 1) hist) = true ∧ deadK d (killK d all 0 base s') all 0 base = true ∧ out = .panic v (hideK mask all vars) .nil ds (killK d all 0 base s') := by
  unfold panicK at h
  simp only [bif', brec] at h
  split at h
  · rename_i hl
    simp only at h
    split at h
    · rename_i hc
      unfold panicOut at h
      simp only [bif', brec] at h
      split at h
      · rename_i hd
        refine ⟨fun j e he hj => ?_, ?_, hd, h.symm⟩
        · rw [allK_eq, dropK_eq, List.all_eq_true] at hl
          exact hl e (List.mem_of_getElem? (i := j - (i + 1)) (by rw [List.getElem?_drop, show (Nat.add i 1) + (j - (i + 1)) = j by show i + 1 + _ = _; omega]; exact he))
        · rw [allK_eq, lenK_eq] at hc; exact hc
      · exact absurd h.symm (hf _)
    · exact absurd h.symm (hf _)
  · exact absurd h.symm (hf _)
theorem dropAt_ok (hR : Rel P B W0 pend s m w) (b : Nat) : Rel P B W0 pend (dropAt b s) m w ∧ Ext s m (dropAt b s) m := by
  unfold dropAt
  split
  · rename_i hg
    obtain ⟨h1, h2, _⟩ := hR.kill (hR.fresh _ _ hg) (fun k hk => by rw [hg] at hk; cases hk)
    exact ⟨h1, h2⟩
  · exact ⟨hR, Ext.refl _ _⟩
theorem killK_cons (d e : DI) (l : List DI) (j b : Nat) (s : AS) : killK d (e :: l) j b s = if isAlloc e.cd = true then killK d l (j + 1) (b + 1) (if bit d.bef j = true then s else dropAt b s) else killK d l (j + 1) b s := by
  show @Bool.rec (fun _ => AS) (killK d l (j + 1) b s) (killK d l (j + 1) (b + 1) (@Bool.rec (fun _ => AS) (dropAt b s) s (bit d.bef j))) (isAlloc e.cd) = _
  rw [brec, brec]
theorem killK_ok : ∀ (l : List DI) (j b : Nat) (s : AS), Rel P B W0 pend s m w → Rel P B W0 pend (killK d l j b s) m w ∧ Ext s m (killK d l j b s) m := by
  intro l
  induction l with
  | nil => intro j b s hR; exact ⟨hR, Ext.refl _ _⟩
  | cons e l ih =>
    intro j b s hR
    rw [killK_cons]
    split
    · split
      · exact ih _ _ _ hR
      · obtain ⟨h1, h2⟩ := dropAt_ok hR b
        obtain ⟨h3, h4⟩ := ih (j + 1) (b + 1) _ h1
        exact ⟨h3, h2.trans h4⟩
    · exact ih _ _ _ hR
theorem deadK_ok (d : DI) (s : AS) : ∀ (l : List DI) (j b : Nat), deadK d s l j b = true → ∀ k e, l[k]? = some e → isAlloc e.cd = true → bit d.bef (j + k) = false → s.get (b + preNo (l.take k)) = some .dead := by
  intro l
  induction l with
  | nil => intro j b _ k e h; simp at h
  | cons x l ih =>
    intro j b h k e he ha hb
    have h' : @Bool.rec (fun _ => Bool) (deadK d s l (j + 1) b) (bif' (bif' (bit d.bef j) true (isDead b s)) (deadK d s l (j + 1) (b + 1)) false) (isAlloc x.cd) = true := h
    rw [brec] at h'
    cases k with
    | zero =>
      simp at he
      subst he
      rw [if_pos ha] at h'
      obtain ⟨h1, _⟩ := bif_true h'
      rw [show bit d.bef j = false from hb] at h1
      have h2 : isDead b s = true := h1
      unfold isDead at h2
      split at h2
      · rename_i hg; simpa [preNo] using hg
      · cases h2
    | succ k =>
      rw [List.take_succ_cons, preNo_cons]
      split at h'
      · rename_i hx
        obtain ⟨_, h2⟩ := bif_true h'
        have := ih (j + 1) (b + 1) h2 k e (by simpa using he) ha (by rw [show j + 1 + k = j + (k + 1) by omega]; exact hb)
        rw [if_pos hx, show b + (preNo (l.take k) + 1) = b + 1 + preNo (l.take k) by omega]
        exact this
      · rename_i hx
        have := ih (j + 1) b h' k e (by simpa using he) ha (by rw [show j + 1 + k = j + (k + 1) by omega]; exact hb)
        rw [if_neg hx, Nat.add_zero]
        exact this
theorem Rel.unpend {p q : Nat → Prop} (hR : Rel P B W0 p s m w) (hqp : ∀ b, q b → p b) (hd : ∀ b, p b → ¬ q b → s.get b = some .dead) : Rel P B W0 q s m w := by
  refine ⟨hR.fresh, fun b o hg hq => ?_, fun b hb => hR.pnone b (hqp b hb), fun b hb => hR.plt b (hqp b hb), hR.mlt, hR.inj, hR.old, hR.size, hR.os, hR.out, hR.glob⟩
  by_cases hp : p b
  · have := hd b hp hq
    rw [hg] at this
    cases this
    exact True.intro
  · exact hR.live b o hg hp
theorem hideK_cons (mask : Nat) (e : DI) (l : List DI) (vars : L) : hideK mask (e :: l) vars = match e.dst with | some t => if bit mask t = true then setL t poison (hideK mask l vars) else hideK mask l vars | none => hideK mask l vars := by
  show (match e.dst with | some t => bif' (bit mask t) (setL t poison (hideK mask l vars)) (hideK mask l vars) | none => hideK mask l vars) = _
  cases e.dst with
  | none => rfl
  | some t => simp only [bif', brec]
theorem hideK_ok (vars : L) (t : Nat) (hb : bit mask t = true) : ∀ (l : List DI), lkL t (hideK mask l vars) poison = poison ∨ ((∀ (j : Nat) (e : DI), l[j]? = some e → e.dst ≠ some t) ∧ lkL t (hideK mask l vars) poison = lkL t vars poison) := by
  intro l
  induction l with
  | nil => exact .inr ⟨fun j e h => by simp at h, rfl⟩
  | cons x l ih =>
    rw [hideK_cons]
    have skip : x.dst ≠ some t → (lkL t (hideK mask l vars) poison = poison ∨ ((∀ (j : Nat) (e : DI), (x :: l)[j]? = some e → e.dst ≠ some t) ∧ lkL t (hideK mask l vars) poison = lkL t vars poison)) := by
      intro hx
      rcases ih with h | ⟨h1, h2⟩
      · exact .inl h
      · refine .inr ⟨fun j e he => ?_, h2⟩
        cases j with
        | zero => simp at he; subst he; exact hx
        | succ j => exact h1 j e (by simpa using he)
    cases hx : x.dst with
    | none => exact skip (by rw [hx]; simp)
    | some k =>
      simp only
      split
      · rename_i hk
        rw [lkL_setL]
        by_cases e : t = k
        · exact .inl (if_pos e)
        · rw [if_neg e]
          exact skip (by rw [hx]; intro h; exact e (Option.some.inj h).symm)
      · rename_i hk
        exact skip (by rw [hx]; intro h; rw [Option.some.inj h] at hk; exact hk hb)
theorem pan_ok {r : Option Nat} {n N : Nat} (hG : Good P) {ops : Array Oper} {cf : CF} (hcf : CFS P B W0 cf) {st : Nat → DSt} {infos : List DI} {ds : DS} {Q : Exit → Act → World → Prop} (hT : Trace P mask nt ops cf base infos N st) (hrd : r = none ∨ ∀ o ∈ ops.toList, isDefer o.op = false)
    {d : DI} {out : Out} (hd : infos[N]? = some d) (hf : ∀ w, out ≠ .fail w) (hp : PanicP mask cf base ds infos N d (st N) out) {s0 : AS} {m0 : Mp} (h' : OS P B W0 pend mask nt s0 m0 out Q)
    {D : Nat → Bool} {a : Act} {w : World} {m : Mp} {p : Nat} {o : Oper} {Kn : Act → World → Prop} (hI : Inv P B W0 mask nt base ds infos N st pend s0 m0 D a w m p) (ho : ops[N]? = some o) (hbef : ∀ j, bit d.bef j = true → D j = true) : wpOpIn (fen r) n P ops Q N Kn a w := by
  obtain ⟨g, v, s', hcdg, hcall, hgd, hrun⟩ := hp
  obtain ⟨hlate, _, hdead, rfl⟩ := panicK_out hf hrun
  have hDi : D N = false := by
    cases hDN : D N with
    | false => rfl
    | true => exact absurd (hI.dn N hDN) (Nat.lt_irrefl _)
  obtain ⟨o', ho', hi⟩ := hT.kn.infoAt hd
  rw [ho] at ho'
  cases ho'
  have hrd' : r = none ∨ isDefer o.op = false := hrd.imp (fun h => h) fun h => h o (by rw [← Array.getElem?_toList] at ho; exact List.mem_of_getElem? ho)
  unfold wpOpIn
  rw [ho]
  simp only
  have hwd : Region.wanted o (yielded ops a.tmps) = true := by
    rcases hi.grd with ⟨h1, _⟩ | ⟨j, w2, t2, h1, h2, h3, h4⟩
    · simp [Region.wanted, h1]
    · rcases hgd with h | ⟨t, want, h, hw⟩
      · rw [h3] at h; cases h
      · rw [h3] at h
        cases h
        have hval := want_val (want := w2) (hI.named hT (Nat.le_refl _) hd hDi hbef h4) h2
        rw [hw] at hval
        simp only [Region.wanted, h1]; exact hval
  rw [if_pos hwd]
  refine ⟨fun _ _ => trivial, ?_⟩
  have hsem : o.semAt (fen r).round a.eval = execOp a.eval o := by
    rcases hrd' with rfl | hd'
    · rfl
    · exact Oper.semAt_eq _ _ _ (fun c e => by rw [e] at hd'; cases hd')
  rw [hsem]
  have hO := hI.operands hT (Nat.le_refl _) hd hi hDi hbef
  have hcos : COS P B W0 (pendD pend infos base D) (st p).s m w (st N).vars (st N).loc (cOp P mask o.op o.type) ((execOp a.eval o).run P w) := cOp_ok hG hI.rel o.dst o.op hO o.type o.pos o.after o.guard
  obtain ⟨md, hmd⟩ := hi.cd
  have hcd := cOpD_ok P md mask o.op o.type
  have hact := hi.act
  rw [← hmd, hcdg] at hcd
  rw [hcdg] at hact
  have hcd' : cOp P mask o.op o.type = .act g := hcd
  rw [hcd'] at hcos
  obtain ⟨e1, _⟩ := hI.act hT (Nat.le_refl _) hd hDi hbef hact
  have har : AR P B W0 (pendD pend infos base D) (st p).s m w (g (st N).vars (st N).loc (st p).s) ((execOp a.eval o).run P w) := hcos
  have htm := hI.tm
  have hdf := hI.df
  have hrel0 := hI.rel
  have hext0 := hI.ext
  rw [e1] at har htm hdf hrel0 hext0
  -- where the call's panic leads
  have fin : ∀ m' w' u, Rel P B W0 (pendD pend infos base D) s' m' w' → Ext (st N).s m s' m' → VRel m' s'.dead v u → Q (.panic [{ v := u, recovered := false }]) a w' := by
    intro m' w' u hR' hE hu
    obtain ⟨k1, k2⟩ := killK_ok (d := d) infos 0 base s' hR'
    have hx := hE.trans k2
    refine h' m' a w' u (k1.unpend (fun b hb => .inl hb) fun b hb hnb => ?_) (hext0.trans hx) ⟨fun t => ?_, hI.sz, hdf.mono hx.mp hx.dead⟩ (hu.mono k2.mp k2.dead)
    · rcases hb with hb | ⟨j, e, h1, h2, h3, rfl⟩
      · exact absurd hb hnb
      · refine deadK_ok d _ infos 0 base hdead j e h1 h2 ?_
        rw [Nat.zero_add]
        cases hbj : bit d.bef j with
        | false => rfl
        | true => rw [hbef j hbj] at h3; cases h3
    · rw [opd_tmp]
      split
      · rename_i hb
        rcases hideK_ok (mask := mask) (st N).vars t hb infos with h | ⟨h1, h2⟩
        · rw [h]; exact .poison _
        · rw [h2]
          obtain ⟨q, hq, _, hv⟩ := htm t
          have hsame : (st N).get mask t = (st q).get mask t := hT.get_same hq (Nat.le_refl _) fun k e _ _ he => h1 k e he
          have hg : (st N).get mask t = lkL t (st N).vars poison := by
            show (opd mask (.tmp t)).get (st N).vars (st N).loc = _
            rw [opd_tmp, if_pos hb]
          rw [← hg, hsame]
          exact hv.mono hx.mp hx.dead
      · exact .poison _
  rcases hcall with ⟨f, args, s1, hg, hr⟩ | ⟨b, args, s1, hg, hr⟩
  · rw [hg] at har
    obtain ⟨rfl, us, hres, hl⟩ := har
    rw [hres]
    have hc := hcf.call (pendD pend infos base D) (st N).s m w f args us hrel0 hl
    rw [hr] at hc
    exact ⟨fun h => (by cases h), callsIn_fen.2 (hc _ fun m' w' u hR' hE hu => fin m' w' u hR' hE hu)⟩
  · rw [hg] at har
    obtain ⟨rfl, us, l, N', z, hm, hres, hl⟩ := har
    have hy := hcf.yld b (pendD pend infos base D) (st N).s m w args us l N' z hrel0 hm hl
    rw [hr] at hy
    exact hy.elim
theorem draw_go {r : Option Nat} {n : Nat} (hG : Good P) {ops : Array Oper} {id : Nat} {cf : CF} (hcf : CFS P B W0 cf) {vars loc : L} {ds : DS} {Q : Exit → Act → World → Prop} {md : Bool} {infos : List DI} (hk : infosOf P md mask ops ops.toList = some infos) (hrd : r = none ∨ ∀ o ∈ ops.toList, isDefer o.op = false) (hints : List (List Value))
    (hR : Rel P B W0 pend s m w) (hF : FRel mask nt m s.dead vars loc ds a) (h' : OS P B W0 pend mask nt s m ((dgo mask nt infos infos 0).run cf s.next vars .nil ds (preK infos hints s) [] []) Q) : (Code.region id ops true).wpIn (fen r) n P Q a w := by
  generalize hout : (dgo mask nt infos infos 0).run cf s.next vars .nil ds (preK infos hints s) [] [] = out at h'
  have hnf : ∀ x, out ≠ .fail x := fun x e => by rw [e] at h'; exact h'.elim
  obtain ⟨st, N, g0, gN, g1, g2⟩ := dgo_trace hnf infos 0 ⟨vars, .nil, preK infos hints s, [], []⟩ hout
  have hkn := infos_known hk
  have hchk : (st N).chks.all (chkOk (lenK (st N).hist) ((st N).s :: (st N).hist)) = true := by
    rcases g2 with ⟨_, _, h⟩ | ⟨d, _, hp⟩
    · exact h
    · obtain ⟨g, v, s', _, _, _, hrun⟩ := hp
      obtain ⟨_, h, _, _⟩ := panicK_out hnf hrun
      rw [lenK_eq]
      simpa using h
  have hT : Trace P mask nt ops cf s.next infos N st := ⟨hkn, gN, fun k d hkN hd => by simpa using g1 k d hkN hd, by rw [g0], hchk⟩
  refine wpIn_region_any hG.mixed ?_
  obtain ⟨hpre, hext⟩ := preK_ok infos hints pend s hR
  refine any_ok (ds := ds) (s0 := s) (m0 := m) hG hcf rfl hR.plt hT hrd ?_ ?_ ?_ ops.size _ a _ m 0 (by simp) ?_ ?_
  · intro hlt j d hd hj
    rcases g2 with ⟨h, _⟩ | ⟨d', _, hp⟩
    · omega
    · obtain ⟨g, v, s', _, _, _, hrun⟩ := hp
      obtain ⟨h, _⟩ := panicK_out hnf hrun
      rw [Nat.zero_add] at h
      exact h j d hd hj
  · intro D a' w' m' p' o d Kn hI ho hd hbef
    rcases g2 with ⟨h, _⟩ | ⟨d', hd', hp⟩
    · have := (List.getElem?_eq_some_iff.1 hd).1; omega
    · rw [hd] at hd'
      cases hd'
      rw [Nat.zero_add] at hp
      exact pan_ok hG hcf hT hrd hd hnf hp h' hI ho hbef
  · intro D a' w' m' p' hall hI
    have hN : N = infos.length := by
      rcases Nat.lt_or_ge N infos.length with h | h
      · exact absurd (hI.dn N (hall N h)) (Nat.lt_irrefl _)
      · omega
    rcases g2 with ⟨_, g2, _⟩ | ⟨d', hd', _⟩
    rotate_left
    · have := (List.getElem?_eq_some_iff.1 hd').1; omega
    subst g2
    have hpn := hI.pn
    have hs : (st N).s = (st p').s := hT.heap_same hpn (Nat.le_refl _) fun k e hk1 hk2 he => by
      cases hea : e.act with
      | false => rfl
      | true => have := (hI.acts k e he hea).1 (hall k (by omega)); omega
    have hrel := hI.rel
    have hE := hI.ext
    have hpe : ∀ b, pendD pend infos s.next D b ↔ pend b := by
      intro b
      constructor
      · rintro (hb | ⟨j, e, h1, _, h3, _⟩)
        · exact hb
        · rw [hall j (List.getElem?_eq_some_iff.1 h1).1] at h3
          cases h3
      · exact .inl
    refine h' m' a' w' (by rw [hs]; exact hrel.pendEq hpe) (by rw [hs]; exact hE) ⟨fun t => ?_, hI.sz, by rw [hs]; exact hI.df⟩
    obtain ⟨q, hq, hw, hv⟩ := hI.tm t
    have : (st N).get mask t = (st q).get mask t := hT.get_same hq (Nat.le_refl _) fun k e hk1 hk2 he het => by
      have := (hw k e he het).1 (hall k (by omega)); omega
    rw [hs]
    show VRel m' _ ((st N).get mask t) _
    rw [this]; exact hv
  · simp
  · have hst0 : (st 0).s = preK infos hints s := by rw [g0]
    have hD0 : ∀ j, (Array.replicate ops.size false).getD j false = false := fun j => by
      rw [Array.getD_eq_getD_getElem?, Array.getElem?_replicate]; split <;> rfl
    refine ⟨Nat.zero_le _, fun j e _ _ => by rw [hD0]; simp, ?_, by rw [hst0]; exact hext, ?_, hF.sz, by rw [hst0]; exact hF.df.mono hext.mp hext.dead, fun i e _ hj => (by rw [hD0] at hj; cases hj), fun j hj => (by rw [hD0] at hj; cases hj)⟩
    · rw [hst0]
      refine (hpre.drawn (w.drawn + 1)).pendEq fun b => or_congr Iff.rfl ⟨?_, ?_⟩
      · rintro ⟨i, d, q1, q2, q3⟩; exact ⟨i, d, q1, q2, hD0 i, q3⟩
      · rintro ⟨i, d, q1, q2, _, q3⟩; exact ⟨i, d, q1, q2, q3⟩
    · intro t
      refine ⟨0, Nat.zero_le _, fun j e _ _ => by rw [hD0]; simp, ?_⟩
      rw [hst0]
      have := (hF.noLoc).tm t
      show VRel m _ ((opd mask (.tmp t)).get (st 0).vars (st 0).loc) _
      rw [g0]
      exact this.mono hext.mp hext.dead
/-- THE REGIONS THAT DRAW THEIR ORDER. -/
theorem draw_ok (hG : Good P) : DrawS P B W0 := by
  intro r n mask nt ops id cf hcf hrd pend s m w vars loc ds a Q hR hF h
  unfold drawK at h
  cases hk : infosOf P false mask ops ops.toList with
  | some infos =>
    rw [hk] at h
    exact draw_go hG hcf hk hrd [] hR hF h
  | none =>
    rw [hk] at h
    cases hk2 : infosOf P true mask ops ops.toList with
    | none => rw [hk2] at h; exact h.elim
    | some infos =>
      rw [hk2] at h
      exact draw_go hG hcf hk2 hrd _ hR hF h
/-- WHAT THE EVALUATOR ANSWERS THE MACHINE ANSWERS. -/
theorem aCall_calls (hG : Good P) {masks : Nat → Nat} {lf : Nat} (n : Nat) : CFS P B W0 (aCall P masks lf n) := aCall_ok hG (draw_ok hG) n
end
end Go.Proofs.YtbbknbmmpkpgdaaGreatDoor.KAb
