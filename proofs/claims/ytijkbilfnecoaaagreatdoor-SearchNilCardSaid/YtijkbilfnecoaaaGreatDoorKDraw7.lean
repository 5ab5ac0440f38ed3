import Derived.Test.YtijkbilfnecoaaaGreatDoorKDraw6
namespace Go.Proofs.YtijkbilfnecoaaaGreatDoor.KAb
theorem binds_any (e : Edge) : Region.binds .any e = bindsB e := by
  unfold Region.binds bindsB
  cases e.ground <;> rfl
theorem set_count : ∀ (l : List Bool) (i : Nat), l[i]? = some false → ((l.set i true).filter (!·)).length + 1 = (l.filter (!·)).length := by
  intro l
  induction l with
  | nil => intro i h; simp at h
  | cons b l ih =>
    intro i h
    cases i with
    | zero => simp at h; subst h; simp
    | succ i =>
      have := ih i (by simpa using h)
      cases b <;> simp at this ⊢ <;> omega
section
variable {P : Program} {B : Nat} {W0 : World} {mask nt : Nat} {ops : Array Oper} {cf : CF} {base : Nat} {ds : DS} {infos : List DI} {st : Nat → DSt} {pend : Nat → Prop} {s s0 : AS} {m m0 : Mp} {w : World}
  {a : Act} {p i : Nat} {d : DI} {o : Oper}
theorem any_ok (hG : Good P) (hcf : CFS P B W0 cf) (hbase : base = s0.next) (hpl : ∀ b, pend b → b < s0.next) (hT : Trace P mask nt ops cf base infos st) {Q : Exit → Act → World → Prop}
    (hfin : ∀ (D : Nat → Bool) a w m p, (∀ j, j < infos.length → D j = true) → Inv P B W0 mask nt base ds infos st pend s0 m0 D a w m p → Q .normal a w) : ∀ (fuel : Nat) (listed : Array Bool) (a : Act) (w : World) (m : Mp) (p : Nat),
    listed.size = ops.size → (listed.toList.filter (!·)).length ≤ fuel → Inv P B W0 mask nt base ds infos st pend s0 m0 (fun j => listed.getD j false) a w m p → wpAny P .any ops Q fuel listed a w := by
  -- nothing is ready: all is done
  have done : ∀ (listed : Array Bool), listed.size = ops.size → Region.ready .any ops listed = [] → ∀ j, j < infos.length → listed.getD j false = true := by
    intro listed hsz hr j
    induction j using Nat.strongRecOn with
    | _ j ih =>
      intro hj
      have hjo : j < ops.size := by rw [← hT.kn.len]; exact hj
      cases hl : listed[j]'(by omega) with
      | true => rw [Array.getD_eq_getD_getElem?, Array.getElem?_eq_getElem (by omega), hl]; rfl
      | false =>
        exfalso
        obtain ⟨d, hd, hi⟩ := hT.kn.at_ j ops[j] (Array.getElem?_eq_getElem hjo)
        have : j ∈ Region.ready .any ops listed := by
          rw [mem_ready]
          refine ⟨by rw [Array.getD_eq_getD_getElem?, Array.getElem?_eq_getElem (by omega), hl]; rfl, ops[j], Array.getElem?_eq_getElem hjo, fun e he hb => ?_⟩
          rw [binds_any] at hb
          have hlt := hi.edge e (by simpa using he) hb
          exact ih e.on hlt (by omega)
        rw [hr] at this
        cases this
  intro fuel
  induction fuel with
  | zero =>
    intro listed a w m p hsz hc hI
    have hnil : Region.ready .any ops listed = [] := by
      cases hr : Region.ready .any ops listed with
      | nil => rfl
      | cons x xs =>
        exfalso
        have hx : x ∈ Region.ready .any ops listed := by rw [hr]; exact List.mem_cons_self
        obtain ⟨h1, o, ho, _⟩ := mem_ready.1 hx
        have hlt : x < listed.size := by rw [hsz]; exact (Array.getElem?_eq_some_iff.1 ho).1
        rw [Array.getD_eq_getD_getElem?, Array.getElem?_eq_getElem hlt] at h1
        have hf : listed[x] = false := h1
        have hmem : false ∈ listed.toList.filter (!·) := by
          rw [List.mem_filter]
          exact ⟨by rw [← hf]; exact Array.getElem_mem_toList _, rfl⟩
        have := List.length_pos_of_mem hmem
        omega
    exact ⟨hnil, hfin _ a w m p (done listed hsz hnil) hI⟩
  | succ fuel ih =>
    intro listed a w m p hsz hc hI
    refine ⟨fun hnil => hfin _ a w m p (done listed hsz hnil) hI, fun i hi => ?_⟩
    obtain ⟨h1, o, ho, h2⟩ := mem_ready.1 hi
    have hlt : i < listed.size := by rw [hsz]; exact (Array.getElem?_eq_some_iff.1 ho).1
    have hf : listed[i]? = some false := by
      rw [Array.getD_eq_getD_getElem?, Array.getElem?_eq_getElem hlt] at h1
      rw [Array.getElem?_eq_getElem hlt]
      exact congrArg some h1
    obtain ⟨d, hd, hinf⟩ := hT.kn.at_ i o ho
    have hDi : (fun j => listed.getD j false) i = false := by
      show listed.getD i false = false
      rw [Array.getD_eq_getD_getElem?, hf]; rfl
    have hbef : ∀ j, bit d.bef j = true → (fun j => listed.getD j false) j = true := by
      intro j hj
      obtain ⟨e, he, hb, r⟩ := hinf.bef j hj
      have hon : listed.getD e.on false = true := h2 e (by simpa using he) (by rw [binds_any]; exact hb)
      rcases r with rfl | ⟨d', g1, g2⟩
      · exact hon
      · exact hI.cl e.on d' g1 hon j g2
    have hmore : more (fun j => listed.getD j false) i = fun j => (listed.setIfInBounds i true).getD j false := by
      funext j
      simp only [more]
      rw [Array.getD_eq_getD_getElem?, Array.getD_eq_getD_getElem?, Array.getElem?_setIfInBounds]
      by_cases e : j = i
      · subst e; simp [hlt]
      · simp [e, Ne.symm e]
    refine hI.step hG hcf hbase hpl hT ho hd hDi hbef fun a' w' m' p' hI' => ?_
    rw [hmore] at hI'
    refine ih _ a' w' m' p' (by simp [hsz]) ?_ hI'
    have := set_count listed.toList i (by simpa using hf)
    rw [Array.toList_setIfInBounds]
    omega
/-- THE REGIONS THAT DRAW THEIR ORDER. -/
theorem draw_ok (hG : Good P) : DrawS P B W0 := by
  intro mask nt ops id cf hcf pend s m w vars loc ds a Q hR hF h
  unfold drawK at h
  cases hk : infosOf P mask ops ops.toList with
  | none => rw [hk] at h; exact h.elim
  | some infos =>
    rw [hk] at h
    have h' : OS P B W0 pend mask nt s m ((dgo mask nt infos infos 0).run cf s.next vars .nil ds (preK infos s) [] []) Q := h
    have hnf : ∀ x, (dgo mask nt infos infos 0).run cf s.next vars .nil ds (preK infos s) [] [] ≠ .fail x := fun x e => by rw [e] at h'; exact h'.elim
    obtain ⟨st, g0, g1, g2, g3⟩ := dgo_trace hnf infos 0 ⟨vars, .nil, preK infos s, [], []⟩ rfl
    have hkn := infos_known hk
    have hT : Trace P mask nt ops cf s.next infos st := ⟨hkn, fun k d hd => by simpa using g1 k d hd, by rw [g0], g3⟩
    rw [g2] at h'
    refine wp_region_any hG.mixed ?_
    obtain ⟨hpre, hext⟩ := preK_ok infos pend s hR
    refine any_ok (ds := ds) (s0 := s) (m0 := m) hG hcf rfl hR.plt hT ?_ ops.size _ a _ m 0 (by simp) ?_ ?_
    · intro D a' w' m' p' hall hI
      have hpn := hI.pn
      have hs : (st infos.length).s = (st p').s := hT.heap_same hpn (Nat.le_refl _) fun k e hk1 hk2 he => by
        cases hea : e.act with
        | false => rfl
        | true => have := (hI.acts k e he hea).1 (hall k hk2); omega
      have hrel := hI.rel
      have hE := hI.ext
      have hpe : ∀ b, pendD pend infos s.next D b ↔ pend b := by
        intro b
        constructor
        · rintro (hb | ⟨j, e, h1, _, h3, _⟩)
          · exact hb
          · rw [hall j (List.getElem?_eq_some_iff.1 h1).1] at h3
            cases h3
        · exact .inl
      refine h' m' a' w' (by rw [hs]; exact hrel.pendEq hpe) (by rw [hs]; exact hE) ⟨fun t => ?_, hI.sz, by rw [hs]; exact hI.df⟩
      obtain ⟨q, hq, hw, hv⟩ := hI.tm t
      have : (st infos.length).get mask t = (st q).get mask t := hT.get_same hq (Nat.le_refl _) fun k e hk1 hk2 he het => by
        have := (hw k e he het).1 (hall k hk2); omega
      rw [hs]
      show VRel m' _ ((st infos.length).get mask t) _
      rw [this]; exact hv
    · simp
    · have hst0 : (st 0).s = preK infos s := by rw [g0]
      have hD0 : ∀ j, (Array.replicate ops.size false).getD j false = false := fun j => by
        rw [Array.getD_eq_getD_getElem?, Array.getElem?_replicate]; split <;> rfl
      refine ⟨Nat.zero_le _, fun j e _ _ => by rw [hD0]; simp, ?_, by rw [hst0]; exact hext, ?_, hF.sz, by rw [hst0]; exact hF.df.mono hext.mp hext.dead, fun i e _ hj => by rw [hD0] at hj; cases hj⟩
      · rw [hst0]
        refine (hpre.drawn (w.drawn + 1)).pendEq fun b => or_congr Iff.rfl ⟨?_, ?_⟩
        · rintro ⟨i, d, q1, q2, q3⟩; exact ⟨i, d, q1, q2, hD0 i, q3⟩
        · rintro ⟨i, d, q1, q2, _, q3⟩; exact ⟨i, d, q1, q2, q3⟩
      · intro t
        refine ⟨0, Nat.zero_le _, fun j e _ _ => by rw [hD0]; simp, ?_⟩
        rw [hst0]
        have := (hF.noLoc).tm t
        show VRel m _ ((opd mask (.tmp t)).get (st 0).vars (st 0).loc) _
        rw [g0]
        exact this.mono hext.mp hext.dead
/-- WHAT THE EVALUATOR ANSWERS THE MACHINE ANSWERS. -/
theorem aCall_calls (hG : Good P) {masks : Nat → Nat} {lf : Nat} (n : Nat) : CFS P B W0 (aCall P masks lf n) := aCall_ok hG (draw_ok hG) n
end
end Go.Proofs.YtijkbilfnecoaaaGreatDoor.KAb
