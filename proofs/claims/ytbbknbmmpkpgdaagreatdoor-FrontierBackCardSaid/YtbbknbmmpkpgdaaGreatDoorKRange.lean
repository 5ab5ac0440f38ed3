import Derived.Test.YtbbknbmmpkpgdaaGreatDoorKCode
import Derived.RangeFuncRecord
namespace Go.Proofs.YtbbknbmmpkpgdaaGreatDoor.KAb
section
variable {P : Program} {B : Nat → Prop} {W0 : World} {pend : Nat → Prop} {s : AS} {m : Mp} {w : World} {mask nt : Nat} {vars loc : L} {ds : DS} {a : Act} {Q : Exit → Act → World → Prop}
theorem isGo_ok {g : FuncId} (h : isGo P g = true) : ∃ fn c, P.funcs[g]? = some fn ∧ fn.body = some c := by
  unfold isGo at h
  split at h
  · rename_i fn hf
    split at h
    · rename_i c hc; exact ⟨fn, c, hf, hc⟩
    · cases h
  · cases h
/-- The record of a range, at a block. -/
theorem Rel.loopAt (hR : Rel P B W0 pend s m w) {b c N z : Nat} (hm : m b = some (c, N, z)) {k : LoopK} (hg : s.get b = some (.lp k)) : ∃ r, w.heap[c]? = some (.loop r) ∧ ¬ B c ∧ LpR m s.dead r k := by
  obtain ⟨c', r, h⟩ := hR.live b _ hg (hR.not_pend hm)
  obtain ⟨N', z', hb⟩ := h.mb
  rw [hm] at hb
  cases hb
  exact ⟨r, h.hc, h.fr, h.rel⟩
/-- The record goes into another state. -/
theorem Rel.putLoop (hR : Rel P B W0 pend s m w) {b c N z : Nat} (hm : m b = some (c, N, z)) {k : LoopK} (hg : s.get b = some (.lp k)) {r : Loop} (hc : w.heap[c]? = some (.loop r)) (hB : ¬ B c) (hL : LpR m s.dead r k) {st : Nat} {ls : LoopState}
    (hst : ls = if st = 0 then .ready else if st = 1 then .busy else .exhausted) : Rel P B W0 pend (s.put b (.lp (k.to st))) m (w.putObj c (.loop { r with state := ls })) ∧ Ext s m (s.put b (.lp (k.to st))) m := by
  have hlt : c < w.heap.size := (Array.getElem?_eq_some_iff.1 hc).1
  have hnd : ¬ s.dead b := by simp [AS.dead, hg]
  refine ⟨hR.setBlock (ob := .loop { r with state := ls }) hm hnd hB _ (by simp) (World.putObj_heap_same hlt) (fun k hk => World.putObj_heap_other hk) World.putObj_size rfl rfl ?_, Ext.put hR hnd _ (fun k' hk' => ?_)⟩
  · exact ⟨c, _, ⟨⟨_, _, hm⟩, World.putObj_heap_same hlt, hB, ⟨hst, hL.pending, hL.params, hL.assign, hL.body, hL.tm, hL.sz⟩⟩⟩
  · rw [hg] at hk'; cases hk'; exact ⟨st, rfl⟩
theorem afterRange_eq (bD bL : Nat) (vars : L) (ds : DS) (v : Value) (s : AS) : afterRange bD bL vars ds (.ret v s) = match s.get bL with
    | some (.lp k) => if k.st = 0 then Out.normal vars .nil ((markId, [.map (some bD)]) :: ds) (s.put bL (.lp (k.to 2))) else Out.fail "range: busy"
    | _ => Out.fail "range: no loop" := by
  show (match s.get bL with
    | some (.lp k) => bif' (Nat.beq k.st 0) (Out.normal vars .nil ((markId, [.map (some bD)]) :: ds) (s.put bL (.lp (k.to 2)))) (Out.fail "range: busy")
    | _ => Out.fail "range: no loop") = _
  split
  · simp only [bif', brec, Nat.beq_eq]
  · rfl
/-- A RANGE OVER A FUNCTION. -/
theorem range_ok (hG : Good P) {n : Nat} {cf : CF} (hcf : CFS P B W0 cf) {f : Operand} {ps : Array Tmp} {assign body : Code} (hR : Rel P B W0 pend s m w) (hF : FRel mask nt m s.dead vars loc ds a)
    (h : OS P B W0 pend mask nt s m (rangeK P mask nt ps.toList assign body ((opd mask f).get vars loc) cf vars ds s) Q) : (Code.rangeFunc f ps assign body).wpIn (fen none) n P Q a w := by
  have hv := opd_ok hR hF f
  generalize (opd mask f).get vars loc = v at h hv
  unfold rangeK at h
  split at h
  · rename_i g first captured
    obtain ⟨fs, cs, hfe, h1, h2⟩ := hv.func_inv
    cases hgo : isGo P g with
    | false => rw [hgo] at h; exact h.elim
    | true =>
      rw [hgo] at h
      obtain ⟨fn, c, hfn, hbody⟩ := isGo_ok hgo
      replace h : OS P B W0 pend mask nt s m (afterRange s.next (s.next + 1) vars ds (cf.call g (appK first.toList (yVal (s.next + 1) :: captured.toList)) ((s.new (.df false)).new (.lp ⟨0, vars, mask, nt, ps.toList, assign, body⟩)))) Q := h
      refine wpIn_rangeFunc ?_
      intro me _
      let rec0 : Loop := { state := .ready, pending := none, fn := me, tmps := a.tmps, params := ps, assign, body, defers := w.heap.size }
      -- the two blocks
      obtain ⟨m1, e1, r1, x1⟩ := hR.newObj (.df false) (.deferred (some [])) 0 0 (by simp) (fun m' _ hs => ⟨w.heap.size, ⟨⟨_, _, hs⟩, by simp, fun hb => Nat.lt_irrefl _ (hR.size _ hb)⟩⟩)
      have hF1 := hF.mono x1.mp x1.dead
      obtain ⟨m2, e2, r2, x2⟩ := r1.newObj (.lp ⟨0, vars, mask, nt, ps.toList, assign, body⟩) (.loop rec0) 0 0 (by simp) (fun m' hm' hs => by
        refine ⟨_, rec0, ⟨⟨_, _, hs⟩, Array.getElem?_push_size, fun hb => Nat.lt_irrefl _ (r1.size _ hb), ⟨rfl, rfl, rfl, rfl, rfl, fun t => ?_, hF.sz⟩⟩⟩
        have ht := (hF1.tm t).mono hm' (fun _ h => h)
        rw [opd_tmp] at ht ⊢
        split
        · rename_i hb; rw [if_pos hb] at ht; exact ht
        · exact .poison _)
      rw [AS.new_next] at e2
      generalize hs2 : (s.new (.df false)).new (.lp ⟨0, vars, mask, nt, ps.toList, assign, body⟩) = s2 at h r2 x2
      generalize hw2 : ({ ({ w with heap := w.heap.push (.deferred (some [])) } : World) with heap := ({ w with heap := w.heap.push (.deferred (some [])) } : World).heap.push (.loop rec0) } : World) = w2 at r2
      have hsz2 : ({ w with heap := w.heap.push (.deferred (some [])) } : World).heap.size = w.heap.size + 1 := by simp
      rw [hsz2] at e2
      have x02 : Ext s m s2 m2 := x1.trans x2
      have hl : LRel m2 s2.dead (appK first.toList (yVal (s.next + 1) :: captured.toList)) (fs ++ #[Value.func (.yield (w.heap.size + 1)) #[] #[]] ++ cs).toList := by
        rw [appK_eq, Array.toList_append, Array.toList_append, List.append_assoc]
        refine (h1.mono x02.mp x02.dead).append (LRel.cons ?_ (h2.mono x02.mp x02.dead))
        exact .yld _ _ _ _ e2
      refine ⟨w.heap.size + 1, [{ target := .collected w.heap.size, args := #[] }], w2, { target := .fn (.func g) cs, args := fs ++ #[.func (.yield (w.heap.size + 1)) #[] #[]] }, w2, g, fs ++ #[.func (.yield (w.heap.size + 1)) #[] #[]] ++ cs, w2, ?_, ?_, ?_, ?_, ?_, ?_⟩
      · rw [← hw2]; exact run_enterLoop_outer _ _ _ _ _
      · simp only [resolve, hfe]
        simp [go_sem]
      · intro f' hf'; exact trivial
      · exact callFunc_go hG hfn hbody _ _
      · intro hd; cases hd
      · rw [callsIn_fen]
        have hc := hcf.call pend s2 m2 w2 g _ _ r2 hl
        cases hr : cf.call g (appK first.toList (yVal (s.next + 1) :: captured.toList)) s2 with
        | fail _ => rw [hr] at h; exact h.elim
        | panic _ _ => rw [hr] at h; exact h.elim
        | ret v s3 =>
          rw [hr] at h hc
          refine hc _ fun m3 w3 u r3 x3 _ => ?_
          rw [afterRange_eq] at h
          split at h
          · rename_i k hk
            split at h
            · rename_i hst
              have e3 : m3 (s.next + 1) = some (w.heap.size + 1, 0, 0) := x3.mp _ _ e2
              obtain ⟨r, g1, g2, g3⟩ := r3.loopAt e3 hk
              have hready : r.state = .ready := by rw [g3.state, if_pos hst]
              obtain ⟨p1, p2⟩ := r3.putLoop e3 hk g1 g2 g3 (st := 2) (ls := .exhausted) rfl
              refine ⟨r.pending, _, run_endLoop g1 (by rw [hready]; simp), ?_⟩
              rw [g3.pending] at p1 ⊢
              have x04 := (x02.trans x3).trans p2
              refine h m3 _ _ p1 x04 ⟨fun t => ?_, hF.sz, ?_⟩
              · have ht := (hF.tm t).mono x04.mp x04.dead
                rw [opd_tmp] at ht ⊢
                split
                · rename_i hb; rw [if_pos hb] at ht; exact ht
                · exact .poison _
              · exact .mark _ w.heap.size 0 0 _ _ (x3.mp _ _ (x2.mp _ _ e1)) (hF.df.mono x04.mp x04.dead)
            · exact h.elim
          · exact h.elim
  · exact h.elim
end
end Go.Proofs.YtbbknbmmpkpgdaaGreatDoor.KAb
