import Derived.Test.YtbbknbmmpkpgdaaGreatDoorKMap
namespace Go.Proofs.YtbbknbmmpkpgdaaGreatDoor.KAb
section
variable {P : Program} {B : Nat → Prop} {W0 : World} {pend : Nat → Prop} {s : AS} {m : Mp} {w : World}

/-- A row is given up. -/
theorem Rel.kill (hR : Rel P B W0 pend s m w) {b : Nat} (hbn : b < s.next) (hnl : ∀ k, s.get b ≠ some (.lp k)) : Rel P B W0 pend (s.put b .dead) m w ∧ Ext s m (s.put b .dead) m ∧ (s.put b .dead).dead b := by
  have hd : ∀ x, (s.put b .dead).dead x ↔ (x = b ∨ s.dead x) := by
    intro x
    simp only [AS.dead, AS.get_put]
    by_cases e : x = b
    · simp [e]
    · simp [e]
  have hmono : ∀ x, s.dead x → (s.put b .dead).dead x := fun x h => (hd x).2 (.inr h)
  refine ⟨?_, ⟨fun _ _ h => h, fun _ _ => rfl, hmono, Nat.le_refl _, fun b' k hk => ⟨k.st, by rw [AS.get_put, if_neg (fun e => hnl k (by rw [← e]; exact hk))]; exact hk⟩⟩, (hd b).2 (.inl rfl)⟩
  constructor
  · intro b' o hg
    rw [AS.get_put] at hg
    split at hg
    · rename_i e; subst e; exact hbn
    · exact hR.fresh _ _ hg
  · intro b' o hg hp
    rw [AS.get_put] at hg
    split at hg
    · cases hg; trivial
    · exact (hR.live b' o hg hp).move (fun _ _ h => h) hmono (fun _ _ _ _ _ => rfl) fun _ _ _ _ _ h => h
  · exact hR.pnone
  · exact hR.plt
  · exact hR.mlt
  · intro b1 b2 c N1 z1 N2 z2 h1 h2 hd1 hd2
    exact hR.inj _ _ _ _ _ _ _ h1 h2 (fun h => hd1 (hmono _ h)) (fun h => hd2 (hmono _ h))
  · exact hR.old
  · exact hR.size
  · exact hR.os
  · exact hR.out
  · exact hR.glob
/-- A new block of the evaluator's over one of the machine's that only dead ones stand for. -/
theorem Rel.share (hR : Rel P B W0 pend s m w) {c : Nat} (hc : c < w.heap.size) (hB : ¬ B c) (hall : ∀ b N z, m b = some (c, N, z) → s.dead b) (o : AObj) (hdo : o ≠ .dead) {w' : World} (hoth : ∀ k, k ≠ c → w'.heap[k]? = w.heap[k]?)
    (hsz : w'.heap.size = w.heap.size) (hos : w'.os = w.os) (hout : w'.output = w.output) (N z : Nat)
    (ho : ∀ m' : Mp, (∀ b x, m b = some x → m' b = some x) → m' s.next = some (c, N, z) → ORel P B m' s.dead w' s.next o) :
    ∃ m', m' s.next = some (c, N, z) ∧ Rel P B W0 pend (s.new o) m' w' ∧ Ext s m (s.new o) m' := by
  have hmn : m s.next = none := by
    cases e : m s.next with
    | none => rfl
    | some x => obtain ⟨c, N, z⟩ := x; exact absurd (hR.mlt _ _ _ _ e).1 (Nat.lt_irrefl _)
  have hgn : s.get s.next = none := by
    cases e : s.get s.next with
    | none => rfl
    | some x => exact absurd (hR.fresh _ _ e) (Nat.lt_irrefl _)
  let m' : Mp := fun b => if b = s.next then some (c, N, z) else m b
  have hself : m' s.next = some (c, N, z) := by simp [m']
  have hne : ∀ b, b ≠ s.next → m' b = m b := fun b hb => by simp [m', hb]
  have hext : ∀ b x, m b = some x → m' b = some x := fun b x hx => by rw [hne b (fun e => by rw [e, hmn] at hx; cases hx)]; exact hx
  have hd : (s.new o).dead = s.dead := by
    funext x
    simp only [AS.dead, AS.get_new]
    split
    · rename_i e
      rw [e, hgn]
      simp only [Option.some.injEq, eq_iff_iff, reduceCtorEq, iff_false]
      exact hdo
    · rfl
  refine ⟨m', hself, ?_, ⟨hext, fun b hb => hne b (Nat.ne_of_lt hb), fun b hb => by rw [hd]; exact hb, by rw [AS.new_next]; omega, fun b k hk => by
    rw [AS.get_new]
    split
    · rename_i e; rw [e] at hk; exact absurd (hR.fresh _ _ hk) (Nat.lt_irrefl _)
    · exact ⟨k.st, hk⟩⟩⟩
  constructor
  · intro b o' hg
    rw [AS.get_new] at hg
    rw [AS.new_next]
    split at hg
    · rename_i e; omega
    · have := hR.fresh _ _ hg; omega
  · intro b o' hg hp
    rw [hd]
    rw [AS.get_new] at hg
    split at hg
    · rename_i e
      cases hg
      rw [e]
      exact ho m' hext hself
    · refine (hR.live b o' hg hp).move hext (fun _ h => h) (fun ho c' N' z' hm' => hoth c' fun e => ho ?_) fun _ _ _ _ _ h => h
      have := hall b _ _ (e ▸ hm')
      rw [AS.dead, hg] at this
      exact Option.some.inj this
  · intro b hp; rw [hne b (Nat.ne_of_lt (hR.plt b hp))]; exact hR.pnone b hp
  · intro b hp; rw [AS.new_next]; have := hR.plt b hp; omega
  · intro b c' N' z' hm'
    rw [AS.new_next, hsz]
    by_cases e : b = s.next
    · subst e; rw [hself] at hm'; cases hm'; exact ⟨by omega, hc⟩
    · rw [hne b e] at hm'; have := hR.mlt _ _ _ _ hm'; exact ⟨by omega, this.2⟩
  · intro b b' c' N1 z1 N2 z2 h1 h2 hd1 hd2
    rw [hd] at hd1 hd2
    by_cases e1 : b = s.next <;> by_cases e2 : b' = s.next
    · rw [e1, e2]
    · subst e1; rw [hself] at h1; rw [hne _ e2] at h2; cases h1; exact absurd (hall _ _ _ h2) hd2
    · subst e2; rw [hself] at h2; rw [hne _ e1] at h1; cases h2; exact absurd (hall _ _ _ h1) hd1
    · rw [hne _ e1] at h1; rw [hne _ e2] at h2; exact hR.inj _ _ _ _ _ _ _ h1 h2 hd1 hd2
  · intro i hi; rw [hoth i (by rintro rfl; exact hB hi)]; exact hR.old i hi
  · rw [hsz]; exact hR.size
  · rw [hos]; exact hR.os
  · rw [hout]; exact hR.out
  · intro g hg; obtain ⟨N', z', hg'⟩ := hR.glob g hg; exact ⟨N', z', hext _ _ hg'⟩

/-! append. -/
theorem noInt_yes {o : Option TypeId} (h : noInt P o = .yes) : ∃ t d, o = some t ∧ P.underlying t = some d ∧ ((∃ e, d = .slice e) ∨ d = .string) := by
  unfold noInt at h
  split at h
  · rename_i t
    split at h
    · rename_i e hd; exact ⟨t, _, rfl, hd, .inl ⟨e, rfl⟩⟩
    · rename_i hd; exact ⟨t, _, rfl, hd, .inr rfl⟩
    · cases h
  · cases h
section run
variable {argTypes : Array TypeId} {type t tx e : TypeId} {i : TypeInfo} {d : TypeDesc} {z : Value}
theorem run_app_in (ht : argTypes[0]? = some t) (hd : P.underlying t = some (.slice e)) (htx : argTypes[1]? = some tx) (hdx : P.underlying tx = some d) (hni : (∃ e, d = .slice e) ∨ d = .string) (hi : P.info? e = some i)
    {base : Option Addr} {sLen sCap n : Nat} {u : Value} {us : List Value} (hl : (Builtin.lenOf u).run P w = .ok n w) (hc : (Builtin.firstCells i.size n u).run P w = .ok us.toArray w) (hroom : sLen + n ≤ sCap) {w' : World}
    (hst : match base with | none => w' = w | some a => (storeCells (a.add (sLen * i.size)) us).run P w = .ok () w') :
    (Builtin.append_ argTypes type #[.slice base sLen sCap, u]).run P w = .ok (.slice base (sLen + n) sCap) w' := by
  cases base with
  | none =>
    simp only at hst
    subst hst
    rcases hni with ⟨e', rfl⟩ | rfl <;> simp [Builtin.append_, ht, htx, run_underlying hd, run_underlying hdx, run_size hi, hl, hc, hroom]
  | some a =>
    simp only at hst
    rcases hni with ⟨e', rfl⟩ | rfl <;> simp [Builtin.append_, ht, htx, run_underlying hd, run_underlying hdx, run_size hi, hl, hc, hroom, hst]
theorem run_app_grow (ht : argTypes[0]? = some t) (hd : P.underlying t = some (.slice e)) (htx : argTypes[1]? = some tx) (hdx : P.underlying tx = some d) (hni : (∃ e, d = .slice e) ∨ d = .string) (hi : P.info? e = some i) (hz : i.zero = some z)
    {base : Option Addr} {sLen sCap n : Nat} {u : Value} {us olds : List Value} (hl : (Builtin.lenOf u).run P w = .ok n w) (hc : (Builtin.firstCells i.size n u).run P w.drew = .ok us.toArray w.drew)
    (hold : (Builtin.firstCells i.size sLen (.slice base sLen sCap)).run P w.drew = .ok olds.toArray w.drew)
    (hg : sCap < sLen + n) (h63 : sLen + n ≤ 1000000000) (hb : i.bytes ≤ 100000) :
    (Builtin.append_ argTypes type #[.slice base sLen sCap, u]).run P w =
      .ok (.slice (some ⟨w.heap.size, 0, none⟩) (sLen + n) (grownCap w (sLen + n) sCap e))
        (w.drew.alloc (.cells ((olds ++ us).toArray ++ Builtin.zeroCells z.cells (grownCap w (sLen + n) sCap e - (sLen + n))) e)) := by
  have hn : ¬ (sLen + n ≤ sCap) := by omega
  have h63' : ¬ (9223372036854775807 < ((sLen : Int) + (n : Int))) := by omega
  have hfit : Builtin.nextslicecap (sLen + n) sCap * i.bytes ≤ 281474976710656 := growslice_fits hg (by
    have : (sLen + n) * i.bytes ≤ 1000000000 * 100000 := Nat.mul_le_mul h63 hb
    omega)
  have h48' : ¬ (281474976710656 < Builtin.nextslicecap (sLen + n) sCap * i.bytes) := by omega
  rcases hni with ⟨e', rfl⟩ | rfl <;>
      (simp [Builtin.append_, ht, htx, run_underlying hd, run_underlying hdx, sizeOf, typeInfo, zeroValue, hi, hz, hl, hn, h63', h48', Question.forced, hc, hold, newRow, grownCap]
       congr 2
       apply Array.ext'
       simp [List.append_assoc])
end run
/-- A slice grows into a new row. -/
theorem append2_av (hR : Rel P B W0 pend s m w) {argTypes : Array TypeId} {type t tx e : TypeId} {i : TypeInfo} {d : TypeDesc} {z : Value} (ht : argTypes[0]? = some t) (hd : P.underlying t = some (.slice e)) (htx : argTypes[1]? = some tx) (hdx : P.underlying tx = some d)
    (hni : (∃ e, d = .slice e) ∨ d = .string) (hi : P.info? e = some i) (hz : i.zero = some z) (hzs : z.cells.size = i.size) (hb : i.bytes ≤ 100000)
    {base : Option Addr} {sLen sCap n : Nat} {u : Value} {us olds old new : List Value} (hl : (Builtin.lenOf u).run P w = .ok n w) (hc : (Builtin.firstCells i.size n u).run P w.drew = .ok us.toArray w.drew)
    (hold : (Builtin.firstCells i.size sLen (.slice base sLen sCap)).run P w.drew = .ok olds.toArray w.drew)
    (hg : sCap < sLen + n) (h63 : sLen + n ≤ 1000000000) (ho : LRel m s.dead old olds) (hn : LRel m s.dead new us) (hlo : old.length = sLen * i.size) (hln : new.length = n * i.size) :
    AV P B W0 pend s m w (append2 s e (sLen + n) old new) (Builtin.append_ argTypes type #[.slice base sLen sCap, u]) := by
  intro v s' h
  cases h
  have hrun := run_app_grow (w := w) (type := type) ht hd htx hdx hni hi hz hl hc hold hg h63 hb
  have hcap : sLen + n ≤ grownCap w (sLen + n) sCap e := by simp only [grownCap, Question.cut]; omega
  have hRd := hR.drawn (w.drawn + 1)
  have hlr : LRel m s.dead (old ++ new) (olds ++ us) := ho.append hn
  obtain ⟨m', g1, g2, g3⟩ := hRd.newRow (old ++ new) ((olds ++ us).toArray ++ Builtin.zeroCells z.cells (grownCap w (sLen + n) sCap e - (sLen + n))) e (by
    have hlen : (old ++ new).length = (olds ++ us).length := hlr.1
    rw [Array.toList_append, List.toList_toArray, hlen, List.take_append_of_le_length (Nat.le_refl _), List.take_length]
    exact hlr)
  refine ⟨m', _, _, hrun, by rw [appK_eq]; exact g2, by rw [appK_eq]; exact g3, ?_⟩
  have hN : ((olds ++ us).toArray ++ Builtin.zeroCells z.cells (grownCap w (sLen + n) sCap e - (sLen + n))).size = grownCap w (sLen + n) sCap e * i.size := by
    have h1 := ho.1
    have h2 := hn.1
    have h3 : grownCap w (sLen + n) sCap e * i.size = (sLen + n) * i.size + (grownCap w (sLen + n) sCap e - (sLen + n)) * i.size := by
      rw [← Nat.add_mul]; congr 1; omega
    rw [h3, Nat.add_mul, Array.size_append, size_zeroCells, hzs]
    simp; omega
  have hcz : P.cellsOf e = i.size := by simp [Program.cellsOf, hi]
  exact .slice _ _ _ _ _ _ _ _ g1 (fun h => by rw [show Nat.add (Nat.mul 2 (sLen + n)) 1 = 2 * (sLen + n) + 1 from rfl, exact21] at h; cases h)
    (by rw [show Nat.add (Nat.mul 2 (sLen + n)) 1 = 2 * (sLen + n) + 1 from rfl, half21]; exact hcap) (fun _ => by rw [hN, hcz]; omega)
theorem append_av (hR : Rel P B W0 pend s m w) {argTypes : Array TypeId} {type t e : TypeId} {size : Nat} {z : List Value} (ht : argTypes[0]? = some t) (he : sliceElem P t = some e) (hel : elemOk P e = .ok size z) (hni : noInt P argTypes[1]? = .yes)
    {d x du xu : Value} (hd : VRel m s.dead d du) (hx : VRel m s.dead x xu) :
    AV P B W0 pend s m w (appendV size e d x s) (Builtin.append_ argTypes type #[du, xu]) := by
  intro v s' h
  obtain ⟨i, zv, hi, hz, hfl, rfl, rfl, hsz, hb, h1⟩ := elemOk_ok hel
  obtain ⟨tx, dx, htx, hdx, hni'⟩ := noInt_yes hni
  have hu := sliceElem_some he
  have hcz : P.cellsOf e = i.size := by simp [Program.cellsOf, hi]
  unfold appendV at h
  split at h
  · rename_i base len code
    split at h
    · cases h
    · rename_i n hn
      split at h
      · cases h
      · rename_i new hnew
        obtain ⟨us, k1, k2, k3, k4⟩ := srcCells hR hx hn (Nat.le_refl _) hnew
        have hform : ∃ b' cap, du = .slice b' len cap ∧ half code ≤ cap ∧ (exactB code = true → cap = half code) ∧ (base = none → b' = none) ∧ (∀ a, base = some a → ∃ y, b' = some y) := by
          cases base with
          | none => obtain ⟨rfl, rfl, rfl⟩ := hd.snil_inv; exact ⟨none, 0, rfl, Nat.le_refl _, fun _ => rfl, fun _ => rfl, fun _ h => by cases h⟩
          | some a =>
            rcases hd.slice_inv with ⟨b', o', c, N, z, cap, rfl, rfl, _, he, hl, _⟩ | ⟨y', rfl, rfl, hh⟩ | ⟨_, y', cap, rfl, he, hl⟩
            · exact ⟨_, _, rfl, hl, he, (fun h => by cases h), fun _ _ => ⟨_, rfl⟩⟩
            · exact ⟨_, _, rfl, by omega, fun _ => hh.symm, (fun h => by cases h), fun _ _ => ⟨_, rfl⟩⟩
            · exact ⟨_, _, rfl, hl, he, (fun h => by cases h), fun _ _ => ⟨_, rfl⟩⟩
        obtain ⟨b', cap, rfl, hcl, hce, hbn, hbs⟩ := hform
        unfold append0 at h
        simp only [bif', brec, Nat.ble_eq] at h
        split at h
        · rename_i hroom
          have hroom2 : len + n ≤ half code := hroom
          have hroom' : len + n ≤ cap := Nat.le_trans hroom hcl
          have same : n = 0 → ∃ m' w' u, (Builtin.append_ argTypes type #[.slice b' len cap, xu]).run P w = .ok u w' ∧ Rel P B W0 pend s m' w' ∧ Ext s m s m' ∧ VRel m' s.dead (.slice base (len + n) code) u := by
            intro h0
            subst h0
            have hus : us = [] := List.eq_nil_of_length_eq_zero (by rw [← k1.1, k2]; simp)
            refine ⟨m, w, _, run_app_in ht hu htx hdx hni' hi (k3 w) (k4 w rfl) hroom' (w' := w) ?_, hR, Ext.refl _ _, hd⟩
            subst hus
            cases b' <;> simp [storeCells]
          split at h
          · cases h
            obtain ⟨e1, e2, e3⟩ := hd.snil_inv
            exact same (by
              have h0 : half code = 0 := by rw [e3]; rfl
              have h1 : len + n ≤ half code := hroom
              omega)
          · rename_i b off
            simp only [Nat.beq_eq] at h
            split at h
            · rename_i h0
              cases h
              exact same h0
            · rename_i hn0
              split at h
              · rename_i s1 hwr
                cases h
                have hg : ∃ ds el ro, s.get b = some (.row ds el ro) := by
                  rw [wr_eq] at hwr
                  split at hwr
                  · rename_i ds el hg; exact ⟨ds, el, _, hg⟩
                  · cases hwr
                obtain ⟨ds, el, ro, hg⟩ := hg
                rcases hd.slice_inv with ⟨b1, o1, c, N, z1, cap1, e1, e2, hm, hex, hl, hN⟩ | ⟨y, e0, e2, hh⟩ | ⟨hdd, _⟩
                · cases e1; cases e2
                  obtain ⟨c', w', e1, g1, g2, g3⟩ := hR.write hwr (.ptr b (off + len * i.size) c N z1 hm) k1
                  cases e1
                  refine ⟨m, w', _, run_app_in ht hu htx hdx hni' hi (k3 w) (k4 w rfl) hroom' (w' := w') ?_, g2, g3, ?_⟩
                  · simp only [Addr.add_lit]; exact g1
                  · exact g3.vrel (.slice _ _ _ _ _ _ _ _ hm hex hl hN)
                · omega
                · simp only [AS.dead] at hdd; rw [hdd] at hg; cases hg
              · cases h
          · cases h
        · rename_i hroom
          have hroom2 : ¬ len + n ≤ half code := hroom
          split at h
          · rename_i hle
            have hle' : len + n ≤ 1000000000 := hle
            split at h
            · cases h
            · rename_i old hold
              obtain ⟨olds, o1, o2, _, o4⟩ := srcCells hR hd (show lenV (.slice base len code) = some len from rfl) (Nat.le_refl _) hold
              have grow : cap < len + n → ∀ s1, Rel P B W0 pend s1 m w → Ext s m s1 m → ∀ v s', append2 s1 e (len + n) old new = .val v s' → ∃ m' w' u, (Builtin.append_ argTypes type #[.slice b' len cap, xu]).run P w = .ok u w' ∧ Rel P B W0 pend s' m' w' ∧ Ext s m s' m' ∧ VRel m' s'.dead v u := by
                intro hcap s1 hR1 hE v s' h
                obtain ⟨m', w', u, a1, a2, a3, a4⟩ := append2_av (type := type) hR1 ht hu htx hdx hni' hi hz hsz hb (k3 w) (k4 w.drew rfl) (o4 w.drew rfl) hcap hle' (hE.lrel o1) (hE.lrel k1) o2 k2 v s' h
                exact ⟨m', w', u, a1, a2, hE.trans a3, a4⟩
              unfold append1 at h
              split at h
              · obtain ⟨e1, e2, e3⟩ := hd.snil_inv
                simp only [Value.slice.injEq] at e1
                exact grow (by have : half code = 0 := by rw [e3]; rfl
                               omega) s hR (Ext.refl _ _) v s' h
              · rename_i a
                simp only [bif', brec] at h
                split at h
                · rename_i hex
                  exact grow (by rw [hce hex]; omega) s hR (Ext.refl _ _) v s' h
                · rename_i hex
                  split at h
                  · rename_i cells el hg
                    by_cases hcond : (if Nat.beq a.off 0 = true then (if Nat.beq el e = true then allK scal new else false) else false) = true
                    · rw [if_pos hcond] at h
                      have hoff : a.off = 0 ∧ el = e ∧ allK scal new = true := by
                        split at hcond
                        · rename_i h0
                          split at hcond
                          · rename_i h1; exact ⟨Nat.eq_of_beq_eq_true h0, Nat.eq_of_beq_eq_true h1, hcond⟩
                          · cases hcond
                        · cases hcond
                      obtain ⟨hoff, rfl, hsc⟩ := hoff
                      have hbnx := hR.fresh _ _ hg
                      have hnd : ¬ s.dead a.block := by simp [AS.dead, hg]
                      obtain ⟨hK, hKE, hKd⟩ := hR.kill hbnx (fun k hk => by rw [hg] at hk; cases hk)
                      by_cases hcap : cap < len + n
                      · exact grow hcap _ hK hKE v s' h
                      · cases h
                        rcases hd.slice_inv with ⟨b1, o1', c, N, z1, cap1, e1, e2, hm, hex', hl, hN⟩ | ⟨y, e0, e2, hh⟩ | ⟨hdd, _⟩
                        · cases e1; cases e2
                          simp only at hoff hg hbnx hnd hK hKE hKd
                          subst hoff
                          obtain ⟨c', C, fz, r⟩ := hR.live _ _ hg (hR.not_pend hm)
                          have hmb := r.mb
                          rw [hm] at hmb
                          obtain ⟨rfl, rfl, rfl⟩ : c = c' ∧ N = C.size ∧ z1 = P.cellsOf el := by simpa using hmb
                          obtain ⟨rfl, hBc⟩ := r.fr rfl
                          have hN' : cap * i.size ≤ C.size := by
                            have := hN (by simpa using hex)
                            rw [hcz] at this; omega
                          have hfit : len * i.size + n * i.size ≤ C.size := by
                            have : (len + n) * i.size ≤ cap * i.size := Nat.mul_le_mul_right _ (by omega)
                            rw [Nat.add_mul] at this; omega
                          have hul : us.length = n * i.size := by rw [← k1.1, k2]
                          have hone : ∀ u ∈ us, u.oneCell' = true := k1.scal (by rw [← allK_eq]; exact hsc)
                          have hst := run_storeCells_at P c (len * i.size) el us 0 C w r.hc (by rw [hul]; exact hfit) hone
                          have hold' : old = cells.take (len * i.size) := by
                            simp only [cellsV, bif', brec, Nat.beq_eq] at hold
                            split at hold
                            · rename_i h0; cases hold; rw [h0]; simp
                            · rw [rd_eq, hg] at hold
                              simp only [Nat.zero_add, List.drop_zero] at hold
                              split at hold
                              · cases hold; rfl
                              · cases hold
                          have hctl : old.length ≤ cells.length := by rw [hold', List.length_take]; omega
                          have hrel : LRel m s.dead old (C.toList.take (len * i.size)) := by
                            have h1 := r.rel.take (len * i.size)
                            rw [List.take_take, Nat.min_eq_left (by rw [o2] at hctl; exact hctl)] at h1
                            rw [hold']; exact h1
                          have hC' : ((C.toList.take (len * i.size + 0) ++ us ++ C.toList.drop (len * i.size + 0 + us.length)).toArray).size = C.size := by
                            simp; omega
                          obtain ⟨m', g1, g2, g3⟩ := hK.share (c := c) (hR.mlt _ _ _ _ hm).2 hBc (fun b2 N2 z2 h2 => by
                              by_cases hdb : s.dead b2
                              · exact hKE.dead _ hdb
                              · rw [hR.inj _ _ _ _ _ _ _ h2 hm hdb hnd]; exact hKd)
                            (.row (old ++ new) el false) (by simp)
                            (w' := w.setRow c (C.toList.take (len * i.size + 0) ++ us ++ C.toList.drop (len * i.size + 0 + us.length)).toArray)
                            (fun k hk => setRow_other w c k _ hk) (by simp) rfl rfl C.size (P.cellsOf el) (fun m' hm' hs => by
                              refine ⟨c, _, (0, 0), by rw [hC']; exact hs, setRow_heap w c C _ el _ r.hc, fun _ => ⟨rfl, hBc⟩, ?_⟩
                              have hb := ((hrel.append k1).mono (fun _ _ h => h) hKE.dead).mono hm' (fun _ h => h)
                              have e : (((C.toList.take (len * i.size + 0) ++ us ++ C.toList.drop (len * i.size + 0 + us.length)).toArray.toList).take (old ++ new).length) = C.toList.take (len * i.size) ++ us := by
                                rw [List.toList_toArray]
                                simp only [Nat.add_zero]
                                rw [List.take_append_of_le_length (by simp; omega), List.take_of_length_le (by simp; omega)]
                              rw [e]; exact hb)
                          refine ⟨m', _, _, run_app_in ht hu htx hdx hni' hi (k3 w) (k4 w rfl) (by omega) (w' := w.setRow c (C.toList.take (len * i.size + 0) ++ us ++ C.toList.drop (len * i.size + 0 + us.length)).toArray) ?_, by rw [appK_eq]; exact g2, by rw [appK_eq]; exact hKE.trans g3, ?_⟩
                          · simp only [Addr.add_lit, Nat.zero_add]; exact hst
                          · exact .slice _ _ _ _ _ _ _ _ g1 (fun h => by have h : exactB (2 * (len + n) + 1) = true := h; rw [exact21] at h; cases h)
                              (by show half (2 * (len + n) + 1) ≤ cap; rw [half21]; omega) (fun _ => by rw [hcz]; omega)
                        · simp only [Value.slice.injEq] at e0; omega
                        · simp only [AS.dead] at hdd; rw [hdd] at hg; cases hg
                    · rw [if_neg hcond] at h; cases h
                  · cases h
          · cases h
  · cases h
end
end Go.Proofs.YtbbknbmmpkpgdaaGreatDoor.KAb
